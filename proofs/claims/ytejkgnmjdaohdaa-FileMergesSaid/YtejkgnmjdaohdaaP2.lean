/-
  Texts of this seat, laid together. No statement of the seat stands here.
-/
import Derived.RangeFuncIn
import Derived.OrdersIn
import Derived.Test.YtejkgnmjdaohdaaP1
set_option linter.unusedSectionVars false
namespace Go.An
open Go
section
variable {P : Program} {b0 : Nat} {ρ : Ren} {H : Hp} {W : World}
theorem keyOk_spec {kt : TypeId} {k : V} (h : keyOk P kt k = true) : ∃ ks, flatT P 8 kt = some ks ∧ ckOks ks k.cells = true ∧ szOf P kt = some ks.length ∧
  ((aggT P kt = some true ∧ ∃ cs, k = .agg cs) ∨ (aggT P kt = some false ∧ ∀ cs, k ≠ .agg cs)) := by
 unfold keyOk at h
 split at h
 ·rename_i ks hk
  simp only [Bool.and_eq_true, beq_iff_eq] at h
  obtain ⟨⟨h1, h2⟩, h3⟩ := h
  refine ⟨ks, hk, h1, h2, ?_⟩
  split at h3
  ·rename_i ha; exact .inl ⟨ha, _, rfl⟩
  ·cases h3
  ·rename_i ha hn; exact .inr ⟨ha, fun cs e => hn cs e⟩
  ·cases h3
 ·cases h
theorem key_eq {kt : TypeId} {k k' : V} (h1 : keyOk P kt k = true) (h2 : keyOk P kt k' = true) : eqV P kt k k' = some (eqCells k.cells k'.cells) := by
 obtain ⟨ks, hk, c1, hs, sh1⟩ := keyOk_spec h1
 obtain ⟨ks', hk', c2, _, sh2⟩ := keyOk_spec h2
 rw [hk] at hk'
 injection hk' with hk'
 subst hk'
 rcases sh1 with ⟨ha, cs, rfl⟩ | ⟨ha, hn1⟩
 ·rcases sh2 with ⟨_, cs', rfl⟩ | ⟨hb, _⟩
  ·simp only [V.cells] at c1 c2 ⊢
   simp [eqV, hk, c1, c2, ha, hs]
  ·rw [ha] at hb; cases hb
 ·rcases sh2 with ⟨hb, _⟩ | ⟨_, hn2⟩
  ·rw [ha] at hb; cases hb
  ·have e1 : k.cells = [k] := by cases k <;> first | rfl | exact absurd rfl (hn1 _)
   have e2 : k'.cells = [k'] := by cases k' <;> first | rfl | exact absurd rfl (hn2 _)
   rw [e1] at c1
   rw [e2] at c2
   rw [e1, e2]
   have l1 := ckOks_length c1
   obtain ⟨q, rfl⟩ : ∃ q, ks = [q] := by
    cases ks with
    | nil => simp at l1
    | cons q r => cases r with
     | nil => exact ⟨q, rfl⟩
     | cons => simp at l1
   simp only [ckOks, Bool.and_true] at c1 c2
   have hu : (∀ kk, q = .int kk → P.underlying kt = some (.int kk)) ∧ (q = .str → P.underlying kt = some .string) ∧ (q = .bool → P.underlying kt = some .bool) := by
    simp only [flatT] at hk
    split at hk
    ·rename_i kk hu; simp at hk; subst hk; exact ⟨fun kk' e => (by injection e with e; rw [hu, e]), fun e => (by cases e), fun e => (by cases e)⟩
    ·rename_i hu; simp at hk; subst hk; exact ⟨fun kk' e => (by cases e), fun e => hu, fun e => (by cases e)⟩
    ·rename_i hu; simp at hk; subst hk; exact ⟨fun kk' e => (by cases e), fun e => (by cases e), fun e => hu⟩
    ·rename_i hu; simp [aggT, hu] at ha
    ·rename_i hu; simp [aggT, hu] at ha
    ·cases hk
   cases q with
   | int kk =>
    cases k <;> simp [ckOk] at c1
    cases k' <;> simp [ckOk] at c2
    subst c1 c2
    simp [eqV, hu.1 _ rfl, eqCells, eqCell]
   | str =>
    cases k <;> simp [ckOk] at c1
    cases k' <;> simp [ckOk] at c2
    simp [eqV, hu.2.1 rfl, eqCells, eqCell]
   | bool =>
    cases k <;> simp [ckOk] at c1
    cases k' <;> simp [ckOk] at c2
    simp [eqV, hu.2.2 rfl, eqCells, eqCell]
theorem eqCells_eq : ∀ {ks : List CK} {x y : List V}, ckOks ks x = true → ckOks ks y = true → eqCells x y = true → x = y
 | [], [], [], _, _, _ => rfl
 | k :: ks, a :: x, b :: y, h1, h2, h => by
  simp only [ckOks, Bool.and_eq_true] at h1 h2
  simp only [eqCells, Bool.and_eq_true] at h
  rw [eqCells_eq h1.2 h2.2 h.2]
  congr 1
  cases k <;> cases a <;> simp [ckOk] at h1 <;> cases b <;> simp [ckOk] at h2 <;> simp [eqCell] at h
  ·obtain ⟨rfl, _⟩ := h1; obtain ⟨rfl, _⟩ := h2; rw [h.1]
  ·rw [h.1]
  ·rw [h.1]
 | [], _ :: _, _, h, _, _ => by simp [ckOks] at h
 | [], [], _ :: _, _, h, _ => by simp [ckOks] at h
 | _ :: _, [], _, h, _, _ => by simp [ckOks] at h
 | _ :: _, _ :: _, [], _, h, _ => by simp [ckOks] at h
theorem cells_same : ∀ {ks : List CK} {x : List V} {u u' : List Value}, ckOks ks x = true → VL (VC ρ) x u → VL (VC ρ) x u' → u = u' ∧ ∀ w ∈ u, ∀ n, Instr.sameBits n w w = true
 | [], [], [], [], _, _, _ => ⟨rfl, by simp⟩
 | k :: ks, a :: x, b :: u, b' :: u', h, h1, h2 => by
  simp only [ckOks, Bool.and_eq_true] at h
  obtain ⟨e, r⟩ := cells_same h.2 h1.2 h2.2
  have q : b = b' ∧ ∀ n, Instr.sameBits n b b = true := by
   cases k <;> cases a <;> simp [ckOk] at h
   ·obtain rfl : b = _ := h1.1; obtain rfl : b' = _ := h2.1; exact ⟨rfl, fun n => (by cases n <;> simp [Instr.sameBits])⟩
   ·obtain rfl : b = _ := h1.1; obtain rfl : b' = _ := h2.1; exact ⟨rfl, fun n => (by cases n <;> simp [Instr.sameBits, beq_toListBytes])⟩
   ·obtain rfl : b = _ := h1.1; obtain rfl : b' = _ := h2.1; exact ⟨rfl, fun n => (by cases n <;> simp [Instr.sameBits])⟩
  obtain ⟨rfl, q⟩ := q
  exact ⟨by rw [e], by simp; exact ⟨q, r⟩⟩
 | [], [], _ :: _, _, _, h, _ => h.elim
 | [], [], [], _ :: _, _, _, h => h.elim
 | [], _ :: _, _, _, h, _, _ => by simp [ckOks] at h
 | _ :: _, [], _, _, h, _, _ => by simp [ckOks] at h
 | _ :: _, _ :: _, [], _, _, h, _ => h.elim
 | _ :: _, _ :: _, _ :: _, [], _, _, h => h.elim
theorem zip_self' : ∀ l : List Value, l.zip l = l.map fun x => (x, x)
 | [] => rfl
 | x :: l => by simp [zip_self' l]
theorem key_same {kt : TypeId} {k k' : V} {u u' : Value} (h1 : keyOk P kt k = true) (h2 : keyOk P kt k' = true) (r1 : VA ρ k u) (r2 : VA ρ k' u') (h : eqCells k.cells k'.cells = true) : k = k' ∧ u = u' ∧ Instr.sameBits 10000 u u' = true := by
 obtain ⟨ks, hk, c1, hs, sh1⟩ := keyOk_spec h1
 obtain ⟨ks', hk', c2, _, sh2⟩ := keyOk_spec h2
 rw [hk] at hk'
 injection hk' with hk'
 subst hk'
 have hcells := eqCells_eq c1 c2 h
 rcases sh1 with ⟨ha, cs, rfl⟩ | ⟨ha, hn1⟩
 ·rcases sh2 with ⟨_, cs', rfl⟩ | ⟨hb, _⟩
  ·simp only [V.cells] at hcells c1
   subst hcells
   obtain ⟨a, rfl, ra⟩ := r1
   obtain ⟨b, rfl, rb⟩ := r2
   obtain ⟨e, q⟩ := cells_same c1 ra rb
   have : a = b := Array.ext' e
   subst this
   refine ⟨rfl, rfl, ?_⟩
   show Instr.sameBits (9999 + 1) (.agg a) (.agg a) = true
   simp only [Instr.sameBits, beq_self_eq_true, Bool.true_and, List.all_eq_true]
   intro p hp
   rw [zip_self'] at hp
   obtain ⟨w, hw, rfl⟩ := List.mem_map.1 hp
   exact q w hw 9999
  ·rw [ha] at hb; cases hb
 ·rcases sh2 with ⟨hb, _⟩ | ⟨_, hn2⟩
  ·rw [ha] at hb; cases hb
  ·have e1 : k.cells = [k] := by cases k <;> first | rfl | exact absurd rfl (hn1 _)
   have e2 : k'.cells = [k'] := by cases k' <;> first | rfl | exact absurd rfl (hn2 _)
   rw [e1, e2] at hcells
   injection hcells with hcells _
   subst hcells
   rw [e1] at c1
   have ra : VC ρ k u := by cases k <;> first | exact r1 | exact absurd rfl (hn1 _)
   have rb : VC ρ k u' := by cases k <;> first | exact r2 | exact absurd rfl (hn1 _)
   obtain ⟨e, q⟩ := cells_same (u := [u]) (u' := [u']) c1 ⟨ra, trivial⟩ ⟨rb, trivial⟩
   injection e with e _
   subst e
   exact ⟨rfl, rfl, q u (by simp) 10000⟩
def CheckSays (P : Program) (ρ : Ren) (W : World) (D : Nat) (t : TypeId) (ks : List CK) : Prop :=
 ∀ (em : Bool) (X : Array Value) (xs : List V) (off : Nat), VL (VC ρ) xs X.toList → off + ks.length ≤ xs.length → szOf P t = some ks.length → ckOks ks ((xs.drop off).take ks.length) = true →
  ∃ a, (part t X off).run P W = .ok a W ∧ (Instr.checkKey em D t a).run P W = .ok () W
theorem fields_check {flat : TypeId → Option (List CK)} {D : Nat} (em : Bool) (hflat : ∀ t ks, flat t = some ks → CheckSays P ρ W D t ks) {X : Array Value} {xs : List V} (hx : VL (VC ρ) xs X.toList) :
  ∀ (fs : List Field) (acc ks : List CK), flatFields P flat fs acc = some ks → ckOks ks xs = true →
   (forIn (m := Sem) fs PUnit.unit fun f _ => do
    if f.name ≠ "_" then do
     Instr.checkKey em D f.type (← part f.type X f.offset)
     pure (ForInStep.yield PUnit.unit)
    else pure (ForInStep.yield PUnit.unit)).run P W = .ok PUnit.unit W
 | [], _, _, _, _ => by simp
 | f :: fs, acc, ks, h, h1 => by
  simp only [flatFields] at h
  cases hk : flat f.type with
  | none => rw [hk] at h; cases h
  | some kf =>
   rw [hk] at h
   simp only [Option.bind_some] at h
   split at h
   ·rename_i hc
    obtain ⟨hn, ho, hs⟩ := hc
    obtain ⟨r, hr⟩ := flatFields_append h
    have l1 := ckOks_length h1
    have lk : ks.length = acc.length + kf.length + r.length := by rw [hr]; simp; omega
    have c1 : ckOks kf ((xs.drop acc.length).take kf.length) = true := by
     rw [hr, List.append_assoc] at h1
     exact (ckOks_append (ckOks_append h1).2).1
    obtain ⟨a, e1, e2⟩ := hflat _ _ hk em X xs acc.length hx (by omega) hs c1
    have ih := fields_check em hflat hx fs (acc ++ kf) ks h h1
    simp only [List.forIn_cons, if_pos hn, Sem.run_bind, ho, e1, e2, Result.andThen_ok, Sem.run_pure]
    exact ih
   ·cases h
theorem elems_check {D : Nat} {e : TypeId} {kf : List CK} (em : Bool) (hflat : CheckSays P ρ W D e kf) (hs : szOf P e = some kf.length) {X : Array Value} {xs : List V} (hx : VL (VC ρ) xs X.toList) :
  ∀ (m i : Nat), xs.length = (i + m) * kf.length → ckOks (repeatK kf m) (xs.drop (i * kf.length)) = true →
   (forIn (m := Sem) (List.range' i m 1) PUnit.unit fun i _ => do
    Instr.checkKey em D e (← part e X (i * (← sizeOf e)))
    pure (ForInStep.yield PUnit.unit)).run P W = .ok PUnit.unit W
 | 0, i, _, _ => by simp
 | m + 1, i, h1, c1 => by
  simp only [repeatK] at c1
  obtain ⟨a1, b1⟩ := ckOks_append c1
  have e0 : (i + (m + 1)) * kf.length = i * kf.length + kf.length + m * kf.length := by rw [Nat.add_mul, Nat.succ_mul]; omega
  obtain ⟨a, e1, e2⟩ := hflat em X xs (i * kf.length) hx (by omega) hs a1
  have e4 : (i + 1) * kf.length = i * kf.length + kf.length := Nat.succ_mul _ _
  have ih := elems_check em hflat hs hx m (i + 1) (by rw [h1]; congr 1; omega) (by rw [e4, ← List.drop_drop]; exact b1)
  simp only [List.range'_succ, List.forIn_cons, Sem.run_bind, run_szOf hs, e1, e2, Result.andThen_ok, Sem.run_pure]
  exact ih
theorem flat_check : ∀ (d : Nat) (t : TypeId) (ks : List CK), flatT P d t = some ks → ∀ D, d ≤ D → CheckSays P ρ W D t ks
 | 0, t, ks, h => by simp [flatT] at h
 | d + 1, t, ks, h => by
  intro D hD em X xs off hx l1 hs c1
  obtain ⟨D, rfl⟩ : ∃ D', D = D' + 1 := ⟨D - 1, by omega⟩
  have ihd : ∀ t' ks', flatT P d t' = some ks' → CheckSays P ρ W D t' ks' := fun t' ks' h' => flat_check d t' ks' h' D (by omega)
  have scalar : ∀ (k : CK), aggT P t = some false → ks = [k] → ∃ u, (part t X off).run P W = .ok u W := by
   intro k ha hk
   subst hk
   simp only [List.length_singleton] at l1
   obtain ⟨u, hu, ru⟩ := hx.get off (List.getElem?_eq_getElem (by omega))
   have hu' : X[off]? = some u := by simpa using hu
   exact ⟨u, by simp [part, run_aggT ha, hu']⟩
  have agg : aggT P t = some true → (part t X off).run P W = .ok (.agg (X.extract off (off + ks.length))) W ∧ VL (VC ρ) ((xs.drop off).take ks.length) (X.extract off (off + ks.length)).toList := by
   intro ha
   refine ⟨by simp [part, run_aggT ha, run_szOf hs], ?_⟩
   simpa [Array.toList_extract, List.extract_eq_take_drop] using (hx.drop off).take ks.length
  simp only [flatT] at h
  split at h
  ·rename_i k hu
   simp only [Option.some.injEq] at h
   obtain ⟨u, hp⟩ := scalar _ (by simp [aggT, hu]) h.symm
   exact ⟨u, hp, by simp [Instr.checkKey, run_underlying hu]⟩
  ·rename_i hu
   simp only [Option.some.injEq] at h
   obtain ⟨u, hp⟩ := scalar _ (by simp [aggT, hu]) h.symm
   exact ⟨u, hp, by simp [Instr.checkKey, run_underlying hu]⟩
  ·rename_i hu
   simp only [Option.some.injEq] at h
   obtain ⟨u, hp⟩ := scalar _ (by simp [aggT, hu]) h.symm
   exact ⟨u, hp, by simp [Instr.checkKey, run_underlying hu]⟩
  ·rename_i fs hu
   split at h
   ·cases h
   ·obtain ⟨p1, v1⟩ := agg (by simp [aggT, hu])
    refine ⟨_, p1, ?_⟩
    have := fields_check em ihd v1 fs.toList [] ks h c1
    simp only [Instr.checkKey, Sem.run_bind, run_underlying hu, Result.andThen_ok]
    rw [← Array.forIn_toList]
    first | exact this | (rw [this]; rfl)
  ·rename_i n e hu
   cases hk : flatT P d e with
   | none => rw [hk] at h; cases h
   | some kf =>
    rw [hk] at h
    simp only [Option.bind_some] at h
    split at h
    ·rename_i hse
     simp only [Option.some.injEq] at h
     subst h
     obtain ⟨p1, v1⟩ := agg (by simp [aggT, hu])
     refine ⟨_, p1, ?_⟩
     have := elems_check em (ihd _ _ hk) hse v1 n 0 (by rw [← ckOks_length c1, repeatK_length]; simp) (by simpa using c1)
     simp only [Instr.checkKey, Sem.run_bind, run_underlying hu, Result.andThen_ok, Std.Legacy.Range.forIn_eq_forIn_range', Std.Legacy.Range.size, Nat.sub_zero, Nat.add_sub_cancel, Nat.div_one]
     rw [this]
     rfl
    ·cases h
  ·cases h
end
end Go.An
namespace Go.An
open Go
section
variable {P : Program} {b0 : Nat} {ρ : Ren} {H : Hp} {W : World}
theorem ck_int (W : World) (d : Nat) (em : Bool) {kt : TypeId} {k : IntKind} (hu : P.underlying kt = some (.int k)) (u : Value) : (Instr.checkKey em (d + 1) kt u).run P W = .ok () W := by
 simp [Instr.checkKey, run_underlying hu]
theorem ck_str (W : World) (d : Nat) (em : Bool) {kt : TypeId} (hu : P.underlying kt = some .string) (u : Value) : (Instr.checkKey em (d + 1) kt u).run P W = .ok () W := by
 simp [Instr.checkKey, run_underlying hu]
theorem ck_bool (W : World) (d : Nat) (em : Bool) {kt : TypeId} (hu : P.underlying kt = some .bool) (u : Value) : (Instr.checkKey em (d + 1) kt u).run P W = .ok () W := by
 simp [Instr.checkKey, run_underlying hu]
theorem checkKey_run {kt : TypeId} {k : V} {u : Value} (em : Bool) (hk : keyOk P kt k = true) (hu : VA ρ k u) (W : World) : (Instr.checkKey em 10000 kt u).run P W = .ok () W := by
 obtain ⟨ks, hf, c1, hs, sh⟩ := keyOk_spec hk
 rcases sh with ⟨ha, cs, rfl⟩ | ⟨ha, hn⟩
 ·obtain ⟨X, rfl, hX⟩ := hu
  simp only [V.cells] at c1
  have l1 := ckOks_length c1
  have f1 : (cs.drop 0).take ks.length = cs := by rw [l1]; simp
  obtain ⟨a, e1, e2⟩ := flat_check (P := P) (ρ := ρ) (W := W) 8 kt ks hf 10000 (by omega) em X cs 0 hX (by omega) hs (by rw [f1]; exact c1)
  have sX : X.size = ks.length := by rw [l1]; simpa using hX.length.symm
  have g1 : (part kt X 0).run P W = .ok (.agg X) W := by
   have : X.extract 0 ks.length = X := by rw [← sX]; simp
   simp [part, run_aggT ha, run_szOf hs, this]
  rw [g1] at e1
  injection e1 with e1 _
  subst e1
  exact e2
 ·simp only [flatT] at hf
  split at hf
  ·rename_i hu; exact ck_int W 9999 em hu u
  ·rename_i hu; exact ck_str W 9999 em hu u
  ·rename_i hu; exact ck_bool W 9999 em hu u
  ·rename_i hu; simp [aggT, hu] at ha
  ·rename_i hu; simp [aggT, hu] at ha
  ·cases hf
def findC (es : List (V × V)) (k : V) (i : Nat) : Option Nat := match es with
 | [] => none
 | e :: es => if eqCells e.1.cells k.cells = true then some i else findC es k (i + 1)
theorem findC_eq (k : V) : ∀ (es : List (V × V)) (i : Nat), findC es k i = (findM es k).map (· + i)
 | [], i => rfl
 | e :: es, i => by
  unfold findM
  rw [List.findIdx?_cons]
  simp only [findC]
  split
  ·simp
  ·rw [findC_eq k es (i + 1)]
   unfold findM
   rw [Option.map_map]
   congr 1
   funext j
   simp
   omega
def EntRel (P : Program) (ρ : Ren) (kt : TypeId) : List (V × V) → List MapEntry → Prop
 | [], [] => True
 | e :: es, m :: ms => (VA ρ e.1 m.key ∧ VA ρ e.2 m.val ∧ keyOk P kt e.1 = true) ∧ EntRel P ρ kt es ms
 | _, _ => False
theorem EntsRel.list {kt : TypeId} {es : List (V × V)} {ents : Array MapEntry} {clk : Nat} (h : EntsRel P ρ kt es ents clk) : EntRel P ρ kt es ents.toList := by
 have hs : es.length = ents.toList.length := by simpa using h.size
 have ha : ∀ (i : Nat) (e : V × V), es[i]? = some e → ∃ m, ents.toList[i]? = some m ∧ VA ρ e.1 m.key ∧ VA ρ e.2 m.val ∧ keyOk P kt e.1 = true := by
  intro i e he
  obtain ⟨m, h1, h2, h3, h4, _⟩ := h.at_ i e he
  exact ⟨m, by simpa using h1, h2, h3, h4⟩
 generalize ents.toList = ms at hs ha
 clear h
 induction es generalizing ms with
 | nil => cases ms with
  | nil => trivial
  | cons => simp at hs
 | cons e es ih => cases ms with
  | nil => simp at hs
  | cons m ms =>
   obtain ⟨m', h1, h2⟩ := ha 0 e rfl
   simp at h1
   subst h1
   exact ⟨h2, ih ms (by simpa using hs) fun i e' he' => by simpa using ha (i + 1) e' (by simpa using he')⟩
theorem eqCells_comm : ∀ x y : List V, eqCells x y = eqCells y x
 | [], [] => rfl
 | [], _ :: _ => rfl
 | _ :: _, [] => rfl
 | a :: x, b :: y => by
  simp only [eqCells]
  rw [eqCells_comm x y]
  congr 1
  cases a <;> cases b <;> simp [eqCell, Bool.beq_comm]
theorem findKey_run {kt : TypeId} {k : V} {u : Value} (hk : keyOk P kt k = true) (hu : VA ρ k u) (W : World) : ∀ (es : List (V × V)) (ms : List MapEntry), EntRel P ρ kt es ms →
  (Instr.findKey kt u ms).run P W = .ok ((findM es k).bind fun i => (ms[i]?).map fun m => (i, m.val)) W := by
 intro es ms hes
 obtain ⟨ks, hf, c1, hs, sh⟩ := keyOk_spec hk
 have asking : ∀ (es : List (V × V)) (ms : List MapEntry) (i : Nat), EntRel P ρ kt es ms → (Instr.findAsking kt u ms i).run P W = .ok ((findC es k i).bind fun j => (ms[j - i]?).map fun m => (j, m.val)) W := by
  intro es
  induction es with
  | nil => intro ms i h; cases ms with
   | nil => simp [Instr.findAsking, findC]
   | cons => exact h.elim
  | cons e es ih => intro ms i h; cases ms with
   | nil => exact h.elim
   | cons m ms =>
    obtain ⟨⟨h1, h2, h3⟩, h4⟩ := h
    obtain ⟨q1, _⟩ := eq_sim (P := P) (W := W) hu.toVR h1.toVR (key_eq hk h3)
    simp only [Instr.findAsking, Sem.run_bind, q1, Result.andThen_ok, Sem.run_ite, findC]
    rw [eqCells_comm e.1.cells k.cells]
    split
    ·simp
    ·rw [ih ms (i + 1) h4]
     congr 1
     have hge : ∀ j, findC es k (i + 1) = some j → i + 1 ≤ j := by
      intro j hj
      rw [findC_eq] at hj
      obtain ⟨q, _, rfl⟩ := Option.map_eq_some_iff.1 hj
      omega
     cases hq : findC es k (i + 1) with
     | none => rfl
     | some j =>
      have := hge j hq
      simp only [Option.bind_some]
      rw [show j - i = (j - (i + 1)) + 1 from by omega, List.getElem?_cons_succ]
 have final : (Instr.findAsking kt u ms 0).run P W = .ok ((findM es k).bind fun i => (ms[i]?).map fun m => (i, m.val)) W := by
  rw [asking es ms 0 hes, findC_eq]
  congr 1
  simp
 unfold Instr.findKey
 simp only [flatT] at hf
 have now : ∀ (kind : TypeDesc), P.underlying kt = some kind → (∀ (e : V × V) (m : MapEntry), VA ρ e.1 m.key → keyOk P kt e.1 = true → Instr.sameNow kind u m.key = some (eqCells e.1.cells k.cells)) →
   ∀ (es : List (V × V)) (ms : List MapEntry) (i : Nat), EntRel P ρ kt es ms → Instr.findNow kind u ms i = some ((findC es k i).bind fun j => (ms[j - i]?).map fun m => (j, m.val)) := by
  intro kind _ hs es
  induction es with
  | nil => intro ms i h; cases ms with
   | nil => simp [Instr.findNow, findC]
   | cons => exact h.elim
  | cons e es ih => intro ms i h; cases ms with
   | nil => exact h.elim
   | cons m ms =>
    obtain ⟨⟨h1, h2, h3⟩, h4⟩ := h
    simp only [Instr.findNow, hs e m h1 h3, findC]
    split
    ·rename_i e1; injection e1 with e1; rw [if_pos e1]; simp
    ·rename_i e1
     injection e1 with e1
     rw [if_neg (by simp [e1]), ih ms (i + 1) h4]
     congr 1
     have hge : ∀ j, findC es k (i + 1) = some j → i + 1 ≤ j := by
      intro j hj
      rw [findC_eq] at hj
      obtain ⟨q, _, rfl⟩ := Option.map_eq_some_iff.1 hj
      omega
     cases hq : findC es k (i + 1) with
     | none => rfl
     | some j =>
      have := hge j hq
      simp only [Option.bind_some]
      rw [show j - i = (j - (i + 1)) + 1 from by omega, List.getElem?_cons_succ]
    ·rename_i e1; cases e1
 have nowFinal : ∀ kind, P.underlying kt = some kind → (∀ (e : V × V) (m : MapEntry), VA ρ e.1 m.key → keyOk P kt e.1 = true → Instr.sameNow kind u m.key = some (eqCells e.1.cells k.cells)) →
   (do match Instr.findNow (← underlying kt) u ms 0 with | some r => pure r | none => Instr.findAsking kt u ms : Sem (Option (Nat × Value))).run P W = .ok ((findM es k).bind fun i => (ms[i]?).map fun m => (i, m.val)) W := by
  intro kind hu hs
  simp only [Sem.run_bind, run_underlying hu, Result.andThen_ok, now kind hu hs es ms 0 hes, Sem.run_pure]
  rw [findC_eq]
  congr 1
  simp
 have scal : ∀ (q : CK), ks = [q] → (aggT P kt = some false) → ∀ (e : V × V), keyOk P kt e.1 = true → e.1.cells = [e.1] ∧ k.cells = [k] ∧ ckOk q e.1 = true ∧ ckOk q k = true := by
  intro q hq ha e he
  subst hq
  obtain ⟨ks', hf', c2, _, sh2⟩ := keyOk_spec he
  have : ks' = [q] := by
   have h1 : flatT P 8 kt = some [q] := (keyOk_spec hk).elim fun ks2 h2 => by
    have := h2.1
    simp only [flatT] at this
    rw [show flatT P 8 kt = flatT P (7 + 1) kt from rfl]
    simp only [flatT]
    exact hf
   rw [h1] at hf'
   injection hf' with hf'
   exact hf'.symm
  subst this
  have nk : ∀ cs, k ≠ .agg cs := by rcases sh with ⟨hb, _⟩ | ⟨_, hn⟩; (rw [ha] at hb; cases hb); exact hn
  have ne : ∀ cs, e.1 ≠ .agg cs := by rcases sh2 with ⟨hb, _⟩ | ⟨_, hn⟩; (rw [ha] at hb; cases hb); exact hn
  have e1 : k.cells = [k] := by cases k <;> first | rfl | exact absurd rfl (nk _)
  have e2 : e.1.cells = [e.1] := by
   generalize e.1 = x at ne
   cases x <;> first | rfl | exact absurd rfl (ne _)
  rw [e1] at c1
  rw [e2] at c2
  exact ⟨e2, e1, by simpa [ckOks] using c2, by simpa [ckOks] using c1⟩
 split at hf
 ·rename_i kk hun
  simp only [Option.some.injEq] at hf
  refine nowFinal _ hun fun e m he hke => ?_
  obtain ⟨e1, e2, c3, c4⟩ := scal _ hf.symm (by simp [aggT, hun]) e hke
  rw [e1, e2]
  generalize e.1 = x at he c3
  cases x <;> simp [ckOk] at c3
  cases k <;> simp [ckOk] at c4
  subst c3 c4
  obtain rfl : u = _ := hu
  rw [show m.key = _ from he]
  simp [Instr.sameNow, eqCells, eqCell, Bool.beq_comm]
 ·rename_i hun
  simp only [Option.some.injEq] at hf
  refine nowFinal _ hun fun e m he hke => ?_
  obtain ⟨e1, e2, c3, c4⟩ := scal _ hf.symm (by simp [aggT, hun]) e hke
  rw [e1, e2]
  generalize e.1 = x at he c3
  cases x <;> simp [ckOk] at c3
  cases k <;> simp [ckOk] at c4
  obtain rfl : u = _ := hu
  rw [show m.key = _ from he]
  simp only [Instr.sameNow, eqCells, eqCell, Bool.and_true, Option.some.injEq]
  rw [beq_toListBytes, bytes_toList, bytes_toList, Bool.beq_comm]
 ·rename_i hun
  simp only [Option.some.injEq] at hf
  refine nowFinal _ hun fun e m he hke => ?_
  obtain ⟨e1, e2, c3, c4⟩ := scal _ hf.symm (by simp [aggT, hun]) e hke
  rw [e1, e2]
  generalize e.1 = x at he c3
  cases x <;> simp [ckOk] at c3
  cases k <;> simp [ckOk] at c4
  obtain rfl : u = _ := hu
  rw [show m.key = _ from he]
  simp [Instr.sameNow, eqCells, eqCell, Bool.beq_comm]
 all_goals
  have deep : ∀ kind, P.underlying kt = some kind → (∀ m, Instr.sameNow kind u m = none) →
    (do match Instr.findNow (← underlying kt) u ms 0 with | some r => pure r | none => Instr.findAsking kt u ms : Sem (Option (Nat × Value))).run P W = .ok ((findM es k).bind fun i => (ms[i]?).map fun m => (i, m.val)) W := by
   intro kind hu hs
   simp only [Sem.run_bind, run_underlying hu, Result.andThen_ok]
   cases ms with
   | nil => cases es with
    | nil => simp [Instr.findNow, findM]
    | cons => exact hes.elim
   | cons m ms => simp only [Instr.findNow, hs]; exact final
 ·rename_i hun
  exact deep _ hun fun m => by cases u <;> cases m <;> rfl
 ·rename_i hun
  exact deep _ hun fun m => by cases u <;> cases m <;> rfl
 ·cases hf
theorem findM_lt {es : List (V × V)} {k : V} {i : Nat} (h : findM es k = some i) : ∃ e, es[i]? = some e ∧ eqCells e.1.cells k.cells = true := by
 unfold findM at h
 obtain ⟨hlt, h1, _⟩ := List.findIdx?_eq_some_iff_getElem.1 h
 exact ⟨es[i], List.getElem?_eq_getElem hlt, by simpa using h1⟩
theorem map_at (hR : Rel P b0 ρ H W) {id : Nat} {q : TypeId × List (V × V)} (h : getMap H id = some q) {l : Loc} (hl : ρ id 0 = some l) :
  H[id]? = some (.map q.1 q.2) ∧ l.own = true ∧ b0 ≤ l.blk ∧ ∃ ents clk, W.heap[l.blk]? = some (.map ents clk) ∧ EntsRel P ρ q.1 q.2 ents clk := by
 unfold getMap at h
 split at h
 ·rename_i kt es hid
  injection h with h
  subst h
  obtain ⟨l', hl', hk⟩ := hR.blk id _ hid rfl
  simp only [AB.gen] at hl'
  rw [hl] at hl'
  injection hl' with hl'
  subst hl'
  obtain ⟨h1, h2, ents, clk, h3, h4⟩ := hk
  exact ⟨hid, h1, h2, ents, clk, h3, h4⟩
 ·cases h
theorem run_getObj_map {r : Nat} {ents : Array MapEntry} {clk : Nat} (h : W.heap[r]? = some (.map ents clk)) : (getObj r).run P W = .ok (.map ents clk) W := by
 simp [getObj, Sem.run, h]
theorem elemVA {v : V} {u : Value} (h : VR ρ v u) (he : elemOk v = true) : VA ρ v u :=
 h.va fun vs e => by subst e; simp [elemOk, V.isCell] at he
theorem lookup_sim (hR : Rel P b0 ρ H W) {t : TypeId} {m k v : V} {um uk : Value} {ok : Bool} (hm : VR ρ m um) (hk : VR ρ k uk) (h : lookupV P t H m k ok = some v) : Out P b0 ρ H W ((Instr.lookup t um uk ok).run P W) v H := by
 unfold lookupV at h
 split at h
 case h_2 => cases h
 rename_i kt et hun
 have hz : ∀ z, zeroV P et = some z → ∃ u, (zeroValue et).run P W = .ok u W ∧ VA ρ z u := by
  intro z hz
  obtain ⟨u, hu, rfl⟩ := run_zeroV hz W
  refine ⟨u, hu, (VR_ofVal ρ u).va fun vs e => ?_⟩
  unfold ofVal at e
  split at e
  ·cases e
  ·exact (ofCell_not _).2 _ e
 have fin : ∀ (x : V) (u : Value) (b : Bool), VA ρ x u → VR ρ (if ok then .tup [x, .bool b] else x) (if ok then .tuple #[u, .bool b] else u) := by
  intro x u b hx
  cases ok
  ·exact hx.toVR
  ·exact ⟨_, rfl, hx, rfl, trivial⟩
 split at h
 ·
  obtain rfl : um = .map none := hm
  simp only [Option.bind_some] at h
  split at h
  ·rename_i hc
   have hka : VA ρ k uk := hk.va fun vs e => by
    subst e
    have := hc.2
    obtain ⟨ks, hf, c1, _⟩ := keyOk_spec this
    cases ks <;> simp [V.cells, ckOks, ckOk] at c1
   obtain ⟨r, hr, rfl⟩ := Option.map_eq_some_iff.1 h
   have hr : (zeroV P et).map (fun z => (z, false)) = some r := hr
   obtain ⟨z, hz', rfl⟩ := Option.map_eq_some_iff.1 hr
   obtain ⟨u, hu, hva⟩ := hz z hz'
   have hf := findKey_run (W := W) hc.2 hka [] [] trivial
   refine ⟨_, W, ρ, ?_, fin z u false hva, Step.refl hR⟩
   simp [Instr.lookup, run_underlying hun, checkKey_run true hc.2 hka W, hf, findM, hu]
  ·cases h
 ·rename_i id
  obtain ⟨l, hloc, rfl⟩ := hm
  cases hg : getMap H id with
  | none => rw [hg] at h; cases h
  | some q =>
  rw [hg] at h
  simp only [Option.bind_some] at h
  split at h
  ·rename_i hc
   obtain ⟨hkt, hko⟩ := hc
   subst hkt
   have hka : VA ρ k uk := hk.va fun vs e => by
    subst e
    obtain ⟨ks, hf, c1, _⟩ := keyOk_spec hko
    cases ks <;> simp [V.cells, ckOks, ckOk] at c1
   obtain ⟨hid, hlo, hlb, ents, clk, hC, hE⟩ := map_at hR hg hloc
   have hf := findKey_run (W := W) hko hka q.2 ents.toList hE.list
   have hgo := run_getObj_map (P := P) hC
   obtain ⟨r, hr, rfl⟩ := Option.map_eq_some_iff.1 h
   cases hq : findM q.2 k with
   | none =>
    rw [hq] at hr hf
    obtain ⟨z, hz', rfl⟩ := Option.map_eq_some_iff.1 hr
    obtain ⟨u, hu, hva⟩ := hz z hz'
    refine ⟨_, W, ρ, ?_, fin z u false hva, Step.refl hR⟩
    simp [Instr.lookup, run_underlying hun, hgo, checkKey_run _ hko hka W, hf, hu]
   | some i =>
    rw [hq] at hr hf
    obtain ⟨e, he, rfl⟩ := Option.map_eq_some_iff.1 hr
    obtain ⟨me, hme, _, hva, _⟩ := hE.at_ i e he
    have hme' : ents.toList[i]? = some me := by simpa using hme
    simp only [Option.bind_some, hme', Option.map_some] at hf
    refine ⟨_, W, ρ, ?_, fin e.2 me.val true hva, Step.refl hR⟩
    simp [Instr.lookup, run_underlying hun, hgo, checkKey_run _ hko hka W, hf]
  ·cases h
 ·cases h
theorem keyVA {kt : TypeId} {k : V} {uk : Value} (hk : VR ρ k uk) (hko : keyOk P kt k = true) : VA ρ k uk := hk.va fun vs e => by
 subst e
 obtain ⟨ks, hf, c1, _⟩ := keyOk_spec hko
 cases ks <;> simp [V.cells, ckOks, ckOk] at c1
theorem Rel.putMap (hR : Rel P b0 ρ H W) {id : Nat} {kt : TypeId} {es es' : List (V × V)} (hid : H[id]? = some (.map kt es)) {l : Loc} (hl : ρ id 0 = some l) {ents' : Array MapEntry} {clk' : Nat} (hE : EntsRel P ρ kt es' ents' clk') :
  Step P b0 ρ ρ H (H.set id (.map kt es')) W { W with heap := W.heap.setIfInBounds l.blk (.map ents' clk') } := by
 obtain ⟨l', hl', hk⟩ := hR.blk id _ hid rfl
 simp only [AB.gen] at hl'
 rw [hl] at hl'
 injection hl' with hl'
 subst hl'
 have hlt2 := hk.lt
 obtain ⟨h1, h2, ents, clk, hC, _⟩ := hk
 have hlt : id < H.length := (List.getElem?_eq_some_iff.1 hid).1
 have hadd : renAdd ρ id (AB.gen (.map kt es')) l = ρ := by
  show Ren.mk _ _ = _
  cases ρ with
  | mk rr m =>
  congr 1
  funext i k
  split
  ·rename_i e
   obtain ⟨rfl, rfl⟩ := e
   exact hl.symm
  ·rfl
 have := hR.upd (W' := { W with heap := W.heap.setIfInBounds l.blk (.map ents' clk') }) id (.map kt es') l (by omega) (fun b' hb' => by rw [hid] at hb'; injection hb' with hb'; subst hb'; exact ⟨Nat.le_refl _, rfl⟩) (.inr hl)
  (.inl ⟨_, l, hid, hl, h1, rfl⟩) h1 (fun k _ hk => by simp [hk.symm]) (by simp) rfl rfl rfl ?_
 ·rw [hadd, updH_set hlt] at this
  exact this
 ·rw [hadd]
  exact ⟨h1, h2, ents', clk', by simp [hlt2], hE⟩
theorem run_setObj_map {r : Nat} {ents : Array MapEntry} {clk : Nat} (h : W.heap[r]? = some (.map ents clk)) (o : Obj) : (setObj r o).run P W = .ok () { W with heap := W.heap.setIfInBounds r o } := by
 simp [setObj, Sem.run, h]
theorem update_sim (hR : Rel P b0 ρ H W) {t : TypeId} {m k v : V} {um uk uv : Value} {H' : Hp} (hm : VR ρ m um) (hk : VR ρ k uk) (hv : VR ρ v uv) (h : updateV P t H m k v = some H') : OutU P b0 ρ H W ((Instr.mapUpdate t um uk uv).run P W) H' := by
 unfold updateV at h
 split at h
 case h_2 => cases h
 rename_i kt et id hun
 obtain ⟨l, hloc, rfl⟩ := hm
 cases hg : getMap H id with
 | none => rw [hg] at h; cases h
 | some q =>
 rw [hg] at h
 simp only [Option.bind_some] at h
 split at h
 case isFalse => cases h
 rename_i hc
 obtain ⟨hkt, hko, heo⟩ := hc
 subst hkt
 have hka := keyVA hk hko
 have hva := elemVA hv heo
 obtain ⟨hid, hlo, hlb, ents, clk, hC, hE⟩ := map_at hR hg hloc
 have hf := findKey_run (W := W) hko hka q.2 ents.toList hE.list
 have hgo := run_getObj_map (P := P) hC
 cases hq : findM q.2 k with
 | none =>
  rw [hq] at h hf
  injection h with h
  subst h
  have hE' : EntsRel P ρ q.1 (q.2 ++ [(k, v)]) (ents.push { key := uk, val := uv, born := clk }) (clk + 1) := by
   refine ⟨by simp [hE.size], fun i e he => ?_, fun i j mi mj hij hi hj => ?_⟩
   ·rw [List.getElem?_append] at he
    split at he
    ·rename_i hlt
     obtain ⟨me, a, b, c, d, e', f⟩ := hE.at_ i e he
     refine ⟨me, ?_, b, c, d, e', by omega⟩
     rw [Array.getElem?_push, if_neg (by have := hE.size; omega)]
     exact a
    ·rename_i hlt
     have hi : i = q.2.length := by
      rcases Nat.lt_or_ge (i - q.2.length) 1 with h1 | h1
      ·omega
      ·rw [List.getElem?_eq_none (by simpa using h1)] at he; cases he
     subst hi
     simp at he
     subst he
     exact ⟨{ key := uk, val := uv, born := clk }, by rw [hE.size]; simp, hka, hva, hko, heo, Nat.lt_succ_self _⟩
   ·rw [Array.getElem?_push] at hi hj
    split at hi
    ·rename_i e1
     split at hj
     ·omega
     ·have := (Array.getElem?_eq_some_iff.1 hj).1; omega
    ·split at hj
     ·injection hj with hj
      subst hj
      have hlt := (Array.getElem?_eq_some_iff.1 hi).1
      have hlt2 : i < q.2.length := by have := hE.size; omega
      have he : q.2[i]? = some q.2[i] := List.getElem?_eq_getElem hlt2
      obtain ⟨me, a, _, _, _, _, f⟩ := hE.at_ i _ he
      rw [hi] at a
      injection a with a
      subst a
      exact f
     ·exact hE.born i j mi mj hij hi hj
  refine ⟨_, ρ, ?_, hR.putMap hid hloc hE'⟩
  simp [Instr.mapUpdate, run_underlying hun, hgo, checkKey_run _ hko hka W, hf, run_setObj_map hC]
 | some i =>
  rw [hq] at h hf
  injection h with h
  subst h
  obtain ⟨e, he, hec⟩ := findM_lt hq
  obtain ⟨me, hme, r1, r2, r3, r4, r5⟩ := hE.at_ i e he
  have hme' : ents.toList[i]? = some me := by simpa using hme
  simp only [Option.bind_some, hme', Option.map_some] at hf
  obtain ⟨ek, eu, hsame⟩ := key_same r3 hko r1 hka hec
  have hlt := (Array.getElem?_eq_some_iff.1 hme).1
  have hE' : EntsRel P ρ q.1 (q.2.set i (k, v)) (ents.modify i fun e => { e with key := uk, val := uv }) clk := by
   refine ⟨by simp [hE.size], fun j e' he' => ?_, fun a b ma mb hab ha hb => ?_⟩
   ·rw [List.getElem?_set] at he'
    split at he'
    ·rename_i hij
     subst hij
     split at he'
     ·injection he' with he'
      subst he'
      refine ⟨{ me with key := uk, val := uv }, ?_, hka, hva, hko, heo, r5⟩
      rw [Array.getElem?_modify, if_pos rfl, hme]
      rfl
     ·cases he'
    ·rename_i hij
     obtain ⟨me2, a, r⟩ := hE.at_ j e' he'
     refine ⟨me2, ?_, r⟩
     rw [Array.getElem?_modify, if_neg hij]
     exact a
   ·have hborn : ∀ (c : Nat) (mc : MapEntry), (ents.modify i fun e => { e with key := uk, val := uv })[c]? = some mc → ∃ mc', ents[c]? = some mc' ∧ mc'.born = mc.born := by
     intro c mc hc
     rw [Array.getElem?_modify] at hc
     split at hc
     ·obtain ⟨x, hx, rfl⟩ := Option.map_eq_some_iff.1 hc
      exact ⟨x, hx, rfl⟩
     ·exact ⟨mc, hc, rfl⟩
    obtain ⟨a', ha1, ha2⟩ := hborn a ma ha
    obtain ⟨b', hb1, hb2⟩ := hborn b mb hb
    rw [← ha2, ← hb2]
    exact hE.born a b a' b' hab ha1 hb1
  have hold : ((ents[i]?).map (·.key)).getD uk = me.key := by rw [hme]; rfl
  refine ⟨_, ρ, ?_, hR.putMap hid hloc hE'⟩
  simp [Instr.mapUpdate, run_underlying hun, hgo, checkKey_run _ hko hka W, hf, hme, Instr.keyThatStays, hsame, run_setObj_map hC]
theorem delete_sim (hR : Rel P b0 ρ H W) {t ty : TypeId} {m k : V} {um uk : Value} {H' : Hp} {ts : Array TypeId} (hts : ts[0]? = some t) (hm : VR ρ m um) (hk : VR ρ k uk) (h : deleteV P t H m k = some H') :
  Out P b0 ρ H W ((Builtin.delete_ ts ty #[um, uk]).run P W) (.tup []) H' := by
 unfold deleteV at h
 split at h
 case h_2 => cases h
 rename_i kt et hun
 split at h
 case isFalse => cases h
 rename_i hko
 have hka := keyVA hk hko
 split at h
 ·obtain rfl : um = .map none := hm
  injection h with h
  subst h
  refine ⟨.tuple #[], W, ρ, ?_, ⟨_, rfl, trivial⟩, Step.refl hR⟩
  simp [Builtin.delete_, hts, run_underlying hun, checkKey_run _ hko hka W]
 ·rename_i id
  obtain ⟨l, hloc, rfl⟩ := hm
  cases hg : getMap H id with
  | none => rw [hg] at h; cases h
  | some q =>
  rw [hg] at h
  simp only [Option.bind_some] at h
  split at h
  case isFalse => cases h
  rename_i hkt
  subst hkt
  obtain ⟨hid, hlo, hlb, ents, clk, hC, hE⟩ := map_at hR hg hloc
  have hf := findKey_run (W := W) hko hka q.2 ents.toList hE.list
  have hgo := run_getObj_map (P := P) hC
  cases hq : findM q.2 k with
  | none =>
   rw [hq] at h hf
   injection h with h
   subst h
   have hst := hR.putMap hid hloc hE
   have hself : H.set id (.map q.1 q.2) = H := by
    apply List.ext_getElem?
    intro i
    rw [List.getElem?_set]
    by_cases e : id = i
    ·subst e; rw [if_pos rfl, if_pos (List.getElem?_eq_some_iff.1 hid).1, hid]
    ·rw [if_neg e]
   rw [hself] at hst
   refine ⟨.tuple #[], _, ρ, ?_, ⟨_, rfl, trivial⟩, hst⟩
   simp [Builtin.delete_, hts, run_underlying hun, hgo, checkKey_run _ hko hka W, hf, run_setObj_map hC]
  | some i =>
   rw [hq] at h hf
   injection h with h
   subst h
   obtain ⟨e, he, hec⟩ := findM_lt hq
   obtain ⟨me, hme, r1, r2, r3, r4, r5⟩ := hE.at_ i e he
   have hme' : ents.toList[i]? = some me := by simpa using hme
   simp only [Option.bind_some, hme', Option.map_some] at hf
   have hlt := (Array.getElem?_eq_some_iff.1 hme).1
   have hget : ∀ j, (ents.eraseIdxIfInBounds i)[j]? = if j < i then ents[j]? else ents[j + 1]? := by
    intro j
    have h1 : ents.eraseIdxIfInBounds i = ents.eraseIdx i hlt := by simp [Array.eraseIdxIfInBounds, hlt]
    rw [h1, Array.getElem?_eraseIdx]
   have hE' : EntsRel P ρ q.1 (q.2.eraseIdx i) (ents.eraseIdxIfInBounds i) clk := by
    refine ⟨?_, fun j e' he' => ?_, fun a b ma mb hab ha hb => ?_⟩
    ·have := hE.size
     simp [Array.eraseIdxIfInBounds, hlt, List.length_eraseIdx]
     rw [if_pos (by omega)]
     omega
    ·rw [List.getElem?_eraseIdx] at he'
     rw [hget j]
     split at he'
     ·rename_i hj; rw [if_pos hj]; exact hE.at_ j e' he'
     ·rename_i hj; rw [if_neg hj]; exact hE.at_ (j + 1) e' he'
    ·rw [hget] at ha hb
     split at ha
     ·split at hb
      ·exact hE.born a b ma mb hab ha hb
      ·exact hE.born a (b + 1) ma mb (by omega) ha hb
     ·split at hb
      ·omega
      ·exact hE.born (a + 1) (b + 1) ma mb (by omega) ha hb
   refine ⟨.tuple #[], _, ρ, ?_, ⟨_, rfl, trivial⟩, hR.putMap hid hloc hE'⟩
   simp [Builtin.delete_, hts, run_underlying hun, hgo, checkKey_run _ hko hka W, hf, run_setObj_map hC]
 ·cases h
theorem makeMap_sim (hR : Rel P b0 ρ H W) {t kt et : TypeId} (_hun : P.underlying t = some (.map kt et)) : Out P b0 ρ H W ((Instr.makeMap t none).run P W) (.map H.length) (H ++ [.map kt []]) := by
 have := hR.upd (W' := W.alloc (.map #[] 0)) H.length (.map kt []) ⟨W.heap.size, 0, 0, true⟩ (Nat.le_refl _) (by simp) (.inl (hR.fresh _ _ (Nat.le_refl _))) (.inr (Nat.le_refl _)) rfl
  (fun k hk' _ => heap_alloc_old W _ hk') (by simp) rfl rfl rfl ⟨rfl, hR.size, #[], 0, heap_alloc_new W _, ⟨rfl, fun i e he => by simp at he, fun i j mi mj _ hi => by simp at hi⟩⟩
 rw [updH_push] at this
 refine ⟨_, _, _, ?_, ⟨_, renAdd_same _ _ _ _, rfl⟩, this⟩
 simp [Instr.makeMap]
end
end Go.An
namespace Go.An
open Go
section
variable {P : Program} {b0 : Nat} {ρ : Ren} {H : Hp} {W : World} {T : Fr} {a : Act}
theorem ev_sim (hT : FrR ρ T a.tmps) (x : Operand) : VR ρ (ev T x) (a.eval x) := by
 cases x with
 | tmp t => exact hT t
 | const v => exact VR_ofVal ρ v
 | global g => trivial
 | func f => exact ⟨#[], #[], rfl, trivial, trivial⟩
theorem evs_sim (hT : FrR ρ T a.tmps) : ∀ xs : List Operand, VL (VR ρ) (xs.map (ev T)) (xs.map a.eval)
 | [] => trivial
 | x :: xs => ⟨ev_sim hT x, evs_sim hT xs⟩
theorem parts_sim (hT : FrR ρ T a.tmps) (ps : Array (Nat × Operand)) : PartsRel ρ (ps.toList.map fun p => (p.1, ev T p.2)) (ps.map fun (i, x) => (i, a.eval x)).toList := by
 refine ⟨by simp, fun j p hj => ?_⟩
 rw [List.getElem?_map] at hj
 obtain ⟨q, hq, rfl⟩ := Option.map_eq_some_iff.1 hj
 refine ⟨(q.1, a.eval q.2), ?_, rfl, ev_sim hT q.2⟩
 rw [Array.toList_map, List.getElem?_map, hq]
 rfl
theorem ro_sim (hT : FrR ρ T a.tmps) (x : Option Operand) : RO ρ (x.map (ev T)) (x.map a.eval) := by
 cases x with
 | none => trivial
 | some x => exact ev_sim hT x
theorem len_sim (hR : Rel P b0 ρ H W) {t ty : TypeId} {ts : Array TypeId} (hts : ts[0]? = some t) {x v : V} {u : Value} (hx : VR ρ x u) (h : lenV P t H x = some v) : Out P b0 ρ H W ((Builtin.len_ ts ty #[u]).run P W) v H := by
 unfold lenV at h
 split at h
 ·rename_i s hu
  obtain rfl : u = .string ⟨s.toArray⟩ := hx
  split at h
  ·injection h with h; subst h
   exact ⟨_, W, ρ, by simp [Builtin.len_, hts, run_underlying hu, bytes_size, goInt], rfl, Step.refl hR⟩
  ·cases h
 ·rename_i n e hu
  injection h with h; subst h
  exact ⟨_, W, ρ, by simp [Builtin.len_, hts, run_underlying hu, goInt], rfl, Step.refl hR⟩
 ·rename_i p hu
  split at h
  ·rename_i n e hu2
   injection h with h; subst h
   exact ⟨_, W, ρ, by simp [Builtin.len_, hts, run_underlying hu, run_underlying hu2, goInt], rfl, Step.refl hR⟩
  ·cases h
 ·rename_i e hu
  obtain rfl : u = .slice none 0 0 := hx
  injection h with h; subst h
  exact ⟨_, W, ρ, by simp [Builtin.len_, hts, run_underlying hu, goInt], rfl, Step.refl hR⟩
 ·rename_i e id g off n sz cp hu
  obtain ⟨l, b, c, _, rfl, _⟩ := hx
  injection h with h; subst h
  exact ⟨_, W, ρ, by simp [Builtin.len_, hts, run_underlying hu, goInt], rfl, Step.refl hR⟩
 ·rename_i e cs n sz hu
  obtain ⟨b, c, rfl, _⟩ := VI_isl hx
  injection h with h; subst h
  exact ⟨_, W, ρ, by simp [Builtin.len_, hts, run_underlying hu, goInt], rfl, Step.refl hR⟩
 ·rename_i k e hu
  obtain rfl : u = .map none := hx
  injection h with h; subst h
  exact ⟨_, W, ρ, by simp [Builtin.len_, hts, run_underlying hu, goInt], rfl, Step.refl hR⟩
 ·rename_i k e id hu
  obtain ⟨l, hloc, rfl⟩ := hx
  cases hg : getMap H id with
  | none => rw [hg] at h; cases h
  | some q =>
   rw [hg] at h
   simp only [Option.bind_some] at h
   split at h
   ·injection h with h; subst h
    obtain ⟨hid, hlo, hlb, ents, clk, hC, hE⟩ := map_at hR hg hloc
    have hgo := run_getObj_map (P := P) hC
    exact ⟨_, W, ρ, by simp [Builtin.len_, hts, run_underlying hu, hgo, goInt, ← hE.size], rfl, Step.refl hR⟩
   ·cases h
 ·cases h
theorem max_sim : ∀ {xs : List V} {us : List Value} {x v : V} {u : Value}, VR ρ x u → VL (VR ρ) xs us → foldV max2V xs x = some v → ∃ r, (us.foldlM Builtin.max2 u).run P W = .ok r W ∧ VR ρ v r
 | [], [], x, v, u, hx, _, h => by simp only [foldV, Option.some.injEq] at h; subst h; exact ⟨u, rfl, hx⟩
 | y :: xs, w :: us, x, v, u, hx, hl, h => by
  simp only [foldV] at h
  cases hm : max2V x y with
  | none => rw [hm] at h; cases h
  | some z =>
   rw [hm] at h
   simp only [Option.bind_some] at h
   unfold max2V at hm
   split at hm
   ·rename_i k n k' n'
    obtain rfl : u = .int k n := hx
    obtain rfl : w = .int k' n' := hl.1
    injection hm with hm
    subst hm
    obtain ⟨r, h1, h2⟩ := max_sim (x := .int k (if n' > n then n' else n)) (u := .int k (if n' > n then n' else n)) rfl hl.2 h
    refine ⟨r, ?_, h2⟩
    simp only [List.foldlM_cons, Sem.run_bind, Builtin.max2, Sem.run_pure, Result.andThen_ok]
    exact h1
   ·cases hm
 | [], _ :: _, _, _, _, _, hl, _ => hl.elim
 | _ :: _, [], _, _, _, _, hl, _ => hl.elim
theorem min_sim : ∀ {xs : List V} {us : List Value} {x v : V} {u : Value}, VR ρ x u → VL (VR ρ) xs us → foldV min2V xs x = some v → ∃ r, (us.foldlM Builtin.min2 u).run P W = .ok r W ∧ VR ρ v r
 | [], [], x, v, u, hx, _, h => by simp only [foldV, Option.some.injEq] at h; subst h; exact ⟨u, rfl, hx⟩
 | y :: xs, w :: us, x, v, u, hx, hl, h => by
  simp only [foldV] at h
  cases hm : min2V x y with
  | none => rw [hm] at h; cases h
  | some z =>
   rw [hm] at h
   simp only [Option.bind_some] at h
   unfold min2V at hm
   split at hm
   ·rename_i k n k' n'
    obtain rfl : u = .int k n := hx
    obtain rfl : w = .int k' n' := hl.1
    injection hm with hm
    subst hm
    obtain ⟨r, h1, h2⟩ := min_sim (x := .int k (if n' < n then n' else n)) (u := .int k (if n' < n then n' else n)) rfl hl.2 h
    refine ⟨r, ?_, h2⟩
    simp only [List.foldlM_cons, Sem.run_bind, Builtin.min2, Sem.run_pure, Result.andThen_ok]
    exact h1
   ·cases hm
 | [], _ :: _, _, _, _, _, hl, _ => hl.elim
 | _ :: _, [], _, _, _, _, hl, _ => hl.elim
def OpOut (P : Program) (b0 : Nat) (ρ : Ren) (H : Hp) (W : World) (r : Result Next) (v : V) (H' : Hp) : Prop :=
 ∃ nv u W' ρ', r = .ok nv W' ∧ (nv = .value u ∨ nv = .skip ∧ u = undef) ∧ VR ρ' v u ∧ Step P b0 ρ ρ' H H' W W'
theorem Out.op {s : Sem Value} {v : V} {H' : Hp} (h : Out P b0 ρ H W (s.run P W) v H') : OpOut P b0 ρ H W ((do pure (Next.value (← s)) : Sem Next).run P W) v H' := by
 obtain ⟨u, W', ρ', h1, h2, h3⟩ := h
 exact ⟨_, u, W', ρ', run_v h1, .inl rfl, h2, h3⟩
theorem OutU.op {s : Sem Unit} {H' : Hp} (h : OutU P b0 ρ H W (s.run P W) H') : OpOut P b0 ρ H W ((do s; pure Next.skip : Sem Next).run P W) (.tup []) H' := by
 obtain ⟨W', ρ', h1, h3⟩ := h
 exact ⟨_, undef, W', ρ', run_u h1, .inr ⟨rfl, rfl⟩, ⟨_, rfl, trivial⟩, h3⟩
theorem opt_pair {α : Type} {o : Option α} {f : α → V} {v : V} {H H' : Hp} (h : (o.map fun x => (f x, H)) = some (v, H')) : ∃ x, o = some x ∧ v = f x ∧ H' = H := by
 obtain ⟨x, hx, e⟩ := Option.map_eq_some_iff.1 h
 injection e with e1 e2
 exact ⟨x, hx, e1.symm, e2.symm⟩
theorem builtin_sim (hR : Rel P b0 ρ H W) {b : Builtin} {ts : Array TypeId} {ty : TypeId} {cs : Array Bool} {args : List V} {us : Array Value} {v : V} {H' : Hp} (ha : VL (VR ρ) args us.toList) (h : builtinV P b ts args H = some (v, H')) :
  OpOut P b0 ρ H W ((builtin b ts ty cs us).run P W) v H' := by
 unfold builtinV at h
 split at h
 ·rename_i t t1 s x hts
  obtain ⟨us, rfl⟩ : ∃ l, us = List.toArray l := ⟨us.toList, by simp⟩
  obtain rfl : ts = #[t, t1] := by apply Array.ext'; simpa using hts
  match us, ha with
  | [u, w], ha =>
   split at h
   ·rename_i k hk
    exact (growV_sim (ty := ty) hR ha.1 ha.2.1 hk h).op
   ·rename_i d hn hd
    exact (append_sim (ty := ty) hR ha.1 (dem1_VR ha.2.1) hd (fun k e => hn k e) h).op
   ·cases h
 ·rename_i t t1 s x hts
  obtain ⟨us, rfl⟩ : ∃ l, us = List.toArray l := ⟨us.toList, by simp⟩
  obtain rfl : ts = #[t, t1] := by apply Array.ext'; simpa using hts
  match us, ha with
  | [u, w], ha => exact (copy_sim (ty := ty) hR ha.1 (dem1_VR ha.2.1) h).op
 ·rename_i t r m k hts
  obtain ⟨us, rfl⟩ : ∃ l, us = List.toArray l := ⟨us.toList, by simp⟩
  have hts' : ts[0]? = some t := by rw [← Array.getElem?_toList, hts]; rfl
  match us, ha with
  | [u, w], ha =>
   obtain ⟨q, hq, e⟩ := Option.map_eq_some_iff.1 h
   injection e with e1 e2
   subst e1 e2
   exact (delete_sim (ty := ty) hR hts' ha.1 ha.2.1 hq).op
 ·rename_i t r x hts
  obtain ⟨us, rfl⟩ : ∃ l, us = List.toArray l := ⟨us.toList, by simp⟩
  have hts' : ts[0]? = some t := by rw [← Array.getElem?_toList, hts]; rfl
  match us, ha with
  | [u], ha =>
   obtain ⟨q, hq, rfl, rfl⟩ := opt_pair (f := fun x => x) h
   exact (len_sim (ty := ty) hR hts' (dem1_VR ha.1) hq).op
 ·rename_i t r x hts
  obtain ⟨us, rfl⟩ : ∃ l, us = List.toArray l := ⟨us.toList, by simp⟩
  have hts' : ts[0]? = some t := by rw [← Array.getElem?_toList, hts]; rfl
  match us, ha with
  | [u], ha =>
   obtain ⟨q, hq, rfl, rfl⟩ := opt_pair (f := fun x => x) h
   have hu := dem1_VR ha.1
   generalize x.dem1 = y at hq hu
   unfold capV at hq
   split at hq
   ·rename_i e hun
    injection hq with hq
    subst hq
    obtain rfl : u = .slice none 0 0 := hu
    exact Out.op (s := Builtin.cap_ ts ty (List.toArray [Value.slice none 0 0])) ⟨.int .i64 (0 : Nat), W, ρ, by simp [Builtin.cap_, hts', run_underlying hun, goInt], rfl, Step.refl hR⟩
   ·rename_i e id g off n sz c hun
    injection hq with hq
    subst hq
    obtain ⟨l, a, c', hloc, rfl, hnc, hA, hcap, hcp⟩ := hu
    obtain rfl : c' = c := hcp
    exact Out.op (s := Builtin.cap_ ts ty (List.toArray [Value.slice (some a) n c'])) ⟨.int .i64 c', W, ρ, by simp [Builtin.cap_, hts', run_underlying hun, goInt], rfl, Step.refl hR⟩
   ·cases hq
 ·rename_i x xs
  obtain ⟨us, rfl⟩ : ∃ l, us = List.toArray l := ⟨us.toList, by simp⟩
  match us, ha with
  | u :: us, ha =>
   obtain ⟨q, hq, rfl, rfl⟩ := opt_pair (f := fun x => x) h
   obtain ⟨r, h1, h2⟩ := max_sim (P := P) (W := W) ha.1 ha.2 hq
   exact Out.op (s := Builtin.max_ ts ty (u :: us).toArray) ⟨r, W, ρ, h1, h2, Step.refl hR⟩
 ·rename_i x xs
  obtain ⟨us, rfl⟩ : ∃ l, us = List.toArray l := ⟨us.toList, by simp⟩
  match us, ha with
  | u :: us, ha =>
   obtain ⟨q, hq, rfl, rfl⟩ := opt_pair (f := fun x => x) h
   obtain ⟨r, h1, h2⟩ := min_sim (P := P) (W := W) ha.1 ha.2 hq
   exact Out.op (s := Builtin.min_ ts ty (u :: us).toArray) ⟨r, W, ρ, h1, h2, Step.refl hR⟩
 ·cases h
end
end Go.An
namespace Go.An
open Go
section
variable {P : Program} {b0 : Nat} {ρ : Ren} {H : Hp} {W : World} {T : Fr} {a : Act}
theorem cells_all {v : V} {r : V} {H' : Hp} (h : newRowV v.cells H = some (r, H')) : ∀ vs, v ≠ .tup vs := by
 rintro vs rfl
 unfold newRowV at h
 simp [V.cells, V.isCell] at h
theorem base_sim : ∀ {vs : List V} {us : List Value}, VL (VR ρ) vs us → vs.all V.isBase = true → VL (VB ρ) vs us
 | [], [], _, _ => trivial
 | v :: vs, u :: us, h, hb => by
  simp only [List.all_cons, Bool.and_eq_true] at hb
  refine ⟨?_, base_sim h.2 hb.2⟩
  have := h.1
  cases v <;> simp [V.isBase] at hb <;> exact this
 | [], _ :: _, h, _ => h.elim
 | _ :: _, [], h, _ => h.elim
theorem evd_sim (hT : FrR ρ T a.tmps) (xs : List Operand) : VL (VR ρ) (xs.map fun x => (ev T x).dem1) (xs.map a.eval) := by
 induction xs with
 | nil => trivial
 | cons x xs ih => exact ⟨dem1_VR (ev_sim hT x), ih⟩
theorem partsd_sim (hT : FrR ρ T a.tmps) (ps : Array (Nat × Operand)) : PartsRel ρ (ps.toList.map fun p => (p.1, (ev T p.2).dem)) (ps.map fun (i, x) => (i, a.eval x)).toList := by
 refine ⟨by simp, fun j p hj => ?_⟩
 rw [List.getElem?_map] at hj
 obtain ⟨q, hq, rfl⟩ := Option.map_eq_some_iff.1 hj
 refine ⟨(q.1, a.eval q.2), ?_, rfl, dem_VR (ev_sim hT q.2)⟩
 rw [Array.toList_map, List.getElem?_map, hq]
 rfl
def noCells : Obj → Bool
 | .cells .. | .pending .. => false
 | _ => true
theorem run_getObj {P : Program} {W : World} {r : Nat} {o : Obj} (h : W.heap[r]? = some o) (hc : noCells o = true) : (getObj r).run P W = .ok o W := by
 simp only [getObj, Sem.run, h]
 cases o <;> first | rfl | cases hc
theorem run_setObj {P : Program} {W : World} {r : Nat} {o : Obj} (o' : Obj) (h : W.heap[r]? = some o) (hc : noCells o = true) : (setObj r o').run P W = .ok () { W with heap := W.heap.setIfInBounds r o' } := by
 simp only [setObj, Sem.run, h]
 cases o <;> first | rfl | cases hc
theorem renAdd_self {id g : Nat} {l : Loc} (h : ρ id g = some l) : renAdd ρ id g l = ρ := by
 show Ren.mk _ _ = _
 cases ρ with
 | mk rr m =>
 congr 1
 funext i k
 split
 ·rename_i e
  obtain ⟨rfl, rfl⟩ := e
  exact h.symm
 ·rfl
theorem Rel.setB (hR : Rel P b0 ρ H W) {id : Nat} {b b' : AB} {l : Loc} (hid : H[id]? = some b) (hg : b.gen = b'.gen) (ht : b.isTok = false) (hl : ρ id b.gen = some l) (ho : l.own = true) {o' : Obj}
  (hnew : BlkOk P b0 ρ { W with heap := W.heap.setIfInBounds l.blk o' } l b') : Step P b0 ρ ρ H (H.set id b') W { W with heap := W.heap.setIfInBounds l.blk o' } := by
 have hlt : id < H.length := (List.getElem?_eq_some_iff.1 hid).1
 have hl' : ρ id b'.gen = some l := hg ▸ hl
 have hadd : renAdd ρ id b'.gen l = ρ := renAdd_self hl'
 have := hR.upd (W' := { W with heap := W.heap.setIfInBounds l.blk o' }) id b' l (by omega) (fun b1 hb1 => by rw [hid] at hb1; injection hb1 with hb1; subst hb1; exact ⟨Nat.le_of_eq hg, ht⟩) (.inr hl')
  (.inl ⟨_, l, hid, hl, ho, rfl⟩) ho (fun k _ hk => by simp [hk.symm]) (by simp) rfl rfl rfl (by rw [hadd]; exact hnew)
 rwa [hadd, updH_set hlt] at this
theorem Rel.pushB (hR : Rel P b0 ρ H W) {b : AB} {o : Obj} (hg : b.gen = 0) (hnew : BlkOk P b0 (renAdd ρ H.length 0 ⟨W.heap.size, 0, 0, true⟩) (W.alloc o) ⟨W.heap.size, 0, 0, true⟩ b) :
  Step P b0 ρ (renAdd ρ H.length 0 ⟨W.heap.size, 0, 0, true⟩) H (H ++ [b]) W (W.alloc o) := by
 have := hR.upd (W' := W.alloc o) H.length b ⟨W.heap.size, 0, 0, true⟩ (Nat.le_refl _) (by simp) (.inl (hR.fresh _ _ (Nat.le_refl _))) (.inr (Nat.le_refl _)) rfl
  (fun k hk' _ => heap_alloc_old W _ hk') (by simp) rfl rfl rfl (by rw [hg]; exact hnew)
 rwa [updH_push, hg] at this
theorem range_sim (hR : Rel P b0 ρ H W) {t : TypeId} {x : V} {u : Value} (hx : VR ρ x u) {v : V} {H' : Hp} (h : rangeV P t H x = some (v, H')) : Out P b0 ρ H W ((Instr.range t u).run P W) v H' := by
 unfold rangeV at h
 split at h
 ·rename_i s hu
  obtain rfl : u = .string ⟨s.toArray⟩ := hx
  simp only [Option.some.injEq, Prod.mk.injEq] at h
  obtain ⟨rfl, rfl⟩ := h
  refine ⟨.pointer (some ⟨W.heap.size, 0, none⟩), _, _, ?_, ⟨⟨W.heap.size, 0, 0, true⟩, renAdd_same _ _ _ _, rfl⟩, hR.pushB (o := .stringIter ⟨s.toArray⟩ 0) rfl ⟨rfl, rfl, hR.size, heap_alloc_new W _⟩⟩
  simp [Instr.range, run_underlying hu]
 ·cases h
theorem next_sim (hR : Rel P b0 ρ H W) {x : V} {u : Value} (hx : VR ρ x u) {v : V} {H' : Hp} (h : nextV H x = some (v, H')) (ty : TypeId) : Out P b0 ρ H W ((Instr.next u true ty).run P W) v H' := by
 unfold nextV at h
 split at h
 ·rename_i id
  unfold getIter at h
  split at h
  ·rename_i s p hid
   obtain ⟨l, hl, rfl⟩ := hx
   have hb := hR.at_ (b := .siter s p) hid hl
   obtain ⟨h1, h2, h3, h4⟩ := hb
   simp only [Option.bind_some] at h
   have hsz : (⟨s.toArray⟩ : ByteArray).size = s.length := bytes_size s
   split at h
   ·rename_i hlt
    simp only [Option.some.injEq, Prod.mk.injEq] at h
    obtain ⟨rfl, rfl⟩ := h
    have hlb := (Array.getElem?_eq_some_iff.1 h4).1
    refine ⟨.tuple #[.bool true, goInt p, .int .i32 (Utf8.decode ⟨s.toArray⟩ p).1], { W with heap := W.heap.setIfInBounds l.blk (.stringIter ⟨s.toArray⟩ (p + (Utf8.decode ⟨s.toArray⟩ p).2)) }, ρ, ?_, ⟨_, rfl, ?_⟩,
     hR.setB (b := .siter s p) (b' := .siter s (p + (Utf8.decode ⟨s.toArray⟩ p).2)) hid rfl rfl hl h1 ⟨h1, h2, h3, by simp [hlb]⟩⟩
    ·simp [Instr.next, h2, run_getObj h4 rfl, run_setObj _ h4 rfl, hsz, hlt]
    ·exact ⟨rfl, rfl, rfl, trivial⟩
   ·rename_i hlt
    simp only [Option.some.injEq, Prod.mk.injEq] at h
    obtain ⟨rfl, rfl⟩ := h
    refine ⟨.tuple #[.bool false], W, ρ, ?_, ⟨_, rfl, rfl, trivial⟩, Step.refl hR⟩
    simp [Instr.next, h2, run_getObj h4 rfl, hsz, hlt]
  ·cases h
 ·cases h
theorem ifc_sim (hR : Rel P b0 ρ H W) {t : TypeId} {x v : V} {u : Value} (hx : VR ρ x u) (h : ifcV P t x = some v) : Out P b0 ρ H W ((Instr.makeInterface t u).run P W) v H := by
 unfold ifcV at h
 split at h
 ·cases h
 ·cases h
 ·rename_i d hni hu
  have hrun : (Instr.makeInterface t u).run P W = .ok (.iface t u) W := by
   unfold Instr.makeInterface
   simp only [Sem.run_bind, run_underlying hu, Result.andThen_ok]
   cases d <;> first | rfl | exact absurd hu (hni _)
  refine ⟨_, W, ρ, hrun, ?_, Step.refl hR⟩
  split at h
  ·split at h
   ·rename_i cs hb
    injection h with h; subst h
    obtain ⟨cs', rfl, hr⟩ := hx
    exact ⟨cs', _, rfl, base_sim (hr.imp fun _ _ => VC.toVR) hb, .inl ⟨rfl, rfl⟩⟩
   ·cases h
  ·split at h
   ·rename_i hb
    injection h with h; subst h
    have := base_sim (vs := [x]) (us := [u]) ⟨hx, trivial⟩ (by simp [hb])
    exact ⟨#[u], _, rfl, this, .inr ⟨rfl, rfl⟩⟩
   ·cases h
theorem opB_sim (hR : Rel P b0 ρ H W) (hT : FrR ρ T a.tmps) {o : Oper} {v : V} {H' : Hp} (h : opB P o.op T H = some (v, H')) : OpOut P b0 ρ H W ((execOp a.eval o).run P W) v H' := by
 obtain ⟨dst, op, type, pos, after, guard⟩ := o
 simp only at h
 unfold opB at h
 unfold execOp
 split at h
 ·rename_i x
  injection h with h; injection h with h1 h2; subst h1 h2
  exact ⟨_, _, W, ρ, rfl, .inl rfl, ev_sim hT x, Step.refl hR⟩
 ·rename_i x
  injection h with h; injection h with h1 h2; subst h1 h2
  exact ⟨_, _, W, ρ, rfl, .inl rfl, ev_sim hT x, Step.refl hR⟩
 ·rename_i c x y
  have hc := ev_sim hT c
  split at h
  ·rename_i e
   rw [e] at hc
   have hc' : a.eval c = .bool true := hc
   injection h with h; injection h with h1 h2; subst h1 h2
   exact ⟨_, a.eval x, W, ρ, by simp [hc', asBool], .inl rfl, ev_sim hT x, Step.refl hR⟩
  ·rename_i e
   rw [e] at hc
   have hc' : a.eval c = .bool false := hc
   injection h with h; injection h with h1 h2; subst h1 h2
   exact ⟨_, a.eval y, W, ρ, by simp [hc', asBool], .inl rfl, ev_sim hT y, Step.refl hR⟩
  ·cases h
 ·rename_i e
  cases hz : zeroV P e with
  | none => rw [hz] at h; cases h
  | some z =>
   rw [hz] at h
   exact (alloc_sim hR hz h).op
 ·rename_i e x
  exact (box_sim hR (ev_sim hT x) h).op
 ·rename_i t parts
  obtain ⟨q, hq, rfl, rfl⟩ := opt_pair (f := fun x => x) h
  exact (build_sim hR (parts_sim hT parts) hq).op
 ·rename_i t len parts
  exact (buildSlice_sim hR (parts_sim hT parts) h).op
 ·rename_i t x
  obtain ⟨q, hq, rfl, rfl⟩ := opt_pair (f := fun x => x) h
  exact (load_sim hR (ev_sim hT x) hq).op
 ·rename_i t p x
  obtain ⟨q, hq, e⟩ := Option.map_eq_some_iff.1 h
  injection e with e1 e2; subst e1 e2
  exact (store_sim hR (ev_sim hT p) (ev_sim hT x) hq).op
 ·rename_i x
  have hx := ev_sim hT x
  split at h
  ·rename_i e
   rw [e] at hx
   injection h with h; injection h with h1 h2; subst h1 h2
   obtain ⟨l, hl, hv⟩ := hx
   exact ⟨_, a.eval x, W, ρ, by simp [hv], .inl rfl, ⟨l, hl, hv⟩, Step.refl hR⟩
  ·rename_i e
   rw [e] at hx
   injection h with h; injection h with h1 h2; subst h1 h2
   obtain ⟨l, m, hv, hr⟩ := hx
   exact ⟨_, a.eval x, W, ρ, by simp [hv], .inl rfl, ⟨l, m, hv, hr⟩, Step.refl hR⟩
  ·rename_i e
   rw [e] at hx
   injection h with h; injection h with h1 h2; subst h1 h2
   obtain ⟨blk, base, C, hv, hr⟩ := VI_ipt hx
   exact ⟨_, a.eval x, W, ρ, by simp [hv], .inl rfl, hx, Step.refl hR⟩
  ·rename_i e
   rw [e] at hx
   injection h with h; injection h with h1 h2; subst h1 h2
   obtain ⟨cs', u, hv, hr⟩ := hx
   exact ⟨_, a.eval x, W, ρ, by simp [hv], .inl rfl, ⟨cs', u, hv, hr⟩, Step.refl hR⟩
  ·cases h
 ·rename_i o t x y _
  obtain ⟨q, hq, rfl, rfl⟩ := opt_pair (f := fun x => x) h
  exact (bin_sim hR x y (dem1_VR (ev_sim hT x)) (dem1_VR (ev_sim hT y)) hq).op
 ·rename_i o _ x
  obtain ⟨q, hq, rfl, rfl⟩ := opt_pair (f := fun x => x) h
  exact (un_sim hR (ev_sim hT x) hq).op
 ·rename_i s d x
  exact (conv_sim hR (dem1_VR (ev_sim hT x)) h).op
 ·rename_i f first caps
  simp only at h
  split at h
  ·rename_i hb
   injection h with h; injection h with h1 h2; subst h1 h2
   refine ⟨_, .func (.func f) (first.map a.eval) (caps.map a.eval), W, ρ, ?_, .inl rfl, ⟨_, _, rfl, ?_, ?_⟩, Step.refl hR⟩
   ·simp [Instr.makeFunc]
   ·rw [Array.toList_map]; exact base_sim (evd_sim hT _) hb.1
   ·rw [Array.toList_map]; exact base_sim (evd_sim hT _) hb.2
  ·cases h
 ·rename_i t
  split at h
  ·rename_i kt et hu
   injection h with h; injection h with h1 h2; subst h1 h2
   exact (makeMap_sim hR hu).op
  ·cases h
 ·rename_i t l c
  exact (makeSlice_sim hR (ev_sim hT l) (ev_sim hT c) h).op
 ·rename_i t x lo hi
  obtain ⟨q, hq, rfl, rfl⟩ := opt_pair (f := fun x => x) h
  exact (slice_sim hR (dem1_VR (ev_sim hT x)) (ro_sim hT lo) (ro_sim hT hi) hq).op
 ·rename_i t x lo hi mx
  obtain ⟨q, hq, rfl, rfl⟩ := opt_pair (f := fun x => x) h
  exact (slice3_sim hR (dem1_VR (ev_sim hT x)) (ro_sim hT lo) (ev_sim hT hi) (ev_sim hT mx) hq).op
 ·rename_i s x i
  obtain ⟨q, hq, rfl, rfl⟩ := opt_pair (f := fun x => x) h
  exact (fieldAddr_sim hR (ev_sim hT x) hq).op
 ·rename_i s x i
  obtain ⟨q, hq, rfl, rfl⟩ := opt_pair (f := fun x => x) h
  exact (field_sim hR (ev_sim hT x) hq).op
 ·rename_i t x i
  obtain ⟨q, hq, rfl, rfl⟩ := opt_pair (f := fun x => x) h
  exact (indexAddr_sim hR (dem1_VR (ev_sim hT x)) (ev_sim hT i) hq).op
 ·rename_i t x i
  obtain ⟨q, hq, rfl, rfl⟩ := opt_pair (f := fun x => x) h
  exact (index_sim hR (ev_sim hT x) (ev_sim hT i) hq).op
 ·rename_i t x i ok
  obtain ⟨q, hq, rfl, rfl⟩ := opt_pair (f := fun x => x) h
  exact (lookup_sim hR (ev_sim hT x) (ev_sim hT i) hq).op
 ·rename_i t m k x
  obtain ⟨q, hq, e⟩ := Option.map_eq_some_iff.1 h
  injection e with e1 e2; subst e1 e2
  exact (update_sim hR (ev_sim hT m) (ev_sim hT k) (ev_sim hT x) hq).op
 ·rename_i t m k x
  obtain ⟨q, hq, e⟩ := Option.map_eq_some_iff.1 h
  injection e with e1 e2; subst e1 e2
  exact (update_sim hR (ev_sim hT m) (ev_sim hT k) (ev_sim hT x) hq).op
 ·rename_i x i
  have hx := ev_sim hT x
  split at h
  ·rename_i vs e
   rw [e] at hx
   obtain ⟨us, hv, hl⟩ := hx
   obtain ⟨q, hq, rfl, rfl⟩ := opt_pair (f := fun x => x) h
   obtain ⟨u, hu, hr⟩ := hl.get i hq
   rw [Array.getElem?_toList] at hu
   exact ⟨_, u, W, ρ, by simp [hv, Instr.extract, hu], .inl rfl, hr.toVR, Step.refl hR⟩
  ·cases h
 ·rename_i t x
  exact (range_sim hR (ev_sim hT x) h).op
 ·rename_i x
  exact (next_sim hR (ev_sim hT x) h _).op
 ·rename_i t x
  obtain ⟨q, hq, rfl, rfl⟩ := opt_pair (f := fun x => x) h
  exact (ifc_sim hR (dem_VR (ev_sim hT x)) hq).op
 ·rename_i c
  split at h
  ·rename_i b hb
   have hargs : VL (VR ρ) (c.args.toList.map (ev T)) (c.args.map a.eval).toList := by
    rw [Array.toList_map]; exact evs_sim hT _
   simp only [resolve, hb, Sem.run_bind, Sem.run_pure, Result.andThen_ok, invoke]
   exact builtin_sim hR hargs h
  ·cases h
 ·cases h
theorem imm_sim (hR : Rel P b0 ρ H W) (hT : FrR ρ T a.tmps) {o : Oper} {v : V} (h : immV P o.op T = some v) : OpOut P b0 ρ H W ((execOp a.eval o).run P W) v H := by
 obtain ⟨dst, op, type, pos, after, guard⟩ := o
 simp only at h
 unfold immV at h
 unfold execOp
 split at h
 ·rename_i e x
  split at h
  ·rename_i hi
   injection h with h; subst h
   exact (immBox_sim hR (dem_VR (ev_sim hT x)) hi).op
  ·cases h
 ·rename_i t len parts
  exact (immSl_sim hR (partsd_sim hT parts) h).op
 ·rename_i s d x
  exact (immConv_sim hR (ev_sim hT x) h).op
 ·rename_i c
  split at h
  ·rename_i t t1 s x hb hts hargs
   have hav : VL (VR ρ) (c.args.toList.map fun x => (ev T x).dem1) (c.args.map a.eval).toList := by
    rw [Array.toList_map]; exact evd_sim hT _
   rw [hargs] at hav
   simp only [resolve, hb, Sem.run_bind, Sem.run_pure, Result.andThen_ok, invoke]
   generalize c.args.map a.eval = us at hav ⊢
   obtain ⟨us, rfl⟩ : ∃ l, us = List.toArray l := ⟨us.toList, by simp⟩
   have e : c.argTypes = #[t, t1] := by apply Array.ext'; simpa using hts
   rw [e]
   match us, hav with
   | [u, w], hav => exact (immApp_sim hR hav.1 hav.2.1 h).op
  ·cases h
 ·cases h
variable [Orc]
theorem op_sim (hR : Rel P b0 ρ H W) (hT : FrR ρ T a.tmps) {o : Oper} {v : V} {H' : Hp} (h : opV P o T H = some (v, H')) : OpOut P b0 ρ H W ((execOp a.eval o).run P W) v H' := by
 unfold opV at h
 split at h
 ·obtain ⟨w, hw, e⟩ := Option.map_eq_some_iff.1 h
  injection e with e1 e2
  subst e1 e2
  exact imm_sim hR hT hw
 ·exact opB_sim hR hT h
end
end Go.An
namespace Go.An
open Go
section
variable {P : Program}
def V.id? : V → Option Nat
 | .ptr id _ _ => some id
 | .slice id _ _ _ _ _ => some id
 | .map id => some id
 | _ => none
theorem id_dem1 (v : V) : v.dem1.id? = v.id? := by
 cases v <;> first | rfl | (simp only [V.dem1]; split <;> rfl)
theorem map_evf {T T' : Fr} (f : V → V) : ∀ {xs : List Operand}, (∀ x ∈ xs, ev T x = ev T' x) → (xs.map fun x => f (ev T x)) = xs.map fun x => f (ev T' x)
 | [], _ => rfl
 | x :: xs, h => by rw [List.map_cons, List.map_cons, h x (by simp), map_evf f fun y hy => h y (by simp [hy])]
theorem pairs_evf {T T' : Fr} (f : V → V) : ∀ {xs : List (Nat × Operand)}, (∀ x ∈ xs, ev T x.2 = ev T' x.2) → (xs.map fun p => (p.1, f (ev T p.2))) = xs.map fun p => (p.1, f (ev T' p.2))
 | [], _ => rfl
 | x :: xs, h => by rw [List.map_cons, List.map_cons, h x (by simp), pairs_evf f fun y hy => h y (by simp [hy])]
theorem map_ev {T T' : Fr} : ∀ {xs : List Operand}, (∀ x ∈ xs, ev T x = ev T' x) → xs.map (ev T) = xs.map (ev T')
 | [], _ => rfl
 | x :: xs, h => by rw [List.map_cons, List.map_cons, h x (by simp), map_ev fun y hy => h y (by simp [hy])]
theorem pairs_ev {T T' : Fr} : ∀ {xs : List (Nat × Operand)}, (∀ x ∈ xs, ev T x.2 = ev T' x.2) → (xs.map fun p => (p.1, ev T p.2)) = xs.map fun p => (p.1, ev T' p.2)
 | [], _ => rfl
 | x :: xs, h => by rw [List.map_cons, List.map_cons, h x (by simp), pairs_ev fun y hy => h y (by simp [hy])]
theorem opt_ev {T T' : Fr} {x : Option Operand} (h : ∀ y, x = some y → ev T y = ev T' y) : x.map (ev T) = x.map (ev T') := by
 cases x with
 | none => rfl
 | some y => simp [h y rfl]
theorem opB_congr (o : Op) {T T' : Fr} {H : Hp} (h : ∀ x ∈ o.operands, ev T x = ev T' x) : opB P o T H = opB P o T' H := by
 cases o with
 | build t ps => simp only [opB, Op.operands] at *; rw [pairs_ev (T' := T')]; intro x hx; exact h x.2 (by simp; exact ⟨x.1, by simpa using hx⟩)
 | buildSlice t n ps => simp only [opB, Op.operands] at *; rw [pairs_ev (T' := T')]; intro x hx; exact h x.2 (by simp; exact ⟨x.1, by simpa using hx⟩)
 | makeFunc f a b =>
  simp only [Op.operands] at h
  have e1 := map_evf V.dem1 (T := T) (T' := T') (xs := a.toList) fun x hx => h x (by simp at hx ⊢; exact .inl hx)
  have e2 := map_evf V.dem1 (T := T) (T' := T') (xs := b.toList) fun x hx => h x (by simp at hx ⊢; exact .inr hx)
  cases f <;> simp only [opB, e1, e2]
 | call c =>
  simp only [Op.operands] at h
  simp only [opB]
  have : c.args.toList.map (ev T) = c.args.toList.map (ev T') := map_ev fun x hx => h x (by simp at hx; simp [Call.operands, hx])
  rw [this]
 | slice t x lo hi mx =>
  simp only [Op.operands] at h
  cases mx with
  | some m =>
   cases hi with
   | none => rfl
   | some hi =>
    have e1 : lo.map (ev T) = lo.map (ev T') := opt_ev fun y hy => h y (by simp [hy])
    simp only [opB, e1, h x (by simp), h hi (by simp), h m (by simp)]
  | none =>
   have e1 : lo.map (ev T) = lo.map (ev T') := opt_ev fun y hy => h y (by simp [hy])
   have e2 : hi.map (ev T) = hi.map (ev T') := opt_ev fun y hy => h y (by simp [hy])
   simp only [opB, e1, e2, h x (by simp)]
 | makeMap t r => cases r <;> rfl
 | next x b => simp only [Op.operands] at h; cases b <;> first | rfl | simp only [opB, h x (by simp)]
 | pick c a b => simp only [Op.operands] at h; simp only [opB, h c (by simp), h a (by simp), h b (by simp)]
 | _ => simp only [Op.operands] at h; first
  | rfl
  | (simp only [opB]; simp_all; done)
theorem immV_congr (o : Op) {T T' : Fr} (h : ∀ x ∈ o.operands, ev T x = ev T' x) : immV P o T = immV P o T' := by
 cases o with
 | box e x => simp only [Op.operands] at h; simp only [immV, h x (by simp)]
 | buildSlice t n ps => simp only [immV, Op.operands] at *; rw [pairs_evf V.dem (T' := T')]; intro x hx; exact h x.2 (by simp; exact ⟨x.1, by simpa using hx⟩)
 | convert s d x => simp only [Op.operands] at h; simp only [immV, h x (by simp)]
 | call c =>
  simp only [Op.operands] at h
  have := map_evf V.dem1 (T := T) (T' := T') (xs := c.args.toList) fun x hx => h x (by simp at hx; simp [Call.operands, hx])
  simp only [immV, this]
 | _ => rfl
theorem opV_congr [Orc] (o : Oper) {T T' : Fr} {H : Hp} (h : ∀ x ∈ o.op.operands, ev T x = ev T' x) : opV P o T H = opV P o T' H := by
 unfold opV
 rw [opB_congr o.op h, immV_congr o.op h]
theorem callee_congr [Orc] (c : Call) {T T' : Fr} (h : ∀ x ∈ c.operands, ev T x = ev T' x) : calleeV P T c = calleeV P T' c := by
 have e := fun k => map_evf (fun v => if Orc.keep k = true then v else v.dem) (T := T) (T' := T') (xs := c.args.toList) fun x hx => h x (by simp at hx; simp [Call.operands, hx])
 have e2 := map_evf (fun v => v.dem) (T := T) (T' := T') (xs := c.args.toList) fun x hx => h x (by simp at hx; simp [Call.operands, hx])
 unfold calleeV
 cases hc : c.callee with
 | value f => simp only [e, e2, h f (by simp [Call.operands, hc])]
 | invoke f nm => simp only [e, h f (by simp [Call.operands, hc])]
 | builtin _ => rfl
theorem wanted_congr {all : List Oper} {o : Oper} {T T' : Fr} (h : ∀ t ∈ namesOf all o, get T t = get T' t) : wantedV all o T = wantedV all o T' := by
 unfold wantedV
 cases hg : o.guard with
 | none => rfl
 | some g =>
  obtain ⟨j, want⟩ := g
  simp only
  cases hd : (all[j]?).bind (·.dst) with
  | none => rfl
  | some d =>
   have : get T d = get T' d := h d (by simp [namesOf, hg, hd])
   simp only [this]
theorem ev_names {all : List Oper} {o : Oper} {T T' : Fr} (h : ∀ t ∈ namesOf all o, get T t = get T' t) : ∀ x ∈ o.op.operands, ev T x = ev T' x := by
 intro x hx
 cases x with
 | tmp t => exact h t (by simp only [namesOf, List.mem_append, List.mem_filterMap]; exact .inl (.inr ⟨.tmp t, by simpa using hx, rfl⟩))
 | _ => rfl
theorem stepV_congr [Orc] {all : List Oper} {cl : CallT} {o : Oper} {s : St} {T' : Fr} (h : ∀ t ∈ namesOf all o, get s.T t = get T' t) :
  stepV P cl o { s with T := T' } = (stepV P cl o s).map fun q => (q.1, { q.2 with T := T' }) := by
 have he := ev_names h
 obtain ⟨dst, op, type, pos, after, guard⟩ := o
 have hop : opV P ⟨dst, op, type, pos, after, guard⟩ T' s.H = opV P ⟨dst, op, type, pos, after, guard⟩ s.T s.H := (opV_congr _ he).symm
 cases op with
 | defer c =>
  have := callee_congr (P := P) c (T := s.T) (T' := T') (fun x hx => he x (by simpa [Op.operands] using hx))
  simp only [stepV, ← this]
  split
  ·rfl
  ·split
   ·cases calleeV P s.T c with
    | none => rfl
    | some r => simp only [Option.bind_some]; split <;> rfl
   ·rfl
 | call c =>
  have := callee_congr (P := P) c (T := s.T) (T' := T') (fun x hx => he x (by simpa [Op.operands] using hx))
  simp only [stepV, ← this, hop]
  cases hc : c.callee with
  | value f =>
   simp only
   cases calleeV P s.T c with
   | none => rfl
   | some r => simp only [Option.bind_some]; cases cl r.1 r.2 s.H <;> rfl
  | invoke f nm =>
   simp only
   cases calleeV P s.T c with
   | none => rfl
   | some r => simp only [Option.bind_some]; cases cl r.1 r.2 s.H <;> rfl
  | _ => simp only; cases opV P ⟨dst, .call c, type, pos, after, guard⟩ s.T s.H <;> rfl
 | _ =>
  simp only [stepV, hop]
  generalize opV P _ s.T s.H = r
  cases r <;> rfl
theorem map_self {α : Type} {o : Option α} {f : α → V} {v : V} {H H' : Hp} (h : (o.map fun x => (f x, H)) = some (v, H')) : H' = H ∧ ∀ H2 : Hp, (o.map fun x => (f x, H2)) = some (v, H2) := by
 cases o with
 | none => cases h
 | some x =>
  simp only [Option.map_some, Option.some.injEq, Prod.mk.injEq] at h ⊢
  exact ⟨h.2.symm, fun _ => ⟨h.1, trivial⟩⟩
theorem pureB_law {o : Op} {T : Fr} {H H' : Hp} {v : V} (hk : kindB P o = .pure) (h : opB P o T H = some (v, H')) : H' = H ∧ ∀ H2, opB P o T H2 = some (v, H2) := by
 cases o <;> simp only [kindB] at hk <;> try (cases hk; done)
 case move x => simp only [opB, Option.some.injEq, Prod.mk.injEq] at h ⊢; exact ⟨h.2.symm, fun _ => ⟨h.1, trivial⟩⟩
 case assign x => simp only [opB, Option.some.injEq, Prod.mk.injEq] at h ⊢; exact ⟨h.2.symm, fun _ => ⟨h.1, trivial⟩⟩
 case pick c a b =>
  simp only [opB] at h ⊢
  split at h <;> simp only [Option.some.injEq, Prod.mk.injEq, reduceCtorEq] at h ⊢
  ·exact ⟨h.2.symm, fun _ => ⟨h.1, trivial⟩⟩
  ·exact ⟨h.2.symm, fun _ => ⟨h.1, trivial⟩⟩
 case nilCheck x =>
  simp only [opB] at h ⊢
  split at h <;> simp only [Option.some.injEq, Prod.mk.injEq, reduceCtorEq] at h ⊢
  ·exact ⟨h.2.symm, fun _ => ⟨h.1, trivial⟩⟩
  ·exact ⟨h.2.symm, fun _ => ⟨h.1, trivial⟩⟩
  ·exact ⟨h.2.symm, fun _ => ⟨h.1, trivial⟩⟩
  ·exact ⟨h.2.symm, fun _ => ⟨h.1, trivial⟩⟩
 case makeInterface t x => simp only [opB] at h ⊢; exact map_self (f := fun x => x) h
 case makeFunc f a b =>
  cases f <;> simp only [opB] at h ⊢ <;> try (cases h; done)
  split at h
  ·rename_i hc
   simp only [Option.some.injEq, Prod.mk.injEq] at h
   exact ⟨h.2.symm, fun _ => by rw [if_pos hc, h.1]⟩
  ·cases h
 case build t ps => simp only [opB] at h ⊢; exact map_self (f := fun x => x) h
 case binOp op t x y e => simp only [opB] at h ⊢; exact map_self (f := fun x => x) h
 case unOp op t x => simp only [opB] at h ⊢; exact map_self (f := fun x => x) h
 case fieldAddr s x f => simp only [opB] at h ⊢; exact map_self (f := fun x => x) h
 case field s x f => simp only [opB] at h ⊢; exact map_self (f := fun x => x) h
 case indexAddr t x i => simp only [opB] at h ⊢; exact map_self (f := fun x => x) h
 case index t x i => simp only [opB] at h ⊢; exact map_self (f := fun x => x) h
 case extract x i =>
  simp only [opB] at h ⊢
  split at h
  ·exact map_self (f := fun x => x) h
  ·cases h
 case convert s d x =>
  simp only [opB, convV] at h ⊢
  cases hs : P.underlying s with
  | none => rw [hs] at h; simp at h
  | some us =>
   cases hd : P.underlying d with
   | none => rw [hs, hd] at h; cases us <;> simp at h
   | some ud =>
    rw [hs, hd] at hk h
    cases ud <;> try (exfalso; cases us <;> simp at hk; done)
    case int k =>
     cases hx : (ev T x).dem1 <;> rw [hx] at h <;> cases us <;> simp at h ⊢ <;> exact ⟨h.2.symm, h.1⟩
    case string =>
     cases us <;> simp only [reduceCtorEq] at hk
     cases hx : (ev T x).dem1 <;> rw [hx] at h <;> simp at h ⊢ <;> exact ⟨h.2.symm, h.1⟩
 case call c =>
  simp only [opB] at h ⊢
  split at h
  ·rename_i b hb
   rw [hb] at hk
   cases b <;> simp only [reduceCtorEq] at hk
   all_goals
    simp only [builtinV] at h ⊢
    split at h <;> first
     | contradiction
     | exact map_self (f := fun x => x) h
     | (cases h; done)
  ·cases h
theorem getRow_keep {H H2 : Hp} {id g : Nat} {r : List V × Bool} (hg : getRow H id g = some r) (hk : ∀ b, H[id]? = some b → H2[id]? = some b) : getRow H2 id g = some r := by
 unfold getRow at *
 cases hb : H[id]? with
 | none => rw [hb] at hg; cases hg
 | some b => rw [hk b hb]; rw [hb] at hg; exact hg
theorem getMap_keep {H H2 : Hp} {id : Nat} {r : TypeId × List (V × V)} (hg : getMap H id = some r) (hk : ∀ b, H[id]? = some b → H2[id]? = some b) : getMap H2 id = some r := by
 unfold getMap at *
 cases hb : H[id]? with
 | none => rw [hb] at hg; cases hg
 | some b => rw [hk b hb]; rw [hb] at hg; exact hg
theorem readB_law {o : Op} {T : Fr} {H H' : Hp} {v : V} (hk : kindB P o = .read) (h : opB P o T H = some (v, H')) :
  H' = H ∧ ∀ H2, (∀ x ∈ o.operands, ∀ id, (ev T x).id? = some id → ∀ b, H[id]? = some b → H2[id]? = some b) → opB P o T H2 = some (v, H2) := by
 cases o <;> simp only [kindB, reduceCtorEq] at hk
 case load t x =>
  simp only [opB, loadV, Op.operands] at h ⊢
  split at h
  ·rename_i id g off e
   obtain ⟨q, hq, rfl, rfl⟩ := opt_pair (f := fun x => x) h
   refine ⟨rfl, fun H2 h2 => ?_⟩
   cases hg : getRow H' id g with
   | none => rw [hg] at hq; cases hq
   | some r =>
    rw [getRow_keep hg (h2 x (by simp) id (by rw [e]; rfl))]
    rw [hg] at hq
    rw [hq]; rfl
  ·obtain ⟨q, hq, rfl, rfl⟩ := opt_pair (f := fun x => x) h
   exact ⟨rfl, fun H2 h2 => by rw [hq]; rfl⟩
  ·cases h
 case lookup t x i ok =>
  simp only [opB, lookupV, Op.operands] at h ⊢
  obtain ⟨q, hq, rfl, rfl⟩ := opt_pair (f := fun x => x) h
  refine ⟨rfl, fun H2 h2 => ?_⟩
  split at hq
  ·rename_i kt et hu
   cases hm : ev T x with
   | nilmap => rw [hm] at hq; simp only at hq ⊢; rw [hq]; rfl
   | map id =>
    rw [hm] at hq
    simp only at hq ⊢
    cases hg : getMap H' id with
    | none => rw [hg] at hq; cases hq
    | some r =>
     rw [hg] at hq
     rw [getMap_keep hg (h2 x (by simp) id (by rw [hm]; rfl)), hq]; rfl
   | _ => rw [hm] at hq; simp at hq
  ·cases hq
 case slice t x lo hi mx =>
  cases mx with
  | some m =>
   cases hi with
   | none => simp [opB] at h
   | some hi =>
    simp only [opB, Op.operands] at h ⊢
    obtain ⟨q, hq, rfl, rfl⟩ := opt_pair (f := fun x => x) h
    exact ⟨rfl, fun H2 h2 => by rw [hq]; rfl⟩
  | none =>
   simp only [opB, Op.operands] at h ⊢
   obtain ⟨q, hq, rfl, rfl⟩ := opt_pair (f := fun x => x) h
   refine ⟨rfl, fun H2 h2 => ?_⟩
   have h3 := h2 x (by simp)
   rw [← id_dem1] at h3
   have : sliceV P t H2 (ev T x).dem1 (lo.map (ev T)) (hi.map (ev T)) = some v := by
    clear h2
    generalize (ev T x).dem1 = y at hq h3 ⊢
    unfold sliceV at hq ⊢
    split at hq
    ·simp_all
    ·simp_all
    ·simp_all
    ·simp_all
    ·rename_i n e id g off hu
     cases hs : szOf P e with
     | none => rw [hs] at hq; cases hq
     | some sz =>
      rw [hs] at hq
      simp only [Option.bind_some] at hq ⊢
      cases hg : getRow H' id g with
      | none => rw [hg] at hq; cases hq
      | some r =>
       rw [hg] at hq
       rw [getRow_keep hg (h3 id rfl)]
       exact hq
    ·cases hq
   rw [this]; rfl
 case convert s d x =>
  simp only [opB, convV, Op.operands] at h ⊢
  cases hs : P.underlying s with
  | none => rw [hs] at h; simp at h
  | some us =>
   cases hd : P.underlying d with
   | none => rw [hs, hd] at h; cases us <;> simp at h
   | some ud =>
    rw [hs, hd] at hk h
    cases ud <;> cases us <;> simp only [reduceCtorEq] at hk
    rename_i e
    have h3 := fun (H2 : Hp) (h2 : ∀ y ∈ #[x], ∀ (id : Nat), (ev T y).id? = some id → ∀ (b : AB), H[id]? = some b → H2[id]? = some b) => (id_dem1 (ev T x)) ▸ h2 x (by simp)
    generalize (ev T x).dem1 = y at h h3 ⊢
    cases hx : y with
    | nilslice =>
     rw [hx] at h
     simp only at h ⊢
     split at h
     ·simp_all
     ·cases h
    | slice id g off n sz cp =>
     rw [hx] at h
     simp only at h ⊢
     split at h
     ·rename_i hu
      cases hg : getRow H id g with
      | none => rw [hg] at h; cases h
      | some r =>
       rw [hg] at h
       simp only [Option.bind_some] at h
       split at h
       ·rename_i hc
        obtain ⟨q, hq, rfl, rfl⟩ := opt_pair (f := V.str) h
        refine ⟨rfl, fun H2 h2 => ?_⟩
        rw [getRow_keep hg (h3 H2 h2 id (by rw [hx]; rfl))]
        simp only [Option.bind_some]
        rw [if_pos hc, hq]
        rfl
       ·cases h
     ·cases h
    | str l => rw [hx] at h; simp only [Option.some.injEq, Prod.mk.injEq] at h; exact ⟨h.2.symm, fun H2 _ => by simp [h.1]⟩
    | isl cs n sz =>
     rw [hx] at h
     simp only at h ⊢
     split at h
     ·split at h
      ·rename_i hc
       obtain ⟨q, hq, rfl, rfl⟩ := opt_pair (f := V.str) h
       exact ⟨rfl, fun H2 h2 => by rw [if_pos hc, hq]; rfl⟩
      ·cases h
     ·cases h
    | _ => rw [hx] at h; simp only at h; split at h <;> cases h
 case call c =>
  simp only [opB, Op.operands] at h ⊢
  split at h
  ·rename_i b hb
   rw [hb] at hk
   cases b <;> simp only [reduceCtorEq] at hk
   simp only [builtinV] at h ⊢
   split at h <;> try (contradiction)
   ·rename_i t r x' _ hts hargs
    obtain ⟨q, hq, rfl, rfl⟩ := opt_pair (f := fun x => x) h
    refine ⟨rfl, fun H2 h2 => ?_⟩
    obtain ⟨x, hx, hev⟩ : ∃ x ∈ c.args.toList, ev T x = x' := by
     have : x' ∈ c.args.toList.map (ev T) := by rw [hargs]; simp
     simpa using this
    have h2' := h2 x (by simp at hx; simp [Call.operands, hx])
    rw [hev, ← id_dem1] at h2'
    have : lenV P t H2 x'.dem1 = some v := by
     generalize x'.dem1 = y at hq h2' ⊢
     unfold lenV at hq ⊢
     split at hq
     case h_8 k e id hu =>
      cases hg : getMap H' id with
      | none => rw [hg] at hq; cases hq
      | some r =>
       rw [hg] at hq
       rw [getMap_keep hg (h2' id rfl)]
       exact hq
     all_goals simp_all
    rw [this]; rfl
  ·cases h
theorem allocB_law {o : Op} {T : Fr} {H H' : Hp} {v : V} (hk : kindB P o = .alloc) (h : opB P o T H = some (v, H')) :
  ∃ b, b ≠ .hole ∧ H' = H ++ [b] ∧ ∀ H2 : Hp, H2.length = H.length → opB P o T H2 = some (v, H2 ++ [b]) := by
 have row : ∀ {cs : List V} {H H' : Hp} {v : V}, newRowV cs H = some (v, H') → ∃ b, b ≠ .hole ∧ H' = H ++ [b] ∧ ∀ H2 : Hp, H2.length = H.length → newRowV cs H2 = some (v, H2 ++ [b]) := by
  intro cs H H' v h
  unfold newRowV at h ⊢
  split at h
  ·rename_i hc
   simp only [Option.some.injEq, Prod.mk.injEq] at h
   refine ⟨.row 0 cs true, nofun, h.2.symm, fun H2 e => ?_⟩
   rw [if_pos hc, e, h.1]
  ·cases h
 cases o <;> simp only [kindB, reduceCtorEq] at hk
 case alloc e =>
  simp only [opB] at h ⊢
  cases hz : zeroV P e with
  | none => rw [hz] at h; cases h
  | some z => rw [hz] at h; exact row h
 case box e x => simp only [opB] at h ⊢; exact row h
 case buildSlice t n ps =>
  simp only [opB, buildSliceV] at h ⊢
  split at h
  ·rename_i e hu
   cases hs : szOf P e with
   | none => rw [hs] at h; cases h
   | some sz =>
    cases hz : zeroV P e with
    | none => rw [hs, hz] at h; cases h
    | some z =>
     rw [hs, hz] at h
     simp only [Option.bind_some] at h ⊢
     split at h
     ·rename_i hc
      simp only [hc, and_self, if_true]
      generalize fillV _ _ _ = q at h ⊢
      cases q with
      | none => cases h
      | some cs =>
       simp only [Option.bind_some] at h ⊢
       split at h
       ·rename_i hc2
        simp only [Option.some.injEq, Prod.mk.injEq] at h
        refine ⟨.row 0 cs true, nofun, h.2.symm, fun H2 e => ?_⟩
        rw [if_pos hc2, e, h.1]
       ·cases h
     ·cases h
  ·cases h
 case range t x =>
  simp only [opB, rangeV] at h ⊢
  split at h
  ·rename_i s hu hx
   simp only [Option.some.injEq, Prod.mk.injEq] at h
   refine ⟨.siter s 0, nofun, h.2.symm, fun H2 e => ?_⟩
   rw [e, h.1]
  ·cases h
 case makeMap t r =>
  cases r with
  | some _ => simp [opB] at h
  | none =>
   simp only [opB] at h ⊢
   split at h
   ·rename_i kt et hu
    simp only [Option.some.injEq, Prod.mk.injEq] at h
    refine ⟨.map kt [], nofun, h.2.symm, fun H2 e => ?_⟩
    rw [e, h.1]
   ·cases h
 case makeSlice t n c =>
  simp only [opB, makeSliceV] at h ⊢
  split at h
  ·rename_i e n' c' hu hn hc
   cases hs : szOf P e with
   | none => rw [hs] at h; cases h
   | some sz =>
    cases hb : bytesOf' P e with
    | none => rw [hs, hb] at h; cases h
    | some by_ =>
     cases hz : zeroV P e with
     | none => rw [hs, hb, hz] at h; cases h
     | some z =>
      rw [hs, hb, hz] at h
      simp only [Option.bind_some] at h ⊢
      split at h
      ·rename_i hc
       simp only [Option.some.injEq, Prod.mk.injEq] at h
       refine ⟨.row 0 (repeatV z.cells n'.toNat) true, nofun, h.2.symm, fun H2 e => ?_⟩
       rw [if_pos hc, e, h.1]
      ·cases h
  ·cases h
 case convert s d x =>
  simp only [opB, convV] at h ⊢
  cases hs : P.underlying s with
  | none => rw [hs] at h; simp at h
  | some us =>
   cases hd : P.underlying d with
   | none => rw [hs, hd] at h; cases us <;> simp at h
   | some ud =>
    rw [hs, hd] at hk h
    cases ud <;> cases us <;> simp only [reduceCtorEq] at hk
    rename_i e
    cases hx : (ev T x).dem1 with
    | str l =>
     rw [hx] at h
     simp only at h ⊢
     split at h
     ·rename_i hu
      split at h
      ·rename_i hc
       simp only [Option.some.injEq, Prod.mk.injEq] at h
       refine ⟨.row 0 (l.map fun b => .int .u8 b.toNat) true, nofun, h.2.symm, fun H2 e => ?_⟩
       rw [if_pos hc, e, h.1]
      ·cases h
     ·cases h
    | _ => rw [hx] at h; simp at h
 case call c =>
  cases hc : c.callee with
  | builtin b => rw [hc] at hk; cases b <;> simp at hk
  | _ => rw [hc] at hk; simp at hk
variable [Orc]
theorem kind_imm {o : Oper} (h : immO o = true) : kind P o = .pure := by unfold kind; rw [if_pos h]
theorem kind_base {o : Oper} (h : immO o = false) : kind P o = kindB P o.op := by unfold kind; rw [if_neg (by simp [h])]
theorem pure_law {o : Oper} {T : Fr} {H H' : Hp} {v : V} (hk : kind P o = .pure) (h : opV P o T H = some (v, H')) : H' = H ∧ ∀ H2, opV P o T H2 = some (v, H2) := by
 unfold opV at h ⊢
 cases hi : immO o with
 | true =>
  simp only [hi, if_true] at h ⊢
  obtain ⟨w, hw, e⟩ := Option.map_eq_some_iff.1 h
  injection e with e1 e2
  subst e1 e2
  exact ⟨rfl, fun H2 => by rw [hw]; rfl⟩
 | false =>
  simp only [hi, Bool.false_eq_true, if_false] at h ⊢
  exact pureB_law (by rw [← kind_base hi]; exact hk) h
theorem read_law {o : Oper} {T : Fr} {H H' : Hp} {v : V} (hk : kind P o = .read) (h : opV P o T H = some (v, H')) :
  H' = H ∧ ∀ H2, (∀ x ∈ o.op.operands, ∀ id, (ev T x).id? = some id → ∀ b, H[id]? = some b → H2[id]? = some b) → opV P o T H2 = some (v, H2) := by
 unfold opV at h ⊢
 cases hi : immO o with
 | true => rw [kind_imm hi] at hk; cases hk
 | false =>
  simp only [hi, Bool.false_eq_true, if_false] at h ⊢
  exact readB_law (by rw [← kind_base hi]; exact hk) h
theorem alloc_law {o : Oper} {T : Fr} {H H' : Hp} {v : V} (hk : kind P o = .alloc) (h : opV P o T H = some (v, H')) :
  ∃ b, b ≠ .hole ∧ H' = H ++ [b] ∧ ∀ H2 : Hp, H2.length = H.length → opV P o T H2 = some (v, H2 ++ [b]) := by
 unfold opV at h ⊢
 cases hi : immO o with
 | true => rw [kind_imm hi] at hk; cases hk
 | false =>
  simp only [hi, Bool.false_eq_true, if_false] at h ⊢
  exact allocB_law (by rw [← kind_base hi]; exact hk) h
end
end Go.An
namespace Go.An
open Go
section
variable [Orc]
variable {P : Program} {b0 N : Nat} {ρ : Ren} {W : World}
def FW (ro : Option Nat) : Fence := { Fence.wide with round := ro }
theorem fw_none : FW none = Fence.wide := rfl
theorem callsIn_fw {ro : Option Nat} {n : Nat} {f : FuncId} {args : Array Value} {w : World} {R : Ending → World → Prop} : CallsIn (FW ro) n P f args w R ↔ Calls P f args w R :=
 (callsIn_wide (n := n) : CallsIn Fence.wide n P f args w R ↔ Calls P f args w R)
theorem roundIn_fw {ro : Option Nat} {n m : Nat} {l : Nat} {f : FuncId} {tmps : Array Value} {assign body : Code} {w : World} {R : Ending → World → Prop} (h : RoundIn Fence.wide m P l f tmps assign body w R) : RoundIn (FW ro) n P l f tmps assign body w R :=
 ⟨trivial, fun c cs _ => h.2 c cs (room_wide _)⟩
def DR (ρ : Ren) (r : Nat × List V) (d : Deferred) : Prop :=
 (r.1 ≠ Y0 ∧ ∃ cap, d.target = .fn (.func r.1) cap ∧ VL (VR ρ) r.2 (d.args ++ cap).toList) ∨ (r.1 = Y0 ∧ ∃ id l, r.2 = [.ptr id 0 0] ∧ ρ id 0 = some l ∧ d.target = .collected l.blk)
theorem DR.mono {ρ ρ' : Ren} (h : ρ.Le ρ') {r : Nat × List V} {d : Deferred} (hd : DR ρ r d) : DR ρ' r d := by
 rcases hd with ⟨h0, c, a, b⟩ | ⟨h0, id, l, a, b, c⟩
 ·exact .inl ⟨h0, c, a, b.imp fun _ _ => VR.mono h⟩
 ·exact .inr ⟨h0, id, l, a, h.r _ _ _ b, c⟩
def DfR (ρ : Ren) : List (Nat × List V) → List Deferred → Prop
 | [], [] => True
 | r :: rs, d :: ds => DR ρ r d ∧ DfR ρ rs ds
 | _, _ => False
theorem VL.mono' {ρ ρ' : Ren} (h : ρ.Le ρ') {l : List V} {l' : List Value} (hl : VL (VR ρ) l l') : VL (VR ρ') l l' := hl.imp fun _ _ => VR.mono h
theorem DfR.mono {ρ ρ' : Ren} (h : ρ.Le ρ') : ∀ {l : List (Nat × List V)} {l' : List Deferred}, DfR ρ l l' → DfR ρ' l l'
 | [], [], _ => trivial
 | _ :: _, _ :: _, hl => ⟨hl.1.mono h, hl.2.mono h⟩
 | [], _ :: _, hl => hl.elim
 | _ :: _, [], hl => hl.elim
def DfO : Option Nat → Ren → List (Nat × List V) → List Deferred → Prop
 | none, ρ, D, ds => DfR ρ D ds
 | some _, _, D, ds => D = [(Y0, [])] ∧ ds = []
theorem DfO.mono {ro : Option Nat} {ρ ρ' : Ren} (h : ρ.Le ρ') {l : List (Nat × List V)} {l' : List Deferred} (hl : DfO ro ρ l l') : DfO ro ρ' l l' := by
 cases ro with
 | none => exact DfR.mono h hl
 | some _ => exact hl
theorem DfO.rnd {ro : Option Nat} {ρ : Ren} {D : List (Nat × List V)} {ds : List Deferred} (h : DfO ro ρ D ds) : inRound D = ro.isSome := by
 cases ro with
 | some _ => obtain ⟨rfl, _⟩ := h; rfl
 | none =>
  unfold inRound
  split
  ·rename_i k
   match ds, h with
   | d :: ds, h =>
    rcases h.1 with ⟨h0, _⟩ | ⟨_, id, l, h1, _⟩
    ·simpa using h0
    ·cases h1
  ·rfl
structure StR (P : Program) (b0 : Nat) (ρ : Ren) (N : Nat) (ro : Option Nat) (s : St) (a : Act) (W : World) : Prop where
 rel : Rel P b0 ρ s.H W
 fr : FrR ρ s.T a.tmps
 sz : a.tmps.size = N
 df : DfO ro ρ s.D a.defers
def RoundOut (P : Program) (b0 : Nat) (ρ : Ren) (H : Hp) (W : World) (l : Nat) (us : Array Value) (v : V) (H' : Hp) : Prop :=
 ∃ f tmps ca cb, (Instr.yield l us).run P W = .ok (.round l f tmps ca cb) W ∧ RoundIn Fence.wide 0 P l f tmps ca cb W fun e W' => ∃ u ρ', e = .returned u ∧ VR ρ' v u ∧ Step P b0 ρ ρ' H H' W W'
def CallOut (P : Program) (b0 : Nat) (ρ : Ren) (H : Hp) (W : World) (r : Result Next) (v : V) (H' : Hp) : Prop :=
 (∃ k us, r = .ok (.enter k us) W ∧ Calls P k us W fun e W' => ∃ u ρ', e = .returned u ∧ VR ρ' v u ∧ Step P b0 ρ ρ' H H' W W') ∨
 (∃ u W' ρ', r = .ok (.value u) W' ∧ VR ρ' v u ∧ Step P b0 ρ ρ' H H' W W')
def ClOk (P : Program) (cl : CallT) : Prop :=
 ∀ k args H v H', cl k args H = some (v, H') → ∀ b0 ρ W, Rel P b0 ρ H W →
  (k ≠ Y0 → ∀ us : Array Value, VL (VR ρ) args us.toList → CallOut P b0 ρ H W ((callFunc k us).run P W) v H') ∧
  (k = Y0 → ∀ id vs l (us : Array Value), args = .yld id :: vs → ρ id 0 = some l → VL (VR ρ) vs us.toList → RoundOut P b0 ρ H W l.blk us v H')
theorem get_nil (i : Nat) : get [] i = .undef := rfl
theorem get_put : ∀ (T : Fr) (d : Nat) (v : V) (i : Nat), get (put T d v) i = if i = d then v else get T i
 | [], 0, v, 0 => rfl
 | [], 0, v, i + 1 => by simp [put, get]
 | [], d + 1, v, 0 => by simp [put, get]
 | [], d + 1, v, i + 1 => by
  have := get_put [] d v i
  simp only [get, put, List.getD_cons_succ, List.getD_nil] at this ⊢
  rw [this]
  simp
 | x :: T, 0, v, 0 => rfl
 | x :: T, 0, v, i + 1 => by simp [put, get]
 | x :: T, d + 1, v, 0 => by simp [put, get]
 | x :: T, d + 1, v, i + 1 => by
  have := get_put T d v i
  simp only [get, put, List.getD_cons_succ] at this ⊢
  rw [this]
  simp
theorem setO_fr {s s' : St} {d : Option Nat} {v : V} (h : setO N s d v = some s') : s'.D = s.D ∧ s'.H = s.H ∧ ∀ i, get s'.T i = if d = some i then v else get s.T i := by
 cases d with
 | none => simp only [setO, Option.some.injEq] at h; subst h; simp
 | some d =>
  simp only [setO] at h
  split at h
  ·injection h with h; subst h
   refine ⟨rfl, rfl, fun i => ?_⟩
   rw [get_put]
   by_cases e : i = d
   ·subst e; simp
   ·rw [if_neg e, if_neg (by simpa using fun x => e x.symm)]
  ·cases h
theorem put_get (a : Act) (d : Option Tmp) (u : Value) (hd : ∀ t, d = some t → t < a.tmps.size) (i : Nat) : (a.put d u).tmps.getD i undef = if d = some i then u else a.tmps.getD i undef := by
 cases d with
 | none => simp [Act.put]
 | some d =>
  have hd := hd d rfl
  simp only [Act.put, Array.getD_eq_getD_getElem?, Option.some.injEq]
  by_cases e : d = i
  ·subst e; simp [hd]
  ·rw [Array.getElem?_setIfInBounds_ne e, if_neg e]
theorem put_size (a : Act) (d : Option Tmp) (u : Value) : (a.put d u).tmps.size = a.tmps.size := by cases d <;> simp [Act.put]
theorem put_defers' (a : Act) (d : Option Tmp) (u : Value) : (a.put d u).defers = a.defers := by cases d <;> rfl
theorem setO_lt {s s' : St} {d : Option Nat} {v : V} (h : setO N s d v = some s') : ∀ t, d = some t → t < N := by
 rintro t rfl
 simp only [setO] at h
 split at h
 ·assumption
 ·cases h
variable {ro : Option Nat} {n : Nat}
theorem setO_sim {s s' : St} {a : Act} {d : Option Nat} {v : V} {u : Value} (hs : StR P b0 ρ N ro s a W) (hv : VR ρ v u) (h : setO N s d v = some s') : StR P b0 ρ N ro s' (a.put d u) W := by
 obtain ⟨h1, h2, h3⟩ := setO_fr h
 refine ⟨h2 ▸ hs.rel, fun i => ?_, (put_size a d u).trans hs.sz, ?_⟩
 ·rw [h3, put_get a d u (fun t ht => hs.sz ▸ setO_lt h t ht)]
  split
  ·exact hv
  ·exact hs.fr i
 ·rw [put_defers', h1]; exact hs.df
theorem wanted_sim {all : Array Oper} {o : Oper} {T : Fr} {tmps : Array Value} {w : Bool} (hT : ∀ t ∈ namesOf all.toList o, VR ρ (get T t) (tmps.getD t undef)) (h : wantedV all.toList o T = some w) : Region.wanted o (yielded all tmps) = w := by
 unfold wantedV at h
 unfold Region.wanted
 cases hg : o.guard with
 | none => rw [hg] at h; simpa using h
 | some g =>
  obtain ⟨j, want⟩ := g
  rw [hg] at h
  simp only at h ⊢
  rw [Array.getElem?_toList] at h
  unfold yielded
  cases hd : (all[j]?).bind (·.dst) with
  | none => rw [hd] at h; simp only [Option.some.injEq] at h; simp [← h]
  | some d =>
   rw [hd] at h
   simp only [Option.bind_some] at h ⊢
   have hR := hT d (by simp [namesOf, hg, hd])
   have hl : tmps[d]? = some (tmps.getD d undef) ∨ tmps[d]? = none ∧ tmps.getD d undef = undef := by
    rcases Nat.lt_or_ge d tmps.size with hlt | hge
    ·exact .inl (by simp [hlt])
    ·exact .inr (by simp [Array.getElem?_eq_none hge])
   generalize get T d = x at hR h
   generalize tmps.getD d undef = u at hR hl
   split at h
   ·injection h with h
    have hu : u = .bool _ := hR
    subst hu
    rcases hl with hl | ⟨_, hl⟩
    ·rw [hl, ← h]
     cases ‹Bool› <;> cases want <;> rfl
    ·cases hl
   ·cases h
   ·rename_i hb hu
    injection h with h
    subst h
    have hnb : ∀ b, u ≠ .bool b := by
     cases x <;> first
      | exact absurd rfl (hb _)
      | exact absurd rfl hu
      | (obtain ⟨_, _, h1, _⟩ := VI_isl hR; subst h1; intro b; nofun)
      | (obtain ⟨_, _, _, h1, _⟩ := VI_ipt hR; subst h1; intro b; nofun)
      | (rcases hR with ⟨_, _, h1⟩ | ⟨_, _, _, _, _, _, _, h1, _⟩ <;> (subst h1; intro b; nofun))
      | (obtain ⟨_, _, h1, _⟩ := hR; subst h1; intro b; nofun)
      | (have := hR; simp only [VR, VA, VC, VB] at this)
     all_goals first
      | (subst this; nofun)
      | (obtain ⟨_, rfl, _⟩ := this; nofun)
      | (obtain ⟨_, _, rfl⟩ := this; nofun)
      | (obtain ⟨_, _, _, _, rfl, _⟩ := this; nofun)
      | (obtain ⟨_, _, rfl, _⟩ := this; nofun)
    rcases hl with hl | ⟨hl, _⟩
    ·rw [hl]
     cases u <;> first | rfl | exact absurd rfl (hnb _)
    ·rw [hl]; rfl
theorem evk_sim {T : Fr} {a : Act} {k : Nat} (hT : FrR ρ T a.tmps) (xs : List Operand) : VL (VR ρ) (xs.map fun x => if Orc.keep k = true then ev T x else (ev T x).dem) (xs.map a.eval) := by
 induction xs with
 | nil => trivial
 | cons x xs ih =>
  refine ⟨?_, ih⟩
  split
  ·exact ev_sim hT x
  ·exact dem_VR (ev_sim hT x)
theorem evm_sim {T : Fr} {a : Act} (hT : FrR ρ T a.tmps) (xs : List Operand) : VL (VR ρ) (xs.map fun x => (ev T x).dem) (xs.map a.eval) := by
 induction xs with
 | nil => trivial
 | cons x xs ih => exact ⟨dem_VR (ev_sim hT x), ih⟩
theorem run_method {t : TypeId} {name : String} {k : FuncId} (h : methV P t name = some k) (u : Value) (args : Array Value) (W : World) : (callMethod (.iface t u) name args).run P W = (callFunc k (#[u] ++ args)).run P W := by
 unfold methV at h
 cases hi : P.info? t with
 | none => rw [hi] at h; cases h
 | some i =>
  rw [hi] at h
  simp only [Option.bind_some] at h
  cases hm : i.methods.find? (·.name == name) with
  | none => rw [hm] at h; cases h
  | some m =>
   rw [hm] at h
   simp only [Option.bind_some] at h
   split at h
   ·rename_i hp
    have hp' : m.path.toList = [] := by rw [Array.toList_eq_nil_iff]; simpa using hp
    cases hf : m.func with
    | none => rw [hf] at h; cases h
    | some q =>
     obtain ⟨f, b⟩ := q
     rw [hf] at h
     simp only [Option.bind_some] at h
     have hrun : ∀ fuel, (method (fuel + 1) t u name).run P W = .ok (k, u) W := by
      intro fuel
      unfold method
      have hti : (typeInfo t : Sem _).run P W = .ok i W := run_typeInfo W hi
      simp only [Sem.run_bind, hti, Result.andThen_ok, hm, hp', follow, Sem.run_pure, hf]
      cases hu : P.underlying t with
      | none => rw [hu] at h; cases h
      | some d =>
       rw [hu] at h
       cases d <;> simp only at h <;> split at h <;> first
        | (cases h; done)
        | (rename_i hb; injection h with h; subst h; subst hb; simp [receiverAt, run_underlying hu, Place.get])
     have hd : P.types.size + Made.depth = (P.types.size + (Made.depth - 1)) + 1 := rfl
     simp only [callMethod, Sem.run_bind, run_program, Result.andThen_ok]
     rw [hd, hrun]
     rfl
   ·cases h
inductive CalleeR (P : Program) (ρ : Ren) (a : Act) (c : Call) (type : TypeId) (W : World) : Nat × List V → Prop
 | fn {k : Nat} {args : List V} {cap us : Array Value} : k ≠ Y0 → (resolve a.eval c type).run P W = .ok { target := .fn (.func k) cap, args := us } W → VL (VR ρ) args (us ++ cap).toList → CalleeR P ρ a c type W (k, args)
 | meth {k : Nat} {args : List V} {us : Array Value} {tg : Target} {as : Array Value} : k ≠ Y0 → (∀ f, c.callee ≠ .value f) → (resolve a.eval c type).run P W = .ok { target := tg, args := as } W → (invoke tg as).run P W = (callFunc k us).run P W → VL (VR ρ) args us.toList → CalleeR P ρ a c type W (k, args)
 | yld {id : Nat} {l : Loc} {args : List V} {us : Array Value} : ρ id 0 = some l → (resolve a.eval c type).run P W = .ok { target := .fn (.yield l.blk) #[], args := us } W → VL (VR ρ) args us.toList → CalleeR P ρ a c type W (Y0, .yld id :: args)
theorem callee_sim {T : Fr} {a : Act} {c : Call} {type : TypeId} {r : Nat × List V} (hT : FrR ρ T a.tmps) (h : calleeV P T c = some r) (W : World) : CalleeR P ρ a c type W r := by
 unfold calleeV at h
 split at h
 ·rename_i f hf
  have hv := ev_sim hT f
  split at h
  ·rename_i k x y e
   rw [e] at hv
   split at h
   ·cases h
   ·rename_i hk
    injection h with h
    subst h
    obtain ⟨x', y', hv, hx, hy⟩ := hv
    refine .fn (cap := y') (us := x' ++ c.args.map a.eval) hk ?_ ?_
    ·simp [resolve, hf, hv, Deferred.ofValue]
    ·simp only [Array.toList_append, Array.toList_map]
     exact ((hx.imp fun _ _ h => VC.toVR (by rename_i a b; cases a <;> first | exact h | exact h.elim)).append (evk_sim hT _)).append (hy.imp fun _ _ h => VC.toVR (by rename_i a b; cases a <;> first | exact h | exact h.elim))
  ·rename_i id e
   rw [e] at hv
   injection h with h
   subst h
   obtain ⟨l, hl, hv⟩ := hv
   refine .yld (us := c.args.map a.eval) hl ?_ ?_
   ·simp [resolve, hf, hv, Deferred.ofValue]
   ·rw [Array.toList_map]; exact evm_sim hT _
  ·cases h
 ·rename_i r nm hf
  have hv := ev_sim hT r
  split at h
  ·rename_i t b cs e
   rw [e] at hv
   cases hm : methV P t nm with
   | none => rw [hm] at h; cases h
   | some k =>
    rw [hm] at h
    simp only [Option.bind_some] at h
    split at h
    ·cases h
    ·rename_i hk
     obtain ⟨v, hv1, rfl⟩ := Option.map_eq_some_iff.1 h
     obtain ⟨cs', u, hv, hcs, hb⟩ := hv
     refine .meth (us := #[u] ++ c.args.map a.eval) (tg := .fn (.method nm) #[]) (as := #[a.eval r] ++ c.args.map a.eval) hk (by rw [hf]; nofun) ?_ ?_ ?_
     ·simp [resolve, hf]
     ·rw [← run_method hm]
      rw [hv]
      generalize c.args.map a.eval = ys
      have e0 : (#[Value.iface t u] ++ ys)[0]? = some (Value.iface t u) := by
       rw [← Array.getElem?_toList]; simp
      have e1 : (#[Value.iface t u] ++ ys).extract 1 (#[Value.iface t u] ++ ys).size = ys := by
       apply Array.ext'
       simp [List.take_of_length_le]
      simp only [invoke, e0, e1]
     ·simp only [Array.toList_append, Array.toList_map]
      refine VL.append (l := [v]) ⟨?_, trivial⟩ (evk_sim hT _)
      rcases hb with ⟨rfl, rfl⟩ | ⟨rfl, rfl⟩
      ·simp only [if_true, Option.some.injEq] at hv1
       subst hv1
       exact ⟨cs', rfl, hcs.imp fun x y h => by cases x <;> first | exact h | exact h.elim⟩
      ·simp only [Bool.false_eq_true, if_false] at hv1
       match cs, hcs, hv1 with
       | x :: xs, hcs, hv1 =>
        simp only [List.head?_cons, Option.some.injEq] at hv1
        subst hv1
        have := hcs.1
        exact VC.toVR (by cases x <;> first | exact this | exact this.elim)
  ·cases h
 ·cases h
theorem sem_fw {o : Oper} {ro : Option Nat} {ρ : Operand → Value} (h : ∀ c, o.op ≠ .defer c) : o.semAt (FW ro).round ρ = execOp ρ o := Oper.semAt_eq _ _ _ h
theorem step_sim {cl : CallT} (hcl : ClOk P cl) {s s1 : St} {a : Act} {o : Oper} {v : V} (hs : StR P b0 ρ N ro s a W) (h : stepV P cl o s = some (v, s1)) {next : Act → World → Prop} {Q : Exit → Act → World → Prop}
  (hn : ∀ u ρ' (a1 : Act) W', a1.tmps = a.tmps → s1.T = s.T → VR ρ' v u → DfO ro ρ' s1.D a1.defers → Step P b0 ρ ρ' s.H s1.H W W' → next (a1.put o.dst u) W') : o.wpIn (FW ro) n P a W next Q := by
 have hop : (∀ c, o.op ≠ .defer c) → ∀ q, opV P o s.T s.H = some q → v = q.1 → s1 = { s with H := q.2 } → o.wpIn (FW ro) n P a W next Q := by
  rintro hnd ⟨v', H'⟩ hq rfl rfl
  obtain ⟨nv, u, W', ρ', h1, h2, h3, h4⟩ := op_sim hs.rel hs.fr hq
  refine ⟨fun _ _ => trivial, ?_⟩
  rw [sem_fw hnd, h1]
  rcases h2 with rfl | ⟨rfl, rfl⟩
  ·exact hn u ρ' a W' rfl rfl h3 (hs.df.mono h4.le) h4
  ·exact hn undef ρ' a W' rfl rfl h3 (hs.df.mono h4.le) h4
 obtain ⟨dst, op, type, pos, after, guard⟩ := o
 have hcall : ∀ c, op = .call c → ((calleeV P s.T c).bind fun r => (cl r.1 r.2 s.H).map fun q => (q.1, { s with H := q.2 })) = some (v, s1) → Oper.wpIn (FW ro) n P ⟨dst, op, type, pos, after, guard⟩ a W next Q := by
  rintro c rfl h
  cases hr : calleeV P s.T c with
  | none => rw [hr] at h; cases h
  | some r =>
   rw [hr] at h
   simp only [Option.bind_some] at h
   obtain ⟨⟨v', H'⟩, hq, e⟩ := Option.map_eq_some_iff.1 h
   injection e with e1 e2
   subst e1 e2
   have hok := hcl _ _ _ _ _ hq b0 ρ W hs.rel
   refine ⟨fun _ _ => trivial, ?_⟩
   rw [sem_fw (by nofun)]
   have done : ∀ {k : Nat} {us : Array Value}, CallOut P b0 ρ s.H W ((callFunc k us).run P W) v' H' → (execOp a.eval ⟨dst, .call c, type, pos, after, guard⟩).run P W = (callFunc k us).run P W →
     Oper.uponIn (FW ro) n P ⟨dst, .call c, type, pos, after, guard⟩ a next Q ((execOp a.eval ⟨dst, .call c, type, pos, after, guard⟩).run P W) := by
    intro k us ho hrun
    rw [hrun]
    rcases ho with ⟨k, us, h3, h4⟩ | ⟨u, W', ρ', h3, h4, h5⟩
    ·rw [h3, Oper.uponIn_enter]
     refine ⟨nofun, callsIn_fw.2 (h4.mono fun e W' he => ?_)⟩
     obtain ⟨u, ρ', rfl, hv, hst⟩ := he
     exact hn u ρ' a W' rfl rfl hv (hs.df.mono hst.le) hst
    ·rw [h3]
     exact hn u ρ' a W' rfl rfl h4 (hs.df.mono h5.le) h5
   cases callee_sim (P := P) (type := type) hs.fr hr W with
   | fn hk h1 h2 =>
    exact done (hok.1 hk _ h2) (by simp only [execOp, Sem.run_bind, h1, Result.andThen_ok, invoke])
   | meth hk _ h1 h3 h2 =>
    exact done (hok.1 hk _ h2) (by simp only [execOp, Sem.run_bind, h1, Result.andThen_ok, h3])
   | yld hl h1 h2 =>
    rename_i id l args us
    obtain ⟨f, tmps, ca, cb, h3, h4⟩ := hok.2 rfl _ _ _ _ rfl hl h2
    have hrun : (execOp a.eval ⟨dst, .call c, type, pos, after, guard⟩).run P W = .ok (.round l.blk f tmps ca cb) W := by
     simp only [execOp, Sem.run_bind, h1, Result.andThen_ok, invoke, h3]
    rw [hrun, Oper.uponIn_round]
    refine ⟨nofun, roundIn_fw (h4.mono fun e W' he => ?_)⟩
    obtain ⟨u, ρ', rfl, hv, hst⟩ := he
    exact hn u ρ' a W' rfl rfl hv (hs.df.mono hst.le) hst
 cases op with
 | defer c =>
  simp only [stepV] at h
  have hrd := hs.df.rnd
  split at h
  ·cases h
  ·rename_i hr0
   obtain rfl : ro = none := by
    cases ro with
    | none => rfl
    | some l => exact absurd hrd hr0
   split at h
   case h_2 => cases h
   rename_i f hf
   cases hr : calleeV P s.T c with
   | none => rw [hr] at h; cases h
   | some r =>
    rw [hr] at h
    simp only [Option.bind_some] at h
    split at h
    ·cases h
    ·rename_i hne
     injection h with e
     injection e with e1 e2
     subst e1 e2
     cases callee_sim (P := P) (type := type) hs.fr hr W with
     | fn hk h1 h2 =>
      rename_i k args cap us
      refine ⟨fun _ _ => trivial, ?_⟩
      have : (execOp a.eval ⟨dst, .defer c, type, pos, after, guard⟩).run P W = .ok (.defer { target := .fn (.func k) cap, args := us }) W := by
       simp only [execOp, Sem.run_bind, h1, Result.andThen_ok, Sem.run_pure]
      show Oper.uponIn _ _ _ _ _ _ _ ((execOp a.eval ⟨dst, .defer c, type, pos, after, guard⟩).run P W)
      rw [this]
      exact hn undef ρ { a with defers := { target := .fn (.func k) cap, args := us } :: a.defers } W rfl rfl ⟨_, rfl, trivial⟩ ⟨.inl ⟨hk, cap, rfl, h2⟩, hs.df⟩ (Step.refl hs.rel)
     | yld _ _ _ => exact absurd rfl hne
     | meth hk h3 _ _ _ => exact absurd hf (h3 _)
 | call c =>
  simp only [stepV] at h
  cases hc : c.callee with
  | value f => rw [hc] at h; exact hcall c rfl h
  | invoke x y => rw [hc] at h; exact hcall c rfl h
  | builtin b =>
   rw [hc] at h
   obtain ⟨q, hq, e⟩ := Option.map_eq_some_iff.1 h
   injection e with e1 e2
   exact hop (by nofun) q hq e1.symm e2.symm
 | _ =>
  simp only [stepV] at h
  obtain ⟨q, hq, e⟩ := Option.map_eq_some_iff.1 h
  injection e with e1 e2
  exact hop (by nofun) q hq e1.symm e2.symm
theorem Rel.tok0 {H : Hp} (h : Rel P b0 ρ H W) : Step P b0 ρ ρ H (H ++ [.tok 0]) W W := by
 have hget : ∀ (i : Nat) b, (H ++ [AB.tok 0])[i]? = some b → H[i]? = some b ∨ (i = H.length ∧ b = .tok 0) := by
  intro i b hb
  rw [List.getElem?_append] at hb
  split at hb
  ·exact .inl hb
  ·rename_i hi
   by_cases e : i = H.length
   ·subst e; simp at hb; exact .inr ⟨rfl, hb.symm⟩
   ·rw [List.getElem?_eq_none (by simp; omega)] at hb; cases hb
 have hnone : ∀ g, ρ H.length g = none := fun g => h.fresh _ g (Nat.le_refl _)
 have hown : ∀ k, Owned ρ (H ++ [.tok 0]) k → Owned ρ H k := by
  rintro k ⟨i, b, l, hb, hl, ho⟩
  rcases hget i b hb with h1 | ⟨rfl, rfl⟩
  ·exact ⟨i, b, l, h1, hl, ho⟩
  ·rw [hnone] at hl; cases hl
 refine ⟨⟨fun id b hb hne => ?_, fun id g b hb hbo => ?_, fun i j bi bj li lj hij hi hj hli hlj ho1 ho2 => ?_, fun id g hid => ?_, fun id b g hb hg => ?_, h.size, fun k C hk => ⟨(h.imm k C hk).1, ?_⟩, fun id n l C hb hl hC => ?_⟩, Ren.Le.refl _, fun _ _ _ => rfl, fun k hk => .inl (hown k hk), Nat.le_refl _, by simp, rfl, rfl, rfl, fun _ _ h => .inl h⟩
 ·rcases hget id b hb with h1 | ⟨rfl, rfl⟩
  ·exact h.blk id b h1 hne
  ·cases hne
 ·rcases hget id b hb with h1 | ⟨rfl, rfl⟩
  ·exact h.hole id g b h1 hbo
  ·exact hnone g
 ·rcases hget i bi hi with h1 | ⟨rfl, rfl⟩
  ·rcases hget j bj hj with h2 | ⟨rfl, rfl⟩
   ·exact h.inj i j bi bj li lj hij h1 h2 hli hlj ho1 ho2
   ·rw [hnone] at hlj; cases hlj
  ·rw [hnone] at hli; cases hli
 ·simp at hid
  exact h.fresh id g (by omega)
 ·rcases hget id b hb with h1 | ⟨rfl, rfl⟩
  ·exact h.gen id b g h1 hg
  ·exact hnone g
 ·rintro ⟨i, b, l, hb, ht, hl, ho⟩
  rcases hget i b hb with h1 | ⟨rfl, rfl⟩
  ·exact (h.imm k C hk).2 ⟨i, b, l, h1, ht, hl, ho⟩
  ·rw [hnone] at hl; cases hl
 ·rcases hget id _ hb with h1 | ⟨rfl, _⟩
  ·exact h.tok id n l C h1 hl hC
  ·rw [hnone] at hl; cases hl
theorem stepA_sim {cl : CallT} (hcl : ClOk P cl) {s s1 : St} {a : Act} {o : Oper} {v : V} (hs : StR P b0 ρ N ro s a W) (h : stepA P cl N o s = some (v, s1)) {next : Act → World → Prop} {Q : Exit → Act → World → Prop}
  (hn : ∀ u ρ' (a1 : Act) W', a1.tmps = a.tmps → s1.T = s.T → VR ρ' v u → DfO ro ρ' s1.D a1.defers → Step P b0 ρ ρ' s.H s1.H W W' → next (a1.put o.dst u) W') : o.wpIn (FW ro) n P a W next Q := by
 unfold stepA at h
 split at h
 ·rename_i ha
  injection h with h
  injection h with h1 h2
  subst h1 h2
  obtain ⟨dst, op, type, pos, after, guard⟩ := o
  unfold accO at ha
  split at ha
  ·rename_i d e1 e2
   simp only at e1 e2
   subst e1 e2
   refine ⟨fun _ _ => trivial, ?_⟩
   rw [sem_fw (by nofun)]
   exact hn (.slice none 0 0) ρ a W rfl rfl (.inl ⟨rfl, rfl, rfl⟩) (hs.df) hs.rel.tok0
  ·cases ha
 ·exact step_sim hcl hs h hn
theorem stepSet_sim {cl : CallT} (hcl : ClOk P cl) {s s1 s2 : St} {a : Act} {o : Oper} {v : V} (hs : StR P b0 ρ N ro s a W) (h : stepV P cl o s = some (v, s1)) (h2 : setO N s1 o.dst v = some s2) {next : Act → World → Prop} {Q : Exit → Act → World → Prop}
  (hn : ∀ ρ' a' W', StR P b0 ρ' N ro s2 a' W' → Step P b0 ρ ρ' s.H s2.H W W' → next a' W') : o.wpIn (FW ro) n P a W next Q := by
 refine step_sim hcl hs h fun u ρ' a1 W' e1 e2 hv hd hst => ?_
 have h1 : StR P b0 ρ' N ro s1 a1 W' := ⟨hst.rel, by rw [e1, e2]; exact hs.fr.mono hst.le, by rw [e1]; exact hs.sz, hd⟩
 exact hn ρ' _ W' (setO_sim h1 hv h2) (by rw [(setO_fr h2).2.1]; exact hst)
theorem stepSetA_sim {cl : CallT} (hcl : ClOk P cl) {s s1 s2 : St} {a : Act} {o : Oper} {v : V} (hs : StR P b0 ρ N ro s a W) (h : stepA P cl N o s = some (v, s1)) (h2 : setO N s1 o.dst v = some s2) {next : Act → World → Prop} {Q : Exit → Act → World → Prop}
  (hn : ∀ ρ' a' W', StR P b0 ρ' N ro s2 a' W' → Step P b0 ρ ρ' s.H s2.H W W' → next a' W') : o.wpIn (FW ro) n P a W next Q := by
 refine stepA_sim hcl hs h fun u ρ' a1 W' e1 e2 hv hd hst => ?_
 have h1 : StR P b0 ρ' N ro s1 a1 W' := ⟨hst.rel, by rw [e1, e2]; exact hs.fr.mono hst.le, by rw [e1]; exact hs.sz, hd⟩
 exact hn ρ' _ W' (setO_sim h1 hv h2) (by rw [(setO_fr h2).2.1]; exact hst)
theorem opsV_sim {cl : CallT} (hcl : ClOk P cl) {ops : Array Oper} {Q : Exit → Act → World → Prop} : ∀ (rest : List Oper) (i : Nat) (ρ : Ren) (s s' : St) (a : Act) (W : World), ops.toList.drop i = rest → StR P b0 ρ N ro s a W →
  opsV P cl N ops.toList rest s = some s' → (∀ ρ' a' W', StR P b0 ρ' N ro s' a' W' → Step P b0 ρ ρ' s.H s'.H W W' → Q .normal a' W') → wpOpsIn (FW ro) n P ops Q (List.range' i (ops.size - i)) a W
 | [], i, ρ, s, s', a, W, hd, hs, h, hq => by
  have : ops.size ≤ i := by simpa using hd
  rw [show ops.size - i = 0 from by omega]
  simp only [opsV, Option.some.injEq] at h
  subst h
  exact hq ρ a W hs (Step.refl hs.rel)
 | o :: rest, i, ρ, s, s', a, W, hd, hs, h, hq => by
  have hlt : i < ops.size := by
   rcases Nat.lt_or_ge i ops.size with h | h
   ·exact h
   ·rw [List.drop_eq_nil_of_le (by simpa using h)] at hd; cases hd
  have ho : ops[i]? = some o := by
   have : ops.toList[i]? = some o := by rw [← Nat.add_zero i, ← List.getElem?_drop, hd]; rfl
   simpa using this
  have hd' : ops.toList.drop (i + 1) = rest := by
   have := congrArg (List.drop 1) hd
   simpa [List.drop_drop, Nat.add_comm] using this
  rw [show ops.size - i = (ops.size - (i + 1)) + 1 from by omega, List.range'_succ]
  simp only [wpOpsIn, ho]
  simp only [opsV] at h
  cases hw : wantedV ops.toList o s.T with
  | none => rw [hw] at h; cases h
  | some w =>
   rw [hw] at h
   simp only [Option.bind_some] at h
   ·rw [wanted_sim (ρ := ρ) (fun t _ => hs.fr t) hw]
    cases w with
    | true =>
     simp only [if_true] at h ⊢
     cases hst : stepA P cl N o s with
     | none => rw [hst] at h; cases h
     | some q =>
      obtain ⟨v, s1⟩ := q
      rw [hst] at h
      simp only [Option.bind_some] at h
      cases hset : setO N s1 o.dst v with
      | none => rw [hset] at h; cases h
      | some s2 =>
       rw [hset] at h
       simp only [Option.bind_some] at h
       refine stepSetA_sim hcl hs hst hset fun ρ' a' W' hs' hstep => ?_
       exact opsV_sim hcl rest (i + 1) ρ' s2 s' a' W' hd' hs' h fun ρ'' a'' W'' h1 h2 => hq ρ'' a'' W'' h1 (hstep.trans h2)
    | false =>
     simp only [Bool.false_eq_true, if_false] at h ⊢
     cases hset : setO N s o.dst (.tup []) with
     | none => rw [hset] at h; cases h
     | some s2 =>
      rw [hset] at h
      simp only [Option.bind_some] at h
      have hs' := setO_sim (u := undef) (v := .tup []) hs ⟨_, rfl, trivial⟩ hset
      refine ⟨fun _ _ => trivial, opsV_sim hcl rest (i + 1) ρ s2 s' _ W hd' hs' h fun ρ'' a'' W'' h1 h2 => hq ρ'' a'' W'' h1 ?_⟩
      rw [(setO_fr hset).2.1] at h2
      exact h2
end
end Go.An
namespace Go.An
open Go
def Ren.cut (ρ : Ren) (n : Nat) : Ren := ⟨fun id g => if id < n then ρ id g else none, ρ.m⟩
theorem Ren.cut_r (ρ : Ren) (n id g : Nat) : ρ.cut n id g = if id < n then ρ id g else none := rfl
def Ren.Bd (ρ : Ren) (n : Nat) : Prop := ∀ id g, n ≤ id → ρ id g = none
theorem Ren.cut_le (ρ : Ren) (n : Nat) : (ρ.cut n).Le ρ := by
 refine ⟨fun id g l h => ?_, fun _ C h => ⟨C, h, .refl C⟩⟩
 rw [Ren.cut_r] at h
 split at h
 ·exact h
 ·cases h
theorem Ren.cut_some {ρ : Ren} {n id g : Nat} {l : Loc} (h : ρ.cut n id g = some l) : id < n ∧ ρ id g = some l := by
 rw [Ren.cut_r] at h
 split at h
 ·exact ⟨by assumption, h⟩
 ·cases h
theorem Ren.cut_of {ρ ρ' : Ren} {n id g : Nat} {l l' : Loc} (h : ρ id g = some l) (h' : ρ' id g = some l') (hb : ρ'.Bd n) : ρ.cut n id g = some l := by
 rw [Ren.cut_r, if_pos]
 ·exact h
 ·rcases Nat.lt_or_ge id n with hlt | hge
  ·exact hlt
  ·rw [hb id g hge] at h'; cases h'
section
variable {ρ ρ' : Ren} {n : Nat}
theorem VB.cut (hb : ρ'.Bd n) : ∀ {v : V} {u u' : Value}, VB ρ v u → VB ρ' v u' → VB (ρ.cut n) v u := by
 intro v u u' h h'
 have em : (ρ.cut n).m = ρ.m := rfl
 cases v <;> simp only [VB, em] at h h' ⊢ <;> first | exact h | exact trivial | skip
 ·obtain ⟨l, a, b⟩ := h
  obtain ⟨l', a', _⟩ := h'
  exact ⟨l, Ren.cut_of a a' hb, b⟩
 ·obtain ⟨l, a, c, e, r⟩ := h
  obtain ⟨l', _, _, e', _⟩ := h'
  exact ⟨l, a, c, Ren.cut_of e e' hb, r⟩
 ·obtain ⟨l, a, b⟩ := h
  obtain ⟨l', a', _⟩ := h'
  exact ⟨l, Ren.cut_of a a' hb, b⟩
 ·rcases h with h | ⟨h0, h1, h2, l, c, C, h3, h4⟩
  ·exact .inl h
  ·rcases h' with ⟨h0', _⟩ | ⟨_, _, _, l', _, _, h3', _⟩
   ·omega
   ·exact .inr ⟨h0, h1, h2, l, c, C, Ren.cut_of h3 h3' hb, h4⟩
 ·obtain ⟨l, a, b⟩ := h
  obtain ⟨l', a', _⟩ := h'
  exact ⟨l, Ren.cut_of a a' hb, b⟩
theorem VL.both {R R' R2 : V → Value → Prop} (hh : ∀ a u u', R a u → R' a u' → R2 a u) : ∀ {l : List V} {k k' : List Value}, VL R l k → VL R' l k' → VL R2 l k
 | [], [], [], _, _ => trivial
 | _ :: _, _ :: _, _ :: _, h, h' => ⟨hh _ _ _ h.1 h'.1, VL.both hh h.2 h'.2⟩
 | [], _ :: _, _, h, _ => h.elim
 | [], [], _ :: _, _, h => h.elim
 | _ :: _, [], _, h, _ => h.elim
 | _ :: _, _ :: _, [], _, h => h.elim
theorem VC.cut (hb : ρ'.Bd n) {v : V} {u u' : Value} (h : VC ρ v u) (h' : VC ρ' v u') : VC (ρ.cut n) v u := by
 cases v <;> simp only [VC] at h h' ⊢ <;> first | exact VB.cut hb h h' | skip
 ·obtain ⟨a, b, e, r, s⟩ := h
  obtain ⟨a', b', e', r', s'⟩ := h'
  exact ⟨a, b, e, VL.both (R := VB ρ) (R' := VB ρ') (fun _ _ _ => VB.cut hb) r r', VL.both (R := VB ρ) (R' := VB ρ') (fun _ _ _ => VB.cut hb) s s'⟩
 ·obtain ⟨a, b, e, r, s⟩ := h
  obtain ⟨a', b', e', r', s'⟩ := h'
  exact ⟨a, b, e, VL.both (R := VB ρ) (R' := VB ρ') (fun _ _ _ => VB.cut hb) r r', s⟩
theorem VA.cut (hb : ρ'.Bd n) {v : V} {u u' : Value} (h : VA ρ v u) (h' : VA ρ' v u') : VA (ρ.cut n) v u := by
 cases v <;> simp only [VA] at h h' ⊢ <;> first | exact VC.cut hb h h' | skip
 obtain ⟨a, e, r⟩ := h
 obtain ⟨a', e', r'⟩ := h'
 exact ⟨a, e, VL.both (R := VC ρ) (R' := VC ρ') (fun _ _ _ => VC.cut hb) r r'⟩
theorem VR.cut (hb : ρ'.Bd n) {v : V} {u u' : Value} (h : VR ρ v u) (h' : VR ρ' v u') : VR (ρ.cut n) v u := by
 cases v <;> simp only [VR] at h h' ⊢ <;> first | exact VA.cut hb h h' | skip
 obtain ⟨a, e, r⟩ := h
 obtain ⟨a', e', r'⟩ := h'
 exact ⟨a, e, VL.both (R := VA ρ) (R' := VA ρ') (fun _ _ _ => VA.cut hb) r r'⟩
theorem DfR.cut (hb : ρ'.Bd n) : ∀ {D : List (Nat × List V)} {ds ds' : List Deferred}, DfR ρ D ds → DfR ρ' D ds' → DfR (ρ.cut n) D ds
 | [], [], [], _, _ => trivial
 | _ :: _, _ :: _, _ :: _, h, h' => by
  refine ⟨?_, DfR.cut hb h.2 h'.2⟩
  rcases h.1 with ⟨h0, c, a, r⟩ | ⟨h0, i, l, a, r, c⟩
  ·rcases h'.1 with ⟨_, c', a', r'⟩ | ⟨h0', _⟩
   ·exact .inl ⟨h0, c, a, VL.both (R := VR ρ) (R' := VR ρ') (fun _ _ _ => VR.cut hb) r r'⟩
   ·exact absurd h0' h0
  ·rcases h'.1 with ⟨h0', _⟩ | ⟨_, i', l', a', r', c'⟩
   ·exact absurd h0 h0'
   ·rw [a] at a'
    injection a' with a' _
    injection a' with a' _ _
    subst a'
    exact .inr ⟨h0, i, l, a, Ren.cut_of r r' hb, c⟩
 | [], _ :: _, _, h, _ => h.elim
 | [], [], _ :: _, _, h => h.elim
 | _ :: _, [], _, h, _ => h.elim
 | _ :: _, _ :: _, [], _, h => h.elim
theorem DfO.cut {ro : Option Nat} (hb : ρ'.Bd n) {D : List (Nat × List V)} {ds ds' : List Deferred} (h : DfO ro ρ D ds) (h' : DfO ro ρ' D ds') : DfO ro (ρ.cut n) D ds := by
 cases ro with
 | none => exact DfR.cut hb h h'
 | some _ => exact h
theorem LoopR.cut (hb : ρ'.Bd n) {L : LoopA} {l l' : Loop} (h : LoopR ρ L l) (h' : LoopR ρ' L l') : LoopR (ρ.cut n) L l := ⟨fun i => (h.fr i).cut hb (h'.fr i), h.sz, h.ps, h.ca, h.cb, h.st, h.pend⟩
variable {P : Program} {b0 : Nat}
theorem BlkOk.cut (hb : ρ'.Bd n) {W W' : World} {l l' : Loc} {b : AB} (h : BlkOk P b0 ρ W l b) (h' : BlkOk P b0 ρ' W' l' b) : BlkOk P b0 (ρ.cut n) W l b := by
 cases b with
 | row g cs own =>
  obtain ⟨h1, C, t, fr, h2, h3, h4⟩ := h
  obtain ⟨_, C', _, _, _, h3', _⟩ := h'
  refine ⟨h1, C, t, fr, h2, fun j v hv => ?_, h4⟩
  obtain ⟨u, a, r, c⟩ := h3 j v hv
  obtain ⟨u', _, r', _⟩ := h3' j v hv
  exact ⟨u, a, r.cut hb r', c⟩
 | map kt es =>
  obtain ⟨h1, h2, ents, clk, h3, h4⟩ := h
  obtain ⟨_, _, ents', clk', _, h4'⟩ := h'
  refine ⟨h1, h2, ents, clk, h3, ⟨h4.size, fun i e he => ?_, h4.born⟩⟩
  obtain ⟨m, a, r, c, d⟩ := h4.at_ i e he
  obtain ⟨m', _, r', c', _⟩ := h4'.at_ i e he
  exact ⟨m, a, r.cut hb r', c.cut hb c', d⟩
 | hole => exact h.elim
 | tok n => exact h
 | siter s p => exact h
 | loop L =>
  obtain ⟨h1, h2, q, h3, h4⟩ := h
  obtain ⟨_, _, q', _, h4'⟩ := h'
  exact ⟨h1, h2, q, h3, h4.cut hb h4'⟩
 | dfr b => exact h
theorem AB.ho_ne {b : AB} (h : b.ho = false) : b ≠ .hole := by
 rintro rfl
 cases h
def BdB (P : Program) (b0 n : Nat) (b : AB) : Prop := ∃ ρ' W' l', BlkOk P b0 ρ' W' l' b ∧ ρ'.Bd n
def viewH (n : Nat) (H : Hp) : Hp := H.take n ++ List.replicate (n - H.length) .hole
theorem viewH_length (n : Nat) (H : Hp) : (viewH n H).length = n := by simp [viewH]; omega
theorem viewH_get (n : Nat) (H : Hp) (i : Nat) : (viewH n H)[i]? = if i < n then (match H[i]? with | some b => some b | none => some .hole) else none := by
 unfold viewH
 rw [List.getElem?_append]
 simp only [List.length_take, List.getElem?_take, List.getElem?_replicate]
 by_cases h1 : i < n
 ·by_cases h2 : i < H.length
  ·rw [if_pos (by omega), if_pos h1, if_pos h1]
   rw [List.getElem?_eq_getElem h2]
  ·rw [if_neg (by omega), if_pos h1, if_pos (by omega), List.getElem?_eq_none (by omega)]
 ·rw [if_neg h1]
  split
  ·omega
  ·rw [if_neg (by omega)]
theorem viewH_in {n : Nat} {H : Hp} {i : Nat} {b : AB} (h : (viewH n H)[i]? = some b) (hb : b ≠ .hole) : i < n ∧ H[i]? = some b := by
 rw [viewH_get] at h
 split at h
 ·refine ⟨by assumption, ?_⟩
  split at h
  ·rename_i e; rw [e]; exact h
  ·injection h with h; exact absurd h.symm hb
 ·cases h
variable {H : Hp} {W : World}
theorem Rel.view (hR : Rel P b0 ρ H W) (hc : ∀ id b, id < n → H[id]? = some b → b.ho = false → BdB P b0 n b) : Rel P b0 (ρ.cut n) (viewH n H) W := by
 refine ⟨fun id b hb hne => ?_, fun id g b hb hbo => ?_, fun i j bi bj li lj hij hi hj hli hlj => ?_, fun id g hid => ?_, fun id b g hb hg => ?_, hR.size, fun k C hk => ?_, fun id m l C hb hl hC => ?_⟩
 ·obtain ⟨hlt, hb'⟩ := viewH_in hb (AB.ho_ne hne)
  obtain ⟨l, hl, hk⟩ := hR.blk id b hb' hne
  obtain ⟨ρ', W', l', hk', hbd⟩ := hc id b hlt hb' hne
  refine ⟨l, ?_, hk.cut hbd hk'⟩
  rw [Ren.cut_r, if_pos hlt, hl]
 ·rw [Ren.cut_r]
  split
  ·rw [viewH_get] at hb
   rename_i hlt
   rw [if_pos hlt] at hb
   cases he : H[id]? with
   | none => exact hR.fresh id g (by simpa using he)
   | some b => rw [he] at hb; injection hb with hb; subst hb; exact hR.hole id g _ he hbo
  ·rfl
 ·obtain ⟨h1, hli⟩ := Ren.cut_some hli
  obtain ⟨h2, hlj⟩ := Ren.cut_some hlj
  have key : ∀ {i b l}, (viewH n H)[i]? = some b → ρ i b.gen = some l → H[i]? = some b := by
   intro i b l hb hl
   rw [viewH_get] at hb
   split at hb
   ·cases he : H[i]? with
    | none => rw [hR.fresh i _ (by simpa using he)] at hl; cases hl
    | some b' => rw [he] at hb; exact hb
   ·cases hb
  exact hR.inj i j bi bj li lj hij (key hi hli) (key hj hlj) hli hlj
 ·rw [viewH_length] at hid
  rw [Ren.cut_r]
  exact if_neg (by omega)
 ·rw [Ren.cut_r]
  split
  ·rename_i hlt
   rw [viewH_get, if_pos hlt] at hb
   cases he : H[id]? with
   | none => exact hR.fresh id g (by simpa using he)
   | some b' => rw [he] at hb; injection hb with hb; subst hb; exact hR.gen id b' g he hg
  ·rfl
 ·obtain ⟨h1, h2⟩ := hR.imm k C hk
  refine ⟨h1, ?_⟩
  rintro ⟨i, b, l, hb, ht, hl, ho, e⟩
  obtain ⟨h3, h4⟩ := Ren.cut_some hl
  rw [viewH_get, if_pos h3] at hb
  cases he : H[i]? with
  | none => rw [hR.fresh i _ (by simpa using he)] at h4; cases h4
  | some b' =>
   rw [he] at hb
   injection hb with hb
   subst hb
   exact h2 ⟨i, b', l, he, ht, h4, ho, e⟩
 ·exact hR.tok id m l C (viewH_in hb nofun).2 (Ren.cut_some hl).2 hC
def joinH (H' H : Hp) : Hp := H' ++ H.drop H'.length
theorem joinH_get (H' H : Hp) (i : Nat) : (joinH H' H)[i]? = if i < H'.length then H'[i]? else H[i]? := by
 unfold joinH
 rw [List.getElem?_append]
 split
 ·rfl
 ·rw [List.getElem?_drop]; congr 1; omega
theorem joinH_length (H' H : Hp) : H'.length ≤ (joinH H' H).length ∧ H.length ≤ (joinH H' H).length := by
 unfold joinH
 simp only [List.length_append, List.length_drop]
 omega
def joinR (ρ' ρ : Ren) (m : Nat) : Ren := ⟨fun id g => if id < m then ρ' id g else ρ id g, ρ'.m⟩
theorem joinR_r (ρ' ρ : Ren) (m id g : Nat) : joinR ρ' ρ m id g = if id < m then ρ' id g else ρ id g := rfl
theorem join_le {H' : Hp} {W' : World} (hR : Rel P b0 ρ' H' W') : ρ'.Le (joinR ρ' ρ H'.length) := by
 refine ⟨fun id g l h => ?_, fun _ C h => ⟨C, h, .refl C⟩⟩
 rw [joinR_r]
 split
 ·exact h
 ·rw [hR.fresh id g (by omega)] at h; cases h
theorem Step.merge {H' : Hp} {W' : World} (hR : Rel P b0 ρ H W) (hV : Rel P b0 (ρ.cut n) (viewH n H) W) (hst : Step P b0 (ρ.cut n) ρ' (viewH n H) H' W W')
  (hgap : ∀ id b, n ≤ id → id < H'.length → H[id]? = some b → b = .hole) : Step P b0 ρ (joinR ρ' ρ H'.length) H (joinH H' H) W W' := by
 have hn : n ≤ H'.length := by have := hst.len; rwa [viewH_length] at this
 have hgap' : ∀ id g, n ≤ id → id < H'.length → ρ id g = none := by
  intro id g h1 h2
  cases he : H[id]? with
  | none => exact hR.fresh id g (by simpa using he)
  | some b =>
   obtain rfl := hgap id b h1 h2 he
   exact hR.hole id g _ he rfl
 have hle : ρ.Le (joinR ρ' ρ H'.length) := by
  refine ⟨fun id g l h => ?_, fun k C h => hst.le.m k C h⟩
  rw [joinR_r]
  split
  ·rename_i h2
   rcases Nat.lt_or_ge id n with h1 | h1
   ·refine hst.le.r id g l ?_
    rw [Ren.cut_r, if_pos h1, h]
   ·rw [hgap' id g h1 h2] at h; cases h
  ·exact h
 have hown : ∀ k, Owned (ρ.cut n) (viewH n H) k → ∃ i b l, i < n ∧ H[i]? = some b ∧ ρ i b.gen = some l ∧ l.own = true ∧ l.blk = k := by
  rintro k ⟨i, b, l, hb, hl, ho, hk⟩
  have hne := hV.ne hb hl
  obtain ⟨h1, h2⟩ := viewH_in hb (AB.ho_ne hne)
  exact ⟨i, b, l, h1, h2, (Ren.cut_some hl).2, ho, hk⟩
 have hfar : ∀ id b l, H'.length ≤ id → H[id]? = some b → ρ id b.gen = some l → BlkOk P b0 ρ W l b ∧ ¬ Owned (ρ.cut n) (viewH n H) l.blk := by
  intro id b l hid hb hl
  have hk := hR.at_ hb hl
  refine ⟨hk, fun ho => ?_⟩
  obtain ⟨i, bi, li, h1, h2, h3, h4, h5⟩ := hown _ ho
  cases hlo : l.own with
  | true => exact hR.inj i id bi b li l (by omega) h2 hb h3 hl h4 hlo h5
  | false =>
   have e1 := hk.own_eq.2 hlo
   have e2 := (hR.at_ h2 h3).own_eq.1 h4
   omega
 have hlen := joinH_length H' H
 have hlo : ∀ {id g}, id < H'.length → joinR ρ' ρ H'.length id g = ρ' id g := fun h => if_pos h
 have hhi : ∀ {id g}, ¬ id < H'.length → joinR ρ' ρ H'.length id g = ρ id g := fun h => if_neg h
 have hownV : ∀ k, Owned (ρ.cut n) (viewH n H) k → Owned ρ H k := fun k h => by
  obtain ⟨i, b, l, _, h2, h3, h4, h5⟩ := hown k h
  exact ⟨i, b, l, h2, h3, h4, h5⟩
 have hnewm : ∀ k C, ρ'.m k = some C → ρ.m k = some C ∨ Owned ρ H k ∨ W.heap.size ≤ k := fun k C hk => by
  rcases hst.newm k C hk with h | h | h
  ·exact .inl h
  ·exact .inr (.inl (hownV k h))
  ·exact .inr (.inr h)
 have himm : ∀ k C, (joinR ρ' ρ H'.length).m k = some C → (∃ A t fr, W'.heap[k]? = some (.cells A t fr) ∧ Sub C A) ∧ ¬ OwnedR (joinR ρ' ρ H'.length) (joinH H' H) k := by
  intro k C hk
  have hk : ρ'.m k = some C := hk
  obtain ⟨h1, h2⟩ := hst.rel.imm k C hk
  refine ⟨h1, ?_⟩
  rintro ⟨i, b, l, hb, ht, hl, ho, e⟩
  rw [joinH_get] at hb
  rw [joinR_r] at hl
  split at hb
  ·rename_i h3
   rw [if_pos h3] at hl
   exact h2 ⟨i, b, l, hb, ht, hl, ho, e⟩
  ·rename_i h3
   rw [if_neg h3] at hl
   obtain ⟨f1, f2⟩ := hfar i b l (by omega) hb hl
   rcases hst.newm k C hk with h | h | h
   ·exact (hR.imm k C h).2 ⟨i, b, l, hb, ht, hl, ho, e⟩
   ·exact f2 (e ▸ h)
   ·have := f1.lt
    omega
 refine ⟨⟨fun id b hb hne => ?_, fun id g b hb hbo => ?_, fun i j bi bj li lj hij hi hj hli hlj ho1 ho2 => ?_, fun id g hid => ?_, fun id b g hb hg => ?_, Nat.le_trans hR.size hst.size, himm, fun id m l C hb hl hC => ?_⟩, hle, fun k hk ho => ?_, fun k ho => ?_, hst.size, hlen.2, hst.os, hst.tape, hst.output, hnewm⟩
 ·rw [joinH_get] at hb
  split at hb
  ·rename_i h1
   obtain ⟨l, hl, hk⟩ := hst.rel.blk id b hb hne
   exact ⟨l, (hlo h1).trans hl, hk.mono (join_le hst.rel)⟩
  ·rename_i h1
   obtain ⟨l, hl, hk⟩ := hR.blk id b hb hne
   have hf := hfar id b l (by omega) hb hl
   exact ⟨l, (hhi h1).trans hl, (hk.world (hst.frame _ hk.lt hf.2)).mono hle⟩
 ·rw [joinH_get] at hb
  split at hb
  ·rename_i h1; rw [hlo h1]; exact hst.rel.hole id g b hb hbo
  ·rename_i h1; rw [hhi h1]; exact hR.hole id g b hb hbo
 ·rw [joinH_get] at hi hj
  have cross : ∀ {i j bi bj li lj}, i < H'.length → ¬ j < H'.length → H'[i]? = some bi → H[j]? = some bj → ρ' i bi.gen = some li → ρ j bj.gen = some lj → li.own = true → lj.own = true → li.blk ≠ lj.blk := by
   intro i j bi bj li lj h1 h2 hi hj hli hlj ho1 ho2 e
   have hf := hfar j bj lj (by omega) hj hlj
   rcases hst.new li.blk ⟨i, bi, li, hi, hli, ho1, rfl⟩ with hn | hn
   ·exact hf.2 (e ▸ hn)
   ·have := hf.1.lt
    omega
  by_cases h1 : i < H'.length <;> by_cases h2 : j < H'.length
  ·rw [if_pos h1] at hi; rw [if_pos h2] at hj; rw [hlo h1] at hli; rw [hlo h2] at hlj
   exact hst.rel.inj i j bi bj li lj hij hi hj hli hlj ho1 ho2
  ·rw [if_pos h1] at hi; rw [if_neg h2] at hj; rw [hlo h1] at hli; rw [hhi h2] at hlj
   exact cross h1 h2 hi hj hli hlj ho1 ho2
  ·rw [if_neg h1] at hi; rw [if_pos h2] at hj; rw [hhi h1] at hli; rw [hlo h2] at hlj
   exact fun e => cross h2 h1 hj hi hlj hli ho2 ho1 e.symm
  ·rw [if_neg h1] at hi; rw [if_neg h2] at hj; rw [hhi h1] at hli; rw [hhi h2] at hlj
   exact hR.inj i j bi bj li lj hij hi hj hli hlj ho1 ho2
 ·rw [hhi (by omega)]
  exact hR.fresh id g (by omega)
 ·rw [joinH_get] at hb
  split at hb
  ·rename_i h1; rw [hlo h1]; exact hst.rel.gen id b g hb hg
  ·rename_i h1; rw [hhi h1]; exact hR.gen id b g hb hg
 ·have hC : ρ'.m l.blk = some C := hC
  rw [joinH_get] at hb
  split at hb
  ·rename_i h1; rw [hlo h1] at hl; exact hst.rel.tok id m l C hb hl hC
  ·rename_i h1
   rw [hhi h1] at hl
   obtain ⟨f1, f2⟩ := hfar id _ l (by omega) hb hl
   rcases hst.newm _ C hC with h | h | h
   ·exact hR.tok id m l C hb hl h
   ·exact absurd h f2
   ·have := f1.lt
    omega
 ·refine hst.frame k hk fun h => ho ?_
  obtain ⟨i, b, l, _, h2, h3, h4, h5⟩ := hown k h
  exact ⟨i, b, l, h2, h3, h4, h5⟩
 ·obtain ⟨i, b, l, hb, hl, hlo', hk⟩ := ho
  rw [joinH_get] at hb
  split at hb
  ·rename_i h1
   rw [hlo h1] at hl
   rcases hst.new k ⟨i, b, l, hb, hl, hlo', hk⟩ with h | h
   ·obtain ⟨i, b, l, _, h2, h3, h4, h5⟩ := hown k h
    exact .inl ⟨i, b, l, h2, h3, h4, h5⟩
   ·exact .inr h
  ·rename_i h1
   rw [hhi h1] at hl
   exact .inl ⟨i, b, l, hb, hl, hlo', hk⟩
theorem Step.trim {H1 H' : Hp} {W' : World} (hst : Step P b0 ρ ρ' H H1 W W') (hlen : H.length ≤ H'.length) (h1 : ∀ id, id < H'.length → H1[id]? = H'[id]?) (h2 : ∀ id b, H'.length ≤ id → H1[id]? = some b → b = .hole) : Step P b0 ρ ρ' H H' W W' := by
 have hin : ∀ {id b}, H'[id]? = some b → H1[id]? = some b := fun {id b} hb => by
  rw [h1 id (List.getElem?_eq_some_iff.1 hb).1]; exact hb
 refine ⟨⟨fun id b hb hne => hst.rel.blk id b (hin hb) hne, fun id g b hb => hst.rel.hole id g b (hin hb), fun i j bi bj li lj hij hi hj => hst.rel.inj i j bi bj li lj hij (hin hi) (hin hj), fun id g hid => ?_, fun id b g hb => hst.rel.gen id b g (hin hb), hst.rel.size, fun k C hk => ?_, fun id m l C hb => hst.rel.tok id m l C (hin hb)⟩,
  hst.le, hst.frame, fun k ho => ?_, hst.size, hlen, hst.os, hst.tape, hst.output, hst.newm⟩
 ·cases he : H1[id]? with
  | none => exact hst.rel.fresh id g (by simpa using he)
  | some b =>
   obtain rfl := h2 id b hid he
   exact hst.rel.hole id g _ he rfl
 ·obtain ⟨h3, h4⟩ := hst.rel.imm k C hk
  exact ⟨h3, fun ⟨i, b, l, hb, r⟩ => h4 ⟨i, b, l, hin hb, r⟩⟩
 ·obtain ⟨i, b, l, hb, r⟩ := ho
  exact hst.new k ⟨i, b, l, hin hb, r⟩
end
end Go.An
namespace Go.An
open Go
theorem eqI_eq : ∀ a b : V, eqI a b = true → a = b := by
 have nil : ∀ m : List V, eqIL [] m = true → [] = m := by
  intro m h
  cases m with
  | nil => rfl
  | cons => simp [eqIL] at h
 have cons : ∀ (a : V) (l : List V), (∀ b, eqI a b = true → a = b) → (∀ m, eqIL l m = true → l = m) → ∀ m, eqIL (a :: l) m = true → a :: l = m := by
  intro a l h1 h2 m h
  cases m with
  | nil => simp [eqIL] at h
  | cons b m =>
   simp only [eqIL, Bool.and_eq_true] at h
   rw [h1 b h.1, h2 m h.2]
 intro a
 ·refine V.rec (motive_1 := fun a => ∀ b, eqI a b = true → a = b) (motive_2 := fun l => ∀ m, eqIL l m = true → l = m) ?_ ?_ ?_ ?_ ?_ ?_ ?_ ?_ ?_ ?_ ?_ ?_ ?_ ?_ ?_ ?_ ?_ ?_ ?_ ?_ nil cons a
  all_goals intros; rename_i b h
  all_goals cases b
  all_goals first
   | (simp [eqI] at h; done)
   | (simp only [eqI, Bool.and_eq_true, beq_iff_eq] at h; simp_all; done)
   | skip
  ·rename_i a1 a2 a3 a4 a5 c1 b1 b2 b3 b4 b5 c2
   simp only [eqI, Bool.and_eq_true, beq_iff_eq] at h
   obtain ⟨⟨⟨⟨⟨h1, h2⟩, h3⟩, h4⟩, h5⟩, h6⟩ := h
   have : c1 = c2 := by cases c1 <;> cases c2 <;> simp_all [eqCap]
   rw [h1, h2, h3, h4, h5, this]
  ·rename_i f a b ha hb f' a' b'
   simp only [eqI, Bool.and_eq_true, beq_iff_eq] at h
   rw [h.1.1, ha _ h.1.2, hb _ h.2]
  ·rename_i a ha a'
   simp only [eqI] at h
   rw [ha _ h]
  ·rename_i a ha a'
   simp only [eqI] at h
   rw [ha _ h]
  ·rename_i a n s ha a' n' s'
   simp only [eqI, Bool.and_eq_true, beq_iff_eq] at h
   rw [ha _ h.1.1, h.1.2, h.2]
  ·rename_i a n ha a' n'
   simp only [eqI, Bool.and_eq_true, beq_iff_eq] at h
   rw [ha _ h.1, h.2]
  ·rename_i i a n s ha i' a' n' s'
   simp only [eqI, Bool.and_eq_true, beq_iff_eq] at h
   rw [h.1.1.1, ha _ h.1.1.2, h.1.2, h.2]
  ·rename_i t b a ha t' b' a'
   simp only [eqI, Bool.and_eq_true, beq_iff_eq] at h
   rw [h.1.1, h.1.2, ha _ h.2]
theorem eqIL_eq : ∀ {l m : List V}, eqIL l m = true → l = m
 | [], [], _ => rfl
 | a :: l, b :: m, h => by
  simp only [eqIL, Bool.and_eq_true] at h
  rw [eqI_eq a b h.1, eqIL_eq h.2]
 | [], _ :: _, h => by simp [eqIL] at h
 | _ :: _, [], h => by simp [eqIL] at h
mutual
theorem eqI_refl : ∀ a : V, eqI a a = true
 | .undef | .nilptr | .nilslice | .nilmap | .nilfn | .nilif => rfl
 | .int .. | .bool _ | .str _ | .ptr .. | .map _ | .yld _ => by simp [eqI]
 | .ifc _ _ a => by simp [eqI, eqIL_refl a]
 | .slice _ _ _ _ _ cp => by cases cp <;> simp [eqI, eqCap]
 | .fn f a b => by simp [eqI, eqIL_refl a, eqIL_refl b]
 | .agg a => by simp [eqI, eqIL_refl a]
 | .tup a => by simp [eqI, eqIL_refl a]
 | .isl a _ _ => by simp [eqI, eqIL_refl a]
 | .ipt a _ => by simp [eqI, eqIL_refl a]
 | .osl _ a _ _ => by simp [eqI, eqIL_refl a]
theorem eqIL_refl : ∀ a : List V, eqIL a a = true
 | [] => rfl
 | a :: l => by simp [eqIL, eqI_refl a, eqIL_refl l]
end
theorem eqBase_eq : ∀ {a b : V}, eqBase a b = true → a = b := by
 intro a b h
 unfold eqBase at h
 split at h <;> simp_all
 ·exact eqIL_eq h.1.1
 ·exact eqIL_eq h.1
 ·exact eqIL_eq h.1.1.2
theorem eqList_eq {f : V → V → Bool} (hf : ∀ {a b}, f a b = true → a = b) : ∀ {x y : List V}, eqList f x y = true → x = y
 | [], [], _ => rfl
 | a :: x, b :: y, h => by
  simp only [eqList, Bool.and_eq_true] at h
  rw [hf h.1, eqList_eq hf h.2]
 | [], _ :: _, h => by simp [eqList] at h
 | _ :: _, [], h => by simp [eqList] at h
theorem eqC_eq : ∀ {a b : V}, eqC a b = true → a = b := by
 intro a b h
 unfold eqC at h
 split at h
 ·simp only [Bool.and_eq_true, beq_iff_eq] at h
  rw [h.1.1, eqList_eq eqBase_eq h.1.2, eqList_eq eqBase_eq h.2]
 ·simp only [Bool.and_eq_true, beq_iff_eq] at h
  rw [h.1.1, h.1.2, eqList_eq eqBase_eq h.2]
 ·exact eqBase_eq h
theorem eqA_eq : ∀ {a b : V}, eqA a b = true → a = b := by
 intro a b h
 unfold eqA at h
 split at h
 ·rw [eqList_eq eqC_eq h]
 ·rw [eqList_eq eqC_eq h]
 ·exact eqC_eq h
section
variable [Orc]
variable {P : Program}
theorem foldl_acc {f : List Nat → Oper → Nat} : ∀ (l : List Oper) (acc : List Nat), ∃ r, l.foldl (fun acc o => acc ++ [f acc o]) acc = acc ++ r ∧ r.length = l.length ∧ ∀ j o, l[j]? = some o → r[j]? = some (f (acc ++ r.take j) o)
 | [], acc => ⟨[], by simp, rfl, fun j o h => by simp at h⟩
 | x :: l, acc => by
  obtain ⟨r, h1, h2, h3⟩ := foldl_acc (f := f) l (acc ++ [f acc x])
  refine ⟨f acc x :: r, ?_, by simp [h2], fun j o hj => ?_⟩
  ·simp only [List.foldl_cons, h1]; simp
  ·cases j with
   | zero => simp at hj; subst hj; simp
   | succ j =>
    simp only [List.getElem?_cons_succ] at hj ⊢
    rw [h3 j o hj]
    simp
theorem bits_acc (B : List Nat) (i : Nat) : ∀ (es : List Edge) (s : Nat), (es.foldl (fun s e => if Region.binds .any e then s ||| 2 ^ e.on ||| B.getD e.on 0 else s) s).testBit i = true →
  s.testBit i = true ∨ ∃ e ∈ es, Region.binds .any e = true ∧ (i = e.on ∨ (B.getD e.on 0).testBit i = true)
 | [], s, h => .inl h
 | e :: es, s, h => by
  simp only [List.foldl_cons] at h
  rcases bits_acc B i es _ h with h | ⟨e', he, r⟩
  ·split at h
   ·rename_i hb
    simp only [Nat.testBit_or, Bool.or_eq_true, Nat.testBit_two_pow, decide_eq_true_eq] at h
    rcases h with (h | h) | h
    ·exact .inl h
    ·exact .inr ⟨e, by simp, hb, .inl h.symm⟩
    ·exact .inr ⟨e, by simp, hb, .inr h⟩
   ·exact .inl h
  ·exact .inr ⟨e', by simp [he], r⟩
def Waits (all : List Oper) (j i : Nat) : Prop := waitsFor (befores all) j i = true
theorem waits_edge {all : List Oper} {j i : Nat} {o : Oper} (ho : all[j]? = some o) (hback : ∀ e ∈ o.after.toList, Region.binds .any e = true → e.on < j) (h : Waits all j i) :
  ∃ e ∈ o.after.toList, Region.binds .any e = true ∧ (i = e.on ∨ Waits all e.on i) := by
 obtain ⟨r, h1, h2, h3⟩ := foldl_acc (f := fun acc o => o.after.toList.foldl (fun s e => if Region.binds .any e then s ||| 2 ^ e.on ||| acc.getD e.on 0 else s) 0) all []
 have hB : befores all = r := by unfold befores; rw [h1]; rfl
 unfold Waits waitsFor at h ⊢
 rw [hB] at h ⊢
 rw [List.getD_eq_getElem?_getD, h3 j o ho, Option.getD_some, List.nil_append] at h
 rcases bits_acc _ _ _ _ h with h | ⟨e, he, hb, h⟩
 ·simp at h
 ·refine ⟨e, he, hb, h.imp id fun h => ?_⟩
  rw [List.getD_eq_getElem?_getD, List.getElem?_take_of_lt (hback e he hb), ← List.getD_eq_getElem?_getD] at h
  exact h
structure Drawn (P : Program) (all : List Oper) : Prop where
 back : ∀ j o, all[j]? = some o → ∀ e ∈ o.after.toList, Region.binds .any e = true → e.on < j
 ord : ∀ i j oi oj, i < j → all[i]? = some oi → all[j]? = some oj → Waits all j i ∨
  (¬ (isEff (kind P oi) = true ∧ kind P oj = .eff) ∧ (∀ t, oi.dst = some t → t ∉ namesOf all oj) ∧ ∀ t, oj.dst = some t → t ∉ namesOf all oi)
theorem drawOk_spec {all : List Oper} (h : drawOk P all = true) : Drawn P all := by
 unfold drawOk at h
 simp only [List.all_eq_true, List.mem_range] at h
 refine ⟨fun j o ho e he hb => ?_, fun i j oi oj hij hi hj => ?_⟩
 ·have := h j (List.getElem?_eq_some_iff.1 ho).1
  rw [ho] at this
  simp only [Bool.and_eq_true, List.all_eq_true] at this
  have := this.1.1 e he
  simpa [hb] using this
 ·have := h j (List.getElem?_eq_some_iff.1 hj).1
  rw [hj] at this
  simp only [Bool.and_eq_true, List.all_eq_true, List.mem_range] at this
  have := this.2 i hij
  rw [hi] at this
  simp only [Bool.or_eq_true, Bool.and_eq_true] at this
  refine this.imp id fun h => ⟨?_, ?_, ?_⟩
  ·rintro ⟨h1, h2⟩
   have := h.1.1
   simp [h1, h2] at this
  ·intro t ht
   have := h.1.2
   rw [ht] at this
   simpa using this
  ·intro t ht
   have := h.2
   rw [ht] at this
   simpa using this
def TStep (P : Program) (cl : CallT) (N : Nat) (all : List Oper) (o : Oper) (s s' : St) : Prop :=
 (wantedV all o s.T = some true ∧ ∃ v s1, stepV P cl o s = some (v, s1) ∧ setO N s1 o.dst v = some s') ∨ (wantedV all o s.T = some false ∧ setO N s o.dst (.tup []) = some s')
theorem trace_spec {cl : CallT} {N : Nat} {all : List Oper} : ∀ {rest : List Oper} {s sf : St} {tr : List St}, traceV P cl N all rest s = some (tr, sf) →
  tr.length = rest.length ∧ (tr ++ [sf])[0]? = some s ∧ ∀ i o, rest[i]? = some o → ∃ s1 s2, (tr ++ [sf])[i]? = some s1 ∧ (tr ++ [sf])[i + 1]? = some s2 ∧ TStep P cl N all o s1 s2
 | [], s, sf, tr, h => by
  simp only [traceV, Option.some.injEq, Prod.mk.injEq] at h
  obtain ⟨rfl, rfl⟩ := h
  exact ⟨rfl, rfl, fun i o h => by simp at h⟩
 | o :: rest, s, sf, tr, h => by
  simp only [traceV] at h
  cases hw : wantedV all o s.T with
  | none => rw [hw] at h; cases h
  | some w =>
   rw [hw] at h
   simp only [Option.bind_some] at h
   generalize hq : (if w = true then (stepV P cl o s).bind fun q => setO N q.2 o.dst q.1 else setO N s o.dst (.tup [])) = q at h
   cases q with
   | none => cases h
   | some s' =>
    simp only [Option.bind_some] at h
    obtain ⟨⟨tr', sf'⟩, hr, e⟩ := Option.map_eq_some_iff.1 h
    injection e with e1 e2
    subst e1 e2
    obtain ⟨h1, h2, h3⟩ := trace_spec hr
    refine ⟨by simp [h1], rfl, fun i o' hi => ?_⟩
    cases i with
    | zero =>
     simp at hi
     subst hi
     refine ⟨s, s', rfl, by simpa using h2, ?_⟩
     cases w with
     | true =>
      simp only [if_true] at hq
      cases hs : stepV P cl o s with
      | none => rw [hs] at hq; cases hq
      | some p => rw [hs] at hq; exact .inl ⟨hw, p.1, p.2, hs, hq⟩
     | false =>
      simp only [Bool.false_eq_true, if_false] at hq
      exact .inr ⟨hw, hq⟩
    | succ i => simpa using h3 i o' (by simpa using hi)
theorem stepV_op {cl : CallT} {o : Oper} {s s1 : St} {v : V} (hk : kind P o ≠ .eff) (h : stepV P cl o s = some (v, s1)) : opV P o s.T s.H = some (v, s1.H) ∧ s1.D = s.D ∧ s1.T = s.T := by
 have key : ((opV P o s.T s.H).map fun q => (q.1, { s with H := q.2 })) = some (v, s1) → opV P o s.T s.H = some (v, s1.H) ∧ s1.D = s.D ∧ s1.T = s.T := by
  intro h
  obtain ⟨q, hq, e⟩ := Option.map_eq_some_iff.1 h
  injection e with e1 e2
  subst e1 e2
  exact ⟨hq, rfl, rfl⟩
 obtain ⟨dst, op, type, pos, after, guard⟩ := o
 cases op <;> simp only [stepV] at h <;> try exact key h
 case defer c => exact absurd rfl hk
 case call c =>
  cases hc : c.callee with
  | value f | invoke f _ =>
   refine absurd ?_ hk
   have hi : immO ⟨dst, .call c, type, pos, after, guard⟩ = false := by
    unfold immO imKey
    simp only [hc]
   rw [kind_base hi]
   simp only [kindB, hc]
  | _ => rw [hc] at h; exact key h
variable {ro : Option Nat}
theorem wp_exists {o : Oper} {a : Act} {W : World} {next : Act → World → Prop} (h : o.wpIn (FW ro) 0 P a W next fun _ _ _ => False) : ∃ a' W', next a' W' := by
 have h := h.2
 generalize (o.semAt (FW ro).round a.eval).run P W = r at h
 have hroom : ∀ n, (FW ro).room n := room_wide
 cases r with
 | ok n w' =>
  cases n <;> simp only [Oper.uponIn] at h <;> try exact ⟨_, _, h⟩
  ·obtain ⟨e, w, fr, hR, _⟩ := h.2.2 [] (hroom _)
   cases e with
   | returned v => exact ⟨_, _, hR⟩
   | panicked c => exact hR.elim
   | outgrown => obtain ⟨_, _, hf⟩ := hR; exact hf.elim
  ·obtain ⟨e, w, hR, _⟩ := h.2.2 default [] (hroom _)
   cases e with
   | returned v => exact ⟨_, _, hR⟩
   | panicked c => exact hR.elim
   | outgrown => obtain ⟨_, _, hf⟩ := hR; exact hf.elim
  ·obtain ⟨v, w, hR, _⟩ := h.2 default [] (hroom _)
   exact ⟨_, _, hR⟩
 | halt x w' => cases x <;> simp only [Oper.uponIn] at h
theorem tstep_run {cl : CallT} (hcl : ClOk P cl) {b0 N : Nat} {ρ : Ren} {all : List Oper} {o : Oper} {s s' : St} {a : Act} {W : World} (hs : StR P b0 ρ N ro s a W) (h : TStep P cl N all o s s') :
  ∃ ρ' a' W', StR P b0 ρ' N ro s' a' W' ∧ Step P b0 ρ ρ' s.H s'.H W W' := by
 rcases h with ⟨_, v, s1, h1, h2⟩ | ⟨_, h2⟩
 ·obtain ⟨a', W', ρ', h⟩ := wp_exists (stepSet_sim (next := fun a' W' => ∃ ρ', StR P b0 ρ' N ro s' a' W' ∧ Step P b0 ρ ρ' s.H s'.H W W') hcl hs h1 h2 fun ρ' a' W' h3 h4 => ⟨ρ', h3, h4⟩)
  exact ⟨ρ', a', W', h⟩
 ·refine ⟨ρ, a.put o.dst undef, W, setO_sim (v := .tup []) hs ⟨_, rfl, trivial⟩ h2, ?_⟩
  rw [(setO_fr h2).2.1]
  exact Step.refl hs.rel
structure Ctx (P : Program) (cl : CallT) (N b0 : Nat) (ro : Option Nat) (ops : Array Oper) (st : Nat → St) : Prop where
 drawn : Drawn P ops.toList
 cok : ClOk P cl
 step : ∀ i o, ops[i]? = some o → TStep P cl N ops.toList o (st i) (st (i + 1))
 run : ∀ i, i ≤ ops.size → ∃ ρ a W, StR P b0 ρ N ro (st i) a W
 len1 : ∀ i, i < ops.size → (st i).H.length ≤ (st (i + 1)).H.length
 dyn : ∀ q oq e oe, ops[q]? = some oq → ops[e]? = some oe → kind P oq = .read → kind P oe = .eff → wantedV ops.toList oq (st q).T = some true → wantedV ops.toList oe (st e).T = some true →
  ¬ Waits ops.toList q e → ¬ Waits ops.toList e q → ∃ v H1 H2, opV P oq (st q).T (st e).H = some (v, H1) ∧ opV P oq (st q).T (st (e + 1)).H = some (v, H2)
theorem Ctx.len {cl : CallT} {N b0 : Nat} {ops : Array Oper} {st : Nat → St} (C : Ctx P cl N b0 ro ops st) : ∀ d i, i + d ≤ ops.size → (st i).H.length ≤ (st (i + d)).H.length
 | 0, i, _ => Nat.le_refl _
 | d + 1, i, h => Nat.le_trans (C.len d i (by omega)) (C.len1 (i + d) (by omega))
theorem Ctx.len' {cl : CallT} {N b0 : Nat} {ops : Array Oper} {st : Nat → St} (C : Ctx P cl N b0 ro ops st) {i j : Nat} (h : i ≤ j) (hj : j ≤ ops.size) : (st i).H.length ≤ (st j).H.length := by
 have := C.len (j - i) i (by omega)
 rwa [show i + (j - i) = j from by omega] at this
theorem ctx_of {cl : CallT} {N b0 : Nat} {ops : Array Oper} {s sf : St} {tr : List St} {ρ : Ren} {a : Act} {W : World} (hcl : ClOk P cl) (hd : drawOk P ops.toList = true) (ht : traceV P cl N ops.toList ops.toList s = some (tr, sf))
  (hy : drawDyn P ops.toList (tr ++ [sf]) = true) (hs : StR P b0 ρ N ro s a W) : ∃ st, Ctx P cl N b0 ro ops st ∧ st 0 = s ∧ st ops.size = sf := by
 obtain ⟨h1, h2, h3⟩ := trace_spec ht
 let st : Nat → St := fun i => (tr ++ [sf]).getD i sf
 have hst : ∀ i s, (tr ++ [sf])[i]? = some s → st i = s := fun i s h => by show (tr ++ [sf]).getD i sf = s; rw [List.getD_eq_getElem?_getD, h]; rfl
 have hstep : ∀ i o, ops[i]? = some o → TStep P cl N ops.toList o (st i) (st (i + 1)) := by
  intro i o ho
  obtain ⟨s1, s2, e1, e2, h⟩ := h3 i o (by simpa using ho)
  rw [hst _ _ e1, hst _ _ e2]
  exact h
 have h0 : st 0 = s := hst 0 s h2
 have hrun : ∀ i, i ≤ ops.size → ∃ ρ a W, StR P b0 ρ N ro (st i) a W := by
  intro i
  induction i with
  | zero => intro _; exact ⟨ρ, a, W, h0 ▸ hs⟩
  | succ i ih =>
   intro hi
   obtain ⟨ρ1, a1, W1, hr⟩ := ih (by omega)
   obtain ⟨ρ2, a2, W2, hr2, _⟩ := tstep_run hcl hr (hstep i ops[i] (by simp))
   exact ⟨ρ2, a2, W2, hr2⟩
 refine ⟨st, ⟨drawOk_spec hd, hcl, hstep, hrun, fun i hi => ?_, ?_⟩, h0, ?_⟩
 ·obtain ⟨ρ1, a1, W1, hr⟩ := hrun i (by omega)
  obtain ⟨ρ2, a2, W2, _, hr2⟩ := tstep_run hcl hr (hstep i ops[i] (by simp))
  exact hr2.len
 ·intro q oq e oe hq he kq ke wq we n1 n2
  have at_ : ∀ i, i ≤ ops.size → (tr ++ [sf])[i]? = some (st i) := by
   intro i hi
   have hlt : i < (tr ++ [sf]).length := by simp [h1]; omega
   show _ = some ((tr ++ [sf]).getD i sf)
   rw [List.getD_eq_getElem?_getD, List.getElem?_eq_getElem hlt]
   rfl
  have hql : q < ops.size := (Array.getElem?_eq_some_iff.1 hq).1
  have hel : e < ops.size := (Array.getElem?_eq_some_iff.1 he).1
  unfold drawDyn at hy
  simp only [List.all_eq_true, List.mem_range] at hy
  have := hy q (by simpa using hql)
  rw [Array.getElem?_toList, hq, at_ q (by omega)] at this
  simp only [kq, wq, bne_self_eq_false, Bool.false_or, List.all_eq_true, List.mem_range] at this
  have := this e (by simpa using hel)
  rw [Array.getElem?_toList, he, at_ e (by omega), at_ (e + 1) (by omega)] at this
  simp only [ke, we, bne_self_eq_false, Bool.false_or, Bool.or_false, Bool.or_eq_true] at this
  rcases this with (h | h) | h
  ·exact absurd h n1
  ·exact absurd h n2
  ·cases ha : opV P oq (st q).T (st e).H with
   | none => rw [ha] at h; simp [eqO] at h
   | some x =>
    cases hb : opV P oq (st q).T (st (e + 1)).H with
    | none => rw [ha, hb] at h; simp [eqO] at h
    | some y =>
     rw [ha, hb] at h
     simp only [eqO] at h
     have := eqA_eq h
     exact ⟨x.1, x.2, y.2, rfl, by rw [this]⟩
 ·refine hst _ _ ?_
  have : ops.size = tr.length := by simpa using h1.symm
  rw [this]
  simp
end
end Go.An
namespace Go.An
open Go
section
variable [Orc]
variable {P : Program} {cl : CallT} {N b0 : Nat} {ro : Option Nat} {ops : Array Oper} {st : Nat → St}
theorem stepV_T {o : Oper} {s s1 : St} {v : V} (h : stepV P cl o s = some (v, s1)) : s1.T = s.T := by
 have key : ((opV P o s.T s.H).map fun q => (q.1, { s with H := q.2 })) = some (v, s1) → s1.T = s.T := by
  intro h
  obtain ⟨q, hq, e⟩ := Option.map_eq_some_iff.1 h
  injection e with e1 e2
  subst e2
  rfl
 obtain ⟨dst, op, type, pos, after, guard⟩ := o
 cases op <;> simp only [stepV] at h <;> try exact key h
 case defer c =>
  split at h
  ·cases h
  ·split at h
   ·cases hr : calleeV P s.T c with
    | none => rw [hr] at h; cases h
    | some r =>
     rw [hr] at h
     simp only [Option.bind_some] at h
     split at h
     ·cases h
     ·injection h with e
      injection e with e1 e2
      subst e2
      rfl
   ·cases h
 case call c =>
  cases hc : c.callee with
  | value f | invoke f _ =>
   rw [hc] at h
   simp only at h
   cases hr : calleeV P s.T c with
   | none => rw [hr] at h; cases h
   | some r =>
    rw [hr] at h
    obtain ⟨q, hq, e⟩ := Option.map_eq_some_iff.1 h
    injection e with e1 e2
    subst e2
    rfl
  | _ => rw [hc] at h; exact key h
theorem Drawn.lt {all : List Oper} (D : Drawn P all) : ∀ (j i : Nat), j < all.length → Waits all j i → i < j := by
 intro j
 induction j using Nat.strongRecOn with
 | _ j ih =>
  intro i hj h
  obtain ⟨o, ho⟩ : ∃ o, all[j]? = some o := ⟨all[j], by simp [hj]⟩
  obtain ⟨e, he, hb, h⟩ := waits_edge ho (D.back j o ho) h
  have hlt := D.back j o ho e he hb
  rcases h with rfl | h
  ·exact hlt
  ·exact Nat.lt_trans (ih e.on hlt i (by omega) h) hlt
def Soft (P : Program) (ops : Array Oper) (st : Nat → St) (i : Nat) : Prop := ∀ o, ops[i]? = some o → kind P o ≠ .eff ∨ wantedV ops.toList o (st i).T = some false
theorem Ctx.soft (C : Ctx P cl N b0 ro ops st) {i : Nat} {o : Oper} (ho : ops[i]? = some o) (hk : kind P o ≠ .eff ∨ wantedV ops.toList o (st i).T = some false) :
  (st (i + 1)).D = (st i).D ∧ ((kind P o = .alloc ∧ wantedV ops.toList o (st i).T = some true ∧ ∃ b, b ≠ .hole ∧ (st (i + 1)).H = (st i).H ++ [b]) ∨
   (¬ (kind P o = .alloc ∧ wantedV ops.toList o (st i).T = some true) ∧ (st (i + 1)).H = (st i).H)) := by
 rcases C.step i o ho with ⟨hw, v, s1, h1, h2⟩ | ⟨hw, h2⟩
 ·obtain ⟨e1, e2, _⟩ := setO_fr h2
  rcases hk with hk | hk
  ·obtain ⟨h3, h4, _⟩ := stepV_op hk h1
   refine ⟨e1.trans h4, ?_⟩
   cases hkk : kind P o with
   | eff => exact absurd hkk hk
   | alloc =>
    obtain ⟨b, hb, e, _⟩ := alloc_law hkk h3
    exact .inl ⟨rfl, hw, b, hb, e2.trans e⟩
   | pure => exact .inr ⟨by simp, e2.trans (pure_law hkk h3).1⟩
   | read => exact .inr ⟨by simp, e2.trans (read_law hkk h3).1⟩
  ·rw [hw] at hk; cases hk
 ·obtain ⟨e1, e2, _⟩ := setO_fr h2
  exact ⟨e1, .inr ⟨fun h => (by have := h.2; rw [hw] at this; cases this), e2⟩⟩
theorem Ctx.wanted (C : Ctx P cl N b0 ro ops st) {i : Nat} {o : Oper} (ho : ops[i]? = some o) : wantedV ops.toList o (st i).T = some true ∨ wantedV ops.toList o (st i).T = some false := by
 rcases C.step i o ho with ⟨hw, _⟩ | ⟨hw, _⟩
 ·exact .inl hw
 ·exact .inr hw
theorem Ctx.prefix_ (C : Ctx P cl N b0 ro ops st) (x : Nat) : ∀ d, x + d ≤ ops.size → (∀ i, x ≤ i → i < x + d → Soft P ops st i) → ∀ id, id < (st x).H.length → (st (x + d)).H[id]? = (st x).H[id]?
 | 0, _, _, _, _ => rfl
 | d + 1, hn, hs, id, hid => by
  rw [← C.prefix_ x d (by omega) (fun i h1 h2 => hs i h1 (by omega)) id hid]
  have ho : ops[x + d]? = some ops[x + d] := by simp
  rcases (C.soft ho (hs (x + d) (by omega) (by omega) _ ho)).2 with ⟨_, _, b, _, e⟩ | ⟨_, e⟩
  ·show (st (x + d + 1)).H[id]? = _
   rw [e]
   exact List.getElem?_append_left (Nat.lt_of_lt_of_le hid (C.len d x (by omega)))
  ·show (st (x + d + 1)).H[id]? = _
   rw [e]
theorem Ctx.keep (C : Ctx P cl N b0 ro ops st) {t : Nat} (x : Nat) : ∀ d, x + d ≤ ops.size → (∀ w o, x ≤ w → w < x + d → ops[w]? = some o → o.dst ≠ some t) → get (st (x + d)).T t = get (st x).T t
 | 0, _, _ => rfl
 | d + 1, hn, hs => by
  rw [← C.keep x d (by omega) (fun w o h1 h2 => hs w o h1 (by omega))]
  have ho : ops[x + d]? = some ops[x + d] := by simp
  have hd := hs (x + d) _ (by omega) (by omega) ho
  rcases C.step _ _ ho with ⟨_, v, s1, h1, h2⟩ | ⟨_, h2⟩
  ·have := (setO_fr h2).2.2 t
   rw [if_neg hd, stepV_T h1] at this
   exact this
  ·have := (setO_fr h2).2.2 t
   rw [if_neg hd] at this
   exact this
structure Inv (P : Program) (N b0 : Nat) (ro : Option Nat) (ops : Array Oper) (st : Nat → St) (ρ0 : Ren) (W0 : World) (L : Nat → Prop) (k : Nat) (ρ : Ren) (Hr : Hp) (a : Act) (W : World) : Prop where
 kn : k ≤ ops.size
 step : Step P b0 ρ0 ρ (st 0).H Hr W0 W
 pre : ∀ id, id < (st k).H.length → Hr[id]? = (st k).H[id]?
 flt : ∀ j o, k ≤ j → ops[j]? = some o → L j → kind P o = .alloc → wantedV ops.toList o (st j).T = some true → ∃ b, Hr[(st j).H.length]? = some b ∧ b ≠ .hole ∧ (st (j + 1)).H = (st j).H ++ [b]
 only : ∀ id b, (st k).H.length ≤ id → Hr[id]? = some b → b ≠ .hole → ∃ j o, k ≤ j ∧ ops[j]? = some o ∧ L j ∧ kind P o = .alloc ∧ wantedV ops.toList o (st j).T = some true ∧ id = (st j).H.length
 slot : ∀ t x, x ≤ ops.size → (∀ w o, w < x → ops[w]? = some o → o.dst = some t → L w) → (∀ w o, x ≤ w → ops[w]? = some o → o.dst = some t → ¬ L w) → VR ρ (get (st x).T t) (a.tmps.getD t undef)
 df : DfO ro ρ (st k).D a.defers
 sz : a.tmps.size = N
 down : ∀ j i, L j → Waits ops.toList j i → L i
 done : ∀ i o, i < k → ops[i]? = some o → isEff (kind P o) = true → L i
 late : ∀ i o, k ≤ i → ops[i]? = some o → L i → kind P o ≠ .eff
variable {ρ0 ρ : Ren} {W0 W : World} {L : Nat → Prop} {k : Nat} {Hr : Hp} {a : Act}
theorem Inv.adv1 (C : Ctx P cl N b0 ro ops st) (I : Inv P N b0 ro ops st ρ0 W0 L k ρ Hr a W) {o : Oper} (ho : ops[k]? = some o) (h1 : isEff (kind P o) = true → L k) (h2 : kind P o ≠ .eff) : Inv P N b0 ro ops st ρ0 W0 L (k + 1) ρ Hr a W := by
 have hlt : k < ops.size := (Array.getElem?_eq_some_iff.1 ho).1
 obtain ⟨hD, hH⟩ := C.soft ho (.inl h2)
 refine ⟨hlt, I.step, fun id hid => ?_, fun j o hj => I.flt j o (by omega), fun id b hid hb hne => ?_, I.slot, hD ▸ I.df, I.sz, I.down, fun i o' hi ho' he => ?_, fun i o hi => I.late i o (by omega)⟩
 ·rcases hH with ⟨ha, hw, b, hb, e⟩ | ⟨_, e⟩
  ·obtain ⟨b', hb', _, e'⟩ := I.flt k o (Nat.le_refl _) ho (h1 (by rw [ha]; rfl)) ha hw
   rw [e'] at hid ⊢
   rw [List.length_append, List.length_singleton] at hid
   by_cases hx : id < (st k).H.length
   ·rw [I.pre id hx, List.getElem?_append_left hx]
   ·have : id = (st k).H.length := by omega
    subst this
    rw [hb']
    simp
  ·rw [e] at hid ⊢
   exact I.pre id hid
 ·obtain ⟨j, o', hj, r1, r2, r3, r4, r5⟩ := I.only id b (Nat.le_trans (C.len1 k hlt) hid) hb hne
  refine ⟨j, o', ?_, r1, r2, r3, r4, r5⟩
  rcases Nat.lt_or_ge k j with h | h
  ·exact h
  ·have : j = k := by omega
   subst this
   rw [ho] at r1
   injection r1 with r1
   subst r1
   rcases hH with ⟨_, _, b, _, e⟩ | ⟨hn, _⟩
   ·rw [e] at hid
    simp at hid
    omega
   ·exact absurd ⟨r3, r4⟩ hn
 ·rcases Nat.lt_or_ge i k with h | h
  ·exact I.done i o' h ho' he
  ·have : i = k := by omega
   subst this
   rw [ho] at ho'
   injection ho' with ho'
   subst ho'
   exact h1 he
theorem Inv.advTo (C : Ctx P cl N b0 ro ops st) : ∀ (d k : Nat), k + d ≤ ops.size → Inv P N b0 ro ops st ρ0 W0 L k ρ Hr a W → (∀ i o, k ≤ i → i < k + d → ops[i]? = some o → (isEff (kind P o) = true → L i) ∧ kind P o ≠ .eff) → Inv P N b0 ro ops st ρ0 W0 L (k + d) ρ Hr a W
 | 0, _, _, I, _ => I
 | d + 1, k, hn, I, h => by
  have ho : ops[k]? = some ops[k] := by simp
  have h0 := h k _ (Nat.le_refl _) (by omega) ho
  have := Inv.advTo C d (k + 1) (by omega) (I.adv1 C ho h0.1 h0.2) fun i o h1 h2 => h i o (by omega) (by omega)
  rwa [show k + 1 + d = k + (d + 1) from by omega] at this
def restr (names : List Nat) (T : Fr) : Fr := (List.range (names.foldl max 0 + 1)).map fun t => if names.contains t then get T t else .undef
theorem foldl_max_le (names : List Nat) (m : Nat) : m ≤ names.foldl max m ∧ ∀ t ∈ names, t ≤ names.foldl max m := by
 induction names generalizing m with
 | nil => exact ⟨Nat.le_refl _, fun t h => by cases h⟩
 | cons x l ih =>
  have := ih (max m x)
  simp only [List.foldl_cons, List.mem_cons]
  refine ⟨by omega, fun t h => ?_⟩
  rcases h with rfl | h
  ·omega
  ·exact this.2 t h
theorem get_restr (names : List Nat) (T : Fr) (t : Nat) : get (restr names T) t = if t ∈ names then get T t else .undef := by
 show (restr names T).getD t .undef = _
 unfold restr
 rw [List.getD_eq_getElem?_getD, List.getElem?_map]
 by_cases h : t < names.foldl max 0 + 1
 ·rw [List.getElem?_range h]
  simp only [Option.map_some, Option.getD_some, List.contains_iff_mem]
 ·rw [List.getElem?_eq_none (by simpa using h)]
  simp only [Option.map_none, Option.getD_none]
  rw [if_neg fun hm => h (Nat.lt_succ_of_le ((foldl_max_le names 0).2 t hm))]
theorem Inv.named (C : Ctx P cl N b0 ro ops st) (I : Inv P N b0 ro ops st ρ0 W0 L k ρ Hr a W) {i : Nat} {o : Oper} (ho : ops[i]? = some o) (hL : ¬ L i) (hr : ∀ j, Waits ops.toList i j → L j) {t : Nat} (ht : t ∈ namesOf ops.toList o) :
  VR ρ (get (st i).T t) (a.tmps.getD t undef) := by
 have hlt : i < ops.size := (Array.getElem?_eq_some_iff.1 ho).1
 refine I.slot t i (Nat.le_of_lt hlt) (fun w ow hw how hd => ?_) (fun w ow hw how hd hLw => ?_)
 ·rcases C.drawn.ord w i ow o hw (by simpa using how) (by simpa using ho) with h | ⟨_, h, _⟩
  ·exact hr w h
  ·exact absurd ht (h t hd)
 ·rcases Nat.lt_or_ge i w with h | h
  ·rcases C.drawn.ord i w o ow h (by simpa using ho) (by simpa using how) with h | ⟨_, _, h⟩
   ·exact hL (I.down w i hLw h)
   ·exact h t hd ht
  ·have : w = i := by omega
   subst this
   exact hL hLw
theorem Inv.frame (C : Ctx P cl N b0 ro ops st) (I : Inv P N b0 ro ops st ρ0 W0 L k ρ Hr a W) {i : Nat} {o : Oper} (ho : ops[i]? = some o) (hL : ¬ L i) (hr : ∀ j, Waits ops.toList i j → L j) :
  FrR ρ (restr (namesOf ops.toList o) (st i).T) a.tmps ∧ (∀ t ∈ namesOf ops.toList o, get (st i).T t = get (restr (namesOf ops.toList o) (st i).T) t) := by
 refine ⟨fun t => ?_, fun t ht => by rw [get_restr, if_pos ht]⟩
 rw [get_restr]
 split
 ·exact I.named C ho hL hr (by assumption)
 ·trivial
theorem slot_put (C : Ctx P cl N b0 ro ops st) (I : Inv P N b0 ro ops st ρ0 W0 L k ρ Hr a W) {i : Nat} {o : Oper} (ho : ops[i]? = some o) (hL : ¬ L i) {ρ' : Ren} (hle : ρ.Le ρ') {v : V} {u : Value} {a1 : Act} (ha : a1.tmps = a.tmps) (hv : VR ρ' v u) (hlt : ∀ t, o.dst = some t → t < N)
  (hst : ∀ t, o.dst = some t → get (st (i + 1)).T t = v) :
  ∀ t x, x ≤ ops.size → (∀ w o', w < x → ops[w]? = some o' → o'.dst = some t → w = i ∨ L w) → (∀ w o', x ≤ w → ops[w]? = some o' → o'.dst = some t → ¬ (w = i ∨ L w)) → VR ρ' (get (st x).T t) ((a1.put o.dst u).tmps.getD t undef) := by
 intro t x hx h1 h2
 rw [put_get a1 o.dst u (fun t ht => by rw [ha, I.sz]; exact hlt t ht), ha]
 by_cases hd : o.dst = some t
 ·rw [if_pos hd]
  have hix : i < x := by
   rcases Nat.lt_or_ge i x with h | h
   ·exact h
   ·exact absurd (.inl rfl) (h2 i o h ho hd)
  have := C.keep (t := t) (i + 1) (x - (i + 1)) (by omega) fun w ow hw1 hw2 how hdw => by
   have hwi : w ≠ i := by omega
   have hLw : L w := (h1 w ow (by omega) how hdw).resolve_left hwi
   rcases C.drawn.ord i w o ow (by omega) (by simpa using ho) (by simpa using how) with h | ⟨_, h, _⟩
   ·exact hL (I.down w i hLw h)
   ·exact h t hd (by simp [namesOf, hdw])
  rw [show i + 1 + (x - (i + 1)) = x from by omega] at this
  rw [this, hst t hd]
  exact hv
 ·rw [if_neg hd]
  refine (I.slot t x hx (fun w ow hw how hdw => ?_) (fun w ow hw how hdw hLw => h2 w ow hw how hdw (.inr hLw))).mono hle
  refine (h1 w ow hw how hdw).resolve_left fun e => ?_
  subst e
  rw [ho] at how
  injection how with how
  subst how
  exact hd hdw
theorem down_put (I : Inv P N b0 ro ops st ρ0 W0 L k ρ Hr a W) {i : Nat} (hr : ∀ j, Waits ops.toList i j → L j) : ∀ j x, (j = i ∨ L j) → Waits ops.toList j x → (x = i ∨ L x) := by
 rintro j x (rfl | h) hw
 ·exact .inr (hr x hw)
 ·exact .inr (I.down j x h hw)
theorem Inv.bdb (C : Ctx P cl N b0 ro ops st) (I : Inv P N b0 ro ops st ρ0 W0 L k ρ Hr a W) {i : Nat} (hk : k ≤ i) (hi : i ≤ ops.size) : ∀ id b, id < (st i).H.length → Hr[id]? = some b → b.ho = false → BdB P b0 (st i).H.length b := by
 intro id b hid hb hne
 have of_run : ∀ m, m ≤ i → (st m).H[id]? = some b → BdB P b0 (st i).H.length b := by
  intro m hm h
  obtain ⟨ρm, am, Wm, hR⟩ := C.run m (by omega)
  obtain ⟨l, _, hk⟩ := hR.rel.blk id b h hne
  exact ⟨ρm, Wm, l, hk, fun id g h => hR.rel.fresh id g (Nat.le_trans (C.len' hm hi) h)⟩
 by_cases h1 : id < (st k).H.length
 ·exact of_run k hk (I.pre id h1 ▸ hb)
 ·obtain ⟨j, o, hj, hoj, hLj, hkj, hwj, rfl⟩ := I.only id b (by omega) hb (AB.ho_ne hne)
  have hjn : j < ops.size := (Array.getElem?_eq_some_iff.1 hoj).1
  have hji : j < i := by
   rcases Nat.lt_or_ge j i with h | h
   ·exact h
   ·have := C.len' h (by omega)
    omega
  obtain ⟨b', hb', _, e⟩ := I.flt j o hj hoj hLj hkj hwj
  rw [hb] at hb'
  injection hb' with hb'
  subst hb'
  exact of_run (j + 1) hji (by rw [e]; simp)
theorem kind_nd {o : Oper} (h : kind P o ≠ .eff) : ∀ c, o.op ≠ .defer c := by
 rintro c hc
 refine h ?_
 have hi : immO o = false := by unfold immO imKey; rw [hc]
 rw [kind_base hi, hc]
 rfl
theorem op_wp {nn : Nat} {o : Oper} {T : Fr} {H H' : Hp} {v : V} (hnd : kind P o ≠ .eff) (hR : Rel P b0 ρ H W) (hT : FrR ρ T a.tmps) (h : opV P o T H = some (v, H')) {next : Act → World → Prop} {Q : Exit → Act → World → Prop}
  (hn : ∀ u ρ' W', VR ρ' v u → Step P b0 ρ ρ' H H' W W' → next (a.put o.dst u) W') : o.wpIn (FW ro) nn P a W next Q := by
 obtain ⟨nv, u, W', ρ', h1, h2, h3, h4⟩ := op_sim hR hT h
 refine ⟨fun _ _ => trivial, ?_⟩
 rw [sem_fw (kind_nd hnd), h1]
 rcases h2 with rfl | ⟨rfl, rfl⟩
 ·exact hn u ρ' W' h3 h4
 ·exact hn undef ρ' W' h3 h4
theorem VR_id {v : V} {u : Value} {id : Nat} (h : VR ρ v u) (hi : v.id? = some id) : ∃ g l, ρ id g = some l := by
 cases v <;> simp only [V.id?, Option.some.injEq, reduceCtorEq] at hi
 ·obtain ⟨l, hl, _⟩ := h; exact ⟨_, l, hi ▸ hl⟩
 ·obtain ⟨l, _, _, hl, _⟩ := h; exact ⟨_, l, hi ▸ hl⟩
 ·obtain ⟨l, hl, _⟩ := h; exact ⟨_, l, hi ▸ hl⟩
theorem Inv.reads (C : Ctx P cl N b0 ro ops st) (I : Inv P N b0 ro ops st ρ0 W0 L k ρ Hr a W) {i : Nat} {o : Oper} (ho : ops[i]? = some o) (hL : ¬ L i) (hr : ∀ j, Waits ops.toList i j → L j) (hk : kind P o = .read)
  (hw : wantedV ops.toList o (st i).T = some true) {v : V} {H' : Hp} (h : opV P o (st i).T (st i).H = some (v, H')) : opV P o (st i).T Hr = some (v, Hr) := by
 have hlt : i < ops.size := (Array.getElem?_eq_some_iff.1 ho).1
 have wlt : ∀ {j x}, j < ops.size → Waits ops.toList j x → x < j := fun hj h => C.drawn.lt _ _ (by simpa using hj) h
 have up1 : ∀ m v', m < ops.size → (∀ om, ops[m]? = some om → kind P om = .eff → ¬ Waits ops.toList i m ∧ ¬ Waits ops.toList m i) → opV P o (st i).T (st m).H = some (v', (st m).H) → opV P o (st i).T (st (m + 1)).H = some (v', (st (m + 1)).H) := by
  intro m v' hm hord hq
  have hom : ops[m]? = some ops[m] := by simp
  have soft : kind P ops[m] ≠ .eff ∨ wantedV ops.toList ops[m] (st m).T = some false → opV P o (st i).T (st (m + 1)).H = some (v', (st (m + 1)).H) := by
   intro hs
   rcases (C.soft hom hs).2 with ⟨_, _, b, _, e⟩ | ⟨_, e⟩
   ·rw [e]
    refine (read_law hk hq).2 _ fun x _ id _ b' hb' => ?_
    rw [List.getElem?_append_left (List.getElem?_eq_some_iff.1 hb').1, hb']
   ·rw [e]; exact hq
  by_cases he : kind P ops[m] = .eff
  ·rcases C.wanted hom with hw' | hw'
   ·obtain ⟨n1, n2⟩ := hord _ hom he
    obtain ⟨v0, H1, H2, h1, h2⟩ := C.dyn i o m _ ho hom hk he hw hw' n1 n2
    rw [hq] at h1
    injection h1 with h1
    injection h1 with h1 _
    subst h1
    rw [h2, (read_law hk h2).1]
   ·exact soft (.inr hw')
  ·exact soft (.inl he)
 have ups : ∀ d m v', m + d ≤ ops.size → (∀ x, m ≤ x → x < m + d → ∀ om, ops[x]? = some om → kind P om = .eff → ¬ Waits ops.toList i x ∧ ¬ Waits ops.toList x i) → opV P o (st i).T (st m).H = some (v', (st m).H) → opV P o (st i).T (st (m + d)).H = some (v', (st (m + d)).H) := by
  intro d
  induction d with
  | zero => intro m v' _ _ h; exact h
  | succ d ih =>
   intro m v' hn hord hq
   have := up1 (m + d) v' (by omega) (hord (m + d) (by omega) (by omega)) (ih m v' (by omega) (fun x h1 h2 => hord x h1 (by omega)) hq)
   exact this
 have h0 : opV P o (st i).T (st i).H = some (v, (st i).H) := by rw [h, (read_law hk h).1]
 rcases Nat.lt_or_ge i k with hik | hki
 ·have := ups (k - i) i v (by have := I.kn; omega) (fun x h1 h2 om hom he => by
   have hLx : L x := I.done x om (by omega) hom (by rw [he]; rfl)
   refine ⟨fun hwx => ?_, fun hwx => hL (I.down x i hLx hwx)⟩
   have := wlt hlt hwx
   omega) h0
  rw [show i + (k - i) = k from by omega] at this
  refine (read_law hk this).2 Hr fun x _ id _ b hb => ?_
  rw [I.pre id (List.getElem?_eq_some_iff.1 hb).1, hb]
 ·have hno : ∀ x, k ≤ x → x < i → ∀ om, ops[x]? = some om → kind P om = .eff → ¬ Waits ops.toList i x ∧ ¬ Waits ops.toList x i := by
   intro x h1 h2 om hom he
   refine ⟨fun hwx => I.late x om h1 hom (hr x hwx) he, fun hwx => ?_⟩
   have := wlt (by omega) hwx
   omega
  have find : ∀ d, k + d ≤ i → (∀ x, k ≤ x → x < k + d → Soft P ops st x) ∨ ∃ m, k ≤ m ∧ m < k + d ∧ (∀ x, k ≤ x → x < m → Soft P ops st x) ∧ ∃ om, ops[m]? = some om ∧ kind P om = .eff ∧ wantedV ops.toList om (st m).T = some true := by
   intro d
   induction d with
   | zero => intro _; exact .inl fun x h1 h2 => by omega
   | succ d ih =>
    intro hd
    rcases ih (by omega) with hs | ⟨m, h1, h2, r⟩
    ·have hom : ops[k + d]? = some ops[k + d] := by simp
     by_cases he : kind P ops[k + d] = .eff
     ·rcases C.wanted hom with hw' | hw'
      ·exact .inr ⟨k + d, by omega, by omega, hs, _, hom, he, hw'⟩
      ·refine .inl fun x h1 h2 => ?_
       rcases Nat.lt_or_ge x (k + d) with h | h
       ·exact hs x h1 h
       ·have : x = k + d := by omega
        subst this
        intro om hom'
        rw [hom] at hom'; injection hom' with e; subst e
        exact .inr hw'
     ·refine .inl fun x h1 h2 => ?_
      rcases Nat.lt_or_ge x (k + d) with h | h
      ·exact hs x h1 h
      ·have : x = k + d := by omega
       subst this
       intro om hom'
       rw [hom] at hom'; injection hom' with e; subst e
       exact .inl he
    ·exact .inr ⟨m, h1, by omega, r⟩
  obtain ⟨m, hkm, hmi, hsoft, hm⟩ : ∃ m, k ≤ m ∧ m ≤ i ∧ (∀ x, k ≤ x → x < m → Soft P ops st x) ∧ opV P o (st i).T (st m).H = some (v, (st m).H) := by
   rcases find (i - k) (by omega) with hs | ⟨m, h1, h2, hs, om, hom, he, hw'⟩
   ·exact ⟨i, hki, Nat.le_refl _, fun x h1 h2 => hs x h1 (by omega), h0⟩
   ·refine ⟨m, h1, by omega, hs, ?_⟩
    obtain ⟨n1, n2⟩ := hno m h1 (by omega) om hom he
    obtain ⟨v0, H1, H2, e1, e2⟩ := C.dyn i o m om ho hom hk he hw hw' n1 n2
    have e1' := (read_law hk e1).1
    have e2' := (read_law hk e2).1
    subst e1' e2'
    have := ups (i - (m + 1)) (m + 1) v0 (by omega) (fun x h1 h2 => hno x (by omega) (by omega)) e2
    rw [show m + 1 + (i - (m + 1)) = i from by omega, h0] at this
    injection this with this
    injection this with this _
    subst this
    exact e1
  refine (read_law hk hm).2 Hr fun x hx id hid b hb => ?_
  obtain ⟨hT, hnm⟩ := I.frame C ho hL hr
  have hev := ev_sim hT x
  rw [← ev_names hnm x hx] at hev
  obtain ⟨g, l, hl⟩ := VR_id hev hid
  have hR := I.step.rel
  obtain ⟨b', hb', hne⟩ : ∃ b', Hr[id]? = some b' ∧ b' ≠ .hole := by
   cases he : Hr[id]? with
   | none => rw [hR.fresh id g (by simpa using he)] at hl; cases hl
   | some b' => exact ⟨b', rfl, AB.ho_ne (hR.ne he hl)⟩
  have hpre : ∀ x, k ≤ x → x ≤ m → id < (st x).H.length → (st m).H[id]? = (st x).H[id]? := by
   intro x h1 h2 h3
   have := C.prefix_ x (m - x) (by omega) (fun y h4 h5 => hsoft y (by omega) (by omega)) id h3
   rwa [show x + (m - x) = m from by omega] at this
  by_cases h1 : id < (st k).H.length
  ·rw [I.pre id h1, ← hpre k (Nat.le_refl _) hkm h1, hb]
  ·obtain ⟨j, oj, hj, hoj, hLj, hkj, hwj, rfl⟩ := I.only id b' (by omega) hb' hne
   have hjn : j < ops.size := (Array.getElem?_eq_some_iff.1 hoj).1
   obtain ⟨b'', hb'', _, e⟩ := I.flt j oj hj hoj hLj hkj hwj
   have hjm : j < m := by
    rcases Nat.lt_or_ge j m with h | h
    ·exact h
    ·have h2 := C.len' h (by omega)
     have h3 := (List.getElem?_eq_some_iff.1 hb).1
     omega
   have := hpre (j + 1) (by omega) hjm (by rw [e]; simp)
   rw [hb, e] at this
   simp at this
   rw [hb'', this]
end
end Go.An
namespace Go.An
open Go
section
variable [Orc]
variable {P : Program} {cl : CallT} {N b0 : Nat} {ro : Option Nat} {nn : Nat} {ops : Array Oper} {st : Nat → St}
variable {ρ0 ρ : Ren} {W0 W : World} {L : Nat → Prop} {k : Nat} {Hr : Hp} {a : Act}
theorem Inv.atEff (C : Ctx P cl N b0 ro ops st) (I : Inv P N b0 ro ops st ρ0 W0 L k ρ Hr a W) {i : Nat} {o : Oper} (ho : ops[i]? = some o) (hL : ¬ L i) (hr : ∀ j, Waits ops.toList i j → L j) (hk : kind P o = .eff) :
  Inv P N b0 ro ops st ρ0 W0 L i ρ Hr a W := by
 have hlt : i < ops.size := (Array.getElem?_eq_some_iff.1 ho).1
 have hki : k ≤ i := by
  rcases Nat.lt_or_ge i k with h | h
  ·exact absurd (I.done i o h ho (by rw [hk]; rfl)) hL
  ·exact h
 have := I.advTo C (i - k) k (by omega) fun j oj h1 h2 hoj => by
  have hji : j < i := by omega
  rcases C.drawn.ord j i oj o hji (by simpa using hoj) (by simpa using ho) with h | ⟨h, _⟩
  ·exact ⟨fun _ => hr j h, I.late j oj h1 hoj (hr j h)⟩
  ·have : ¬ isEff (kind P oj) = true := fun e => h ⟨e, hk⟩
   refine ⟨fun e => absurd e this, fun e => this (by rw [e]; rfl)⟩
 rwa [show k + (i - k) = i from by omega] at this
theorem exec_sim (C : Ctx P cl N b0 ro ops st) (I : Inv P N b0 ro ops st ρ0 W0 L k ρ Hr a W) {i : Nat} {o : Oper} (ho : ops[i]? = some o) (hL : ¬ L i) (hr : ∀ j, Waits ops.toList i j → L j) {Q : Exit → Act → World → Prop} {K : Act → World → Prop}
  (hK : ∀ k' ρ' Hr' a' W', Inv P N b0 ro ops st ρ0 W0 (fun x => x = i ∨ L x) k' ρ' Hr' a' W' → K a' W') : wpOpIn (FW ro) nn P ops Q i K a W := by
 have hlt : i < ops.size := (Array.getElem?_eq_some_iff.1 ho).1
 obtain ⟨hT, hnm⟩ := I.frame C ho hL hr
 have hwant : ∀ w, wantedV ops.toList o (st i).T = some w → Region.wanted o (yielded ops a.tmps) = w := fun w h =>
  wanted_sim (ρ := ρ) (T := (st i).T) (fun t ht => I.named C ho hL hr ht) h
 unfold wpOpIn
 simp only [ho]
 rcases C.step i o ho with ⟨hw, v, s1, h1, h2⟩ | ⟨hw, h2⟩
 ·rw [hwant _ hw, if_pos rfl]
  obtain ⟨e1, e2, e3⟩ := setO_fr h2
  have hv : ∀ t, o.dst = some t → get (st (i + 1)).T t = v := fun t ht => by rw [e3, if_pos ht]
  have hdl : ∀ t, o.dst = some t → t < N := setO_lt h2
  have quiet : (kind P o = .pure ∨ kind P o = .read) → opV P o (st i).T Hr = some (v, Hr) → o.wpIn (FW ro) nn P a W K Q := by
   intro hk hop
   rw [opV_congr o (ev_names hnm)] at hop
   refine op_wp (by rcases hk with hk | hk <;> rw [hk] <;> nofun) I.step.rel hT hop fun u ρ' W' hvu hst => hK k ρ' Hr _ W' ?_
   refine ⟨I.kn, I.step.trans hst, I.pre, fun j oj hj hoj hLj hkj hwj => ?_, fun id b hid hb hne => ?_, slot_put C I ho hL hst.le rfl hvu hdl hv, by rw [put_defers']; exact I.df.mono hst.le, (put_size _ _ _).trans I.sz, down_put I hr, fun j oj hj hoj he => .inr (I.done j oj hj hoj he), fun j oj hj hoj hLj => ?_⟩
   ·rcases hLj with rfl | hLj
    ·rw [ho] at hoj; injection hoj with hoj; subst hoj
     rw [hkj] at hk; rcases hk with hk | hk <;> cases hk
    ·exact I.flt j oj hj hoj hLj hkj hwj
   ·obtain ⟨j, oj, r1, r2, r3, r⟩ := I.only id b hid hb hne
    exact ⟨j, oj, r1, r2, .inr r3, r⟩
   ·rcases hLj with rfl | hLj
    ·rw [ho] at hoj; injection hoj with hoj; subst hoj
     intro e
     rw [e] at hk; rcases hk with hk | hk <;> cases hk
    ·exact I.late j oj hj hoj hLj
  cases hk : kind P o with
  | pure => exact quiet (.inl hk) ((pure_law hk (stepV_op (by rw [hk]; nofun) h1).1).2 Hr)
  | read => exact quiet (.inr hk) (I.reads C ho hL hr hk hw (stepV_op (by rw [hk]; nofun) h1).1)
  | alloc =>
   obtain ⟨b, hb, eH, hop⟩ := alloc_law hk (stepV_op (by rw [hk]; nofun) h1).1
   have hki : k ≤ i := by
    rcases Nat.lt_or_ge i k with h | h
    ·exact absurd (I.done i o h ho (by rw [hk]; rfl)) hL
    ·exact h
   obtain ⟨ρi, ai, Wi, hRi⟩ := C.run i (Nat.le_of_lt hlt)
   have hbd : ρi.Bd (st i).H.length := fun id g h => hRi.rel.fresh id g h
   have hV := I.step.rel.view (I.bdb C hki (Nat.le_of_lt hlt))
   have hop := hop (viewH (st i).H.length Hr) (viewH_length _ _)
   rw [opV_congr o (ev_names hnm)] at hop
   have hTc : FrR (ρ.cut (st i).H.length) (restr (namesOf ops.toList o) (st i).T) a.tmps := by
    intro t
    have h := hT t
    rw [get_restr] at h ⊢
    split at h
    ·rw [if_pos (by assumption)]; exact h.cut hbd (hRi.fr t)
    ·rw [if_neg (by assumption)]; trivial
   have hi1 : (st (i + 1)).H.length = (st i).H.length + 1 := by rw [e2, eH]; simp
   have hapart : ∀ j oj, ops[j]? = some oj → L j → kind P oj = .alloc → wantedV ops.toList oj (st j).T = some true → k ≤ j → (st j).H.length ≠ (st i).H.length := by
    intro j oj hoj hLj hkj hwj hj e
    have hjn : j < ops.size := (Array.getElem?_eq_some_iff.1 hoj).1
    rcases Nat.lt_trichotomy j i with h | h | h
    ·obtain ⟨_, _, _, ej⟩ := I.flt j oj hj hoj hLj hkj hwj
     have := C.len' (i := j + 1) (j := i) h (by omega)
     rw [ej] at this
     simp at this
     omega
    ·subst h; exact hL hLj
    ·have := C.len' (i := i + 1) (j := j) h (by omega)
     omega
   refine op_wp (by rw [hk]; nofun) hV hTc hop fun u ρ' W' hvu hst => ?_
   have hlen : (viewH (st i).H.length Hr ++ [b]).length = (st i).H.length + 1 := by rw [List.length_append, viewH_length]; rfl
   have hm := Step.merge I.step.rel hV hst fun id b' h3 h4 h5 => by
    rw [hlen] at h4
    have : id = (st i).H.length := by omega
    subst this
    refine Classical.byContradiction fun hne => ?_
    obtain ⟨j, oj, r1, r2, r3, r4, r5, r6⟩ := I.only _ b' (C.len' hki (Nat.le_of_lt hlt)) h5 hne
    exact hapart j oj r2 r3 r4 r5 r1 r6.symm
   have hget : ∀ id, (joinH (viewH (st i).H.length Hr ++ [b]) Hr)[id]? = if id < (st i).H.length then (viewH (st i).H.length Hr)[id]? else if id = (st i).H.length then some b else Hr[id]? := by
    intro id
    rw [joinH_get, hlen]
    by_cases h1 : id < (st i).H.length
    ·rw [if_pos (by omega), if_pos h1, List.getElem?_append_left (by rw [viewH_length]; exact h1)]
    ·rw [if_neg h1]
     by_cases h2 : id = (st i).H.length
     ·rw [if_pos h2, if_pos (by omega), List.getElem?_append_right (by rw [viewH_length]; omega), viewH_length]
      subst h2; simp
     ·rw [if_neg h2, if_neg (by omega)]
   have hgl : ∀ id b', id < (st i).H.length → Hr[id]? = some b' → (joinH (viewH (st i).H.length Hr ++ [b]) Hr)[id]? = some b' := by
    intro id b' h1 h2
    rw [hget, if_pos h1, viewH_get, if_pos h1, h2]
   refine hK k _ _ _ W' ⟨I.kn, I.step.trans hm, fun id hid => ?_, fun j oj hj hoj hLj hkj hwj => ?_, fun id b' hid hb' hne => ?_, slot_put C I ho hL hm.le rfl (hvu.mono (join_le hst.rel)) hdl hv, by rw [put_defers']; exact I.df.mono hm.le, (put_size _ _ _).trans I.sz, down_put I hr, fun j oj hj hoj he => .inr (I.done j oj hj hoj he), fun j oj hj hoj hLj => ?_⟩
   ·have h3 := C.len' hki (Nat.le_of_lt hlt)
    have h4 := I.pre id hid
    rw [List.getElem?_eq_getElem hid] at h4 ⊢
    exact hgl id _ (by omega) h4
   ·rcases hLj with rfl | hLj
    ·exact ⟨b, by rw [hget, if_neg (by omega), if_pos rfl], hb, e2.trans eH⟩
    ·obtain ⟨bj, h3, h4, h5⟩ := I.flt j oj hj hoj hLj hkj hwj
     refine ⟨bj, ?_, h4, h5⟩
     have hne := hapart j oj hoj hLj hkj hwj hj
     by_cases h6 : (st j).H.length < (st i).H.length
     ·exact hgl _ _ h6 h3
     ·rw [hget, if_neg h6, if_neg hne, h3]
   ·rw [hget] at hb'
    split at hb'
    ·obtain ⟨j, oj, r1, r2, r3, r⟩ := I.only id b' hid (viewH_in hb' hne).2 hne
     exact ⟨j, oj, r1, r2, .inr r3, r⟩
    ·split at hb'
     ·rename_i h3
      exact ⟨i, o, hki, ho, .inl rfl, hk, hw, h3⟩
     ·obtain ⟨j, oj, r1, r2, r3, r⟩ := I.only id b' hid hb' hne
      exact ⟨j, oj, r1, r2, .inr r3, r⟩
   ·rcases hLj with rfl | hLj
    ·rw [ho] at hoj; injection hoj with hoj; subst hoj
     rw [hk]; nofun
    ·exact I.late j oj hj hoj hLj
  | eff =>
   have I := I.atEff C ho hL hr hk
   obtain ⟨ρi, ai, Wi, hRi⟩ := C.run i (Nat.le_of_lt hlt)
   have hbd : ρi.Bd (st i).H.length := fun id g h => hRi.rel.fresh id g h
   have hview : viewH (st i).H.length Hr = (st i).H := by
    refine List.ext_getElem? fun id => ?_
    rw [viewH_get]
    split
    ·rename_i h3
     have h4 := I.pre id h3
     rw [List.getElem?_eq_getElem h3] at h4 ⊢
     rw [h4]
    ·rw [List.getElem?_eq_none (by omega)]
   have hV := I.step.rel.view (I.bdb C (Nat.le_refl _) (Nat.le_of_lt hlt))
   have hV' := hV
   rw [hview] at hV'
   have hTc : FrR (ρ.cut (st i).H.length) (restr (namesOf ops.toList o) (st i).T) a.tmps := by
    intro t
    have h := hT t
    rw [get_restr] at h ⊢
    split at h
    ·rw [if_pos (by assumption)]; exact h.cut hbd (hRi.fr t)
    ·rw [if_neg (by assumption)]; trivial
   have hs : StR P b0 (ρ.cut (st i).H.length) N ro { st i with T := restr (namesOf ops.toList o) (st i).T } a W := ⟨hV', hTc, I.sz, I.df.cut hbd hRi.df⟩
   have hstep := stepV_congr (P := P) (cl := cl) hnm
   rw [h1] at hstep
   refine step_sim C.cok hs hstep fun u ρ' a1 W' ea _ hvu hd hst => ?_
   simp only at hd hst
   have hst : Step P b0 (ρ.cut (st i).H.length) ρ' (viewH (st i).H.length Hr) s1.H W W' := by rw [hview]; exact hst
   have hm := Step.merge I.step.rel hV hst fun id b' h3 h4 h5 => by
    refine Classical.byContradiction fun hne => ?_
    obtain ⟨j, oj, r1, r2, r3, r4, r5, r6⟩ := I.only _ b' h3 h5 hne
    have hji : j ≠ i := fun e => by subst e; exact hL r3
    have := C.len' (i := i + 1) (j := j) (by omega) (Nat.le_of_lt (Array.getElem?_eq_some_iff.1 r2).1)
    rw [e2] at this
    omega
   refine hK (i + 1) _ _ _ W' ⟨hlt, I.step.trans hm, fun id hid => ?_, fun j oj hj hoj hLj hkj hwj => ?_, fun id b' hid hb' hne => ?_, slot_put C I ho hL hm.le ea (hvu.mono (join_le hst.rel)) hdl hv, by rw [put_defers', e1]; exact hd.mono (join_le hst.rel), (put_size _ _ _).trans (by rw [ea]; exact I.sz), down_put I hr, fun j oj hj hoj he => ?_, fun j oj hj hoj hLj => ?_⟩
   ·rw [e2] at hid ⊢
    rw [joinH_get, if_pos hid]
   ·rcases hLj with rfl | hLj
    ·omega
    ·obtain ⟨bj, h3, h4, h5⟩ := I.flt j oj (by omega) hoj hLj hkj hwj
     refine ⟨bj, ?_, h4, h5⟩
     have := C.len' (i := i + 1) (j := j) hj (Nat.le_of_lt (Array.getElem?_eq_some_iff.1 hoj).1)
     rw [e2] at this
     rw [joinH_get, if_neg (by omega), h3]
   ·rw [e2] at hid
    rw [joinH_get, if_neg (by omega)] at hb'
    have := C.len1 i hlt
    rw [e2] at this
    obtain ⟨j, oj, r1, r2, r3, r⟩ := I.only id b' (by omega) hb' hne
    have hji : j ≠ i := fun e => by subst e; exact hL r3
    exact ⟨j, oj, by omega, r2, .inr r3, r⟩
   ·rcases Nat.lt_or_ge j i with h | h
    ·exact .inr (I.done j oj h hoj he)
    ·exact .inl (by omega)
   ·rcases hLj with rfl | hLj
    ·omega
    ·exact I.late j oj (by omega) hoj hLj
 ·rw [hwant _ hw, if_neg (by simp)]
  refine ⟨fun _ _ => trivial, ?_⟩
  obtain ⟨e1, e2, e3⟩ := setO_fr h2
  have hv : ∀ t, o.dst = some t → get (st (i + 1)).T t = .tup [] := fun t ht => by rw [e3, if_pos ht]
  have hdl : ∀ t, o.dst = some t → t < N := setO_lt h2
  by_cases hk : kind P o = .eff
  ·have I := I.atEff C ho hL hr hk
   refine hK (i + 1) ρ Hr _ W ⟨hlt, I.step, fun id hid => ?_, fun j oj hj hoj hLj hkj hwj => ?_, fun id b' hid hb' hne => ?_, slot_put C I ho hL (Ren.Le.refl _) rfl (v := .tup []) ⟨_, rfl, trivial⟩ hdl hv, by rw [put_defers', e1]; exact I.df, (put_size _ _ _).trans I.sz, down_put I hr, fun j oj hj hoj he => ?_, fun j oj hj hoj hLj => ?_⟩
   ·rw [e2] at hid ⊢
    exact I.pre id hid
   ·rcases hLj with rfl | hLj
    ·omega
    ·exact I.flt j oj (by omega) hoj hLj hkj hwj
   ·rw [e2] at hid
    obtain ⟨j, oj, r1, r2, r3, r⟩ := I.only id b' hid hb' hne
    have hji : j ≠ i := fun e => by subst e; exact hL r3
    exact ⟨j, oj, by omega, r2, .inr r3, r⟩
   ·rcases Nat.lt_or_ge j i with h | h
    ·exact .inr (I.done j oj h hoj he)
    ·exact .inl (by omega)
   ·rcases hLj with rfl | hLj
    ·omega
    ·exact I.late j oj (by omega) hoj hLj
  ·refine hK k ρ Hr _ W ⟨I.kn, I.step, I.pre, fun j oj hj hoj hLj hkj hwj => ?_, fun id b' hid hb' hne => ?_, slot_put C I ho hL (Ren.Le.refl _) rfl (v := .tup []) ⟨_, rfl, trivial⟩ hdl hv, by rw [put_defers']; exact I.df, (put_size _ _ _).trans I.sz, down_put I hr, fun j oj hj hoj he => .inr (I.done j oj hj hoj he), fun j oj hj hoj hLj => ?_⟩
   ·rcases hLj with rfl | hLj
    ·rw [ho] at hoj; injection hoj with hoj; subst hoj
     rw [hw] at hwj; cases hwj
    ·exact I.flt j oj hj hoj hLj hkj hwj
   ·obtain ⟨j, oj, r1, r2, r3, r⟩ := I.only id b' hid hb' hne
    exact ⟨j, oj, r1, r2, .inr r3, r⟩
   ·rcases hLj with rfl | hLj
    ·rw [ho] at hoj; injection hoj with hoj; subst hoj
     exact hk
    ·exact I.late j oj hj hoj hLj
theorem Inv.final (C : Ctx P cl N b0 ro ops st) (I : Inv P N b0 ro ops st ρ0 W0 L k ρ Hr a W) (hall : ∀ i, i < ops.size → L i) : StR P b0 ρ N ro (st ops.size) a W ∧ Step P b0 ρ0 ρ (st 0).H (st ops.size).H W0 W := by
 have I' := I.advTo C (ops.size - k) k (by have := I.kn; omega) fun i o h1 h2 ho => ⟨fun _ => hall i (Array.getElem?_eq_some_iff.1 ho).1, I.late i o h1 ho (hall i (Array.getElem?_eq_some_iff.1 ho).1)⟩
 rw [show k + (ops.size - k) = ops.size from by have := I.kn; omega] at I'
 have hst := I'.step.trim (C.len' (Nat.zero_le _) (Nat.le_refl _)) I'.pre fun id b hid hb => by
  refine Classical.byContradiction fun hne => ?_
  obtain ⟨j, oj, r1, r2, _⟩ := I'.only id b hid hb hne
  have := (Array.getElem?_eq_some_iff.1 r2).1
  omega
 exact ⟨⟨hst.rel, fun t => I'.slot t ops.size (Nat.le_refl _) (fun w o hw _ _ => hall w hw) (fun w o hw how _ => by have := (Array.getElem?_eq_some_iff.1 how).1; omega), I'.sz, I'.df⟩, hst⟩
theorem filter_lt {α : Type} {p p' : α → Bool} {x : α} : ∀ {l : List α}, x ∈ l → p x = true → p' x = false → (∀ y, p' y = true → p y = true) → (l.filter p').length < (l.filter p).length
 | y :: l, hx, h1, h2, h3 => by
  have hle : (l.filter p').length ≤ (l.filter p).length := by
   clear hx
   induction l with
   | nil => simp
   | cons z l ih =>
    simp only [List.filter_cons]
    by_cases hz : p' z = true
    ·rw [if_pos hz, if_pos (h3 z hz)]; simpa using ih
    ·rw [if_neg hz]; split <;> (try simp only [List.length_cons]) <;> omega
  simp only [List.filter_cons]
  rcases List.mem_cons.1 hx with rfl | hx
  ·rw [if_neg (by simp [h2]), if_pos h1]
   simp only [List.length_cons]; omega
  ·have := filter_lt hx h1 h2 h3
   by_cases hz : p' y = true
   ·rw [if_pos hz, if_pos (h3 y hz)]; simpa using this
   ·rw [if_neg hz]; split <;> (try simp only [List.length_cons]) <;> omega
def unlisted (n : Nat) (listed : Array Bool) : Nat := ((List.range n).filter fun i => !listed.getD i false).length
theorem any_sim (C : Ctx P cl N b0 ro ops st) {Q : Exit → Act → World → Prop} (hq : ∀ ρ' a' W', StR P b0 ρ' N ro (st ops.size) a' W' → Step P b0 ρ0 ρ' (st 0).H (st ops.size).H W0 W' → Q .normal a' W') :
  ∀ (fuel : Nat) (listed : Array Bool) (k : Nat) (ρ : Ren) (Hr : Hp) (a : Act) (W : World), listed.size = ops.size → unlisted ops.size listed ≤ fuel → Inv P N b0 ro ops st ρ0 W0 (fun i => listed.getD i false = true) k ρ Hr a W → wpAnyIn (FW ro) nn P .any ops Q fuel listed a W := by
 have ready_of : ∀ (listed : Array Bool), listed.size = ops.size → ∀ i, i ∈ Region.ready .any ops listed ↔ ∃ o, ops[i]? = some o ∧ listed.getD i false = false ∧ ∀ e ∈ o.after.toList, Region.binds .any e = true → listed.getD e.on false = true := by
  intro listed hsz i
  unfold Region.ready
  rw [List.mem_filter, List.mem_range]
  constructor
  ·rintro ⟨hi, h⟩
   simp only [Bool.and_eq_true] at h
   have ho : ops[i]? = some ops[i] := by simp [hi]
   refine ⟨_, ho, ?_, fun e he hb => ?_⟩
   ·have h1 := h.1
    simp only [Array.getD_eq_getD_getElem?, hsz, hi, getElem?_pos, Option.getD_some, Bool.not_eq_true'] at h1 ⊢
    exact h1
   ·have h2 := h.2
    rw [ho] at h2
    simp only [Option.map_some, Option.getD_some] at h2
    rw [← Array.all_toList] at h2
    have := List.all_eq_true.1 h2 e he
    simpa [hb] using this
  ·rintro ⟨o, ho, h1, h2⟩
   have hi := (Array.getElem?_eq_some_iff.1 ho).1
   refine ⟨hi, ?_⟩
   simp only [Bool.and_eq_true]
   constructor
   ·simp only [Array.getD_eq_getD_getElem?, hsz, hi, getElem?_pos, Option.getD_some, Bool.not_eq_true'] at h1 ⊢
    exact h1
   ·rw [ho]
    simp only [Option.map_some, Option.getD_some]
    rw [← Array.all_toList, List.all_eq_true]
    intro e he
    cases hb : Region.binds .any e with
    | false => rfl
    | true => simpa using h2 e he hb
 have all_of : ∀ (listed : Array Bool), listed.size = ops.size → Region.ready .any ops listed = [] → ∀ i, i < ops.size → listed.getD i false = true := by
  intro listed hsz hnil i
  induction i using Nat.strongRecOn with
  | _ i ih =>
   intro hi
   cases hl : listed.getD i false with
   | true => rfl
   | false =>
    have ho : ops[i]? = some ops[i] := by simp [hi]
    have : i ∈ Region.ready .any ops listed := (ready_of listed hsz i).2 ⟨_, ho, hl, fun e he hb => by
     have := C.drawn.back i _ (by simp) e he hb
     exact ih e.on this (by omega)⟩
    rw [hnil] at this
    cases this
 intro fuel
 induction fuel with
 | zero =>
  intro listed k ρ Hr a W hsz hu I
  have hall : ∀ i, i < ops.size → listed.getD i false = true := by
   intro i hi
   have h0 : (List.range ops.size).filter (fun i => !listed.getD i false) = [] := List.eq_nil_of_length_eq_zero (by unfold unlisted at hu; omega)
   cases hl : listed.getD i false with
   | true => rfl
   | false =>
    have : i ∈ (List.range ops.size).filter (fun i => !listed.getD i false) := by simp [hi]; simpa using hl
    rw [h0] at this
    cases this
  obtain ⟨h1, h2⟩ := I.final C hall
  refine ⟨?_, hq ρ a W h1 h2⟩
  refine List.eq_nil_iff_forall_not_mem.2 fun i hi => ?_
  obtain ⟨o, ho, hf, _⟩ := (ready_of listed hsz i).1 hi
  rw [hall i (Array.getElem?_eq_some_iff.1 ho).1] at hf
  cases hf
 | succ fuel ih =>
  intro listed k ρ Hr a W hsz hu I
  refine ⟨fun hnil => ?_, fun i hi => ?_⟩
  ·obtain ⟨h1, h2⟩ := I.final C (all_of listed hsz hnil)
   exact hq ρ a W h1 h2
  ·obtain ⟨o, ho, hf, hedge⟩ := (ready_of listed hsz i).1 hi
   have hlt := (Array.getElem?_eq_some_iff.1 ho).1
   refine exec_sim C I ho (by rw [hf]; nofun) (fun j hw => ?_) fun k' ρ' Hr' a' W' I' => ?_
   ·obtain ⟨e, he, hb, h⟩ := waits_edge (by simpa using ho) (C.drawn.back i o (by simpa using ho)) hw
    have h1 := hedge e he hb
    rcases h with rfl | h
    ·exact h1
    ·exact I.down _ _ h1 h
   ·have hL : (fun x => x = i ∨ listed.getD x false = true) = fun x => (listed.setIfInBounds i true).getD x false = true := by
     funext x
     simp only [Array.getD_eq_getD_getElem?, eq_iff_iff]
     by_cases hx : i = x
     ·subst hx
      simp [hsz, hlt]
     ·rw [Array.getElem?_setIfInBounds_ne hx]
      constructor
      ·rintro (h | h)
       ·exact absurd h.symm hx
       ·exact h
      ·exact .inr
    rw [hL] at I'
    refine ih _ k' ρ' Hr' a' W' (by simpa using hsz) ?_ I'
    have hless : unlisted ops.size (listed.setIfInBounds i true) < unlisted ops.size listed := by
     refine filter_lt (x := i) (by simpa using hlt) (by simp [hf]) (by simp [Array.getD_eq_getD_getElem?, hsz, hlt]) fun y hy => ?_
     by_cases hx : i = y
     ·subst hx
      simp [Array.getD_eq_getD_getElem?, hsz, hlt] at hy
     ·simp only [Array.getD_eq_getD_getElem?] at hy ⊢
      rwa [Array.getElem?_setIfInBounds_ne hx] at hy
    omega
theorem Rel.drawn {H : Hp} (h : Rel P b0 ρ H W) (n : Nat) : Rel P b0 ρ H { W with drawn := n } := ⟨fun id b hb hne => by
  obtain ⟨l, hl, hk⟩ := h.blk id b hb hne
  exact ⟨l, hl, hk.world rfl⟩, h.hole, h.inj, h.fresh, h.gen, h.size, h.imm, h.tok⟩
theorem Step.drawn {ρ' : Ren} {H H' : Hp} {W' : World} {n : Nat} (h : Step P b0 ρ ρ' H H' { W with drawn := n } W') : Step P b0 ρ ρ' H H' W W' := ⟨h.rel, h.le, h.frame, h.new, h.size, h.len, h.os, h.tape, h.output, h.newm⟩
theorem draw_sim (hm : P.follows .mixedOrders = true) (hcl : ClOk P cl) {s sf : St} {tr : List St} {id : Nat} {Q : Exit → Act → World → Prop} (hs : StR P b0 ρ N ro s a W) (hd : drawOk P ops.toList = true) (ht : traceV P cl N ops.toList ops.toList s = some (tr, sf))
  (hy : drawDyn P ops.toList (tr ++ [sf]) = true) (hq : ∀ ρ' a' W', StR P b0 ρ' N ro sf a' W' → Step P b0 ρ ρ' s.H sf.H W W' → Q .normal a' W') : (Code.region id ops true).wpIn (FW ro) nn P Q a W := by
 have hs' : StR P b0 ρ N ro s a { W with drawn := W.drawn + 1 } := ⟨hs.rel.drawn _, hs.fr, hs.sz, hs.df⟩
 obtain ⟨st, C, h0, hn⟩ := ctx_of hcl hd ht hy hs'
 refine wpIn_region_any hm (any_sim (ρ0 := ρ) (W0 := { W with drawn := W.drawn + 1 }) C (fun ρ' a' W' h1 h2 => ?_) ops.size (Array.replicate ops.size false) 0 ρ s.H a _ (by simp) ?_ ?_)
 ·rw [hn] at h1 h2
  rw [h0] at h2
  exact hq ρ' a' W' h1 h2.drawn
 ·exact Nat.le_trans (List.length_filter_le _ _) (by simp)
 ·have hL : ∀ i, ¬ (Array.replicate ops.size false).getD i false = true := by
   intro i
   rw [Array.getD_eq_getD_getElem?, Array.getElem?_replicate]
   split <;> simp
  refine ⟨Nat.zero_le _, (by rw [h0]; exact Step.refl hs'.rel), fun id _ => by rw [h0], fun j o _ _ h => absurd h (hL j), fun id b h1 h2 => ?_, fun t x hx h1 _ => ?_, (by rw [h0]; exact hs.df), hs.sz, fun j i h => absurd h (hL j), fun i o hi => absurd hi (Nat.not_lt_zero _), fun i o _ _ h => absurd h (hL i)⟩
  ·rw [h0] at h1
   rw [List.getElem?_eq_none h1] at h2
   cases h2
  ·have := C.keep (t := t) 0 x (by omega) fun w o _ hw how hd => by
    exact hL w (h1 w o (by omega) how hd)
   rw [Nat.zero_add] at this
   rw [this, h0]
   exact hs.fr t
end
end Go.An
namespace Go.An
open Go
theorem mapO_get {α β : Type} {f : α → Option β} : ∀ {l : List α} {r : List β}, mapO f l = some r → r.length = l.length ∧ ∀ (i : Nat) (y : β), r[i]? = some y → ∃ x, l[i]? = some x ∧ f x = some y
 | [], r, h => by
  simp only [mapO, Option.some.injEq] at h
  subst h
  exact ⟨rfl, fun i y h => by simp at h⟩
 | x :: l, r, h => by
  simp only [mapO] at h
  cases h1 : f x with
  | none => rw [h1] at h; cases h
  | some y =>
   rw [h1] at h
   obtain ⟨r', h2, rfl⟩ := Option.map_eq_some_iff.1 h
   obtain ⟨h3, h4⟩ := mapO_get h2
   refine ⟨by simp [h3], fun i z hz => ?_⟩
   cases i with
   | zero =>
    simp only [List.getElem?_cons_zero, Option.some.injEq] at hz
    subst hz
    exact ⟨x, rfl, h1⟩
   | succ i =>
    simp only [List.getElem?_cons_succ] at hz ⊢
    exact h4 i z hz
def V.nb : V → Bool
 | .fn .. | .ifc .. => false
 | _ => true
section
variable {P : Program} {b0 : Nat} {ρ ρ' : Ren} {H H' : Hp} {W W' : World}
open Classical in
noncomputable def frzM (ρ' : Ren) (n : Nat) (H' : Hp) (W' : World) : Nat → Option (Array Value) := fun k =>
 if ∃ id g cs l, n ≤ id ∧ H'[id]? = some (.row g cs true) ∧ ρ' id g = some l ∧ l.blk = k then (match W'.heap[k]? with | some (.cells C _ _) => some C | _ => none) else ρ'.m k
noncomputable def frzR (ρ' : Ren) (n : Nat) (H' : Hp) (W' : World) : Ren := ⟨fun id g => if id < n then ρ' id g else none, frzM ρ' n H' W'⟩
theorem frzR_r (n id g : Nat) : frzR ρ' n H' W' id g = if id < n then ρ' id g else none := rfl
theorem frz_le (hR' : Rel P b0 ρ' H' W') (n : Nat) : ∀ k C, ρ'.m k = some C → ∃ C', frzM ρ' n H' W' k = some C' ∧ Sub C C' := by
 intro k C hk
 refine ⟨C, ?_, .refl C⟩
 unfold frzM
 rw [if_neg]
 ·exact hk
 ·rintro ⟨id, g, cs, l, _, h2, h3, h4⟩
  obtain ⟨l', hl', hb⟩ := hR'.blk id _ h2 rfl
  simp only [AB.gen] at hl'
  rw [h3] at hl'
  injection hl' with e
  subst e
  exact (hR'.imm k C hk).2 ⟨id, _, l, h2, rfl, h3, hb.1, h4⟩
theorem frz_new (hR' : Rel P b0 ρ' H' W') {n id g : Nat} {cs : List V} {l : Loc} (hn : n ≤ id) (hb : H'[id]? = some (.row g cs true)) (hl : ρ' id g = some l) : ∃ C, frzM ρ' n H' W' l.blk = some C ∧ CellsRel ρ' cs C l.base ∧ l.own = true := by
 obtain ⟨l', hl', hk⟩ := hR'.blk id _ hb rfl
 simp only [AB.gen] at hl'
 rw [hl] at hl'
 injection hl' with e
 subst e
 obtain ⟨ho, C, t, fr, hC, hcr, _⟩ := hk
 refine ⟨C, ?_, hcr, ho⟩
 unfold frzM
 rw [if_pos ⟨id, g, cs, l, hn, hb, hl, rfl⟩, hC]
theorem mapO_at {α β : Type} {f : α → Option β} : ∀ {l : List α} {r : List β}, mapO f l = some r → ∀ (i : Nat) (x : α), l[i]? = some x → ∃ y, r[i]? = some y ∧ f x = some y := by
 intro l r h i x hx
 obtain ⟨h1, h2⟩ := mapO_get h
 have hi : i < r.length := by rw [h1]; exact (List.getElem?_eq_some_iff.1 hx).1
 obtain ⟨x', h3, h4⟩ := h2 i _ (List.getElem?_eq_getElem hi)
 rw [hx] at h3
 injection h3 with e
 subst e
 exact ⟨_, List.getElem?_eq_getElem hi, h4⟩
theorem base_VB {v : V} {u : Value} (h : VC ρ v u) (hf : v.nb = true) : VB ρ v u := by
 cases v <;> first | exact h | cases hf
theorem VB_VC {v : V} {u : Value} (h : VB ρ v u) (hf : v.nb = true) : VC ρ v u := by
 cases v <;> first | exact h | cases hf
theorem inlB_nf {n f : Nat} {v v' : V} (h : inlB n H' f v = some v') : v.nb = true ∧ v'.nb = true ∧ v'.isCell = true := by
 cases f with
 | zero => cases h
 | succ f =>
  simp only [inlB] at h
  cases v <;> simp only [reduceCtorEq] at h
  case slice id g off len sz cp =>
   split at h
   ·injection h with h; subst h; simp [V.isCell, V.nb]
   ·split at h
    ·split at h
     ·obtain ⟨xs, _, h⟩ := Option.bind_eq_some_iff.1 h
      split at h
      ·injection h with h; subst h; simp [V.isCell, V.nb]
      ·cases h
     ·cases h
    ·cases h
  case ptr id g off =>
   split at h
   ·injection h with h; subst h; simp [V.isCell, V.nb]
   ·split at h
    ·split at h
     ·obtain ⟨xs, _, h⟩ := Option.bind_eq_some_iff.1 h
      split at h
      ·injection h with h; subst h; simp [V.isCell, V.nb]
      ·cases h
     ·cases h
    ·cases h
  case map id =>
   split at h
   ·injection h with h; subst h; simp [V.isCell, V.nb]
   ·cases h
  case yld id =>
   split at h
   ·injection h with h; subst h; simp [V.isCell, V.nb]
   ·cases h
  case osl id cs m sz =>
   split at h
   ·injection h with h; subst h; simp [V.isCell, V.nb]
   ·injection h with h; subst h; simp only [V.dem1]; split <;> simp [V.isCell, V.nb]
  all_goals (injection h with h; subst h; simp [V.isCell, V.nb])
theorem inlB_ok (hR' : Rel P b0 ρ' H' W') {n : Nat} : ∀ (f : Nat) {v v' : V} {u : Value}, VB ρ' v u → inlB n H' f v = some v' → VB (frzR ρ' n H' W') v' u
 | 0, _, _, _, _, h => by cases h
 | f + 1, v, v', u, hv, h => by
  have hle := frz_le hR' n
  have seg : ∀ {xs ys : List V} {C : Array Value} {base : Nat}, CellsRel ρ' xs C base → mapO (inlB n H' f) xs = some ys → immL ys = true → VIs (frzM ρ' n H' W') ys C base := by
   intro xs ys C base hc hm hi
   refine VIs_iff.2 fun j y hy => ?_
   obtain ⟨x, h1, h2⟩ := (mapO_get hm).2 j y hy
   obtain ⟨w, h3, h4, h5⟩ := hc j x h1
   have h6 := inlB_ok hR' f (base_VB h4 (inlB_nf h2).1) h2
   exact ⟨w, h3, h5, (VB_VC h6 (inlB_nf h2).2.1).vi (ρ := frzR ρ' n H' W') (immL_iff.1 hi y (List.mem_of_getElem? hy))⟩
  simp only [inlB] at h
  cases v <;> simp only [reduceCtorEq] at h
  case slice id g off len sz cp =>
   obtain ⟨l, a, c, hl, rfl, hlc, ha, hcap, hcp⟩ := hv
   split at h
   ·rename_i hid
    injection h with h; subst h
    exact ⟨l, a, c, by rw [frzR_r, if_pos hid]; exact hl, rfl, hlc, ha, hcap, hcp⟩
   ·rename_i hid
    split at h
    ·rename_i g' cs hb
     split at h
     ·rename_i hc
      obtain ⟨rfl, hfit⟩ := hc
      obtain ⟨xs, hxs, h⟩ := Option.bind_eq_some_iff.1 h
      split at h
      ·rename_i hi
       injection h with h; subst h
       obtain ⟨C, hC, hcr, _⟩ := frz_new hR' (Nat.le_of_not_lt hid) hb hl
       show VI (frzM ρ' n H' W') _ _
       simp only [VI]
       refine ⟨a, c, rfl, hlc, ?_⟩
       rcases ha with rfl | h0
       ·refine .inr ⟨_, _, C, rfl, hC, seg (fun j v hj => ?_) hxs hi⟩
        rw [List.getElem?_take] at hj
        split at hj
        ·rw [List.getElem?_drop] at hj
         obtain ⟨w, h1, h2⟩ := hcr _ v hj
         exact ⟨w, by rwa [← Nat.add_assoc] at h1, h2⟩
        ·cases hj
       ·left
        have hl0 : len = 0 := by omega
        subst hl0
        simp only [Nat.zero_mul, List.take_zero, mapO, Option.some.injEq] at hxs
        exact hxs.symm
      ·cases h
     ·cases h
    ·cases h
  case ptr id g off =>
   obtain ⟨l, hl, rfl⟩ := hv
   split at h
   ·rename_i hid
    injection h with h; subst h
    exact ⟨l, by rw [frzR_r, if_pos hid]; exact hl, rfl⟩
   ·rename_i hid
    split at h
    ·rename_i g' cs hb
     split at h
     ·rename_i hc
      subst hc
      obtain ⟨xs, hxs, h⟩ := Option.bind_eq_some_iff.1 h
      split at h
      ·rename_i hi
       injection h with h; subst h
       obtain ⟨C, hC, hcr, _⟩ := frz_new hR' (Nat.le_of_not_lt hid) hb hl
       show VI (frzM ρ' n H' W') _ _
       simp only [VI]
       exact ⟨_, _, C, rfl, hC, seg hcr hxs hi⟩
      ·cases h
     ·cases h
    ·cases h
  case map id =>
   obtain ⟨l, hl, rfl⟩ := hv
   split at h
   ·rename_i hid
    injection h with h; subst h
    exact ⟨l, by rw [frzR_r, if_pos hid]; exact hl, rfl⟩
   ·cases h
  case osl id cs m sz =>
   split at h
   ·rename_i hid
    injection h with h; subst h
    rcases hv with hv | ⟨h0, h1, h2, l, c, C, h3, h4, h5, h6, h7, h8⟩
    ·exact .inl hv
    ·obtain ⟨C', h9, h10⟩ := hle _ _ h7
     exact .inr ⟨h0, h1, h2, l, c, C', by rw [frzR_r, if_pos hid]; exact h3, h4, h5, h6, h9, h8.mono hle h10⟩
   ·injection h with h; subst h
    have hd := dem1_VB hv
    simp only [V.dem1] at hd ⊢
    split at hd
    ·rename_i e; rw [if_pos e]; exact hd
    ·rename_i e; rw [if_neg e]; exact VI.mono hle hd
  case yld id =>
   obtain ⟨l, hl, rfl⟩ := hv
   split at h
   ·rename_i hid
    injection h with h; subst h
    exact ⟨l, by rw [frzR_r, if_pos hid]; exact hl, rfl⟩
   ·cases h
  case isl cs m sz =>
   injection h with h; subst h
   exact VI.mono hle hv
  case ipt cs off =>
   injection h with h; subst h
   exact VI.mono hle hv
  all_goals (injection h with h; subst h; exact hv)
theorem VL_mapO {R R' : V → Value → Prop} {g : V → Option V} (hg : ∀ v v' u, R v u → g v = some v' → R' v' u) : ∀ {vs ws : List V} {us : List Value}, VL R vs us → mapO g vs = some ws → VL R' ws us
 | [], ws, [], _, h => by
  simp only [mapO, Option.some.injEq] at h
  subst h
  trivial
 | v :: vs, ws, u :: us, hv, h => by
  simp only [mapO] at h
  obtain ⟨y, h1, h2⟩ := Option.bind_eq_some_iff.1 h
  obtain ⟨ys, h3, rfl⟩ := Option.map_eq_some_iff.1 h2
  exact ⟨hg _ _ _ hv.1 h1, VL_mapO hg hv.2 h3⟩
 | [], _, _ :: _, hv, _ => hv.elim
 | _ :: _, _, [], hv, _ => hv.elim
theorem inlC_nb {n f : Nat} {v : V} (h : v.nb = true) : inlC n H' f v = inlB n H' f v := by cases v <;> first | rfl | cases h
theorem inlC_ok (hR' : Rel P b0 ρ' H' W') {n f : Nat} {v v' : V} {u : Value} (hv : VC ρ' v u) (h : inlC n H' f v = some v') : VC (frzR ρ' n H' W') v' u := by
 cases hf : v.nb with
 | true =>
  rw [inlC_nb hf] at h
  exact VB_VC (inlB_ok hR' f (base_VB hv hf) h) (inlB_nf h).2.1
 | false =>
  have hB : ∀ v v' u, VB ρ' v u → inlB n H' f v = some v' → VB (frzR ρ' n H' W') v' u := fun _ _ _ h1 h2 => inlB_ok hR' f h1 h2
  cases v <;> simp only [V.nb, reduceCtorEq] at hf
  ·simp only [inlC] at h
   obtain ⟨a', h1, h2⟩ := Option.bind_eq_some_iff.1 h
   obtain ⟨b', h3, rfl⟩ := Option.map_eq_some_iff.1 h2
   obtain ⟨x, y, e, r, s⟩ := hv
   exact ⟨x, y, e, VL_mapO (R := VB ρ') (R' := VB (frzR ρ' n H' W')) hB r h1, VL_mapO (R := VB ρ') (R' := VB (frzR ρ' n H' W')) hB s h3⟩
  ·simp only [inlC] at h
   obtain ⟨cs', h1, rfl⟩ := Option.map_eq_some_iff.1 h
   obtain ⟨x, y, e, r, s⟩ := hv
   exact ⟨x, y, e, VL_mapO (R := VB ρ') (R' := VB (frzR ρ' n H' W')) hB r h1, s⟩
theorem inlC_cell {n f : Nat} {v v' : V} (h : inlC n H' f v = some v') : v'.isCell = true := by
 cases hf : v.nb with
 | true =>
  rw [inlC_nb hf] at h
  exact (inlB_nf h).2.2
 | false =>
  cases v <;> simp only [V.nb, reduceCtorEq] at hf
  ·simp only [inlC] at h
   obtain ⟨a', h1, h2⟩ := Option.bind_eq_some_iff.1 h
   obtain ⟨b', h3, rfl⟩ := Option.map_eq_some_iff.1 h2
   rfl
  ·simp only [inlC] at h
   obtain ⟨cs', h1, rfl⟩ := Option.map_eq_some_iff.1 h
   rfl
theorem cell_VA {v : V} {u : Value} (h : VC ρ v u) (hc : v.isCell = true) : VA ρ v u := h.va hc
theorem inlA_ok (hR' : Rel P b0 ρ' H' W') {n f : Nat} {v v' : V} {u : Value} (hv : VA ρ' v u) (h : inlA n H' f v = some v') : VA (frzR ρ' n H' W') v' u ∧ elemOk v' = true := by
 by_cases hf : ∃ cs, v = .agg cs
 ·obtain ⟨cs, rfl⟩ := hf
  simp only [inlA] at h
  obtain ⟨ys, h1, rfl⟩ := Option.map_eq_some_iff.1 h
  obtain ⟨us, e, r⟩ := hv
  refine ⟨⟨us, e, VL_mapO (R := VC ρ') (R' := VC (frzR ρ' n H' W')) (fun _ _ _ h1 h2 => inlC_ok hR' h1 h2) r h1⟩, ?_⟩
  simp only [elemOk, List.all_eq_true]
  intro y hy
  obtain ⟨i, hi⟩ := List.getElem?_of_mem hy
  obtain ⟨x, _, h3⟩ := (mapO_get h1).2 i y hi
  exact inlC_cell h3
 ·have hf' : ∀ cs, v ≠ .agg cs := fun cs e => hf ⟨cs, e⟩
  have e : inlA n H' f v = inlC n H' f v := by cases v <;> first | rfl | exact absurd rfl (hf' _)
  rw [e] at h
  have hv' : VC ρ' v u := by cases v <;> first | exact hv | exact absurd rfl (hf' _)
  have hc := inlC_cell h
  refine ⟨cell_VA (inlC_ok hR' hv' h) hc, ?_⟩
  cases v' <;> first | exact hc | (simp [V.isCell] at hc; done)
theorem inlR_ok (hR' : Rel P b0 ρ' H' W') {n f : Nat} {v v' : V} {u : Value} (hv : VR ρ' v u) (h : inlR n H' f v = some v') : VR (frzR ρ' n H' W') v' u := by
 by_cases hf : ∃ cs, v = .tup cs
 ·obtain ⟨cs, rfl⟩ := hf
  simp only [inlR] at h
  obtain ⟨ys, h1, rfl⟩ := Option.map_eq_some_iff.1 h
  obtain ⟨us, e, r⟩ := hv
  exact ⟨us, e, VL_mapO (R := VA ρ') (R' := VA (frzR ρ' n H' W')) (fun _ _ _ h1 h2 => (inlA_ok hR' h1 h2).1) r h1⟩
 ·have hf' : ∀ cs, v ≠ .tup cs := fun cs e => hf ⟨cs, e⟩
  have e : inlR n H' f v = inlA n H' f v := by cases v <;> first | rfl | exact absurd rfl (hf' _)
  rw [e] at h
  have hv' : VA ρ' v u := hv.va hf'
  exact (inlA_ok hR' hv' h).1.toVR
section
variable [Orc]
variable {ρ2 : Ren} {W : World}
def ren0 (W : World) : Ren := ⟨fun _ _ => none, fun k => match W.heap[k]? with | some (.cells C _ _) => some C | _ => none⟩
theorem rel0 (P : Program) (W : World) : Rel P W.heap.size (ren0 W) [] W := by
 refine ⟨fun id b h => by simp at h, fun id g b h => by simp at h, fun i j bi bj li lj _ h => by simp at h, fun _ _ _ => rfl, fun id b g h => by simp at h, Nat.le_refl _, fun k C hk => ?_, fun id n l C h => by simp at h⟩
 refine ⟨?_, fun ⟨i, b, l, h, _⟩ => by simp at h⟩
 simp only [ren0] at hk
 split at hk
 ·rename_i C' t fr h
  injection hk with hk
  subst hk
  exact ⟨_, t, fr, h, .refl _⟩
 ·cases hk
theorem flat_VB {v : V} {u : Value} (h : VC ρ v u) (hf : v.flat = true) : VC ρ2 v u := by
 cases v <;> simp [V.flat] at hf <;> exact h
theorem Rel.grow (h : Rel P b0 ρ H W) {W' : World} (hw : ∀ k, k < W.heap.size → W'.heap[k]? = W.heap[k]?) (hs : W.heap.size ≤ W'.heap.size) : Rel P b0 ρ H W' :=
 ⟨fun id b hb hne => by
  obtain ⟨l, hl, hk⟩ := h.blk id b hb hne
  exact ⟨l, hl, hk.world (hw _ hk.lt)⟩, h.hole, h.inj, h.fresh, h.gen, Nat.le_trans h.size hs, fun k C hk => by
  obtain ⟨⟨A, t, fr, h1, h3⟩, h2⟩ := h.imm k C hk
  exact ⟨⟨A, t, fr, (hw k (Array.getElem?_eq_some_iff.1 h1).1).trans h1, h3⟩, h2⟩, h.tok⟩
theorem flat_VR {v : V} {u : Value} (h : VR ρ v u) (hf : v.flat = true) : VR ρ2 v u := by
 cases v <;> simp [V.flat] at hf <;> exact h
theorem frz_ren0 (hR : Rel P b0 ρ H W) : (frzR ρ 0 H W).Le (ren0 W) := by
 refine ⟨fun id g l h => by simp [frzR_r] at h, fun k C h => ?_⟩
 change frzM ρ 0 H W k = some C at h
 unfold frzM at h
 split at h
 ·split at h
  ·rename_i C' t fr hC
   injection h with h
   subst h
   exact ⟨C', by simp only [ren0, hC], .refl _⟩
  ·cases h
 ·obtain ⟨⟨A, t, fr, hA, hs⟩, _⟩ := hR.imm k C h
  exact ⟨A, by simp only [ren0, hA], hs⟩
theorem pre_ok (hR : Rel P b0 ρ H W) {k : Nat} {args a : List V} {us : List Value} (ha : VL (VR ρ) args us) (h : preV k args H = some a) : VL (VR (ren0 W)) a us := by
 unfold preV at h
 split at h
 ·exact VL_mapO (R := VR ρ) (fun _ _ _ h1 h2 => (inlR_ok hR h1 h2).mono (frz_ren0 hR)) ha h
 ·cases h
end
end
end Go.An
