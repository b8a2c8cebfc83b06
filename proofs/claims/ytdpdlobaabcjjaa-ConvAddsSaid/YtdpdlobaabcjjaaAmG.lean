/-
  The abstract machine, part G: equality, held against the model. No statement of the seat stands here.
-/
import Derived.Test.YtdpdlobaabcjjaaAmF
import Derived.Laws.StructEq
namespace Go.Am
open Go

section
variable {P : Program} {ρ : Ren} {W : World}

theorem eqCells_split : ∀ (k : Nat) (x y : List V), x.length = y.length → eqCells x y = (eqCells (x.take k) (y.take k) && eqCells (x.drop k) (y.drop k))
  | 0, x, y, _ => by simp [eqCells]
  | k + 1, [], [], _ => by simp [eqCells]
  | k + 1, a :: x, b :: y, h => by
    simp only [eqCells, List.take_succ_cons, List.drop_succ_cons]
    rw [eqCells_split k x y (by simpa using h), Bool.and_assoc]
  | k + 1, [], _ :: _, h => by simp at h
  | k + 1, _ :: _, [], h => by simp at h
theorem ckOks_length : ∀ {ks : List CK} {vs : List V}, ckOks ks vs = true → ks.length = vs.length
  | [], [], _ => rfl
  | _ :: ks, _ :: vs, h => by simp only [ckOks, Bool.and_eq_true] at h; simp [ckOks_length h.2]
  | [], _ :: _, h => by simp [ckOks] at h
  | _ :: _, [], h => by simp [ckOks] at h
theorem ckOks_append : ∀ {ks ls : List CK} {vs : List V}, ckOks (ks ++ ls) vs = true → ckOks ks (vs.take ks.length) = true ∧ ckOks ls (vs.drop ks.length) = true
  | [], ls, vs, h => by simpa [ckOks] using h
  | k :: ks, ls, [], h => by simp [ckOks] at h
  | k :: ks, ls, v :: vs, h => by
    simp only [List.cons_append, ckOks, Bool.and_eq_true] at h
    obtain ⟨h1, h2⟩ := ckOks_append h.2
    simp only [List.length_cons, List.take_succ_cons, List.drop_succ_cons, ckOks, Bool.and_eq_true]
    exact ⟨⟨h.1, h1⟩, h2⟩
theorem flatFields_append {flat : TypeId → Option (List CK)} : ∀ {fs : List Field} {acc ks : List CK}, flatFields P flat fs acc = some ks → ∃ r, ks = acc ++ r
  | [], acc, ks, h => by simp only [flatFields, Option.some.injEq] at h; exact ⟨[], by simp [h]⟩
  | f :: fs, acc, ks, h => by
    simp only [flatFields] at h
    cases hk : flat f.type with
    | none => rw [hk] at h; cases h
    | some kf =>
      rw [hk] at h
      simp only [Option.bind_some] at h
      split at h
      · obtain ⟨r, hr⟩ := flatFields_append h
        exact ⟨kf ++ r, by rw [hr, List.append_assoc]⟩
      · cases h

/-- What 'flat' says of a type's parts. -/
def FlatSays (P : Program) (ρ : Ren) (W : World) (D : Nat) (t : TypeId) (ks : List CK) : Prop :=
  ∀ (X Y : Array Value) (xs ys : List V) (off : Nat), VL (VC ρ) xs X.toList → VL (VC ρ) ys Y.toList → off + ks.length ≤ xs.length → off + ks.length ≤ ys.length → szOf P t = some ks.length →
    ckOks ks ((xs.drop off).take ks.length) = true → ckOks ks ((ys.drop off).take ks.length) = true →
    ∃ a b, (part t X off).run P W = .ok a W ∧ (part t Y off).run P W = .ok b W ∧ (Op.equalIn D t a b).run P W = .ok (eqCells ((xs.drop off).take ks.length) ((ys.drop off).take ks.length)) W

theorem fields_eq {flat : TypeId → Option (List CK)} {D : Nat} (hflat : ∀ t ks, flat t = some ks → FlatSays P ρ W D t ks) {X Y : Array Value} {xs ys : List V} (hx : VL (VC ρ) xs X.toList) (hy : VL (VC ρ) ys Y.toList) :
    ∀ (fs : List Field) (acc ks : List CK), flatFields P flat fs acc = some ks → ckOks ks xs = true → ckOks ks ys = true →
      (Op.eqFields D X Y fs).run P W = .ok (eqCells (xs.drop acc.length) (ys.drop acc.length)) W
  | [], acc, ks, h, h1, h2 => by
    simp only [flatFields, Option.some.injEq] at h
    subst h
    rw [List.drop_of_length_le (by rw [ckOks_length h1]; exact Nat.le_refl _), List.drop_of_length_le (by rw [ckOks_length h2]; exact Nat.le_refl _)]
    simp [Op.eqFields, eqCells]
  | f :: fs, acc, ks, h, h1, h2 => by
    simp only [flatFields] at h
    cases hk : flat f.type with
    | none => rw [hk] at h; cases h
    | some kf =>
      rw [hk] at h
      simp only [Option.bind_some] at h
      split at h
      · rename_i hc
        obtain ⟨hn, ho, hs⟩ := hc
        obtain ⟨r, hr⟩ := flatFields_append h
        have l1 := ckOks_length h1
        have l2 := ckOks_length h2
        have lk : ks.length = acc.length + kf.length + r.length := by rw [hr]; simp; omega
        have c1 : ckOks kf ((xs.drop acc.length).take kf.length) = true := by
          rw [hr, List.append_assoc] at h1
          exact (ckOks_append (ckOks_append h1).2).1
        have c2 : ckOks kf ((ys.drop acc.length).take kf.length) = true := by
          rw [hr, List.append_assoc] at h2
          exact (ckOks_append (ckOks_append h2).2).1
        obtain ⟨a, b, e1, e2, e3⟩ := hflat _ _ hk X Y xs ys acc.length hx hy (by omega) (by omega) hs c1 c2
        have ih := fields_eq hflat hx hy fs (acc ++ kf) ks h h1 h2
        rw [eqCells_split kf.length (xs.drop acc.length) (ys.drop acc.length) (by simp; omega)]
        simp only [Op.eqFields, if_pos hn, Sem.run_bind, ho, e1, e2, e3, Result.andThen_ok]
        generalize eqCells ((xs.drop acc.length).take kf.length) ((ys.drop acc.length).take kf.length) = q
        cases q
        · simp
        · simp [ih, List.drop_drop, List.length_append]
      · cases h

theorem repeatK_length (z : List CK) : ∀ n, (repeatK z n).length = n * z.length
  | 0 => by simp [repeatK]
  | n + 1 => by simp only [repeatK, List.length_append, repeatK_length z n, Nat.succ_mul]; omega

theorem elems_eq {D : Nat} {e : TypeId} {kf : List CK} (hflat : FlatSays P ρ W D e kf) (hs : szOf P e = some kf.length) {X Y : Array Value} {xs ys : List V} (hx : VL (VC ρ) xs X.toList) (hy : VL (VC ρ) ys Y.toList) :
    ∀ (m i : Nat), xs.length = (i + m) * kf.length → ys.length = (i + m) * kf.length → ckOks (repeatK kf m) (xs.drop (i * kf.length)) = true → ckOks (repeatK kf m) (ys.drop (i * kf.length)) = true →
      (forIn (m := Sem) (List.range' i m 1) ((none, ()) : Option Bool × Unit) (fun i _ => do
        let a ← part e X (i * kf.length)
        let b ← part e Y (i * kf.length)
        let r ← Op.equalIn D e a b
        if (!r) = true then pure (ForInStep.done (some false, ())) else do
          pure (ForInStep.yield (none, ())))).run P W = .ok (if eqCells (xs.drop (i * kf.length)) (ys.drop (i * kf.length)) = true then (none, ()) else (some false, ())) W
  | 0, i, h1, h2, _, _ => by
    rw [Nat.add_zero] at h1 h2
    rw [List.drop_of_length_le (by omega), List.drop_of_length_le (by omega)]
    simp [eqCells]
  | m + 1, i, h1, h2, c1, c2 => by
    simp only [repeatK] at c1 c2
    obtain ⟨a1, b1⟩ := ckOks_append c1
    obtain ⟨a2, b2⟩ := ckOks_append c2
    have e0 : (i + (m + 1)) * kf.length = i * kf.length + kf.length + m * kf.length := by rw [Nat.add_mul, Nat.succ_mul]; omega
    obtain ⟨a, b, e1, e2, e3⟩ := hflat X Y xs ys (i * kf.length) hx hy (by omega) (by omega) hs a1 a2
    have e4 : (i + 1) * kf.length = i * kf.length + kf.length := Nat.succ_mul _ _
    have ih := elems_eq hflat hs hx hy m (i + 1) (by rw [h1]; congr 1; omega) (by rw [h2]; congr 1; omega) (by rw [e4, ← List.drop_drop]; exact b1) (by rw [e4, ← List.drop_drop]; exact b2)
    rw [eqCells_split kf.length (xs.drop (i * kf.length)) (ys.drop (i * kf.length)) (by simp; omega)]
    simp only [List.range'_succ, List.forIn_cons, Sem.run_bind, e1, e2, e3, Result.andThen_ok]
    generalize eqCells ((xs.drop (i * kf.length)).take kf.length) ((ys.drop (i * kf.length)).take kf.length) = q
    cases q
    · simp
    · simp only [Bool.not_true, Bool.false_eq_true, if_false, Sem.run_pure, Result.andThen_ok, ih, Bool.true_and, e4, ← List.drop_drop]

theorem flat_eq : ∀ (d : Nat) (t : TypeId) (ks : List CK), flatT P d t = some ks → ∀ D, d ≤ D → FlatSays P ρ W D t ks
  | 0, t, ks, h => by simp [flatT] at h
  | d + 1, t, ks, h => by
    intro D hD X Y xs ys off hx hy l1 l2 hs c1 c2
    obtain ⟨D, rfl⟩ : ∃ D', D = D' + 1 := ⟨D - 1, by omega⟩
    have ihd : ∀ t' ks', flatT P d t' = some ks' → FlatSays P ρ W D t' ks' := fun t' ks' h' => flat_eq d t' ks' h' D (by omega)
    have scalar : ∀ (k : CK), aggT P t = some false → ks = [k] → ∃ x y u v, xs[off]? = some x ∧ ys[off]? = some y ∧ X[off]? = some u ∧ Y[off]? = some v ∧ VC ρ x u ∧ VC ρ y v ∧ ckOk k x = true ∧ ckOk k y = true ∧
        (part t X off).run P W = .ok u W ∧ (part t Y off).run P W = .ok v W ∧ (xs.drop off).take ks.length = [x] ∧ (ys.drop off).take ks.length = [y] := by
      intro k ha hk
      subst hk
      simp only [List.length_singleton] at l1 l2
      have g1 : xs[off]? = some xs[off] := List.getElem?_eq_getElem (by omega)
      have g2 : ys[off]? = some ys[off] := List.getElem?_eq_getElem (by omega)
      obtain ⟨u, hu, ru⟩ := hx.get off g1
      obtain ⟨v, hv, rv⟩ := hy.get off g2
      have t1 : (xs.drop off).take 1 = [xs[off]] := by rw [List.drop_eq_getElem_cons (by omega)]; rfl
      have t2 : (ys.drop off).take 1 = [ys[off]] := by rw [List.drop_eq_getElem_cons (by omega)]; rfl
      simp only [List.length_singleton, t1, t2, ckOks, Bool.and_true] at c1 c2
      have hu' : X[off]? = some u := by simpa using hu
      have hv' : Y[off]? = some v := by simpa using hv
      refine ⟨_, _, u, v, g1, g2, hu', hv', ru, rv, c1, c2, ?_, ?_, t1, t2⟩
      · simp [part, run_aggT ha, hu']
      · simp [part, run_aggT ha, hv']
    have agg : aggT P t = some true → (part t X off).run P W = .ok (.agg (X.extract off (off + ks.length))) W ∧ (part t Y off).run P W = .ok (.agg (Y.extract off (off + ks.length))) W ∧
        VL (VC ρ) ((xs.drop off).take ks.length) (X.extract off (off + ks.length)).toList ∧ VL (VC ρ) ((ys.drop off).take ks.length) (Y.extract off (off + ks.length)).toList := by
      intro ha
      refine ⟨by simp [part, run_aggT ha, run_szOf hs], by simp [part, run_aggT ha, run_szOf hs], ?_, ?_⟩
      · simpa [Array.toList_extract, List.extract_eq_take_drop] using (hx.drop off).take ks.length
      · simpa [Array.toList_extract, List.extract_eq_take_drop] using (hy.drop off).take ks.length
    simp only [flatT] at h
    split at h
    · rename_i k hu
      simp only [Option.some.injEq] at h
      obtain ⟨x, y, u, v, _, _, _, _, rx, ry, k1, k2, p1, p2, t1, t2⟩ := scalar (.int k) (by simp [aggT, hu]) h.symm
      rw [t1, t2]
      cases x <;> simp [ckOk] at k1
      cases y <;> simp [ckOk] at k2
      subst k1 k2
      have e1 : u = .int k _ := rx
      have e2 : v = .int k _ := ry
      subst e1 e2
      exact ⟨_, _, p1, p2, by rw [run_equalIn_int W D t k k _ _ hu]; simp [eqCells, eqCell]⟩
    · rename_i hu
      simp only [Option.some.injEq] at h
      obtain ⟨x, y, u, v, _, _, _, _, rx, ry, k1, k2, p1, p2, t1, t2⟩ := scalar .str (by simp [aggT, hu]) h.symm
      rw [t1, t2]
      cases x <;> simp [ckOk] at k1
      cases y <;> simp [ckOk] at k2
      obtain rfl : u = .string _ := rx
      obtain rfl : v = .string _ := ry
      refine ⟨_, _, p1, p2, ?_⟩
      rw [run_equalIn_string W D t _ _ hu, ByteArray.toList_eq, ByteArray.toList_eq]
      simp [eqCells, eqCell]
    · rename_i hu
      simp only [Option.some.injEq] at h
      obtain ⟨x, y, u, v, _, _, _, _, rx, ry, k1, k2, p1, p2, t1, t2⟩ := scalar .bool (by simp [aggT, hu]) h.symm
      rw [t1, t2]
      cases x <;> simp [ckOk] at k1
      cases y <;> simp [ckOk] at k2
      have e1 : u = .bool _ := rx
      have e2 : v = .bool _ := ry
      subst e1 e2
      exact ⟨_, _, p1, p2, by rw [run_equalIn_bool W D t _ _ hu]; simp [eqCells, eqCell]⟩
    · rename_i fs hu
      split at h
      · cases h
      · rename_i hst
        obtain ⟨p1, p2, v1, v2⟩ := agg (by simp [aggT, hu])
        refine ⟨_, _, p1, p2, ?_⟩
        have hfo : P.fieldsOf t = fs := by simp [Program.fieldsOf, hu]
        rw [run_equalIn_struct W D t _ _ (by rw [hfo]; exact hu) (by simpa using hst), hfo]
        have := fields_eq ihd v1 v2 fs.toList [] ks h c1 c2
        simpa using this
    · rename_i n e hu
      cases hk : flatT P d e with
      | none => rw [hk] at h; cases h
      | some kf =>
        rw [hk] at h
        simp only [Option.bind_some] at h
        split at h
        · rename_i hse
          simp only [Option.some.injEq] at h
          subst h
          obtain ⟨p1, p2, v1, v2⟩ := agg (by simp [aggT, hu])
          refine ⟨_, _, p1, p2, ?_⟩
          have := elems_eq (ihd _ _ hk) hse v1 v2 n 0 (by rw [← ckOks_length c1, repeatK_length]; simp) (by rw [← ckOks_length c2, repeatK_length]; simp) (by simpa using c1) (by simpa using c2)
          simp only [Nat.zero_mul, List.drop_zero] at this
          simp only [Op.equalIn, Sem.run_bind, run_underlying hu, Result.andThen_ok, run_szOf hse, Std.Legacy.Range.forIn_eq_forIn_range', Std.Legacy.Range.size, Nat.sub_zero, Nat.add_sub_cancel, Nat.div_one]
          rw [this]
          generalize eqCells _ _ = q
          cases q <;> rfl
        · cases h
    · cases h

theorem guard_flatFields {flat : TypeId → Option (List CK)} {D : Nat} (hflat : ∀ t ks, flat t = some ks → P.eqGuardType D t = false) :
    ∀ (fs : List Field) (acc ks : List CK), flatFields P flat fs acc = some ks → (fs.any fun f => f.name != "_" && P.eqGuardType D f.type) = false
  | [], _, _, _ => rfl
  | f :: fs, acc, ks, h => by
    simp only [flatFields] at h
    cases hk : flat f.type with
    | none => rw [hk] at h; cases h
    | some kf =>
      rw [hk] at h
      simp only [Option.bind_some] at h
      split at h
      · simp only [List.any_cons, hflat _ _ hk, Bool.and_false, Bool.false_or]
        exact guard_flatFields hflat fs _ _ h
      · cases h
theorem guard_flat : ∀ (d : Nat) (t : TypeId) (ks : List CK), flatT P d t = some ks → ∀ D, d ≤ D → P.eqGuardType D t = false
  | 0, t, ks, h => by simp [flatT] at h
  | d + 1, t, ks, h => by
    intro D hD
    obtain ⟨D, rfl⟩ : ∃ D', D = D' + 1 := ⟨D - 1, by omega⟩
    simp only [flatT] at h
    simp only [Program.eqGuardType]
    split at h
    · rename_i hu; rw [hu]
    · rename_i hu; rw [hu]
    · rename_i hu; rw [hu]
    · rename_i fs hu
      rw [hu]
      split at h
      · cases h
      · have := guard_flatFields (D := D) (fun t' ks' h' => guard_flat d t' ks' h' D (by omega)) fs.toList [] ks h
        simpa using this
    · rename_i n e hu
      rw [hu]
      cases hk : flatT P d e with
      | none => rw [hk] at h; cases h
      | some kf => exact guard_flat d e kf hk D (by omega)
    · cases h
theorem depth_ge : 8 ≤ P.depth := by unfold Program.depth Made.depth; omega

theorem eqn_ptr0 (W : World) (d : Nat) {t e : TypeId} (hu : P.underlying t = some (.pointer e)) (b : Option Addr) : (Op.equalIn (d + 1) t (.pointer none) (.pointer b)).run P W = .ok b.isNone W := by
  simp [Op.equalIn, run_underlying hu]
theorem eqn_ptr1 (W : World) (d : Nat) {t e : TypeId} (hu : P.underlying t = some (.pointer e)) (a : Addr) : (Op.equalIn (d + 1) t (.pointer (some a)) (.pointer none)).run P W = .ok false W := by
  simp [Op.equalIn, run_underlying hu]
theorem eqn_sl0 (W : World) (d : Nat) {t e : TypeId} (hu : P.underlying t = some (.slice e)) (b : Option Addr) (n c : Nat) : (Op.equalIn (d + 1) t (.slice none 0 0) (.slice b n c)).run P W = .ok b.isNone W := by
  simp [Op.equalIn, run_underlying hu]
theorem eqn_sl1 (W : World) (d : Nat) {t e : TypeId} (hu : P.underlying t = some (.slice e)) (a : Addr) (n c : Nat) : (Op.equalIn (d + 1) t (.slice (some a) n c) (.slice none 0 0)).run P W = .ok false W := by
  simp [Op.equalIn, run_underlying hu]
theorem eqn_map0 (W : World) (d : Nat) {t k e : TypeId} (hu : P.underlying t = some (.map k e)) (b : Option Nat) : (Op.equalIn (d + 1) t (.map none) (.map b)).run P W = .ok b.isNone W := by
  simp [Op.equalIn, run_underlying hu]
theorem eqn_map1 (W : World) (d : Nat) {t k e : TypeId} (hu : P.underlying t = some (.map k e)) (a : Nat) : (Op.equalIn (d + 1) t (.map (some a)) (.map none)).run P W = .ok false W := by
  simp [Op.equalIn, run_underlying hu]
theorem eqn_fn0 (W : World) (d : Nat) {t : TypeId} {a b : Array TypeId} {c : Bool} (hu : P.underlying t = some (.func a b c)) : (Op.equalIn (d + 1) t .nilFunc .nilFunc).run P W = .ok true W := by
  simp [Op.equalIn, run_underlying hu]
theorem eqn_fn1 (W : World) (d : Nat) {t : TypeId} {a b : Array TypeId} {c : Bool} (hu : P.underlying t = some (.func a b c)) (f : Fn) (x y : Array Value) : (Op.equalIn (d + 1) t (.func f x y) .nilFunc).run P W = .ok false W := by
  simp [Op.equalIn, run_underlying hu]

/-- '==' and '!=' on what 'eqV' takes. -/
theorem eq_sim {t : TypeId} {x y : V} {u v : Value} {b : Bool} (hx : VR ρ x u) (hy : VR ρ y v) (h : eqV P t x y = some b) :
    (Op.equal t u v).run P W = .ok b W ∧ ∀ op X Y, (eqGuard op t X Y u v).run P W = .ok () W := by
  have hg : ∀ op X Y, (∀ a b, ¬ (u = .agg a ∧ v = .agg b)) → ¬ (u = .nilIface ∧ v = .nilIface) → (eqGuard op t X Y u v).run P W = .ok () W := by
    intro op X Y h1 h2
    unfold eqGuard
    cases op <;> simp
    all_goals
      cases u <;> cases v <;> first | rfl | exact absurd ⟨rfl, rfl⟩ h2 | exact absurd ⟨rfl, rfl⟩ (h1 _ _)
  cases x <;> cases y <;> simp only [eqV] at h <;> try cases h
  case int.int k a k' a' =>
    obtain rfl : u = .int k a := hx
    obtain rfl : v = .int k' a' := hy
    split at h
    · rename_i hu
      split at h
      · rename_i hk
        subst hk
        injection h with h
        subst h
        exact ⟨run_equalIn_int W 9999 t k _ a a' hu, fun op X Y => hg op X Y (by simp) (by simp)⟩
      · cases h
    · cases h
  case bool.bool a a' =>
    obtain rfl : u = .bool a := hx
    obtain rfl : v = .bool a' := hy
    split at h
    · rename_i hu
      injection h with h
      subst h
      exact ⟨run_equalIn_bool W 9999 t a a' hu, fun op X Y => hg op X Y (by simp) (by simp)⟩
    · cases h
  case str.str a a' =>
    obtain rfl : u = .string ⟨a.toArray⟩ := hx
    obtain rfl : v = .string ⟨a'.toArray⟩ := hy
    split at h
    · rename_i hu
      injection h with h
      subst h
      refine ⟨?_, fun op X Y => hg op X Y (by simp) (by simp)⟩
      have := run_equalIn_string W 9999 t ⟨a.toArray⟩ ⟨a'.toArray⟩ hu
      rw [ByteArray.toList_eq, ByteArray.toList_eq] at this
      simpa [Op.equal, Op.maxDepth] using this
    · cases h
  case agg.agg xs ys =>
    obtain ⟨X, rfl, hX⟩ := hx
    obtain ⟨Y, rfl, hY⟩ := hy
    cases hk : flatT P 8 t with
    | none => rw [hk] at h; cases h
    | some ks =>
      rw [hk] at h
      simp only [Option.bind_some] at h
      split at h
      · rename_i hc
        obtain ⟨c1, c2, ha, hs⟩ := hc
        injection h with h
        subst h
        have l1 := ckOks_length c1
        have l2 := ckOks_length c2
        refine ⟨?_, fun op _ _ => run_eqGuard_agg W op t _ _ _ _ (guard_flat 8 t ks hk _ depth_ge)⟩
        have f1 : (xs.drop 0).take ks.length = xs := by rw [l1]; simp
        have f2 : (ys.drop 0).take ks.length = ys := by rw [l2]; simp
        obtain ⟨a, b, e1, e2, e3⟩ := flat_eq (P := P) (ρ := ρ) (W := W) 8 t ks hk 10000 (by omega) X Y xs ys 0 hX hY (by omega) (by omega) hs (by rw [f1]; exact c1) (by rw [f2]; exact c2)
        have sX : X.size = ks.length := by rw [l1]; simpa using hX.length.symm
        have sY : Y.size = ks.length := by rw [l2]; simpa using hY.length.symm
        have g1 : (part t X 0).run P W = .ok (.agg X) W := by
          have : X.extract 0 ks.length = X := by rw [← sX]; simp
          simp [part, run_aggT ha, run_szOf hs, this]
        have g2 : (part t Y 0).run P W = .ok (.agg Y) W := by
          have : Y.extract 0 ks.length = Y := by rw [← sY]; simp
          simp [part, run_aggT ha, run_szOf hs, this]
        rw [g1] at e1
        rw [g2] at e2
        injection e1 with e1 _
        injection e2 with e2 _
        subst e1 e2
        rw [f1, f2] at e3
        exact e3
      · cases h
  case nilptr.nilptr =>
    obtain rfl : u = _ := hx
    obtain rfl : v = _ := hy
    split at h
    · rename_i hu; injection h with h; subst h
      exact ⟨eqn_ptr0 W 9999 hu _, fun op X Y => hg op X Y (by simp) (by simp)⟩
    · cases h
  case nilptr.ptr =>
    obtain rfl : u = _ := hx
    obtain ⟨_, _, rfl⟩ := hy
    split at h
    · rename_i hu; injection h with h; subst h
      exact ⟨eqn_ptr0 W 9999 hu _, fun op X Y => hg op X Y (by simp) (by simp)⟩
    · cases h
  case ptr.nilptr =>
    obtain ⟨_, _, rfl⟩ := hx
    obtain rfl : v = _ := hy
    split at h
    · rename_i hu; injection h with h; subst h
      exact ⟨eqn_ptr1 W 9999 hu _, fun op X Y => hg op X Y (by simp) (by simp)⟩
    · cases h
  case nilslice.nilslice =>
    obtain rfl : u = _ := hx
    obtain rfl : v = _ := hy
    split at h
    · rename_i hu; injection h with h; subst h
      exact ⟨eqn_sl0 W 9999 hu _ _ _, fun op X Y => hg op X Y (by simp) (by simp)⟩
    · cases h
  case nilslice.slice =>
    obtain rfl : u = _ := hx
    obtain ⟨_, _, _, _, rfl, _⟩ := hy
    split at h
    · rename_i hu; injection h with h; subst h
      exact ⟨eqn_sl0 W 9999 hu _ _ _, fun op X Y => hg op X Y (by simp) (by simp)⟩
    · cases h
  case slice.nilslice =>
    obtain ⟨_, _, _, _, rfl, _⟩ := hx
    obtain rfl : v = _ := hy
    split at h
    · rename_i hu; injection h with h; subst h
      exact ⟨eqn_sl1 W 9999 hu _ _ _, fun op X Y => hg op X Y (by simp) (by simp)⟩
    · cases h
  case nilmap.nilmap =>
    obtain rfl : u = _ := hx
    obtain rfl : v = _ := hy
    split at h
    · rename_i hu; injection h with h; subst h
      exact ⟨eqn_map0 W 9999 hu _, fun op X Y => hg op X Y (by simp) (by simp)⟩
    · cases h
  case map.nilmap =>
    obtain ⟨_, _, rfl⟩ := hx
    obtain rfl : v = _ := hy
    split at h
    · rename_i hu; injection h with h; subst h
      exact ⟨eqn_map1 W 9999 hu _, fun op X Y => hg op X Y (by simp) (by simp)⟩
    · cases h
  case nilfn.nilfn =>
    obtain rfl : u = _ := hx
    obtain rfl : v = _ := hy
    split at h
    · rename_i hu; injection h with h; subst h
      exact ⟨eqn_fn0 W 9999 hu, fun op X Y => hg op X Y (by simp) (by simp)⟩
    · cases h
  case fn.nilfn =>
    obtain ⟨_, _, rfl, _⟩ := hx
    obtain rfl : v = _ := hy
    split at h
    · rename_i hu; injection h with h; subst h
      exact ⟨eqn_fn1 W 9999 hu _ _ _, fun op X Y => hg op X Y (by simp) (by simp)⟩
    · cases h
end
end Go.Am
