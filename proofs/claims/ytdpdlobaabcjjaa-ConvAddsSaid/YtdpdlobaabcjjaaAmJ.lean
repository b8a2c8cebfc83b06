/-
  The abstract machine, part J: maps, held against the model. No statement of the seat stands here.
-/
import Derived.Test.YtdpdlobaabcjjaaAmI
namespace Go.Am
open Go

section
variable {P : Program} {b0 : Nat} {ρ : Ren} {H : Hp} {W : World}

theorem keyOk_spec {kt : TypeId} {k : V} (h : keyOk P kt k = true) : ∃ ks, flatT P 8 kt = some ks ∧ ckOks ks k.cells = true ∧ szOf P kt = some ks.length ∧
    ((aggT P kt = some true ∧ ∃ cs, k = .agg cs) ∨ (aggT P kt = some false ∧ ∀ cs, k ≠ .agg cs)) := by
  unfold keyOk at h
  split at h
  · rename_i ks hk
    simp only [Bool.and_eq_true, beq_iff_eq] at h
    obtain ⟨⟨h1, h2⟩, h3⟩ := h
    refine ⟨ks, hk, h1, h2, ?_⟩
    split at h3
    · rename_i ha; exact .inl ⟨ha, _, rfl⟩
    · cases h3
    · rename_i ha hn; exact .inr ⟨ha, fun cs e => hn cs e⟩
    · cases h3
  · cases h

/-- Keys compare as 'eqCells' says. -/
theorem key_eq {kt : TypeId} {k k' : V} (h1 : keyOk P kt k = true) (h2 : keyOk P kt k' = true) : eqV P kt k k' = some (eqCells k.cells k'.cells) := by
  obtain ⟨ks, hk, c1, hs, sh1⟩ := keyOk_spec h1
  obtain ⟨ks', hk', c2, _, sh2⟩ := keyOk_spec h2
  rw [hk] at hk'
  injection hk' with hk'
  subst hk'
  rcases sh1 with ⟨ha, cs, rfl⟩ | ⟨ha, hn1⟩
  · rcases sh2 with ⟨_, cs', rfl⟩ | ⟨hb, _⟩
    · simp only [V.cells] at c1 c2 ⊢
      simp [eqV, hk, c1, c2, ha, hs]
    · rw [ha] at hb; cases hb
  · rcases sh2 with ⟨hb, _⟩ | ⟨_, hn2⟩
    · rw [ha] at hb; cases hb
    · have e1 : k.cells = [k] := by cases k <;> first | rfl | exact absurd rfl (hn1 _)
      have e2 : k'.cells = [k'] := by cases k' <;> first | rfl | exact absurd rfl (hn2 _)
      rw [e1] at c1
      rw [e2] at c2
      rw [e1, e2]
      have l1 := ckOks_length c1
      obtain ⟨q, rfl⟩ : ∃ q, ks = [q] := by
        cases ks with
        | nil => simp at l1
        | cons q r => cases r with
          | nil => exact ⟨q, rfl⟩
          | cons => simp at l1
      simp only [ckOks, Bool.and_true] at c1 c2
      have hu : (∀ kk, q = .int kk → P.underlying kt = some (.int kk)) ∧ (q = .str → P.underlying kt = some .string) ∧ (q = .bool → P.underlying kt = some .bool) := by
        simp only [flatT] at hk
        split at hk
        · rename_i kk hu; simp at hk; subst hk; exact ⟨fun kk' e => (by injection e with e; rw [hu, e]), fun e => (by cases e), fun e => (by cases e)⟩
        · rename_i hu; simp at hk; subst hk; exact ⟨fun kk' e => (by cases e), fun e => hu, fun e => (by cases e)⟩
        · rename_i hu; simp at hk; subst hk; exact ⟨fun kk' e => (by cases e), fun e => (by cases e), fun e => hu⟩
        · rename_i hu; simp [aggT, hu] at ha
        · rename_i hu; simp [aggT, hu] at ha
        · cases hk
      cases q with
      | int kk =>
        cases k <;> simp [ckOk] at c1
        cases k' <;> simp [ckOk] at c2
        subst c1 c2
        simp [eqV, hu.1 _ rfl, eqCells, eqCell]
      | str =>
        cases k <;> simp [ckOk] at c1
        cases k' <;> simp [ckOk] at c2
        simp [eqV, hu.2.1 rfl, eqCells, eqCell]
      | bool =>
        cases k <;> simp [ckOk] at c1
        cases k' <;> simp [ckOk] at c2
        simp [eqV, hu.2.2 rfl, eqCells, eqCell]

theorem eqCells_eq : ∀ {ks : List CK} {x y : List V}, ckOks ks x = true → ckOks ks y = true → eqCells x y = true → x = y
  | [], [], [], _, _, _ => rfl
  | k :: ks, a :: x, b :: y, h1, h2, h => by
    simp only [ckOks, Bool.and_eq_true] at h1 h2
    simp only [eqCells, Bool.and_eq_true] at h
    rw [eqCells_eq h1.2 h2.2 h.2]
    congr 1
    cases k <;> cases a <;> simp [ckOk] at h1 <;> cases b <;> simp [ckOk] at h2 <;> simp [eqCell] at h
    · obtain ⟨rfl, _⟩ := h1; obtain ⟨rfl, _⟩ := h2; rw [h.1]
    · rw [h.1]
    · rw [h.1]
  | [], _ :: _, _, h, _, _ => by simp [ckOks] at h
  | [], [], _ :: _, _, h, _ => by simp [ckOks] at h
  | _ :: _, [], _, h, _, _ => by simp [ckOks] at h
  | _ :: _, _ :: _, [], _, h, _ => by simp [ckOks] at h

/-- Related cells of one kind are the same values. -/
theorem cells_same : ∀ {ks : List CK} {x : List V} {u u' : List Value}, ckOks ks x = true → VL (VC ρ) x u → VL (VC ρ) x u' → u = u' ∧ ∀ w ∈ u, ∀ n, Instr.sameBits n w w = true
  | [], [], [], [], _, _, _ => ⟨rfl, by simp⟩
  | k :: ks, a :: x, b :: u, b' :: u', h, h1, h2 => by
    simp only [ckOks, Bool.and_eq_true] at h
    obtain ⟨e, r⟩ := cells_same h.2 h1.2 h2.2
    have q : b = b' ∧ ∀ n, Instr.sameBits n b b = true := by
      cases k <;> cases a <;> simp [ckOk] at h
      · obtain rfl : b = _ := h1.1; obtain rfl : b' = _ := h2.1; exact ⟨rfl, fun n => (by cases n <;> simp [Instr.sameBits])⟩
      · obtain rfl : b = _ := h1.1; obtain rfl : b' = _ := h2.1; exact ⟨rfl, fun n => (by cases n <;> simp [Instr.sameBits, beq_toListBytes])⟩
      · obtain rfl : b = _ := h1.1; obtain rfl : b' = _ := h2.1; exact ⟨rfl, fun n => (by cases n <;> simp [Instr.sameBits])⟩
    obtain ⟨rfl, q⟩ := q
    exact ⟨by rw [e], by simp; exact ⟨q, r⟩⟩
  | [], [], _ :: _, _, _, h, _ => h.elim
  | [], [], [], _ :: _, _, _, h => h.elim
  | [], _ :: _, _, _, h, _, _ => by simp [ckOks] at h
  | _ :: _, [], _, _, h, _, _ => by simp [ckOks] at h
  | _ :: _, _ :: _, [], _, _, h, _ => h.elim
  | _ :: _, _ :: _, _ :: _, [], _, _, h => h.elim

theorem zip_self' : ∀ l : List Value, l.zip l = l.map fun x => (x, x)
  | [] => rfl
  | x :: l => by simp [zip_self' l]
theorem key_same {kt : TypeId} {k k' : V} {u u' : Value} (h1 : keyOk P kt k = true) (h2 : keyOk P kt k' = true) (r1 : VA ρ k u) (r2 : VA ρ k' u') (h : eqCells k.cells k'.cells = true) : k = k' ∧ u = u' ∧ Instr.sameBits 10000 u u' = true := by
  obtain ⟨ks, hk, c1, hs, sh1⟩ := keyOk_spec h1
  obtain ⟨ks', hk', c2, _, sh2⟩ := keyOk_spec h2
  rw [hk] at hk'
  injection hk' with hk'
  subst hk'
  have hcells := eqCells_eq c1 c2 h
  rcases sh1 with ⟨ha, cs, rfl⟩ | ⟨ha, hn1⟩
  · rcases sh2 with ⟨_, cs', rfl⟩ | ⟨hb, _⟩
    · simp only [V.cells] at hcells c1
      subst hcells
      obtain ⟨a, rfl, ra⟩ := r1
      obtain ⟨b, rfl, rb⟩ := r2
      obtain ⟨e, q⟩ := cells_same c1 ra rb
      have : a = b := Array.ext' e
      subst this
      refine ⟨rfl, rfl, ?_⟩
      show Instr.sameBits (9999 + 1) (.agg a) (.agg a) = true
      simp only [Instr.sameBits, beq_self_eq_true, Bool.true_and, List.all_eq_true]
      intro p hp
      rw [zip_self'] at hp
      obtain ⟨w, hw, rfl⟩ := List.mem_map.1 hp
      exact q w hw 9999
    · rw [ha] at hb; cases hb
  · rcases sh2 with ⟨hb, _⟩ | ⟨_, hn2⟩
    · rw [ha] at hb; cases hb
    · have e1 : k.cells = [k] := by cases k <;> first | rfl | exact absurd rfl (hn1 _)
      have e2 : k'.cells = [k'] := by cases k' <;> first | rfl | exact absurd rfl (hn2 _)
      rw [e1, e2] at hcells
      injection hcells with hcells _
      subst hcells
      rw [e1] at c1
      have ra : VC ρ k u := by cases k <;> first | exact r1 | exact absurd rfl (hn1 _)
      have rb : VC ρ k u' := by cases k <;> first | exact r2 | exact absurd rfl (hn1 _)
      obtain ⟨e, q⟩ := cells_same (u := [u]) (u' := [u']) c1 ⟨ra, trivial⟩ ⟨rb, trivial⟩
      injection e with e _
      subst e
      exact ⟨rfl, rfl, q u (by simp) 10000⟩

/-! A key is fit to be one. -/
def CheckSays (P : Program) (ρ : Ren) (W : World) (D : Nat) (t : TypeId) (ks : List CK) : Prop :=
  ∀ (em : Bool) (X : Array Value) (xs : List V) (off : Nat), VL (VC ρ) xs X.toList → off + ks.length ≤ xs.length → szOf P t = some ks.length → ckOks ks ((xs.drop off).take ks.length) = true →
    ∃ a, (part t X off).run P W = .ok a W ∧ (Instr.checkKey em D t a).run P W = .ok () W

theorem fields_check {flat : TypeId → Option (List CK)} {D : Nat} (em : Bool) (hflat : ∀ t ks, flat t = some ks → CheckSays P ρ W D t ks) {X : Array Value} {xs : List V} (hx : VL (VC ρ) xs X.toList) :
    ∀ (fs : List Field) (acc ks : List CK), flatFields P flat fs acc = some ks → ckOks ks xs = true →
      (forIn (m := Sem) fs PUnit.unit fun f _ => do
        if f.name ≠ "_" then do
          Instr.checkKey em D f.type (← part f.type X f.offset)
          pure (ForInStep.yield PUnit.unit)
        else pure (ForInStep.yield PUnit.unit)).run P W = .ok PUnit.unit W
  | [], _, _, _, _ => by simp
  | f :: fs, acc, ks, h, h1 => by
    simp only [flatFields] at h
    cases hk : flat f.type with
    | none => rw [hk] at h; cases h
    | some kf =>
      rw [hk] at h
      simp only [Option.bind_some] at h
      split at h
      · rename_i hc
        obtain ⟨hn, ho, hs⟩ := hc
        obtain ⟨r, hr⟩ := flatFields_append h
        have l1 := ckOks_length h1
        have lk : ks.length = acc.length + kf.length + r.length := by rw [hr]; simp; omega
        have c1 : ckOks kf ((xs.drop acc.length).take kf.length) = true := by
          rw [hr, List.append_assoc] at h1
          exact (ckOks_append (ckOks_append h1).2).1
        obtain ⟨a, e1, e2⟩ := hflat _ _ hk em X xs acc.length hx (by omega) hs c1
        have ih := fields_check em hflat hx fs (acc ++ kf) ks h h1
        simp only [List.forIn_cons, if_pos hn, Sem.run_bind, ho, e1, e2, Result.andThen_ok, Sem.run_pure]
        exact ih
      · cases h

theorem elems_check {D : Nat} {e : TypeId} {kf : List CK} (em : Bool) (hflat : CheckSays P ρ W D e kf) (hs : szOf P e = some kf.length) {X : Array Value} {xs : List V} (hx : VL (VC ρ) xs X.toList) :
    ∀ (m i : Nat), xs.length = (i + m) * kf.length → ckOks (repeatK kf m) (xs.drop (i * kf.length)) = true →
      (forIn (m := Sem) (List.range' i m 1) PUnit.unit fun i _ => do
        Instr.checkKey em D e (← part e X (i * (← sizeOf e)))
        pure (ForInStep.yield PUnit.unit)).run P W = .ok PUnit.unit W
  | 0, i, _, _ => by simp
  | m + 1, i, h1, c1 => by
    simp only [repeatK] at c1
    obtain ⟨a1, b1⟩ := ckOks_append c1
    have e0 : (i + (m + 1)) * kf.length = i * kf.length + kf.length + m * kf.length := by rw [Nat.add_mul, Nat.succ_mul]; omega
    obtain ⟨a, e1, e2⟩ := hflat em X xs (i * kf.length) hx (by omega) hs a1
    have e4 : (i + 1) * kf.length = i * kf.length + kf.length := Nat.succ_mul _ _
    have ih := elems_check em hflat hs hx m (i + 1) (by rw [h1]; congr 1; omega) (by rw [e4, ← List.drop_drop]; exact b1)
    simp only [List.range'_succ, List.forIn_cons, Sem.run_bind, run_szOf hs, e1, e2, Result.andThen_ok, Sem.run_pure]
    exact ih

theorem flat_check : ∀ (d : Nat) (t : TypeId) (ks : List CK), flatT P d t = some ks → ∀ D, d ≤ D → CheckSays P ρ W D t ks
  | 0, t, ks, h => by simp [flatT] at h
  | d + 1, t, ks, h => by
    intro D hD em X xs off hx l1 hs c1
    obtain ⟨D, rfl⟩ : ∃ D', D = D' + 1 := ⟨D - 1, by omega⟩
    have ihd : ∀ t' ks', flatT P d t' = some ks' → CheckSays P ρ W D t' ks' := fun t' ks' h' => flat_check d t' ks' h' D (by omega)
    have scalar : ∀ (k : CK), aggT P t = some false → ks = [k] → ∃ u, (part t X off).run P W = .ok u W := by
      intro k ha hk
      subst hk
      simp only [List.length_singleton] at l1
      obtain ⟨u, hu, ru⟩ := hx.get off (List.getElem?_eq_getElem (by omega))
      have hu' : X[off]? = some u := by simpa using hu
      exact ⟨u, by simp [part, run_aggT ha, hu']⟩
    have agg : aggT P t = some true → (part t X off).run P W = .ok (.agg (X.extract off (off + ks.length))) W ∧ VL (VC ρ) ((xs.drop off).take ks.length) (X.extract off (off + ks.length)).toList := by
      intro ha
      refine ⟨by simp [part, run_aggT ha, run_szOf hs], ?_⟩
      simpa [Array.toList_extract, List.extract_eq_take_drop] using (hx.drop off).take ks.length
    simp only [flatT] at h
    split at h
    · rename_i k hu
      simp only [Option.some.injEq] at h
      obtain ⟨u, hp⟩ := scalar _ (by simp [aggT, hu]) h.symm
      exact ⟨u, hp, by simp [Instr.checkKey, run_underlying hu]⟩
    · rename_i hu
      simp only [Option.some.injEq] at h
      obtain ⟨u, hp⟩ := scalar _ (by simp [aggT, hu]) h.symm
      exact ⟨u, hp, by simp [Instr.checkKey, run_underlying hu]⟩
    · rename_i hu
      simp only [Option.some.injEq] at h
      obtain ⟨u, hp⟩ := scalar _ (by simp [aggT, hu]) h.symm
      exact ⟨u, hp, by simp [Instr.checkKey, run_underlying hu]⟩
    · rename_i fs hu
      split at h
      · cases h
      · obtain ⟨p1, v1⟩ := agg (by simp [aggT, hu])
        refine ⟨_, p1, ?_⟩
        have := fields_check em ihd v1 fs.toList [] ks h c1
        simp only [Instr.checkKey, Sem.run_bind, run_underlying hu, Result.andThen_ok]
        rw [← Array.forIn_toList]
        first | exact this | (rw [this]; rfl)
    · rename_i n e hu
      cases hk : flatT P d e with
      | none => rw [hk] at h; cases h
      | some kf =>
        rw [hk] at h
        simp only [Option.bind_some] at h
        split at h
        · rename_i hse
          simp only [Option.some.injEq] at h
          subst h
          obtain ⟨p1, v1⟩ := agg (by simp [aggT, hu])
          refine ⟨_, p1, ?_⟩
          have := elems_check em (ihd _ _ hk) hse v1 n 0 (by rw [← ckOks_length c1, repeatK_length]; simp) (by simpa using c1)
          simp only [Instr.checkKey, Sem.run_bind, run_underlying hu, Result.andThen_ok, Std.Legacy.Range.forIn_eq_forIn_range', Std.Legacy.Range.size, Nat.sub_zero, Nat.add_sub_cancel, Nat.div_one]
          rw [this]
          rfl
        · cases h
    · cases h
end
end Go.Am
