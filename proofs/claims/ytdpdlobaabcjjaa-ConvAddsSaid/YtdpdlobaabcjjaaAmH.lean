/-
  The abstract machine, part H: arithmetic, conversions, new blocks, copy, make, len, held against the model. No statement of the seat stands here.
-/
import Derived.Test.YtdpdlobaabcjjaaAmG
import Derived.Laws.BytesString
import Derived.Laws.BytesArg
namespace Go.Am
open Go

section
variable {P : Program} {b0 : Nat} {ρ : Ren} {H : Hp} {W : World}

theorem guard_ok {t : TypeId} {u v : Value} (op : BinOp) (X Y : Operand) (h1 : ∀ a b, ¬ (u = .agg a ∧ v = .agg b)) (h2 : ¬ (u = .nilIface ∧ v = .nilIface)) : (eqGuard op t X Y u v).run P W = .ok () W := by
  unfold eqGuard
  cases op <;> simp
  all_goals
    cases u <;> cases v <;> first | rfl | exact absurd ⟨rfl, rfl⟩ h2 | exact absurd ⟨rfl, rfl⟩ (h1 _ _)

theorem bits_sim {op : BinOp} {k : IntKind} {x y r : Int} (h : bitsV op k x y = some r) : (Op.intBits op k x y).run P W = .ok (.int k r) W := by
  cases op <;> simp only [bitsV] at h <;> first | (injection h with h; subst h; simp [Op.intBits]; done) | cases h

theorem int_sim {op : BinOp} {t : TypeId} {k : IntKind} {x y : Int} {v : V} (hs : op ≠ .shl) (hs2 : op ≠ .shr) (h : intV op k x y = some v) : ∃ u, (binOp op t (.int k x) (.int k y)).run P W = .ok u W ∧ VR ρ v u := by
  cases op <;> simp only [intV] at h <;> try (first | exact absurd rfl hs | exact absurd rfl hs2)
  case add => injection h with h; subst h; exact ⟨_, by simp [binOp, Op.intArith], rfl⟩
  case sub => injection h with h; subst h; exact ⟨_, by simp [binOp, Op.intArith], rfl⟩
  case mul => injection h with h; subst h; exact ⟨_, by simp [binOp, Op.intArith], rfl⟩
  case quo =>
    split at h
    · cases h
    · rename_i h0; injection h with h; subst h; exact ⟨_, by simp [binOp, Op.intDiv, h0], rfl⟩
  case rem =>
    split at h
    · cases h
    · rename_i h0; injection h with h; subst h; exact ⟨_, by simp [binOp, Op.intDiv, h0], rfl⟩
  case and => obtain ⟨r, hr, rfl⟩ := Option.map_eq_some_iff.1 h; exact ⟨_, by simp [binOp, bits_sim hr], rfl⟩
  case or => obtain ⟨r, hr, rfl⟩ := Option.map_eq_some_iff.1 h; exact ⟨_, by simp [binOp, bits_sim hr], rfl⟩
  case xor => obtain ⟨r, hr, rfl⟩ := Option.map_eq_some_iff.1 h; exact ⟨_, by simp [binOp, bits_sim hr], rfl⟩
  case andNot => obtain ⟨r, hr, rfl⟩ := Option.map_eq_some_iff.1 h; exact ⟨_, by simp [binOp, bits_sim hr], rfl⟩
  all_goals
    injection h with h
    subst h
    exact ⟨_, by simp [binOp, Op.intCmp], rfl⟩

theorem bytes_append (x y : List UInt8) : (⟨x.toArray⟩ ++ ⟨y.toArray⟩ : ByteArray) = ⟨(x ++ y).toArray⟩ := by
  apply ByteArray.ext
  rw [ByteArray.data_append]
  simp
theorem bytes_toList (x : List UInt8) : (⟨x.toArray⟩ : ByteArray).toList = x := by rw [ByteArray.toList_eq]
theorem bytes_size (x : List UInt8) : (⟨x.toArray⟩ : ByteArray).size = x.length := by show x.toArray.size = _; simp

theorem str_sim {op : BinOp} {t : TypeId} {x y : List UInt8} {v : V} (h : strV op x y = some v) : ∃ u, (binOp op t (.string ⟨x.toArray⟩) (.string ⟨y.toArray⟩)).run P W = .ok u W ∧ VR ρ v u := by
  cases op <;> simp only [strV] at h
  case add =>
    split at h
    · rename_i hl
      injection h with h
      subst h
      have : ¬ ((9223372036854775807 : Int) < (x.length : Int) + (y.length : Int)) := by omega
      exact ⟨.string ⟨(x ++ y).toArray⟩, by simp [binOp, Op.stringOp, bytes_size, this, bytes_append], rfl⟩
    · cases h
  all_goals first
    | (injection h with h; subst h; exact ⟨_, by simp [binOp, Op.stringOp], rfl⟩)
    | cases h

theorem shift_sim {op : BinOp} {t : TypeId} {k k' : IntKind} {x y : Int} {v : V} (hs : op = .shl ∨ op = .shr) (h : shiftV op k x y = some v) : ∃ u, (binOp op t (.int k x) (.int k' y)).run P W = .ok u W ∧ VR ρ v u := by
  unfold shiftV at h
  split at h
  · cases h
  · rename_i h0
    rcases hs with rfl | rfl
    · injection h with h; subst h; exact ⟨_, by simp [binOp, Op.shift, h0], rfl⟩
    · injection h with h; subst h; exact ⟨_, by simp [binOp, Op.shift, h0], rfl⟩

theorem bin_eq {op : BinOp} {t : TypeId} {u v : Value} (h : op = .eql ∨ op = .neq) (hn : ∀ k a k' b, ¬ (u = .int k a ∧ v = .int k' b)) (hs : ∀ a b, ¬ (u = .string a ∧ v = .string b)) (hf : ∀ k a k' b, ¬ (u = .float k a ∧ v = .float k' b)) (hc : ∀ k a b k' a' b', ¬ (u = .complex k a b ∧ v = .complex k' a' b')) :
    binOp op t u v = if op = .eql then (do pure (.bool (← Op.equal t u v))) else (do pure (.bool (!(← Op.equal t u v)))) := by
  rcases h with rfl | rfl
  · cases u <;> cases v <;> first | rfl | exact absurd ⟨rfl, rfl⟩ (hn _ _ _ _) | exact absurd ⟨rfl, rfl⟩ (hs _ _) | exact absurd ⟨rfl, rfl⟩ (hf _ _ _ _) | exact absurd ⟨rfl, rfl⟩ (hc _ _ _ _ _ _)
  · cases u <;> cases v <;> first | rfl | exact absurd ⟨rfl, rfl⟩ (hn _ _ _ _) | exact absurd ⟨rfl, rfl⟩ (hs _ _) | exact absurd ⟨rfl, rfl⟩ (hf _ _ _ _) | exact absurd ⟨rfl, rfl⟩ (hc _ _ _ _ _ _)

theorem bin_sim (hR : Rel P b0 ρ H W) {op : BinOp} {t : TypeId} {x y v : V} {u w : Value} (X Y : Operand) (hx : VR ρ x u) (hy : VR ρ y w) (h : binV P op t x y = some v) :
    Out P b0 ρ H W ((do eqGuard op t X Y u w; binOp op t u w).run P W) v H := by
  have done : ∀ {r : Value}, (eqGuard op t X Y u w).run P W = .ok () W → (binOp op t u w).run P W = .ok r W → VR ρ v r → Out P b0 ρ H W ((do eqGuard op t X Y u w; binOp op t u w).run P W) v H := by
    intro r h1 h2 h3
    exact ⟨r, W, ρ, by simp [h1, h2], h3, Step.refl hR⟩
  have general : (h : (match op with | .eql => (eqV P t x y).map V.bool | .neq => (eqV P t x y).map fun b => V.bool !b | _ => none) = some v) → (∀ k a k' b, ¬ (u = .int k a ∧ w = .int k' b)) → (∀ a b, ¬ (u = .string a ∧ w = .string b)) → Out P b0 ρ H W ((do eqGuard op t X Y u w; binOp op t u w).run P W) v H := by
    intro h hn hs
    have ho : op = .eql ∨ op = .neq := by cases op <;> first | exact .inl rfl | exact .inr rfl | cases h
    have hb : ∃ b, eqV P t x y = some b ∧ v = .bool (if op = .eql then b else !b) := by
      rcases ho with rfl | rfl
      · obtain ⟨b, hb, rfl⟩ := Option.map_eq_some_iff.1 h; exact ⟨b, hb, by simp⟩
      · obtain ⟨b, hb, rfl⟩ := Option.map_eq_some_iff.1 h; exact ⟨b, hb, by simp⟩
    obtain ⟨b, hb, rfl⟩ := hb
    obtain ⟨e1, e2⟩ := eq_sim (P := P) (W := W) hx hy hb
    have hf : ∀ k a k' b, ¬ (u = .float k a ∧ w = .float k' b) := by
      rintro k a k' b ⟨rfl, rfl⟩
      cases x <;> cases y <;> simp only [eqV] at hb <;> try cases hb
      all_goals first | exact absurd hx (by simp [VR, VA, VC, VB]) | exact absurd hy (by simp [VR, VA, VC, VB])
    have hc : ∀ k a b k' a' b', ¬ (u = .complex k a b ∧ w = .complex k' a' b') := by
      rintro k a b k' a' b' ⟨rfl, rfl⟩
      cases x <;> cases y <;> simp only [eqV] at hb <;> try cases hb
      all_goals first | exact absurd hx (by simp [VR, VA, VC, VB]) | exact absurd hy (by simp [VR, VA, VC, VB])
    refine done (e2 op X Y) ?_ rfl
    rw [bin_eq ho hn hs hf hc]
    rcases ho with rfl | rfl <;> simp [e1]
  unfold binV at h
  split at h
  · rename_i k a k' b
    obtain rfl : u = .int k a := hx
    obtain rfl : w = .int k' b := hy
    have hg : (eqGuard op t X Y (.int k a) (.int k' b)).run P W = .ok () W := guard_ok op X Y (by simp) (by simp)
    split at h
    · obtain ⟨r, h1, h2⟩ := shift_sim (P := P) (W := W) (ρ := ρ) (t := t) (k' := k') (.inl rfl) h; exact done hg h1 h2
    · obtain ⟨r, h1, h2⟩ := shift_sim (P := P) (W := W) (ρ := ρ) (t := t) (k' := k') (.inr rfl) h; exact done hg h1 h2
    · split at h
      · rename_i h1 h2 hk
        subst hk
        obtain ⟨r, h1, h2⟩ := int_sim (P := P) (W := W) (ρ := ρ) (t := t) h1 h2 h; exact done hg h1 h2
      · cases h
  · rename_i a b
    obtain rfl : u = .string ⟨a.toArray⟩ := hx
    obtain rfl : w = .string ⟨b.toArray⟩ := hy
    have hg : (eqGuard op t X Y (.string ⟨a.toArray⟩) (.string ⟨b.toArray⟩)).run P W = .ok () W := guard_ok op X Y (by simp) (by simp)
    obtain ⟨r, h1, h2⟩ := str_sim (P := P) (W := W) (ρ := ρ) (t := t) h; exact done hg h1 h2
  · rename_i hn hs
    refine general h ?_ ?_
    · rintro k a k' b ⟨rfl, rfl⟩
      cases op <;> simp only [] at h <;> try cases h
      all_goals
        obtain ⟨b, hb, _⟩ := Option.map_eq_some_iff.1 h
        cases x <;> cases y <;> simp only [eqV] at hb <;> try cases hb
        all_goals first | exact (hn _ _ _ _ rfl rfl).elim | exact absurd hx (by simp [VR, VA, VC, VB]) | exact absurd hy (by simp [VR, VA, VC, VB])
    · rintro a b ⟨rfl, rfl⟩
      cases op <;> simp only [] at h <;> try cases h
      all_goals
        obtain ⟨b, hb, _⟩ := Option.map_eq_some_iff.1 h
        cases x <;> cases y <;> simp only [eqV] at hb <;> try cases hb
        all_goals first | exact (hs _ _ rfl rfl).elim | exact absurd hx (by simp [VR, VA, VC, VB]) | exact absurd hy (by simp [VR, VA, VC, VB])

theorem un_sim (hR : Rel P b0 ρ H W) {op : UnOp} {x v : V} {u : Value} (hx : VR ρ x u) (h : unV op x = some v) : Out P b0 ρ H W ((Op.unary op u).run P W) v H := by
  unfold unV at h
  split at h
  · rename_i k n
    obtain rfl : u = .int k n := hx
    injection h with h; subst h
    exact ⟨_, W, ρ, by simp [Op.unary, Op.intArith], rfl, Step.refl hR⟩
  · rename_i k n
    obtain rfl : u = .int k n := hx
    obtain ⟨r, hr, rfl⟩ := Option.map_eq_some_iff.1 h
    exact ⟨_, W, ρ, by simp [Op.unary, bits_sim hr], rfl, Step.refl hR⟩
  · rename_i b
    obtain rfl : u = .bool b := hx
    injection h with h; subst h
    exact ⟨_, W, ρ, by simp [Op.unary], rfl, Step.refl hR⟩
  · cases h
end
end Go.Am
