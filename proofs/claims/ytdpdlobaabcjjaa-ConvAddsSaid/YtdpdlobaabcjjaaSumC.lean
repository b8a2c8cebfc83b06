/-
  Conversations made of messages, by the document's function: walked. No statement of the seat stands here.
-/
import Derived.Test.YtdpdlobaabcjjaaSumB
namespace Go.Proofs.Ytdpdlobaabcjjaa
open Go Go.Am
set_option maxRecDepth 4000
set_option linter.unusedSimpArgs false
set_option linter.unusedVariables false

def w64 (n : Int) : Int := IntKind.i64.wrap n
def bump (t : Tk) (s : Sm) : Sm :=
  let f := if t.time < s.first then t.time else s.first
  let l := if t.time > s.last then t.time else s.last
  if goes t = true then { s with go := w64 (s.go + 1), gb := w64 (s.gb + t.size), first := f, last := l }
  else { s with back := w64 (s.back + 1), bb := w64 (s.bb + t.size), first := f, last := l }

def tail15 : Cc := .seq (.reg r15_10) (.seq (.seq (.reg r15_11) (.cond (.tmp 53) (.seq (.reg r15_12) (.reg r15_13)) (.seq (.reg r15_14) (.reg r15_15)))) (.reg r15_16))
theorem tail15_ok {T : Fr} {Hc : Hp} {R : Ex → Fr → Dfr → Hp → Prop} {out : V} {xs : List Sm} {x : Sm} {i tb : Nat} {t : Tk} (ho : Own Hc out 11 (xs.map smC).flatten) (hx : xs[i]? = some x) (t3 : get T 3 = out) (t8 : get T 8 = .int .i64 i) (t7 : get T 7 = .bool (goes t)) (t5 : get T 5 = .ptr tb 0 0) (hne : ¬ At out tb)
    (h0 : loadV Try.prog 3 Hc (.ptr tb 0 0) = some (.int .i64 t.time)) (h6 : loadV Try.prog 3 Hc (.ptr tb 0 6) = some (.int .i64 t.size))
    (hR : ∀ T' H', get T' 0 = get T 0 → get T' 3 = out → get T' 4 = get T 4 → Own H' out 11 ((xs.set i (bump t x)).map smC).flatten → (∀ j, ¬ At out j → H'[j]? = Hc[j]?) → H'.length = Hc.length → R .nor T' [] H') :
    Wp Try.prog (callL Try.prog pr) 107 tail15 T [] Hc R := by
  have hi : i < xs.length := (List.getElem?_eq_some_iff.1 hx).1
  obtain ⟨id, g, pre, post, rfl, hid, hpre, hH, hset⟩ := ho.focus smC_len (by omega) hx
  have hne' : id ≠ tb := fun e => hne ⟨g, 0, xs.length, 11, .full, by rw [e]⟩
  have ha := i37 (id := id) (g := g) (off := 0) (n := xs.length) (cp := .full) (k := .i64) (j := (i : Int)) ⟨by omega, by omega⟩
  rw [Int.toNat_natCast, hpre] at ha
  have fin : ∀ T' x', x' = bump t x → get T' 0 = get T 0 → get T' 3 = .slice id g 0 xs.length 11 .full → get T' 4 = get T 4 → R .nor T' [] (Hc.set id (.row g (pre ++ smC x' ++ post) true)) := by
    intro T' x' e k0 k3 k4
    subst e
    refine hR T' _ k0 k3 k4 (hset _) (fun j hj => ?_) (by simp)
    rw [List.getElem?_set_ne fun e => hj ⟨g, 0, xs.length, 11, .full, by rw [e]⟩]
  rw [hH]
  cases hg : goes t with
  | true =>
    rw [hg] at t7
    simp (disch := first | exact hid | exact hne' | exact Nat.le_of_ble_eq_true rfl | exact rfl | omega) only [tail15, r15_10, r15_11, r15_12, r15_13, r15_16, ↓reduceIte, go_sem, Nat.reduceLT, Nat.reduceEqDiff, Nat.reduceAdd, Nat.reduceMul, Nat.reduceLeDiff, Int.reduceLT, Int.reduceLE, Int.reduceEq, Int.reduceNeg, Int.reduceToNat, t3, t8, t7, t5, ha, foc_load g3, foc_stI z3, foc_other, h0, h6]
    refine fin _ ⟨x.a, x.ap, x.b, x.bp, x.proto, w64 (x.go + 1), w64 (x.gb + t.size), x.back, x.bb, if t.time < x.first then t.time else x.first, if t.time > x.last then t.time else x.last⟩ (by simp [bump, hg]) ?_ ?_ ?_
    · simp only [↓reduceIte, go_sem, Nat.reduceLT, Nat.reduceEqDiff, Nat.reduceAdd, Nat.reduceMul, Nat.reduceLeDiff, Int.reduceLT, Int.reduceLE, Int.reduceEq, Int.reduceNeg, Int.reduceToNat]
    · simp only [↓reduceIte, go_sem, Nat.reduceLT, Nat.reduceEqDiff, Nat.reduceAdd, Nat.reduceMul, Nat.reduceLeDiff, Int.reduceLT, Int.reduceLE, Int.reduceEq, Int.reduceNeg, Int.reduceToNat, t3]
    · simp only [↓reduceIte, go_sem, Nat.reduceLT, Nat.reduceEqDiff, Nat.reduceAdd, Nat.reduceMul, Nat.reduceLeDiff, Int.reduceLT, Int.reduceLE, Int.reduceEq, Int.reduceNeg, Int.reduceToNat]
  | false =>
    rw [hg] at t7
    simp (disch := first | exact hid | exact hne' | exact Nat.le_of_ble_eq_true rfl | exact rfl | omega) only [tail15, r15_10, r15_11, r15_14, r15_15, r15_16, ↓reduceIte, go_sem, Nat.reduceLT, Nat.reduceEqDiff, Nat.reduceAdd, Nat.reduceMul, Nat.reduceLeDiff, Int.reduceLT, Int.reduceLE, Int.reduceEq, Int.reduceNeg, Int.reduceToNat, t3, t8, t7, t5, ha, foc_load g3, foc_stI z3, foc_other, h0, h6]
    refine fin _ ⟨x.a, x.ap, x.b, x.bp, x.proto, x.go, x.gb, w64 (x.back + 1), w64 (x.bb + t.size), if t.time < x.first then t.time else x.first, if t.time > x.last then t.time else x.last⟩ (by simp [bump, hg]) ?_ ?_ ?_
    · simp only [↓reduceIte, go_sem, Nat.reduceLT, Nat.reduceEqDiff, Nat.reduceAdd, Nat.reduceMul, Nat.reduceLeDiff, Int.reduceLT, Int.reduceLE, Int.reduceEq, Int.reduceNeg, Int.reduceToNat]
    · simp only [↓reduceIte, go_sem, Nat.reduceLT, Nat.reduceEqDiff, Nat.reduceAdd, Nat.reduceMul, Nat.reduceLeDiff, Int.reduceLT, Int.reduceLE, Int.reduceEq, Int.reduceNeg, Int.reduceToNat, t3]
    · simp only [↓reduceIte, go_sem, Nat.reduceLT, Nat.reduceEqDiff, Nat.reduceAdd, Nat.reduceMul, Nat.reduceLeDiff, Int.reduceLT, Int.reduceLE, Int.reduceEq, Int.reduceNeg, Int.reduceToNat]

/-- The conversations of messages. -/
def newSm (t : Tk) : Sm := ⟨(tkKey t).a, (tkKey t).ap, (tkKey t).b, (tkKey t).bp, (tkKey t).proto, 0, 0, 0, 0, t.time, t.time⟩
def findS (l : List Sm) (k : Key) : Int := findI (fun x => keyEq (keyOf x) k) l 0
def convStep (l : List Sm) (t : Tk) : List Sm :=
  if findS l (tkKey t) < 0 then (l ++ [newSm t]).set l.length (bump t (newSm t)) else
  match l[(findS l (tkKey t)).toNat]? with
  | some x => l.set (findS l (tkKey t)).toNat (bump t x)
  | none => l
def convsOf (l : List Tk) : List Sm := l.foldl convStep []
theorem convStep_len (l : List Sm) (t : Tk) : (convStep l t).length ≤ l.length + 1 := by
  unfold convStep
  split
  · simp
  · split <;> simp
theorem convsOf_snoc {l : List Tk} {i : Nat} {t : Tk} (h : l[i]? = some t) : convsOf (l.take (i + 1)) = convStep (convsOf (l.take i)) t := by
  unfold convsOf
  rw [take_snoc h, List.foldl_append]
  rfl
theorem convsOf_len (l : List Tk) : ∀ i, (convsOf (l.take i)).length ≤ i
  | 0 => by simp [convsOf]
  | i + 1 => by
    cases h : l[i]? with
    | none =>
      have hl : l.length ≤ i := by simpa using h
      have := convsOf_len l i
      rw [List.take_of_length_le (by omega)] at this ⊢
      omega
    | some t =>
      rw [convsOf_snoc h]
      have := convStep_len (convsOf (l.take i)) t
      have := convsOf_len l i
      omega
theorem findI_lt {α : Type} (p : α → Bool) : ∀ (xs : List α) (n : Nat), findI p xs n = -1 ∨ ∃ j : Nat, j < xs.length ∧ findI p xs n = ((n + j : Nat) : Int)
  | [], _ => .inl rfl
  | x :: xs, n => by
    unfold findI
    split
    · exact .inr ⟨0, by simp, by simp⟩
    · rcases findI_lt p xs (n + 1) with h | ⟨j, h1, h2⟩
      · exact .inl (by rw [← h]; norm_cast)
      · refine .inr ⟨j + 1, by simp only [List.length_cons]; omega, ?_⟩
        have e : ((n : Int) + 1) = ((n + 1 : Nat) : Int) := by omega
        rw [e, h2]; omega
theorem findS_cases (l : List Sm) (k : Key) : findS l k = -1 ∨ ∃ j : Nat, j < l.length ∧ findS l k = (j : Int) := by
  rcases findI_lt (fun x => keyEq (keyOf x) k) l 0 with h | ⟨j, h1, h2⟩
  · exact .inl h
  · exact .inr ⟨j, h1, by unfold findS; rw [show (0 : Int) = ((0 : Nat) : Int) from rfl, h2]; simp⟩
end Go.Proofs.Ytdpdlobaabcjjaa
