/-
  Two lists of conversations put together, by the document's function: walked. No statement of the seat stands here.
-/
import Derived.Test.YtdpdlobaabcjjaaSumJ
namespace Go.Proofs.Ytdpdlobaabcjjaa
open Go Go.Am
set_option maxRecDepth 4000
set_option linter.unusedSimpArgs false
set_option linter.unusedVariables false

def addStep (a out : List Sm) (y : Sm) : List Sm := if findS a (keyOf y) < 0 then out ++ [y] else match out[(findS a (keyOf y)).toNat]? with
  | some x => out.set (findS a (keyOf y)).toNat (addS x y)
  | none => out
def addR (a b out : List Sm) : List Sm := b.foldl (addStep a) out
def good4 (s : Sm) : Bool := inB s.go 4503599627370496 && (inB s.gb 4503599627370496 && (inB s.back 4503599627370496 && inB s.bb 4503599627370496))
def resR (a b : List Sm) : List Sm × Int := if 200 < a.length ∨ 200 < b.length then ([], 3) else if askS a = 0 ∧ askS b = 0 then (if (addR a b a).all good4 = true then (addR a b a, 0) else ([], 10)) else ([], 1)
theorem addR_snoc {a b out : List Sm} {i : Nat} {y : Sm} (h : b[i]? = some y) : addR a (b.take (i + 1)) out = addStep a (addR a (b.take i) out) y := by
  unfold addR
  rw [take_snoc h, List.foldl_append]
  rfl
theorem app_own {H : Hp} {s : V} {l : List Sm} (hs : Sl H s 11 (l.map smC)) (hl : l.length ≤ 1000) : ∃ o H1, appOf 11 88 H .nilslice s = some (o, H1) ∧ Own H1 o 11 (l.map smC).flatten ∧ (∀ id, id < H.length → H1[id]? = H[id]?) ∧ H.length ≤ H1.length ∧ ∀ id, At o id → H.length ≤ id := by
  by_cases hn : l = []
  · subst hn
    refine ⟨.nilslice, H, ?_, own_nil _ _, fun _ _ => rfl, Nat.le_refl _, by simp [At]⟩
    unfold appOf
    rw [hs.src]
    simp
  · have hn' : l.map smC ≠ [] := by simpa using hn
    have hlm : (l.map smC).length = l.length := List.length_map _
    have hn0 : l.length ≠ 0 := fun e => hn (List.length_eq_zero_iff.1 e)
    have e1 := app_nil' (by_ := 88) hs (sm_cell l) hn' (by omega) (by omega)
    refine ⟨_, _, e1, own_new ?_ (by omega), fun id h => List.getElem?_append_left h, by simp, ?_⟩
    · rw [sm_flat, hlm]
    · rintro id ⟨_, _, _, _, _, e⟩
      injection e with e1
      omega
def tail18 : Cc := .seq (.reg r18_12) (.seq (.reg r18_13) (.seq (.reg r18_14) (.seq (.reg r18_15) (.reg r18_16))))
theorem l18_eq : l18_18 = .seq (.seq (.reg r18_7) (.cond (.tmp 34) .skip (.exit 0))) (.seq (.block 1 (.seq (.reg r18_8) (.seq (.seq (.reg r18_9) (.cond (.tmp 45) (.seq (.reg r18_10) (.exit 1)) .skip)) (.seq (.reg r18_11) tail18)))) (.reg r18_17)) := rfl
theorem tail18_ok {T : Fr} {Hc : Hp} {R : Ex → Fr → Dfr → Hp → Prop} {out : V} {xs : List Sm} {x y : Sm} {i tb : Nat} (ho : Own Hc out 11 (xs.map smC).flatten) (hx : xs[i]? = some x) (t9 : get T 9 = .ptr (vid out) (vgen out) (voff out + i * 11)) (t10 : get T 10 = .ptr tb 0 0) (hne : ¬ At out tb)
    (hrow : Hc[tb]? = some (.row 0 (smC y) true))
    (hR : ∀ T' H', get T' 0 = get T 0 → get T' 1 = get T 1 → get T' 6 = get T 6 → get T' 7 = get T 7 → Own H' out 11 ((xs.set i (addS x y)).map smC).flatten → (∀ j, ¬ At out j → H'[j]? = Hc[j]?) → H'.length = Hc.length → R .nor T' [] H') :
    Wp Try.prog (callL Try.prog pr) 149 tail18 T [] Hc R := by
  have hi : i < xs.length := (List.getElem?_eq_some_iff.1 hx).1
  obtain ⟨id, g, pre, post, rfl, hid, hpre, hH, hset⟩ := ho.focus smC_len (by omega) hx
  have hne' : id ≠ tb := fun e => hne ⟨g, 0, xs.length, 11, .full, by rw [e]⟩
  have t9' : get T 9 = .ptr id g pre.length := t9.trans (by show V.ptr id g (0 + i * 11) = _; rw [hpre])
  have ld : ∀ k, loadV Try.prog 3 Hc (.ptr tb 0 k) = (smC y)[k]? := fun k => by
    rw [loadV_ptr]
    unfold getRow
    rw [hrow]
    simp [partV, g3]
  rw [hH]
  simp (config := { maxSteps := 1000000 }) (disch := first | exact hid | exact hne' | exact Nat.le_of_ble_eq_true rfl | exact rfl | omega) only [tail18, r18_12, r18_13, r18_14, r18_15, r18_16, ↓reduceIte, go_sem, Nat.reduceLT, Nat.reduceEqDiff, Nat.reduceAdd, Nat.reduceMul, Nat.reduceLeDiff, Int.reduceLT, Int.reduceLE, Int.reduceEq, Int.reduceNeg, Int.reduceToNat, t9', t10, foc_load g3, foc_stI z3, foc_other, ld]
  refine hR _ _ ?_ ?_ ?_ ?_ (hset (addS x y)) (fun j hj => ?_) (by simp)
  · simp only [↓reduceIte, go_sem, Nat.reduceLT, Nat.reduceEqDiff, Nat.reduceAdd, Nat.reduceMul, Nat.reduceLeDiff, Int.reduceLT, Int.reduceLE, Int.reduceEq, Int.reduceNeg, Int.reduceToNat]
  · simp only [↓reduceIte, go_sem, Nat.reduceLT, Nat.reduceEqDiff, Nat.reduceAdd, Nat.reduceMul, Nat.reduceLeDiff, Int.reduceLT, Int.reduceLE, Int.reduceEq, Int.reduceNeg, Int.reduceToNat]
  · simp only [↓reduceIte, go_sem, Nat.reduceLT, Nat.reduceEqDiff, Nat.reduceAdd, Nat.reduceMul, Nat.reduceLeDiff, Int.reduceLT, Int.reduceLE, Int.reduceEq, Int.reduceNeg, Int.reduceToNat]
  · simp only [↓reduceIte, go_sem, Nat.reduceLT, Nat.reduceEqDiff, Nat.reduceAdd, Nat.reduceMul, Nat.reduceLeDiff, Int.reduceLT, Int.reduceLE, Int.reduceEq, Int.reduceNeg, Int.reduceToNat]
  · rw [List.getElem?_set_ne fun e => hj ⟨g, 0, xs.length, 11, .full, by rw [e]⟩]
end Go.Proofs.Ytdpdlobaabcjjaa
