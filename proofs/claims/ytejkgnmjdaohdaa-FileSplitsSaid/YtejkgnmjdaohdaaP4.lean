/-
  Texts of this seat, laid together. No statement of the seat stands here.
-/
import Derived.Test.YtejkgnmjdaohdaaP3
/-
  The abstract machine, part EB: more of plain data in cells; the call of a function as an equation. No statement of the seat stands here.
-/
namespace Go.An
open Go
set_option linter.unusedSectionVars false

section
variable [Orc]
variable {P : Program} {H : Hp} {α : Type} {E : Enc α} {l : List α} {b : Bool}
/-! Parts of what stays as it is. -/
def fieldAtI (offs : List Nat) (cs : List V) (off i : Nat) : Option V := (offs[i]?).map fun o => .ipt cs (off + o)
theorem fieldAtI_eq {s : TypeId} {offs : List Nat} (h : offsOk P s offs = true) (cs : List V) (off i : Nat) : fieldAddrV P s (.ipt cs off) i = fieldAtI offs cs off i := by
  have h1 := fieldAt_eq h 0 0 off i
  unfold fieldAddrV fieldAt at h1
  unfold fieldAddrV fieldAtI
  cases hu : P.underlying s with
  | none => rw [hu] at h1; simp only at h1 ⊢; cases ho : offs[i]? with | none => rfl | some o => rw [ho] at h1; cases h1
  | some d =>
    rw [hu] at h1
    cases d
    case struct fields =>
      simp only at h1 ⊢
      cases hf : fields[i]? with
      | none => rw [hf] at h1; cases ho : offs[i]? with | none => rfl | some o => rw [ho] at h1; cases h1
      | some f =>
        rw [hf] at h1
        simp only [Option.bind_some] at h1 ⊢
        cases hz : szOf P f.type with
        | none => rw [hz] at h1; cases ho : offs[i]? with | none => rfl | some o => rw [ho] at h1; cases h1
        | some n =>
          rw [hz] at h1
          simp only [Option.bind_some] at h1 ⊢
          split at h1
          · cases ho : offs[i]? with
            | none => rw [if_pos (by assumption)]; rfl
            | some o => rw [ho] at h1; cases h1
          · cases ho : offs[i]? with
            | none => rw [ho] at h1; cases h1
            | some o =>
              rw [ho] at h1
              simp only [Option.map_some, Option.some.injEq, V.ptr.injEq, true_and] at h1
              rw [if_neg (by assumption), h1]
              rfl
    all_goals
      simp only at h1 ⊢
      cases ho : offs[i]? with
      | none => rfl
      | some o => rw [ho] at h1; cases h1
@[go_sem] theorem fieldAtI_0 (o : Nat) (os : List Nat) (cs : List V) (off : Nat) : fieldAtI (o :: os) cs off 0 = some (.ipt cs (off + o)) := rfl
@[go_sem] theorem fieldAtI_S (o : Nat) (os : List Nat) (cs : List V) (off i : Nat) : fieldAtI (o :: os) cs off (i + 1) = fieldAtI os cs off i := by simp [fieldAtI]
theorem iai_arr {t : TypeId} {len sz : Nat} (h : arrT P t len sz = true) {cs : List V} {off : Nat} {k : IntKind} {j : Int} (hj : 0 ≤ j ∧ j < len) : indexAddrV P t (.ipt cs off) (.int k j) = some (.ipt cs (off + j.toNat * sz)) := by
  have h1 := ia_arr h (id := 0) (g := 0) (off := off) (k := k) hj
  unfold indexAddrV at h1 ⊢
  cases hu : P.underlying t with
  | none => rw [hu] at h1; cases h1
  | some d =>
    rw [hu] at h1
    cases d
    case array n e =>
      simp only at h1 ⊢
      cases hz : szOf P e with
      | none => rw [hz] at h1; cases h1
      | some m =>
        rw [hz] at h1
        simp only [Option.bind_some] at h1 ⊢
        split at h1
        · rename_i hc
          simp only [Option.some.injEq, V.ptr.injEq, true_and] at h1
          rw [if_pos hc, h1]
        · cases h1
    all_goals (simp only at h1; cases h1)
/-! Made once for all. -/
theorem is_gen {t e : TypeId} {sz len : Nat} {zv : V} (hu : P.underlying t = some (.slice e)) (hz : szOf P e = some sz) (hv : zeroV P e = some zv) (hl : zv.cells.length = sz) (hs : 0 < sz) (hs2 : len * sz ≤ 2 ^ 24) (ps : List (Nat × V)) : immSl P t len ps = (fillV (fun i => some (i * sz, sz)) (repeatV zv.cells len) ps).bind fun cs => if immL cs = true then some (.isl cs len sz) else none := by
  unfold immSl
  simp only [hu, hz, hv, Option.bind_some]
  rw [if_pos ⟨hl, hs, hs2⟩]
theorem is_one {t e : TypeId} {sz : Nat} {zv : V} (hu : P.underlying t = some (.slice e)) (hz : szOf P e = some sz) (hv : zeroV P e = some zv) (hl : zv.cells.length = sz) (hs : 0 < sz) (hs2 : sz ≤ 2 ^ 24) (v : V) : immSl P t 1 [(0, v)] = if immL v.cells = true ∧ v.cells.length = sz then some (.isl v.cells 1 sz) else none := by
  rw [is_gen hu hz hv hl hs (by omega)]
  by_cases hc : immL v.cells = true ∧ v.cells.length = sz
  · rw [if_pos hc]
    have hr : repeatV zv.cells 1 = zv.cells := by simp [repeatV]
    rw [hr]
    have : fillV (fun i => some (i * sz, sz)) zv.cells [(0, v)] = some v.cells := by
      simp only [fillV, Option.bind_some, Nat.zero_mul, Nat.zero_add]
      rw [if_pos ⟨immL_cells hc.1, hc.2, by omega⟩]
      unfold setAt
      simp
      omega
    rw [this]
    simp only [Option.bind_some]
    rw [if_pos hc.1]
  · rw [if_neg hc]
    have hr : repeatV zv.cells 1 = zv.cells := by simp [repeatV]
    rw [hr]
    simp only [fillV, Option.bind_some, Nat.zero_mul, Nat.zero_add]
    split
    · rename_i h
      have e : setAt zv.cells 0 v.cells = v.cells := by
        unfold setAt
        simp
        omega
      rw [e]
      simp only [Option.bind_some]
      rw [if_neg fun h2 => hc ⟨h2, h.2.1⟩]
    · rfl
theorem is_zero {t e : TypeId} {sz : Nat} {zv : V} (hu : P.underlying t = some (.slice e)) (hz : szOf P e = some sz) (hv : zeroV P e = some zv) (hl : zv.cells.length = sz) (hs : 0 < sz) : immSl P t 0 [] = some (.isl [] 0 sz) := by
  rw [is_gen hu hz hv hl hs (by omega)]
  rfl
def iaT (P : Program) (t t1 : TypeId) (sz by_ : Nat) : Bool := match P.underlying t, P.underlying t1 with
  | some (.slice e), some (.slice _) => szOf P e == some sz && bytesOf' P e == some by_ && (match zeroV P e with | some z => z.cells.length == sz | none => false) && decide (0 < sz)
  | _, _ => false
theorem ia_slV {t t1 : TypeId} {sz by_ : Nat} (h : iaT P t t1 sz by_ = true) (hw : E.w = sz) (h1 : l.length * by_ ≤ 2 ^ 40) (h2 : l.length ≤ 2 ^ 40) : immApp P t t1 .nilslice (slV b E l) = some (slV true E l) := by
  unfold iaT at h
  split at h
  · rename_i e e1 hu hu1
    simp only [Bool.and_eq_true, beq_iff_eq, decide_eq_true_eq] at h
    obtain ⟨⟨⟨g1, g2⟩, g3⟩, g4⟩ := h
    split at g3
    · rename_i z hz
      simp only [beq_iff_eq] at g3
      unfold immApp
      simp only [hu, hu1, g1, g2, hz, Option.bind_some]
      subst hw
      rcases slV_cases b E l with ⟨k1, k2, k3⟩ | k1 <;> rw [k1]
      · subst k2
        simp only [Option.bind_some]
        rw [if_pos ⟨g4, g3, by simp, rfl, by simp, by simp⟩]
        simp [slV]
      · have fl := flatE_len (E := E) (l := l)
        simp only [if_pos fl, Option.bind_some]
        rw [if_pos ⟨g4, g3, fl, flatE_imm, h1, h2⟩]
        unfold slV
        by_cases h0 : l = []
        · subst h0; simp
        · rw [if_neg (fun e => h0 (List.length_eq_zero_iff.1 e)), if_neg (by simp [h0])]
    · cases g3
  · cases h
def icT (P : Program) (s d : TypeId) : Bool := match P.underlying s, P.underlying d with
  | some .string, some (.slice e) => (match P.underlying e with | some (.int .u8) => szOf P e == some 1 | _ => false)
  | _, _ => false
theorem ic_slV {s d : TypeId} (h : icT P s d = true) {m : List UInt8} (hm : m.length ≤ 2 ^ 40) : immCv P s d (.str m) = some (slV false byE m) := by
  unfold icT at h
  split at h
  · rename_i e hs hd
    split at h
    · rename_i he
      simp only [beq_iff_eq] at h
      unfold immCv
      simp only [hs, hd, he]
      rw [if_pos ⟨h, hm⟩]
      unfold slV
      rw [if_neg (by simp)]
      congr 2
      unfold flatE
      induction m with
      | nil => rfl
      | cons x m ih =>
        simp only [List.map_cons, List.flatten_cons]
        rw [ih (by simp only [List.length_cons] at hm; omega)]
        rfl
    · cases h
  · cases h
/-! Nothing, or not. -/
def isSlT (P : Program) (t : TypeId) : Bool := match P.underlying t with
  | some (.slice _) => true
  | _ => false
def isPtT (P : Program) (t : TypeId) : Bool := match P.underlying t with
  | some (.pointer _) => true
  | _ => false
def isMpT (P : Program) (t : TypeId) : Bool := match P.underlying t with
  | some (.map _ _) => true
  | _ => false
theorem nil_slV {t : TypeId} (h : isSlT P t = true) (b : Bool) (E : Enc α) (l : List α) : binV P .eql t (slV b E l) .nilslice = some (.bool (b && decide (l.length = 0))) ∧ binV P .neq t (slV b E l) .nilslice = some (.bool (!(b && decide (l.length = 0)))) := by
  unfold isSlT at h
  split at h
  · rename_i e hu
    rcases slV_cases b E l with ⟨k1, k2, k3⟩ | k1
    · rw [k1]; subst k2 k3; simp [binV, eqV, hu]
    · have hb : (b && decide (l.length = 0)) = false := by
        cases b
        · rfl
        · cases l with
          | nil => rw [slV_nil] at k1; cases k1
          | cons => simp
      rw [k1, hb]; simp [binV, eqV, hu]
  · cases h
theorem sl_nil {t : TypeId} (h : isSlT P t = true) (a b c d e : Nat) (cp : Cap) : binV P .eql t (.slice a b c d e cp) .nilslice = some (.bool false) ∧ binV P .neq t (.slice a b c d e cp) .nilslice = some (.bool true) ∧ binV P .eql t .nilslice .nilslice = some (.bool true) ∧ binV P .neq t .nilslice .nilslice = some (.bool false) := by
  unfold isSlT at h
  split at h
  · rename_i e hu; simp [binV, eqV, hu]
  · cases h
theorem pt_nil {t : TypeId} (h : isPtT P t = true) (a b c : Nat) : binV P .eql t (.ptr a b c) .nilptr = some (.bool false) ∧ binV P .neq t (.ptr a b c) .nilptr = some (.bool true) ∧ binV P .eql t .nilptr .nilptr = some (.bool true) ∧ binV P .neq t .nilptr .nilptr = some (.bool false) := by
  unfold isPtT at h
  split at h
  · rename_i e hu; simp [binV, eqV, hu]
  · cases h
theorem mp_nil {t : TypeId} (h : isMpT P t = true) (a : Nat) : binV P .eql t (.map a) .nilmap = some (.bool false) ∧ binV P .neq t (.map a) .nilmap = some (.bool true) ∧ binV P .eql t .nilmap .nilmap = some (.bool true) ∧ binV P .neq t .nilmap .nilmap = some (.bool false) := by
  unfold isMpT at h
  split at h
  · rename_i e hu; simp [binV, eqV, hu]
  · cases h
theorem agg_eq {t : TypeId} {ks : List CK} (hf : flatT P 8 t = some ks) (ha : aggT P t = some true) (hz : szOf P t = some ks.length) (xs ys : List V) : binV P .eql t (.agg xs) (.agg ys) = if ckOks ks xs = true ∧ ckOks ks ys = true then some (.bool (eqCells xs ys)) else none := by
  simp only [binV, eqV, hf, Option.bind_some, ha, hz, and_true]
  split <;> rfl
theorem agg_ne {t : TypeId} {ks : List CK} (hf : flatT P 8 t = some ks) (ha : aggT P t = some true) (hz : szOf P t = some ks.length) (xs ys : List V) : binV P .neq t (.agg xs) (.agg ys) = if ckOks ks xs = true ∧ ckOks ks ys = true then some (.bool (!eqCells xs ys)) else none := by
  simp only [binV, eqV, hf, Option.bind_some, ha, hz, and_true]
  split <;> rfl
@[go_sem] theorem ckOks_nil : ckOks [] [] = true := rfl
@[go_sem] theorem ckOks_cons (k : CK) (v : V) (ks : List CK) (vs : List V) : ckOks (k :: ks) (v :: vs) = (ckOk k v && ckOks ks vs) := rfl
@[go_sem] theorem ckOk_int (k : IntKind) (n : Int) : ckOk (.int k) (.int k n) = true := by simp [ckOk]
@[go_sem] theorem ckOk_str (s : List UInt8) : ckOk .str (.str s) = true := rfl
@[go_sem] theorem ckOk_bool (b : Bool) : ckOk .bool (.bool b) = true := rfl
@[go_sem] theorem eqCells_nil : eqCells [] [] = true := rfl
@[go_sem] theorem eqCells_cons (a b : V) (x y : List V) : eqCells (a :: x) (b :: y) = (eqCell a b && eqCells x y) := rfl
@[go_sem] theorem eqCell_int (k k' : IntKind) (a b : Int) : eqCell (.int k a) (.int k' b) = decide (a = b) := by simp [eqCell]; rfl
@[go_sem] theorem eqCell_bool (a b : Bool) : eqCell (.bool a) (.bool b) = (a == b) := rfl
@[go_sem] theorem eqCell_str (a b : List UInt8) : eqCell (.str a) (.str b) = decide (a = b) := by
  by_cases h : a = b <;> simp [eqCell, h]
theorem buildArr_eq {t e : TypeId} {n sz : Nat} {z : List V} (hu : P.underlying t = some (.array n e)) (he : szOf P e = some sz) (hz : zeroV P t = some (.agg z)) (ps : List (Nat × V)) : buildV P t ps = (fillV (fun i => some (i * sz, sz)) z ps).map V.agg := by
  unfold buildV
  simp only [hu, hz, Option.bind_some, V.cells, he]
theorem bs_zero {t e : TypeId} {sz : Nat} {zv : V} (hu : P.underlying t = some (.slice e)) (hz : szOf P e = some sz) (hv : zeroV P e = some zv) (hl : zv.cells.length = sz) (hs : 0 < sz) : buildSliceV P t 0 [] H = some (.slice H.length 0 0 0 sz .full, H ++ [.row 0 [] true]) := by
  unfold buildSliceV
  simp only [hu, hz, hv, Option.bind_some]
  rw [if_pos ⟨hl, hs, by omega⟩]
  rfl
theorem bs_gen {t e : TypeId} {sz len : Nat} {zv : V} (hu : P.underlying t = some (.slice e)) (hz : szOf P e = some sz) (hv : zeroV P e = some zv) (hl : zv.cells.length = sz) (hs : 0 < sz) (hs2 : len * sz ≤ 2 ^ 24) (ps : List (Nat × V)) : buildSliceV P t len ps H = (fillV (fun i => some (i * sz, sz)) (repeatV zv.cells len) ps).bind fun cs => if cs.all V.isCell = true then some (.slice H.length 0 0 len sz .full, H ++ [.row 0 cs true]) else none := by
  unfold buildSliceV
  simp only [hu, hz, hv, Option.bind_some]
  rw [if_pos ⟨hl, hs, hs2⟩]
@[go_sem] theorem repeatV_0 (z : List V) : repeatV z 0 = [] := rfl
@[go_sem] theorem repeatV_S (z : List V) (n : Nat) : repeatV z (n + 1) = z ++ repeatV z n := rfl

variable {Pr : Prims}
/-- A call, as an equation. -/
theorem call_eq {k n : Nat} {fn : Func} {code : Code} {c : Cc} (hp : Pr.call k = none) (hf : P.funcs[k]? = some fn) (hb : fn.body = some code) (hc : compC P n code = some c) {rs : List ResultVar} (hr : fn.results.toList = rs) {args : List V} (hn : max args.length fn.ntmps = n) {r : V × Hp}
    (h : Wp P (callL P Pr) n c args [] H (RetQ P rs fun v H' => Pr.gc k H (v, H') = r)) : callL P Pr k args H = some r := by
  obtain ⟨v, H', h1, h2⟩ := call_of hp hf hb hc hr hn h
  rw [h2, h1]
theorem call_ex {k n : Nat} {fn : Func} {code : Code} {c : Cc} (hp : Pr.call k = none) (hf : P.funcs[k]? = some fn) (hb : fn.body = some code) (hc : compC P n code = some c) {rs : List ResultVar} (hr : fn.results.toList = rs) {args : List V} (hn : max args.length fn.ntmps = n) {R : V × Hp → Prop}
    (h : Wp P (callL P Pr) n c args [] H (RetQ P rs fun v H' => R (Pr.gc k H (v, H')))) : ∃ r, callL P Pr k args H = some r ∧ R r := by
  obtain ⟨v, H', h1, h2⟩ := call_of hp hf hb hc hr hn h
  exact ⟨_, h2, h1⟩
/-! Deferred calls of contracts. -/
def dfrs (Pr : Prims) : Dfr → Hp → Option Hp
  | [], H => some H
  | d :: D, H => (Pr.dfr d.1).bind fun p => (p d.2 H).bind (dfrs Pr D)
theorem dfrs_eq {code : Nat → CodeT} : ∀ {D : Dfr} {H H' : Hp}, dfrs Pr D H = some H' → defersV P Pr code D H = some H'
  | [], H, H', h => by simpa [dfrs, defersV] using h
  | d :: D, H, H', h => by
    unfold dfrs at h
    obtain ⟨p, h1, h2⟩ := Option.bind_eq_some_iff.1 h
    obtain ⟨H1, h3, h4⟩ := Option.bind_eq_some_iff.1 h2
    unfold defersV
    have : callD P Pr code d.1 d.2 H = some H1 := by
      unfold callD
      simp only [h1, h3]
    simp only [this, Option.bind_some]
    exact dfrs_eq h4
def RetD (P : Program) (Pr : Prims) (rs : List ResultVar) (R : V → Hp → Prop) : Ex → Fr → Dfr → Hp → Prop
  | .exit _, _, _, _ => False
  | _, T, D, H => bindW (dfrs Pr D H) fun H' => bindW ((mapO (resV P H' T) rs).bind tupV) fun v => R v H'
@[go_sem] theorem RetD_ret (rs : List ResultVar) (K : V → Hp → Prop) (T : Fr) (D : Dfr) : RetD P Pr rs K .ret T D H = bindW (dfrs Pr D H) fun H' => bindW ((mapO (resV P H' T) rs).bind tupV) fun v => K v H' := rfl
@[go_sem] theorem RetD_nor (rs : List ResultVar) (K : V → Hp → Prop) (T : Fr) (D : Dfr) : RetD P Pr rs K .nor T D H = bindW (dfrs Pr D H) fun H' => bindW ((mapO (resV P H' T) rs).bind tupV) fun v => K v H' := rfl
@[go_sem] theorem dfrs_nil : dfrs Pr [] H = some H := rfl
theorem call_ofD {k n : Nat} {fn : Func} {code : Code} {c : Cc} (hp : Pr.call k = none) (hf : P.funcs[k]? = some fn) (hb : fn.body = some code) (hc : compC P n code = some c) {rs : List ResultVar} (hr : fn.results.toList = rs) {args : List V} (hn : max args.length fn.ntmps = n) {R : V → Hp → Prop}
    (h : Wp P (callL P Pr) n c args [] H (RetD P Pr rs R)) : ∃ v H', R v H' ∧ callL P Pr k args H = some (Pr.gc k H (v, H')) := by
  obtain ⟨e, s', h1, h2⟩ := h
  have hrun := Big_code h1 code hc
  cases e with
  | exit id => exact h2.elim
  | nor =>
    obtain ⟨H1, hD, v, hv, hR⟩ := h2
    refine ⟨v, H1, hR, ?_⟩
    rw [callL_eq]
    unfold callF
    simp only [hp, hf, hb, Option.bind_some, hn, hrun, dfrs_eq hD]
    unfold resultsV
    rw [hr, hv]
    rfl
  | ret =>
    obtain ⟨H1, hD, v, hv, hR⟩ := h2
    refine ⟨v, H1, hR, ?_⟩
    rw [callL_eq]
    unfold callF
    simp only [hp, hf, hb, Option.bind_some, hn, hrun, dfrs_eq hD]
    unfold resultsV
    rw [hr, hv]
    rfl
theorem call_exD {k n : Nat} {fn : Func} {code : Code} {c : Cc} (hp : Pr.call k = none) (hf : P.funcs[k]? = some fn) (hb : fn.body = some code) (hc : compC P n code = some c) {rs : List ResultVar} (hr : fn.results.toList = rs) {args : List V} (hn : max args.length fn.ntmps = n) {R : V × Hp → Prop}
    (h : Wp P (callL P Pr) n c args [] H (RetD P Pr rs fun v H' => R (Pr.gc k H (v, H')))) : ∃ r, callL P Pr k args H = some r ∧ R r := by
  obtain ⟨v, H', h1, h2⟩ := call_ofD hp hf hb hc hr hn h
  exact ⟨_, h2, h1⟩
theorem call_eqD {k n : Nat} {fn : Func} {code : Code} {c : Cc} (hp : Pr.call k = none) (hf : P.funcs[k]? = some fn) (hb : fn.body = some code) (hc : compC P n code = some c) {rs : List ResultVar} (hr : fn.results.toList = rs) {args : List V} (hn : max args.length fn.ntmps = n) {r : V × Hp}
    (h : Wp P (callL P Pr) n c args [] H (RetD P Pr rs fun v H' => Pr.gc k H (v, H') = r)) : callL P Pr k args H = some r := by
  obtain ⟨v, H', h1, h2⟩ := call_ofD hp hf hb hc hr hn h
  rw [h2, h1]
end
end Go.An
/-
  The abstract machine, part EC: arguments as lists of plain data. No statement of the seat stands here.
-/
namespace Go.An
open Go Go.RowKit

set_option linter.unusedSectionVars false
section
variable [Orc]
variable {P : Program}
def structTys (P : Program) (t : TypeId) : Option (List TypeId) := match P.underlying t with
  | some (.struct fs) => some (fs.toList.map (·.type))
  | _ => none
def RdTs (P : Program) (m : Nat) : List TypeId → List (List V) → Prop
  | [], [] => True
  | t :: ts, x :: xs => (x.length = P.cellsOf t ∧ RdT P m t x) ∧ RdTs P m ts xs
  | _, _ => False
theorem rdTs_of {m : Nat} : ∀ {fs : List Field} {xss : List (List V)}, xss.length = fs.length → (∀ (i : Nat) (fld : Field) (x : List V), fs[i]? = some fld → xss[i]? = some x → x.length = P.cellsOf fld.type ∧ RdT P m fld.type x) → RdTs P m (fs.map (·.type)) xss
  | [], [], _, _ => trivial
  | f :: fs, x :: xss, hl, h => ⟨h 0 f x rfl rfl, rdTs_of (by simpa using hl) fun i fld y h1 h2 => h (i + 1) fld y (by simpa using h1) (by simpa using h2)⟩
  | [], _ :: _, hl, _ => by simp at hl
  | _ :: _, [], hl, _ => by simp at hl
theorem rd_parts {m : Nat} {t : TypeId} {ts : List TypeId} {xs : List V} (hu : structTys P t = some ts) (h : RdT P (m + 1) t xs) : ∃ xss, xs = xss.flatten ∧ RdTs P m ts xss := by
  unfold structTys at hu
  split at hu
  · rename_i fs hs
    injection hu with hu
    subst hu
    obtain ⟨xss, h1, h2, h3⟩ := rd_struct hs h
    exact ⟨xss, h1, rdTs_of (by simpa using h2) fun i fld x h4 h5 => h3 i fld x (by simpa using h4) h5⟩
  · cases hu
theorem rdTs_cons {m : Nat} {t : TypeId} {ts : List TypeId} {xss : List (List V)} (h : RdTs P m (t :: ts) xss) : ∃ x l, xss = x :: l ∧ RdT P m t x ∧ RdTs P m ts l := by
  cases xss with
  | nil => exact h.elim
  | cons x l => exact ⟨x, l, rfl, h.1.2, h.2⟩
theorem rdTs_nil {m : Nat} {xss : List (List V)} (h : RdTs P m [] xss) : xss = [] := by
  cases xss with
  | nil => rfl
  | cons x l => exact h.elim
def Inx (n : Int) : Prop := -9223372036854775808 ≤ n ∧ n ≤ 9223372036854775807
theorem rd_i64 {m : Nat} {t : TypeId} {xs : List V} (hu : P.underlying t = some (.int .i64)) (h : RdT P (m + 1) t xs) : ∃ n, xs = [.int .i64 n] ∧ Inx n := by
  obtain ⟨n, e, hw⟩ := rd_int hu h
  exact ⟨n, e, by simpa [Inx, Lit.wf, IntKind.min, IntKind.max, IntKind.signed, IntKind.bits] using hw⟩
theorem rd_u8 {m : Nat} {t : TypeId} {xs : List V} (hu : P.underlying t = some (.int .u8)) (h : RdT P (m + 1) t xs) : ∃ n : UInt8, xs = [.int .u8 n.toNat] := by
  obtain ⟨n, e, hw⟩ := rd_int hu h
  have hr : 0 ≤ n ∧ n ≤ 255 := by simpa [Lit.wf, IntKind.min, IntKind.max, IntKind.signed, IntKind.bits] using hw
  refine ⟨UInt8.ofNat n.toNat, ?_⟩
  rw [e, UInt8.toNat_ofNat', Nat.mod_eq_of_lt (by omega)]
  congr 2
  omega
/-- A list of elements, read each by itself. -/
theorem dec_list {α : Type} {m : Nat} {e : TypeId} {enc : α → List V} {Ok : α → Prop} (dec : ∀ x, RdT P m e x → ∃ a, x = enc a ∧ Ok a) : ∀ (xss : List (List V)), (∀ x ∈ xss, x.length = P.cellsOf e ∧ RdT P m e x) → ∃ l : List α, xss = l.map enc ∧ ∀ a ∈ l, Ok a
  | [], _ => ⟨[], rfl, by simp⟩
  | x :: xss, h => by
    obtain ⟨l, rfl, hl⟩ := dec_list dec xss fun y hy => h y (by simp [hy])
    obtain ⟨a, rfl, ha⟩ := dec x (h x (by simp)).2
    refine ⟨a :: l, rfl, fun b hb => ?_⟩
    rcases List.mem_cons.1 hb with rfl | hb
    · exact ha
    · exact hl b hb

theorem rd_list {α : Type} {m : Nat} {t e : TypeId} {E : Enc α} {Ok : α → Prop} (hu : P.underlying t = some (.slice e)) (hc : P.cellsOf e = E.w) (dec : ∀ x, RdT P m e x → ∃ a, x = E.f a ∧ Ok a) {xs : List V} (h : RdT P (m + 1) t xs) :
    ∃ (b : Bool) (l : List α), xs = [slV b E l] ∧ (∀ a ∈ l, Ok a) ∧ l.length * P.bytesOf e ≤ reachBytes ∧ l.length ≤ maxLen := by
  rcases rd_slice hu h with rfl | ⟨xss, rfl, h1, h2, h3⟩
  · exact ⟨true, [], rfl, by simp, by simp, by simp⟩
  · obtain ⟨l, rfl, hl⟩ := dec_list dec xss h3
    rw [List.length_map] at h1 h2
    exact ⟨false, l, by simp [slV, flatE, hc], hl, h1, h2⟩
theorem arg_list {α : Type} {m : Nat} {t e : TypeId} {E : Enc α} {Ok : α → Prop} (hu : P.underlying t = some (.slice e)) (hc : P.cellsOf e = E.w) (dec : ∀ x, RdT P m e x → ∃ a, x = E.f a ∧ Ok a) {x : V} (h : ArgT P (m + 1) t x) :
    ∃ (b : Bool) (l : List α), x = slV b E l ∧ (∀ a ∈ l, Ok a) ∧ l.length * P.bytesOf e ≤ reachBytes ∧ l.length ≤ maxLen := by
  unfold ArgT at h
  rw [hu] at h
  obtain ⟨b, l, e, r⟩ := rd_list hu hc dec h
  injection e with e
  exact ⟨b, l, e, r⟩
theorem arg_i64 {m : Nat} {t : TypeId} {x : V} (hu : P.underlying t = some (.int .i64)) (h : ArgT P (m + 1) t x) : ∃ n, x = .int .i64 n ∧ Inx n := by
  unfold ArgT at h; rw [hu] at h
  obtain ⟨n, e, hw⟩ := rd_i64 hu h
  injection e with e
  exact ⟨n, e, hw⟩
theorem rd_bytes {m : Nat} {t e : TypeId} (hu : P.underlying t = some (.slice e)) (he : P.underlying e = some (.int .u8)) (hc : P.cellsOf e = 1) {xs : List V} (h : RdT P (m + 2) t xs) :
    ∃ (b : Bool) (l : List UInt8), xs = [slV b byE l] ∧ (∀ b ∈ l, True) ∧ l.length * P.bytesOf e ≤ reachBytes ∧ l.length ≤ maxLen :=
  rd_list (m := m + 1) (E := byE) (Ok := fun _ => True) hu hc (fun _ hx => let ⟨n, e⟩ := rd_u8 (m := m) he hx; ⟨n, e, trivial⟩) h
theorem arg_bytes {m : Nat} {t e : TypeId} (hu : P.underlying t = some (.slice e)) (he : P.underlying e = some (.int .u8)) (hc : P.cellsOf e = 1) {x : V} (h : ArgT P (m + 2) t x) :
    ∃ (b : Bool) (l : List UInt8), x = slV b byE l ∧ (∀ b ∈ l, True) ∧ l.length * P.bytesOf e ≤ reachBytes ∧ l.length ≤ maxLen :=
  arg_list (m := m + 1) (E := byE) (Ok := fun _ => True) hu hc (fun _ hx => let ⟨n, e⟩ := rd_u8 (m := m) he hx; ⟨n, e, trivial⟩) h
theorem arg_ints {m : Nat} {t e : TypeId} (hu : P.underlying t = some (.slice e)) (he : P.underlying e = some (.int .i64)) (hc : P.cellsOf e = 1) {x : V} (h : ArgT P (m + 2) t x) :
    ∃ (b : Bool) (l : List Int), x = slV b inE l ∧ (∀ b ∈ l, Inx b) ∧ l.length * P.bytesOf e ≤ reachBytes ∧ l.length ≤ maxLen :=
  arg_list (m := m + 1) (E := inE) (Ok := Inx) hu hc (fun _ hx => rd_i64 (m := m) he hx) h
theorem maxLen_eq : maxLen = 9223372036854775807 := rfl
theorem arg_struct {m : Nat} {t : TypeId} {fs : Array Field} {x : V} (hu : P.underlying t = some (.struct fs)) (h : ArgT P m t x) : ∃ xs, x = .agg xs ∧ RdT P m t xs := by
  unfold ArgT at h; rw [hu] at h; exact h
theorem byE_w : byE.w = 1 := rfl
theorem inE_w : inE.w = 1 := rfl
theorem boE_w : boE.w = 1 := rfl
theorem stE_w : stE.w = 1 := rfl
/-- The first place of what is sought. -/
def findI {α : Type} (p : α → Bool) : List α → Int → Int
  | [], _ => -1
  | x :: xs, i => if p x then i else findI p xs (i + 1)
theorem findI_any {α : Type} (p : α → Bool) : ∀ (xs : List α) (i : Int), 0 ≤ i → decide (0 ≤ findI p xs i) = xs.any p
  | [], i, _ => rfl
  | x :: xs, i, h => by
    unfold findI
    by_cases hp : p x = true
    · simp [hp, h]
    · rw [if_neg hp, findI_any p xs (i + 1) (by omega)]
      simp [hp]
theorem findI_drop {α : Type} (p : α → Bool) {xs : List α} {i : Nat} {x : α} (hx : xs[i]? = some x) (n : Int) : findI p (xs.drop i) n = if p x then n else findI p (xs.drop (i + 1)) (n + 1) := by
  obtain ⟨h1, rfl⟩ := List.getElem?_eq_some_iff.1 hx
  rw [List.drop_eq_getElem_cons h1]
  rfl
/-! Plain data that stays folded. -/
section
variable {α : Type} {H : Hp} (E : Enc α) (a : α)
@[go_sem] theorem Enc.load (t : TypeId) (off : Nat) : loadV P t H (.ipt (E.f a) off) = partV P t (E.f a) off := rfl
@[go_sem] theorem Enc.part (t : TypeId) (off : Nat) : partV P t (E.f a) off = partK (aggT P t) (szOf P t) (E.f a) off := rfl
theorem partK_all {cs : List V} {n : Nat} (h : cs.length = n) : partK (some true) (some n) cs 0 = some (.agg cs) := by
  subst h
  simp [partK]
@[go_sem] theorem Enc.immLs : immL (E.f a) = true := E.imm a
@[go_sem] theorem Enc.all : (E.f a).all V.isCell = true := immL_cells (E.imm a)
theorem eqC_imm {v : V} (h : v.imm = true) : eqC v v = true := by
  cases v <;> simp [V.imm] at h <;> simp [eqC, eqBase, eqIL_refl]
theorem eqList_imm : ∀ {l : List V}, immL l = true → eqList eqC l l = true
  | [], _ => rfl
  | v :: l, h => by
    have h1 := immL_iff.1 h
    rw [eqList, eqC_imm (h1 v (by simp)), eqList_imm (immL_iff.2 fun x hx => h1 x (by simp [hx]))]
    rfl
@[go_sem] theorem Enc.eqL : eqList eqC (E.f a) (E.f a) = true := eqList_imm (E.imm a)
theorem inlC_imm {n f : Nat} {v : V} (h : v.imm = true) : inlC n H (f + 1) v = some v := by
  rw [← inlB_imm (n := n) (H' := H) (f := f) h]
  cases v <;> simp [V.imm] at h <;> rfl
theorem mapO_immC {n f : Nat} {cs : List V} (h : immL cs = true) : mapO (inlC n H (f + 1)) cs = some cs := by
  induction cs with
  | nil => rfl
  | cons v l ih =>
    have h1 := immL_iff.1 h
    rw [mapO_cons, inlC_imm (h1 v (by simp)), ih (immL_iff.2 fun x hx => h1 x (by simp [hx]))]
    rfl
@[go_sem] theorem Enc.mapO {n f : Nat} : An.mapO (inlC n H (f + 1)) (E.f a) = some (E.f a) := mapO_immC (E.imm a)
@[go_sem] theorem Enc.mapOB {n f : Nat} : An.mapO (inlB n H (f + 1)) (E.f a) = some (E.f a) := mapO_imm (E.imm a)
end
theorem guardQ_ite {cl : CallT} {N n0 : Nat} {b w2 w : Bool} {v1 v2 : V} {sf : Prop} {x : Option (V × Dfr × Hp)} {d : Option Nat} {a : Bool} {rs : List (Option (Nat × Bool) × Op)} {rest : List Co} {T : Fr} {D : Dfr} {H : Hp} {Q : Fr → Dfr → Hp → Prop}
    (h1 : b = true → guardQ P cl N n0 (iteB true w2 v1 v2) w sf x d a rs rest T D H Q) (h2 : b = false → guardQ P cl N n0 (iteB false w2 v1 v2) w sf x d a rs rest T D H Q) : guardQ P cl N n0 (iteB b w2 v1 v2) w sf x d a rs rest T D H Q := by
  cases b
  · exact h2 rfl
  · exact h1 rfl
/-- One more element laid behind a slice that grows. -/
theorem bl_one {α : Type} {H : Hp} {n g w by_ : Nat} (E : Enc α) (ys : List α) (y : α) (hn : n = H.length) (hw : E.w = w) (hb : (ys.length + 1) * by_ ≤ 2 ^ 40) (hb2 : ys.length + 1 ≤ 2 ^ 40) :
    appOf w by_ (H ++ blH g (ys.map E.f)) (blV n g w (ys.map E.f)) (.isl (E.f y) 1 w) = some (blV n (blG g (ys.map E.f)) w ((ys ++ [y]).map E.f), H ++ blH (blG g (ys.map E.f)) ((ys ++ [y]).map E.f)) := by
  rw [bl_push hn hw ((E.len y).trans hw) (immL_cells (E.imm y)) hb hb2]
  simp
theorem flatE_app {α : Type} (E : Enc α) (l m : List α) : flatE E (l ++ m) = flatE E l ++ flatE E m := by simp [flatE]
theorem flatE_cells {α : Type} (E : Enc α) (l : List α) : (flatE E l).all V.isCell = true := immL_cells flatE_imm
/-- A list laid behind a slice that grows. -/
theorem bl_all {α : Type} {H : Hp} {n g w by_ : Nat} (E : Enc α) (ys zs : List α) (b : Bool) (hn : n = H.length) (hw : E.w = w) (hb : (ys.length + zs.length) * by_ ≤ 2 ^ 40) (hb2 : ys.length + zs.length ≤ 2 ^ 40) :
    appOf w by_ (H ++ blH g (ys.map E.f)) (blV n g w (ys.map E.f)) (slV b E zs) = some (blV n (if zs = [] then g else blG g (ys.map E.f)) w ((ys ++ zs).map E.f), H ++ blH (if zs = [] then g else blG g (ys.map E.f)) ((ys ++ zs).map E.f)) := by
  subst hw hn
  have hp := E.pos
  have hxl := ls_len (enc_ls E ys)
  rw [List.length_map] at hxl
  have hzl : (flatE E zs).length = zs.length * E.w := flatE_len
  unfold appOf
  rw [src_slV]
  simp only [Option.bind_some]
  rw [if_pos ⟨hzl, flatE_cells E zs⟩]
  by_cases hz : zs = []
  · subst hz
    simp only [List.length_nil, if_true, List.append_nil]
    unfold blV blH
    by_cases h : ys.map E.f = []
    · simp [h]
    · have hr : getRow (H ++ [AB.row g (ys.map E.f).flatten true]) H.length g = some ((ys.map E.f).flatten, true) := getRow_last g _ true
      simp only [if_neg h, hr, Option.bind_some, List.length_map, Nat.add_zero]
      rw [if_pos ⟨trivial, by simpa using hb, by simpa using hb2, by omega⟩]
  · have hz0 : 0 < zs.length := by
      cases zs with
      | nil => exact absurd rfl hz
      | cons => simp
    have hne : ¬ ((ys ++ zs).map E.f = []) := by
      intro e
      simp only [List.map_eq_nil_iff, List.append_eq_nil_iff] at e
      exact hz e.2
    simp only [if_neg hz, blV, blH, blG, if_neg hne]
    by_cases h : ys.map E.f = []
    · have h' : ys = [] := by simpa using h
      subst h'
      simp only [List.map_nil, List.length_nil, Nat.zero_add, if_true, List.nil_append, List.append_nil] at hb hb2 ⊢
      rw [if_neg (show ¬ zs.length = 0 by omega), if_pos ⟨hb, hb2⟩]
      simp [flatE]
    · simp only [if_neg h]
      have hr : getRow (H ++ [AB.row g (ys.map E.f).flatten true]) H.length g = some ((ys.map E.f).flatten, true) := getRow_last g _ true
      have hzw : 0 < zs.length * E.w := Nat.mul_pos hz0 hp
      rw [hr]
      simp only [Option.bind_some, List.length_map]
      rw [if_pos ⟨trivial, hb, hb2, by omega⟩, if_neg (show ¬ zs.length = 0 by omega), if_pos trivial, if_neg (by rw [hxl, Nat.add_mul]; omega), if_pos (by omega)]
      simp [flatE]
end
end Go.An
/-
  The abstract machine, part ED: rows that are known among others; a row of before that a call changes. No statement of the seat stands here.
-/
namespace Go.An
open Go
set_option linter.unusedSectionVars false

section
variable [Orc]
variable {P : Program} {H L : Hp} {k g : Nat}
theorem getRow_of {cs : List V} {o : Bool} (h : H[k]? = some (.row g cs o)) : getRow H k g = some (cs, o) := by simp [getRow, h]
theorem getRow_app' (h : k < H.length) : getRow (H ++ L) k g = getRow H k g := getRow_app h
theorem getRow_setS {cs : List V} {o : Bool} (h : k < H.length) : getRow (H.set k (.row g cs o)) k g = some (cs, o) := by simp [getRow, h]
theorem getRow_setO {j : Nat} {b : AB} (h : j ≠ k) : getRow (H.set j b) k g = getRow H k g := by simp [getRow, h]
theorem set_app {b : AB} (h : k < H.length) : (H ++ L).set k b = H.set k b ++ L := List.set_append_left k b h
theorem set_len {b : AB} : (H.set k b).length = H.length := List.length_set
theorem get_last {A : Hp} {b : AB} {n : Nat} (h : n = A.length) : (A ++ [b])[n]? = some b := by subst h; simp
theorem getRow_lastN {n : Nat} {A : Hp} {cs : List V} {o : Bool} (h : n = A.length) : getRow (A ++ [.row g cs o]) n g = some (cs, o) := by subst h; exact getRow_last g cs o
theorem set_lastN {n : Nat} {A : Hp} {b b' : AB} (h : n = A.length) : (A ++ [b]).set n b' = A ++ [b'] := by subst h; exact set_last b b'
/-- A call that changes one row of before, and makes others. -/
def putQ (x : Option V) (y : Option AB) (H : Hp) (k : Nat) (r : V × Hp) : Prop := ∃ v b, x = some v ∧ y = some b ∧ (v, H.set k b) = r
@[go_sem] theorem putQ_some (v : V) (b : AB) (r : V × Hp) : putQ (some v) (some b) H k r = ((v, H.set k b) = r) := by simp [putQ]
@[go_sem] theorem inlK_row (n : Nat) (H' : Hp) (f : Nat) (cs : List V) (o : Bool) : inlK n H' f (.row g cs o) = (mapO (inlC n H' f) cs).map fun xs => .row g xs o := rfl
theorem gcF_put {v v' : V} {b0 b b' : AB} {H' : Hp} (h0 : H[k]? = some b0) (hb0 : inlK H.length H' 8 b0 = some b0) (h : ∀ id, id < H.length → id ≠ k → H'[id]? = H[id]?) (hb : H'[k]? = some b) (hv : inlR H.length H' 8 v = some v') (hi : inlK H.length H' 8 b = some b') : gcF H (v, H') = (v', H.set k b') := by
  have hk : k < H.length := (List.getElem?_eq_some_iff.1 h0).1
  have key : ∀ n, n ≤ H.length → mapO (frzK H H') (List.range n) = some ((H.set k b').take n) := by
    have app : ∀ (l : List Nat) (j : Nat) (r : List AB) (b : AB), mapO (frzK H H') l = some r → frzK H H' j = some b → mapO (frzK H H') (l ++ [j]) = some (r ++ [b]) := by
      intro l
      induction l with
      | nil =>
        intro k r b h1 h2
        simp only [mapO, Option.some.injEq] at h1
        subst h1
        simp [mapO, h2]
      | cons x l ih =>
        intro k r b h1 h2
        simp only [mapO] at h1
        obtain ⟨y, h3, h4⟩ := Option.bind_eq_some_iff.1 h1
        obtain ⟨ys, h5, rfl⟩ := Option.map_eq_some_iff.1 h4
        rw [List.cons_append]
        simp only [mapO, h3, Option.bind_some]
        rw [ih k ys b h5 h2]
        rfl
    intro n
    induction n with
    | zero => intro _; rfl
    | succ n ih =>
      intro hn
      rw [List.range_succ, app _ n _ (if n = k then b' else (H[n]'(by omega))) (ih (by omega)) ?_]
      · rw [List.take_add_one, List.getElem?_set]
        by_cases e : n = k
        · subst e; simp [hk]
        · rw [if_neg e, if_neg (fun x => e x.symm), List.getElem?_eq_getElem (by omega)]
          rfl
      · unfold frzK
        by_cases e : n = k
        · subst e
          rw [if_pos rfl]
          split
          · rename_i h2
            rw [hb, h0] at h2
            injection h2 with h2
            subst h2
            rw [hb0] at hi
            injection hi with hi
            rw [h0, hi]
          · rw [hb]; exact hi
        · rw [if_neg e, if_pos (h n (by omega) e), List.getElem?_eq_getElem (by omega)]
  unfold gcF
  have := key H.length (Nat.le_refl _)
  rw [List.take_of_length_le (by simp)] at this
  simp only [hv, this]
theorem gcF_set {v : V} {b0 b : AB} {r : V × Hp} (h0 : H[k]? = some b0) (hb0 : inlK H.length (H.set k b ++ L) 8 b0 = some b0) (h : putQ (inlR H.length (H.set k b ++ L) 8 v) (inlK H.length (H.set k b ++ L) 8 b) H k r) : gcF H (v, H.set k b ++ L) = r := by
  obtain ⟨v', b', h1, h2, rfl⟩ := h
  have hk : k < H.length := (List.getElem?_eq_some_iff.1 h0).1
  refine gcF_put h0 hb0 (fun id hid hne => ?_) ?_ h1 h2
  · rw [List.getElem?_append_left (by simpa using hid), List.getElem?_set, if_neg (fun e => hne e.symm)]
  · rw [List.getElem?_append_left (by simpa using hk), List.getElem?_set, if_pos rfl, if_pos hk]
theorem gcF_set0 {v : V} {b0 b : AB} {r : V × Hp} (h0 : H[k]? = some b0) (hb0 : inlK H.length (H.set k b) 8 b0 = some b0) (h : putQ (inlR H.length (H.set k b) 8 v) (inlK H.length (H.set k b) 8 b) H k r) : gcF H (v, H.set k b) = r := by
  have := gcF_set (L := []) (b := b) (v := v) (r := r) h0 (by rwa [List.append_nil]) (by rwa [List.append_nil])
  rwa [List.append_nil] at this
theorem gcF_set2 {v : V} {b0 b : AB} {r : V × Hp} {L1 L2 : Hp} (h0 : H[k]? = some b0) (hb0 : inlK H.length (H.set k b ++ L1 ++ L2) 8 b0 = some b0) (h : putQ (inlR H.length (H.set k b ++ L1 ++ L2) 8 v) (inlK H.length (H.set k b ++ L1 ++ L2) 8 b) H k r) : gcF H (v, H.set k b ++ L1 ++ L2) = r := by
  rw [List.append_assoc] at hb0 h ⊢
  exact gcF_set h0 hb0 h
theorem gcF_set3 {v : V} {b0 b : AB} {r : V × Hp} {L1 L2 L3 : Hp} (h0 : H[k]? = some b0) (hb0 : inlK H.length (H.set k b ++ L1 ++ L2 ++ L3) 8 b0 = some b0) (h : putQ (inlR H.length (H.set k b ++ L1 ++ L2 ++ L3) 8 v) (inlK H.length (H.set k b ++ L1 ++ L2 ++ L3) 8 b) H k r) : gcF H (v, H.set k b ++ L1 ++ L2 ++ L3) = r := by
  rw [List.append_assoc] at hb0 h ⊢
  exact gcF_set2 h0 hb0 h
theorem gcF_set4 {v : V} {b0 b : AB} {r : V × Hp} {L1 L2 L3 L4 : Hp} (h0 : H[k]? = some b0) (hb0 : inlK H.length (H.set k b ++ L1 ++ L2 ++ L3 ++ L4) 8 b0 = some b0) (h : putQ (inlR H.length (H.set k b ++ L1 ++ L2 ++ L3 ++ L4) 8 v) (inlK H.length (H.set k b ++ L1 ++ L2 ++ L3 ++ L4) 8 b) H k r) : gcF H (v, H.set k b ++ L1 ++ L2 ++ L3 ++ L4) = r := by
  rw [List.append_assoc] at hb0 h ⊢
  exact gcF_set3 h0 hb0 h
@[go_sem] theorem inlC_slice (n : Nat) (H' : Hp) (f id g off m sz : Nat) (cp : Cap) : inlC n H' f (.slice id g off m sz cp) = inlB n H' f (.slice id g off m sz cp) := rfl
/-- What is laid behind nothing. -/
theorem bl_nil {α : Type} {w by_ : Nat} (E : Enc α) (zs : List α) (b : Bool) (hw : E.w = w) (hb : zs.length * by_ ≤ 2 ^ 40) (hb2 : zs.length ≤ 2 ^ 40) :
    appOf w by_ H .nilslice (slV b E zs) = some (blV H.length 0 w (zs.map E.f), H ++ blH 0 (zs.map E.f)) := by
  have := bl_all (H := H) (n := H.length) (g := 0) (w := w) (by_ := by_) E [] zs b rfl hw (by simpa using hb) (by simpa using hb2)
  simp only [List.map_nil, blV_nil, blH_nil, List.append_nil, List.nil_append] at this
  rw [this]
  by_cases h : zs = [] <;> simp [h, blG]
/-- A slice that has grown, laid into a row of before. -/
theorem inlC_bl {α : Type} {E : Enc α} {n m g w f : Nat} {ys : List α} {A : Hp} (hm : m = A.length) (hn : n ≤ m) (hw : E.w = w) : inlC n (A ++ blH g (ys.map E.f)) (f + 2) (blV m g w (ys.map E.f)) = some (slV true E ys) := by
  rw [inlC_blV]
  exact inlB_bl0 hm hn hw
/-! A slice of a row, cut. -/
theorem cut_sl {t : TypeId} {sz id off n : Nat} {cp : Cap} {kk kk' : IntKind} {lo hi : Int} (ht : sliceT P t sz = true) (h : 0 ≤ lo ∧ lo ≤ hi ∧ hi ≤ (n : Int)) : sliceV P t H (.slice id g off n sz cp) (some (.int kk lo)) (some (.int kk' hi)) = some (.slice id g (off + lo.toNat * sz) (hi.toNat - lo.toNat) sz (cutCap cp lo.toNat)) := by
  unfold sliceT at ht
  split at ht
  · rename_i e hu
    have hz : szOf P e = some sz := by simpa using ht
    simp only [sliceV, hu, boundV, Option.bind_some]
    rw [if_pos ⟨hz, h.1, h.2.1, h.2.2⟩]
  · cases ht
theorem hi_sl {t : TypeId} {sz id off n : Nat} {cp : Cap} {lo : Option V} (ht : sliceT P t sz = true) : sliceV P t H (.slice id g off n sz cp) lo none = sliceV P t H (.slice id g off n sz cp) lo (some (.int .i64 n)) := by
  unfold sliceT at ht
  split at ht
  · rename_i e hu
    simp only [sliceV, hu, boundV]
  · cases ht
theorem src_sl {id off n sz : Nat} {cp : Cap} {cs : List V} {o : Bool} (h : getRow H id g = some (cs, o)) (hl : off + n * sz ≤ cs.length) : srcCells H (.slice id g off n sz cp) = some ((cs.drop off).take (n * sz), n) := by
  simp only [srcCells, h, Option.bind_some]
  rw [if_pos hl]
theorem app_nil0 {w by_ : Nat} {x : V} (h : srcCells H x = some ([], 0)) : appOf w by_ H .nilslice x = some (.nilslice, H) := by
  simp [appOf, h]
theorem app_one {w by_ : Nat} {cs : List V} (h : cs.length = w) (hi : immL cs = true) (hb : by_ ≤ 2 ^ 40) : appOf w by_ H .nilslice (.isl cs 1 w) = some (.slice H.length 0 0 1 w .full, H ++ [.row 0 cs true]) := by
  have e : cs.length = 1 * w := by omega
  simp only [appOf, srcCells, if_pos e, Option.bind_some]
  rw [if_pos ⟨e, immL_cells hi⟩, if_neg (by omega), if_pos ⟨by omega, by omega⟩]
theorem inlC_old {n f id off m sz : Nat} {cp : Cap} (h : id < n) : inlC n H (f + 1) (.slice id g off m sz cp) = some (.slice id g off m sz cp) := by simp [inlC, inlB, h]
/-! A slice that has grown, in memory. -/
section
variable {α : Type} {E : Enc α} {l : List α}
theorem map_ne (h : 0 < l.length) : ¬ l.map E.f = [] := by
  intro e
  simp only [List.map_eq_nil_iff] at e
  subst e
  simp at h
theorem ix_bl {t : TypeId} {n w : Nat} {kk : IntKind} {j : Int} (ht : sliceT P t w = true) (h : 0 ≤ j ∧ j < (l.length : Int)) : indexAddrV P t (blV n g w (l.map E.f)) (.int kk j) = some (.ptr n g (j.toNat * w)) := by
  unfold blV
  rw [if_neg (map_ne (by omega)), ia_slice ht (by simpa using h), Nat.zero_add]
theorem getRow_bl {A : Hp} {n : Nat} (hn : n = A.length) (h : 0 < l.length) : getRow (A ++ blH g (l.map E.f)) n g = some (flatE E l, true) := by
  subst hn
  unfold blH
  rw [if_neg (map_ne h)]
  exact getRow_last g _ true
theorem set_bl {A : Hp} {n : Nat} {b : AB} (hn : n = A.length) (h : 0 < l.length) : (A ++ blH g (l.map E.f)).set n b = A ++ [b] := by
  subst hn
  unfold blH
  rw [if_neg (map_ne h)]
  exact set_last _ b
theorem blV_some {n w : Nat} (h : 0 < l.length) : blV n g w (l.map E.f) = .slice n g 0 l.length w .full := by
  unfold blV
  rw [if_neg (map_ne h), List.length_map]
theorem setAt_app {xs ys : List V} {j : Nat} {v : V} (h : j < xs.length) : setAt (xs ++ ys) j [v] = setAt xs j [v] ++ ys := by
  unfold setAt
  simp only [List.length_singleton]
  rw [List.take_append_of_le_length (by omega), List.drop_append_of_le_length (by omega)]
  simp
theorem setAt_skip {xs ys : List V} {j : Nat} {v : V} : setAt (xs ++ ys) (xs.length + j) [v] = xs ++ setAt ys j [v] := by
  unfold setAt
  simp only [List.length_singleton]
  rw [List.take_length_add_append, show xs.length + j + 1 = xs.length + (j + 1) by omega, List.drop_length_add_append]
  simp
theorem flatE_set : ∀ {l : List α} {i j : Nat} {v : V} {a : α}, i < l.length → j < E.w → E.f a = setAt (E.f (E.at l i)) j [v] → setAt (flatE E l) (i * E.w + j) [v] = flatE E (l.set i a)
  | [], _, _, _, _, h, _, _ => by simp at h
  | x :: l, 0, j, v, a, _, hj, h => by
    have h' : E.f a = setAt (E.f x) j [v] := h
    show setAt (E.f x ++ flatE E l) _ _ = E.f a ++ flatE E l
    rw [h', Nat.zero_mul, Nat.zero_add, setAt_app (by rw [E.len]; exact hj)]
  | x :: l, i + 1, j, v, a, hi, hj, h => by
    show setAt (E.f x ++ flatE E l) _ _ = E.f x ++ flatE E (l.set i a)
    rw [← flatE_set (l := l) (i := i) (by simpa using hi) hj h, ← setAt_skip, E.len]
    congr 1
    rw [Nat.succ_mul]
    omega
theorem setAt_whole {xs ys vs : List V} (h : vs.length = xs.length) : setAt (xs ++ ys) 0 vs = vs ++ ys := by
  unfold setAt
  simp [h]
theorem setAt_skipN {xs ys vs : List V} {j : Nat} : setAt (xs ++ ys) (xs.length + j) vs = xs ++ setAt ys j vs := by
  show List.take (xs.length + j) (xs ++ ys) ++ vs ++ List.drop (xs.length + j + vs.length) (xs ++ ys) = xs ++ (List.take j ys ++ vs ++ List.drop (j + vs.length) ys)
  rw [List.take_length_add_append, show xs.length + j + vs.length = xs.length + (j + vs.length) by omega, List.drop_length_add_append]
  simp
theorem flatE_setE : ∀ {l : List α} {i : Nat} {a : α}, i < l.length → setAt (flatE E l) (i * E.w) (E.f a) = flatE E (l.set i a)
  | [], _, _, h => by simp at h
  | x :: l, 0, a, _ => by
    show setAt (E.f x ++ flatE E l) _ _ = E.f a ++ flatE E l
    rw [Nat.zero_mul, setAt_whole (by rw [E.len, E.len])]
  | x :: l, i + 1, a, hi => by
    show setAt (E.f x ++ flatE E l) _ _ = E.f x ++ flatE E (l.set i a)
    rw [← flatE_setE (l := l) (i := i) (by simpa using hi), ← setAt_skipN, E.len]
    congr 1
    rw [Nat.succ_mul]
    omega
theorem mapO_app {f : V → Option V} : ∀ {xs ys xs' ys' : List V}, mapO f xs = some xs' → mapO f ys = some ys' → mapO f (xs ++ ys) = some (xs' ++ ys')
  | [], ys, xs', ys', h1, h2 => by
    simp only [mapO_nil, Option.some.injEq] at h1
    subst h1
    exact h2
  | x :: xs, ys, xs', ys', h1, h2 => by
    rw [mapO_cons] at h1
    obtain ⟨y, h3, h4⟩ := Option.bind_eq_some_iff.1 h1
    obtain ⟨zs, h5, rfl⟩ := Option.map_eq_some_iff.1 h4
    rw [List.cons_append, mapO_cons, h3, mapO_app h5 h2]
    rfl
theorem mapO_setAt {f : V → Option V} {cs : List V} {j : Nat} {v v' : V} (h : ∀ xs, (∀ x ∈ xs, x ∈ cs) → mapO f xs = some xs) (hv : f v = some v') : mapO f (setAt cs j [v]) = some (setAt cs j [v']) := by
  unfold setAt
  simp only [List.length_singleton]
  refine mapO_app (mapO_app (h _ fun x hx => List.mem_of_mem_take hx) (by simp [mapO, hv])) (h _ fun x hx => List.mem_of_mem_drop hx)
/-- A grown slice one of whose elements has got a grown slice, laid into a row of before. -/
theorem inlB_setAt {A : Hp} {n m w f i j : Nat} {v v' : V} {a : α} (hn : n ≤ m) (hm : m = A.length) (hw : E.w = w) (hi : i < l.length) (hj : j < w) (hv : inlB n (A ++ [.row g (setAt (flatE E l) (i * w + j) [v]) true]) (f + 1) v = some v') (ha : E.f a = setAt (E.f (E.at l i)) j [v']) :
    inlB n (A ++ [.row g (setAt (flatE E l) (i * w + j) [v]) true]) (f + 2) (.slice m g 0 l.length w .full) = some (slV true E (l.set i a)) := by
  subst hw hm
  have hl : (setAt (flatE E l) (i * E.w + j) [v]).length = l.length * E.w := by
    have := flatE_len (E := E) (l := l)
    unfold setAt
    simp only [List.length_append, List.length_take, List.length_drop, List.length_singleton, this]
    have : i * E.w + E.w ≤ l.length * E.w := by
      rw [← Nat.succ_mul]
      exact Nat.mul_le_mul_right _ hi
    omega
  rw [inlB]
  rw [if_neg (by omega)]
  have e : (A ++ [AB.row g (setAt (flatE E l) (i * E.w + j) [v]) true])[A.length]? = some (.row g (setAt (flatE E l) (i * E.w + j) [v]) true) := by simp
  simp only [e]
  rw [if_pos ⟨trivial, by omega⟩, List.drop_zero, List.take_of_length_le (by omega)]
  rw [mapO_setAt (fun xs hx => mapO_imm (immL_iff.2 fun x h => immL_iff.1 flatE_imm x (hx x h))) hv]
  simp only [Option.bind_some]
  rw [flatE_set hi hj ha, if_pos flatE_imm]
  rw [slV_some (by simpa using Nat.lt_of_le_of_lt (Nat.zero_le _) hi), List.length_set]
end
/-- What lies in one row, laid behind nothing. -/
theorem app_row {w by_ id : Nat} {cp : Cap} {cs : List V} {o : Bool} (h : getRow H id g = some (cs, o)) (hw : cs.length = w) (hc : cs.all V.isCell = true) (hb : by_ ≤ 2 ^ 40) : appOf w by_ H .nilslice (.slice id g 0 1 w cp) = some (.slice H.length 0 0 1 w .full, H ++ [.row 0 cs true]) := by
  subst hw
  unfold appOf
  rw [src_sl h (by omega)]
  have e : (cs.drop 0).take (1 * cs.length) = cs := by simp
  simp only [e, Option.bind_some]
  rw [if_pos ⟨by omega, hc⟩, if_neg (by omega), if_pos ⟨by omega, by omega⟩]
/-- One row that a call has made, laid into what it is told with. -/
theorem inlB_one {n f id w : Nat} {cs xs : List V} (hn : n ≤ id) (h : H[id]? = some (.row g cs true)) (hw : cs.length = w) (hc : mapO (inlB n H f) cs = some xs) (hi : immL xs = true) : inlB n H (f + 1) (.slice id g 0 1 w .full) = some (.isl xs 1 w) := by
  subst hw
  rw [inlB, if_neg (by omega)]
  simp only [h]
  rw [if_pos ⟨trivial, by omega⟩, List.drop_zero, List.take_of_length_le (by omega), hc]
  simp [hi]
end
end Go.An
/-
  The abstract machine, part EE: slices of a row of their own, somewhere in memory; lists as values of any kind. No statement of the seat stands here.
-/
namespace Go.An
open Go
set_option linter.unusedSectionVars false

section
variable [Orc]
variable {P : Program} {H : Hp} {α : Type}
/-- A slice of a row of its own. -/
def OwnE (E : Enc α) (H : Hp) (v : V) (l : List α) : Prop :=
  (v = .nilslice ∧ l = []) ∨ ∃ id g, v = .slice id g 0 l.length E.w .full ∧ 0 < l.length ∧ H[id]? = some (.row g (flatE E l) true)
theorem ownE_nil (E : Enc α) (H : Hp) : OwnE E H .nilslice [] := .inl ⟨rfl, rfl⟩
theorem OwnE.frame {E : Enc α} {H' : Hp} {v : V} {l : List α} (h : OwnE E H v l) (hf : ∀ id, At v id → H'[id]? = H[id]?) : OwnE E H' v l := by
  rcases h with h | ⟨id, g, rfl, h1, h2⟩
  · exact .inl h
  · exact .inr ⟨id, g, rfl, h1, by rw [hf id ⟨_, _, _, _, _, rfl⟩]; exact h2⟩
theorem OwnE.lt {E : Enc α} {v : V} {l : List α} (h : OwnE E H v l) {id : Nat} (ha : At v id) : id < H.length := by
  obtain ⟨g, o, n, z, cp, e⟩ := ha
  rcases h with ⟨rfl, _⟩ | ⟨id', g', rfl, _, h2⟩
  · cases e
  · injection e with e1; subst e1; exact (List.getElem?_eq_some_iff.1 h2).1
theorem OwnE.app {E : Enc α} {v : V} {l : List α} (h : OwnE E H v l) (L : Hp) : OwnE E (H ++ L) v l := h.frame fun _ ha => List.getElem?_append_left (h.lt ha)
theorem OwnE.cell {E : Enc α} {v : V} {l : List α} (h : OwnE E H v l) : v.isCell = true ∧ v.cells = [v] ∧ v.isTup = false ∧ eqA v v = true ∧ eqC v v = true := by
  rcases h with ⟨rfl, _⟩ | ⟨id, g, rfl, _, _⟩
  · exact ⟨rfl, rfl, rfl, rfl, rfl⟩
  · exact ⟨rfl, rfl, rfl, eqA_slice .., by simp [eqC, eqBase]⟩
theorem OwnE.len {E : Enc α} {v : V} {l : List α} (h : OwnE E H v l) {t : TypeId} {z : Nat} (ht : sliceT P t z = true) (H' : Hp) : lenV P t H' v = some (.int .i64 l.length) := by
  rcases h with ⟨rfl, rfl⟩ | ⟨id, g, rfl, _, _⟩
  · exact len_nilslice ht
  · exact len_slice ht ..
theorem OwnE.idx {E : Enc α} {v : V} {l : List α} (h : OwnE E H v l) {t : TypeId} {w : Nat} (ht : sliceT P t w = true) (hw : E.w = w) {kk : IntKind} {j : Int} (hj : 0 ≤ j ∧ j < (l.length : Int)) : indexAddrV P t v (.int kk j) = some (.ptr (vid v) (vgen v) (j.toNat * w)) := by
  subst hw
  rcases h with ⟨rfl, rfl⟩ | ⟨id, g, rfl, _, _⟩
  · simp at hj; omega
  · rw [ia_slice ht hj, Nat.zero_add]; rfl
theorem OwnE.row {E : Enc α} {v : V} {l : List α} (h : OwnE E H v l) (hl : 0 < l.length) : getRow H (vid v) (vgen v) = some (flatE E l, true) := by
  rcases h with ⟨rfl, rfl⟩ | ⟨id, g, rfl, _, h2⟩
  · simp at hl
  · exact getRow_of h2
theorem OwnE.at_ {E : Enc α} {v : V} {l : List α} (h : OwnE E H v l) (hl : 0 < l.length) : At v (vid v) := by
  rcases h with ⟨rfl, rfl⟩ | ⟨id, g, rfl, _, h2⟩
  · simp at hl
  · exact ⟨_, _, _, _, _, rfl⟩
theorem OwnE.set {E : Enc α} {v : V} {l l' : List α} (h : OwnE E H v l) (hl : 0 < l.length) (he : l'.length = l.length) : OwnE E (H.set (vid v) (.row (vgen v) (flatE E l') true)) v l' := by
  rcases h with ⟨rfl, rfl⟩ | ⟨id, g, rfl, h1, h2⟩
  · simp at hl
  · refine .inr ⟨id, g, by rw [he], by omega, ?_⟩
    show (H.set id _)[id]? = _
    rw [List.getElem?_set_self (List.getElem?_eq_some_iff.1 h2).1]
    rfl
theorem OwnE.push {E : Enc α} {v : V} {l : List α} {w by_ : Nat} (h : OwnE E H v l) (a : α) (hw : E.w = w) (hb : (l.length + 1) * by_ ≤ 2 ^ 40) (hb2 : l.length + 1 ≤ 2 ^ 40) :
    ∃ v' H', appOf w by_ H v (.isl (E.f a) 1 w) = some (v', H') ∧ OwnE E H' v' (l ++ [a]) ∧ (∀ id, id < H.length → ¬ At v id → H'[id]? = H[id]?) ∧ H.length ≤ H'.length ∧ (∀ id, At v' id → At v id ∨ H.length ≤ id) := by
  subst hw
  have hp := E.pos
  have e1 : (E.f a).length = 1 * E.w := by rw [E.len]; omega
  unfold appOf
  simp only [srcCells, if_pos e1, Option.bind_some]
  rw [if_pos ⟨e1, immL_cells (E.imm a)⟩]
  rcases h with ⟨rfl, rfl⟩ | ⟨id, g, rfl, h1, h2⟩
  · simp only [List.length_nil, Nat.zero_add, Nat.one_mul] at hb hb2
    refine ⟨_, H ++ [.row 0 (E.f a) true], ?_, .inr ⟨H.length, 0, rfl, by simp, by simp [flatE]⟩, ?_, by simp, ?_⟩
    · simp only
      rw [if_neg (by omega), if_pos ⟨by omega, by omega⟩]
      simp
    · intro id hid _
      rw [List.getElem?_append_left hid]
    · rintro id ⟨g, o, n, z, cp, e⟩
      injection e with e1
      right; omega
  · have hid : id < H.length := (List.getElem?_eq_some_iff.1 h2).1
    have hl := flatE_len (E := E) (l := l)
    have hr := getRow_of h2
    refine ⟨_, H.set id (.row (g + 1) (flatE E l ++ E.f a) true), ?_, .inr ⟨id, g + 1, rfl, by simp, ?_⟩, ?_, by simp, ?_⟩
    · simp only
      rw [hr]
      simp only [Option.bind_some]
      rw [if_pos ⟨trivial, by omega, by omega, by omega⟩, if_neg (by omega), if_pos trivial, if_neg (by rw [Nat.add_mul]; omega), if_pos (by omega)]
      simp
    · rw [List.getElem?_set_self hid]
      simp [flatE]
    · intro id' hid' hn
      have hne : id ≠ id' := fun e => hn ⟨g, 0, l.length, E.w, .full, by rw [e]⟩
      rw [List.getElem?_set_ne hne]
    · rintro id' ⟨g', o, n', z, cp, e⟩
      injection e with e1
      subst e1
      exact .inl ⟨g, 0, l.length, E.w, .full, rfl⟩
/-- What a call has made, laid into its answer. -/
theorem OwnE.inl {E : Enc α} {v : V} {l : List α} (h : OwnE E H v l) {n f : Nat} (hn : ∀ id, At v id → n ≤ id) : inlB n H (f + 2) v = some (slV true E l) := by
  rcases h with ⟨rfl, rfl⟩ | ⟨id, g, rfl, h1, h2⟩
  · rw [slV_nil]; rfl
  · rw [inlB_row (hn id ⟨_, _, _, _, _, rfl⟩) h2 flatE_len flatE_imm, slV_some h1]
/-- A list as a value: one that stays as it is, or a row's. -/
def LstE (E : Enc α) (H : Hp) (s : V) (l : List α) : Prop := (∃ b, s = slV b E l) ∨ ∃ id g, s = .slice id g 0 l.length E.w .full ∧ getRow H id g = some (flatE E l, true)
theorem LstE.of (E : Enc α) (H : Hp) (b : Bool) (l : List α) : LstE E H (slV b E l) l := .inl ⟨b, rfl⟩
theorem LstE.app {E : Enc α} {s : V} {l : List α} (h : LstE E H s l) (L : Hp) : LstE E (H ++ L) s l := by
  rcases h with ⟨b, rfl⟩ | ⟨id, g, rfl, hr⟩
  · exact .of E _ b l
  · exact .inr ⟨id, g, rfl, by rw [getRow_app (getRow_lt hr)]; exact hr⟩
theorem OwnE.lst {E : Enc α} {v : V} {l : List α} (h : OwnE E H v l) : LstE E H v l := by
  rcases h with ⟨rfl, rfl⟩ | ⟨id, g, rfl, h1, h2⟩
  · exact .inl ⟨true, (slV_nil E).symm⟩
  · exact .inr ⟨id, g, rfl, getRow_of h2⟩
theorem LstE.bl {E : Enc α} {A : Hp} {n g w : Nat} {l : List α} (hn : n = A.length) (hw : E.w = w) (hl : 0 < l.length) : LstE E (A ++ blH g (l.map E.f)) (blV n g w (l.map E.f)) l := by
  subst hw
  exact .inr ⟨n, g, blV_some hl, getRow_bl hn hl⟩
theorem ldR {id g off : Nat} {t : TypeId} : loadV P t H (.ptr id g off) = (getRow H id g).bind fun r => partV P t r.1 off := loadV_ptr t id g off
theorem lq_agg {E : Enc α} {l : List α} {t : TypeId} {w i : Nat} (hg : aggT P t = some true) (hz : szOf P t = some w) (hw : E.w = w) (hi : i < l.length) : partV P t (flatE E l) (i * w) = some (.agg (E.f (E.at l i))) := (loadV_ipt (H := []) t _ _).symm.trans (ld_agg hg hz hw hi)
theorem lq_cell {E : Enc α} {l : List α} {t : TypeId} {w i j : Nat} (hg : aggT P t = some false) (hw : E.w = w) (hi : i < l.length) (hj : j < w) : partV P t (flatE E l) (i * w + j) = (E.f (E.at l i))[j]? := (loadV_ipt (H := []) t _ _).symm.trans (ld_cell hg hw hi hj)
theorem lq_cell0 {E : Enc α} {l : List α} {t : TypeId} {w i : Nat} (hg : aggT P t = some false) (hw : E.w = w) (hi : i < l.length) : partV P t (flatE E l) (i * w) = (E.f (E.at l i))[0]? := (loadV_ipt (H := []) t _ _).symm.trans (ld_cell0 hg hw hi)
end
end Go.An
/-
  The abstract machine, part EF: elements taken out of a row in place; a written-out element laid behind. No statement of the seat stands here.
-/
namespace Go.An
open Go
set_option linter.unusedSectionVars false

section
variable [Orc]
variable {P : Program} {H : Hp} {α : Type}
theorem flatE_take {E : Enc α} : ∀ (l : List α) (k : Nat), (flatE E l).take (k * E.w) = flatE E (l.take k)
  | [], k => by simp [flatE]
  | x :: l, 0 => by simp [flatE]
  | x :: l, k + 1 => by
    have ih := flatE_take (E := E) l k
    show (E.f x ++ flatE E l).take _ = E.f x ++ flatE E (l.take k)
    rw [← ih, Nat.succ_mul, Nat.add_comm (k * E.w), List.take_append, E.len, List.take_of_length_le (by rw [E.len]; omega)]
    congr 2
    omega
theorem flatE_drop {E : Enc α} : ∀ (l : List α) (k : Nat), (flatE E l).drop (k * E.w) = flatE E (l.drop k)
  | [], k => by simp [flatE]
  | x :: l, 0 => by simp [flatE]
  | x :: l, k + 1 => by
    have ih := flatE_drop (E := E) l k
    show (E.f x ++ flatE E l).drop _ = flatE E (l.drop k)
    rw [← ih, Nat.succ_mul, Nat.add_comm (k * E.w), List.drop_append, E.len, List.drop_of_length_le (by rw [E.len]; omega)]
    simp
theorem flatE_put {E : Enc α} {X Y : List α} {k : Nat} : setAt (flatE E X) (k * E.w) (flatE E Y) = flatE E (X.take k ++ Y ++ X.drop (k + Y.length)) := by
  show List.take (k * E.w) (flatE E X) ++ flatE E Y ++ List.drop (k * E.w + (flatE E Y).length) (flatE E X) = _
  rw [flatE_len, ← Nat.add_mul, flatE_take, flatE_drop, flatE_app, flatE_app]
/-- append(s[:k], s[k+1:]...) of a row. -/
theorem app_cut {E : Enc α} {X : List α} {id g m k w by_ : Nat} {cp : Cap} (hr : getRow H id g = some (flatE E X, true)) (hw : E.w = w) (hm : m ≤ X.length) (hk : k < m) (hb : m * by_ ≤ 2 ^ 40) (hb2 : m ≤ 2 ^ 40) :
    appOf w by_ H (.slice id g 0 k w .full) (.slice id g ((k + 1) * w) (m - (k + 1)) w cp) = some (.slice id g 0 (m - 1) w .full, H.set id (.row g (flatE E ((X.take k ++ (X.take m).drop (k + 1)) ++ X.drop (m - 1))) true)) := by
  subst hw
  have hid := getRow_lt hr
  have hxl := flatE_len (E := E) (l := X)
  have hmm : m * E.w ≤ X.length * E.w := Nat.mul_le_mul_right _ hm
  have hsum : (k + 1) * E.w + (m - (k + 1)) * E.w = m * E.w := by rw [← Nat.add_mul]; congr 1; omega
  have hyl : ((X.take m).drop (k + 1)).length = m - (k + 1) := by simp; omega
  have hsrc : srcCells H (.slice id g ((k + 1) * E.w) (m - (k + 1)) E.w cp) = some (flatE E ((X.take m).drop (k + 1)), m - (k + 1)) := by
    rw [src_sl hr (by rw [hxl, hsum]; exact hmm)]
    congr 2
    rw [flatE_drop, flatE_take, List.drop_take]
  have hrow : H[id]? = some (.row g (flatE E X) true) := by
    unfold getRow at hr
    split at hr
    · rename_i g' cs o e
      split at hr
      · rename_i e2
        injection hr with hr
        injection hr with h1 h2
        subst h1 h2 e2
        exact e
      · cases hr
    · cases hr
  unfold appOf
  rw [hsrc]
  simp only [Option.bind_some]
  have hyf : (flatE E ((X.take m).drop (k + 1))).length = (m - (k + 1)) * E.w := by rw [flatE_len, hyl]
  rw [if_pos ⟨hyf, flatE_cells E _⟩, hr]
  simp only [Option.bind_some]
  have hkm : k * E.w ≤ X.length * E.w := Nat.mul_le_mul_right _ (by omega)
  have e1 : k + (m - (k + 1)) = m - 1 := by omega
  have hmb : (m - 1) * by_ ≤ m * by_ := Nat.mul_le_mul_right _ (by omega)
  have hput : setAt (flatE E X) (k * E.w) (flatE E ((X.take m).drop (k + 1))) = flatE E ((X.take k ++ (X.take m).drop (k + 1)) ++ X.drop (m - 1)) := by
    rw [flatE_put, hyl, e1]
  have hm1 : (m - 1) * E.w ≤ X.length * E.w := Nat.mul_le_mul_right _ (by omega)
  rw [e1, if_pos ⟨trivial, by omega, by omega, by omega⟩]
  by_cases h0 : m - (k + 1) = 0
  · rw [if_pos h0]
    have e2 : m - 1 = k := by omega
    have e3 : (X.take m).drop (k + 1) = [] := List.eq_nil_of_length_eq_zero (by omega)
    rw [e3, e2, List.append_nil, List.take_append_drop]
    congr 2
    apply List.ext_getElem?
    intro i
    rw [List.getElem?_set]
    split
    · rename_i e; subst e; exact hrow
    · rfl
  · rw [if_neg h0, if_pos trivial, if_pos (by omega), Nat.zero_add, hput]
theorem OwnE.pushR {E : Enc α} {v : V} {l : List α} {w by_ : Nat} (h : OwnE E H v l) (a : α) (hw : E.w = w) (hb : (l.length + 1) * by_ ≤ 2 ^ 40) (hb2 : l.length + 1 ≤ 2 ^ 40) :
    ∃ v' H', appOf w by_ (H ++ [.row 0 (E.f a) true]) v (.slice H.length 0 0 1 w .full) = some (v', H') ∧ OwnE E H' v' (l ++ [a]) ∧ (∀ id, id < H.length → ¬ At v id → H'[id]? = H[id]?) ∧ H.length ≤ H'.length ∧ (∀ id, At v' id → At v id ∨ H.length ≤ id) := by
  obtain ⟨v', H', h1, h2, h3, h4, h5⟩ := (h.app [.row 0 (E.f a) true]).push a hw hb hb2
  refine ⟨v', H', ?_, h2, fun id hid hna => ?_, by simp at h4; omega, fun id hat => ?_⟩
  · rw [← h1]
    subst hw
    have e1 : (E.f a).length = 1 * E.w := by rw [E.len]; omega
    have e2 : srcCells (H ++ [.row 0 (E.f a) true]) (.slice H.length 0 0 1 E.w .full) = some (E.f a, 1) := by
      rw [src_sl (getRow_lastN rfl) (by omega), List.drop_zero, List.take_of_length_le (by omega)]
    have e3 : srcCells (H ++ [.row 0 (E.f a) true]) (.isl (E.f a) 1 E.w) = some (E.f a, 1) := by simp only [srcCells, if_pos e1]
    unfold appOf
    rw [e2, e3]
  · rw [h3 id (by simp; omega) hna, List.getElem?_append_left hid]
  · rcases h5 id hat with h | h
    · exact .inl h
    · simp at h; exact .inr (by omega)
end
end Go.An
/-
  The abstract machine, part EG: bits of small numbers as sums and rests. No statement of the seat stands here.
-/
namespace Go.An
open Go
set_option linter.unusedSectionVars false

section
variable [Orc]
variable {P : Program}
theorem b_and (t : TypeId) (k : IntKind) (x y : Int) : binV P .and t (.int k x) (.int k y) = (bitsV .and k x y).map (.int k) := by simp [binV, intV]
theorem b_or (t : TypeId) (k : IntKind) (x y : Int) : binV P .or t (.int k x) (.int k y) = (bitsV .or k x y).map (.int k) := by simp [binV, intV]
theorem and127 (c : UInt8) : bitsV .and .u8 (c.toNat : Int) 127 = some ((c.toNat % 128 : Nat) : Int) := by
  have hc := c.toNat_lt
  have e1 : (BitVec.ofInt 8 (c.toNat : Int)) = BitVec.ofNat 8 c.toNat := by simp
  have e2 : (BitVec.ofInt 8 (127 : Int)) = BitVec.ofNat 8 127 := rfl
  show some (IntKind.u8.wrap ((BitVec.ofInt 8 (c.toNat : Int) &&& BitVec.ofInt 8 127).toNat : Int)) = _
  rw [e1, e2, BitVec.toNat_and, BitVec.toNat_ofNat, BitVec.toNat_ofNat, Nat.mod_eq_of_lt (by simpa using hc)]
  have e3 : c.toNat &&& 127 % 2 ^ 8 = c.toNat % 128 := by
    have := Nat.and_two_pow_sub_one_eq_mod c.toNat 7
    simpa using this
  rw [e3]
  have : c.toNat % 128 < 128 := Nat.mod_lt _ (by omega)
  congr 1
  exact IntWalk.u8_in _ (by omega)
theorem or_add {n x s : Nat} (hn : n < 2 ^ s) (hx : n + x * 2 ^ s < 2 ^ 63) : bitsV .or .i64 (n : Int) ((x * 2 ^ s : Nat) : Int) = some ((n + x * 2 ^ s : Nat) : Int) := by
  show some (IntKind.i64.wrap ((BitVec.ofInt 64 (n : Int) ||| BitVec.ofInt 64 ((x * 2 ^ s : Nat) : Int)).toNat : Int)) = _
  have e1 : ∀ m : Nat, BitVec.ofInt 64 (m : Int) = BitVec.ofNat 64 m := fun m => by simp
  rw [e1, e1, BitVec.toNat_or, BitVec.toNat_ofNat, BitVec.toNat_ofNat, Nat.mod_eq_of_lt (by omega), Nat.mod_eq_of_lt (by omega)]
  have e3 : n ||| x * 2 ^ s = n + x * 2 ^ s := by
    have := Nat.shiftLeft_add_eq_or_of_lt hn x
    rw [Nat.shiftLeft_eq] at this
    rw [Nat.or_comm, ← this, Nat.add_comm]
  rw [e3]
  congr 1
  exact IntWalk.i64_in _ (by omega)
end
end Go.An
/-
  The abstract machine, part EH: slices that grow and stay as they are behind their begin. No statement of the seat stands here.
-/
namespace Go.An
open Go
set_option linter.unusedSectionVars false

/-- A slice that grows. -/
def osV {α : Type} (id : Nat) (E : Enc α) (l : List α) : V := if l = [] then .osl id [] 0 0 else .osl id (flatE E l) l.length E.w
section
variable [Orc]
variable {P : Program} {H : Hp} {α : Type} {E : Enc α} {l : List α}
theorem osV_cases (id : Nat) (E : Enc α) (l : List α) : (l = [] ∧ osV id E l = .osl id [] 0 0) ∨ (l ≠ [] ∧ osV id E l = .osl id (flatE E l) l.length E.w) := by
  unfold osV
  by_cases h : l = []
  · exact .inl ⟨h, if_pos h⟩
  · exact .inr ⟨h, if_neg h⟩
theorem osV_nil (id : Nat) (E : Enc α) : osV id E [] = .osl id [] 0 0 := if_pos rfl
@[go_sem] theorem osV_dem1 (id : Nat) (E : Enc α) (l : List α) : (osV id E l).dem1 = slV true E l := by
  rcases osV_cases id E l with ⟨rfl, h⟩ | ⟨h0, h⟩ <;> rw [h]
  · simp [V.dem1, slV]
  · simp [V.dem1, slV, h0]
@[go_sem] theorem osV_dem (id : Nat) (E : Enc α) (l : List α) : (osV id E l).dem = slV true E l := by
  rw [← osV_dem1 id E l]
  rcases osV_cases id E l with ⟨rfl, h⟩ | ⟨h0, h⟩ <;> rw [h] <;> rfl
@[go_sem] theorem dem_osl0 (id sz : Nat) (cs : List V) : (V.osl id cs 0 sz).dem = .nilslice := rfl
@[go_sem] theorem dem1_osl0 (id sz : Nat) (cs : List V) : (V.osl id cs 0 sz).dem1 = .nilslice := rfl
@[go_sem] theorem osV_cell (id : Nat) (E : Enc α) (l : List α) : (osV id E l).isCell = true := by unfold osV; split <;> rfl
@[go_sem] theorem osV_cells (id : Nat) (E : Enc α) (l : List α) : (osV id E l).cells = [osV id E l] := by unfold osV; split <;> rfl
@[go_sem] theorem osV_nt (id : Nat) (E : Enc α) (l : List α) : (osV id E l).isTup = false := by unfold osV; split <;> rfl
@[go_sem] theorem osV_eqA (id : Nat) (E : Enc α) (l : List α) : eqA (osV id E l) (osV id E l) = true := by unfold osV; split <;> exact eqA_osl ..
@[go_sem] theorem osV_eqC (id : Nat) (E : Enc α) (l : List α) : eqC (osV id E l) (osV id E l) = true := by unfold osV; split <;> simp [eqC, eqBase, eqIL_refl]
@[go_sem] theorem slV_dem1 (b : Bool) (E : Enc α) (l : List α) : (slV b E l).dem1 = slV b E l := dem1_imm (slV_imm b E l)
@[go_sem] theorem slV_dem (b : Bool) (E : Enc α) (l : List α) : (slV b E l).dem = slV b E l := by
  rcases slV_cases b E l with ⟨h, _⟩ | h <;> rw [h] <;> rfl
@[go_sem] theorem blV_dem1 (n g w : Nat) (xs : List (List V)) : (blV n g w xs).dem1 = blV n g w xs := by unfold blV; split <;> rfl
@[go_sem] theorem blV_dem (n g w : Nat) (xs : List (List V)) : (blV n g w xs).dem = blV n g w xs := by unfold blV; split <;> rfl
@[go_sem] theorem Enc.dem1 (E : Enc α) (a : α) : (E.f a).map V.dem1 = E.f a := dem1_immL (E.imm a)
/-! Where a slice that grows is told of. -/
@[go_sem] theorem tk_0 (n : Nat) (L : Hp) : tokAt (.tok n :: L) 0 = some n := rfl
@[go_sem] theorem tk_S (b : AB) (L : Hp) (k : Nat) : tokAt (b :: L) (k + 1) = tokAt L k := rfl
theorem tk_app (A L : Hp) (k : Nat) : tokAt (A ++ L) (A.length + k) = tokAt L k := by
  unfold tokAt
  rw [List.getElem?_append_right (by omega), Nat.add_sub_cancel_left]
theorem tk_here (A L : Hp) : tokAt (A ++ L) A.length = tokAt L 0 := tk_app A L 0
@[go_sem] theorem gr_0 (g : Nat) (cs : List V) (o : Bool) (L : Hp) : getRow (.row g cs o :: L) 0 g = some (cs, o) := by simp [getRow]
@[go_sem] theorem gr_S (b : AB) (L : Hp) (k g : Nat) : getRow (b :: L) (k + 1) g = getRow L k g := rfl
theorem gr_app (A L : Hp) (k g : Nat) : getRow (A ++ L) (A.length + k) g = getRow L k g := by
  unfold getRow
  rw [List.getElem?_append_right (by omega), Nat.add_sub_cancel_left]
theorem gr_here (A L : Hp) (g : Nat) : getRow (A ++ L) A.length g = getRow L 0 g := gr_app A L 0 g
theorem st_app (A L : Hp) (k : Nat) (b : AB) : (A ++ L).set (A.length + k) b = A ++ L.set k b := by
  rw [List.set_append_right _ _ (by omega), Nat.add_sub_cancel_left]
theorem st_here (A L : Hp) (b : AB) : (A ++ L).set A.length b = A ++ L.set 0 b := st_app A L 0 b
/-! One more. -/
theorem os_push {id w by_ : Nat} {cs : List V} (a : α) (hc : cs = E.f a) (hw : E.w = w) (ht : tokAt H id = some (l.length * w)) (hb : (l.length + 1) * by_ ≤ 2 ^ 40) (hb2 : l.length + 1 ≤ 2 ^ 40) :
    appOf w by_ H (osV id E l) (.isl cs 1 w) = some (osV id E (l ++ [a]), H.set id (.tok ((l.length + 1) * w))) := by
  subst hc hw
  have h1 : (E.f a).length = 1 * E.w := by rw [E.len]; omega
  have h2 : (E.f a).all V.isCell = true := immL_cells (E.imm a)
  have h3 : l ++ [a] ≠ [] := by simp
  have e1 : osV id E (l ++ [a]) = .osl id (flatE E l ++ E.f a) (l.length + 1) E.w := by
    unfold osV
    rw [if_neg h3, flatE_app, List.length_append]
    simp [flatE]
  rw [e1]
  unfold appOf
  simp only [srcCells, if_pos h1, Option.bind_some]
  rw [if_pos ⟨h1, h2⟩]
  rcases osV_cases id E l with ⟨rfl, h⟩ | ⟨h0, h⟩ <;> rw [h] <;> simp only
  · rw [if_neg (by omega), if_pos ⟨.inl trivial, by simpa using ht, E.imm a, by simpa using hb, by omega⟩]
    simp [flatE, E.len]
  · rw [if_neg (by omega), if_pos ⟨.inr trivial, by rw [flatE_len]; exact ht, E.imm a, hb, hb2⟩]
    simp only [flatE_len, E.len, Nat.add_mul, Nat.one_mul]
/-- All of another one. -/
theorem os_all {id w by_ : Nat} {m : List α} (b : Bool) (hw : E.w = w) (ht : tokAt H id = some (l.length * w)) (hb : (l.length + m.length) * by_ ≤ 2 ^ 40) (hb2 : l.length + m.length ≤ 2 ^ 40) :
    appOf w by_ H (osV id E l) (slV b E m) = some (osV id E (l ++ m), H.set id (.tok ((l.length + m.length) * w))) := by
  subst hw
  unfold appOf
  rw [src_slV]
  simp only [Option.bind_some]
  have h2 : (flatE E m).all V.isCell = true := immL_cells flatE_imm
  rw [if_pos ⟨flatE_len, h2⟩]
  by_cases hm : m = []
  · subst hm
    simp only [List.append_nil, List.length_nil, Nat.add_zero, if_true]
    have e : H.set id (.tok (l.length * E.w)) = H := by
      unfold tokAt at ht
      split at ht
      · rename_i n hn
        injection ht with ht
        subst ht
        obtain ⟨h1, h2⟩ := List.getElem?_eq_some_iff.1 hn
        rw [← h2, List.set_getElem_self]
      · cases ht
    rw [e]
    rcases osV_cases id E l with ⟨rfl, h⟩ | ⟨h0, h⟩ <;> rw [h]
  · have hm0 : 0 < m.length := List.length_pos_iff.2 hm
    have e1 : osV id E (l ++ m) = .osl id (flatE E l ++ flatE E m) (l.length + m.length) E.w := by
      unfold osV
      rw [if_neg (by simp [hm]), flatE_app, List.length_append]
    rw [e1]
    rcases osV_cases id E l with ⟨rfl, h⟩ | ⟨h0, h⟩ <;> rw [h] <;> simp only
    · rw [if_neg (by omega), if_pos ⟨.inl trivial, by simpa using ht, flatE_imm, by simpa using hb, by simpa using hb2⟩]
      rw [flatE_len]
      simp [flatE]
    · rw [if_neg (by omega), if_pos ⟨.inr trivial, by rw [flatE_len]; exact ht, flatE_imm, hb, hb2⟩]
      simp only [flatE_len, Nat.add_mul]
@[go_sem] theorem os_ag {id w by_ : Nat} (a : α) (hw : E.w = w) (ht : tokAt H id = some (l.length * w)) (hb : (l.length + 1) * by_ ≤ 2 ^ 40) (hb2 : l.length + 1 ≤ 2 ^ 40) :
    appOf w by_ H (osV id E l) (.isl (E.f a) 1 w) = some (osV id E (l ++ [a]), H.set id (.tok ((l.length + 1) * w))) := os_push a rfl hw ht hb hb2
@[go_sem] theorem os_by {id : Nat} {l : List UInt8} (c : UInt8) (ht : tokAt H id = some l.length) (hb : l.length + 1 ≤ 2 ^ 40) : appOf 1 1 H (osV id byE l) (.isl [.int .u8 c.toNat] 1 1) = some (osV id byE (l ++ [c]), H.set id (.tok (l.length + 1))) := by
  have := os_push (E := byE) (w := 1) (by_ := 1) c rfl rfl (by rw [ht, Nat.mul_one]) (by omega) hb
  rwa [Nat.mul_one] at this
@[go_sem] theorem os_in {id : Nat} {l : List Int} (c : Int) (ht : tokAt H id = some l.length) (hb : l.length + 1 ≤ 2 ^ 36) : appOf 1 8 H (osV id inE l) (.isl [.int .i64 c] 1 1) = some (osV id inE (l ++ [c]), H.set id (.tok (l.length + 1))) := by
  have := os_push (E := inE) (w := 1) (by_ := 8) c rfl rfl (by rw [ht, Nat.mul_one]) (by omega) (by omega)
  rwa [Nat.mul_one] at this
@[go_sem] theorem os_st {id : Nat} {l : List (List UInt8)} (c : List UInt8) (ht : tokAt H id = some l.length) (hb : l.length + 1 ≤ 2 ^ 36) : appOf 1 16 H (osV id stE l) (.isl [.str c] 1 1) = some (osV id stE (l ++ [c]), H.set id (.tok (l.length + 1))) := by
  have := os_push (E := stE) (w := 1) (by_ := 16) c rfl rfl (by rw [ht, Nat.mul_one]) (by omega) (by omega)
  rwa [Nat.mul_one] at this
@[go_sem] theorem os_allb {id : Nat} {l m : List UInt8} (b : Bool) (ht : tokAt H id = some l.length) (hb : l.length + m.length ≤ 2 ^ 40) : appOf 1 1 H (osV id byE l) (slV b byE m) = some (osV id byE (l ++ m), H.set id (.tok (l.length + m.length))) := by
  have := os_all (E := byE) (w := 1) (by_ := 1) (l := l) (m := m) b rfl (by rw [ht, Nat.mul_one]) (by omega) hb
  rwa [Nat.mul_one] at this
/-! What a call leaves of it. -/
variable {n f : Nat} {H' : Hp}
@[go_sem] theorem inlB_osV {id : Nat} (hn : n ≤ id) : inlB n H' (f + 1) (osV id E l) = some (slV true E l) := by
  rw [← osV_dem1 id E l]
  have e : ¬ id < n := by omega
  rcases osV_cases id E l with ⟨rfl, h⟩ | ⟨h0, h⟩ <;> rw [h] <;> simp [inlB, e]
@[go_sem] theorem inlA_osV (id : Nat) : inlA n H' f (osV id E l) = inlB n H' f (osV id E l) := by unfold osV; split <;> rfl
@[go_sem] theorem inlR_osV (id : Nat) : inlR n H' f (osV id E l) = inlB n H' f (osV id E l) := by unfold osV; split <;> rfl
@[go_sem] theorem inlC_osV (id : Nat) : inlC n H' f (osV id E l) = inlB n H' f (osV id E l) := by unfold osV; split <;> rfl
theorem inlB_osO {id : Nat} (hn : id < n) : inlB n H' (f + 1) (osV id E l) = some (osV id E l) := by
  rcases osV_cases id E l with ⟨rfl, h⟩ | ⟨h0, h⟩ <;> rw [h] <;> simp [inlB, hn]
@[go_sem] theorem inlK_tok (k : Nat) : inlK n H' f (.tok k) = some (.tok k) := rfl
end
def isStT (P : Program) (t : TypeId) : Bool := match P.underlying t with
  | some (.struct _) => true
  | _ => false
theorem arg_agg [Orc] {P : Program} {m : Nat} {t : TypeId} {x : V} (hu : isStT P t = true) (h : ArgT P m t x) : ∃ xs, x = .agg xs ∧ RdT P m t xs := by
  unfold isStT at hu
  split at hu
  · rename_i hs; exact arg_struct hs h
  · cases hu
/-- A slice of a row of its own among those behind so many. -/
def RowM {α : Type} (E : Enc α) (n : Nat) (L : Hp) (v : V) (l : List α) : Prop := (v = .nilslice ∧ l = []) ∨ ∃ j g, v = .slice (n + j) g 0 l.length E.w .full ∧ j < L.length ∧ getRow L j g = some (flatE E l, true)
theorem RowM.app {α : Type} {E : Enc α} {n : Nat} {L : Hp} {v : V} {l : List α} (h : RowM E n L v l) (G : Hp) : RowM E n (L ++ G) v l := by
  rcases h with h | ⟨j, g, h1, h2, h3⟩
  · exact .inl h
  · exact .inr ⟨j, g, h1, by rw [List.length_append]; omega, by
      unfold getRow at h3 ⊢
      rw [List.getElem?_append_left h2]; exact h3⟩
theorem RowM.pre {α : Type} {E : Enc α} {n : Nat} {L : Hp} {v : V} {l : List α} (A : Hp) (h : RowM E (n + A.length) L v l) : RowM E n (A ++ L) v l := by
  rcases h with h | ⟨j, g, h1, h2, h3⟩
  · exact .inl h
  · exact .inr ⟨A.length + j, g, by rw [h1]; congr 1; omega, by rw [List.length_append]; omega, by
      unfold getRow at h3 ⊢
      rw [List.getElem?_append_right (by omega), Nat.add_sub_cancel_left]; exact h3⟩
theorem RowM.len [Orc] {P : Program} {α : Type} {E : Enc α} {n : Nat} {L : Hp} {v : V} {l : List α} (h : RowM E n L v l) {t : TypeId} {z : Nat} (ht : sliceT P t z = true) (H' : Hp) : lenV P t H' v = some (.int .i64 l.length) := by
  rcases h with ⟨rfl, rfl⟩ | ⟨j, g, rfl, _, _⟩
  · exact len_nilslice ht
  · exact len_slice ht ..
theorem RowM.cell [Orc] {α : Type} {E : Enc α} {n : Nat} {L : Hp} {v : V} {l : List α} (h : RowM E n L v l) : v.isCell = true ∧ v.cells = [v] ∧ v.isTup = false ∧ eqA v v = true ∧ eqC v v = true ∧ v.dem1 = v ∧ v.dem = v := by
  rcases h with ⟨rfl, _⟩ | ⟨j, g, rfl, _, _⟩
  · exact ⟨rfl, rfl, rfl, rfl, rfl, rfl, rfl⟩
  · exact ⟨rfl, rfl, rfl, eqA_slice .., by simp [eqC, eqBase], rfl, rfl⟩
theorem RowM.inl [Orc] {α : Type} {E : Enc α} {n m f : Nat} {L A : Hp} {v : V} {l : List α} (h : RowM E n L v l) (hn : n = A.length) (hm : m ≤ n) : ∃ b, inlC m (A ++ L) (f + 2) v = some (slV b E l) := by
  subst hn
  rcases h with ⟨rfl, rfl⟩ | ⟨j, g, rfl, h2, h3⟩
  · exact ⟨true, by rw [slV_nil]; rfl⟩
  · have hb : (A ++ L)[A.length + j]? = some (.row g (flatE E l) true) := by
      unfold getRow at h3
      split at h3
      · split at h3
        · rename_i g' cs own hh e
          injection h3 with h3
          injection h3 with h4 h5
          subst e h4 h5
          rw [List.getElem?_append_right (by omega), Nat.add_sub_cancel_left]; exact hh
        · cases h3
      · cases h3
    refine ⟨false, ?_⟩
    rw [inlC_slice, inlB_row (by omega) hb flatE_len flatE_imm]
    simp [slV]
theorem RowM.get {α : Type} {E : Enc α} {L : Hp} {j g : Nat} {l : List α} (h : getRow L j g = some (flatE E l, true)) : L[j]? = some (.row g (flatE E l) true) ∧ L.set j (.row g (flatE E l) true) = L := by
  unfold getRow at h
  split at h
  · split at h
    · rename_i g' cs own hh e
      injection h with h
      injection h with h4 h5
      subst e h4 h5
      obtain ⟨h6, h7⟩ := List.getElem?_eq_some_iff.1 hh
      exact ⟨hh, by rw [← h7, List.set_getElem_self]⟩
    · cases h
  · cases h
/-- The same laid over a part. -/
theorem flatE_same [Orc] {α : Type} {E : Enc α} {l : List α} {i j : Nat} {v : V} (hi : i < l.length) (hj : j < E.w) (hv : (E.f (E.at l i))[j]? = some v) : setAt (flatE E l) (i * E.w + j) [v] = flatE E l := by
  obtain ⟨_, h2, h3⟩ := flatE_at (E := E) hi
  have h4 := (h3 j hj).trans hv
  obtain ⟨h5, h6⟩ := List.getElem?_eq_some_iff.1 h4
  unfold setAt
  rw [← h6]
  simp
/-! Lists, looked at one by one. -/
theorem any_take {α : Type} (E : Enc α) {l : List α} {i : Nat} (h : i < l.length) (q : α → Bool) (w : Bool) : (w || (l.take (i + 1)).any q) = ((w || (l.take i).any q) || q (E.at l i)) := by
  rw [E.take_at h, List.any_append, Bool.or_assoc]; simp
theorem any_mem {α : Type} (E : Enc α) {l : List α} {i : Nat} (h : i < l.length) {q : α → Bool} (hq : q (E.at l i) = true) : l.any q = true := List.any_eq_true.2 ⟨_, E.at_mem h, hq⟩
theorem any_none {α : Type} (E : Enc α) {l : List α} {i : Nat} (h : i < l.length) {q : α → Bool} (h0 : (l.take i).any q = false) (hq : q (E.at l i) = false) : (l.take (i + 1)).any q = false := by
  rw [E.take_at h, List.any_append, h0]; simp [hq]
def sameL {α : Type} (S : α → α → Bool) : List α → List α → Bool
  | [], [] => true
  | x :: xs, y :: ys => S x y && sameL S xs ys
  | _, _ => false
theorem sameL_len {α : Type} {S : α → α → Bool} : ∀ {l l' : List α}, l.length ≠ l'.length → sameL S l l' = false
  | [], [], h => absurd rfl h
  | x :: xs, y :: ys, h => by rw [sameL, sameL_len (by simpa using h), Bool.and_false]
  | [], _ :: _, _ => rfl
  | _ :: _, [], _ => rfl
theorem sameL_drop {α : Type} (E : Enc α) {S : α → α → Bool} {l l' : List α} {i : Nat} (h : i < l.length) (h' : i < l'.length) : sameL S (l.drop i) (l'.drop i) = (S (E.at l i) (E.at l' i) && sameL S (l.drop (i + 1)) (l'.drop (i + 1))) := by
  rw [E.drop_at h, E.drop_at h']; rfl
theorem sameL_eq {α : Type} [DecidableEq α] : ∀ {l l' : List α}, sameL (fun x y => decide (x = y)) l l' = decide (l = l')
  | [], [] => by simp [sameL]
  | x :: xs, y :: ys => by simp [sameL, sameL_eq (l := xs) (l' := ys), Bool.decide_and]
  | [], _ :: _ => by simp [sameL]
  | _ :: _, [] => by simp [sameL]
/-! Lists of lists. -/
def lsE {α : Type} (E : Enc α) : Enc (List α) := ⟨fun l => [slV true E l], 1, [], fun _ => rfl, by omega, fun l => by
  haveI : Orc := ⟨fun _ _ _ => false, fun _ _ => false, fun _ => false⟩
  simp only [immL, slV_imm]; rfl⟩
@[go_sem] theorem lsE_f {α : Type} (E : Enc α) (l : List α) : (lsE E).f l = [slV true E l] := rfl
theorem lsE_w {α : Type} (E : Enc α) : (lsE E).w = 1 := rfl
@[go_sem] theorem os_ls [Orc] {H : Hp} {α : Type} {F : Enc α} {id : Nat} {l : List (List α)} (m : List α) (ht : tokAt H id = some l.length) (hb : l.length + 1 ≤ 2 ^ 35) : appOf 1 24 H (osV id (lsE F) l) (.isl [slV true F m] 1 1) = some (osV id (lsE F) (l ++ [m]), H.set id (.tok (l.length + 1))) := by
  have := os_push (E := lsE F) (w := 1) (by_ := 24) m rfl rfl (by rw [ht, Nat.mul_one]) (by omega) (by omega)
  rwa [Nat.mul_one] at this
/-! Short forms of operations. -/
def co (d : Nat) (o : Op) : Co := ⟨some d, o, false, none, false, false, []⟩
def coi (d : Nat) (o : Op) : Co := ⟨some d, o, true, none, false, false, []⟩
def coz (o : Op) : Co := ⟨none, o, false, none, false, false, []⟩
def cog (d : Nat) (o : Op) (j : Nat) (w : Bool) : Co := ⟨some d, o, false, some (j, w), false, false, []⟩
def tm (t : Nat) : Operand := .tmp t
section
variable [Orc]
variable {P : Program} {cl : CallT} {N n0 : Nat} {T : Fr} {D : Dfr} {H : Hp} {Q : Fr → Dfr → Hp → Prop} {rest : List Co}
@[go_sem] theorem W_co (d : Nat) (o : Op) : W P cl N n0 (co d o :: rest) T D H Q = (d < N ∧ stepQ P cl N n0 (stepW P cl o false T D H) (some d) false [] rest T H Q) := by
  rw [co, W_c]; simp [selfP]
@[go_sem] theorem W_coi (d : Nat) (o : Op) : W P cl N n0 (coi d o :: rest) T D H Q = (d < N ∧ stepQ P cl N n0 (stepW P cl o true T D H) (some d) false [] rest T H Q) := by
  rw [coi, W_c]; simp [selfP]
@[go_sem] theorem W_coz (o : Op) : W P cl N n0 (coz o :: rest) T D H Q = stepQ P cl N n0 (stepW P cl o false T D H) none false [] rest T H Q := by
  rw [coz, W_c0]; simp [selfP]
@[go_sem] theorem W_cog (d : Nat) (o : Op) (j : Nat) (w : Bool) : W P cl N n0 (cog d o j w :: rest) T D H Q = (d < N ∧ guardQ P cl N n0 (get T j) w True (stepW P cl o false T D H) (some d) false [] rest T D H Q) := by
  rw [cog, W_g]; simp [selfP]
@[go_sem] theorem ev_tm (t : Nat) : ev T (tm t) = get T t := rfl
end
attribute [go_sem] Nat.add_zero Nat.zero_add Nat.sub_zero List.drop_zero IntWalk.i64_in Bool.or_self Bool.or_false Bool.or_true Bool.and_false Bool.and_true Bool.false_or Bool.true_or Bool.false_eq_true Bool.true_eq_false
end Go.An
/-
  What this seat's program gives to the abstract machine: its types, its functions' code in short form (printed by a tool). No statement of the seat stands here.
-/
namespace Go.Proofs.Ytejkgnmjdaohdaa
open Go Go.An

abbrev ExP (k n : Nat) (c : Cc) (rs : List ResultVar) : Prop := ∀ {args : List V} {H : Hp} {R : V × Hp → Prop}, args.length ≤ n → Wp Try.prog (callL Try.prog pr) n c args [] H (RetQ Try.prog rs fun v H' => R (pr.gc k H (v, H'))) → ∃ r, callL Try.prog pr k args H = some r ∧ R r
abbrev RunP (k n : Nat) (c : Cc) (rs : List ResultVar) : Prop := ∀ {args : List V} {H : Hp} {r : V × Hp}, args.length ≤ n → Wp Try.prog (callL Try.prog pr) n c args [] H (RetQ Try.prog rs fun v H' => pr.gc k H (v, H') = r) → callL Try.prog pr k args H = some r
theorem run_of {k n : Nat} {c : Cc} {rs : List ResultVar} (h : ExP k n c rs) : RunP k n c rs := @fun _ _ r ha hw => by
  obtain ⟨_, h1, rfl⟩ := h (R := fun x => x = r) ha hw
  exact h1
abbrev ExPD (k n : Nat) (c : Cc) (rs : List ResultVar) : Prop := ∀ {args : List V} {H : Hp} {R : V × Hp → Prop}, args.length ≤ n → Wp Try.prog (callL Try.prog pr) n c args [] H (RetD Try.prog pr rs fun v H' => R (pr.gc k H (v, H'))) → ∃ r, callL Try.prog pr k args H = some r ∧ R r
abbrev RunPD (k n : Nat) (c : Cc) (rs : List ResultVar) : Prop := ∀ {args : List V} {H : Hp} {r : V × Hp}, args.length ≤ n → Wp Try.prog (callL Try.prog pr) n c args [] H (RetD Try.prog pr rs fun v H' => pr.gc k H (v, H') = r) → callL Try.prog pr k args H = some r
theorem run_ofD {k n : Nat} {c : Cc} {rs : List ResultVar} (h : ExPD k n c rs) : RunPD k n c rs := @fun _ _ r ha hw => by
  obtain ⟨_, h1, rfl⟩ := h (R := fun x => x = r) ha hw
  exact h1
theorem gcOne {k : Nat} (h : modeOf k = 1) (H : Hp) (r : V × Hp) : pr.gc k H r = gcF H r := (show pr.gc k H r = gcM modeOf k H r from rfl).trans (gcM_one h H r)
theorem gcZero {k : Nat} (h : modeOf k = 0) (H : Hp) (r : V × Hp) : pr.gc k H r = r := (show pr.gc k H r = gcM modeOf k H r from rfl).trans (gcM_zero h H r)
theorem gcTwo {k : Nat} (h : modeOf k = 2) (H : Hp) (r : V × Hp) : pr.gc k H r = gcC H r := (show pr.gc k H r = gcM modeOf k H r from rfl).trans (gcM_two h H r)
@[go_sem] theorem u3 : Try.prog.underlying 3 = some (.int .i64) := by kernel_rfl
@[go_sem] theorem z3 : szOf Try.prog 3 = some 1 := by kernel_rfl
@[go_sem] theorem y3 : bytesOf' Try.prog 3 = some 8 := by kernel_rfl
@[go_sem] theorem g3 : aggT Try.prog 3 = some false := by kernel_rfl
@[go_sem] theorem o3 : zeroV Try.prog 3 = some (.int .i64 0) := by kernel_rfl
@[go_sem] theorem u4 : Try.prog.underlying 4 = some (.bool) := by kernel_rfl
@[go_sem] theorem z4 : szOf Try.prog 4 = some 1 := by kernel_rfl
@[go_sem] theorem y4 : bytesOf' Try.prog 4 = some 1 := by kernel_rfl
@[go_sem] theorem g4 : aggT Try.prog 4 = some false := by kernel_rfl
@[go_sem] theorem o4 : zeroV Try.prog 4 = some (.bool false) := by kernel_rfl
@[go_sem] theorem u5 : Try.prog.underlying 5 = some (.int .u8) := by kernel_rfl
@[go_sem] theorem z5 : szOf Try.prog 5 = some 1 := by kernel_rfl
@[go_sem] theorem y5 : bytesOf' Try.prog 5 = some 1 := by kernel_rfl
@[go_sem] theorem g5 : aggT Try.prog 5 = some false := by kernel_rfl
@[go_sem] theorem o5 : zeroV Try.prog 5 = some (.int .u8 0) := by kernel_rfl
@[go_sem] theorem u9 : Try.prog.underlying 9 = some (.string) := by kernel_rfl
@[go_sem] theorem z9 : szOf Try.prog 9 = some 1 := by kernel_rfl
@[go_sem] theorem y9 : bytesOf' Try.prog 9 = some 16 := by kernel_rfl
@[go_sem] theorem g9 : aggT Try.prog 9 = some false := by kernel_rfl
@[go_sem] theorem o9 : zeroV Try.prog 9 = some (.str []) := by kernel_rfl
@[go_sem] theorem u22 : Try.prog.underlying 22 = some (.slice 31) := by kernel_rfl
@[go_sem] theorem z22 : szOf Try.prog 22 = some 1 := by kernel_rfl
@[go_sem] theorem y22 : bytesOf' Try.prog 22 = some 24 := by kernel_rfl
@[go_sem] theorem g22 : aggT Try.prog 22 = some false := by kernel_rfl
@[go_sem] theorem o22 : zeroV Try.prog 22 = some .nilslice := by kernel_rfl
theorem s22 : sliceT Try.prog 22 5 = true := by kernel_rfl
@[go_sem] theorem i22 {id g off n : Nat} {cp : Cap} {k : IntKind} {j : Int} (hj : 0 ≤ j ∧ j < n) : indexAddrV Try.prog 22 (.slice id g off n 5 cp) (.int k j) = some (.ptr id g (off + j.toNat * 5)) := ia_slice (by kernel_rfl) hj
@[go_sem] theorem n22 {H : Hp} (id g off n : Nat) (cp : Cap) : lenV Try.prog 22 H (.slice id g off n 5 cp) = some (.int .i64 n) := len_slice (sz := 5) (by kernel_rfl) id g off n 5 cp
@[go_sem] theorem is22 {α : Type} {E : Enc α} {l : List α} {b : Bool} {k : IntKind} {j : Int} (hw : E.w = 5) (hj : 0 ≤ j ∧ j < (l.length : Int)) : indexAddrV Try.prog 22 (slV b E l) (.int k j) = some (.ipt (flatE E l) (j.toNat * 5)) := idx_slV s22 hw hj
@[go_sem] theorem ns22 {α : Type} {H : Hp} (b : Bool) (E : Enc α) (l : List α) : lenV Try.prog 22 H (slV b E l) = some (.int .i64 l.length) := len_slV s22 b E l
@[go_sem] theorem nb22 {H : Hp} (n g w : Nat) (xs : List (List V)) : lenV Try.prog 22 H (blV n g w xs) = some (.int .i64 xs.length) := len_blV s22 n g w xs
@[go_sem] theorem lo22 {H : Hp} (x : V) (hi : Option V) : sliceV Try.prog 22 H x none hi = sliceV Try.prog 22 H x (some (.int .i64 0)) hi := lo_slV ⟨_, u22⟩
@[go_sem] theorem hi22 {α : Type} {E : Enc α} {l : List α} {b : Bool} {H : Hp} (lo : Option V) : sliceV Try.prog 22 H (slV b E l) lo none = sliceV Try.prog 22 H (slV b E l) lo (some (.int .i64 l.length)) := hi_slV s22
@[go_sem] theorem ct22 {α : Type} {E : Enc α} {l : List α} {b : Bool} {H : Hp} {k k' : IntKind} {lo hi : Int} (hw : E.w = 5) (h : 0 ≤ lo ∧ lo ≤ hi ∧ hi ≤ (l.length : Int)) : sliceV Try.prog 22 H (slV b E l) (some (.int k lo)) (some (.int k' hi)) = some (slV (b && decide (l.length = 0)) E ((l.drop lo.toNat).take (hi.toNat - lo.toNat))) := cut_slV s22 hw h
@[go_sem] theorem m22 {H : Hp} : lenV Try.prog 22 H .nilslice = some (.int .i64 0) := len_nilslice (sz := 5) (by kernel_rfl)
@[go_sem] theorem u23 : Try.prog.underlying 23 = some (.slice 3) := by kernel_rfl
@[go_sem] theorem z23 : szOf Try.prog 23 = some 1 := by kernel_rfl
@[go_sem] theorem y23 : bytesOf' Try.prog 23 = some 24 := by kernel_rfl
@[go_sem] theorem g23 : aggT Try.prog 23 = some false := by kernel_rfl
@[go_sem] theorem o23 : zeroV Try.prog 23 = some .nilslice := by kernel_rfl
theorem s23 : sliceT Try.prog 23 1 = true := by kernel_rfl
@[go_sem] theorem i23 {id g off n : Nat} {cp : Cap} {k : IntKind} {j : Int} (hj : 0 ≤ j ∧ j < n) : indexAddrV Try.prog 23 (.slice id g off n 1 cp) (.int k j) = some (.ptr id g (off + j.toNat * 1)) := ia_slice (by kernel_rfl) hj
@[go_sem] theorem n23 {H : Hp} (id g off n : Nat) (cp : Cap) : lenV Try.prog 23 H (.slice id g off n 1 cp) = some (.int .i64 n) := len_slice (sz := 1) (by kernel_rfl) id g off n 1 cp
@[go_sem] theorem is23 {α : Type} {E : Enc α} {l : List α} {b : Bool} {k : IntKind} {j : Int} (hw : E.w = 1) (hj : 0 ≤ j ∧ j < (l.length : Int)) : indexAddrV Try.prog 23 (slV b E l) (.int k j) = some (.ipt (flatE E l) (j.toNat * 1)) := idx_slV s23 hw hj
@[go_sem] theorem ns23 {α : Type} {H : Hp} (b : Bool) (E : Enc α) (l : List α) : lenV Try.prog 23 H (slV b E l) = some (.int .i64 l.length) := len_slV s23 b E l
@[go_sem] theorem nb23 {H : Hp} (n g w : Nat) (xs : List (List V)) : lenV Try.prog 23 H (blV n g w xs) = some (.int .i64 xs.length) := len_blV s23 n g w xs
@[go_sem] theorem lo23 {H : Hp} (x : V) (hi : Option V) : sliceV Try.prog 23 H x none hi = sliceV Try.prog 23 H x (some (.int .i64 0)) hi := lo_slV ⟨_, u23⟩
@[go_sem] theorem hi23 {α : Type} {E : Enc α} {l : List α} {b : Bool} {H : Hp} (lo : Option V) : sliceV Try.prog 23 H (slV b E l) lo none = sliceV Try.prog 23 H (slV b E l) lo (some (.int .i64 l.length)) := hi_slV s23
@[go_sem] theorem ct23 {α : Type} {E : Enc α} {l : List α} {b : Bool} {H : Hp} {k k' : IntKind} {lo hi : Int} (hw : E.w = 1) (h : 0 ≤ lo ∧ lo ≤ hi ∧ hi ≤ (l.length : Int)) : sliceV Try.prog 23 H (slV b E l) (some (.int k lo)) (some (.int k' hi)) = some (slV (b && decide (l.length = 0)) E ((l.drop lo.toNat).take (hi.toNat - lo.toNat))) := cut_slV s23 hw h
@[go_sem] theorem m23 {H : Hp} : lenV Try.prog 23 H .nilslice = some (.int .i64 0) := len_nilslice (sz := 1) (by kernel_rfl)
@[go_sem] theorem u26 : Try.prog.underlying 26 = some (.slice 82) := by kernel_rfl
@[go_sem] theorem z26 : szOf Try.prog 26 = some 1 := by kernel_rfl
@[go_sem] theorem y26 : bytesOf' Try.prog 26 = some 24 := by kernel_rfl
@[go_sem] theorem g26 : aggT Try.prog 26 = some false := by kernel_rfl
@[go_sem] theorem o26 : zeroV Try.prog 26 = some .nilslice := by kernel_rfl
theorem s26 : sliceT Try.prog 26 3 = true := by kernel_rfl
@[go_sem] theorem i26 {id g off n : Nat} {cp : Cap} {k : IntKind} {j : Int} (hj : 0 ≤ j ∧ j < n) : indexAddrV Try.prog 26 (.slice id g off n 3 cp) (.int k j) = some (.ptr id g (off + j.toNat * 3)) := ia_slice (by kernel_rfl) hj
@[go_sem] theorem n26 {H : Hp} (id g off n : Nat) (cp : Cap) : lenV Try.prog 26 H (.slice id g off n 3 cp) = some (.int .i64 n) := len_slice (sz := 3) (by kernel_rfl) id g off n 3 cp
@[go_sem] theorem is26 {α : Type} {E : Enc α} {l : List α} {b : Bool} {k : IntKind} {j : Int} (hw : E.w = 3) (hj : 0 ≤ j ∧ j < (l.length : Int)) : indexAddrV Try.prog 26 (slV b E l) (.int k j) = some (.ipt (flatE E l) (j.toNat * 3)) := idx_slV s26 hw hj
@[go_sem] theorem ns26 {α : Type} {H : Hp} (b : Bool) (E : Enc α) (l : List α) : lenV Try.prog 26 H (slV b E l) = some (.int .i64 l.length) := len_slV s26 b E l
@[go_sem] theorem nb26 {H : Hp} (n g w : Nat) (xs : List (List V)) : lenV Try.prog 26 H (blV n g w xs) = some (.int .i64 xs.length) := len_blV s26 n g w xs
@[go_sem] theorem lo26 {H : Hp} (x : V) (hi : Option V) : sliceV Try.prog 26 H x none hi = sliceV Try.prog 26 H x (some (.int .i64 0)) hi := lo_slV ⟨_, u26⟩
@[go_sem] theorem hi26 {α : Type} {E : Enc α} {l : List α} {b : Bool} {H : Hp} (lo : Option V) : sliceV Try.prog 26 H (slV b E l) lo none = sliceV Try.prog 26 H (slV b E l) lo (some (.int .i64 l.length)) := hi_slV s26
@[go_sem] theorem ct26 {α : Type} {E : Enc α} {l : List α} {b : Bool} {H : Hp} {k k' : IntKind} {lo hi : Int} (hw : E.w = 3) (h : 0 ≤ lo ∧ lo ≤ hi ∧ hi ≤ (l.length : Int)) : sliceV Try.prog 26 H (slV b E l) (some (.int k lo)) (some (.int k' hi)) = some (slV (b && decide (l.length = 0)) E ((l.drop lo.toNat).take (hi.toNat - lo.toNat))) := cut_slV s26 hw h
@[go_sem] theorem m26 {H : Hp} : lenV Try.prog 26 H .nilslice = some (.int .i64 0) := len_nilslice (sz := 3) (by kernel_rfl)
@[go_sem] theorem u27 : Try.prog.underlying 27 = some (.slice 97) := by kernel_rfl
@[go_sem] theorem z27 : szOf Try.prog 27 = some 1 := by kernel_rfl
@[go_sem] theorem y27 : bytesOf' Try.prog 27 = some 24 := by kernel_rfl
@[go_sem] theorem g27 : aggT Try.prog 27 = some false := by kernel_rfl
@[go_sem] theorem o27 : zeroV Try.prog 27 = some .nilslice := by kernel_rfl
theorem s27 : sliceT Try.prog 27 2 = true := by kernel_rfl
@[go_sem] theorem i27 {id g off n : Nat} {cp : Cap} {k : IntKind} {j : Int} (hj : 0 ≤ j ∧ j < n) : indexAddrV Try.prog 27 (.slice id g off n 2 cp) (.int k j) = some (.ptr id g (off + j.toNat * 2)) := ia_slice (by kernel_rfl) hj
@[go_sem] theorem n27 {H : Hp} (id g off n : Nat) (cp : Cap) : lenV Try.prog 27 H (.slice id g off n 2 cp) = some (.int .i64 n) := len_slice (sz := 2) (by kernel_rfl) id g off n 2 cp
@[go_sem] theorem is27 {α : Type} {E : Enc α} {l : List α} {b : Bool} {k : IntKind} {j : Int} (hw : E.w = 2) (hj : 0 ≤ j ∧ j < (l.length : Int)) : indexAddrV Try.prog 27 (slV b E l) (.int k j) = some (.ipt (flatE E l) (j.toNat * 2)) := idx_slV s27 hw hj
@[go_sem] theorem ns27 {α : Type} {H : Hp} (b : Bool) (E : Enc α) (l : List α) : lenV Try.prog 27 H (slV b E l) = some (.int .i64 l.length) := len_slV s27 b E l
@[go_sem] theorem nb27 {H : Hp} (n g w : Nat) (xs : List (List V)) : lenV Try.prog 27 H (blV n g w xs) = some (.int .i64 xs.length) := len_blV s27 n g w xs
@[go_sem] theorem lo27 {H : Hp} (x : V) (hi : Option V) : sliceV Try.prog 27 H x none hi = sliceV Try.prog 27 H x (some (.int .i64 0)) hi := lo_slV ⟨_, u27⟩
@[go_sem] theorem hi27 {α : Type} {E : Enc α} {l : List α} {b : Bool} {H : Hp} (lo : Option V) : sliceV Try.prog 27 H (slV b E l) lo none = sliceV Try.prog 27 H (slV b E l) lo (some (.int .i64 l.length)) := hi_slV s27
@[go_sem] theorem ct27 {α : Type} {E : Enc α} {l : List α} {b : Bool} {H : Hp} {k k' : IntKind} {lo hi : Int} (hw : E.w = 2) (h : 0 ≤ lo ∧ lo ≤ hi ∧ hi ≤ (l.length : Int)) : sliceV Try.prog 27 H (slV b E l) (some (.int k lo)) (some (.int k' hi)) = some (slV (b && decide (l.length = 0)) E ((l.drop lo.toNat).take (hi.toNat - lo.toNat))) := cut_slV s27 hw h
@[go_sem] theorem m27 {H : Hp} : lenV Try.prog 27 H .nilslice = some (.int .i64 0) := len_nilslice (sz := 2) (by kernel_rfl)
@[go_sem] theorem u28 : Try.prog.underlying 28 = some (.slice 100) := by kernel_rfl
@[go_sem] theorem z28 : szOf Try.prog 28 = some 1 := by kernel_rfl
@[go_sem] theorem y28 : bytesOf' Try.prog 28 = some 24 := by kernel_rfl
@[go_sem] theorem g28 : aggT Try.prog 28 = some false := by kernel_rfl
@[go_sem] theorem o28 : zeroV Try.prog 28 = some .nilslice := by kernel_rfl
theorem s28 : sliceT Try.prog 28 2 = true := by kernel_rfl
@[go_sem] theorem i28 {id g off n : Nat} {cp : Cap} {k : IntKind} {j : Int} (hj : 0 ≤ j ∧ j < n) : indexAddrV Try.prog 28 (.slice id g off n 2 cp) (.int k j) = some (.ptr id g (off + j.toNat * 2)) := ia_slice (by kernel_rfl) hj
@[go_sem] theorem n28 {H : Hp} (id g off n : Nat) (cp : Cap) : lenV Try.prog 28 H (.slice id g off n 2 cp) = some (.int .i64 n) := len_slice (sz := 2) (by kernel_rfl) id g off n 2 cp
@[go_sem] theorem is28 {α : Type} {E : Enc α} {l : List α} {b : Bool} {k : IntKind} {j : Int} (hw : E.w = 2) (hj : 0 ≤ j ∧ j < (l.length : Int)) : indexAddrV Try.prog 28 (slV b E l) (.int k j) = some (.ipt (flatE E l) (j.toNat * 2)) := idx_slV s28 hw hj
@[go_sem] theorem ns28 {α : Type} {H : Hp} (b : Bool) (E : Enc α) (l : List α) : lenV Try.prog 28 H (slV b E l) = some (.int .i64 l.length) := len_slV s28 b E l
@[go_sem] theorem nb28 {H : Hp} (n g w : Nat) (xs : List (List V)) : lenV Try.prog 28 H (blV n g w xs) = some (.int .i64 xs.length) := len_blV s28 n g w xs
@[go_sem] theorem lo28 {H : Hp} (x : V) (hi : Option V) : sliceV Try.prog 28 H x none hi = sliceV Try.prog 28 H x (some (.int .i64 0)) hi := lo_slV ⟨_, u28⟩
@[go_sem] theorem hi28 {α : Type} {E : Enc α} {l : List α} {b : Bool} {H : Hp} (lo : Option V) : sliceV Try.prog 28 H (slV b E l) lo none = sliceV Try.prog 28 H (slV b E l) lo (some (.int .i64 l.length)) := hi_slV s28
@[go_sem] theorem ct28 {α : Type} {E : Enc α} {l : List α} {b : Bool} {H : Hp} {k k' : IntKind} {lo hi : Int} (hw : E.w = 2) (h : 0 ≤ lo ∧ lo ≤ hi ∧ hi ≤ (l.length : Int)) : sliceV Try.prog 28 H (slV b E l) (some (.int k lo)) (some (.int k' hi)) = some (slV (b && decide (l.length = 0)) E ((l.drop lo.toNat).take (hi.toNat - lo.toNat))) := cut_slV s28 hw h
@[go_sem] theorem m28 {H : Hp} : lenV Try.prog 28 H .nilslice = some (.int .i64 0) := len_nilslice (sz := 2) (by kernel_rfl)
@[go_sem] theorem u29 : Try.prog.underlying 29 = some (.slice 56) := by kernel_rfl
@[go_sem] theorem z29 : szOf Try.prog 29 = some 1 := by kernel_rfl
@[go_sem] theorem y29 : bytesOf' Try.prog 29 = some 24 := by kernel_rfl
@[go_sem] theorem g29 : aggT Try.prog 29 = some false := by kernel_rfl
@[go_sem] theorem o29 : zeroV Try.prog 29 = some .nilslice := by kernel_rfl
theorem s29 : sliceT Try.prog 29 5 = true := by kernel_rfl
@[go_sem] theorem i29 {id g off n : Nat} {cp : Cap} {k : IntKind} {j : Int} (hj : 0 ≤ j ∧ j < n) : indexAddrV Try.prog 29 (.slice id g off n 5 cp) (.int k j) = some (.ptr id g (off + j.toNat * 5)) := ia_slice (by kernel_rfl) hj
@[go_sem] theorem n29 {H : Hp} (id g off n : Nat) (cp : Cap) : lenV Try.prog 29 H (.slice id g off n 5 cp) = some (.int .i64 n) := len_slice (sz := 5) (by kernel_rfl) id g off n 5 cp
@[go_sem] theorem is29 {α : Type} {E : Enc α} {l : List α} {b : Bool} {k : IntKind} {j : Int} (hw : E.w = 5) (hj : 0 ≤ j ∧ j < (l.length : Int)) : indexAddrV Try.prog 29 (slV b E l) (.int k j) = some (.ipt (flatE E l) (j.toNat * 5)) := idx_slV s29 hw hj
@[go_sem] theorem ns29 {α : Type} {H : Hp} (b : Bool) (E : Enc α) (l : List α) : lenV Try.prog 29 H (slV b E l) = some (.int .i64 l.length) := len_slV s29 b E l
@[go_sem] theorem nb29 {H : Hp} (n g w : Nat) (xs : List (List V)) : lenV Try.prog 29 H (blV n g w xs) = some (.int .i64 xs.length) := len_blV s29 n g w xs
@[go_sem] theorem lo29 {H : Hp} (x : V) (hi : Option V) : sliceV Try.prog 29 H x none hi = sliceV Try.prog 29 H x (some (.int .i64 0)) hi := lo_slV ⟨_, u29⟩
@[go_sem] theorem hi29 {α : Type} {E : Enc α} {l : List α} {b : Bool} {H : Hp} (lo : Option V) : sliceV Try.prog 29 H (slV b E l) lo none = sliceV Try.prog 29 H (slV b E l) lo (some (.int .i64 l.length)) := hi_slV s29
@[go_sem] theorem ct29 {α : Type} {E : Enc α} {l : List α} {b : Bool} {H : Hp} {k k' : IntKind} {lo hi : Int} (hw : E.w = 5) (h : 0 ≤ lo ∧ lo ≤ hi ∧ hi ≤ (l.length : Int)) : sliceV Try.prog 29 H (slV b E l) (some (.int k lo)) (some (.int k' hi)) = some (slV (b && decide (l.length = 0)) E ((l.drop lo.toNat).take (hi.toNat - lo.toNat))) := cut_slV s29 hw h
@[go_sem] theorem m29 {H : Hp} : lenV Try.prog 29 H .nilslice = some (.int .i64 0) := len_nilslice (sz := 5) (by kernel_rfl)
@[go_sem] theorem z31 : szOf Try.prog 31 = some 5 := by kernel_rfl
@[go_sem] theorem y31 : bytesOf' Try.prog 31 = some 112 := by kernel_rfl
@[go_sem] theorem g31 : aggT Try.prog 31 = some true := by kernel_rfl
@[go_sem] theorem o31 : zeroV Try.prog 31 = some (.agg [.str [], .nilslice, .nilslice, .nilslice, .nilslice]) := by kernel_rfl
@[go_sem] theorem ai31 (cs : List V) (off i : Nat) : fieldAddrV Try.prog 31 (.ipt cs off) i = fieldAtI [0, 1, 2, 3, 4] cs off i := fieldAtI_eq (by kernel_rfl) cs off i
@[go_sem] theorem a31 (id g off i : Nat) : fieldAddrV Try.prog 31 (.ptr id g off) i = fieldAt [0, 1, 2, 3, 4] id g off i := fieldAt_eq (by kernel_rfl) id g off i
@[go_sem] theorem p31 (cs : List V) (i : Nat) : fieldV Try.prog 31 (.agg cs) i = fieldOf Try.prog [(9, 0), (26, 1), (27, 2), (28, 3), (29, 4)] cs i := fieldOf_eq (by kernel_rfl) cs i
@[go_sem] theorem h31 (ps : List (Nat × V)) : buildV Try.prog 31 ps = buildOf [.str [], .nilslice, .nilslice, .nilslice, .nilslice] [(0, 1), (1, 1), (2, 1), (3, 1), (4, 1)] ps := buildOf_eq (by kernel_rfl) (by kernel_rfl) ps
@[go_sem] theorem u32 : Try.prog.underlying 32 = some (.int .i64) := by kernel_rfl
@[go_sem] theorem z32 : szOf Try.prog 32 = some 1 := by kernel_rfl
@[go_sem] theorem y32 : bytesOf' Try.prog 32 = some 8 := by kernel_rfl
@[go_sem] theorem g32 : aggT Try.prog 32 = some false := by kernel_rfl
@[go_sem] theorem o32 : zeroV Try.prog 32 = some (.int .i64 0) := by kernel_rfl
@[go_sem] theorem u37 : Try.prog.underlying 37 = some (.slice 5) := by kernel_rfl
@[go_sem] theorem z37 : szOf Try.prog 37 = some 1 := by kernel_rfl
@[go_sem] theorem y37 : bytesOf' Try.prog 37 = some 24 := by kernel_rfl
@[go_sem] theorem g37 : aggT Try.prog 37 = some false := by kernel_rfl
@[go_sem] theorem o37 : zeroV Try.prog 37 = some .nilslice := by kernel_rfl
theorem s37 : sliceT Try.prog 37 1 = true := by kernel_rfl
@[go_sem] theorem i37 {id g off n : Nat} {cp : Cap} {k : IntKind} {j : Int} (hj : 0 ≤ j ∧ j < n) : indexAddrV Try.prog 37 (.slice id g off n 1 cp) (.int k j) = some (.ptr id g (off + j.toNat * 1)) := ia_slice (by kernel_rfl) hj
@[go_sem] theorem n37 {H : Hp} (id g off n : Nat) (cp : Cap) : lenV Try.prog 37 H (.slice id g off n 1 cp) = some (.int .i64 n) := len_slice (sz := 1) (by kernel_rfl) id g off n 1 cp
@[go_sem] theorem is37 {α : Type} {E : Enc α} {l : List α} {b : Bool} {k : IntKind} {j : Int} (hw : E.w = 1) (hj : 0 ≤ j ∧ j < (l.length : Int)) : indexAddrV Try.prog 37 (slV b E l) (.int k j) = some (.ipt (flatE E l) (j.toNat * 1)) := idx_slV s37 hw hj
@[go_sem] theorem ns37 {α : Type} {H : Hp} (b : Bool) (E : Enc α) (l : List α) : lenV Try.prog 37 H (slV b E l) = some (.int .i64 l.length) := len_slV s37 b E l
@[go_sem] theorem nb37 {H : Hp} (n g w : Nat) (xs : List (List V)) : lenV Try.prog 37 H (blV n g w xs) = some (.int .i64 xs.length) := len_blV s37 n g w xs
@[go_sem] theorem lo37 {H : Hp} (x : V) (hi : Option V) : sliceV Try.prog 37 H x none hi = sliceV Try.prog 37 H x (some (.int .i64 0)) hi := lo_slV ⟨_, u37⟩
@[go_sem] theorem hi37 {α : Type} {E : Enc α} {l : List α} {b : Bool} {H : Hp} (lo : Option V) : sliceV Try.prog 37 H (slV b E l) lo none = sliceV Try.prog 37 H (slV b E l) lo (some (.int .i64 l.length)) := hi_slV s37
@[go_sem] theorem ct37 {α : Type} {E : Enc α} {l : List α} {b : Bool} {H : Hp} {k k' : IntKind} {lo hi : Int} (hw : E.w = 1) (h : 0 ≤ lo ∧ lo ≤ hi ∧ hi ≤ (l.length : Int)) : sliceV Try.prog 37 H (slV b E l) (some (.int k lo)) (some (.int k' hi)) = some (slV (b && decide (l.length = 0)) E ((l.drop lo.toNat).take (hi.toNat - lo.toNat))) := cut_slV s37 hw h
@[go_sem] theorem m37 {H : Hp} : lenV Try.prog 37 H .nilslice = some (.int .i64 0) := len_nilslice (sz := 1) (by kernel_rfl)
@[go_sem] theorem z56 : szOf Try.prog 56 = some 5 := by kernel_rfl
@[go_sem] theorem y56 : bytesOf' Try.prog 56 = some 64 := by kernel_rfl
@[go_sem] theorem g56 : aggT Try.prog 56 = some true := by kernel_rfl
@[go_sem] theorem o56 : zeroV Try.prog 56 = some (.agg [.int .i64 0, .int .i64 0, .int .i64 0, .nilslice, .str []]) := by kernel_rfl
@[go_sem] theorem ai56 (cs : List V) (off i : Nat) : fieldAddrV Try.prog 56 (.ipt cs off) i = fieldAtI [0, 1, 2, 3, 4] cs off i := fieldAtI_eq (by kernel_rfl) cs off i
@[go_sem] theorem a56 (id g off i : Nat) : fieldAddrV Try.prog 56 (.ptr id g off) i = fieldAt [0, 1, 2, 3, 4] id g off i := fieldAt_eq (by kernel_rfl) id g off i
@[go_sem] theorem p56 (cs : List V) (i : Nat) : fieldV Try.prog 56 (.agg cs) i = fieldOf Try.prog [(3, 0), (3, 1), (3, 2), (37, 3), (9, 4)] cs i := fieldOf_eq (by kernel_rfl) cs i
@[go_sem] theorem h56 (ps : List (Nat × V)) : buildV Try.prog 56 ps = buildOf [.int .i64 0, .int .i64 0, .int .i64 0, .nilslice, .str []] [(0, 1), (1, 1), (2, 1), (3, 1), (4, 1)] ps := buildOf_eq (by kernel_rfl) (by kernel_rfl) ps
@[go_sem] theorem u68 : Try.prog.underlying 68 = some (.slice 29) := by kernel_rfl
@[go_sem] theorem z68 : szOf Try.prog 68 = some 1 := by kernel_rfl
@[go_sem] theorem y68 : bytesOf' Try.prog 68 = some 24 := by kernel_rfl
@[go_sem] theorem g68 : aggT Try.prog 68 = some false := by kernel_rfl
@[go_sem] theorem o68 : zeroV Try.prog 68 = some .nilslice := by kernel_rfl
theorem s68 : sliceT Try.prog 68 1 = true := by kernel_rfl
@[go_sem] theorem i68 {id g off n : Nat} {cp : Cap} {k : IntKind} {j : Int} (hj : 0 ≤ j ∧ j < n) : indexAddrV Try.prog 68 (.slice id g off n 1 cp) (.int k j) = some (.ptr id g (off + j.toNat * 1)) := ia_slice (by kernel_rfl) hj
@[go_sem] theorem n68 {H : Hp} (id g off n : Nat) (cp : Cap) : lenV Try.prog 68 H (.slice id g off n 1 cp) = some (.int .i64 n) := len_slice (sz := 1) (by kernel_rfl) id g off n 1 cp
@[go_sem] theorem is68 {α : Type} {E : Enc α} {l : List α} {b : Bool} {k : IntKind} {j : Int} (hw : E.w = 1) (hj : 0 ≤ j ∧ j < (l.length : Int)) : indexAddrV Try.prog 68 (slV b E l) (.int k j) = some (.ipt (flatE E l) (j.toNat * 1)) := idx_slV s68 hw hj
@[go_sem] theorem ns68 {α : Type} {H : Hp} (b : Bool) (E : Enc α) (l : List α) : lenV Try.prog 68 H (slV b E l) = some (.int .i64 l.length) := len_slV s68 b E l
@[go_sem] theorem nb68 {H : Hp} (n g w : Nat) (xs : List (List V)) : lenV Try.prog 68 H (blV n g w xs) = some (.int .i64 xs.length) := len_blV s68 n g w xs
@[go_sem] theorem lo68 {H : Hp} (x : V) (hi : Option V) : sliceV Try.prog 68 H x none hi = sliceV Try.prog 68 H x (some (.int .i64 0)) hi := lo_slV ⟨_, u68⟩
@[go_sem] theorem hi68 {α : Type} {E : Enc α} {l : List α} {b : Bool} {H : Hp} (lo : Option V) : sliceV Try.prog 68 H (slV b E l) lo none = sliceV Try.prog 68 H (slV b E l) lo (some (.int .i64 l.length)) := hi_slV s68
@[go_sem] theorem ct68 {α : Type} {E : Enc α} {l : List α} {b : Bool} {H : Hp} {k k' : IntKind} {lo hi : Int} (hw : E.w = 1) (h : 0 ≤ lo ∧ lo ≤ hi ∧ hi ≤ (l.length : Int)) : sliceV Try.prog 68 H (slV b E l) (some (.int k lo)) (some (.int k' hi)) = some (slV (b && decide (l.length = 0)) E ((l.drop lo.toNat).take (hi.toNat - lo.toNat))) := cut_slV s68 hw h
@[go_sem] theorem m68 {H : Hp} : lenV Try.prog 68 H .nilslice = some (.int .i64 0) := len_nilslice (sz := 1) (by kernel_rfl)
@[go_sem] theorem z82 : szOf Try.prog 82 = some 3 := by kernel_rfl
@[go_sem] theorem y82 : bytesOf' Try.prog 82 = some 32 := by kernel_rfl
@[go_sem] theorem g82 : aggT Try.prog 82 = some true := by kernel_rfl
@[go_sem] theorem o82 : zeroV Try.prog 82 = some (.agg [.str [], .int .i64 0, .int .i64 0]) := by kernel_rfl
@[go_sem] theorem ai82 (cs : List V) (off i : Nat) : fieldAddrV Try.prog 82 (.ipt cs off) i = fieldAtI [0, 1, 2] cs off i := fieldAtI_eq (by kernel_rfl) cs off i
@[go_sem] theorem a82 (id g off i : Nat) : fieldAddrV Try.prog 82 (.ptr id g off) i = fieldAt [0, 1, 2] id g off i := fieldAt_eq (by kernel_rfl) id g off i
@[go_sem] theorem p82 (cs : List V) (i : Nat) : fieldV Try.prog 82 (.agg cs) i = fieldOf Try.prog [(9, 0), (3, 1), (3, 2)] cs i := fieldOf_eq (by kernel_rfl) cs i
@[go_sem] theorem h82 (ps : List (Nat × V)) : buildV Try.prog 82 ps = buildOf [.str [], .int .i64 0, .int .i64 0] [(0, 1), (1, 1), (2, 1)] ps := buildOf_eq (by kernel_rfl) (by kernel_rfl) ps
@[go_sem] theorem z97 : szOf Try.prog 97 = some 2 := by kernel_rfl
@[go_sem] theorem y97 : bytesOf' Try.prog 97 = some 40 := by kernel_rfl
@[go_sem] theorem g97 : aggT Try.prog 97 = some true := by kernel_rfl
@[go_sem] theorem o97 : zeroV Try.prog 97 = some (.agg [.nilslice, .str []]) := by kernel_rfl
@[go_sem] theorem ai97 (cs : List V) (off i : Nat) : fieldAddrV Try.prog 97 (.ipt cs off) i = fieldAtI [0, 1] cs off i := fieldAtI_eq (by kernel_rfl) cs off i
@[go_sem] theorem a97 (id g off i : Nat) : fieldAddrV Try.prog 97 (.ptr id g off) i = fieldAt [0, 1] id g off i := fieldAt_eq (by kernel_rfl) id g off i
@[go_sem] theorem p97 (cs : List V) (i : Nat) : fieldV Try.prog 97 (.agg cs) i = fieldOf Try.prog [(37, 0), (9, 1)] cs i := fieldOf_eq (by kernel_rfl) cs i
@[go_sem] theorem h97 (ps : List (Nat × V)) : buildV Try.prog 97 ps = buildOf [.nilslice, .str []] [(0, 1), (1, 1)] ps := buildOf_eq (by kernel_rfl) (by kernel_rfl) ps
@[go_sem] theorem z100 : szOf Try.prog 100 = some 2 := by kernel_rfl
@[go_sem] theorem y100 : bytesOf' Try.prog 100 = some 40 := by kernel_rfl
@[go_sem] theorem g100 : aggT Try.prog 100 = some true := by kernel_rfl
@[go_sem] theorem o100 : zeroV Try.prog 100 = some (.agg [.str [], .nilslice]) := by kernel_rfl
@[go_sem] theorem ai100 (cs : List V) (off i : Nat) : fieldAddrV Try.prog 100 (.ipt cs off) i = fieldAtI [0, 1] cs off i := fieldAtI_eq (by kernel_rfl) cs off i
@[go_sem] theorem a100 (id g off i : Nat) : fieldAddrV Try.prog 100 (.ptr id g off) i = fieldAt [0, 1] id g off i := fieldAt_eq (by kernel_rfl) id g off i
@[go_sem] theorem p100 (cs : List V) (i : Nat) : fieldV Try.prog 100 (.agg cs) i = fieldOf Try.prog [(9, 0), (37, 1)] cs i := fieldOf_eq (by kernel_rfl) cs i
@[go_sem] theorem h100 (ps : List (Nat × V)) : buildV Try.prog 100 ps = buildOf [.str [], .nilslice] [(0, 1), (1, 1)] ps := buildOf_eq (by kernel_rfl) (by kernel_rfl) ps
@[go_sem] theorem z107 : szOf Try.prog 107 = some 1 := by kernel_rfl
@[go_sem] theorem y107 : bytesOf' Try.prog 107 = some 8 := by kernel_rfl
@[go_sem] theorem g107 : aggT Try.prog 107 = some false := by kernel_rfl
@[go_sem] theorem o107 : zeroV Try.prog 107 = some .nilfn := by kernel_rfl
@[go_sem] theorem z187 : szOf Try.prog 187 = some 1 := by kernel_rfl
@[go_sem] theorem y187 : bytesOf' Try.prog 187 = some 8 := by kernel_rfl
@[go_sem] theorem g187 : aggT Try.prog 187 = some false := by kernel_rfl
@[go_sem] theorem o187 : zeroV Try.prog 187 = some .nilfn := by kernel_rfl
@[go_sem] theorem x37_9 {H : Hp} (c : Bool) (l : List UInt8) : convV Try.prog 37 9 H (slV c byE l) = some (.str l, H) := str_slV (by kernel_rfl) c l
@[go_sem] theorem xi9_37 {m : List UInt8} (hm : m.length ≤ 2 ^ 40) : immCv Try.prog 9 37 (.str m) = some (slV false byE m) := ic_slV (by kernel_rfl) hm
@[go_sem] theorem e82 (xs ys : List V) : binV Try.prog .eql 82 (.agg xs) (.agg ys) = if ckOks [.str, .int .i64, .int .i64] xs = true ∧ ckOks [.str, .int .i64, .int .i64] ys = true then some (.bool (eqCells xs ys)) else none := agg_eq (ks := [.str, .int .i64, .int .i64]) (by kernel_rfl) g82 z82 xs ys
@[go_sem] theorem ne82 (xs ys : List V) : binV Try.prog .neq 82 (.agg xs) (.agg ys) = if ckOks [.str, .int .i64, .int .i64] xs = true ∧ ckOks [.str, .int .i64, .int .i64] ys = true then some (.bool (!eqCells xs ys)) else none := agg_ne (ks := [.str, .int .i64, .int .i64]) (by kernel_rfl) g82 z82 xs ys
@[go_sem] theorem v26s {α : Type} (b : Bool) (E : Enc α) (l : List α) : binV Try.prog .eql 26 (slV b E l) .nilslice = some (.bool (b && decide (l.length = 0))) := (nil_slV (by kernel_rfl) b E l).1
@[go_sem] theorem v26t {α : Type} (b : Bool) (E : Enc α) (l : List α) : binV Try.prog .neq 26 (slV b E l) .nilslice = some (.bool (!(b && decide (l.length = 0)))) := (nil_slV (by kernel_rfl) b E l).2
@[go_sem] theorem v26a (a b c d e : Nat) (cp : Cap) : binV Try.prog .eql 26 (.slice a b c d e cp) .nilslice = some (.bool false) := (sl_nil (by kernel_rfl) a b c d e cp).1
@[go_sem] theorem v26b (a b c d e : Nat) (cp : Cap) : binV Try.prog .neq 26 (.slice a b c d e cp) .nilslice = some (.bool true) := (sl_nil (by kernel_rfl) a b c d e cp).2.1
@[go_sem] theorem v26c : binV Try.prog .eql 26 .nilslice .nilslice = some (.bool true) := (sl_nil (by kernel_rfl) 0 0 0 0 0 .full).2.2.1
@[go_sem] theorem v26d : binV Try.prog .neq 26 .nilslice .nilslice = some (.bool false) := (sl_nil (by kernel_rfl) 0 0 0 0 0 .full).2.2.2
@[go_sem] theorem v27s {α : Type} (b : Bool) (E : Enc α) (l : List α) : binV Try.prog .eql 27 (slV b E l) .nilslice = some (.bool (b && decide (l.length = 0))) := (nil_slV (by kernel_rfl) b E l).1
@[go_sem] theorem v27t {α : Type} (b : Bool) (E : Enc α) (l : List α) : binV Try.prog .neq 27 (slV b E l) .nilslice = some (.bool (!(b && decide (l.length = 0)))) := (nil_slV (by kernel_rfl) b E l).2
@[go_sem] theorem v27a (a b c d e : Nat) (cp : Cap) : binV Try.prog .eql 27 (.slice a b c d e cp) .nilslice = some (.bool false) := (sl_nil (by kernel_rfl) a b c d e cp).1
@[go_sem] theorem v27b (a b c d e : Nat) (cp : Cap) : binV Try.prog .neq 27 (.slice a b c d e cp) .nilslice = some (.bool true) := (sl_nil (by kernel_rfl) a b c d e cp).2.1
@[go_sem] theorem v27c : binV Try.prog .eql 27 .nilslice .nilslice = some (.bool true) := (sl_nil (by kernel_rfl) 0 0 0 0 0 .full).2.2.1
@[go_sem] theorem v27d : binV Try.prog .neq 27 .nilslice .nilslice = some (.bool false) := (sl_nil (by kernel_rfl) 0 0 0 0 0 .full).2.2.2
@[go_sem] theorem v37s {α : Type} (b : Bool) (E : Enc α) (l : List α) : binV Try.prog .eql 37 (slV b E l) .nilslice = some (.bool (b && decide (l.length = 0))) := (nil_slV (by kernel_rfl) b E l).1
@[go_sem] theorem v37t {α : Type} (b : Bool) (E : Enc α) (l : List α) : binV Try.prog .neq 37 (slV b E l) .nilslice = some (.bool (!(b && decide (l.length = 0)))) := (nil_slV (by kernel_rfl) b E l).2
@[go_sem] theorem v37a (a b c d e : Nat) (cp : Cap) : binV Try.prog .eql 37 (.slice a b c d e cp) .nilslice = some (.bool false) := (sl_nil (by kernel_rfl) a b c d e cp).1
@[go_sem] theorem v37b (a b c d e : Nat) (cp : Cap) : binV Try.prog .neq 37 (.slice a b c d e cp) .nilslice = some (.bool true) := (sl_nil (by kernel_rfl) a b c d e cp).2.1
@[go_sem] theorem v37c : binV Try.prog .eql 37 .nilslice .nilslice = some (.bool true) := (sl_nil (by kernel_rfl) 0 0 0 0 0 .full).2.2.1
@[go_sem] theorem v37d : binV Try.prog .neq 37 .nilslice .nilslice = some (.bool false) := (sl_nil (by kernel_rfl) 0 0 0 0 0 .full).2.2.2
@[go_sem] theorem v28s {α : Type} (b : Bool) (E : Enc α) (l : List α) : binV Try.prog .eql 28 (slV b E l) .nilslice = some (.bool (b && decide (l.length = 0))) := (nil_slV (by kernel_rfl) b E l).1
@[go_sem] theorem v28t {α : Type} (b : Bool) (E : Enc α) (l : List α) : binV Try.prog .neq 28 (slV b E l) .nilslice = some (.bool (!(b && decide (l.length = 0)))) := (nil_slV (by kernel_rfl) b E l).2
@[go_sem] theorem v28a (a b c d e : Nat) (cp : Cap) : binV Try.prog .eql 28 (.slice a b c d e cp) .nilslice = some (.bool false) := (sl_nil (by kernel_rfl) a b c d e cp).1
@[go_sem] theorem v28b (a b c d e : Nat) (cp : Cap) : binV Try.prog .neq 28 (.slice a b c d e cp) .nilslice = some (.bool true) := (sl_nil (by kernel_rfl) a b c d e cp).2.1
@[go_sem] theorem v28c : binV Try.prog .eql 28 .nilslice .nilslice = some (.bool true) := (sl_nil (by kernel_rfl) 0 0 0 0 0 .full).2.2.1
@[go_sem] theorem v28d : binV Try.prog .neq 28 .nilslice .nilslice = some (.bool false) := (sl_nil (by kernel_rfl) 0 0 0 0 0 .full).2.2.2
@[go_sem] theorem v29s {α : Type} (b : Bool) (E : Enc α) (l : List α) : binV Try.prog .eql 29 (slV b E l) .nilslice = some (.bool (b && decide (l.length = 0))) := (nil_slV (by kernel_rfl) b E l).1
@[go_sem] theorem v29t {α : Type} (b : Bool) (E : Enc α) (l : List α) : binV Try.prog .neq 29 (slV b E l) .nilslice = some (.bool (!(b && decide (l.length = 0)))) := (nil_slV (by kernel_rfl) b E l).2
@[go_sem] theorem v29a (a b c d e : Nat) (cp : Cap) : binV Try.prog .eql 29 (.slice a b c d e cp) .nilslice = some (.bool false) := (sl_nil (by kernel_rfl) a b c d e cp).1
@[go_sem] theorem v29b (a b c d e : Nat) (cp : Cap) : binV Try.prog .neq 29 (.slice a b c d e cp) .nilslice = some (.bool true) := (sl_nil (by kernel_rfl) a b c d e cp).2.1
@[go_sem] theorem v29c : binV Try.prog .eql 29 .nilslice .nilslice = some (.bool true) := (sl_nil (by kernel_rfl) 0 0 0 0 0 .full).2.2.1
@[go_sem] theorem v29d : binV Try.prog .neq 29 .nilslice .nilslice = some (.bool false) := (sl_nil (by kernel_rfl) 0 0 0 0 0 .full).2.2.2
@[go_sem] theorem w23_23 {H : Hp} (s x : V) : builtinV Try.prog .append #[23, 23] [s, x] H = appOf 1 8 H s x.dem1 := app_eq (by kernel_rfl) s x
@[go_sem] theorem w68_68 {H : Hp} (s x : V) : builtinV Try.prog .append #[68, 68] [s, x] H = appOf 1 24 H s x.dem1 := app_eq (by kernel_rfl) s x
@[go_sem] theorem w29_29 {H : Hp} (s x : V) : builtinV Try.prog .append #[29, 29] [s, x] H = appOf 5 64 H s x.dem1 := app_eq (by kernel_rfl) s x
@[go_sem] theorem w22_22 {H : Hp} (s x : V) : builtinV Try.prog .append #[22, 22] [s, x] H = appOf 5 112 H s x.dem1 := app_eq (by kernel_rfl) s x
@[go_sem] theorem w26_26 {H : Hp} (s x : V) : builtinV Try.prog .append #[26, 26] [s, x] H = appOf 3 32 H s x.dem1 := app_eq (by kernel_rfl) s x
@[go_sem] theorem w27_27 {H : Hp} (s x : V) : builtinV Try.prog .append #[27, 27] [s, x] H = appOf 2 40 H s x.dem1 := app_eq (by kernel_rfl) s x
@[go_sem] theorem w37_37 {H : Hp} (s x : V) : builtinV Try.prog .append #[37, 37] [s, x] H = appOf 1 1 H s x.dem1 := app_eq (by kernel_rfl) s x
@[go_sem] theorem w28_28 {H : Hp} (s x : V) : builtinV Try.prog .append #[28, 28] [s, x] H = appOf 2 40 H s x.dem1 := app_eq (by kernel_rfl) s x
@[go_sem] theorem bb4e (x y : Bool) : binV Try.prog .eql 4 (.bool x) (.bool y) = some (.bool (x == y)) := b_beql 4 x y u4
@[go_sem] theorem bb4n (x y : Bool) : binV Try.prog .neq 4 (.bool x) (.bool y) = some (.bool (!(x == y))) := b_bneq 4 x y u4
@[go_sem] theorem qi22 (v : V) : immSl Try.prog 22 1 [(0, v)] = if immL v.cells = true ∧ v.cells.length = 5 then some (.isl v.cells 1 5) else none := is_one u22 z31 o31 rfl (by decide) (by decide) v
@[go_sem] theorem q22 {H : Hp} (v : V) : buildSliceV Try.prog 22 1 [(0, v)] H = if v.cells.all V.isCell = true ∧ v.cells.length = 5 then some (.slice H.length 0 0 1 5 .full, H ++ [.row 0 v.cells true]) else none := bs_if u22 z31 o31 rfl (by decide) (by decide) v
@[go_sem] theorem qi23 (v : V) : immSl Try.prog 23 1 [(0, v)] = if immL v.cells = true ∧ v.cells.length = 1 then some (.isl v.cells 1 1) else none := is_one u23 z3 o3 rfl (by decide) (by decide) v
@[go_sem] theorem q23 {H : Hp} (v : V) : buildSliceV Try.prog 23 1 [(0, v)] H = if v.cells.all V.isCell = true ∧ v.cells.length = 1 then some (.slice H.length 0 0 1 1 .full, H ++ [.row 0 v.cells true]) else none := bs_if u23 z3 o3 rfl (by decide) (by decide) v
@[go_sem] theorem qi29 (v : V) : immSl Try.prog 29 1 [(0, v)] = if immL v.cells = true ∧ v.cells.length = 5 then some (.isl v.cells 1 5) else none := is_one u29 z56 o56 rfl (by decide) (by decide) v
@[go_sem] theorem q29 {H : Hp} (v : V) : buildSliceV Try.prog 29 1 [(0, v)] H = if v.cells.all V.isCell = true ∧ v.cells.length = 5 then some (.slice H.length 0 0 1 5 .full, H ++ [.row 0 v.cells true]) else none := bs_if u29 z56 o56 rfl (by decide) (by decide) v
@[go_sem] theorem qi68 (v : V) : immSl Try.prog 68 1 [(0, v)] = if immL v.cells = true ∧ v.cells.length = 1 then some (.isl v.cells 1 1) else none := is_one u68 z29 o29 rfl (by decide) (by decide) v
@[go_sem] theorem q68 {H : Hp} (v : V) : buildSliceV Try.prog 68 1 [(0, v)] H = if v.cells.all V.isCell = true ∧ v.cells.length = 1 then some (.slice H.length 0 0 1 1 .full, H ++ [.row 0 v.cells true]) else none := bs_if u68 z29 o29 rfl (by decide) (by decide) v
@[go_sem] theorem qz26 {H : Hp} : buildSliceV Try.prog 26 0 [] H = some (.slice H.length 0 0 0 3 .full, H ++ [.row 0 [] true]) := bs_zero u26 z82 o82 rfl (by decide)
@[go_sem] theorem qz27 {H : Hp} : buildSliceV Try.prog 27 0 [] H = some (.slice H.length 0 0 0 2 .full, H ++ [.row 0 [] true]) := bs_zero u27 z97 o97 rfl (by decide)
@[go_sem] theorem qz37 {H : Hp} : buildSliceV Try.prog 37 0 [] H = some (.slice H.length 0 0 0 1 .full, H ++ [.row 0 [] true]) := bs_zero u37 z5 o5 rfl (by decide)
@[go_sem] theorem qz28 {H : Hp} : buildSliceV Try.prog 28 0 [] H = some (.slice H.length 0 0 0 2 .full, H ++ [.row 0 [] true]) := bs_zero u28 z100 o100 rfl (by decide)
@[go_sem] theorem qz29 {H : Hp} : buildSliceV Try.prog 29 0 [] H = some (.slice H.length 0 0 0 5 .full, H ++ [.row 0 [] true]) := bs_zero u29 z56 o56 rfl (by decide)
def r5_0 : List Co := [
  coi 3 (.box 31 (tm 0)),
  co 6 (.assign (.const (.bool false)))]
def r5_1 : List Co := [
  co 11 (.load 31 (tm 3)),
  co 12 (.call ⟨.value (.func 21), #[(tm 11)], #[31]⟩),
  co 13 (.binOp .gtr 3 (tm 12) (.const (.int .i64 400000)) 3)]
def r5_2 : List Co := [
  co 14 (.call ⟨.value (.func 15), #[], #[]⟩),
  co 6 (.assign (tm 14))]
def r5_3 : List Co := [
  co 16 (.load 31 (tm 3)),
  co 17 (.move (tm 1)),
  co 18 (.move (tm 2)),
  co 19 (.call ⟨.value (.func 22), #[(tm 16), (tm 17), (tm 18)], #[31, 3, 3]⟩),
  co 15 (.move (tm 19)),
  co 20 (.extract (tm 15) 0),
  co 21 (.extract (tm 15) 1),
  co 7 (.assign (tm 20)),
  co 8 (.assign (tm 21))]
def r5_4 : List Co := [
  co 23 (.load 31 (tm 3)),
  co 24 (.move (tm 1)),
  co 25 (.move (tm 2)),
  co 26 (.call ⟨.value (.func 23), #[(tm 23), (tm 24), (tm 25)], #[31, 3, 3]⟩),
  co 22 (.move (tm 26)),
  co 27 (.extract (tm 22) 0),
  co 28 (.extract (tm 22) 1),
  co 9 (.assign (tm 27)),
  co 10 (.assign (tm 28))]
def r5_5 : List Co := [
  co 29 (.move (tm 7)),
  co 30 (.move (tm 9)),
  co 31 (.call ⟨.value (.func 24), #[(tm 29), (tm 30)], #[23, 23]⟩),
  co 32 (.move (tm 31)),
  cog 33 (.move (tm 8)) 32 true,
  cog 34 (.move (tm 10)) 32 true,
  cog 35 (.binOp .eql 32 (tm 33) (tm 34) 32) 32 true,
  co 36 (.pick (tm 32) (tm 35) (.const (.bool false))),
  co 37 (.move (tm 36)),
  cog 38 (.call ⟨.value (.func 15), #[], #[]⟩) 37 true,
  co 39 (.pick (tm 37) (tm 38) (.const (.bool false))),
  co 6 (.assign (tm 39))]
/-- wireglass/wireglasslaw03.FileDoubles -/
def c5 : Cc := (.seq (.reg r5_0) (.seq (.seq (.reg r5_1) (.cond (tm 13) (.seq (.reg r5_2) .ret) .skip)) (.seq (.reg r5_3) (.seq (.reg r5_4) (.seq (.reg r5_5) .ret)))))
def r6_0 : List Co := [
  coi 3 (.box 31 (tm 0)),
  co 6 (.assign (.const (.bool false)))]
def r6_1 : List Co := [
  co 11 (.load 31 (tm 3)),
  co 12 (.call ⟨.value (.func 21), #[(tm 11)], #[31]⟩),
  co 13 (.binOp .gtr 3 (tm 12) (.const (.int .i64 400000)) 3)]
def r6_2 : List Co := [
  co 14 (.call ⟨.value (.func 15), #[], #[]⟩),
  co 6 (.assign (tm 14))]
def r6_3 : List Co := [
  co 16 (.load 31 (tm 3)),
  co 17 (.move (tm 1)),
  co 18 (.move (tm 2)),
  co 19 (.call ⟨.value (.func 25), #[(tm 16), (tm 17), (tm 18)], #[31, 3, 3]⟩),
  co 15 (.move (tm 19)),
  co 20 (.extract (tm 15) 0),
  co 21 (.extract (tm 15) 1),
  co 7 (.assign (tm 20)),
  co 8 (.assign (tm 21))]
def r6_4 : List Co := [
  co 23 (.load 31 (tm 3)),
  co 24 (.move (tm 1)),
  co 25 (.move (tm 2)),
  co 26 (.call ⟨.value (.func 26), #[(tm 23), (tm 24), (tm 25)], #[31, 3, 3]⟩),
  co 22 (.move (tm 26)),
  co 27 (.extract (tm 22) 0),
  co 28 (.extract (tm 22) 1),
  co 9 (.assign (tm 27)),
  co 10 (.assign (tm 28))]
def r6_5 : List Co := [
  co 29 (.move (tm 7)),
  co 30 (.move (tm 9)),
  co 31 (.call ⟨.value (.func 27), #[(tm 29), (tm 30)], #[22, 22]⟩),
  co 32 (.move (tm 31)),
  cog 33 (.move (tm 8)) 32 true,
  cog 34 (.move (tm 10)) 32 true,
  cog 35 (.binOp .eql 32 (tm 33) (tm 34) 32) 32 true,
  co 36 (.pick (tm 32) (tm 35) (.const (.bool false))),
  co 37 (.move (tm 36)),
  cog 38 (.call ⟨.value (.func 15), #[], #[]⟩) 37 true,
  co 39 (.pick (tm 37) (tm 38) (.const (.bool false))),
  co 6 (.assign (tm 39))]
/-- wireglass/wireglasslaw03.FileSplits -/
def c6 : Cc := (.seq (.reg r6_0) (.seq (.seq (.reg r6_1) (.cond (tm 13) (.seq (.reg r6_2) .ret) .skip)) (.seq (.reg r6_3) (.seq (.reg r6_4) (.seq (.reg r6_5) .ret)))))
def r18_0 : List Co := [
  co 2 (.box 31 (tm 0)),
  coi 3 (.box 31 (tm 1)),
  co 4 (.assign (.const (.bool false)))]
def r18_1 : List Co := [
  co 9 (.fieldAddr 31 (tm 2) 0),
  co 10 (.load 9 (tm 9)),
  co 11 (.fieldAddr 31 (tm 3) 0),
  co 12 (.load 9 (tm 11)),
  co 13 (.binOp .neq 9 (tm 10) (tm 12) 9),
  co 14 (.move (tm 13)),
  cog 15 (.fieldAddr 31 (tm 2) 1) 14 false,
  cog 16 (.load 26 (tm 15)) 14 false,
  cog 17 (.call ⟨.builtin .len, #[(tm 16)], #[26]⟩) 14 false,
  cog 18 (.fieldAddr 31 (tm 3) 1) 14 false,
  cog 19 (.load 26 (tm 18)) 14 false,
  cog 20 (.call ⟨.builtin .len, #[(tm 19)], #[26]⟩) 14 false,
  cog 21 (.binOp .neq 3 (tm 17) (tm 20) 3) 14 false,
  co 22 (.pick (tm 14) (.const (.bool true)) (tm 21)),
  co 23 (.move (tm 22)),
  cog 24 (.fieldAddr 31 (tm 2) 2) 23 false,
  cog 25 (.load 27 (tm 24)) 23 false,
  cog 26 (.call ⟨.builtin .len, #[(tm 25)], #[27]⟩) 23 false,
  cog 27 (.fieldAddr 31 (tm 3) 2) 23 false,
  cog 28 (.load 27 (tm 27)) 23 false,
  cog 29 (.call ⟨.builtin .len, #[(tm 28)], #[27]⟩) 23 false,
  cog 30 (.binOp .neq 3 (tm 26) (tm 29) 3) 23 false,
  co 31 (.pick (tm 23) (.const (.bool true)) (tm 30)),
  co 32 (.move (tm 31)),
  cog 33 (.fieldAddr 31 (tm 2) 3) 32 false,
  cog 34 (.load 28 (tm 33)) 32 false,
  cog 35 (.call ⟨.builtin .len, #[(tm 34)], #[28]⟩) 32 false,
  cog 36 (.fieldAddr 31 (tm 3) 3) 32 false,
  cog 37 (.load 28 (tm 36)) 32 false,
  cog 38 (.call ⟨.builtin .len, #[(tm 37)], #[28]⟩) 32 false,
  cog 39 (.binOp .neq 3 (tm 35) (tm 38) 3) 32 false,
  co 40 (.pick (tm 32) (.const (.bool true)) (tm 39)),
  co 41 (.move (tm 40)),
  cog 42 (.fieldAddr 31 (tm 2) 4) 41 false,
  cog 43 (.load 29 (tm 42)) 41 false,
  cog 44 (.call ⟨.builtin .len, #[(tm 43)], #[29]⟩) 41 false,
  cog 45 (.fieldAddr 31 (tm 3) 4) 41 false,
  cog 46 (.load 29 (tm 45)) 41 false,
  cog 47 (.call ⟨.builtin .len, #[(tm 46)], #[29]⟩) 41 false,
  cog 48 (.binOp .neq 3 (tm 44) (tm 47) 3) 41 false,
  co 49 (.pick (tm 41) (.const (.bool true)) (tm 48))]
def r18_2 : List Co := [
  co 4 (.assign (.const (.bool false)))]
def r18_3 : List Co := [
  co 5 (.assign (.const (.int .i64 0)))]
def r18_4 : List Co := [
  co 50 (.move (tm 5)),
  co 51 (.fieldAddr 31 (tm 2) 1),
  co 52 (.load 26 (tm 51)),
  co 53 (.call ⟨.builtin .len, #[(tm 52)], #[26]⟩),
  co 54 (.binOp .lss 3 (tm 50) (tm 53) 3)]
def r18_5 : List Co := [
  co 57 (.fieldAddr 31 (tm 2) 1),
  co 58 (.load 26 (tm 57)),
  co 59 (.move (tm 5)),
  co 60 (.indexAddr 26 (tm 58) (tm 59)),
  co 61 (.load 82 (tm 60)),
  co 62 (.fieldAddr 31 (tm 3) 1),
  co 63 (.load 26 (tm 62)),
  co 64 (.move (tm 5)),
  co 65 (.indexAddr 26 (tm 63) (tm 64)),
  co 66 (.load 82 (tm 65)),
  co 67 (.binOp .neq 82 (tm 61) (tm 66) 82)]
def r18_6 : List Co := [
  co 4 (.assign (.const (.bool false)))]
def r18_7 : List Co := [
  co 55 (.move (tm 5)),
  co 56 (.binOp .add 3 (tm 55) (.const (.int .i64 1)) 3),
  co 5 (.assign (tm 56))]
def l18_8 : Cc := (.seq (.seq (.reg r18_4) (.cond (tm 54) .skip (.exit 0))) (.seq (.block 1 (.seq (.reg r18_5) (.cond (tm 67) (.seq (.reg r18_6) .ret) .skip))) (.reg r18_7)))
def r18_9 : List Co := [
  co 6 (.assign (.const (.int .i64 0)))]
def r18_10 : List Co := [
  co 68 (.move (tm 6)),
  co 69 (.fieldAddr 31 (tm 2) 2),
  co 70 (.load 27 (tm 69)),
  co 71 (.call ⟨.builtin .len, #[(tm 70)], #[27]⟩),
  co 72 (.binOp .lss 3 (tm 68) (tm 71) 3)]
def r18_11 : List Co := [
  co 75 (.fieldAddr 31 (tm 2) 2),
  co 76 (.load 27 (tm 75)),
  co 77 (.move (tm 6)),
  co 78 (.indexAddr 27 (tm 76) (tm 77)),
  co 79 (.fieldAddr 97 (tm 78) 1),
  co 80 (.load 9 (tm 79)),
  co 81 (.fieldAddr 31 (tm 3) 2),
  co 82 (.load 27 (tm 81)),
  co 83 (.move (tm 6)),
  co 84 (.indexAddr 27 (tm 82) (tm 83)),
  co 85 (.fieldAddr 97 (tm 84) 1),
  co 86 (.load 9 (tm 85)),
  co 87 (.binOp .neq 9 (tm 80) (tm 86) 9),
  co 88 (.move (tm 87)),
  cog 89 (.fieldAddr 31 (tm 2) 2) 88 false,
  cog 90 (.load 27 (tm 89)) 88 false,
  cog 91 (.move (tm 6)) 88 false,
  cog 92 (.indexAddr 27 (tm 90) (tm 91)) 88 false,
  cog 93 (.fieldAddr 97 (tm 92) 0) 88 false,
  cog 94 (.load 37 (tm 93)) 88 false,
  cog 95 (.fieldAddr 31 (tm 3) 2) 88 false,
  cog 96 (.load 27 (tm 95)) 88 false,
  cog 97 (.move (tm 6)) 88 false,
  cog 98 (.indexAddr 27 (tm 96) (tm 97)) 88 false,
  cog 99 (.fieldAddr 97 (tm 98) 0) 88 false,
  cog 100 (.load 37 (tm 99)) 88 false,
  cog 101 (.call ⟨.value (.func 64), #[(tm 94), (tm 100)], #[37, 37]⟩) 88 false,
  cog 102 (.unOp .not 4 (tm 101)) 88 false,
  co 103 (.pick (tm 88) (.const (.bool true)) (tm 102))]
def r18_12 : List Co := [
  co 4 (.assign (.const (.bool false)))]
def r18_13 : List Co := [
  co 73 (.move (tm 6)),
  co 74 (.binOp .add 3 (tm 73) (.const (.int .i64 1)) 3),
  co 6 (.assign (tm 74))]
def l18_14 : Cc := (.seq (.seq (.reg r18_10) (.cond (tm 72) .skip (.exit 2))) (.seq (.block 3 (.seq (.reg r18_11) (.cond (tm 103) (.seq (.reg r18_12) .ret) .skip))) (.reg r18_13)))
def r18_15 : List Co := [
  co 7 (.assign (.const (.int .i64 0)))]
def r18_16 : List Co := [
  co 104 (.move (tm 7)),
  co 105 (.fieldAddr 31 (tm 2) 3),
  co 106 (.load 28 (tm 105)),
  co 107 (.call ⟨.builtin .len, #[(tm 106)], #[28]⟩),
  co 108 (.binOp .lss 3 (tm 104) (tm 107) 3)]
def r18_17 : List Co := [
  co 111 (.fieldAddr 31 (tm 2) 3),
  co 112 (.load 28 (tm 111)),
  co 113 (.move (tm 7)),
  co 114 (.indexAddr 28 (tm 112) (tm 113)),
  co 115 (.fieldAddr 100 (tm 114) 0),
  co 116 (.load 9 (tm 115)),
  co 117 (.fieldAddr 31 (tm 3) 3),
  co 118 (.load 28 (tm 117)),
  co 119 (.move (tm 7)),
  co 120 (.indexAddr 28 (tm 118) (tm 119)),
  co 121 (.fieldAddr 100 (tm 120) 0),
  co 122 (.load 9 (tm 121)),
  co 123 (.binOp .neq 9 (tm 116) (tm 122) 9),
  co 124 (.move (tm 123)),
  cog 125 (.fieldAddr 31 (tm 2) 3) 124 false,
  cog 126 (.load 28 (tm 125)) 124 false,
  cog 127 (.move (tm 7)) 124 false,
  cog 128 (.indexAddr 28 (tm 126) (tm 127)) 124 false,
  cog 129 (.fieldAddr 100 (tm 128) 1) 124 false,
  cog 130 (.load 37 (tm 129)) 124 false,
  cog 131 (.fieldAddr 31 (tm 3) 3) 124 false,
  cog 132 (.load 28 (tm 131)) 124 false,
  cog 133 (.move (tm 7)) 124 false,
  cog 134 (.indexAddr 28 (tm 132) (tm 133)) 124 false,
  cog 135 (.fieldAddr 100 (tm 134) 1) 124 false,
  cog 136 (.load 37 (tm 135)) 124 false,
  cog 137 (.call ⟨.value (.func 64), #[(tm 130), (tm 136)], #[37, 37]⟩) 124 false,
  cog 138 (.unOp .not 4 (tm 137)) 124 false,
  co 139 (.pick (tm 124) (.const (.bool true)) (tm 138))]
def r18_18 : List Co := [
  co 4 (.assign (.const (.bool false)))]
def r18_19 : List Co := [
  co 109 (.move (tm 7)),
  co 110 (.binOp .add 3 (tm 109) (.const (.int .i64 1)) 3),
  co 7 (.assign (tm 110))]
def l18_20 : Cc := (.seq (.seq (.reg r18_16) (.cond (tm 108) .skip (.exit 4))) (.seq (.block 5 (.seq (.reg r18_17) (.cond (tm 139) (.seq (.reg r18_18) .ret) .skip))) (.reg r18_19)))
def r18_21 : List Co := [
  co 8 (.assign (.const (.int .i64 0)))]
def r18_22 : List Co := [
  co 140 (.move (tm 8)),
  co 141 (.fieldAddr 31 (tm 2) 4),
  co 142 (.load 29 (tm 141)),
  co 143 (.call ⟨.builtin .len, #[(tm 142)], #[29]⟩),
  co 144 (.binOp .lss 3 (tm 140) (tm 143) 3)]
def r18_23 : List Co := [
  co 147 (.fieldAddr 31 (tm 2) 4),
  co 148 (.load 29 (tm 147)),
  co 149 (.move (tm 8)),
  co 150 (.indexAddr 29 (tm 148) (tm 149)),
  co 151 (.load 56 (tm 150)),
  co 152 (.fieldAddr 31 (tm 3) 4),
  co 153 (.load 29 (tm 152)),
  co 154 (.move (tm 8)),
  co 155 (.indexAddr 29 (tm 153) (tm 154)),
  co 156 (.load 56 (tm 155)),
  co 157 (.call ⟨.value (.func 65), #[(tm 151), (tm 156)], #[56, 56]⟩),
  co 158 (.unOp .not 4 (tm 157))]
def r18_24 : List Co := [
  co 4 (.assign (.const (.bool false)))]
def r18_25 : List Co := [
  co 145 (.move (tm 8)),
  co 146 (.binOp .add 3 (tm 145) (.const (.int .i64 1)) 3),
  co 8 (.assign (tm 146))]
def l18_26 : Cc := (.seq (.seq (.reg r18_22) (.cond (tm 144) .skip (.exit 6))) (.seq (.block 7 (.seq (.reg r18_23) (.cond (tm 158) (.seq (.reg r18_24) .ret) .skip))) (.reg r18_25)))
def r18_27 : List Co := [
  co 4 (.assign (.const (.bool true)))]
/-- wireglass/wireglassref02.Same -/
def c18 : Cc := (.seq (.reg r18_0) (.seq (.seq (.reg r18_1) (.cond (tm 49) (.seq (.reg r18_2) .ret) .skip)) (.seq (.seq (.reg r18_3) (.block 0 (.loop l18_8))) (.seq (.seq (.reg r18_9) (.block 2 (.loop l18_14))) (.seq (.seq (.reg r18_15) (.block 4 (.loop l18_20))) (.seq (.seq (.reg r18_21) (.block 6 (.loop l18_26))) (.seq (.reg r18_27) .ret)))))))
def r21_0 : List Co := [
  co 1 (.box 31 (tm 0)),
  co 2 (.assign (.const (.int .i64 0)))]
def r21_1 : List Co := [
  co 8 (.fieldAddr 31 (tm 1) 0),
  co 9 (.load 9 (tm 8)),
  co 10 (.call ⟨.builtin .len, #[(tm 9)], #[9]⟩),
  co 11 (.fieldAddr 31 (tm 1) 1),
  co 12 (.load 26 (tm 11)),
  co 13 (.call ⟨.builtin .len, #[(tm 12)], #[26]⟩),
  co 14 (.fieldAddr 31 (tm 1) 2),
  co 15 (.load 27 (tm 14)),
  co 16 (.call ⟨.builtin .len, #[(tm 15)], #[27]⟩),
  co 17 (.binOp .add 3 (tm 13) (tm 16) 3),
  co 18 (.fieldAddr 31 (tm 1) 3),
  co 19 (.load 28 (tm 18)),
  co 20 (.call ⟨.builtin .len, #[(tm 19)], #[28]⟩),
  co 21 (.binOp .add 3 (tm 17) (tm 20) 3),
  co 22 (.fieldAddr 31 (tm 1) 4),
  co 23 (.load 29 (tm 22)),
  co 24 (.call ⟨.builtin .len, #[(tm 23)], #[29]⟩),
  co 25 (.binOp .add 3 (tm 21) (tm 24) 3),
  co 26 (.binOp .mul 3 (.const (.int .i64 8)) (tm 25) 3),
  co 27 (.binOp .add 3 (tm 10) (tm 26) 3),
  co 3 (.assign (tm 27))]
def r21_2 : List Co := [
  co 4 (.assign (.const (.int .i64 0)))]
def r21_3 : List Co := [
  co 28 (.move (tm 4)),
  co 29 (.fieldAddr 31 (tm 1) 1),
  co 30 (.load 26 (tm 29)),
  co 31 (.call ⟨.builtin .len, #[(tm 30)], #[26]⟩),
  co 32 (.binOp .lss 3 (tm 28) (tm 31) 3)]
def r21_4 : List Co := [
  co 35 (.move (tm 3)),
  co 36 (.fieldAddr 31 (tm 1) 1),
  co 37 (.load 26 (tm 36)),
  co 38 (.move (tm 4)),
  co 39 (.indexAddr 26 (tm 37) (tm 38)),
  co 40 (.fieldAddr 82 (tm 39) 0),
  co 41 (.load 9 (tm 40)),
  co 42 (.call ⟨.builtin .len, #[(tm 41)], #[9]⟩),
  co 43 (.binOp .add 3 (tm 35) (tm 42) 3),
  co 3 (.assign (tm 43))]
def r21_5 : List Co := [
  co 33 (.move (tm 4)),
  co 34 (.binOp .add 3 (tm 33) (.const (.int .i64 1)) 3),
  co 4 (.assign (tm 34))]
def l21_6 : Cc := (.seq (.seq (.reg r21_3) (.cond (tm 32) .skip (.exit 0))) (.seq (.block 1 (.reg r21_4)) (.reg r21_5)))
def r21_7 : List Co := [
  co 5 (.assign (.const (.int .i64 0)))]
def r21_8 : List Co := [
  co 44 (.move (tm 5)),
  co 45 (.fieldAddr 31 (tm 1) 2),
  co 46 (.load 27 (tm 45)),
  co 47 (.call ⟨.builtin .len, #[(tm 46)], #[27]⟩),
  co 48 (.binOp .lss 3 (tm 44) (tm 47) 3)]
def r21_9 : List Co := [
  co 51 (.move (tm 3)),
  co 52 (.fieldAddr 31 (tm 1) 2),
  co 53 (.load 27 (tm 52)),
  co 54 (.move (tm 5)),
  co 55 (.indexAddr 27 (tm 53) (tm 54)),
  co 56 (.fieldAddr 97 (tm 55) 0),
  co 57 (.load 37 (tm 56)),
  co 58 (.call ⟨.builtin .len, #[(tm 57)], #[37]⟩),
  co 59 (.fieldAddr 31 (tm 1) 2),
  co 60 (.load 27 (tm 59)),
  co 61 (.move (tm 5)),
  co 62 (.indexAddr 27 (tm 60) (tm 61)),
  co 63 (.fieldAddr 97 (tm 62) 1),
  co 64 (.load 9 (tm 63)),
  co 65 (.call ⟨.builtin .len, #[(tm 64)], #[9]⟩),
  co 66 (.binOp .add 3 (tm 58) (tm 65) 3),
  co 67 (.binOp .add 3 (tm 51) (tm 66) 3),
  co 3 (.assign (tm 67))]
def r21_10 : List Co := [
  co 49 (.move (tm 5)),
  co 50 (.binOp .add 3 (tm 49) (.const (.int .i64 1)) 3),
  co 5 (.assign (tm 50))]
def l21_11 : Cc := (.seq (.seq (.reg r21_8) (.cond (tm 48) .skip (.exit 2))) (.seq (.block 3 (.reg r21_9)) (.reg r21_10)))
def r21_12 : List Co := [
  co 6 (.assign (.const (.int .i64 0)))]
def r21_13 : List Co := [
  co 68 (.move (tm 6)),
  co 69 (.fieldAddr 31 (tm 1) 3),
  co 70 (.load 28 (tm 69)),
  co 71 (.call ⟨.builtin .len, #[(tm 70)], #[28]⟩),
  co 72 (.binOp .lss 3 (tm 68) (tm 71) 3)]
def r21_14 : List Co := [
  co 75 (.move (tm 3)),
  co 76 (.fieldAddr 31 (tm 1) 3),
  co 77 (.load 28 (tm 76)),
  co 78 (.move (tm 6)),
  co 79 (.indexAddr 28 (tm 77) (tm 78)),
  co 80 (.fieldAddr 100 (tm 79) 0),
  co 81 (.load 9 (tm 80)),
  co 82 (.call ⟨.builtin .len, #[(tm 81)], #[9]⟩),
  co 83 (.fieldAddr 31 (tm 1) 3),
  co 84 (.load 28 (tm 83)),
  co 85 (.move (tm 6)),
  co 86 (.indexAddr 28 (tm 84) (tm 85)),
  co 87 (.fieldAddr 100 (tm 86) 1),
  co 88 (.load 37 (tm 87)),
  co 89 (.call ⟨.builtin .len, #[(tm 88)], #[37]⟩),
  co 90 (.binOp .add 3 (tm 82) (tm 89) 3),
  co 91 (.binOp .add 3 (tm 75) (tm 90) 3),
  co 3 (.assign (tm 91))]
def r21_15 : List Co := [
  co 73 (.move (tm 6)),
  co 74 (.binOp .add 3 (tm 73) (.const (.int .i64 1)) 3),
  co 6 (.assign (tm 74))]
def l21_16 : Cc := (.seq (.seq (.reg r21_13) (.cond (tm 72) .skip (.exit 4))) (.seq (.block 5 (.reg r21_14)) (.reg r21_15)))
def r21_17 : List Co := [
  co 7 (.assign (.const (.int .i64 0)))]
def r21_18 : List Co := [
  co 92 (.move (tm 7)),
  co 93 (.fieldAddr 31 (tm 1) 4),
  co 94 (.load 29 (tm 93)),
  co 95 (.call ⟨.builtin .len, #[(tm 94)], #[29]⟩),
  co 96 (.binOp .lss 3 (tm 92) (tm 95) 3)]
def r21_19 : List Co := [
  co 99 (.move (tm 3)),
  co 100 (.fieldAddr 31 (tm 1) 4),
  co 101 (.load 29 (tm 100)),
  co 102 (.move (tm 7)),
  co 103 (.indexAddr 29 (tm 101) (tm 102)),
  co 104 (.fieldAddr 56 (tm 103) 3),
  co 105 (.load 37 (tm 104)),
  co 106 (.call ⟨.builtin .len, #[(tm 105)], #[37]⟩),
  co 107 (.fieldAddr 31 (tm 1) 4),
  co 108 (.load 29 (tm 107)),
  co 109 (.move (tm 7)),
  co 110 (.indexAddr 29 (tm 108) (tm 109)),
  co 111 (.fieldAddr 56 (tm 110) 4),
  co 112 (.load 9 (tm 111)),
  co 113 (.call ⟨.builtin .len, #[(tm 112)], #[9]⟩),
  co 114 (.binOp .add 3 (tm 106) (tm 113) 3),
  co 115 (.binOp .add 3 (tm 99) (tm 114) 3),
  co 3 (.assign (tm 115))]
def r21_20 : List Co := [
  co 97 (.move (tm 7)),
  co 98 (.binOp .add 3 (tm 97) (.const (.int .i64 1)) 3),
  co 7 (.assign (tm 98))]
def l21_21 : Cc := (.seq (.seq (.reg r21_18) (.cond (tm 96) .skip (.exit 6))) (.seq (.block 7 (.reg r21_19)) (.reg r21_20)))
def r21_22 : List Co := [
  co 116 (.move (tm 3)),
  co 2 (.assign (tm 116))]
/-- wireglass/wireglassref03.Weight -/
def c21 : Cc := (.seq (.reg r21_0) (.seq (.reg r21_1) (.seq (.seq (.reg r21_2) (.block 0 (.loop l21_6))) (.seq (.seq (.reg r21_7) (.block 2 (.loop l21_11))) (.seq (.seq (.reg r21_12) (.block 4 (.loop l21_16))) (.seq (.seq (.reg r21_17) (.block 6 (.loop l21_21))) (.seq (.reg r21_22) .ret)))))))
def r22_0 : List Co := [
  coi 3 (.box 31 (tm 0)),
  coi 5 (.box 3 (tm 2)),
  co 6 (.assign (.const (.slice none 0 0))),
  co 7 (.assign (.const (.int .i64 0)))]
def r22_1 : List Co := [
  co 12 (.load 31 (tm 3)),
  coi 13 (.buildSlice 22 1 #[(0, (tm 12))]),
  co 14 (.call ⟨.value (.func 54), #[(tm 13)], #[22]⟩),
  co 8 (.assign (tm 14))]
def r22_2 : List Co := [
  co 15 (.move (tm 8)),
  co 16 (.binOp .neq 32 (tm 15) (.const (.int .i64 0)) 32)]
def r22_3 : List Co := [
  co 17 (.move (tm 8)),
  co 6 (.assign (.const (.slice none 0 0))),
  co 7 (.assign (tm 17))]
def r22_4 : List Co := [
  co 18 (.move (tm 1)),
  co 19 (.binOp .lss 3 (tm 18) (.const (.int .i64 1)) 3),
  co 20 (.move (tm 19)),
  cog 21 (.move (tm 1)) 20 false,
  cog 22 (.binOp .gtr 3 (tm 21) (.const (.int .i64 100)) 3) 20 false,
  co 23 (.pick (tm 20) (.const (.bool true)) (tm 22)),
  co 24 (.move (tm 23)),
  cog 25 (.load 3 (tm 5)) 24 false,
  cog 26 (.call ⟨.value (.func 68), #[(tm 25)], #[3]⟩) 24 false,
  cog 27 (.unOp .not 4 (tm 26)) 24 false,
  co 28 (.pick (tm 24) (.const (.bool true)) (tm 27))]
def r22_5 : List Co := [
  co 6 (.assign (.const (.slice none 0 0))),
  co 7 (.assign (.const (.int .i64 1)))]
def r22_6 : List Co := [
  coi 9 (.assign (.const (.slice none 0 0)))]
def r22_7 : List Co := [
  co 29 (.fieldAddr 31 (tm 3) 4),
  co 30 (.load 29 (tm 29)),
  co 31 (.call ⟨.builtin .len, #[(tm 30)], #[29]⟩),
  co 32 (.move (.const (.int .i64 0)))]
def r22_8 : List Co := [
  co 33 (.binOp .lss 3 (tm 32) (tm 31) 3)]
def r22_9 : List Co := [
  co 34 (.move (tm 32)),
  co 35 (.indexAddr 29 (tm 30) (tm 32)),
  co 36 (.load 56 (tm 35)),
  co 11 (.alloc 56),
  co 10 (.assign (tm 34)),
  coz (.store 56 (tm 11) (tm 36))]
def r22_10 : List Co := [
  co 37 (.fieldAddr 31 (tm 3) 4),
  co 38 (.load 29 (tm 37)),
  co 39 (.move (tm 10)),
  co 40 (.move (tm 1)),
  co 41 (.binOp .sub 3 (tm 39) (tm 40) 3),
  co 42 (.call ⟨.builtin .max, #[(.const (.int .i64 0)), (tm 41)], #[3, 3]⟩),
  co 43 (.move (tm 10)),
  co 44 (.slice 29 (tm 38) (some (tm 42)) (some (tm 43)) none),
  co 45 (.makeFunc (.func 70) #[] #[(tm 11), (tm 5)]),
  co 46 (.call ⟨.value (.func 69), #[(tm 44), (tm 45)], #[29, 107]⟩)]
def r22_11 : List Co := [
  co 47 (.move (tm 9)),
  co 48 (.move (tm 10)),
  coi 49 (.buildSlice 23 1 #[(0, (tm 48))]),
  co 50 (.call ⟨.builtin .append, #[(tm 47), (tm 49)], #[23, 23]⟩),
  co 9 (.assign (tm 50))]
def r22_12 : List Co := [
  co 51 (.binOp .add 3 (tm 32) (.const (.int .i64 1)) 3),
  co 32 (.move (tm 51))]
def l22_13 : Cc := (.seq (.reg r22_8) (.seq (.cond (tm 33) .skip (.exit 0)) (.seq (.block 1 (.seq (.reg r22_9) (.seq (.reg r22_10) (.cond (tm 46) (.reg r22_11) .skip)))) (.reg r22_12))))
def r22_14 : List Co := [
  co 52 (.move (tm 9)),
  co 6 (.assign (tm 52)),
  co 7 (.assign (.const (.int .i64 0)))]
/-- wireglass/file.Doubles -/
def c22 : Cc := (.seq (.reg r22_0) (.seq (.seq (.reg r22_1) (.seq (.reg r22_2) (.cond (tm 16) (.seq (.reg r22_3) .ret) .skip))) (.seq (.seq (.reg r22_4) (.cond (tm 28) (.seq (.reg r22_5) .ret) .skip)) (.seq (.reg r22_6) (.seq (.seq (.reg r22_7) (.block 0 (.loop l22_13))) (.seq (.reg r22_14) .ret))))))
def r23_0 : List Co := [
  coi 3 (.box 31 (tm 0)),
  co 6 (.assign (.const (.slice none 0 0))),
  co 7 (.assign (.const (.int .i64 0)))]
def r23_1 : List Co := [
  co 16 (.load 31 (tm 3)),
  co 17 (.call ⟨.value (.func 63), #[(tm 16)], #[31]⟩),
  co 8 (.assign (tm 17))]
def r23_2 : List Co := [
  co 18 (.move (tm 8)),
  co 19 (.binOp .neq 32 (tm 18) (.const (.int .i64 0)) 32)]
def r23_3 : List Co := [
  co 20 (.move (tm 8)),
  co 6 (.assign (.const (.slice none 0 0))),
  co 7 (.assign (tm 20))]
def r23_4 : List Co := [
  co 21 (.move (tm 1)),
  co 22 (.binOp .lss 3 (tm 21) (.const (.int .i64 1)) 3),
  co 23 (.move (tm 22)),
  cog 24 (.move (tm 1)) 23 false,
  cog 25 (.binOp .gtr 3 (tm 24) (.const (.int .i64 100)) 3) 23 false,
  co 26 (.pick (tm 23) (.const (.bool true)) (tm 25)),
  co 27 (.move (tm 26)),
  cog 28 (.move (tm 2)) 27 false,
  cog 29 (.call ⟨.value (.func 72), #[(tm 28)], #[3]⟩) 27 false,
  cog 30 (.unOp .not 4 (tm 29)) 27 false,
  co 31 (.pick (tm 27) (.const (.bool true)) (tm 30))]
def r23_5 : List Co := [
  co 6 (.assign (.const (.slice none 0 0))),
  co 7 (.assign (.const (.int .i64 1)))]
def r23_6 : List Co := [
  coi 9 (.assign (.const (.slice none 0 0)))]
def r23_7 : List Co := [
  co 10 (.assign (.const (.int .i64 0)))]
def r23_8 : List Co := [
  co 32 (.move (tm 10)),
  co 33 (.fieldAddr 31 (tm 3) 4),
  co 34 (.load 29 (tm 33)),
  co 35 (.call ⟨.builtin .len, #[(tm 34)], #[29]⟩),
  co 36 (.binOp .lss 3 (tm 32) (tm 35) 3)]
def r23_9 : List Co := [
  co 11 (.assign (.const (.bool false)))]
def r23_10 : List Co := [
  co 39 (.move (tm 10)),
  co 40 (.move (tm 1)),
  co 41 (.binOp .sub 3 (tm 39) (tm 40) 3),
  co 42 (.call ⟨.builtin .max, #[(.const (.int .i64 0)), (tm 41)], #[3, 3]⟩),
  co 12 (.assign (tm 42))]
def r23_11 : List Co := [
  co 43 (.move (tm 12)),
  co 44 (.move (tm 10)),
  co 45 (.binOp .lss 3 (tm 43) (tm 44) 3)]
def r23_12 : List Co := [
  co 48 (.fieldAddr 31 (tm 3) 4),
  co 49 (.load 29 (tm 48)),
  co 50 (.move (tm 12)),
  co 51 (.indexAddr 29 (tm 49) (tm 50)),
  co 52 (.load 56 (tm 51)),
  co 53 (.fieldAddr 31 (tm 3) 4),
  co 54 (.load 29 (tm 53)),
  co 55 (.move (tm 10)),
  co 56 (.indexAddr 29 (tm 54) (tm 55)),
  co 57 (.load 56 (tm 56)),
  co 13 (.alloc 56),
  co 14 (.alloc 56),
  ⟨none, .store 56 (tm 13) (tm 52), false, none, false, false, [(none, .load 29 (tm 53)), (none, .load 56 (tm 56))]⟩,
  coz (.store 56 (tm 14) (tm 57))]
def r23_13 : List Co := [
  co 58 (.fieldAddr 56 (tm 13) 0),
  co 59 (.load 3 (tm 58)),
  co 60 (.fieldAddr 56 (tm 14) 0),
  co 61 (.load 3 (tm 60)),
  co 62 (.binOp .sub 3 (tm 59) (tm 61) 3),
  co 15 (.assign (tm 62))]
def r23_14 : List Co := [
  co 63 (.move (tm 11)),
  co 64 (.move (tm 63)),
  cog 65 (.fieldAddr 56 (tm 13) 3) 64 false,
  cog 66 (.load 37 (tm 65)) 64 false,
  cog 67 (.convert 37 9 (tm 66)) 64 false,
  cog 68 (.fieldAddr 56 (tm 14) 3) 64 false,
  cog 69 (.load 37 (tm 68)) 64 false,
  cog 70 (.convert 37 9 (tm 69)) 64 false,
  cog 71 (.binOp .eql 9 (tm 67) (tm 70) 9) 64 false,
  cog 72 (.move (tm 71)) 64 false,
  cog 73 (.fieldAddr 56 (tm 13) 2) 72 true,
  cog 74 (.load 3 (tm 73)) 72 true,
  cog 75 (.fieldAddr 56 (tm 14) 2) 72 true,
  cog 76 (.load 3 (tm 75)) 72 true,
  cog 77 (.binOp .eql 3 (tm 74) (tm 76) 3) 72 true,
  cog 78 (.pick (tm 72) (tm 77) (.const (.bool false))) 64 false,
  cog 79 (.move (tm 78)) 64 false,
  cog 80 (.move (tm 15)) 79 true,
  cog 81 (.move (tm 2)) 79 true,
  cog 82 (.binOp .leq 3 (tm 80) (tm 81) 3) 79 true,
  cog 83 (.pick (tm 79) (tm 82) (.const (.bool false))) 64 false,
  cog 84 (.move (tm 83)) 64 false,
  cog 85 (.move (tm 15)) 84 true,
  cog 86 (.unOp .neg 3 (tm 85)) 84 true,
  cog 87 (.move (tm 2)) 84 true,
  cog 88 (.binOp .leq 3 (tm 86) (tm 87) 3) 84 true,
  cog 89 (.pick (tm 84) (tm 88) (.const (.bool false))) 64 false,
  co 90 (.pick (tm 64) (.const (.bool true)) (tm 89)),
  co 11 (.assign (tm 90))]
def r23_15 : List Co := [
  co 46 (.move (tm 12)),
  co 47 (.binOp .add 3 (tm 46) (.const (.int .i64 1)) 3),
  co 12 (.assign (tm 47))]
def l23_16 : Cc := (.seq (.seq (.reg r23_11) (.cond (tm 45) .skip (.exit 2))) (.seq (.block 3 (.seq (.reg r23_12) (.seq (.reg r23_13) (.reg r23_14)))) (.reg r23_15)))
def r23_17 : List Co := [
  co 91 (.move (tm 11))]
def r23_18 : List Co := [
  co 92 (.move (tm 9)),
  co 93 (.move (tm 10)),
  coi 94 (.buildSlice 23 1 #[(0, (tm 93))]),
  co 95 (.call ⟨.builtin .append, #[(tm 92), (tm 94)], #[23, 23]⟩),
  co 9 (.assign (tm 95))]
def r23_19 : List Co := [
  co 37 (.move (tm 10)),
  co 38 (.binOp .add 3 (tm 37) (.const (.int .i64 1)) 3),
  co 10 (.assign (tm 38))]
def l23_20 : Cc := (.seq (.seq (.reg r23_8) (.cond (tm 36) .skip (.exit 0))) (.seq (.block 1 (.seq (.reg r23_9) (.seq (.seq (.reg r23_10) (.block 2 (.loop l23_16))) (.seq (.reg r23_17) (.cond (tm 91) (.reg r23_18) .skip))))) (.reg r23_19)))
def r23_21 : List Co := [
  co 96 (.move (tm 9)),
  co 6 (.assign (tm 96)),
  co 7 (.assign (.const (.int .i64 0)))]
/-- wireglass/wireglassref03.Doubles -/
def c23 : Cc := (.seq (.reg r23_0) (.seq (.seq (.reg r23_1) (.seq (.reg r23_2) (.cond (tm 19) (.seq (.reg r23_3) .ret) .skip))) (.seq (.seq (.reg r23_4) (.cond (tm 31) (.seq (.reg r23_5) .ret) .skip)) (.seq (.reg r23_6) (.seq (.seq (.reg r23_7) (.block 0 (.loop l23_20))) (.seq (.reg r23_21) .ret))))))
def r24_0 : List Co := [
  co 4 (.assign (.const (.bool false)))]
def r24_1 : List Co := [
  co 6 (.move (tm 0)),
  co 7 (.call ⟨.builtin .len, #[(tm 6)], #[23]⟩),
  co 8 (.move (tm 1)),
  co 9 (.call ⟨.builtin .len, #[(tm 8)], #[23]⟩),
  co 10 (.binOp .neq 3 (tm 7) (tm 9) 3)]
def r24_2 : List Co := [
  co 4 (.assign (.const (.bool false)))]
def r24_3 : List Co := [
  co 5 (.assign (.const (.int .i64 0)))]
def r24_4 : List Co := [
  co 11 (.move (tm 5)),
  co 12 (.move (tm 0)),
  co 13 (.call ⟨.builtin .len, #[(tm 12)], #[23]⟩),
  co 14 (.binOp .lss 3 (tm 11) (tm 13) 3)]
def r24_5 : List Co := [
  co 17 (.move (tm 0)),
  co 18 (.move (tm 5)),
  co 19 (.indexAddr 23 (tm 17) (tm 18)),
  co 20 (.load 3 (tm 19)),
  co 21 (.move (tm 1)),
  co 22 (.move (tm 5)),
  co 23 (.indexAddr 23 (tm 21) (tm 22)),
  co 24 (.load 3 (tm 23)),
  co 25 (.binOp .neq 3 (tm 20) (tm 24) 3)]
def r24_6 : List Co := [
  co 4 (.assign (.const (.bool false)))]
def r24_7 : List Co := [
  co 15 (.move (tm 5)),
  co 16 (.binOp .add 3 (tm 15) (.const (.int .i64 1)) 3),
  co 5 (.assign (tm 16))]
def l24_8 : Cc := (.seq (.seq (.reg r24_4) (.cond (tm 14) .skip (.exit 0))) (.seq (.block 1 (.seq (.reg r24_5) (.cond (tm 25) (.seq (.reg r24_6) .ret) .skip))) (.reg r24_7)))
def r24_9 : List Co := [
  co 4 (.assign (.const (.bool true)))]
/-- wireglass/wireglassref02.SameInts -/
def c24 : Cc := (.seq (.reg r24_0) (.seq (.seq (.reg r24_1) (.cond (tm 10) (.seq (.reg r24_2) .ret) .skip)) (.seq (.seq (.reg r24_3) (.block 0 (.loop l24_8))) (.seq (.reg r24_9) .ret))))
def r25_0 : List Co := [
  coi 3 (.box 31 (tm 0)),
  co 6 (.assign (.const (.slice none 0 0))),
  co 7 (.assign (.const (.int .i64 0)))]
def r25_1 : List Co := [
  co 18 (.load 31 (tm 3)),
  coi 19 (.buildSlice 22 1 #[(0, (tm 18))]),
  co 20 (.call ⟨.value (.func 54), #[(tm 19)], #[22]⟩),
  co 8 (.assign (tm 20))]
def r25_2 : List Co := [
  co 21 (.move (tm 8)),
  co 22 (.binOp .neq 32 (tm 21) (.const (.int .i64 0)) 32)]
def r25_3 : List Co := [
  co 23 (.move (tm 8)),
  co 6 (.assign (.const (.slice none 0 0))),
  co 7 (.assign (tm 23))]
def r25_4 : List Co := [
  co 24 (.move (tm 1)),
  co 25 (.binOp .lss 3 (tm 24) (.const (.int .i64 0)) 3),
  co 26 (.move (tm 25)),
  cog 27 (.move (tm 1)) 26 false,
  cog 28 (.binOp .gtr 3 (tm 27) (.const (.int .i64 2)) 3) 26 false,
  co 29 (.pick (tm 26) (.const (.bool true)) (tm 28)),
  co 30 (.move (tm 29)),
  cog 31 (.move (tm 2)) 30 false,
  cog 32 (.binOp .lss 3 (tm 31) (.const (.int .i64 1)) 3) 30 false,
  co 33 (.pick (tm 30) (.const (.bool true)) (tm 32))]
def r25_5 : List Co := [
  co 6 (.assign (.const (.slice none 0 0))),
  co 7 (.assign (.const (.int .i64 1)))]
def r25_6 : List Co := [
  co 34 (.move (tm 1)),
  co 35 (.move (tm 2)),
  co 36 (.call ⟨.value (.func 73), #[(tm 34), (tm 35)], #[3, 3]⟩),
  co 9 (.assign (tm 36))]
def r25_7 : List Co := [
  co 37 (.buildSlice 68 1 #[(0, (.const (.slice none 0 0)))]),
  co 10 (.assign (tm 37))]
def r25_8 : List Co := [
  co 38 (.load 31 (tm 3)),
  co 39 (.call ⟨.value (.func 74), #[(tm 38)], #[31]⟩),
  co 40 (.field 31 (tm 39) 4),
  co 41 (.call ⟨.builtin .len, #[(tm 40)], #[29]⟩),
  co 42 (.move (.const (.int .i64 0)))]
def r25_9 : List Co := [
  co 43 (.binOp .lss 3 (tm 42) (tm 41) 3)]
def r25_10 : List Co := [
  co 44 (.indexAddr 29 (tm 40) (tm 42)),
  co 45 (.load 56 (tm 44)),
  co 12 (.alloc 56),
  coz (.store 56 (tm 12) (tm 45))]
def r25_11 : List Co := [
  co 46 (.move (tm 10)),
  co 47 (.call ⟨.builtin .len, #[(tm 46)], #[68]⟩),
  co 48 (.binOp .sub 3 (tm 47) (.const (.int .i64 1)) 3),
  co 13 (.assign (tm 48))]
def r25_12 : List Co := [
  co 49 (.move (tm 10)),
  co 50 (.move (tm 13)),
  co 51 (.indexAddr 68 (tm 49) (tm 50)),
  co 52 (.load 29 (tm 51)),
  co 53 (.call ⟨.builtin .len, #[(tm 52)], #[29]⟩),
  co 54 (.binOp .gtr 3 (tm 53) (.const (.int .i64 0)) 3),
  co 55 (.move (tm 54)),
  cog 56 (.move (tm 9)) 55 true,
  cog 57 (.move (tm 10)) 55 true,
  cog 58 (.move (tm 13)) 55 true,
  cog 59 (.indexAddr 68 (tm 57) (tm 58)) 55 true,
  cog 60 (.load 29 (tm 59)) 55 true,
  cog 61 (.load 56 (tm 12)) 55 true,
  cog 62 (.call ⟨.value (tm 56), #[(tm 60), (tm 61)], #[29, 56]⟩) 55 true,
  co 63 (.pick (tm 55) (tm 62) (.const (.bool false)))]
def r25_13 : List Co := [
  co 64 (.move (tm 10)),
  coi 65 (.buildSlice 68 1 #[(0, (.const (.slice none 0 0)))]),
  co 66 (.call ⟨.builtin .append, #[(tm 64), (tm 65)], #[68, 68]⟩),
  co 10 (.assign (tm 66))]
def r25_14 : List Co := [
  co 67 (.move (tm 13)),
  co 68 (.binOp .add 3 (tm 67) (.const (.int .i64 1)) 3),
  co 13 (.assign (tm 68))]
def r25_15 : List Co := [
  co 69 (.move (tm 10)),
  co 70 (.move (tm 13)),
  co 71 (.move (tm 10)),
  co 72 (.move (tm 13)),
  co 73 (.indexAddr 68 (tm 71) (tm 72)),
  co 74 (.load 29 (tm 73)),
  co 75 (.load 56 (tm 12)),
  coi 76 (.buildSlice 29 1 #[(0, (tm 75))]),
  co 77 (.call ⟨.builtin .append, #[(tm 74), (tm 76)], #[29, 29]⟩),
  co 78 (.indexAddr 68 (tm 69) (tm 70)),
  coz (.store 29 (tm 78) (tm 77))]
def r25_16 : List Co := [
  co 79 (.binOp .add 3 (tm 42) (.const (.int .i64 1)) 3),
  co 42 (.move (tm 79))]
def l25_17 : Cc := (.seq (.reg r25_9) (.seq (.cond (tm 43) .skip (.exit 0)) (.seq (.block 1 (.seq (.reg r25_10) (.seq (.reg r25_11) (.seq (.seq (.reg r25_12) (.cond (tm 63) (.seq (.reg r25_13) (.reg r25_14)) .skip)) (.reg r25_15))))) (.reg r25_16))))
def r25_18 : List Co := [
  co 14 (.assign (.const (.slice none 0 0)))]
def r25_19 : List Co := [
  co 80 (.move (tm 10)),
  co 81 (.call ⟨.builtin .len, #[(tm 80)], #[68]⟩),
  co 82 (.move (.const (.int .i64 0)))]
def r25_20 : List Co := [
  co 83 (.binOp .lss 3 (tm 82) (tm 81) 3)]
def r25_21 : List Co := [
  co 84 (.indexAddr 68 (tm 80) (tm 82)),
  co 85 (.load 29 (tm 84)),
  co 16 (.assign (tm 85))]
def r25_22 : List Co := [
  co 86 (.load 31 (tm 3)),
  co 87 (.call ⟨.value (.func 74), #[(tm 86)], #[31]⟩),
  co 17 (.alloc 31),
  coz (.store 31 (tm 17) (tm 87))]
def r25_23 : List Co := [
  co 88 (.move (tm 16)),
  co 89 (.fieldAddr 31 (tm 17) 4),
  coz (.store 29 (tm 89) (tm 88))]
def r25_24 : List Co := [
  co 90 (.move (tm 14)),
  co 91 (.load 31 (tm 17)),
  co 92 (.buildSlice 22 1 #[(0, (tm 91))]),
  co 93 (.call ⟨.builtin .append, #[(tm 90), (tm 92)], #[22, 22]⟩),
  co 14 (.assign (tm 93))]
def r25_25 : List Co := [
  co 94 (.binOp .add 3 (tm 82) (.const (.int .i64 1)) 3),
  co 82 (.move (tm 94))]
def l25_26 : Cc := (.seq (.reg r25_20) (.seq (.cond (tm 83) .skip (.exit 2)) (.seq (.block 3 (.seq (.reg r25_21) (.seq (.reg r25_22) (.seq (.reg r25_23) (.reg r25_24))))) (.reg r25_25))))
def r25_27 : List Co := [
  co 95 (.move (tm 14)),
  co 6 (.assign (tm 95)),
  co 7 (.assign (.const (.int .i64 0)))]
/-- wireglass/file.Split -/
def c25 : Cc := (.seq (.reg r25_0) (.seq (.seq (.reg r25_1) (.seq (.reg r25_2) (.cond (tm 22) (.seq (.reg r25_3) .ret) .skip))) (.seq (.seq (.reg r25_4) (.cond (tm 33) (.seq (.reg r25_5) .ret) .skip)) (.seq (.reg r25_6) (.seq (.reg r25_7) (.seq (.seq (.reg r25_8) (.block 0 (.loop l25_17))) (.seq (.reg r25_18) (.seq (.seq (.reg r25_19) (.block 2 (.loop l25_26))) (.seq (.reg r25_27) .ret)))))))))
def r26_0 : List Co := [
  coi 3 (.box 31 (tm 0)),
  co 6 (.assign (.const (.slice none 0 0))),
  co 7 (.assign (.const (.int .i64 0)))]
def r26_1 : List Co := [
  co 12 (.load 31 (tm 3)),
  co 13 (.call ⟨.value (.func 63), #[(tm 12)], #[31]⟩),
  co 8 (.assign (tm 13))]
def r26_2 : List Co := [
  co 14 (.move (tm 8)),
  co 15 (.binOp .neq 32 (tm 14) (.const (.int .i64 0)) 32)]
def r26_3 : List Co := [
  co 16 (.move (tm 8)),
  co 6 (.assign (.const (.slice none 0 0))),
  co 7 (.assign (tm 16))]
def r26_4 : List Co := [
  co 17 (.move (tm 1)),
  co 18 (.binOp .lss 3 (tm 17) (.const (.int .i64 0)) 3),
  co 19 (.move (tm 18)),
  cog 20 (.move (tm 1)) 19 false,
  cog 21 (.binOp .gtr 3 (tm 20) (.const (.int .i64 2)) 3) 19 false,
  co 22 (.pick (tm 19) (.const (.bool true)) (tm 21)),
  co 23 (.move (tm 22)),
  cog 24 (.move (tm 2)) 23 false,
  cog 25 (.binOp .lss 3 (tm 24) (.const (.int .i64 1)) 3) 23 false,
  co 26 (.pick (tm 23) (.const (.bool true)) (tm 25))]
def r26_5 : List Co := [
  co 6 (.assign (.const (.slice none 0 0))),
  co 7 (.assign (.const (.int .i64 1)))]
def r26_6 : List Co := [
  coi 9 (.assign (.const (.slice none 0 0)))]
def r26_7 : List Co := [
  coi 10 (.assign (.const (.slice none 0 0)))]
def r26_8 : List Co := [
  co 11 (.assign (.const (.int .i64 0)))]
def r26_9 : List Co := [
  co 27 (.move (tm 11)),
  co 28 (.fieldAddr 31 (tm 3) 4),
  co 29 (.load 29 (tm 28)),
  co 30 (.call ⟨.builtin .len, #[(tm 29)], #[29]⟩),
  co 31 (.binOp .lss 3 (tm 27) (tm 30) 3)]
def r26_10 : List Co := [
  co 34 (.move (tm 10)),
  co 35 (.call ⟨.builtin .len, #[(tm 34)], #[29]⟩),
  co 36 (.binOp .gtr 3 (tm 35) (.const (.int .i64 0)) 3),
  co 37 (.move (tm 36)),
  cog 38 (.move (tm 10)) 37 true,
  cog 39 (.fieldAddr 31 (tm 3) 4) 37 true,
  cog 40 (.load 29 (tm 39)) 37 true,
  cog 41 (.move (tm 11)) 37 true,
  cog 42 (.indexAddr 29 (tm 40) (tm 41)) 37 true,
  cog 43 (.load 56 (tm 42)) 37 true,
  cog 44 (.move (tm 1)) 37 true,
  cog 45 (.move (tm 2)) 37 true,
  cog 46 (.call ⟨.value (.func 75), #[(tm 38), (tm 43), (tm 44), (tm 45)], #[29, 56, 3, 3]⟩) 37 true,
  co 47 (.pick (tm 37) (tm 46) (.const (.bool false)))]
def r26_11 : List Co := [
  co 48 (.move (tm 9)),
  co 49 (.load 31 (tm 3)),
  co 50 (.move (tm 10)),
  co 51 (.call ⟨.value (.func 76), #[(tm 49), (tm 50)], #[31, 29]⟩),
  coi 52 (.buildSlice 22 1 #[(0, (tm 51))]),
  co 53 (.call ⟨.builtin .append, #[(tm 48), (tm 52)], #[22, 22]⟩),
  co 9 (.assign (tm 53))]
def r26_12 : List Co := [
  coi 10 (.assign (.const (.slice none 0 0)))]
def r26_13 : List Co := [
  co 54 (.move (tm 10)),
  co 55 (.fieldAddr 31 (tm 3) 4),
  co 56 (.load 29 (tm 55)),
  co 57 (.move (tm 11)),
  co 58 (.indexAddr 29 (tm 56) (tm 57)),
  co 59 (.load 56 (tm 58)),
  coi 60 (.buildSlice 29 1 #[(0, (tm 59))]),
  co 61 (.call ⟨.builtin .append, #[(tm 54), (tm 60)], #[29, 29]⟩),
  co 10 (.assign (tm 61))]
def r26_14 : List Co := [
  co 32 (.move (tm 11)),
  co 33 (.binOp .add 3 (tm 32) (.const (.int .i64 1)) 3),
  co 11 (.assign (tm 33))]
def l26_15 : Cc := (.seq (.seq (.reg r26_9) (.cond (tm 31) .skip (.exit 0))) (.seq (.block 1 (.seq (.seq (.reg r26_10) (.cond (tm 47) (.seq (.reg r26_11) (.reg r26_12)) .skip)) (.reg r26_13))) (.reg r26_14)))
def r26_16 : List Co := [
  co 62 (.move (tm 9)),
  co 63 (.load 31 (tm 3)),
  co 64 (.move (tm 10)),
  co 65 (.call ⟨.value (.func 76), #[(tm 63), (tm 64)], #[31, 29]⟩),
  coi 66 (.buildSlice 22 1 #[(0, (tm 65))]),
  co 67 (.call ⟨.builtin .append, #[(tm 62), (tm 66)], #[22, 22]⟩),
  co 6 (.assign (tm 67)),
  co 7 (.assign (.const (.int .i64 0)))]
/-- wireglass/wireglassref03.Split -/
def c26 : Cc := (.seq (.reg r26_0) (.seq (.seq (.reg r26_1) (.seq (.reg r26_2) (.cond (tm 15) (.seq (.reg r26_3) .ret) .skip))) (.seq (.seq (.reg r26_4) (.cond (tm 26) (.seq (.reg r26_5) .ret) .skip)) (.seq (.reg r26_6) (.seq (.reg r26_7) (.seq (.seq (.reg r26_8) (.block 0 (.loop l26_15))) (.seq (.reg r26_16) .ret)))))))
def r27_0 : List Co := [
  co 4 (.assign (.const (.bool false)))]
def r27_1 : List Co := [
  co 6 (.move (tm 0)),
  co 7 (.call ⟨.builtin .len, #[(tm 6)], #[22]⟩),
  co 8 (.move (tm 1)),
  co 9 (.call ⟨.builtin .len, #[(tm 8)], #[22]⟩),
  co 10 (.binOp .neq 3 (tm 7) (tm 9) 3)]
def r27_2 : List Co := [
  co 4 (.assign (.const (.bool false)))]
def r27_3 : List Co := [
  co 5 (.assign (.const (.int .i64 0)))]
def r27_4 : List Co := [
  co 11 (.move (tm 5)),
  co 12 (.move (tm 0)),
  co 13 (.call ⟨.builtin .len, #[(tm 12)], #[22]⟩),
  co 14 (.binOp .lss 3 (tm 11) (tm 13) 3)]
def r27_5 : List Co := [
  co 17 (.move (tm 0)),
  co 18 (.move (tm 5)),
  co 19 (.indexAddr 22 (tm 17) (tm 18)),
  co 20 (.load 31 (tm 19)),
  co 21 (.move (tm 1)),
  co 22 (.move (tm 5)),
  co 23 (.indexAddr 22 (tm 21) (tm 22)),
  co 24 (.load 31 (tm 23)),
  co 25 (.call ⟨.value (.func 18), #[(tm 20), (tm 24)], #[31, 31]⟩),
  co 26 (.unOp .not 4 (tm 25))]
def r27_6 : List Co := [
  co 4 (.assign (.const (.bool false)))]
def r27_7 : List Co := [
  co 15 (.move (tm 5)),
  co 16 (.binOp .add 3 (tm 15) (.const (.int .i64 1)) 3),
  co 5 (.assign (tm 16))]
def l27_8 : Cc := (.seq (.seq (.reg r27_4) (.cond (tm 14) .skip (.exit 0))) (.seq (.block 1 (.seq (.reg r27_5) (.cond (tm 26) (.seq (.reg r27_6) .ret) .skip))) (.reg r27_7)))
def r27_9 : List Co := [
  co 4 (.assign (.const (.bool true)))]
/-- wireglass/wireglasslaw03.same -/
def c27 : Cc := (.seq (.reg r27_0) (.seq (.seq (.reg r27_1) (.cond (tm 10) (.seq (.reg r27_2) .ret) .skip)) (.seq (.seq (.reg r27_3) (.block 0 (.loop l27_8))) (.seq (.reg r27_9) .ret))))
def r54_0 : List Co := [
  co 2 (.assign (.const (.int .i64 0)))]
def r54_1 : List Co := [
  co 6 (.move (tm 0)),
  co 7 (.call ⟨.builtin .len, #[(tm 6)], #[22]⟩),
  co 8 (.move (.const (.int .i64 0)))]
def r54_2 : List Co := [
  co 9 (.binOp .lss 3 (tm 8) (tm 7) 3)]
def r54_3 : List Co := [
  co 10 (.indexAddr 22 (tm 6) (tm 8)),
  co 11 (.load 31 (tm 10)),
  co 4 (.alloc 31),
  coz (.store 31 (tm 4) (tm 11))]
def r54_4 : List Co := [
  co 12 (.load 31 (tm 4)),
  co 13 (.call ⟨.value (.func 57), #[(tm 12)], #[31]⟩),
  co 5 (.assign (tm 13))]
def r54_5 : List Co := [
  co 14 (.move (tm 5)),
  co 15 (.binOp .neq 32 (tm 14) (.const (.int .i64 0)) 32)]
def r54_6 : List Co := [
  co 16 (.move (tm 5)),
  co 2 (.assign (tm 16))]
def r54_7 : List Co := [
  co 17 (.binOp .add 3 (tm 8) (.const (.int .i64 1)) 3),
  co 8 (.move (tm 17))]
def l54_8 : Cc := (.seq (.reg r54_2) (.seq (.cond (tm 9) .skip (.exit 0)) (.seq (.block 1 (.seq (.reg r54_3) (.seq (.reg r54_4) (.seq (.reg r54_5) (.cond (tm 15) (.seq (.reg r54_6) .ret) .skip))))) (.reg r54_7))))
def r54_9 : List Co := [
  co 2 (.assign (.const (.int .i64 0)))]
/-- wireglass/file.asked -/
def c54 : Cc := (.seq (.reg r54_0) (.seq (.seq (.reg r54_1) (.block 0 (.loop l54_8))) (.seq (.reg r54_9) .ret)))
def r57_0 : List Co := [
  co 1 (.box 31 (tm 0)),
  co 2 (.assign (.const (.int .i64 0)))]
def r57_1 : List Co := [
  co 12 (.fieldAddr 31 (tm 1) 1),
  co 13 (.load 26 (tm 12)),
  co 14 (.call ⟨.builtin .len, #[(tm 13)], #[26]⟩),
  co 15 (.binOp .gtr 3 (tm 14) (.const (.int .i64 4)) 3),
  co 16 (.move (tm 15)),
  cog 17 (.fieldAddr 31 (tm 1) 2) 16 false,
  cog 18 (.load 27 (tm 17)) 16 false,
  cog 19 (.call ⟨.builtin .len, #[(tm 18)], #[27]⟩) 16 false,
  cog 20 (.binOp .gtr 3 (tm 19) (.const (.int .i64 60)) 3) 16 false,
  co 21 (.pick (tm 16) (.const (.bool true)) (tm 20)),
  co 22 (.move (tm 21)),
  cog 23 (.fieldAddr 31 (tm 1) 3) 22 false,
  cog 24 (.load 28 (tm 23)) 22 false,
  cog 25 (.call ⟨.builtin .len, #[(tm 24)], #[28]⟩) 22 false,
  cog 26 (.binOp .gtr 3 (tm 25) (.const (.int .i64 60)) 3) 22 false,
  co 27 (.pick (tm 22) (.const (.bool true)) (tm 26)),
  co 28 (.move (tm 27)),
  cog 29 (.fieldAddr 31 (tm 1) 4) 28 false,
  cog 30 (.load 29 (tm 29)) 28 false,
  cog 31 (.call ⟨.builtin .len, #[(tm 30)], #[29]⟩) 28 false,
  cog 32 (.binOp .gtr 3 (tm 31) (.const (.int .i64 100)) 3) 28 false,
  co 33 (.pick (tm 28) (.const (.bool true)) (tm 32))]
def r57_2 : List Co := [
  co 2 (.assign (.const (.int .i64 3)))]
def r57_3 : List Co := [
  co 34 (.fieldAddr 31 (tm 1) 1),
  co 35 (.load 26 (tm 34)),
  co 36 (.call ⟨.builtin .len, #[(tm 35)], #[26]⟩),
  co 37 (.binOp .eql 3 (tm 36) (.const (.int .i64 0)) 3),
  co 38 (.move (tm 37)),
  cog 39 (.fieldAddr 31 (tm 1) 0) 38 false,
  cog 40 (.load 9 (tm 39)) 38 false,
  cog 41 (.call ⟨.value (.func 106), #[(tm 40)], #[9]⟩) 38 false,
  cog 42 (.unOp .not 4 (tm 41)) 38 false,
  co 43 (.pick (tm 38) (.const (.bool true)) (tm 42)),
  co 3 (.assign (tm 43))]
def r57_4 : List Co := [
  co 44 (.fieldAddr 31 (tm 1) 1),
  co 45 (.load 26 (tm 44)),
  co 46 (.call ⟨.builtin .len, #[(tm 45)], #[26]⟩),
  co 47 (.move (.const (.int .i64 0)))]
def r57_5 : List Co := [
  co 48 (.binOp .lss 3 (tm 47) (tm 46) 3)]
def r57_6 : List Co := [
  co 49 (.indexAddr 26 (tm 45) (tm 47)),
  co 50 (.load 82 (tm 49)),
  co 5 (.alloc 82),
  coz (.store 82 (tm 5) (tm 50))]
def r57_7 : List Co := [
  co 51 (.move (tm 3)),
  co 52 (.move (tm 51)),
  cog 53 (.load 82 (tm 5)) 52 false,
  cog 54 (.call ⟨.value (.func 107), #[(tm 53)], #[82]⟩) 52 false,
  cog 55 (.unOp .not 4 (tm 54)) 52 false,
  co 56 (.pick (tm 52) (.const (.bool true)) (tm 55)),
  co 3 (.assign (tm 56))]
def r57_8 : List Co := [
  co 57 (.binOp .add 3 (tm 47) (.const (.int .i64 1)) 3),
  co 47 (.move (tm 57))]
def l57_9 : Cc := (.seq (.reg r57_5) (.seq (.cond (tm 48) .skip (.exit 0)) (.seq (.block 1 (.seq (.reg r57_6) (.reg r57_7))) (.reg r57_8))))
def r57_10 : List Co := [
  co 58 (.fieldAddr 31 (tm 1) 2),
  co 59 (.load 27 (tm 58)),
  co 60 (.call ⟨.builtin .len, #[(tm 59)], #[27]⟩),
  co 61 (.move (.const (.int .i64 0)))]
def r57_11 : List Co := [
  co 62 (.binOp .lss 3 (tm 61) (tm 60) 3)]
def r57_12 : List Co := [
  co 63 (.indexAddr 27 (tm 59) (tm 61)),
  co 64 (.load 97 (tm 63)),
  co 7 (.alloc 97),
  coz (.store 97 (tm 7) (tm 64))]
def r57_13 : List Co := [
  co 65 (.move (tm 3)),
  co 66 (.move (tm 65)),
  cog 67 (.load 97 (tm 7)) 66 false,
  cog 68 (.call ⟨.value (.func 108), #[(tm 67)], #[97]⟩) 66 false,
  cog 69 (.unOp .not 4 (tm 68)) 66 false,
  co 70 (.pick (tm 66) (.const (.bool true)) (tm 69)),
  co 3 (.assign (tm 70))]
def r57_14 : List Co := [
  co 71 (.binOp .add 3 (tm 61) (.const (.int .i64 1)) 3),
  co 61 (.move (tm 71))]
def l57_15 : Cc := (.seq (.reg r57_11) (.seq (.cond (tm 62) .skip (.exit 2)) (.seq (.block 3 (.seq (.reg r57_12) (.reg r57_13))) (.reg r57_14))))
def r57_16 : List Co := [
  co 72 (.fieldAddr 31 (tm 1) 3),
  co 73 (.load 28 (tm 72)),
  co 74 (.call ⟨.builtin .len, #[(tm 73)], #[28]⟩),
  co 75 (.move (.const (.int .i64 0)))]
def r57_17 : List Co := [
  co 76 (.binOp .lss 3 (tm 75) (tm 74) 3)]
def r57_18 : List Co := [
  co 77 (.indexAddr 28 (tm 73) (tm 75)),
  co 78 (.load 100 (tm 77)),
  co 9 (.alloc 100),
  coz (.store 100 (tm 9) (tm 78))]
def r57_19 : List Co := [
  co 79 (.move (tm 3)),
  co 80 (.move (tm 79)),
  cog 81 (.load 100 (tm 9)) 80 false,
  cog 82 (.call ⟨.value (.func 109), #[(tm 81)], #[100]⟩) 80 false,
  cog 83 (.unOp .not 4 (tm 82)) 80 false,
  co 84 (.pick (tm 80) (.const (.bool true)) (tm 83)),
  co 3 (.assign (tm 84))]
def r57_20 : List Co := [
  co 85 (.binOp .add 3 (tm 75) (.const (.int .i64 1)) 3),
  co 75 (.move (tm 85))]
def l57_21 : Cc := (.seq (.reg r57_17) (.seq (.cond (tm 76) .skip (.exit 4)) (.seq (.block 5 (.seq (.reg r57_18) (.reg r57_19))) (.reg r57_20))))
def r57_22 : List Co := [
  co 86 (.fieldAddr 31 (tm 1) 4),
  co 87 (.load 29 (tm 86)),
  co 88 (.call ⟨.builtin .len, #[(tm 87)], #[29]⟩),
  co 89 (.move (.const (.int .i64 0)))]
def r57_23 : List Co := [
  co 90 (.binOp .lss 3 (tm 89) (tm 88) 3)]
def r57_24 : List Co := [
  co 91 (.indexAddr 29 (tm 87) (tm 89)),
  co 92 (.load 56 (tm 91)),
  co 11 (.alloc 56),
  coz (.store 56 (tm 11) (tm 92))]
def r57_25 : List Co := [
  co 93 (.move (tm 3)),
  co 94 (.move (tm 93)),
  cog 95 (.load 56 (tm 11)) 94 false,
  cog 96 (.fieldAddr 31 (tm 1) 1) 94 false,
  cog 97 (.load 26 (tm 96)) 94 false,
  cog 98 (.call ⟨.value (.func 110), #[(tm 95), (tm 97)], #[56, 26]⟩) 94 false,
  cog 99 (.unOp .not 4 (tm 98)) 94 false,
  co 100 (.pick (tm 94) (.const (.bool true)) (tm 99)),
  co 3 (.assign (tm 100))]
def r57_26 : List Co := [
  co 101 (.binOp .add 3 (tm 89) (.const (.int .i64 1)) 3),
  co 89 (.move (tm 101))]
def l57_27 : Cc := (.seq (.reg r57_23) (.seq (.cond (tm 90) .skip (.exit 6)) (.seq (.block 7 (.seq (.reg r57_24) (.reg r57_25))) (.reg r57_26))))
def r57_28 : List Co := [
  co 102 (.move (tm 3))]
def r57_29 : List Co := [
  co 2 (.assign (.const (.int .i64 1)))]
def r57_30 : List Co := [
  co 2 (.assign (.const (.int .i64 0)))]
/-- wireglass/capt.Validate -/
def c57 : Cc := (.seq (.reg r57_0) (.seq (.seq (.reg r57_1) (.cond (tm 33) (.seq (.reg r57_2) .ret) .skip)) (.seq (.reg r57_3) (.seq (.seq (.reg r57_4) (.block 0 (.loop l57_9))) (.seq (.seq (.reg r57_10) (.block 2 (.loop l57_15))) (.seq (.seq (.reg r57_16) (.block 4 (.loop l57_21))) (.seq (.seq (.reg r57_22) (.block 6 (.loop l57_27))) (.seq (.seq (.reg r57_28) (.cond (tm 102) (.seq (.reg r57_29) .ret) .skip)) (.seq (.reg r57_30) .ret)))))))))
def r63_0 : List Co := [
  co 1 (.box 31 (tm 0)),
  co 2 (.assign (.const (.int .i64 0)))]
def r63_1 : List Co := [
  co 3 (.fieldAddr 31 (tm 1) 1),
  co 4 (.load 26 (tm 3)),
  co 5 (.call ⟨.builtin .len, #[(tm 4)], #[26]⟩),
  co 6 (.binOp .gtr 3 (tm 5) (.const (.int .i64 4)) 3),
  co 7 (.move (tm 6)),
  cog 8 (.fieldAddr 31 (tm 1) 2) 7 false,
  cog 9 (.load 27 (tm 8)) 7 false,
  cog 10 (.call ⟨.builtin .len, #[(tm 9)], #[27]⟩) 7 false,
  cog 11 (.binOp .gtr 3 (tm 10) (.const (.int .i64 60)) 3) 7 false,
  co 12 (.pick (tm 7) (.const (.bool true)) (tm 11)),
  co 13 (.move (tm 12)),
  cog 14 (.fieldAddr 31 (tm 1) 3) 13 false,
  cog 15 (.load 28 (tm 14)) 13 false,
  cog 16 (.call ⟨.builtin .len, #[(tm 15)], #[28]⟩) 13 false,
  cog 17 (.binOp .gtr 3 (tm 16) (.const (.int .i64 60)) 3) 13 false,
  co 18 (.pick (tm 13) (.const (.bool true)) (tm 17)),
  co 19 (.move (tm 18)),
  cog 20 (.fieldAddr 31 (tm 1) 4) 19 false,
  cog 21 (.load 29 (tm 20)) 19 false,
  cog 22 (.call ⟨.builtin .len, #[(tm 21)], #[29]⟩) 19 false,
  cog 23 (.binOp .gtr 3 (tm 22) (.const (.int .i64 100)) 3) 19 false,
  co 24 (.pick (tm 19) (.const (.bool true)) (tm 23))]
def r63_2 : List Co := [
  co 2 (.assign (.const (.int .i64 3)))]
def r63_3 : List Co := [
  co 25 (.load 31 (tm 1)),
  co 26 (.call ⟨.value (.func 113), #[(tm 25)], #[31]⟩),
  co 27 (.unOp .not 4 (tm 26))]
def r63_4 : List Co := [
  co 2 (.assign (.const (.int .i64 1)))]
def r63_5 : List Co := [
  co 2 (.assign (.const (.int .i64 0)))]
/-- wireglass/wireglassref02.Validate -/
def c63 : Cc := (.seq (.reg r63_0) (.seq (.seq (.reg r63_1) (.cond (tm 24) (.seq (.reg r63_2) .ret) .skip)) (.seq (.seq (.reg r63_3) (.cond (tm 27) (.seq (.reg r63_4) .ret) .skip)) (.seq (.reg r63_5) .ret))))
def r64_0 : List Co := [
  co 4 (.assign (.const (.bool false)))]
def r64_1 : List Co := [
  co 5 (.move (tm 0)),
  co 6 (.convert 37 9 (tm 5)),
  co 7 (.move (tm 1)),
  co 8 (.convert 37 9 (tm 7)),
  co 9 (.binOp .eql 9 (tm 6) (tm 8) 9),
  co 4 (.assign (tm 9))]
/-- wireglass/wireglassref02.SameBytes -/
def c64 : Cc := (.seq (.reg r64_0) (.seq (.reg r64_1) .ret))
def r65_0 : List Co := [
  coi 2 (.box 56 (tm 0)),
  co 3 (.box 56 (tm 1)),
  co 4 (.assign (.const (.bool false)))]
def r65_1 : List Co := [
  co 5 (.fieldAddr 56 (tm 2) 0),
  co 6 (.load 3 (tm 5)),
  co 7 (.fieldAddr 56 (tm 3) 0),
  co 8 (.load 3 (tm 7)),
  co 9 (.binOp .eql 3 (tm 6) (tm 8) 3),
  co 10 (.move (tm 9)),
  cog 11 (.fieldAddr 56 (tm 2) 1) 10 true,
  cog 12 (.load 3 (tm 11)) 10 true,
  cog 13 (.fieldAddr 56 (tm 3) 1) 10 true,
  cog 14 (.load 3 (tm 13)) 10 true,
  cog 15 (.binOp .eql 3 (tm 12) (tm 14) 3) 10 true,
  co 16 (.pick (tm 10) (tm 15) (.const (.bool false))),
  co 17 (.move (tm 16)),
  cog 18 (.fieldAddr 56 (tm 2) 2) 17 true,
  cog 19 (.load 3 (tm 18)) 17 true,
  cog 20 (.fieldAddr 56 (tm 3) 2) 17 true,
  cog 21 (.load 3 (tm 20)) 17 true,
  cog 22 (.binOp .eql 3 (tm 19) (tm 21) 3) 17 true,
  co 23 (.pick (tm 17) (tm 22) (.const (.bool false))),
  co 24 (.move (tm 23)),
  cog 25 (.fieldAddr 56 (tm 2) 4) 24 true,
  cog 26 (.load 9 (tm 25)) 24 true,
  cog 27 (.fieldAddr 56 (tm 3) 4) 24 true,
  cog 28 (.load 9 (tm 27)) 24 true,
  cog 29 (.binOp .eql 9 (tm 26) (tm 28) 9) 24 true,
  co 30 (.pick (tm 24) (tm 29) (.const (.bool false))),
  co 31 (.move (tm 30)),
  cog 32 (.fieldAddr 56 (tm 2) 3) 31 true,
  cog 33 (.load 37 (tm 32)) 31 true,
  cog 34 (.fieldAddr 56 (tm 3) 3) 31 true,
  cog 35 (.load 37 (tm 34)) 31 true,
  cog 36 (.call ⟨.value (.func 64), #[(tm 33), (tm 35)], #[37, 37]⟩) 31 true,
  co 37 (.pick (tm 31) (tm 36) (.const (.bool false))),
  co 4 (.assign (tm 37))]
/-- wireglass/wireglassref02.SamePacket -/
def c65 : Cc := (.seq (.reg r65_0) (.seq (.reg r65_1) .ret))
def r68_0 : List Co := [
  co 2 (.assign (.const (.bool false)))]
def r68_1 : List Co := [
  co 3 (.move (tm 0)),
  co 4 (.binOp .geq 3 (tm 3) (.const (.int .i64 0)) 3),
  co 5 (.move (tm 4)),
  cog 6 (.move (tm 0)) 5 true,
  cog 7 (.binOp .leq 3 (tm 6) (.const (.int .i64 1000000000000000)) 3) 5 true,
  co 8 (.pick (tm 5) (tm 7) (.const (.bool false))),
  co 2 (.assign (tm 8))]
/-- wireglass/file.isTime -/
def c68 : Cc := (.seq (.reg r68_0) (.seq (.reg r68_1) .ret))
def r69_0 : List Co := [
  co 4 (.assign (.const (.bool false)))]
def r69_1 : List Co := [
  co 5 (.move (tm 0)),
  co 6 (.move (tm 1)),
  co 7 (.call ⟨.value (.func 114), #[(tm 5), (tm 6)], #[29, 107]⟩),
  co 8 (.binOp .geq 3 (tm 7) (.const (.int .i64 0)) 3),
  co 4 (.assign (tm 8))]
/-- slices.ContainsFunc[[]wireglass/api.Packet,wireglass/api.Packet] -/
def c69 : Cc := (.seq (.reg r69_0) (.seq (.reg r69_1) .ret))
def r70_0 : List Co := [
  coi 3 (.box 56 (tm 0)),
  co 4 (.assign (.const (.bool false)))]
def r70_1 : List Co := [
  co 6 (.fieldAddr 56 (tm 1) 0),
  co 7 (.load 3 (tm 6)),
  co 8 (.fieldAddr 56 (tm 3) 0),
  co 9 (.load 3 (tm 8)),
  co 10 (.binOp .sub 3 (tm 7) (tm 9) 3),
  co 5 (.assign (tm 10))]
def r70_2 : List Co := [
  co 11 (.fieldAddr 56 (tm 3) 2),
  co 12 (.load 3 (tm 11)),
  co 13 (.fieldAddr 56 (tm 1) 2),
  co 14 (.load 3 (tm 13)),
  co 15 (.binOp .eql 3 (tm 12) (tm 14) 3),
  co 16 (.move (tm 15)),
  cog 17 (.move (tm 5)) 16 true,
  cog 18 (.load 3 (tm 2)) 16 true,
  cog 19 (.binOp .leq 3 (tm 17) (tm 18) 3) 16 true,
  co 20 (.pick (tm 16) (tm 19) (.const (.bool false))),
  co 21 (.move (tm 20)),
  cog 22 (.move (tm 5)) 21 true,
  cog 23 (.unOp .neg 3 (tm 22)) 21 true,
  cog 24 (.load 3 (tm 2)) 21 true,
  cog 25 (.binOp .leq 3 (tm 23) (tm 24) 3) 21 true,
  co 26 (.pick (tm 21) (tm 25) (.const (.bool false))),
  co 27 (.move (tm 26)),
  cog 28 (.fieldAddr 56 (tm 1) 3) 27 true,
  cog 29 (.load 37 (tm 28)) 27 true,
  cog 30 (.fieldAddr 56 (tm 3) 3) 27 true,
  cog 31 (.load 37 (tm 30)) 27 true,
  cog 32 (.call ⟨.value (.func 71), #[(tm 29), (tm 31)], #[37, 37]⟩) 27 true,
  co 33 (.pick (tm 27) (tm 32) (.const (.bool false))),
  co 4 (.assign (tm 33))]
/-- wireglass/file.Doubles$1 -/
def c70 : Cc := (.seq (.reg r70_0) (.seq (.reg r70_1) (.seq (.reg r70_2) .ret)))
def r71_0 : List Co := [
  co 4 (.assign (.const (.bool false)))]
def r71_1 : List Co := [
  co 6 (.move (tm 0)),
  co 7 (.call ⟨.builtin .len, #[(tm 6)], #[37]⟩),
  co 8 (.move (tm 1)),
  co 9 (.call ⟨.builtin .len, #[(tm 8)], #[37]⟩),
  co 10 (.binOp .neq 3 (tm 7) (tm 9) 3)]
def r71_2 : List Co := [
  co 4 (.assign (.const (.bool false)))]
def r71_3 : List Co := [
  co 11 (.move (tm 0)),
  co 12 (.call ⟨.builtin .len, #[(tm 11)], #[37]⟩),
  co 13 (.move (.const (.int .i64 0)))]
def r71_4 : List Co := [
  co 14 (.binOp .lss 3 (tm 13) (tm 12) 3)]
def r71_5 : List Co := [
  co 15 (.move (tm 13)),
  co 5 (.assign (tm 15))]
def r71_6 : List Co := [
  co 16 (.move (tm 0)),
  co 17 (.move (tm 5)),
  co 18 (.indexAddr 37 (tm 16) (tm 17)),
  co 19 (.load 5 (tm 18)),
  co 20 (.move (tm 1)),
  co 21 (.move (tm 5)),
  co 22 (.indexAddr 37 (tm 20) (tm 21)),
  co 23 (.load 5 (tm 22)),
  co 24 (.binOp .neq 5 (tm 19) (tm 23) 5)]
def r71_7 : List Co := [
  co 4 (.assign (.const (.bool false)))]
def r71_8 : List Co := [
  co 25 (.binOp .add 3 (tm 13) (.const (.int .i64 1)) 3),
  co 13 (.move (tm 25))]
def l71_9 : Cc := (.seq (.reg r71_4) (.seq (.cond (tm 14) .skip (.exit 0)) (.seq (.block 1 (.seq (.reg r71_5) (.seq (.reg r71_6) (.cond (tm 24) (.seq (.reg r71_7) .ret) .skip)))) (.reg r71_8))))
def r71_10 : List Co := [
  co 4 (.assign (.const (.bool true)))]
/-- slices.Equal[[]byte,byte] -/
def c71 : Cc := (.seq (.reg r71_0) (.seq (.seq (.reg r71_1) (.cond (tm 10) (.seq (.reg r71_2) .ret) .skip)) (.seq (.seq (.reg r71_3) (.block 0 (.loop l71_9))) (.seq (.reg r71_10) .ret))))
def r72_0 : List Co := [
  co 2 (.assign (.const (.bool false)))]
def r72_1 : List Co := [
  co 3 (.move (tm 0)),
  co 4 (.binOp .geq 3 (tm 3) (.const (.int .i64 0)) 3),
  co 5 (.move (tm 4)),
  cog 6 (.move (tm 0)) 5 true,
  cog 7 (.binOp .leq 3 (tm 6) (.const (.int .i64 1000000000000000)) 3) 5 true,
  co 8 (.pick (tm 5) (tm 7) (.const (.bool false))),
  co 2 (.assign (tm 8))]
/-- wireglass/wireglassref03.isTime -/
def c72 : Cc := (.seq (.reg r72_0) (.seq (.reg r72_1) .ret))
def r73_0 : List Co := [
  coi 2 (.box 3 (tm 0)),
  coi 3 (.box 3 (tm 1)),
  co 4 (.assign (.const .nilFunc))]
def r73_1 : List Co := [
  co 5 (.makeFunc (.func 115) #[] #[(tm 2), (tm 3)]),
  co 4 (.assign (tm 5))]
/-- wireglass/file.splitter -/
def c73 : Cc := (.seq (.reg r73_0) (.seq (.reg r73_1) .ret))
def r74_0 : List Co := [
  co 1 (.box 31 (tm 0)),
  co 2 (.alloc 31)]
def r74_1 : List Co := [
  co 9 (.fieldAddr 31 (tm 1) 1),
  co 10 (.load 26 (tm 9)),
  co 11 (.call ⟨.value (.func 116), #[(tm 10)], #[26]⟩),
  co 12 (.fieldAddr 31 (tm 1) 1),
  coz (.store 26 (tm 12) (tm 11))]
def r74_2 : List Co := [
  co 13 (.fieldAddr 31 (tm 1) 2),
  co 14 (.load 27 (tm 13)),
  co 15 (.call ⟨.value (.func 117), #[(tm 14)], #[27]⟩),
  co 16 (.fieldAddr 31 (tm 1) 2),
  coz (.store 27 (tm 16) (tm 15))]
def r74_3 : List Co := [
  co 17 (.fieldAddr 31 (tm 1) 2),
  co 18 (.load 27 (tm 17)),
  co 19 (.call ⟨.builtin .len, #[(tm 18)], #[27]⟩),
  co 20 (.move (.const (.int .i64 0)))]
def r74_4 : List Co := [
  co 21 (.binOp .lss 3 (tm 20) (tm 19) 3)]
def r74_5 : List Co := [
  co 22 (.move (tm 20)),
  co 23 (.indexAddr 27 (tm 18) (tm 20)),
  co 24 (.load 97 (tm 23)),
  co 4 (.alloc 97),
  co 3 (.assign (tm 22)),
  coz (.store 97 (tm 4) (tm 24))]
def r74_6 : List Co := [
  co 25 (.fieldAddr 31 (tm 1) 2),
  co 26 (.load 27 (tm 25)),
  co 27 (.move (tm 3)),
  co 28 (.fieldAddr 97 (tm 4) 0),
  co 29 (.load 37 (tm 28)),
  ⟨some 30, .call ⟨.value (.func 118), #[(tm 29)], #[37]⟩, false, none, false, false, [(none, .load 27 (tm 25))]⟩,
  co 31 (.indexAddr 27 (tm 26) (tm 27)),
  co 32 (.fieldAddr 97 (tm 31) 0),
  coz (.store 37 (tm 32) (tm 30))]
def r74_7 : List Co := [
  co 33 (.binOp .add 3 (tm 20) (.const (.int .i64 1)) 3),
  co 20 (.move (tm 33))]
def l74_8 : Cc := (.seq (.reg r74_4) (.seq (.cond (tm 21) .skip (.exit 0)) (.seq (.block 1 (.seq (.reg r74_5) (.reg r74_6))) (.reg r74_7))))
def r74_9 : List Co := [
  co 34 (.fieldAddr 31 (tm 1) 3),
  co 35 (.load 28 (tm 34)),
  co 36 (.call ⟨.value (.func 119), #[(tm 35)], #[28]⟩),
  co 37 (.fieldAddr 31 (tm 1) 3),
  coz (.store 28 (tm 37) (tm 36))]
def r74_10 : List Co := [
  co 38 (.fieldAddr 31 (tm 1) 3),
  co 39 (.load 28 (tm 38)),
  co 40 (.call ⟨.builtin .len, #[(tm 39)], #[28]⟩),
  co 41 (.move (.const (.int .i64 0)))]
def r74_11 : List Co := [
  co 42 (.binOp .lss 3 (tm 41) (tm 40) 3)]
def r74_12 : List Co := [
  co 43 (.move (tm 41)),
  co 44 (.indexAddr 28 (tm 39) (tm 41)),
  co 45 (.load 100 (tm 44)),
  co 6 (.alloc 100),
  co 5 (.assign (tm 43)),
  coz (.store 100 (tm 6) (tm 45))]
def r74_13 : List Co := [
  co 46 (.fieldAddr 31 (tm 1) 3),
  co 47 (.load 28 (tm 46)),
  co 48 (.move (tm 5)),
  co 49 (.fieldAddr 100 (tm 6) 1),
  co 50 (.load 37 (tm 49)),
  ⟨some 51, .call ⟨.value (.func 118), #[(tm 50)], #[37]⟩, false, none, false, false, [(none, .load 28 (tm 46))]⟩,
  co 52 (.indexAddr 28 (tm 47) (tm 48)),
  co 53 (.fieldAddr 100 (tm 52) 1),
  coz (.store 37 (tm 53) (tm 51))]
def r74_14 : List Co := [
  co 54 (.binOp .add 3 (tm 41) (.const (.int .i64 1)) 3),
  co 41 (.move (tm 54))]
def l74_15 : Cc := (.seq (.reg r74_11) (.seq (.cond (tm 42) .skip (.exit 2)) (.seq (.block 3 (.seq (.reg r74_12) (.reg r74_13))) (.reg r74_14))))
def r74_16 : List Co := [
  co 55 (.fieldAddr 31 (tm 1) 4),
  co 56 (.load 29 (tm 55)),
  co 57 (.call ⟨.value (.func 120), #[(tm 56)], #[29]⟩),
  co 58 (.fieldAddr 31 (tm 1) 4),
  coz (.store 29 (tm 58) (tm 57))]
def r74_17 : List Co := [
  co 59 (.fieldAddr 31 (tm 1) 4),
  co 60 (.load 29 (tm 59)),
  co 61 (.call ⟨.builtin .len, #[(tm 60)], #[29]⟩),
  co 62 (.move (.const (.int .i64 0)))]
def r74_18 : List Co := [
  co 63 (.binOp .lss 3 (tm 62) (tm 61) 3)]
def r74_19 : List Co := [
  co 64 (.move (tm 62)),
  co 65 (.indexAddr 29 (tm 60) (tm 62)),
  co 66 (.load 56 (tm 65)),
  co 8 (.alloc 56),
  co 7 (.assign (tm 64)),
  coz (.store 56 (tm 8) (tm 66))]
def r74_20 : List Co := [
  co 67 (.fieldAddr 31 (tm 1) 4),
  co 68 (.load 29 (tm 67)),
  co 69 (.move (tm 7)),
  co 70 (.fieldAddr 56 (tm 8) 3),
  co 71 (.load 37 (tm 70)),
  ⟨some 72, .call ⟨.value (.func 118), #[(tm 71)], #[37]⟩, false, none, false, false, [(none, .load 29 (tm 67))]⟩,
  co 73 (.indexAddr 29 (tm 68) (tm 69)),
  co 74 (.fieldAddr 56 (tm 73) 3),
  coz (.store 37 (tm 74) (tm 72))]
def r74_21 : List Co := [
  co 75 (.binOp .add 3 (tm 62) (.const (.int .i64 1)) 3),
  co 62 (.move (tm 75))]
def l74_22 : Cc := (.seq (.reg r74_18) (.seq (.cond (tm 63) .skip (.exit 4)) (.seq (.block 5 (.seq (.reg r74_19) (.reg r74_20))) (.reg r74_21))))
def r74_23 : List Co := [
  co 76 (.load 31 (tm 1)),
  coz (.store 31 (tm 2) (tm 76))]
/-- wireglass/capt.Copy -/
def c74 : Cc := (.seq (.reg r74_0) (.seq (.reg r74_1) (.seq (.reg r74_2) (.seq (.seq (.reg r74_3) (.block 0 (.loop l74_8))) (.seq (.reg r74_9) (.seq (.seq (.reg r74_10) (.block 2 (.loop l74_15))) (.seq (.reg r74_16) (.seq (.seq (.reg r74_17) (.block 4 (.loop l74_22))) (.seq (.reg r74_23) .ret)))))))))
def r75_0 : List Co := [
  coi 5 (.box 56 (tm 1)),
  co 8 (.assign (.const (.bool false)))]
def r75_1 : List Co := [
  co 11 (.move (tm 2))]
def r75_2 : List Co := [
  co 13 (.binOp .eql 3 (tm 11) (.const (.int .i64 0)) 3),
  co 12 (.assign (tm 13))]
def r75_3 : List Co := [
  co 14 (.move (tm 0)),
  co 15 (.call ⟨.builtin .len, #[(tm 14)], #[29]⟩),
  co 16 (.move (tm 3)),
  co 17 (.binOp .geq 3 (tm 15) (tm 16) 3),
  co 8 (.assign (tm 17))]
def r75_4 : List Co := [
  co 19 (.binOp .eql 3 (tm 11) (.const (.int .i64 1)) 3),
  co 18 (.assign (tm 19))]
def r75_5 : List Co := [
  co 20 (.fieldAddr 56 (tm 5) 3),
  co 21 (.load 37 (tm 20)),
  co 22 (.call ⟨.builtin .len, #[(tm 21)], #[37]⟩),
  co 9 (.assign (tm 22))]
def r75_6 : List Co := [
  co 10 (.assign (.const (.int .i64 0)))]
def r75_7 : List Co := [
  co 23 (.move (tm 10)),
  co 24 (.move (tm 0)),
  co 25 (.call ⟨.builtin .len, #[(tm 24)], #[29]⟩),
  co 26 (.binOp .lss 3 (tm 23) (tm 25) 3)]
def r75_8 : List Co := [
  co 29 (.move (tm 9)),
  co 30 (.move (tm 0)),
  co 31 (.move (tm 10)),
  co 32 (.indexAddr 29 (tm 30) (tm 31)),
  co 33 (.fieldAddr 56 (tm 32) 3),
  co 34 (.load 37 (tm 33)),
  co 35 (.call ⟨.builtin .len, #[(tm 34)], #[37]⟩),
  co 36 (.binOp .add 3 (tm 29) (tm 35) 3),
  co 9 (.assign (tm 36))]
def r75_9 : List Co := [
  co 27 (.move (tm 10)),
  co 28 (.binOp .add 3 (tm 27) (.const (.int .i64 1)) 3),
  co 10 (.assign (tm 28))]
def l75_10 : Cc := (.seq (.seq (.reg r75_7) (.cond (tm 26) .skip (.exit 1))) (.seq (.block 2 (.reg r75_8)) (.reg r75_9)))
def r75_11 : List Co := [
  co 37 (.move (tm 9)),
  co 38 (.move (tm 3)),
  co 39 (.binOp .gtr 3 (tm 37) (tm 38) 3),
  co 8 (.assign (tm 39))]
def r75_12 : List Co := [
  co 40 (.move (tm 0)),
  co 41 (.move (tm 0)),
  co 42 (.call ⟨.builtin .len, #[(tm 41)], #[29]⟩),
  co 43 (.binOp .sub 3 (tm 42) (.const (.int .i64 1)) 3),
  co 44 (.indexAddr 29 (tm 40) (tm 43)),
  co 45 (.fieldAddr 56 (tm 44) 0),
  co 46 (.load 3 (tm 45)),
  co 47 (.move (tm 3)),
  co 48 (.binOp .quo 3 (tm 46) (tm 47) 3),
  co 49 (.fieldAddr 56 (tm 5) 0),
  co 50 (.load 3 (tm 49)),
  co 51 (.move (tm 3)),
  co 52 (.binOp .quo 3 (tm 50) (tm 51) 3),
  co 53 (.binOp .neq 3 (tm 48) (tm 52) 3),
  co 8 (.assign (tm 53))]
/-- wireglass/wireglassref03.begins -/
def c75 : Cc := (.seq (.reg r75_0) (.seq (.seq (.reg r75_1) (.block 0 (.seq (.reg r75_2) (.cond (tm 12) (.seq (.reg r75_3) .ret) (.seq (.reg r75_4) (.cond (tm 18) (.seq (.reg r75_5) (.seq (.seq (.reg r75_6) (.block 1 (.loop l75_10))) (.seq (.reg r75_11) .ret))) .skip)))))) (.seq (.reg r75_12) .ret)))
def r76_0 : List Co := [
  co 2 (.box 31 (tm 0)),
  co 4 (.alloc 31)]
def r76_1 : List Co := [
  co 5 (.move (tm 1)),
  co 6 (.fieldAddr 31 (tm 2) 4),
  coz (.store 29 (tm 6) (tm 5))]
def r76_2 : List Co := [
  co 7 (.load 31 (tm 2)),
  coz (.store 31 (tm 4) (tm 7))]
/-- wireglass/wireglassref03.with -/
def c76 : Cc := (.seq (.reg r76_0) (.seq (.reg r76_1) (.seq (.reg r76_2) .ret)))
def r106_0 : List Co := [
  co 2 (.assign (.const (.bool false)))]
def r106_1 : List Co := [
  co 3 (.move (tm 0)),
  co 4 (.call ⟨.builtin .len, #[(tm 3)], #[9]⟩),
  co 5 (.binOp .leq 3 (tm 4) (.const (.int .i64 200)) 3),
  co 6 (.move (tm 5)),
  cog 7 (.move (tm 0)) 6 true,
  ⟨some 8, .convert 9 37 (tm 7), true, some (6, true), false, false, []⟩,
  cog 9 (.call ⟨.value (.func 147), #[(tm 8), (.func 148)], #[37, 187]⟩) 6 true,
  cog 10 (.unOp .not 4 (tm 9)) 6 true,
  co 11 (.pick (tm 6) (tm 10) (.const (.bool false))),
  co 2 (.assign (tm 11))]
/-- wireglass/capt.isText -/
def c106 : Cc := (.seq (.reg r106_0) (.seq (.reg r106_1) .ret))
def r107_0 : List Co := [
  coi 1 (.box 82 (tm 0)),
  co 2 (.assign (.const (.bool false)))]
def r107_1 : List Co := [
  co 3 (.fieldAddr 82 (tm 1) 0),
  co 4 (.load 9 (tm 3)),
  co 5 (.call ⟨.value (.func 106), #[(tm 4)], #[9]⟩),
  co 6 (.move (tm 5)),
  cog 7 (.fieldAddr 82 (tm 1) 1) 6 true,
  cog 8 (.load 3 (tm 7)) 6 true,
  cog 9 (.binOp .geq 3 (tm 8) (.const (.int .i64 0)) 3) 6 true,
  co 10 (.pick (tm 6) (tm 9) (.const (.bool false))),
  co 11 (.move (tm 10)),
  cog 12 (.fieldAddr 82 (tm 1) 1) 11 true,
  cog 13 (.load 3 (tm 12)) 11 true,
  cog 14 (.binOp .leq 3 (tm 13) (.const (.int .i64 65535)) 3) 11 true,
  co 15 (.pick (tm 11) (tm 14) (.const (.bool false))),
  co 16 (.move (tm 15)),
  cog 17 (.fieldAddr 82 (tm 1) 2) 16 true,
  cog 18 (.load 3 (tm 17)) 16 true,
  cog 19 (.binOp .geq 3 (tm 18) (.const (.int .i64 0)) 3) 16 true,
  co 20 (.pick (tm 16) (tm 19) (.const (.bool false))),
  co 21 (.move (tm 20)),
  cog 22 (.fieldAddr 82 (tm 1) 2) 21 true,
  cog 23 (.load 3 (tm 22)) 21 true,
  cog 24 (.binOp .leq 3 (tm 23) (.const (.int .i64 400)) 3) 21 true,
  co 25 (.pick (tm 21) (tm 24) (.const (.bool false))),
  co 2 (.assign (tm 25))]
/-- wireglass/capt.isFace -/
def c107 : Cc := (.seq (.reg r107_0) (.seq (.reg r107_1) .ret))
def r108_0 : List Co := [
  coi 1 (.box 97 (tm 0)),
  co 2 (.assign (.const (.bool false)))]
def r108_1 : List Co := [
  co 3 (.fieldAddr 97 (tm 1) 1),
  co 4 (.load 9 (tm 3)),
  co 5 (.call ⟨.value (.func 106), #[(tm 4)], #[9]⟩),
  co 6 (.move (tm 5)),
  cog 7 (.fieldAddr 97 (tm 1) 0) 6 true,
  cog 8 (.load 37 (tm 7)) 6 true,
  cog 9 (.call ⟨.builtin .len, #[(tm 8)], #[37]⟩) 6 true,
  cog 10 (.binOp .geq 3 (tm 9) (.const (.int .i64 1)) 3) 6 true,
  co 11 (.pick (tm 6) (tm 10) (.const (.bool false))),
  co 12 (.move (tm 11)),
  cog 13 (.fieldAddr 97 (tm 1) 0) 12 true,
  cog 14 (.load 37 (tm 13)) 12 true,
  cog 15 (.call ⟨.builtin .len, #[(tm 14)], #[37]⟩) 12 true,
  cog 16 (.binOp .leq 3 (tm 15) (.const (.int .i64 16)) 3) 12 true,
  co 17 (.pick (tm 12) (tm 16) (.const (.bool false))),
  co 2 (.assign (tm 17))]
/-- wireglass/capt.isName -/
def c108 : Cc := (.seq (.reg r108_0) (.seq (.reg r108_1) .ret))
def r109_0 : List Co := [
  coi 1 (.box 100 (tm 0)),
  co 2 (.assign (.const (.bool false)))]
def r109_1 : List Co := [
  co 3 (.fieldAddr 100 (tm 1) 0),
  co 4 (.load 9 (tm 3)),
  co 5 (.call ⟨.value (.func 106), #[(tm 4)], #[9]⟩),
  co 6 (.move (tm 5)),
  cog 7 (.fieldAddr 100 (tm 1) 0) 6 true,
  cog 8 (.load 9 (tm 7)) 6 true,
  cog 9 (.binOp .neq 9 (tm 8) (.const (.string ⟨#[]⟩)) 9) 6 true,
  co 10 (.pick (tm 6) (tm 9) (.const (.bool false))),
  co 11 (.move (tm 10)),
  cog 12 (.fieldAddr 100 (tm 1) 1) 11 true,
  cog 13 (.load 37 (tm 12)) 11 true,
  cog 14 (.call ⟨.builtin .len, #[(tm 13)], #[37]⟩) 11 true,
  cog 15 (.binOp .geq 3 (tm 14) (.const (.int .i64 1)) 3) 11 true,
  co 16 (.pick (tm 11) (tm 15) (.const (.bool false))),
  co 17 (.move (tm 16)),
  cog 18 (.fieldAddr 100 (tm 1) 1) 17 true,
  cog 19 (.load 37 (tm 18)) 17 true,
  cog 20 (.call ⟨.builtin .len, #[(tm 19)], #[37]⟩) 17 true,
  cog 21 (.binOp .leq 3 (tm 20) (.const (.int .i64 200)) 3) 17 true,
  co 22 (.pick (tm 17) (tm 21) (.const (.bool false))),
  co 2 (.assign (tm 22))]
/-- wireglass/capt.isSecret -/
def c109 : Cc := (.seq (.reg r109_0) (.seq (.reg r109_1) .ret))
def r110_0 : List Co := [
  coi 2 (.box 56 (tm 0)),
  co 4 (.assign (.const (.bool false)))]
def r110_1 : List Co := [
  co 6 (.fieldAddr 56 (tm 2) 1),
  co 7 (.load 3 (tm 6)),
  co 8 (.binOp .lss 3 (tm 7) (.const (.int .i64 0)) 3),
  co 9 (.move (tm 8)),
  cog 10 (.fieldAddr 56 (tm 2) 1) 9 false,
  cog 11 (.load 3 (tm 10)) 9 false,
  cog 12 (.move (tm 1)) 9 false,
  cog 13 (.call ⟨.builtin .len, #[(tm 12)], #[26]⟩) 9 false,
  cog 14 (.binOp .geq 3 (tm 11) (tm 13) 3) 9 false,
  co 15 (.pick (tm 9) (.const (.bool true)) (tm 14)),
  co 16 (.move (tm 15)),
  cog 17 (.fieldAddr 56 (tm 2) 0) 16 false,
  cog 18 (.load 3 (tm 17)) 16 false,
  cog 19 (.binOp .lss 3 (tm 18) (.const (.int .i64 0)) 3) 16 false,
  co 20 (.pick (tm 16) (.const (.bool true)) (tm 19)),
  co 21 (.move (tm 20)),
  cog 22 (.fieldAddr 56 (tm 2) 0) 21 false,
  cog 23 (.load 3 (tm 22)) 21 false,
  cog 24 (.binOp .gtr 3 (tm 23) (.const (.int .i64 1000000000000000)) 3) 21 false,
  co 25 (.pick (tm 21) (.const (.bool true)) (tm 24)),
  co 26 (.move (tm 25)),
  cog 27 (.fieldAddr 56 (tm 2) 3) 26 false,
  cog 28 (.load 37 (tm 27)) 26 false,
  cog 29 (.call ⟨.builtin .len, #[(tm 28)], #[37]⟩) 26 false,
  cog 30 (.binOp .gtr 3 (tm 29) (.const (.int .i64 400)) 3) 26 false,
  co 31 (.pick (tm 26) (.const (.bool true)) (tm 30)),
  co 32 (.move (tm 31)),
  cog 33 (.fieldAddr 56 (tm 2) 4) 32 false,
  cog 34 (.load 9 (tm 33)) 32 false,
  cog 35 (.call ⟨.value (.func 106), #[(tm 34)], #[9]⟩) 32 false,
  cog 36 (.unOp .not 4 (tm 35)) 32 false,
  co 37 (.pick (tm 32) (.const (.bool true)) (tm 36))]
def r110_2 : List Co := [
  co 4 (.assign (.const (.bool false)))]
def r110_3 : List Co := [
  co 38 (.move (tm 1)),
  co 39 (.fieldAddr 56 (tm 2) 1),
  co 40 (.load 3 (tm 39)),
  co 41 (.indexAddr 26 (tm 38) (tm 40)),
  co 42 (.fieldAddr 82 (tm 41) 2),
  co 43 (.load 3 (tm 42)),
  co 5 (.assign (tm 43))]
def r110_4 : List Co := [
  co 44 (.move (tm 5)),
  co 45 (.binOp .eql 3 (tm 44) (.const (.int .i64 0)) 3),
  co 46 (.move (tm 45)),
  cog 47 (.fieldAddr 56 (tm 2) 3) 46 false,
  cog 48 (.load 37 (tm 47)) 46 false,
  cog 49 (.call ⟨.builtin .len, #[(tm 48)], #[37]⟩) 46 false,
  cog 50 (.move (tm 5)) 46 false,
  cog 51 (.binOp .leq 3 (tm 49) (tm 50) 3) 46 false,
  co 52 (.pick (tm 46) (.const (.bool true)) (tm 51)),
  co 53 (.move (tm 52)),
  cog 54 (.fieldAddr 56 (tm 2) 2) 53 true,
  cog 55 (.load 3 (tm 54)) 53 true,
  cog 56 (.fieldAddr 56 (tm 2) 3) 53 true,
  cog 57 (.load 37 (tm 56)) 53 true,
  cog 58 (.call ⟨.builtin .len, #[(tm 57)], #[37]⟩) 53 true,
  cog 59 (.binOp .geq 3 (tm 55) (tm 58) 3) 53 true,
  co 60 (.pick (tm 53) (tm 59) (.const (.bool false))),
  co 61 (.move (tm 60)),
  cog 62 (.fieldAddr 56 (tm 2) 2) 61 true,
  cog 63 (.load 3 (tm 62)) 61 true,
  cog 64 (.binOp .leq 3 (tm 63) (.const (.int .i64 1000000)) 3) 61 true,
  co 65 (.pick (tm 61) (tm 64) (.const (.bool false))),
  co 4 (.assign (tm 65))]
/-- wireglass/capt.isPacket -/
def c110 : Cc := (.seq (.reg r110_0) (.seq (.seq (.reg r110_1) (.cond (tm 37) (.seq (.reg r110_2) .ret) .skip)) (.seq (.reg r110_3) (.seq (.reg r110_4) .ret))))
def r113_0 : List Co := [
  co 1 (.box 31 (tm 0)),
  co 2 (.assign (.const (.bool false)))]
def r113_1 : List Co := [
  co 11 (.fieldAddr 31 (tm 1) 0),
  co 12 (.load 9 (tm 11)),
  co 13 (.call ⟨.value (.func 149), #[(tm 12)], #[9]⟩),
  co 14 (.unOp .not 4 (tm 13)),
  co 15 (.move (tm 14)),
  cog 16 (.fieldAddr 31 (tm 1) 1) 15 false,
  cog 17 (.load 26 (tm 16)) 15 false,
  cog 18 (.call ⟨.builtin .len, #[(tm 17)], #[26]⟩) 15 false,
  cog 19 (.binOp .lss 3 (tm 18) (.const (.int .i64 1)) 3) 15 false,
  co 20 (.pick (tm 15) (.const (.bool true)) (tm 19))]
def r113_2 : List Co := [
  co 2 (.assign (.const (.bool false)))]
def r113_3 : List Co := [
  co 3 (.assign (.const (.int .i64 0)))]
def r113_4 : List Co := [
  co 21 (.move (tm 3)),
  co 22 (.fieldAddr 31 (tm 1) 1),
  co 23 (.load 26 (tm 22)),
  co 24 (.call ⟨.builtin .len, #[(tm 23)], #[26]⟩),
  co 25 (.binOp .lss 3 (tm 21) (tm 24) 3)]
def r113_5 : List Co := [
  co 28 (.fieldAddr 31 (tm 1) 1),
  co 29 (.load 26 (tm 28)),
  co 30 (.move (tm 3)),
  co 31 (.indexAddr 26 (tm 29) (tm 30)),
  co 32 (.load 82 (tm 31)),
  co 4 (.alloc 82),
  coz (.store 82 (tm 4) (tm 32))]
def r113_6 : List Co := [
  co 33 (.fieldAddr 82 (tm 4) 0),
  co 34 (.load 9 (tm 33)),
  co 35 (.call ⟨.value (.func 149), #[(tm 34)], #[9]⟩),
  co 36 (.unOp .not 4 (tm 35)),
  co 37 (.move (tm 36)),
  cog 38 (.fieldAddr 82 (tm 4) 1) 37 false,
  cog 39 (.load 3 (tm 38)) 37 false,
  cog 40 (.binOp .lss 3 (tm 39) (.const (.int .i64 0)) 3) 37 false,
  co 41 (.pick (tm 37) (.const (.bool true)) (tm 40)),
  co 42 (.move (tm 41)),
  cog 43 (.fieldAddr 82 (tm 4) 1) 42 false,
  cog 44 (.load 3 (tm 43)) 42 false,
  cog 45 (.binOp .gtr 3 (tm 44) (.const (.int .i64 65535)) 3) 42 false,
  co 46 (.pick (tm 42) (.const (.bool true)) (tm 45)),
  co 47 (.move (tm 46)),
  cog 48 (.fieldAddr 82 (tm 4) 2) 47 false,
  cog 49 (.load 3 (tm 48)) 47 false,
  cog 50 (.binOp .lss 3 (tm 49) (.const (.int .i64 0)) 3) 47 false,
  co 51 (.pick (tm 47) (.const (.bool true)) (tm 50)),
  co 52 (.move (tm 51)),
  cog 53 (.fieldAddr 82 (tm 4) 2) 52 false,
  cog 54 (.load 3 (tm 53)) 52 false,
  cog 55 (.binOp .gtr 3 (tm 54) (.const (.int .i64 400)) 3) 52 false,
  co 56 (.pick (tm 52) (.const (.bool true)) (tm 55))]
def r113_7 : List Co := [
  co 2 (.assign (.const (.bool false)))]
def r113_8 : List Co := [
  co 26 (.move (tm 3)),
  co 27 (.binOp .add 3 (tm 26) (.const (.int .i64 1)) 3),
  co 3 (.assign (tm 27))]
def l113_9 : Cc := (.seq (.seq (.reg r113_4) (.cond (tm 25) .skip (.exit 0))) (.seq (.block 1 (.seq (.reg r113_5) (.seq (.reg r113_6) (.cond (tm 56) (.seq (.reg r113_7) .ret) .skip)))) (.reg r113_8)))
def r113_10 : List Co := [
  co 5 (.assign (.const (.int .i64 0)))]
def r113_11 : List Co := [
  co 57 (.move (tm 5)),
  co 58 (.fieldAddr 31 (tm 1) 2),
  co 59 (.load 27 (tm 58)),
  co 60 (.call ⟨.builtin .len, #[(tm 59)], #[27]⟩),
  co 61 (.binOp .lss 3 (tm 57) (tm 60) 3)]
def r113_12 : List Co := [
  co 64 (.fieldAddr 31 (tm 1) 2),
  co 65 (.load 27 (tm 64)),
  co 66 (.move (tm 5)),
  co 67 (.indexAddr 27 (tm 65) (tm 66)),
  co 68 (.load 97 (tm 67)),
  co 6 (.alloc 97),
  coz (.store 97 (tm 6) (tm 68))]
def r113_13 : List Co := [
  co 69 (.fieldAddr 97 (tm 6) 0),
  co 70 (.load 37 (tm 69)),
  co 71 (.call ⟨.builtin .len, #[(tm 70)], #[37]⟩),
  co 72 (.binOp .lss 3 (tm 71) (.const (.int .i64 1)) 3),
  co 73 (.move (tm 72)),
  cog 74 (.fieldAddr 97 (tm 6) 0) 73 false,
  cog 75 (.load 37 (tm 74)) 73 false,
  cog 76 (.call ⟨.builtin .len, #[(tm 75)], #[37]⟩) 73 false,
  cog 77 (.binOp .gtr 3 (tm 76) (.const (.int .i64 16)) 3) 73 false,
  co 78 (.pick (tm 73) (.const (.bool true)) (tm 77)),
  co 79 (.move (tm 78)),
  cog 80 (.fieldAddr 97 (tm 6) 1) 79 false,
  cog 81 (.load 9 (tm 80)) 79 false,
  cog 82 (.call ⟨.value (.func 149), #[(tm 81)], #[9]⟩) 79 false,
  cog 83 (.unOp .not 4 (tm 82)) 79 false,
  co 84 (.pick (tm 79) (.const (.bool true)) (tm 83))]
def r113_14 : List Co := [
  co 2 (.assign (.const (.bool false)))]
def r113_15 : List Co := [
  co 62 (.move (tm 5)),
  co 63 (.binOp .add 3 (tm 62) (.const (.int .i64 1)) 3),
  co 5 (.assign (tm 63))]
def l113_16 : Cc := (.seq (.seq (.reg r113_11) (.cond (tm 61) .skip (.exit 2))) (.seq (.block 3 (.seq (.reg r113_12) (.seq (.reg r113_13) (.cond (tm 84) (.seq (.reg r113_14) .ret) .skip)))) (.reg r113_15)))
def r113_17 : List Co := [
  co 7 (.assign (.const (.int .i64 0)))]
def r113_18 : List Co := [
  co 85 (.move (tm 7)),
  co 86 (.fieldAddr 31 (tm 1) 3),
  co 87 (.load 28 (tm 86)),
  co 88 (.call ⟨.builtin .len, #[(tm 87)], #[28]⟩),
  co 89 (.binOp .lss 3 (tm 85) (tm 88) 3)]
def r113_19 : List Co := [
  co 92 (.fieldAddr 31 (tm 1) 3),
  co 93 (.load 28 (tm 92)),
  co 94 (.move (tm 7)),
  co 95 (.indexAddr 28 (tm 93) (tm 94)),
  co 96 (.load 100 (tm 95)),
  co 8 (.alloc 100),
  coz (.store 100 (tm 8) (tm 96))]
def r113_20 : List Co := [
  co 97 (.fieldAddr 100 (tm 8) 0),
  co 98 (.load 9 (tm 97)),
  co 99 (.call ⟨.value (.func 149), #[(tm 98)], #[9]⟩),
  co 100 (.unOp .not 4 (tm 99)),
  co 101 (.move (tm 100)),
  cog 102 (.fieldAddr 100 (tm 8) 0) 101 false,
  cog 103 (.load 9 (tm 102)) 101 false,
  cog 104 (.binOp .eql 9 (tm 103) (.const (.string ⟨#[]⟩)) 9) 101 false,
  co 105 (.pick (tm 101) (.const (.bool true)) (tm 104)),
  co 106 (.move (tm 105)),
  cog 107 (.fieldAddr 100 (tm 8) 1) 106 false,
  cog 108 (.load 37 (tm 107)) 106 false,
  cog 109 (.call ⟨.builtin .len, #[(tm 108)], #[37]⟩) 106 false,
  cog 110 (.binOp .lss 3 (tm 109) (.const (.int .i64 1)) 3) 106 false,
  co 111 (.pick (tm 106) (.const (.bool true)) (tm 110)),
  co 112 (.move (tm 111)),
  cog 113 (.fieldAddr 100 (tm 8) 1) 112 false,
  cog 114 (.load 37 (tm 113)) 112 false,
  cog 115 (.call ⟨.builtin .len, #[(tm 114)], #[37]⟩) 112 false,
  cog 116 (.binOp .gtr 3 (tm 115) (.const (.int .i64 200)) 3) 112 false,
  co 117 (.pick (tm 112) (.const (.bool true)) (tm 116))]
def r113_21 : List Co := [
  co 2 (.assign (.const (.bool false)))]
def r113_22 : List Co := [
  co 90 (.move (tm 7)),
  co 91 (.binOp .add 3 (tm 90) (.const (.int .i64 1)) 3),
  co 7 (.assign (tm 91))]
def l113_23 : Cc := (.seq (.seq (.reg r113_18) (.cond (tm 89) .skip (.exit 4))) (.seq (.block 5 (.seq (.reg r113_19) (.seq (.reg r113_20) (.cond (tm 117) (.seq (.reg r113_21) .ret) .skip)))) (.reg r113_22)))
def r113_24 : List Co := [
  co 9 (.assign (.const (.int .i64 0)))]
def r113_25 : List Co := [
  co 118 (.move (tm 9)),
  co 119 (.fieldAddr 31 (tm 1) 4),
  co 120 (.load 29 (tm 119)),
  co 121 (.call ⟨.builtin .len, #[(tm 120)], #[29]⟩),
  co 122 (.binOp .lss 3 (tm 118) (tm 121) 3)]
def r113_26 : List Co := [
  co 125 (.fieldAddr 31 (tm 1) 4),
  co 126 (.load 29 (tm 125)),
  co 127 (.move (tm 9)),
  co 128 (.indexAddr 29 (tm 126) (tm 127)),
  co 129 (.load 56 (tm 128)),
  co 10 (.alloc 56),
  coz (.store 56 (tm 10) (tm 129))]
def r113_27 : List Co := [
  co 130 (.fieldAddr 56 (tm 10) 1),
  co 131 (.load 3 (tm 130)),
  co 132 (.binOp .lss 3 (tm 131) (.const (.int .i64 0)) 3),
  co 133 (.move (tm 132)),
  cog 134 (.fieldAddr 56 (tm 10) 1) 133 false,
  cog 135 (.load 3 (tm 134)) 133 false,
  cog 136 (.fieldAddr 31 (tm 1) 1) 133 false,
  cog 137 (.load 26 (tm 136)) 133 false,
  cog 138 (.call ⟨.builtin .len, #[(tm 137)], #[26]⟩) 133 false,
  cog 139 (.binOp .geq 3 (tm 135) (tm 138) 3) 133 false,
  co 140 (.pick (tm 133) (.const (.bool true)) (tm 139)),
  co 141 (.move (tm 140)),
  cog 142 (.load 56 (tm 10)) 141 false,
  cog 143 (.fieldAddr 31 (tm 1) 1) 141 false,
  cog 144 (.load 26 (tm 143)) 141 false,
  cog 145 (.fieldAddr 56 (tm 10) 1) 141 false,
  cog 146 (.load 3 (tm 145)) 141 false,
  cog 147 (.indexAddr 26 (tm 144) (tm 146)) 141 false,
  cog 148 (.fieldAddr 82 (tm 147) 2) 141 false,
  cog 149 (.load 3 (tm 148)) 141 false,
  cog 150 (.call ⟨.value (.func 150), #[(tm 142), (tm 149)], #[56, 3]⟩) 141 false,
  cog 151 (.unOp .not 4 (tm 150)) 141 false,
  co 152 (.pick (tm 141) (.const (.bool true)) (tm 151))]
def r113_28 : List Co := [
  co 2 (.assign (.const (.bool false)))]
def r113_29 : List Co := [
  co 123 (.move (tm 9)),
  co 124 (.binOp .add 3 (tm 123) (.const (.int .i64 1)) 3),
  co 9 (.assign (tm 124))]
def l113_30 : Cc := (.seq (.seq (.reg r113_25) (.cond (tm 122) .skip (.exit 6))) (.seq (.block 7 (.seq (.reg r113_26) (.seq (.reg r113_27) (.cond (tm 152) (.seq (.reg r113_28) .ret) .skip)))) (.reg r113_29)))
def r113_31 : List Co := [
  co 2 (.assign (.const (.bool true)))]
/-- wireglass/wireglassref02.isRight -/
def c113 : Cc := (.seq (.reg r113_0) (.seq (.seq (.reg r113_1) (.cond (tm 20) (.seq (.reg r113_2) .ret) .skip)) (.seq (.seq (.reg r113_3) (.block 0 (.loop l113_9))) (.seq (.seq (.reg r113_10) (.block 2 (.loop l113_16))) (.seq (.seq (.reg r113_17) (.block 4 (.loop l113_23))) (.seq (.seq (.reg r113_24) (.block 6 (.loop l113_30))) (.seq (.reg r113_31) .ret)))))))
def r114_0 : List Co := [
  co 4 (.assign (.const (.int .i64 0)))]
def r114_1 : List Co := [
  co 6 (.move (tm 0)),
  co 7 (.call ⟨.builtin .len, #[(tm 6)], #[29]⟩),
  co 8 (.move (.const (.int .i64 0)))]
def r114_2 : List Co := [
  co 9 (.binOp .lss 3 (tm 8) (tm 7) 3)]
def r114_3 : List Co := [
  co 10 (.move (tm 8)),
  co 5 (.assign (tm 10))]
def r114_4 : List Co := [
  co 11 (.move (tm 1)),
  co 12 (.move (tm 0)),
  co 13 (.move (tm 5)),
  co 14 (.indexAddr 29 (tm 12) (tm 13)),
  co 15 (.load 56 (tm 14)),
  co 16 (.call ⟨.value (tm 11), #[(tm 15)], #[56]⟩)]
def r114_5 : List Co := [
  co 17 (.move (tm 5)),
  co 4 (.assign (tm 17))]
def r114_6 : List Co := [
  co 18 (.binOp .add 3 (tm 8) (.const (.int .i64 1)) 3),
  co 8 (.move (tm 18))]
def l114_7 : Cc := (.seq (.reg r114_2) (.seq (.cond (tm 9) .skip (.exit 0)) (.seq (.block 1 (.seq (.reg r114_3) (.seq (.reg r114_4) (.cond (tm 16) (.seq (.reg r114_5) .ret) .skip)))) (.reg r114_6))))
def r114_8 : List Co := [
  co 4 (.assign (.const (.int .i64 (-1))))]
/-- slices.IndexFunc[[]wireglass/api.Packet,wireglass/api.Packet] -/
def c114 : Cc := (.seq (.reg r114_0) (.seq (.seq (.reg r114_1) (.block 0 (.loop l114_7))) (.seq (.reg r114_8) .ret)))
def r115_0 : List Co := [
  coi 5 (.box 56 (tm 1)),
  co 6 (.assign (.const (.bool false)))]
def r115_1 : List Co := [
  co 10 (.load 3 (tm 2))]
def r115_2 : List Co := [
  co 12 (.binOp .eql 3 (tm 10) (.const (.int .i64 0)) 3),
  co 11 (.assign (tm 12))]
def r115_3 : List Co := [
  co 13 (.move (tm 0)),
  co 14 (.call ⟨.builtin .len, #[(tm 13)], #[29]⟩),
  co 15 (.load 3 (tm 3)),
  co 16 (.binOp .eql 3 (tm 14) (tm 15) 3),
  co 6 (.assign (tm 16))]
def r115_4 : List Co := [
  co 18 (.binOp .eql 3 (tm 10) (.const (.int .i64 1)) 3),
  co 17 (.assign (tm 18))]
def r115_5 : List Co := [
  co 19 (.fieldAddr 56 (tm 5) 3),
  co 20 (.load 37 (tm 19)),
  co 21 (.call ⟨.builtin .len, #[(tm 20)], #[37]⟩),
  co 7 (.assign (tm 21))]
def r115_6 : List Co := [
  co 22 (.move (tm 0)),
  co 23 (.call ⟨.builtin .len, #[(tm 22)], #[29]⟩),
  co 24 (.move (.const (.int .i64 0)))]
def r115_7 : List Co := [
  co 25 (.binOp .lss 3 (tm 24) (tm 23) 3)]
def r115_8 : List Co := [
  co 26 (.indexAddr 29 (tm 22) (tm 24)),
  co 27 (.load 56 (tm 26)),
  co 9 (.alloc 56),
  coz (.store 56 (tm 9) (tm 27))]
def r115_9 : List Co := [
  co 28 (.move (tm 7)),
  co 29 (.fieldAddr 56 (tm 9) 3),
  co 30 (.load 37 (tm 29)),
  co 31 (.call ⟨.builtin .len, #[(tm 30)], #[37]⟩),
  co 32 (.binOp .add 3 (tm 28) (tm 31) 3),
  co 7 (.assign (tm 32))]
def r115_10 : List Co := [
  co 33 (.binOp .add 3 (tm 24) (.const (.int .i64 1)) 3),
  co 24 (.move (tm 33))]
def l115_11 : Cc := (.seq (.reg r115_7) (.seq (.cond (tm 25) .skip (.exit 1)) (.seq (.block 2 (.seq (.reg r115_8) (.reg r115_9))) (.reg r115_10))))
def r115_12 : List Co := [
  co 34 (.move (tm 7)),
  co 35 (.load 3 (tm 3)),
  co 36 (.binOp .gtr 3 (tm 34) (tm 35) 3),
  co 6 (.assign (tm 36))]
def r115_13 : List Co := [
  co 37 (.move (tm 0)),
  co 38 (.move (tm 0)),
  co 39 (.call ⟨.builtin .len, #[(tm 38)], #[29]⟩),
  co 40 (.binOp .sub 3 (tm 39) (.const (.int .i64 1)) 3),
  co 41 (.indexAddr 29 (tm 37) (tm 40)),
  co 42 (.fieldAddr 56 (tm 41) 0),
  co 43 (.load 3 (tm 42)),
  co 44 (.load 3 (tm 3)),
  co 45 (.binOp .quo 3 (tm 43) (tm 44) 3),
  co 46 (.fieldAddr 56 (tm 5) 0),
  co 47 (.load 3 (tm 46)),
  co 48 (.load 3 (tm 3)),
  co 49 (.binOp .quo 3 (tm 47) (tm 48) 3),
  co 50 (.binOp .neq 3 (tm 45) (tm 49) 3),
  co 6 (.assign (tm 50))]
/-- wireglass/file.splitter$1 -/
def c115 : Cc := (.seq (.reg r115_0) (.seq (.seq (.reg r115_1) (.block 0 (.seq (.reg r115_2) (.cond (tm 11) (.seq (.reg r115_3) .ret) (.seq (.reg r115_4) (.cond (tm 17) (.seq (.reg r115_5) (.seq (.seq (.reg r115_6) (.block 1 (.loop l115_11))) (.seq (.reg r115_12) .ret))) .skip)))))) (.seq (.reg r115_13) .ret)))
def r116_0 : List Co := [
  co 2 (.assign (.const (.slice none 0 0)))]
def r116_1 : List Co := [
  co 3 (.move (tm 0)),
  co 4 (.binOp .eql 26 (tm 3) (.const (.slice none 0 0)) 26)]
def r116_2 : List Co := [
  co 2 (.assign (.const (.slice none 0 0)))]
def r116_3 : List Co := [
  co 5 (.buildSlice 26 0 #[]),
  co 6 (.move (tm 0)),
  co 7 (.call ⟨.builtin .append, #[(tm 5), (tm 6)], #[26, 26]⟩),
  co 2 (.assign (tm 7))]
/-- slices.Clone[[]wireglass/api.Face,wireglass/api.Face] -/
def c116 : Cc := (.seq (.reg r116_0) (.seq (.seq (.reg r116_1) (.cond (tm 4) (.seq (.reg r116_2) .ret) .skip)) (.seq (.reg r116_3) .ret)))
def r117_0 : List Co := [
  co 2 (.assign (.const (.slice none 0 0)))]
def r117_1 : List Co := [
  co 3 (.move (tm 0)),
  co 4 (.binOp .eql 27 (tm 3) (.const (.slice none 0 0)) 27)]
def r117_2 : List Co := [
  co 2 (.assign (.const (.slice none 0 0)))]
def r117_3 : List Co := [
  co 5 (.buildSlice 27 0 #[]),
  co 6 (.move (tm 0)),
  co 7 (.call ⟨.builtin .append, #[(tm 5), (tm 6)], #[27, 27]⟩),
  co 2 (.assign (tm 7))]
/-- slices.Clone[[]wireglass/api.Name,wireglass/api.Name] -/
def c117 : Cc := (.seq (.reg r117_0) (.seq (.seq (.reg r117_1) (.cond (tm 4) (.seq (.reg r117_2) .ret) .skip)) (.seq (.reg r117_3) .ret)))
def r118_0 : List Co := [
  co 2 (.assign (.const (.slice none 0 0)))]
def r118_1 : List Co := [
  co 3 (.move (tm 0)),
  co 4 (.binOp .eql 37 (tm 3) (.const (.slice none 0 0)) 37)]
def r118_2 : List Co := [
  co 2 (.assign (.const (.slice none 0 0)))]
def r118_3 : List Co := [
  co 5 (.buildSlice 37 0 #[]),
  co 6 (.move (tm 0)),
  co 7 (.call ⟨.builtin .append, #[(tm 5), (tm 6)], #[37, 37]⟩),
  co 2 (.assign (tm 7))]
/-- slices.Clone[[]byte,byte] -/
def c118 : Cc := (.seq (.reg r118_0) (.seq (.seq (.reg r118_1) (.cond (tm 4) (.seq (.reg r118_2) .ret) .skip)) (.seq (.reg r118_3) .ret)))
def r119_0 : List Co := [
  co 2 (.assign (.const (.slice none 0 0)))]
def r119_1 : List Co := [
  co 3 (.move (tm 0)),
  co 4 (.binOp .eql 28 (tm 3) (.const (.slice none 0 0)) 28)]
def r119_2 : List Co := [
  co 2 (.assign (.const (.slice none 0 0)))]
def r119_3 : List Co := [
  co 5 (.buildSlice 28 0 #[]),
  co 6 (.move (tm 0)),
  co 7 (.call ⟨.builtin .append, #[(tm 5), (tm 6)], #[28, 28]⟩),
  co 2 (.assign (tm 7))]
/-- slices.Clone[[]wireglass/api.Secret,wireglass/api.Secret] -/
def c119 : Cc := (.seq (.reg r119_0) (.seq (.seq (.reg r119_1) (.cond (tm 4) (.seq (.reg r119_2) .ret) .skip)) (.seq (.reg r119_3) .ret)))
def r120_0 : List Co := [
  co 2 (.assign (.const (.slice none 0 0)))]
def r120_1 : List Co := [
  co 3 (.move (tm 0)),
  co 4 (.binOp .eql 29 (tm 3) (.const (.slice none 0 0)) 29)]
def r120_2 : List Co := [
  co 2 (.assign (.const (.slice none 0 0)))]
def r120_3 : List Co := [
  co 5 (.buildSlice 29 0 #[]),
  co 6 (.move (tm 0)),
  co 7 (.call ⟨.builtin .append, #[(tm 5), (tm 6)], #[29, 29]⟩),
  co 2 (.assign (tm 7))]
/-- slices.Clone[[]wireglass/api.Packet,wireglass/api.Packet] -/
def c120 : Cc := (.seq (.reg r120_0) (.seq (.seq (.reg r120_1) (.cond (tm 4) (.seq (.reg r120_2) .ret) .skip)) (.seq (.reg r120_3) .ret)))
def r122_0 : List Co := [
  co 6 (.assign (.const (.bool false)))]
def r122_1 : List Co := [
  co 10 (.move (tm 0)),
  co 11 (.call ⟨.builtin .len, #[(tm 10)], #[27]⟩),
  co 12 (.move (tm 1)),
  co 13 (.call ⟨.builtin .len, #[(tm 12)], #[27]⟩),
  co 14 (.binOp .neq 3 (tm 11) (tm 13) 3)]
def r122_2 : List Co := [
  co 6 (.assign (.const (.bool false)))]
def r122_3 : List Co := [
  co 15 (.move (tm 0)),
  co 16 (.call ⟨.builtin .len, #[(tm 15)], #[27]⟩),
  co 17 (.move (.const (.int .i64 0)))]
def r122_4 : List Co := [
  co 18 (.binOp .lss 3 (tm 17) (tm 16) 3)]
def r122_5 : List Co := [
  co 19 (.move (tm 17)),
  co 20 (.indexAddr 27 (tm 15) (tm 17)),
  co 21 (.load 97 (tm 20)),
  co 8 (.alloc 97),
  co 7 (.assign (tm 19)),
  coz (.store 97 (tm 8) (tm 21))]
def r122_6 : List Co := [
  co 22 (.move (tm 1)),
  co 23 (.move (tm 7)),
  co 24 (.indexAddr 27 (tm 22) (tm 23)),
  co 25 (.load 97 (tm 24)),
  co 9 (.alloc 97),
  coz (.store 97 (tm 9) (tm 25))]
def r122_7 : List Co := [
  co 26 (.move (tm 2)),
  co 27 (.load 97 (tm 8)),
  co 28 (.load 97 (tm 9)),
  co 29 (.call ⟨.value (tm 26), #[(tm 27), (tm 28)], #[97, 97]⟩),
  co 30 (.unOp .not 4 (tm 29))]
def r122_8 : List Co := [
  co 6 (.assign (.const (.bool false)))]
def r122_9 : List Co := [
  co 31 (.binOp .add 3 (tm 17) (.const (.int .i64 1)) 3),
  co 17 (.move (tm 31))]
def l122_10 : Cc := (.seq (.reg r122_4) (.seq (.cond (tm 18) .skip (.exit 0)) (.seq (.block 1 (.seq (.reg r122_5) (.seq (.reg r122_6) (.seq (.reg r122_7) (.cond (tm 30) (.seq (.reg r122_8) .ret) .skip))))) (.reg r122_9))))
def r122_11 : List Co := [
  co 6 (.assign (.const (.bool true)))]
/-- slices.EqualFunc[[]wireglass/api.Name,[]wireglass/api.Name,wireglass/api.Name,wireglass/api.Name] -/
def c122 : Cc := (.seq (.reg r122_0) (.seq (.seq (.reg r122_1) (.cond (tm 14) (.seq (.reg r122_2) .ret) .skip)) (.seq (.seq (.reg r122_3) (.block 0 (.loop l122_10))) (.seq (.reg r122_11) .ret))))
def r124_0 : List Co := [
  co 6 (.assign (.const (.bool false)))]
def r124_1 : List Co := [
  co 10 (.move (tm 0)),
  co 11 (.call ⟨.builtin .len, #[(tm 10)], #[28]⟩),
  co 12 (.move (tm 1)),
  co 13 (.call ⟨.builtin .len, #[(tm 12)], #[28]⟩),
  co 14 (.binOp .neq 3 (tm 11) (tm 13) 3)]
def r124_2 : List Co := [
  co 6 (.assign (.const (.bool false)))]
def r124_3 : List Co := [
  co 15 (.move (tm 0)),
  co 16 (.call ⟨.builtin .len, #[(tm 15)], #[28]⟩),
  co 17 (.move (.const (.int .i64 0)))]
def r124_4 : List Co := [
  co 18 (.binOp .lss 3 (tm 17) (tm 16) 3)]
def r124_5 : List Co := [
  co 19 (.move (tm 17)),
  co 20 (.indexAddr 28 (tm 15) (tm 17)),
  co 21 (.load 100 (tm 20)),
  co 8 (.alloc 100),
  co 7 (.assign (tm 19)),
  coz (.store 100 (tm 8) (tm 21))]
def r124_6 : List Co := [
  co 22 (.move (tm 1)),
  co 23 (.move (tm 7)),
  co 24 (.indexAddr 28 (tm 22) (tm 23)),
  co 25 (.load 100 (tm 24)),
  co 9 (.alloc 100),
  coz (.store 100 (tm 9) (tm 25))]
def r124_7 : List Co := [
  co 26 (.move (tm 2)),
  co 27 (.load 100 (tm 8)),
  co 28 (.load 100 (tm 9)),
  co 29 (.call ⟨.value (tm 26), #[(tm 27), (tm 28)], #[100, 100]⟩),
  co 30 (.unOp .not 4 (tm 29))]
def r124_8 : List Co := [
  co 6 (.assign (.const (.bool false)))]
def r124_9 : List Co := [
  co 31 (.binOp .add 3 (tm 17) (.const (.int .i64 1)) 3),
  co 17 (.move (tm 31))]
def l124_10 : Cc := (.seq (.reg r124_4) (.seq (.cond (tm 18) .skip (.exit 0)) (.seq (.block 1 (.seq (.reg r124_5) (.seq (.reg r124_6) (.seq (.reg r124_7) (.cond (tm 30) (.seq (.reg r124_8) .ret) .skip))))) (.reg r124_9))))
def r124_11 : List Co := [
  co 6 (.assign (.const (.bool true)))]
/-- slices.EqualFunc[[]wireglass/api.Secret,[]wireglass/api.Secret,wireglass/api.Secret,wireglass/api.Secret] -/
def c124 : Cc := (.seq (.reg r124_0) (.seq (.seq (.reg r124_1) (.cond (tm 14) (.seq (.reg r124_2) .ret) .skip)) (.seq (.seq (.reg r124_3) (.block 0 (.loop l124_10))) (.seq (.reg r124_11) .ret))))
def r126_0 : List Co := [
  co 6 (.assign (.const (.bool false)))]
def r126_1 : List Co := [
  co 10 (.move (tm 0)),
  co 11 (.call ⟨.builtin .len, #[(tm 10)], #[29]⟩),
  co 12 (.move (tm 1)),
  co 13 (.call ⟨.builtin .len, #[(tm 12)], #[29]⟩),
  co 14 (.binOp .neq 3 (tm 11) (tm 13) 3)]
def r126_2 : List Co := [
  co 6 (.assign (.const (.bool false)))]
def r126_3 : List Co := [
  co 15 (.move (tm 0)),
  co 16 (.call ⟨.builtin .len, #[(tm 15)], #[29]⟩),
  co 17 (.move (.const (.int .i64 0)))]
def r126_4 : List Co := [
  co 18 (.binOp .lss 3 (tm 17) (tm 16) 3)]
def r126_5 : List Co := [
  co 19 (.move (tm 17)),
  co 20 (.indexAddr 29 (tm 15) (tm 17)),
  co 21 (.load 56 (tm 20)),
  co 8 (.alloc 56),
  co 7 (.assign (tm 19)),
  coz (.store 56 (tm 8) (tm 21))]
def r126_6 : List Co := [
  co 22 (.move (tm 1)),
  co 23 (.move (tm 7)),
  co 24 (.indexAddr 29 (tm 22) (tm 23)),
  co 25 (.load 56 (tm 24)),
  co 9 (.alloc 56),
  coz (.store 56 (tm 9) (tm 25))]
def r126_7 : List Co := [
  co 26 (.move (tm 2)),
  co 27 (.load 56 (tm 8)),
  co 28 (.load 56 (tm 9)),
  co 29 (.call ⟨.value (tm 26), #[(tm 27), (tm 28)], #[56, 56]⟩),
  co 30 (.unOp .not 4 (tm 29))]
def r126_8 : List Co := [
  co 6 (.assign (.const (.bool false)))]
def r126_9 : List Co := [
  co 31 (.binOp .add 3 (tm 17) (.const (.int .i64 1)) 3),
  co 17 (.move (tm 31))]
def l126_10 : Cc := (.seq (.reg r126_4) (.seq (.cond (tm 18) .skip (.exit 0)) (.seq (.block 1 (.seq (.reg r126_5) (.seq (.reg r126_6) (.seq (.reg r126_7) (.cond (tm 30) (.seq (.reg r126_8) .ret) .skip))))) (.reg r126_9))))
def r126_11 : List Co := [
  co 6 (.assign (.const (.bool true)))]
/-- slices.EqualFunc[[]wireglass/api.Packet,[]wireglass/api.Packet,wireglass/api.Packet,wireglass/api.Packet] -/
def c126 : Cc := (.seq (.reg r126_0) (.seq (.seq (.reg r126_1) (.cond (tm 14) (.seq (.reg r126_2) .ret) .skip)) (.seq (.seq (.reg r126_3) (.block 0 (.loop l126_10))) (.seq (.reg r126_11) .ret))))
def r128_0 : List Co := [
  co 4 (.assign (.const (.bool false)))]
def r128_1 : List Co := [
  co 6 (.move (tm 0)),
  co 7 (.call ⟨.builtin .len, #[(tm 6)], #[26]⟩),
  co 8 (.move (tm 1)),
  co 9 (.call ⟨.builtin .len, #[(tm 8)], #[26]⟩),
  co 10 (.binOp .neq 3 (tm 7) (tm 9) 3)]
def r128_2 : List Co := [
  co 4 (.assign (.const (.bool false)))]
def r128_3 : List Co := [
  co 11 (.move (tm 0)),
  co 12 (.call ⟨.builtin .len, #[(tm 11)], #[26]⟩),
  co 13 (.move (.const (.int .i64 0)))]
def r128_4 : List Co := [
  co 14 (.binOp .lss 3 (tm 13) (tm 12) 3)]
def r128_5 : List Co := [
  co 15 (.move (tm 13)),
  co 5 (.assign (tm 15))]
def r128_6 : List Co := [
  co 16 (.move (tm 0)),
  co 17 (.move (tm 5)),
  co 18 (.indexAddr 26 (tm 16) (tm 17)),
  co 19 (.load 82 (tm 18)),
  co 20 (.move (tm 1)),
  co 21 (.move (tm 5)),
  co 22 (.indexAddr 26 (tm 20) (tm 21)),
  co 23 (.load 82 (tm 22)),
  co 24 (.binOp .neq 82 (tm 19) (tm 23) 82)]
def r128_7 : List Co := [
  co 4 (.assign (.const (.bool false)))]
def r128_8 : List Co := [
  co 25 (.binOp .add 3 (tm 13) (.const (.int .i64 1)) 3),
  co 13 (.move (tm 25))]
def l128_9 : Cc := (.seq (.reg r128_4) (.seq (.cond (tm 14) .skip (.exit 0)) (.seq (.block 1 (.seq (.reg r128_5) (.seq (.reg r128_6) (.cond (tm 24) (.seq (.reg r128_7) .ret) .skip)))) (.reg r128_8))))
def r128_10 : List Co := [
  co 4 (.assign (.const (.bool true)))]
/-- slices.Equal[[]wireglass/api.Face,wireglass/api.Face] -/
def c128 : Cc := (.seq (.reg r128_0) (.seq (.seq (.reg r128_1) (.cond (tm 10) (.seq (.reg r128_2) .ret) .skip)) (.seq (.seq (.reg r128_3) (.block 0 (.loop l128_9))) (.seq (.reg r128_10) .ret))))
def r147_0 : List Co := [
  co 4 (.assign (.const (.bool false)))]
def r147_1 : List Co := [
  co 5 (.move (tm 0)),
  co 6 (.move (tm 1)),
  co 7 (.call ⟨.value (.func 173), #[(tm 5), (tm 6)], #[37, 187]⟩),
  co 8 (.binOp .geq 3 (tm 7) (.const (.int .i64 0)) 3),
  co 4 (.assign (tm 8))]
/-- slices.ContainsFunc[[]byte,byte] -/
def c147 : Cc := (.seq (.reg r147_0) (.seq (.reg r147_1) .ret))
def r148_0 : List Co := [
  co 2 (.assign (.const (.bool false)))]
def r148_1 : List Co := [
  co 3 (.move (tm 0)),
  co 4 (.binOp .lss 5 (tm 3) (.const (.int .u8 32)) 5),
  co 5 (.move (tm 4)),
  cog 6 (.move (tm 0)) 5 false,
  cog 7 (.binOp .gtr 5 (tm 6) (.const (.int .u8 126)) 5) 5 false,
  co 8 (.pick (tm 5) (.const (.bool true)) (tm 7)),
  co 2 (.assign (tm 8))]
/-- wireglass/capt.isText$1 -/
def c148 : Cc := (.seq (.reg r148_0) (.seq (.reg r148_1) .ret))
def r149_0 : List Co := [
  co 2 (.assign (.const (.bool false)))]
def r149_1 : List Co := [
  co 3 (.assign (.const (.int .i64 0)))]
def r149_2 : List Co := [
  co 4 (.move (tm 3)),
  co 5 (.move (tm 0)),
  co 6 (.call ⟨.builtin .len, #[(tm 5)], #[9]⟩),
  co 7 (.binOp .lss 3 (tm 4) (tm 6) 3)]
def r149_3 : List Co := [
  co 10 (.move (tm 0)),
  co 11 (.move (tm 3)),
  co 12 (.index 9 (tm 10) (tm 11)),
  co 13 (.binOp .lss 5 (tm 12) (.const (.int .u8 32)) 5),
  co 14 (.move (tm 13)),
  cog 15 (.move (tm 0)) 14 false,
  cog 16 (.move (tm 3)) 14 false,
  cog 17 (.index 9 (tm 15) (tm 16)) 14 false,
  cog 18 (.binOp .gtr 5 (tm 17) (.const (.int .u8 126)) 5) 14 false,
  co 19 (.pick (tm 14) (.const (.bool true)) (tm 18))]
def r149_4 : List Co := [
  co 2 (.assign (.const (.bool false)))]
def r149_5 : List Co := [
  co 8 (.move (tm 3)),
  co 9 (.binOp .add 3 (tm 8) (.const (.int .i64 1)) 3),
  co 3 (.assign (tm 9))]
def l149_6 : Cc := (.seq (.seq (.reg r149_2) (.cond (tm 7) .skip (.exit 0))) (.seq (.block 1 (.seq (.reg r149_3) (.cond (tm 19) (.seq (.reg r149_4) .ret) .skip))) (.reg r149_5)))
def r149_7 : List Co := [
  co 20 (.move (tm 0)),
  co 21 (.call ⟨.builtin .len, #[(tm 20)], #[9]⟩),
  co 22 (.binOp .leq 3 (tm 21) (.const (.int .i64 200)) 3),
  co 2 (.assign (tm 22))]
/-- wireglass/wireglassref02.IsText -/
def c149 : Cc := (.seq (.reg r149_0) (.seq (.seq (.reg r149_1) (.block 0 (.loop l149_6))) (.seq (.reg r149_7) .ret)))
def r150_0 : List Co := [
  coi 2 (.box 56 (tm 0)),
  co 4 (.assign (.const (.bool false)))]
def r150_1 : List Co := [
  co 5 (.fieldAddr 56 (tm 2) 0),
  co 6 (.load 3 (tm 5)),
  co 7 (.binOp .lss 3 (tm 6) (.const (.int .i64 0)) 3),
  co 8 (.move (tm 7)),
  cog 9 (.fieldAddr 56 (tm 2) 0) 8 false,
  cog 10 (.load 3 (tm 9)) 8 false,
  cog 11 (.binOp .gtr 3 (tm 10) (.const (.int .i64 1000000000000000)) 3) 8 false,
  co 12 (.pick (tm 8) (.const (.bool true)) (tm 11)),
  co 13 (.move (tm 12)),
  cog 14 (.fieldAddr 56 (tm 2) 4) 13 false,
  cog 15 (.load 9 (tm 14)) 13 false,
  cog 16 (.call ⟨.value (.func 149), #[(tm 15)], #[9]⟩) 13 false,
  cog 17 (.unOp .not 4 (tm 16)) 13 false,
  co 18 (.pick (tm 13) (.const (.bool true)) (tm 17)),
  co 19 (.move (tm 18)),
  cog 20 (.fieldAddr 56 (tm 2) 3) 19 false,
  cog 21 (.load 37 (tm 20)) 19 false,
  cog 22 (.call ⟨.builtin .len, #[(tm 21)], #[37]⟩) 19 false,
  cog 23 (.binOp .gtr 3 (tm 22) (.const (.int .i64 400)) 3) 19 false,
  co 24 (.pick (tm 19) (.const (.bool true)) (tm 23))]
def r150_2 : List Co := [
  co 4 (.assign (.const (.bool false)))]
def r150_3 : List Co := [
  co 25 (.move (tm 1)),
  co 26 (.binOp .eql 3 (tm 25) (.const (.int .i64 0)) 3),
  co 27 (.move (tm 26)),
  cog 28 (.fieldAddr 56 (tm 2) 3) 27 false,
  cog 29 (.load 37 (tm 28)) 27 false,
  cog 30 (.call ⟨.builtin .len, #[(tm 29)], #[37]⟩) 27 false,
  cog 31 (.move (tm 1)) 27 false,
  cog 32 (.binOp .leq 3 (tm 30) (tm 31) 3) 27 false,
  co 33 (.pick (tm 27) (.const (.bool true)) (tm 32)),
  co 34 (.move (tm 33)),
  cog 35 (.fieldAddr 56 (tm 2) 2) 34 true,
  cog 36 (.load 3 (tm 35)) 34 true,
  cog 37 (.fieldAddr 56 (tm 2) 3) 34 true,
  cog 38 (.load 37 (tm 37)) 34 true,
  cog 39 (.call ⟨.builtin .len, #[(tm 38)], #[37]⟩) 34 true,
  cog 40 (.binOp .geq 3 (tm 36) (tm 39) 3) 34 true,
  co 41 (.pick (tm 34) (tm 40) (.const (.bool false))),
  co 42 (.move (tm 41)),
  cog 43 (.fieldAddr 56 (tm 2) 2) 42 true,
  cog 44 (.load 3 (tm 43)) 42 true,
  cog 45 (.binOp .leq 3 (tm 44) (.const (.int .i64 1000000)) 3) 42 true,
  co 46 (.pick (tm 42) (tm 45) (.const (.bool false))),
  co 4 (.assign (tm 46))]
/-- wireglass/wireglassref02.IsPacket -/
def c150 : Cc := (.seq (.reg r150_0) (.seq (.seq (.reg r150_1) (.cond (tm 24) (.seq (.reg r150_2) .ret) .skip)) (.seq (.reg r150_3) .ret)))
def r173_0 : List Co := [
  co 4 (.assign (.const (.int .i64 0)))]
def r173_1 : List Co := [
  co 6 (.move (tm 0)),
  co 7 (.call ⟨.builtin .len, #[(tm 6)], #[37]⟩),
  co 8 (.move (.const (.int .i64 0)))]
def r173_2 : List Co := [
  co 9 (.binOp .lss 3 (tm 8) (tm 7) 3)]
def r173_3 : List Co := [
  co 10 (.move (tm 8)),
  co 5 (.assign (tm 10))]
def r173_4 : List Co := [
  co 11 (.move (tm 1)),
  co 12 (.move (tm 0)),
  co 13 (.move (tm 5)),
  co 14 (.indexAddr 37 (tm 12) (tm 13)),
  co 15 (.load 5 (tm 14)),
  co 16 (.call ⟨.value (tm 11), #[(tm 15)], #[5]⟩)]
def r173_5 : List Co := [
  co 17 (.move (tm 5)),
  co 4 (.assign (tm 17))]
def r173_6 : List Co := [
  co 18 (.binOp .add 3 (tm 8) (.const (.int .i64 1)) 3),
  co 8 (.move (tm 18))]
def l173_7 : Cc := (.seq (.reg r173_2) (.seq (.cond (tm 9) .skip (.exit 0)) (.seq (.block 1 (.seq (.reg r173_3) (.seq (.reg r173_4) (.cond (tm 16) (.seq (.reg r173_5) .ret) .skip)))) (.reg r173_6))))
def r173_8 : List Co := [
  co 4 (.assign (.const (.int .i64 (-1))))]
/-- slices.IndexFunc[[]byte,byte] -/
def c173 : Cc := (.seq (.reg r173_0) (.seq (.seq (.reg r173_1) (.block 0 (.loop l173_7))) (.seq (.reg r173_8) .ret)))
@[go_sem] theorem kp5 (v : V) : demK 5 v = v.dem := rfl
def rs5 : List ResultVar := [.tmp 6]
theorem gc5 (H : Hp) (r : V × Hp) : pr.gc 5 H r = gcF H r := gcOne rfl H r
set_option maxRecDepth 100000 in
theorem ex5 : ExP 5 40 c5 rs5 := @fun _ _ _ ha h => call_ex (fn := Try.f5) rfl Try.func5 rfl (by kernel_rfl) rfl (Nat.max_eq_right ha) h
theorem run5 : RunP 5 40 c5 rs5 := @fun _ _ _ ha h => run_of ex5 ha h
@[go_sem] theorem kp6 (v : V) : demK 6 v = v.dem := rfl
def rs6 : List ResultVar := [.tmp 6]
theorem gc6 (H : Hp) (r : V × Hp) : pr.gc 6 H r = gcF H r := gcOne rfl H r
set_option maxRecDepth 100000 in
theorem ex6 : ExP 6 40 c6 rs6 := @fun _ _ _ ha h => call_ex (fn := Try.f6) rfl Try.func6 rfl (by kernel_rfl) rfl (Nat.max_eq_right ha) h
theorem run6 : RunP 6 40 c6 rs6 := @fun _ _ _ ha h => run_of ex6 ha h
@[go_sem] theorem kp18 (v : V) : demK 18 v = v.dem := rfl
def rs18 : List ResultVar := [.tmp 4]
theorem gc18 (H : Hp) (r : V × Hp) : pr.gc 18 H r = gcF H r := gcOne rfl H r
set_option maxRecDepth 100000 in
theorem ex18 : ExP 18 159 c18 rs18 := @fun _ _ _ ha h => call_ex (fn := Try.f18) rfl Try.func18 rfl (by kernel_rfl) rfl (Nat.max_eq_right ha) h
theorem run18 : RunP 18 159 c18 rs18 := @fun _ _ _ ha h => run_of ex18 ha h
@[go_sem] theorem kp21 (v : V) : demK 21 v = v.dem := rfl
def rs21 : List ResultVar := [.tmp 2]
theorem gc21 (H : Hp) (r : V × Hp) : pr.gc 21 H r = gcF H r := gcOne rfl H r
set_option maxRecDepth 100000 in
theorem ex21 : ExP 21 117 c21 rs21 := @fun _ _ _ ha h => call_ex (fn := Try.f21) rfl Try.func21 rfl (by kernel_rfl) rfl (Nat.max_eq_right ha) h
theorem run21 : RunP 21 117 c21 rs21 := @fun _ _ _ ha h => run_of ex21 ha h
@[go_sem] theorem kp22 (v : V) : demK 22 v = v.dem := rfl
def rs22 : List ResultVar := [.tmp 6, .tmp 7]
theorem gc22 (H : Hp) (r : V × Hp) : pr.gc 22 H r = gcF H r := gcOne rfl H r
set_option maxRecDepth 100000 in
theorem ex22 : ExP 22 53 c22 rs22 := @fun _ _ _ ha h => call_ex (fn := Try.f22) rfl Try.func22 rfl (by kernel_rfl) rfl (Nat.max_eq_right ha) h
theorem run22 : RunP 22 53 c22 rs22 := @fun _ _ _ ha h => run_of ex22 ha h
@[go_sem] theorem kp23 (v : V) : demK 23 v = v.dem := rfl
def rs23 : List ResultVar := [.tmp 6, .tmp 7]
theorem gc23 (H : Hp) (r : V × Hp) : pr.gc 23 H r = gcF H r := gcOne rfl H r
set_option maxRecDepth 100000 in
theorem ex23 : ExP 23 97 c23 rs23 := @fun _ _ _ ha h => call_ex (fn := Try.f23) rfl Try.func23 rfl (by kernel_rfl) rfl (Nat.max_eq_right ha) h
theorem run23 : RunP 23 97 c23 rs23 := @fun _ _ _ ha h => run_of ex23 ha h
@[go_sem] theorem kp24 (v : V) : demK 24 v = v.dem := rfl
def rs24 : List ResultVar := [.tmp 4]
theorem gc24 (H : Hp) (r : V × Hp) : pr.gc 24 H r = gcF H r := gcOne rfl H r
set_option maxRecDepth 100000 in
theorem ex24 : ExP 24 26 c24 rs24 := @fun _ _ _ ha h => call_ex (fn := Try.f24) rfl Try.func24 rfl (by kernel_rfl) rfl (Nat.max_eq_right ha) h
theorem run24 : RunP 24 26 c24 rs24 := @fun _ _ _ ha h => run_of ex24 ha h
@[go_sem] theorem kp25 (v : V) : demK 25 v = v.dem := rfl
def rs25 : List ResultVar := [.tmp 6, .tmp 7]
theorem gc25 (H : Hp) (r : V × Hp) : pr.gc 25 H r = gcF H r := gcOne rfl H r
set_option maxRecDepth 100000 in
theorem ex25 : ExP 25 96 c25 rs25 := @fun _ _ _ ha h => call_ex (fn := Try.f25) rfl Try.func25 rfl (by kernel_rfl) rfl (Nat.max_eq_right ha) h
theorem run25 : RunP 25 96 c25 rs25 := @fun _ _ _ ha h => run_of ex25 ha h
@[go_sem] theorem kp26 (v : V) : demK 26 v = v.dem := rfl
def rs26 : List ResultVar := [.tmp 6, .tmp 7]
theorem gc26 (H : Hp) (r : V × Hp) : pr.gc 26 H r = gcF H r := gcOne rfl H r
set_option maxRecDepth 100000 in
theorem ex26 : ExP 26 68 c26 rs26 := @fun _ _ _ ha h => call_ex (fn := Try.f26) rfl Try.func26 rfl (by kernel_rfl) rfl (Nat.max_eq_right ha) h
theorem run26 : RunP 26 68 c26 rs26 := @fun _ _ _ ha h => run_of ex26 ha h
@[go_sem] theorem kp27 (v : V) : demK 27 v = v.dem := rfl
def rs27 : List ResultVar := [.tmp 4]
theorem gc27 (H : Hp) (r : V × Hp) : pr.gc 27 H r = gcF H r := gcOne rfl H r
set_option maxRecDepth 100000 in
theorem ex27 : ExP 27 27 c27 rs27 := @fun _ _ _ ha h => call_ex (fn := Try.f27) rfl Try.func27 rfl (by kernel_rfl) rfl (Nat.max_eq_right ha) h
theorem run27 : RunP 27 27 c27 rs27 := @fun _ _ _ ha h => run_of ex27 ha h
@[go_sem] theorem kp54 (v : V) : demK 54 v = v.dem := rfl
def rs54 : List ResultVar := [.tmp 2]
theorem gc54 (H : Hp) (r : V × Hp) : pr.gc 54 H r = gcF H r := gcOne rfl H r
set_option maxRecDepth 100000 in
theorem ex54 : ExP 54 18 c54 rs54 := @fun _ _ _ ha h => call_ex (fn := Try.f54) rfl Try.func54 rfl (by kernel_rfl) rfl (Nat.max_eq_right ha) h
theorem run54 : RunP 54 18 c54 rs54 := @fun _ _ _ ha h => run_of ex54 ha h
@[go_sem] theorem kp57 (v : V) : demK 57 v = v.dem := rfl
def rs57 : List ResultVar := [.tmp 2]
theorem gc57 (H : Hp) (r : V × Hp) : pr.gc 57 H r = gcF H r := gcOne rfl H r
set_option maxRecDepth 100000 in
theorem ex57 : ExP 57 103 c57 rs57 := @fun _ _ _ ha h => call_ex (fn := Try.f57) rfl Try.func57 rfl (by kernel_rfl) rfl (Nat.max_eq_right ha) h
theorem run57 : RunP 57 103 c57 rs57 := @fun _ _ _ ha h => run_of ex57 ha h
@[go_sem] theorem kp63 (v : V) : demK 63 v = v.dem := rfl
def rs63 : List ResultVar := [.tmp 2]
theorem gc63 (H : Hp) (r : V × Hp) : pr.gc 63 H r = gcF H r := gcOne rfl H r
set_option maxRecDepth 100000 in
theorem ex63 : ExP 63 28 c63 rs63 := @fun _ _ _ ha h => call_ex (fn := Try.f63) rfl Try.func63 rfl (by kernel_rfl) rfl (Nat.max_eq_right ha) h
theorem run63 : RunP 63 28 c63 rs63 := @fun _ _ _ ha h => run_of ex63 ha h
@[go_sem] theorem kp64 (v : V) : demK 64 v = v.dem := rfl
def rs64 : List ResultVar := [.tmp 4]
theorem gc64 (H : Hp) (r : V × Hp) : pr.gc 64 H r = gcF H r := gcOne rfl H r
set_option maxRecDepth 100000 in
theorem ex64 : ExP 64 10 c64 rs64 := @fun _ _ _ ha h => call_ex (fn := Try.f64) rfl Try.func64 rfl (by kernel_rfl) rfl (Nat.max_eq_right ha) h
theorem run64 : RunP 64 10 c64 rs64 := @fun _ _ _ ha h => run_of ex64 ha h
@[go_sem] theorem kp65 (v : V) : demK 65 v = v.dem := rfl
def rs65 : List ResultVar := [.tmp 4]
theorem gc65 (H : Hp) (r : V × Hp) : pr.gc 65 H r = gcF H r := gcOne rfl H r
set_option maxRecDepth 100000 in
theorem ex65 : ExP 65 38 c65 rs65 := @fun _ _ _ ha h => call_ex (fn := Try.f65) rfl Try.func65 rfl (by kernel_rfl) rfl (Nat.max_eq_right ha) h
theorem run65 : RunP 65 38 c65 rs65 := @fun _ _ _ ha h => run_of ex65 ha h
@[go_sem] theorem kp68 (v : V) : demK 68 v = v.dem := rfl
def rs68 : List ResultVar := [.tmp 2]
theorem gc68 (H : Hp) (r : V × Hp) : pr.gc 68 H r = gcF H r := gcOne rfl H r
set_option maxRecDepth 100000 in
theorem ex68 : ExP 68 9 c68 rs68 := @fun _ _ _ ha h => call_ex (fn := Try.f68) rfl Try.func68 rfl (by kernel_rfl) rfl (Nat.max_eq_right ha) h
theorem run68 : RunP 68 9 c68 rs68 := @fun _ _ _ ha h => run_of ex68 ha h
@[go_sem] theorem kp69 (v : V) : demK 69 v = v.dem := rfl
def rs69 : List ResultVar := [.tmp 4]
theorem gc69 (H : Hp) (r : V × Hp) : pr.gc 69 H r = gcF H r := gcOne rfl H r
set_option maxRecDepth 100000 in
theorem ex69 : ExP 69 9 c69 rs69 := @fun _ _ _ ha h => call_ex (fn := Try.f69) rfl Try.func69 rfl (by kernel_rfl) rfl (Nat.max_eq_right ha) h
theorem run69 : RunP 69 9 c69 rs69 := @fun _ _ _ ha h => run_of ex69 ha h
@[go_sem] theorem kp70 (v : V) : demK 70 v = v.dem := rfl
def rs70 : List ResultVar := [.tmp 4]
theorem gc70 (H : Hp) (r : V × Hp) : pr.gc 70 H r = gcF H r := gcOne rfl H r
set_option maxRecDepth 100000 in
theorem ex70 : ExP 70 34 c70 rs70 := @fun _ _ _ ha h => call_ex (fn := Try.f70) rfl Try.func70 rfl (by kernel_rfl) rfl (Nat.max_eq_right ha) h
theorem run70 : RunP 70 34 c70 rs70 := @fun _ _ _ ha h => run_of ex70 ha h
@[go_sem] theorem kp71 (v : V) : demK 71 v = v.dem := rfl
def rs71 : List ResultVar := [.tmp 4]
theorem gc71 (H : Hp) (r : V × Hp) : pr.gc 71 H r = gcF H r := gcOne rfl H r
set_option maxRecDepth 100000 in
theorem ex71 : ExP 71 26 c71 rs71 := @fun _ _ _ ha h => call_ex (fn := Try.f71) rfl Try.func71 rfl (by kernel_rfl) rfl (Nat.max_eq_right ha) h
theorem run71 : RunP 71 26 c71 rs71 := @fun _ _ _ ha h => run_of ex71 ha h
@[go_sem] theorem kp72 (v : V) : demK 72 v = v.dem := rfl
def rs72 : List ResultVar := [.tmp 2]
theorem gc72 (H : Hp) (r : V × Hp) : pr.gc 72 H r = gcF H r := gcOne rfl H r
set_option maxRecDepth 100000 in
theorem ex72 : ExP 72 9 c72 rs72 := @fun _ _ _ ha h => call_ex (fn := Try.f72) rfl Try.func72 rfl (by kernel_rfl) rfl (Nat.max_eq_right ha) h
theorem run72 : RunP 72 9 c72 rs72 := @fun _ _ _ ha h => run_of ex72 ha h
@[go_sem] theorem kp73 (v : V) : demK 73 v = v.dem := rfl
def rs73 : List ResultVar := [.tmp 4]
theorem gc73 (H : Hp) (r : V × Hp) : pr.gc 73 H r = gcF H r := gcOne rfl H r
set_option maxRecDepth 100000 in
theorem ex73 : ExP 73 6 c73 rs73 := @fun _ _ _ ha h => call_ex (fn := Try.f73) rfl Try.func73 rfl (by kernel_rfl) rfl (Nat.max_eq_right ha) h
theorem run73 : RunP 73 6 c73 rs73 := @fun _ _ _ ha h => run_of ex73 ha h
@[go_sem] theorem kp74 (v : V) : demK 74 v = v.dem := rfl
def rs74 : List ResultVar := [.cell 2 31]
theorem gc74 (H : Hp) (r : V × Hp) : pr.gc 74 H r = gcF H r := gcOne rfl H r
set_option maxRecDepth 100000 in
theorem ex74 : ExP 74 77 c74 rs74 := @fun _ _ _ ha h => call_ex (fn := Try.f74) rfl Try.func74 rfl (by kernel_rfl) rfl (Nat.max_eq_right ha) h
theorem run74 : RunP 74 77 c74 rs74 := @fun _ _ _ ha h => run_of ex74 ha h
@[go_sem] theorem kp75 (v : V) : demK 75 v = v.dem := rfl
def rs75 : List ResultVar := [.tmp 8]
theorem gc75 (H : Hp) (r : V × Hp) : pr.gc 75 H r = gcF H r := gcOne rfl H r
set_option maxRecDepth 100000 in
theorem ex75 : ExP 75 54 c75 rs75 := @fun _ _ _ ha h => call_ex (fn := Try.f75) rfl Try.func75 rfl (by kernel_rfl) rfl (Nat.max_eq_right ha) h
theorem run75 : RunP 75 54 c75 rs75 := @fun _ _ _ ha h => run_of ex75 ha h
@[go_sem] theorem kp76 (v : V) : demK 76 v = v.dem := rfl
def rs76 : List ResultVar := [.cell 4 31]
theorem gc76 (H : Hp) (r : V × Hp) : pr.gc 76 H r = gcF H r := gcOne rfl H r
set_option maxRecDepth 100000 in
theorem ex76 : ExP 76 8 c76 rs76 := @fun _ _ _ ha h => call_ex (fn := Try.f76) rfl Try.func76 rfl (by kernel_rfl) rfl (Nat.max_eq_right ha) h
theorem run76 : RunP 76 8 c76 rs76 := @fun _ _ _ ha h => run_of ex76 ha h
@[go_sem] theorem kp106 (v : V) : demK 106 v = v.dem := rfl
def rs106 : List ResultVar := [.tmp 2]
theorem gc106 (H : Hp) (r : V × Hp) : pr.gc 106 H r = gcF H r := gcOne rfl H r
set_option maxRecDepth 100000 in
theorem ex106 : ExP 106 12 c106 rs106 := @fun _ _ _ ha h => call_ex (fn := Try.f106) rfl Try.func106 rfl (by kernel_rfl) rfl (Nat.max_eq_right ha) h
theorem run106 : RunP 106 12 c106 rs106 := @fun _ _ _ ha h => run_of ex106 ha h
@[go_sem] theorem kp107 (v : V) : demK 107 v = v.dem := rfl
def rs107 : List ResultVar := [.tmp 2]
theorem gc107 (H : Hp) (r : V × Hp) : pr.gc 107 H r = gcF H r := gcOne rfl H r
set_option maxRecDepth 100000 in
theorem ex107 : ExP 107 26 c107 rs107 := @fun _ _ _ ha h => call_ex (fn := Try.f107) rfl Try.func107 rfl (by kernel_rfl) rfl (Nat.max_eq_right ha) h
theorem run107 : RunP 107 26 c107 rs107 := @fun _ _ _ ha h => run_of ex107 ha h
@[go_sem] theorem kp108 (v : V) : demK 108 v = v.dem := rfl
def rs108 : List ResultVar := [.tmp 2]
theorem gc108 (H : Hp) (r : V × Hp) : pr.gc 108 H r = gcF H r := gcOne rfl H r
set_option maxRecDepth 100000 in
theorem ex108 : ExP 108 18 c108 rs108 := @fun _ _ _ ha h => call_ex (fn := Try.f108) rfl Try.func108 rfl (by kernel_rfl) rfl (Nat.max_eq_right ha) h
theorem run108 : RunP 108 18 c108 rs108 := @fun _ _ _ ha h => run_of ex108 ha h
@[go_sem] theorem kp109 (v : V) : demK 109 v = v.dem := rfl
def rs109 : List ResultVar := [.tmp 2]
theorem gc109 (H : Hp) (r : V × Hp) : pr.gc 109 H r = gcF H r := gcOne rfl H r
set_option maxRecDepth 100000 in
theorem ex109 : ExP 109 23 c109 rs109 := @fun _ _ _ ha h => call_ex (fn := Try.f109) rfl Try.func109 rfl (by kernel_rfl) rfl (Nat.max_eq_right ha) h
theorem run109 : RunP 109 23 c109 rs109 := @fun _ _ _ ha h => run_of ex109 ha h
@[go_sem] theorem kp110 (v : V) : demK 110 v = v.dem := rfl
def rs110 : List ResultVar := [.tmp 4]
theorem gc110 (H : Hp) (r : V × Hp) : pr.gc 110 H r = gcF H r := gcOne rfl H r
set_option maxRecDepth 100000 in
theorem ex110 : ExP 110 66 c110 rs110 := @fun _ _ _ ha h => call_ex (fn := Try.f110) rfl Try.func110 rfl (by kernel_rfl) rfl (Nat.max_eq_right ha) h
theorem run110 : RunP 110 66 c110 rs110 := @fun _ _ _ ha h => run_of ex110 ha h
@[go_sem] theorem kp113 (v : V) : demK 113 v = v.dem := rfl
def rs113 : List ResultVar := [.tmp 2]
theorem gc113 (H : Hp) (r : V × Hp) : pr.gc 113 H r = gcF H r := gcOne rfl H r
set_option maxRecDepth 100000 in
theorem ex113 : ExP 113 153 c113 rs113 := @fun _ _ _ ha h => call_ex (fn := Try.f113) rfl Try.func113 rfl (by kernel_rfl) rfl (Nat.max_eq_right ha) h
theorem run113 : RunP 113 153 c113 rs113 := @fun _ _ _ ha h => run_of ex113 ha h
@[go_sem] theorem kp114 (v : V) : demK 114 v = v.dem := rfl
def rs114 : List ResultVar := [.tmp 4]
theorem gc114 (H : Hp) (r : V × Hp) : pr.gc 114 H r = gcF H r := gcOne rfl H r
set_option maxRecDepth 100000 in
theorem ex114 : ExP 114 19 c114 rs114 := @fun _ _ _ ha h => call_ex (fn := Try.f114) rfl Try.func114 rfl (by kernel_rfl) rfl (Nat.max_eq_right ha) h
theorem run114 : RunP 114 19 c114 rs114 := @fun _ _ _ ha h => run_of ex114 ha h
@[go_sem] theorem kp115 (v : V) : demK 115 v = v.dem := rfl
def rs115 : List ResultVar := [.tmp 6]
theorem gc115 (H : Hp) (r : V × Hp) : pr.gc 115 H r = gcF H r := gcOne rfl H r
set_option maxRecDepth 100000 in
theorem ex115 : ExP 115 51 c115 rs115 := @fun _ _ _ ha h => call_ex (fn := Try.f115) rfl Try.func115 rfl (by kernel_rfl) rfl (Nat.max_eq_right ha) h
theorem run115 : RunP 115 51 c115 rs115 := @fun _ _ _ ha h => run_of ex115 ha h
@[go_sem] theorem kp116 (v : V) : demK 116 v = v.dem := rfl
def rs116 : List ResultVar := [.tmp 2]
@[go_sem] theorem gc116 (H : Hp) (r : V × Hp) : pr.gc 116 H r = r := gcZero rfl H r
set_option maxRecDepth 100000 in
theorem ex116 : ExP 116 8 c116 rs116 := @fun _ _ _ ha h => call_ex (fn := Try.f116) rfl Try.func116 rfl (by kernel_rfl) rfl (Nat.max_eq_right ha) h
theorem run116 : RunP 116 8 c116 rs116 := @fun _ _ _ ha h => run_of ex116 ha h
@[go_sem] theorem kp117 (v : V) : demK 117 v = v.dem := rfl
def rs117 : List ResultVar := [.tmp 2]
@[go_sem] theorem gc117 (H : Hp) (r : V × Hp) : pr.gc 117 H r = r := gcZero rfl H r
set_option maxRecDepth 100000 in
theorem ex117 : ExP 117 8 c117 rs117 := @fun _ _ _ ha h => call_ex (fn := Try.f117) rfl Try.func117 rfl (by kernel_rfl) rfl (Nat.max_eq_right ha) h
theorem run117 : RunP 117 8 c117 rs117 := @fun _ _ _ ha h => run_of ex117 ha h
@[go_sem] theorem kp118 (v : V) : demK 118 v = v.dem := rfl
def rs118 : List ResultVar := [.tmp 2]
theorem gc118 (H : Hp) (r : V × Hp) : pr.gc 118 H r = gcF H r := gcOne rfl H r
set_option maxRecDepth 100000 in
theorem ex118 : ExP 118 8 c118 rs118 := @fun _ _ _ ha h => call_ex (fn := Try.f118) rfl Try.func118 rfl (by kernel_rfl) rfl (Nat.max_eq_right ha) h
theorem run118 : RunP 118 8 c118 rs118 := @fun _ _ _ ha h => run_of ex118 ha h
@[go_sem] theorem kp119 (v : V) : demK 119 v = v.dem := rfl
def rs119 : List ResultVar := [.tmp 2]
@[go_sem] theorem gc119 (H : Hp) (r : V × Hp) : pr.gc 119 H r = r := gcZero rfl H r
set_option maxRecDepth 100000 in
theorem ex119 : ExP 119 8 c119 rs119 := @fun _ _ _ ha h => call_ex (fn := Try.f119) rfl Try.func119 rfl (by kernel_rfl) rfl (Nat.max_eq_right ha) h
theorem run119 : RunP 119 8 c119 rs119 := @fun _ _ _ ha h => run_of ex119 ha h
@[go_sem] theorem kp120 (v : V) : demK 120 v = v.dem := rfl
def rs120 : List ResultVar := [.tmp 2]
@[go_sem] theorem gc120 (H : Hp) (r : V × Hp) : pr.gc 120 H r = r := gcZero rfl H r
set_option maxRecDepth 100000 in
theorem ex120 : ExP 120 8 c120 rs120 := @fun _ _ _ ha h => call_ex (fn := Try.f120) rfl Try.func120 rfl (by kernel_rfl) rfl (Nat.max_eq_right ha) h
theorem run120 : RunP 120 8 c120 rs120 := @fun _ _ _ ha h => run_of ex120 ha h
@[go_sem] theorem kp122 (v : V) : demK 122 v = v.dem := rfl
def rs122 : List ResultVar := [.tmp 6]
theorem gc122 (H : Hp) (r : V × Hp) : pr.gc 122 H r = gcF H r := gcOne rfl H r
set_option maxRecDepth 100000 in
theorem ex122 : ExP 122 32 c122 rs122 := @fun _ _ _ ha h => call_ex (fn := Try.f122) rfl Try.func122 rfl (by kernel_rfl) rfl (Nat.max_eq_right ha) h
theorem run122 : RunP 122 32 c122 rs122 := @fun _ _ _ ha h => run_of ex122 ha h
@[go_sem] theorem kp124 (v : V) : demK 124 v = v.dem := rfl
def rs124 : List ResultVar := [.tmp 6]
theorem gc124 (H : Hp) (r : V × Hp) : pr.gc 124 H r = gcF H r := gcOne rfl H r
set_option maxRecDepth 100000 in
theorem ex124 : ExP 124 32 c124 rs124 := @fun _ _ _ ha h => call_ex (fn := Try.f124) rfl Try.func124 rfl (by kernel_rfl) rfl (Nat.max_eq_right ha) h
theorem run124 : RunP 124 32 c124 rs124 := @fun _ _ _ ha h => run_of ex124 ha h
@[go_sem] theorem kp126 (v : V) : demK 126 v = v.dem := rfl
def rs126 : List ResultVar := [.tmp 6]
theorem gc126 (H : Hp) (r : V × Hp) : pr.gc 126 H r = gcF H r := gcOne rfl H r
set_option maxRecDepth 100000 in
theorem ex126 : ExP 126 32 c126 rs126 := @fun _ _ _ ha h => call_ex (fn := Try.f126) rfl Try.func126 rfl (by kernel_rfl) rfl (Nat.max_eq_right ha) h
theorem run126 : RunP 126 32 c126 rs126 := @fun _ _ _ ha h => run_of ex126 ha h
@[go_sem] theorem kp128 (v : V) : demK 128 v = v.dem := rfl
def rs128 : List ResultVar := [.tmp 4]
theorem gc128 (H : Hp) (r : V × Hp) : pr.gc 128 H r = gcF H r := gcOne rfl H r
set_option maxRecDepth 100000 in
theorem ex128 : ExP 128 26 c128 rs128 := @fun _ _ _ ha h => call_ex (fn := Try.f128) rfl Try.func128 rfl (by kernel_rfl) rfl (Nat.max_eq_right ha) h
theorem run128 : RunP 128 26 c128 rs128 := @fun _ _ _ ha h => run_of ex128 ha h
@[go_sem] theorem kp147 (v : V) : demK 147 v = v.dem := rfl
def rs147 : List ResultVar := [.tmp 4]
theorem gc147 (H : Hp) (r : V × Hp) : pr.gc 147 H r = gcF H r := gcOne rfl H r
set_option maxRecDepth 100000 in
theorem ex147 : ExP 147 9 c147 rs147 := @fun _ _ _ ha h => call_ex (fn := Try.f147) rfl Try.func147 rfl (by kernel_rfl) rfl (Nat.max_eq_right ha) h
theorem run147 : RunP 147 9 c147 rs147 := @fun _ _ _ ha h => run_of ex147 ha h
@[go_sem] theorem kp148 (v : V) : demK 148 v = v.dem := rfl
def rs148 : List ResultVar := [.tmp 2]
theorem gc148 (H : Hp) (r : V × Hp) : pr.gc 148 H r = gcF H r := gcOne rfl H r
set_option maxRecDepth 100000 in
theorem ex148 : ExP 148 9 c148 rs148 := @fun _ _ _ ha h => call_ex (fn := Try.f148) rfl Try.func148 rfl (by kernel_rfl) rfl (Nat.max_eq_right ha) h
theorem run148 : RunP 148 9 c148 rs148 := @fun _ _ _ ha h => run_of ex148 ha h
@[go_sem] theorem kp149 (v : V) : demK 149 v = v.dem := rfl
def rs149 : List ResultVar := [.tmp 2]
theorem gc149 (H : Hp) (r : V × Hp) : pr.gc 149 H r = gcF H r := gcOne rfl H r
set_option maxRecDepth 100000 in
theorem ex149 : ExP 149 23 c149 rs149 := @fun _ _ _ ha h => call_ex (fn := Try.f149) rfl Try.func149 rfl (by kernel_rfl) rfl (Nat.max_eq_right ha) h
theorem run149 : RunP 149 23 c149 rs149 := @fun _ _ _ ha h => run_of ex149 ha h
@[go_sem] theorem kp150 (v : V) : demK 150 v = v.dem := rfl
def rs150 : List ResultVar := [.tmp 4]
theorem gc150 (H : Hp) (r : V × Hp) : pr.gc 150 H r = gcF H r := gcOne rfl H r
set_option maxRecDepth 100000 in
theorem ex150 : ExP 150 47 c150 rs150 := @fun _ _ _ ha h => call_ex (fn := Try.f150) rfl Try.func150 rfl (by kernel_rfl) rfl (Nat.max_eq_right ha) h
theorem run150 : RunP 150 47 c150 rs150 := @fun _ _ _ ha h => run_of ex150 ha h
@[go_sem] theorem kp173 (v : V) : demK 173 v = v.dem := rfl
def rs173 : List ResultVar := [.tmp 4]
theorem gc173 (H : Hp) (r : V × Hp) : pr.gc 173 H r = gcF H r := gcOne rfl H r
set_option maxRecDepth 100000 in
theorem ex173 : ExP 173 19 c173 rs173 := @fun _ _ _ ha h => call_ex (fn := Try.f173) rfl Try.func173 rfl (by kernel_rfl) rfl (Nat.max_eq_right ha) h
theorem run173 : RunP 173 19 c173 rs173 := @fun _ _ _ ha h => run_of ex173 ha h
end Go.Proofs.Ytejkgnmjdaohdaa
