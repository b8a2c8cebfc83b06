/-
  Texts of this seat, laid together. No statement of the seat stands here.
-/
import Derived.Test.YtejkgnmjdaohdaaP3
/-
  The abstract machine, part EB: more of plain data in cells; the call of a function as an equation. No statement of the seat stands here.
-/
namespace Go.An
open Go
set_option linter.unusedSectionVars false

section
variable [Orc]
variable {P : Program} {H : Hp} {α : Type} {E : Enc α} {l : List α} {b : Bool}
/-! Parts of what stays as it is. -/
def fieldAtI (offs : List Nat) (cs : List V) (off i : Nat) : Option V := (offs[i]?).map fun o => .ipt cs (off + o)
theorem fieldAtI_eq {s : TypeId} {offs : List Nat} (h : offsOk P s offs = true) (cs : List V) (off i : Nat) : fieldAddrV P s (.ipt cs off) i = fieldAtI offs cs off i := by
  have h1 := fieldAt_eq h 0 0 off i
  unfold fieldAddrV fieldAt at h1
  unfold fieldAddrV fieldAtI
  cases hu : P.underlying s with
  | none => rw [hu] at h1; simp only at h1 ⊢; cases ho : offs[i]? with | none => rfl | some o => rw [ho] at h1; cases h1
  | some d =>
    rw [hu] at h1
    cases d
    case struct fields =>
      simp only at h1 ⊢
      cases hf : fields[i]? with
      | none => rw [hf] at h1; cases ho : offs[i]? with | none => rfl | some o => rw [ho] at h1; cases h1
      | some f =>
        rw [hf] at h1
        simp only [Option.bind_some] at h1 ⊢
        cases hz : szOf P f.type with
        | none => rw [hz] at h1; cases ho : offs[i]? with | none => rfl | some o => rw [ho] at h1; cases h1
        | some n =>
          rw [hz] at h1
          simp only [Option.bind_some] at h1 ⊢
          split at h1
          · cases ho : offs[i]? with
            | none => rw [if_pos (by assumption)]; rfl
            | some o => rw [ho] at h1; cases h1
          · cases ho : offs[i]? with
            | none => rw [ho] at h1; cases h1
            | some o =>
              rw [ho] at h1
              simp only [Option.map_some, Option.some.injEq, V.ptr.injEq, true_and] at h1
              rw [if_neg (by assumption), h1]
              rfl
    all_goals
      simp only at h1 ⊢
      cases ho : offs[i]? with
      | none => rfl
      | some o => rw [ho] at h1; cases h1
@[go_sem] theorem fieldAtI_0 (o : Nat) (os : List Nat) (cs : List V) (off : Nat) : fieldAtI (o :: os) cs off 0 = some (.ipt cs (off + o)) := rfl
@[go_sem] theorem fieldAtI_S (o : Nat) (os : List Nat) (cs : List V) (off i : Nat) : fieldAtI (o :: os) cs off (i + 1) = fieldAtI os cs off i := by simp [fieldAtI]
theorem iai_arr {t : TypeId} {len sz : Nat} (h : arrT P t len sz = true) {cs : List V} {off : Nat} {k : IntKind} {j : Int} (hj : 0 ≤ j ∧ j < len) : indexAddrV P t (.ipt cs off) (.int k j) = some (.ipt cs (off + j.toNat * sz)) := by
  have h1 := ia_arr h (id := 0) (g := 0) (off := off) (k := k) hj
  unfold indexAddrV at h1 ⊢
  cases hu : P.underlying t with
  | none => rw [hu] at h1; cases h1
  | some d =>
    rw [hu] at h1
    cases d
    case array n e =>
      simp only at h1 ⊢
      cases hz : szOf P e with
      | none => rw [hz] at h1; cases h1
      | some m =>
        rw [hz] at h1
        simp only [Option.bind_some] at h1 ⊢
        split at h1
        · rename_i hc
          simp only [Option.some.injEq, V.ptr.injEq, true_and] at h1
          rw [if_pos hc, h1]
        · cases h1
    all_goals (simp only at h1; cases h1)
/-! Made once for all. -/
theorem is_gen {t e : TypeId} {sz len : Nat} {zv : V} (hu : P.underlying t = some (.slice e)) (hz : szOf P e = some sz) (hv : zeroV P e = some zv) (hl : zv.cells.length = sz) (hs : 0 < sz) (hs2 : len * sz ≤ 2 ^ 24) (ps : List (Nat × V)) : immSl P t len ps = (fillV (fun i => some (i * sz, sz)) (repeatV zv.cells len) ps).bind fun cs => if immL cs = true then some (.isl cs len sz) else none := by
  unfold immSl
  simp only [hu, hz, hv, Option.bind_some]
  rw [if_pos ⟨hl, hs, hs2⟩]
theorem is_one {t e : TypeId} {sz : Nat} {zv : V} (hu : P.underlying t = some (.slice e)) (hz : szOf P e = some sz) (hv : zeroV P e = some zv) (hl : zv.cells.length = sz) (hs : 0 < sz) (hs2 : sz ≤ 2 ^ 24) (v : V) : immSl P t 1 [(0, v)] = if immL v.cells = true ∧ v.cells.length = sz then some (.isl v.cells 1 sz) else none := by
  rw [is_gen hu hz hv hl hs (by omega)]
  by_cases hc : immL v.cells = true ∧ v.cells.length = sz
  · rw [if_pos hc]
    have hr : repeatV zv.cells 1 = zv.cells := by simp [repeatV]
    rw [hr]
    have : fillV (fun i => some (i * sz, sz)) zv.cells [(0, v)] = some v.cells := by
      simp only [fillV, Option.bind_some, Nat.zero_mul, Nat.zero_add]
      rw [if_pos ⟨immL_cells hc.1, hc.2, by omega⟩]
      unfold setAt
      simp
      omega
    rw [this]
    simp only [Option.bind_some]
    rw [if_pos hc.1]
  · rw [if_neg hc]
    have hr : repeatV zv.cells 1 = zv.cells := by simp [repeatV]
    rw [hr]
    simp only [fillV, Option.bind_some, Nat.zero_mul, Nat.zero_add]
    split
    · rename_i h
      have e : setAt zv.cells 0 v.cells = v.cells := by
        unfold setAt
        simp
        omega
      rw [e]
      simp only [Option.bind_some]
      rw [if_neg fun h2 => hc ⟨h2, h.2.1⟩]
    · rfl
theorem is_zero {t e : TypeId} {sz : Nat} {zv : V} (hu : P.underlying t = some (.slice e)) (hz : szOf P e = some sz) (hv : zeroV P e = some zv) (hl : zv.cells.length = sz) (hs : 0 < sz) : immSl P t 0 [] = some (.isl [] 0 sz) := by
  rw [is_gen hu hz hv hl hs (by omega)]
  rfl
def iaT (P : Program) (t t1 : TypeId) (sz by_ : Nat) : Bool := match P.underlying t, P.underlying t1 with
  | some (.slice e), some (.slice _) => szOf P e == some sz && bytesOf' P e == some by_ && (match zeroV P e with | some z => z.cells.length == sz | none => false) && decide (0 < sz)
  | _, _ => false
theorem ia_slV {t t1 : TypeId} {sz by_ : Nat} (h : iaT P t t1 sz by_ = true) (hw : E.w = sz) (h1 : l.length * by_ ≤ 2 ^ 40) (h2 : l.length ≤ 2 ^ 40) : immApp P t t1 .nilslice (slV b E l) = some (slV true E l) := by
  unfold iaT at h
  split at h
  · rename_i e e1 hu hu1
    simp only [Bool.and_eq_true, beq_iff_eq, decide_eq_true_eq] at h
    obtain ⟨⟨⟨g1, g2⟩, g3⟩, g4⟩ := h
    split at g3
    · rename_i z hz
      simp only [beq_iff_eq] at g3
      unfold immApp
      simp only [hu, hu1, g1, g2, hz, Option.bind_some]
      subst hw
      rcases slV_cases b E l with ⟨k1, k2, k3⟩ | k1 <;> rw [k1]
      · subst k2
        simp only [Option.bind_some]
        rw [if_pos ⟨g4, g3, by simp, rfl, by simp, by simp⟩]
        simp [slV]
      · have fl := flatE_len (E := E) (l := l)
        simp only [if_pos fl, Option.bind_some]
        rw [if_pos ⟨g4, g3, fl, flatE_imm, h1, h2⟩]
        unfold slV
        by_cases h0 : l = []
        · subst h0; simp
        · rw [if_neg (fun e => h0 (List.length_eq_zero_iff.1 e)), if_neg (by simp [h0])]
    · cases g3
  · cases h
def icT (P : Program) (s d : TypeId) : Bool := match P.underlying s, P.underlying d with
  | some .string, some (.slice e) => (match P.underlying e with | some (.int .u8) => szOf P e == some 1 | _ => false)
  | _, _ => false
theorem ic_slV {s d : TypeId} (h : icT P s d = true) {m : List UInt8} (hm : m.length ≤ 2 ^ 40) : immCv P s d (.str m) = some (slV false byE m) := by
  unfold icT at h
  split at h
  · rename_i e hs hd
    split at h
    · rename_i he
      simp only [beq_iff_eq] at h
      unfold immCv
      simp only [hs, hd, he]
      rw [if_pos ⟨h, hm⟩]
      unfold slV
      rw [if_neg (by simp)]
      congr 2
      unfold flatE
      induction m with
      | nil => rfl
      | cons x m ih =>
        simp only [List.map_cons, List.flatten_cons]
        rw [ih (by simp only [List.length_cons] at hm; omega)]
        rfl
    · cases h
  · cases h
/-! Nothing, or not. -/
def isSlT (P : Program) (t : TypeId) : Bool := match P.underlying t with
  | some (.slice _) => true
  | _ => false
def isPtT (P : Program) (t : TypeId) : Bool := match P.underlying t with
  | some (.pointer _) => true
  | _ => false
def isMpT (P : Program) (t : TypeId) : Bool := match P.underlying t with
  | some (.map _ _) => true
  | _ => false
theorem nil_slV {t : TypeId} (h : isSlT P t = true) (b : Bool) (E : Enc α) (l : List α) : binV P .eql t (slV b E l) .nilslice = some (.bool (b && decide (l.length = 0))) ∧ binV P .neq t (slV b E l) .nilslice = some (.bool (!(b && decide (l.length = 0)))) := by
  unfold isSlT at h
  split at h
  · rename_i e hu
    rcases slV_cases b E l with ⟨k1, k2, k3⟩ | k1
    · rw [k1]; subst k2 k3; simp [binV, eqV, hu]
    · have hb : (b && decide (l.length = 0)) = false := by
        cases b
        · rfl
        · cases l with
          | nil => rw [slV_nil] at k1; cases k1
          | cons => simp
      rw [k1, hb]; simp [binV, eqV, hu]
  · cases h
theorem sl_nil {t : TypeId} (h : isSlT P t = true) (a b c d e : Nat) (cp : Cap) : binV P .eql t (.slice a b c d e cp) .nilslice = some (.bool false) ∧ binV P .neq t (.slice a b c d e cp) .nilslice = some (.bool true) ∧ binV P .eql t .nilslice .nilslice = some (.bool true) ∧ binV P .neq t .nilslice .nilslice = some (.bool false) := by
  unfold isSlT at h
  split at h
  · rename_i e hu; simp [binV, eqV, hu]
  · cases h
theorem pt_nil {t : TypeId} (h : isPtT P t = true) (a b c : Nat) : binV P .eql t (.ptr a b c) .nilptr = some (.bool false) ∧ binV P .neq t (.ptr a b c) .nilptr = some (.bool true) ∧ binV P .eql t .nilptr .nilptr = some (.bool true) ∧ binV P .neq t .nilptr .nilptr = some (.bool false) := by
  unfold isPtT at h
  split at h
  · rename_i e hu; simp [binV, eqV, hu]
  · cases h
theorem mp_nil {t : TypeId} (h : isMpT P t = true) (a : Nat) : binV P .eql t (.map a) .nilmap = some (.bool false) ∧ binV P .neq t (.map a) .nilmap = some (.bool true) ∧ binV P .eql t .nilmap .nilmap = some (.bool true) ∧ binV P .neq t .nilmap .nilmap = some (.bool false) := by
  unfold isMpT at h
  split at h
  · rename_i e hu; simp [binV, eqV, hu]
  · cases h
theorem agg_eq {t : TypeId} {ks : List CK} (hf : flatT P 8 t = some ks) (ha : aggT P t = some true) (hz : szOf P t = some ks.length) (xs ys : List V) : binV P .eql t (.agg xs) (.agg ys) = if ckOks ks xs = true ∧ ckOks ks ys = true then some (.bool (eqCells xs ys)) else none := by
  simp only [binV, eqV, hf, Option.bind_some, ha, hz, and_true]
  split <;> rfl
theorem agg_ne {t : TypeId} {ks : List CK} (hf : flatT P 8 t = some ks) (ha : aggT P t = some true) (hz : szOf P t = some ks.length) (xs ys : List V) : binV P .neq t (.agg xs) (.agg ys) = if ckOks ks xs = true ∧ ckOks ks ys = true then some (.bool (!eqCells xs ys)) else none := by
  simp only [binV, eqV, hf, Option.bind_some, ha, hz, and_true]
  split <;> rfl
@[go_sem] theorem ckOks_nil : ckOks [] [] = true := rfl
@[go_sem] theorem ckOks_cons (k : CK) (v : V) (ks : List CK) (vs : List V) : ckOks (k :: ks) (v :: vs) = (ckOk k v && ckOks ks vs) := rfl
@[go_sem] theorem ckOk_int (k : IntKind) (n : Int) : ckOk (.int k) (.int k n) = true := by simp [ckOk]
@[go_sem] theorem ckOk_str (s : List UInt8) : ckOk .str (.str s) = true := rfl
@[go_sem] theorem ckOk_bool (b : Bool) : ckOk .bool (.bool b) = true := rfl
@[go_sem] theorem eqCells_nil : eqCells [] [] = true := rfl
@[go_sem] theorem eqCells_cons (a b : V) (x y : List V) : eqCells (a :: x) (b :: y) = (eqCell a b && eqCells x y) := rfl
@[go_sem] theorem eqCell_int (k k' : IntKind) (a b : Int) : eqCell (.int k a) (.int k' b) = decide (a = b) := by simp [eqCell]; rfl
@[go_sem] theorem eqCell_bool (a b : Bool) : eqCell (.bool a) (.bool b) = (a == b) := rfl
@[go_sem] theorem eqCell_str (a b : List UInt8) : eqCell (.str a) (.str b) = decide (a = b) := by
  by_cases h : a = b <;> simp [eqCell, h]
theorem buildArr_eq {t e : TypeId} {n sz : Nat} {z : List V} (hu : P.underlying t = some (.array n e)) (he : szOf P e = some sz) (hz : zeroV P t = some (.agg z)) (ps : List (Nat × V)) : buildV P t ps = (fillV (fun i => some (i * sz, sz)) z ps).map V.agg := by
  unfold buildV
  simp only [hu, hz, Option.bind_some, V.cells, he]
theorem bs_zero {t e : TypeId} {sz : Nat} {zv : V} (hu : P.underlying t = some (.slice e)) (hz : szOf P e = some sz) (hv : zeroV P e = some zv) (hl : zv.cells.length = sz) (hs : 0 < sz) : buildSliceV P t 0 [] H = some (.slice H.length 0 0 0 sz .full, H ++ [.row 0 [] true]) := by
  unfold buildSliceV
  simp only [hu, hz, hv, Option.bind_some]
  rw [if_pos ⟨hl, hs, by omega⟩]
  rfl
theorem bs_gen {t e : TypeId} {sz len : Nat} {zv : V} (hu : P.underlying t = some (.slice e)) (hz : szOf P e = some sz) (hv : zeroV P e = some zv) (hl : zv.cells.length = sz) (hs : 0 < sz) (hs2 : len * sz ≤ 2 ^ 24) (ps : List (Nat × V)) : buildSliceV P t len ps H = (fillV (fun i => some (i * sz, sz)) (repeatV zv.cells len) ps).bind fun cs => if cs.all V.isCell = true then some (.slice H.length 0 0 len sz .full, H ++ [.row 0 cs true]) else none := by
  unfold buildSliceV
  simp only [hu, hz, hv, Option.bind_some]
  rw [if_pos ⟨hl, hs, hs2⟩]
@[go_sem] theorem repeatV_0 (z : List V) : repeatV z 0 = [] := rfl
@[go_sem] theorem repeatV_S (z : List V) (n : Nat) : repeatV z (n + 1) = z ++ repeatV z n := rfl

variable {Pr : Prims}
/-- A call, as an equation. -/
theorem call_eq {k n : Nat} {fn : Func} {code : Code} {c : Cc} (hp : Pr.call k = none) (hf : P.funcs[k]? = some fn) (hb : fn.body = some code) (hc : compC P n code = some c) {rs : List ResultVar} (hr : fn.results.toList = rs) {args : List V} (hn : max args.length fn.ntmps = n) {r : V × Hp}
    (h : Wp P (callL P Pr) n c args [] H (RetQ P rs fun v H' => Pr.gc k H (v, H') = r)) : callL P Pr k args H = some r := by
  obtain ⟨v, H', h1, h2⟩ := call_of hp hf hb hc hr hn h
  rw [h2, h1]
theorem call_ex {k n : Nat} {fn : Func} {code : Code} {c : Cc} (hp : Pr.call k = none) (hf : P.funcs[k]? = some fn) (hb : fn.body = some code) (hc : compC P n code = some c) {rs : List ResultVar} (hr : fn.results.toList = rs) {args : List V} (hn : max args.length fn.ntmps = n) {R : V × Hp → Prop}
    (h : Wp P (callL P Pr) n c args [] H (RetQ P rs fun v H' => R (Pr.gc k H (v, H')))) : ∃ r, callL P Pr k args H = some r ∧ R r := by
  obtain ⟨v, H', h1, h2⟩ := call_of hp hf hb hc hr hn h
  exact ⟨_, h2, h1⟩
/-! Deferred calls of contracts. -/
def dfrs (Pr : Prims) : Dfr → Hp → Option Hp
  | [], H => some H
  | d :: D, H => (Pr.dfr d.1).bind fun p => (p d.2 H).bind (dfrs Pr D)
theorem dfrs_eq {code : Nat → CodeT} : ∀ {D : Dfr} {H H' : Hp}, dfrs Pr D H = some H' → defersV P Pr code D H = some H'
  | [], H, H', h => by simpa [dfrs, defersV] using h
  | d :: D, H, H', h => by
    unfold dfrs at h
    obtain ⟨p, h1, h2⟩ := Option.bind_eq_some_iff.1 h
    obtain ⟨H1, h3, h4⟩ := Option.bind_eq_some_iff.1 h2
    unfold defersV
    have : callD P Pr code d.1 d.2 H = some H1 := by
      unfold callD
      simp only [h1, h3]
    simp only [this, Option.bind_some]
    exact dfrs_eq h4
def RetD (P : Program) (Pr : Prims) (rs : List ResultVar) (R : V → Hp → Prop) : Ex → Fr → Dfr → Hp → Prop
  | .exit _, _, _, _ => False
  | _, T, D, H => bindW (dfrs Pr D H) fun H' => bindW ((mapO (resV P H' T) rs).bind tupV) fun v => R v H'
@[go_sem] theorem RetD_ret (rs : List ResultVar) (K : V → Hp → Prop) (T : Fr) (D : Dfr) : RetD P Pr rs K .ret T D H = bindW (dfrs Pr D H) fun H' => bindW ((mapO (resV P H' T) rs).bind tupV) fun v => K v H' := rfl
@[go_sem] theorem RetD_nor (rs : List ResultVar) (K : V → Hp → Prop) (T : Fr) (D : Dfr) : RetD P Pr rs K .nor T D H = bindW (dfrs Pr D H) fun H' => bindW ((mapO (resV P H' T) rs).bind tupV) fun v => K v H' := rfl
@[go_sem] theorem dfrs_nil : dfrs Pr [] H = some H := rfl
theorem call_ofD {k n : Nat} {fn : Func} {code : Code} {c : Cc} (hp : Pr.call k = none) (hf : P.funcs[k]? = some fn) (hb : fn.body = some code) (hc : compC P n code = some c) {rs : List ResultVar} (hr : fn.results.toList = rs) {args : List V} (hn : max args.length fn.ntmps = n) {R : V → Hp → Prop}
    (h : Wp P (callL P Pr) n c args [] H (RetD P Pr rs R)) : ∃ v H', R v H' ∧ callL P Pr k args H = some (Pr.gc k H (v, H')) := by
  obtain ⟨e, s', h1, h2⟩ := h
  have hrun := Big_code h1 code hc
  cases e with
  | exit id => exact h2.elim
  | nor =>
    obtain ⟨H1, hD, v, hv, hR⟩ := h2
    refine ⟨v, H1, hR, ?_⟩
    rw [callL_eq]
    unfold callF
    simp only [hp, hf, hb, Option.bind_some, hn, hrun, dfrs_eq hD]
    unfold resultsV
    rw [hr, hv]
    rfl
  | ret =>
    obtain ⟨H1, hD, v, hv, hR⟩ := h2
    refine ⟨v, H1, hR, ?_⟩
    rw [callL_eq]
    unfold callF
    simp only [hp, hf, hb, Option.bind_some, hn, hrun, dfrs_eq hD]
    unfold resultsV
    rw [hr, hv]
    rfl
theorem call_exD {k n : Nat} {fn : Func} {code : Code} {c : Cc} (hp : Pr.call k = none) (hf : P.funcs[k]? = some fn) (hb : fn.body = some code) (hc : compC P n code = some c) {rs : List ResultVar} (hr : fn.results.toList = rs) {args : List V} (hn : max args.length fn.ntmps = n) {R : V × Hp → Prop}
    (h : Wp P (callL P Pr) n c args [] H (RetD P Pr rs fun v H' => R (Pr.gc k H (v, H')))) : ∃ r, callL P Pr k args H = some r ∧ R r := by
  obtain ⟨v, H', h1, h2⟩ := call_ofD hp hf hb hc hr hn h
  exact ⟨_, h2, h1⟩
theorem call_eqD {k n : Nat} {fn : Func} {code : Code} {c : Cc} (hp : Pr.call k = none) (hf : P.funcs[k]? = some fn) (hb : fn.body = some code) (hc : compC P n code = some c) {rs : List ResultVar} (hr : fn.results.toList = rs) {args : List V} (hn : max args.length fn.ntmps = n) {r : V × Hp}
    (h : Wp P (callL P Pr) n c args [] H (RetD P Pr rs fun v H' => Pr.gc k H (v, H') = r)) : callL P Pr k args H = some r := by
  obtain ⟨v, H', h1, h2⟩ := call_ofD hp hf hb hc hr hn h
  rw [h2, h1]
end
end Go.An
/-
  The abstract machine, part EC: arguments as lists of plain data. No statement of the seat stands here.
-/
namespace Go.An
open Go Go.RowKit

set_option linter.unusedSectionVars false
section
variable [Orc]
variable {P : Program}
def structTys (P : Program) (t : TypeId) : Option (List TypeId) := match P.underlying t with
  | some (.struct fs) => some (fs.toList.map (·.type))
  | _ => none
def RdTs (P : Program) (m : Nat) : List TypeId → List (List V) → Prop
  | [], [] => True
  | t :: ts, x :: xs => (x.length = P.cellsOf t ∧ RdT P m t x) ∧ RdTs P m ts xs
  | _, _ => False
theorem rdTs_of {m : Nat} : ∀ {fs : List Field} {xss : List (List V)}, xss.length = fs.length → (∀ (i : Nat) (fld : Field) (x : List V), fs[i]? = some fld → xss[i]? = some x → x.length = P.cellsOf fld.type ∧ RdT P m fld.type x) → RdTs P m (fs.map (·.type)) xss
  | [], [], _, _ => trivial
  | f :: fs, x :: xss, hl, h => ⟨h 0 f x rfl rfl, rdTs_of (by simpa using hl) fun i fld y h1 h2 => h (i + 1) fld y (by simpa using h1) (by simpa using h2)⟩
  | [], _ :: _, hl, _ => by simp at hl
  | _ :: _, [], hl, _ => by simp at hl
theorem rd_parts {m : Nat} {t : TypeId} {ts : List TypeId} {xs : List V} (hu : structTys P t = some ts) (h : RdT P (m + 1) t xs) : ∃ xss, xs = xss.flatten ∧ RdTs P m ts xss := by
  unfold structTys at hu
  split at hu
  · rename_i fs hs
    injection hu with hu
    subst hu
    obtain ⟨xss, h1, h2, h3⟩ := rd_struct hs h
    exact ⟨xss, h1, rdTs_of (by simpa using h2) fun i fld x h4 h5 => h3 i fld x (by simpa using h4) h5⟩
  · cases hu
theorem rdTs_cons {m : Nat} {t : TypeId} {ts : List TypeId} {xss : List (List V)} (h : RdTs P m (t :: ts) xss) : ∃ x l, xss = x :: l ∧ RdT P m t x ∧ RdTs P m ts l := by
  cases xss with
  | nil => exact h.elim
  | cons x l => exact ⟨x, l, rfl, h.1.2, h.2⟩
theorem rdTs_nil {m : Nat} {xss : List (List V)} (h : RdTs P m [] xss) : xss = [] := by
  cases xss with
  | nil => rfl
  | cons x l => exact h.elim
def Inx (n : Int) : Prop := -9223372036854775808 ≤ n ∧ n ≤ 9223372036854775807
theorem rd_i64 {m : Nat} {t : TypeId} {xs : List V} (hu : P.underlying t = some (.int .i64)) (h : RdT P (m + 1) t xs) : ∃ n, xs = [.int .i64 n] ∧ Inx n := by
  obtain ⟨n, e, hw⟩ := rd_int hu h
  exact ⟨n, e, by simpa [Inx, Lit.wf, IntKind.min, IntKind.max, IntKind.signed, IntKind.bits] using hw⟩
theorem rd_u8 {m : Nat} {t : TypeId} {xs : List V} (hu : P.underlying t = some (.int .u8)) (h : RdT P (m + 1) t xs) : ∃ n : UInt8, xs = [.int .u8 n.toNat] := by
  obtain ⟨n, e, hw⟩ := rd_int hu h
  have hr : 0 ≤ n ∧ n ≤ 255 := by simpa [Lit.wf, IntKind.min, IntKind.max, IntKind.signed, IntKind.bits] using hw
  refine ⟨UInt8.ofNat n.toNat, ?_⟩
  rw [e, UInt8.toNat_ofNat', Nat.mod_eq_of_lt (by omega)]
  congr 2
  omega
/-- A list of elements, read each by itself. -/
theorem dec_list {α : Type} {m : Nat} {e : TypeId} {enc : α → List V} {Ok : α → Prop} (dec : ∀ x, RdT P m e x → ∃ a, x = enc a ∧ Ok a) : ∀ (xss : List (List V)), (∀ x ∈ xss, x.length = P.cellsOf e ∧ RdT P m e x) → ∃ l : List α, xss = l.map enc ∧ ∀ a ∈ l, Ok a
  | [], _ => ⟨[], rfl, by simp⟩
  | x :: xss, h => by
    obtain ⟨l, rfl, hl⟩ := dec_list dec xss fun y hy => h y (by simp [hy])
    obtain ⟨a, rfl, ha⟩ := dec x (h x (by simp)).2
    refine ⟨a :: l, rfl, fun b hb => ?_⟩
    rcases List.mem_cons.1 hb with rfl | hb
    · exact ha
    · exact hl b hb

theorem rd_list {α : Type} {m : Nat} {t e : TypeId} {E : Enc α} {Ok : α → Prop} (hu : P.underlying t = some (.slice e)) (hc : P.cellsOf e = E.w) (dec : ∀ x, RdT P m e x → ∃ a, x = E.f a ∧ Ok a) {xs : List V} (h : RdT P (m + 1) t xs) :
    ∃ (b : Bool) (l : List α), xs = [slV b E l] ∧ (∀ a ∈ l, Ok a) ∧ l.length * P.bytesOf e ≤ reachBytes ∧ l.length ≤ maxLen := by
  rcases rd_slice hu h with rfl | ⟨xss, rfl, h1, h2, h3⟩
  · exact ⟨true, [], rfl, by simp, by simp, by simp⟩
  · obtain ⟨l, rfl, hl⟩ := dec_list dec xss h3
    rw [List.length_map] at h1 h2
    exact ⟨false, l, by simp [slV, flatE, hc], hl, h1, h2⟩
theorem arg_list {α : Type} {m : Nat} {t e : TypeId} {E : Enc α} {Ok : α → Prop} (hu : P.underlying t = some (.slice e)) (hc : P.cellsOf e = E.w) (dec : ∀ x, RdT P m e x → ∃ a, x = E.f a ∧ Ok a) {x : V} (h : ArgT P (m + 1) t x) :
    ∃ (b : Bool) (l : List α), x = slV b E l ∧ (∀ a ∈ l, Ok a) ∧ l.length * P.bytesOf e ≤ reachBytes ∧ l.length ≤ maxLen := by
  unfold ArgT at h
  rw [hu] at h
  obtain ⟨b, l, e, r⟩ := rd_list hu hc dec h
  injection e with e
  exact ⟨b, l, e, r⟩
theorem arg_i64 {m : Nat} {t : TypeId} {x : V} (hu : P.underlying t = some (.int .i64)) (h : ArgT P (m + 1) t x) : ∃ n, x = .int .i64 n ∧ Inx n := by
  unfold ArgT at h; rw [hu] at h
  obtain ⟨n, e, hw⟩ := rd_i64 hu h
  injection e with e
  exact ⟨n, e, hw⟩
theorem rd_bytes {m : Nat} {t e : TypeId} (hu : P.underlying t = some (.slice e)) (he : P.underlying e = some (.int .u8)) (hc : P.cellsOf e = 1) {xs : List V} (h : RdT P (m + 2) t xs) :
    ∃ (b : Bool) (l : List UInt8), xs = [slV b byE l] ∧ (∀ b ∈ l, True) ∧ l.length * P.bytesOf e ≤ reachBytes ∧ l.length ≤ maxLen :=
  rd_list (m := m + 1) (E := byE) (Ok := fun _ => True) hu hc (fun _ hx => let ⟨n, e⟩ := rd_u8 (m := m) he hx; ⟨n, e, trivial⟩) h
theorem arg_bytes {m : Nat} {t e : TypeId} (hu : P.underlying t = some (.slice e)) (he : P.underlying e = some (.int .u8)) (hc : P.cellsOf e = 1) {x : V} (h : ArgT P (m + 2) t x) :
    ∃ (b : Bool) (l : List UInt8), x = slV b byE l ∧ (∀ b ∈ l, True) ∧ l.length * P.bytesOf e ≤ reachBytes ∧ l.length ≤ maxLen :=
  arg_list (m := m + 1) (E := byE) (Ok := fun _ => True) hu hc (fun _ hx => let ⟨n, e⟩ := rd_u8 (m := m) he hx; ⟨n, e, trivial⟩) h
theorem arg_ints {m : Nat} {t e : TypeId} (hu : P.underlying t = some (.slice e)) (he : P.underlying e = some (.int .i64)) (hc : P.cellsOf e = 1) {x : V} (h : ArgT P (m + 2) t x) :
    ∃ (b : Bool) (l : List Int), x = slV b inE l ∧ (∀ b ∈ l, Inx b) ∧ l.length * P.bytesOf e ≤ reachBytes ∧ l.length ≤ maxLen :=
  arg_list (m := m + 1) (E := inE) (Ok := Inx) hu hc (fun _ hx => rd_i64 (m := m) he hx) h
theorem maxLen_eq : maxLen = 9223372036854775807 := rfl
theorem arg_struct {m : Nat} {t : TypeId} {fs : Array Field} {x : V} (hu : P.underlying t = some (.struct fs)) (h : ArgT P m t x) : ∃ xs, x = .agg xs ∧ RdT P m t xs := by
  unfold ArgT at h; rw [hu] at h; exact h
theorem byE_w : byE.w = 1 := rfl
theorem inE_w : inE.w = 1 := rfl
theorem boE_w : boE.w = 1 := rfl
theorem stE_w : stE.w = 1 := rfl
/-- The first place of what is sought. -/
def findI {α : Type} (p : α → Bool) : List α → Int → Int
  | [], _ => -1
  | x :: xs, i => if p x then i else findI p xs (i + 1)
theorem findI_any {α : Type} (p : α → Bool) : ∀ (xs : List α) (i : Int), 0 ≤ i → decide (0 ≤ findI p xs i) = xs.any p
  | [], i, _ => rfl
  | x :: xs, i, h => by
    unfold findI
    by_cases hp : p x = true
    · simp [hp, h]
    · rw [if_neg hp, findI_any p xs (i + 1) (by omega)]
      simp [hp]
theorem findI_drop {α : Type} (p : α → Bool) {xs : List α} {i : Nat} {x : α} (hx : xs[i]? = some x) (n : Int) : findI p (xs.drop i) n = if p x then n else findI p (xs.drop (i + 1)) (n + 1) := by
  obtain ⟨h1, rfl⟩ := List.getElem?_eq_some_iff.1 hx
  rw [List.drop_eq_getElem_cons h1]
  rfl
/-! Plain data that stays folded. -/
section
variable {α : Type} {H : Hp} (E : Enc α) (a : α)
@[go_sem] theorem Enc.load (t : TypeId) (off : Nat) : loadV P t H (.ipt (E.f a) off) = partV P t (E.f a) off := rfl
@[go_sem] theorem Enc.part (t : TypeId) (off : Nat) : partV P t (E.f a) off = partK (aggT P t) (szOf P t) (E.f a) off := rfl
theorem partK_all {cs : List V} {n : Nat} (h : cs.length = n) : partK (some true) (some n) cs 0 = some (.agg cs) := by
  subst h
  simp [partK]
@[go_sem] theorem Enc.immLs : immL (E.f a) = true := E.imm a
@[go_sem] theorem Enc.all : (E.f a).all V.isCell = true := immL_cells (E.imm a)
theorem eqC_imm {v : V} (h : v.imm = true) : eqC v v = true := by
  cases v <;> simp [V.imm] at h <;> simp [eqC, eqBase, eqIL_refl]
theorem eqList_imm : ∀ {l : List V}, immL l = true → eqList eqC l l = true
  | [], _ => rfl
  | v :: l, h => by
    have h1 := immL_iff.1 h
    rw [eqList, eqC_imm (h1 v (by simp)), eqList_imm (immL_iff.2 fun x hx => h1 x (by simp [hx]))]
    rfl
@[go_sem] theorem Enc.eqL : eqList eqC (E.f a) (E.f a) = true := eqList_imm (E.imm a)
theorem inlC_imm {n f : Nat} {v : V} (h : v.imm = true) : inlC n H (f + 1) v = some v := by
  rw [← inlB_imm (n := n) (H' := H) (f := f) h]
  cases v <;> simp [V.imm] at h <;> rfl
theorem mapO_immC {n f : Nat} {cs : List V} (h : immL cs = true) : mapO (inlC n H (f + 1)) cs = some cs := by
  induction cs with
  | nil => rfl
  | cons v l ih =>
    have h1 := immL_iff.1 h
    rw [mapO_cons, inlC_imm (h1 v (by simp)), ih (immL_iff.2 fun x hx => h1 x (by simp [hx]))]
    rfl
@[go_sem] theorem Enc.mapO {n f : Nat} : An.mapO (inlC n H (f + 1)) (E.f a) = some (E.f a) := mapO_immC (E.imm a)
@[go_sem] theorem Enc.mapOB {n f : Nat} : An.mapO (inlB n H (f + 1)) (E.f a) = some (E.f a) := mapO_imm (E.imm a)
end
theorem guardQ_ite {cl : CallT} {N n0 : Nat} {b w2 w : Bool} {v1 v2 : V} {sf : Prop} {x : Option (V × Dfr × Hp)} {d : Option Nat} {a : Bool} {rs : List (Option (Nat × Bool) × Op)} {rest : List Co} {T : Fr} {D : Dfr} {H : Hp} {Q : Fr → Dfr → Hp → Prop}
    (h1 : b = true → guardQ P cl N n0 (iteB true w2 v1 v2) w sf x d a rs rest T D H Q) (h2 : b = false → guardQ P cl N n0 (iteB false w2 v1 v2) w sf x d a rs rest T D H Q) : guardQ P cl N n0 (iteB b w2 v1 v2) w sf x d a rs rest T D H Q := by
  cases b
  · exact h2 rfl
  · exact h1 rfl
/-- One more element laid behind a slice that grows. -/
theorem bl_one {α : Type} {H : Hp} {n g w by_ : Nat} (E : Enc α) (ys : List α) (y : α) (hn : n = H.length) (hw : E.w = w) (hb : (ys.length + 1) * by_ ≤ 2 ^ 40) (hb2 : ys.length + 1 ≤ 2 ^ 40) :
    appOf w by_ (H ++ blH g (ys.map E.f)) (blV n g w (ys.map E.f)) (.isl (E.f y) 1 w) = some (blV n (blG g (ys.map E.f)) w ((ys ++ [y]).map E.f), H ++ blH (blG g (ys.map E.f)) ((ys ++ [y]).map E.f)) := by
  rw [bl_push hn hw ((E.len y).trans hw) (immL_cells (E.imm y)) hb hb2]
  simp
theorem flatE_app {α : Type} (E : Enc α) (l m : List α) : flatE E (l ++ m) = flatE E l ++ flatE E m := by simp [flatE]
theorem flatE_cells {α : Type} (E : Enc α) (l : List α) : (flatE E l).all V.isCell = true := immL_cells flatE_imm
/-- A list laid behind a slice that grows. -/
theorem bl_all {α : Type} {H : Hp} {n g w by_ : Nat} (E : Enc α) (ys zs : List α) (b : Bool) (hn : n = H.length) (hw : E.w = w) (hb : (ys.length + zs.length) * by_ ≤ 2 ^ 40) (hb2 : ys.length + zs.length ≤ 2 ^ 40) :
    appOf w by_ (H ++ blH g (ys.map E.f)) (blV n g w (ys.map E.f)) (slV b E zs) = some (blV n (if zs = [] then g else blG g (ys.map E.f)) w ((ys ++ zs).map E.f), H ++ blH (if zs = [] then g else blG g (ys.map E.f)) ((ys ++ zs).map E.f)) := by
  subst hw hn
  have hp := E.pos
  have hxl := ls_len (enc_ls E ys)
  rw [List.length_map] at hxl
  have hzl : (flatE E zs).length = zs.length * E.w := flatE_len
  unfold appOf
  rw [src_slV]
  simp only [Option.bind_some]
  rw [if_pos ⟨hzl, flatE_cells E zs⟩]
  by_cases hz : zs = []
  · subst hz
    simp only [List.length_nil, if_true, List.append_nil]
    unfold blV blH
    by_cases h : ys.map E.f = []
    · simp [h]
    · have hr : getRow (H ++ [AB.row g (ys.map E.f).flatten true]) H.length g = some ((ys.map E.f).flatten, true) := getRow_last g _ true
      simp only [if_neg h, hr, Option.bind_some, List.length_map, Nat.add_zero]
      rw [if_pos ⟨trivial, by simpa using hb, by simpa using hb2, by omega⟩]
  · have hz0 : 0 < zs.length := by
      cases zs with
      | nil => exact absurd rfl hz
      | cons => simp
    have hne : ¬ ((ys ++ zs).map E.f = []) := by
      intro e
      simp only [List.map_eq_nil_iff, List.append_eq_nil_iff] at e
      exact hz e.2
    simp only [if_neg hz, blV, blH, blG, if_neg hne]
    by_cases h : ys.map E.f = []
    · have h' : ys = [] := by simpa using h
      subst h'
      simp only [List.map_nil, List.length_nil, Nat.zero_add, if_true, List.nil_append, List.append_nil] at hb hb2 ⊢
      rw [if_neg (show ¬ zs.length = 0 by omega), if_pos ⟨hb, hb2⟩]
      simp [flatE]
    · simp only [if_neg h]
      have hr : getRow (H ++ [AB.row g (ys.map E.f).flatten true]) H.length g = some ((ys.map E.f).flatten, true) := getRow_last g _ true
      have hzw : 0 < zs.length * E.w := Nat.mul_pos hz0 hp
      rw [hr]
      simp only [Option.bind_some, List.length_map]
      rw [if_pos ⟨trivial, hb, hb2, by omega⟩, if_neg (show ¬ zs.length = 0 by omega), if_pos trivial, if_neg (by rw [hxl, Nat.add_mul]; omega), if_pos (by omega)]
      simp [flatE]
end
end Go.An
/-
  The abstract machine, part ED: rows that are known among others; a row of before that a call changes. No statement of the seat stands here.
-/
namespace Go.An
open Go
set_option linter.unusedSectionVars false

section
variable [Orc]
variable {P : Program} {H L : Hp} {k g : Nat}
theorem getRow_of {cs : List V} {o : Bool} (h : H[k]? = some (.row g cs o)) : getRow H k g = some (cs, o) := by simp [getRow, h]
theorem getRow_app' (h : k < H.length) : getRow (H ++ L) k g = getRow H k g := getRow_app h
theorem getRow_setS {cs : List V} {o : Bool} (h : k < H.length) : getRow (H.set k (.row g cs o)) k g = some (cs, o) := by simp [getRow, h]
theorem getRow_setO {j : Nat} {b : AB} (h : j ≠ k) : getRow (H.set j b) k g = getRow H k g := by simp [getRow, h]
theorem set_app {b : AB} (h : k < H.length) : (H ++ L).set k b = H.set k b ++ L := List.set_append_left k b h
theorem set_len {b : AB} : (H.set k b).length = H.length := List.length_set
theorem get_last {A : Hp} {b : AB} {n : Nat} (h : n = A.length) : (A ++ [b])[n]? = some b := by subst h; simp
theorem getRow_lastN {n : Nat} {A : Hp} {cs : List V} {o : Bool} (h : n = A.length) : getRow (A ++ [.row g cs o]) n g = some (cs, o) := by subst h; exact getRow_last g cs o
theorem set_lastN {n : Nat} {A : Hp} {b b' : AB} (h : n = A.length) : (A ++ [b]).set n b' = A ++ [b'] := by subst h; exact set_last b b'
/-- A call that changes one row of before, and makes others. -/
def putQ (x : Option V) (y : Option AB) (H : Hp) (k : Nat) (r : V × Hp) : Prop := ∃ v b, x = some v ∧ y = some b ∧ (v, H.set k b) = r
@[go_sem] theorem putQ_some (v : V) (b : AB) (r : V × Hp) : putQ (some v) (some b) H k r = ((v, H.set k b) = r) := by simp [putQ]
@[go_sem] theorem inlK_row (n : Nat) (H' : Hp) (f : Nat) (cs : List V) (o : Bool) : inlK n H' f (.row g cs o) = (mapO (inlC n H' f) cs).map fun xs => .row g xs o := rfl
theorem gcF_put {v v' : V} {b0 b b' : AB} {H' : Hp} (h0 : H[k]? = some b0) (hb0 : inlK H.length H' 8 b0 = some b0) (h : ∀ id, id < H.length → id ≠ k → H'[id]? = H[id]?) (hb : H'[k]? = some b) (hv : inlR H.length H' 8 v = some v') (hi : inlK H.length H' 8 b = some b') : gcF H (v, H') = (v', H.set k b') := by
  have hk : k < H.length := (List.getElem?_eq_some_iff.1 h0).1
  have key : ∀ n, n ≤ H.length → mapO (frzK H H') (List.range n) = some ((H.set k b').take n) := by
    have app : ∀ (l : List Nat) (j : Nat) (r : List AB) (b : AB), mapO (frzK H H') l = some r → frzK H H' j = some b → mapO (frzK H H') (l ++ [j]) = some (r ++ [b]) := by
      intro l
      induction l with
      | nil =>
        intro k r b h1 h2
        simp only [mapO, Option.some.injEq] at h1
        subst h1
        simp [mapO, h2]
      | cons x l ih =>
        intro k r b h1 h2
        simp only [mapO] at h1
        obtain ⟨y, h3, h4⟩ := Option.bind_eq_some_iff.1 h1
        obtain ⟨ys, h5, rfl⟩ := Option.map_eq_some_iff.1 h4
        rw [List.cons_append]
        simp only [mapO, h3, Option.bind_some]
        rw [ih k ys b h5 h2]
        rfl
    intro n
    induction n with
    | zero => intro _; rfl
    | succ n ih =>
      intro hn
      rw [List.range_succ, app _ n _ (if n = k then b' else (H[n]'(by omega))) (ih (by omega)) ?_]
      · rw [List.take_add_one, List.getElem?_set]
        by_cases e : n = k
        · subst e; simp [hk]
        · rw [if_neg e, if_neg (fun x => e x.symm), List.getElem?_eq_getElem (by omega)]
          rfl
      · unfold frzK
        by_cases e : n = k
        · subst e
          rw [if_pos rfl]
          split
          · rename_i h2
            rw [hb, h0] at h2
            injection h2 with h2
            subst h2
            rw [hb0] at hi
            injection hi with hi
            rw [h0, hi]
          · rw [hb]; exact hi
        · rw [if_neg e, if_pos (h n (by omega) e), List.getElem?_eq_getElem (by omega)]
  unfold gcF
  have := key H.length (Nat.le_refl _)
  rw [List.take_of_length_le (by simp)] at this
  simp only [hv, this]
theorem gcF_set {v : V} {b0 b : AB} {r : V × Hp} (h0 : H[k]? = some b0) (hb0 : inlK H.length (H.set k b ++ L) 8 b0 = some b0) (h : putQ (inlR H.length (H.set k b ++ L) 8 v) (inlK H.length (H.set k b ++ L) 8 b) H k r) : gcF H (v, H.set k b ++ L) = r := by
  obtain ⟨v', b', h1, h2, rfl⟩ := h
  have hk : k < H.length := (List.getElem?_eq_some_iff.1 h0).1
  refine gcF_put h0 hb0 (fun id hid hne => ?_) ?_ h1 h2
  · rw [List.getElem?_append_left (by simpa using hid), List.getElem?_set, if_neg (fun e => hne e.symm)]
  · rw [List.getElem?_append_left (by simpa using hk), List.getElem?_set, if_pos rfl, if_pos hk]
theorem gcF_set0 {v : V} {b0 b : AB} {r : V × Hp} (h0 : H[k]? = some b0) (hb0 : inlK H.length (H.set k b) 8 b0 = some b0) (h : putQ (inlR H.length (H.set k b) 8 v) (inlK H.length (H.set k b) 8 b) H k r) : gcF H (v, H.set k b) = r := by
  have := gcF_set (L := []) (b := b) (v := v) (r := r) h0 (by rwa [List.append_nil]) (by rwa [List.append_nil])
  rwa [List.append_nil] at this
theorem gcF_set2 {v : V} {b0 b : AB} {r : V × Hp} {L1 L2 : Hp} (h0 : H[k]? = some b0) (hb0 : inlK H.length (H.set k b ++ L1 ++ L2) 8 b0 = some b0) (h : putQ (inlR H.length (H.set k b ++ L1 ++ L2) 8 v) (inlK H.length (H.set k b ++ L1 ++ L2) 8 b) H k r) : gcF H (v, H.set k b ++ L1 ++ L2) = r := by
  rw [List.append_assoc] at hb0 h ⊢
  exact gcF_set h0 hb0 h
theorem gcF_set3 {v : V} {b0 b : AB} {r : V × Hp} {L1 L2 L3 : Hp} (h0 : H[k]? = some b0) (hb0 : inlK H.length (H.set k b ++ L1 ++ L2 ++ L3) 8 b0 = some b0) (h : putQ (inlR H.length (H.set k b ++ L1 ++ L2 ++ L3) 8 v) (inlK H.length (H.set k b ++ L1 ++ L2 ++ L3) 8 b) H k r) : gcF H (v, H.set k b ++ L1 ++ L2 ++ L3) = r := by
  rw [List.append_assoc] at hb0 h ⊢
  exact gcF_set2 h0 hb0 h
theorem gcF_set4 {v : V} {b0 b : AB} {r : V × Hp} {L1 L2 L3 L4 : Hp} (h0 : H[k]? = some b0) (hb0 : inlK H.length (H.set k b ++ L1 ++ L2 ++ L3 ++ L4) 8 b0 = some b0) (h : putQ (inlR H.length (H.set k b ++ L1 ++ L2 ++ L3 ++ L4) 8 v) (inlK H.length (H.set k b ++ L1 ++ L2 ++ L3 ++ L4) 8 b) H k r) : gcF H (v, H.set k b ++ L1 ++ L2 ++ L3 ++ L4) = r := by
  rw [List.append_assoc] at hb0 h ⊢
  exact gcF_set3 h0 hb0 h
@[go_sem] theorem inlC_slice (n : Nat) (H' : Hp) (f id g off m sz : Nat) (cp : Cap) : inlC n H' f (.slice id g off m sz cp) = inlB n H' f (.slice id g off m sz cp) := rfl
/-- What is laid behind nothing. -/
theorem bl_nil {α : Type} {w by_ : Nat} (E : Enc α) (zs : List α) (b : Bool) (hw : E.w = w) (hb : zs.length * by_ ≤ 2 ^ 40) (hb2 : zs.length ≤ 2 ^ 40) :
    appOf w by_ H .nilslice (slV b E zs) = some (blV H.length 0 w (zs.map E.f), H ++ blH 0 (zs.map E.f)) := by
  have := bl_all (H := H) (n := H.length) (g := 0) (w := w) (by_ := by_) E [] zs b rfl hw (by simpa using hb) (by simpa using hb2)
  simp only [List.map_nil, blV_nil, blH_nil, List.append_nil, List.nil_append] at this
  rw [this]
  by_cases h : zs = [] <;> simp [h, blG]
/-- A slice that has grown, laid into a row of before. -/
theorem inlC_bl {α : Type} {E : Enc α} {n m g w f : Nat} {ys : List α} {A : Hp} (hm : m = A.length) (hn : n ≤ m) (hw : E.w = w) : inlC n (A ++ blH g (ys.map E.f)) (f + 2) (blV m g w (ys.map E.f)) = some (slV true E ys) := by
  rw [inlC_blV]
  exact inlB_bl0 hm hn hw
/-! A slice of a row, cut. -/
theorem cut_sl {t : TypeId} {sz id off n : Nat} {cp : Cap} {kk kk' : IntKind} {lo hi : Int} (ht : sliceT P t sz = true) (h : 0 ≤ lo ∧ lo ≤ hi ∧ hi ≤ (n : Int)) : sliceV P t H (.slice id g off n sz cp) (some (.int kk lo)) (some (.int kk' hi)) = some (.slice id g (off + lo.toNat * sz) (hi.toNat - lo.toNat) sz (cutCap cp lo.toNat)) := by
  unfold sliceT at ht
  split at ht
  · rename_i e hu
    have hz : szOf P e = some sz := by simpa using ht
    simp only [sliceV, hu, boundV, Option.bind_some]
    rw [if_pos ⟨hz, h.1, h.2.1, h.2.2⟩]
  · cases ht
theorem hi_sl {t : TypeId} {sz id off n : Nat} {cp : Cap} {lo : Option V} (ht : sliceT P t sz = true) : sliceV P t H (.slice id g off n sz cp) lo none = sliceV P t H (.slice id g off n sz cp) lo (some (.int .i64 n)) := by
  unfold sliceT at ht
  split at ht
  · rename_i e hu
    simp only [sliceV, hu, boundV]
  · cases ht
theorem src_sl {id off n sz : Nat} {cp : Cap} {cs : List V} {o : Bool} (h : getRow H id g = some (cs, o)) (hl : off + n * sz ≤ cs.length) : srcCells H (.slice id g off n sz cp) = some ((cs.drop off).take (n * sz), n) := by
  simp only [srcCells, h, Option.bind_some]
  rw [if_pos hl]
theorem app_nil0 {w by_ : Nat} {x : V} (h : srcCells H x = some ([], 0)) : appOf w by_ H .nilslice x = some (.nilslice, H) := by
  simp [appOf, h]
theorem app_one {w by_ : Nat} {cs : List V} (h : cs.length = w) (hi : immL cs = true) (hb : by_ ≤ 2 ^ 40) : appOf w by_ H .nilslice (.isl cs 1 w) = some (.slice H.length 0 0 1 w .full, H ++ [.row 0 cs true]) := by
  have e : cs.length = 1 * w := by omega
  simp only [appOf, srcCells, if_pos e, Option.bind_some]
  rw [if_pos ⟨e, immL_cells hi⟩, if_neg (by omega), if_pos ⟨by omega, by omega⟩]
theorem inlC_old {n f id off m sz : Nat} {cp : Cap} (h : id < n) : inlC n H (f + 1) (.slice id g off m sz cp) = some (.slice id g off m sz cp) := by simp [inlC, inlB, h]
/-! A slice that has grown, in memory. -/
section
variable {α : Type} {E : Enc α} {l : List α}
theorem map_ne (h : 0 < l.length) : ¬ l.map E.f = [] := by
  intro e
  simp only [List.map_eq_nil_iff] at e
  subst e
  simp at h
theorem ix_bl {t : TypeId} {n w : Nat} {kk : IntKind} {j : Int} (ht : sliceT P t w = true) (h : 0 ≤ j ∧ j < (l.length : Int)) : indexAddrV P t (blV n g w (l.map E.f)) (.int kk j) = some (.ptr n g (j.toNat * w)) := by
  unfold blV
  rw [if_neg (map_ne (by omega)), ia_slice ht (by simpa using h), Nat.zero_add]
theorem getRow_bl {A : Hp} {n : Nat} (hn : n = A.length) (h : 0 < l.length) : getRow (A ++ blH g (l.map E.f)) n g = some (flatE E l, true) := by
  subst hn
  unfold blH
  rw [if_neg (map_ne h)]
  exact getRow_last g _ true
theorem set_bl {A : Hp} {n : Nat} {b : AB} (hn : n = A.length) (h : 0 < l.length) : (A ++ blH g (l.map E.f)).set n b = A ++ [b] := by
  subst hn
  unfold blH
  rw [if_neg (map_ne h)]
  exact set_last _ b
theorem blV_some {n w : Nat} (h : 0 < l.length) : blV n g w (l.map E.f) = .slice n g 0 l.length w .full := by
  unfold blV
  rw [if_neg (map_ne h), List.length_map]
theorem setAt_app {xs ys : List V} {j : Nat} {v : V} (h : j < xs.length) : setAt (xs ++ ys) j [v] = setAt xs j [v] ++ ys := by
  unfold setAt
  simp only [List.length_singleton]
  rw [List.take_append_of_le_length (by omega), List.drop_append_of_le_length (by omega)]
  simp
theorem setAt_skip {xs ys : List V} {j : Nat} {v : V} : setAt (xs ++ ys) (xs.length + j) [v] = xs ++ setAt ys j [v] := by
  unfold setAt
  simp only [List.length_singleton]
  rw [List.take_length_add_append, show xs.length + j + 1 = xs.length + (j + 1) by omega, List.drop_length_add_append]
  simp
theorem flatE_set : ∀ {l : List α} {i j : Nat} {v : V} {a : α}, i < l.length → j < E.w → E.f a = setAt (E.f (E.at l i)) j [v] → setAt (flatE E l) (i * E.w + j) [v] = flatE E (l.set i a)
  | [], _, _, _, _, h, _, _ => by simp at h
  | x :: l, 0, j, v, a, _, hj, h => by
    have h' : E.f a = setAt (E.f x) j [v] := h
    show setAt (E.f x ++ flatE E l) _ _ = E.f a ++ flatE E l
    rw [h', Nat.zero_mul, Nat.zero_add, setAt_app (by rw [E.len]; exact hj)]
  | x :: l, i + 1, j, v, a, hi, hj, h => by
    show setAt (E.f x ++ flatE E l) _ _ = E.f x ++ flatE E (l.set i a)
    rw [← flatE_set (l := l) (i := i) (by simpa using hi) hj h, ← setAt_skip, E.len]
    congr 1
    rw [Nat.succ_mul]
    omega
theorem setAt_whole {xs ys vs : List V} (h : vs.length = xs.length) : setAt (xs ++ ys) 0 vs = vs ++ ys := by
  unfold setAt
  simp [h]
theorem setAt_skipN {xs ys vs : List V} {j : Nat} : setAt (xs ++ ys) (xs.length + j) vs = xs ++ setAt ys j vs := by
  show List.take (xs.length + j) (xs ++ ys) ++ vs ++ List.drop (xs.length + j + vs.length) (xs ++ ys) = xs ++ (List.take j ys ++ vs ++ List.drop (j + vs.length) ys)
  rw [List.take_length_add_append, show xs.length + j + vs.length = xs.length + (j + vs.length) by omega, List.drop_length_add_append]
  simp
theorem flatE_setE : ∀ {l : List α} {i : Nat} {a : α}, i < l.length → setAt (flatE E l) (i * E.w) (E.f a) = flatE E (l.set i a)
  | [], _, _, h => by simp at h
  | x :: l, 0, a, _ => by
    show setAt (E.f x ++ flatE E l) _ _ = E.f a ++ flatE E l
    rw [Nat.zero_mul, setAt_whole (by rw [E.len, E.len])]
  | x :: l, i + 1, a, hi => by
    show setAt (E.f x ++ flatE E l) _ _ = E.f x ++ flatE E (l.set i a)
    rw [← flatE_setE (l := l) (i := i) (by simpa using hi), ← setAt_skipN, E.len]
    congr 1
    rw [Nat.succ_mul]
    omega
theorem mapO_app {f : V → Option V} : ∀ {xs ys xs' ys' : List V}, mapO f xs = some xs' → mapO f ys = some ys' → mapO f (xs ++ ys) = some (xs' ++ ys')
  | [], ys, xs', ys', h1, h2 => by
    simp only [mapO_nil, Option.some.injEq] at h1
    subst h1
    exact h2
  | x :: xs, ys, xs', ys', h1, h2 => by
    rw [mapO_cons] at h1
    obtain ⟨y, h3, h4⟩ := Option.bind_eq_some_iff.1 h1
    obtain ⟨zs, h5, rfl⟩ := Option.map_eq_some_iff.1 h4
    rw [List.cons_append, mapO_cons, h3, mapO_app h5 h2]
    rfl
theorem mapO_setAt {f : V → Option V} {cs : List V} {j : Nat} {v v' : V} (h : ∀ xs, (∀ x ∈ xs, x ∈ cs) → mapO f xs = some xs) (hv : f v = some v') : mapO f (setAt cs j [v]) = some (setAt cs j [v']) := by
  unfold setAt
  simp only [List.length_singleton]
  refine mapO_app (mapO_app (h _ fun x hx => List.mem_of_mem_take hx) (by simp [mapO, hv])) (h _ fun x hx => List.mem_of_mem_drop hx)
/-- A grown slice one of whose elements has got a grown slice, laid into a row of before. -/
theorem inlB_setAt {A : Hp} {n m w f i j : Nat} {v v' : V} {a : α} (hn : n ≤ m) (hm : m = A.length) (hw : E.w = w) (hi : i < l.length) (hj : j < w) (hv : inlB n (A ++ [.row g (setAt (flatE E l) (i * w + j) [v]) true]) (f + 1) v = some v') (ha : E.f a = setAt (E.f (E.at l i)) j [v']) :
    inlB n (A ++ [.row g (setAt (flatE E l) (i * w + j) [v]) true]) (f + 2) (.slice m g 0 l.length w .full) = some (slV true E (l.set i a)) := by
  subst hw hm
  have hl : (setAt (flatE E l) (i * E.w + j) [v]).length = l.length * E.w := by
    have := flatE_len (E := E) (l := l)
    unfold setAt
    simp only [List.length_append, List.length_take, List.length_drop, List.length_singleton, this]
    have : i * E.w + E.w ≤ l.length * E.w := by
      rw [← Nat.succ_mul]
      exact Nat.mul_le_mul_right _ hi
    omega
  rw [inlB]
  rw [if_neg (by omega)]
  have e : (A ++ [AB.row g (setAt (flatE E l) (i * E.w + j) [v]) true])[A.length]? = some (.row g (setAt (flatE E l) (i * E.w + j) [v]) true) := by simp
  simp only [e]
  rw [if_pos ⟨trivial, by omega⟩, List.drop_zero, List.take_of_length_le (by omega)]
  rw [mapO_setAt (fun xs hx => mapO_imm (immL_iff.2 fun x h => immL_iff.1 flatE_imm x (hx x h))) hv]
  simp only [Option.bind_some]
  rw [flatE_set hi hj ha, if_pos flatE_imm]
  rw [slV_some (by simpa using Nat.lt_of_le_of_lt (Nat.zero_le _) hi), List.length_set]
end
/-- What lies in one row, laid behind nothing. -/
theorem app_row {w by_ id : Nat} {cp : Cap} {cs : List V} {o : Bool} (h : getRow H id g = some (cs, o)) (hw : cs.length = w) (hc : cs.all V.isCell = true) (hb : by_ ≤ 2 ^ 40) : appOf w by_ H .nilslice (.slice id g 0 1 w cp) = some (.slice H.length 0 0 1 w .full, H ++ [.row 0 cs true]) := by
  subst hw
  unfold appOf
  rw [src_sl h (by omega)]
  have e : (cs.drop 0).take (1 * cs.length) = cs := by simp
  simp only [e, Option.bind_some]
  rw [if_pos ⟨by omega, hc⟩, if_neg (by omega), if_pos ⟨by omega, by omega⟩]
/-- One row that a call has made, laid into what it is told with. -/
theorem inlB_one {n f id w : Nat} {cs xs : List V} (hn : n ≤ id) (h : H[id]? = some (.row g cs true)) (hw : cs.length = w) (hc : mapO (inlB n H f) cs = some xs) (hi : immL xs = true) : inlB n H (f + 1) (.slice id g 0 1 w .full) = some (.isl xs 1 w) := by
  subst hw
  rw [inlB, if_neg (by omega)]
  simp only [h]
  rw [if_pos ⟨trivial, by omega⟩, List.drop_zero, List.take_of_length_le (by omega), hc]
  simp [hi]
end
end Go.An
/-
  The abstract machine, part EE: slices of a row of their own, somewhere in memory; lists as values of any kind. No statement of the seat stands here.
-/
namespace Go.An
open Go
set_option linter.unusedSectionVars false

section
variable [Orc]
variable {P : Program} {H : Hp} {α : Type}
/-- A slice of a row of its own. -/
def OwnE (E : Enc α) (H : Hp) (v : V) (l : List α) : Prop :=
  (v = .nilslice ∧ l = []) ∨ ∃ id g, v = .slice id g 0 l.length E.w .full ∧ 0 < l.length ∧ H[id]? = some (.row g (flatE E l) true)
theorem ownE_nil (E : Enc α) (H : Hp) : OwnE E H .nilslice [] := .inl ⟨rfl, rfl⟩
theorem OwnE.frame {E : Enc α} {H' : Hp} {v : V} {l : List α} (h : OwnE E H v l) (hf : ∀ id, At v id → H'[id]? = H[id]?) : OwnE E H' v l := by
  rcases h with h | ⟨id, g, rfl, h1, h2⟩
  · exact .inl h
  · exact .inr ⟨id, g, rfl, h1, by rw [hf id ⟨_, _, _, _, _, rfl⟩]; exact h2⟩
theorem OwnE.lt {E : Enc α} {v : V} {l : List α} (h : OwnE E H v l) {id : Nat} (ha : At v id) : id < H.length := by
  obtain ⟨g, o, n, z, cp, e⟩ := ha
  rcases h with ⟨rfl, _⟩ | ⟨id', g', rfl, _, h2⟩
  · cases e
  · injection e with e1; subst e1; exact (List.getElem?_eq_some_iff.1 h2).1
theorem OwnE.app {E : Enc α} {v : V} {l : List α} (h : OwnE E H v l) (L : Hp) : OwnE E (H ++ L) v l := h.frame fun _ ha => List.getElem?_append_left (h.lt ha)
theorem OwnE.cell {E : Enc α} {v : V} {l : List α} (h : OwnE E H v l) : v.isCell = true ∧ v.cells = [v] ∧ v.isTup = false ∧ eqA v v = true ∧ eqC v v = true := by
  rcases h with ⟨rfl, _⟩ | ⟨id, g, rfl, _, _⟩
  · exact ⟨rfl, rfl, rfl, rfl, rfl⟩
  · exact ⟨rfl, rfl, rfl, eqA_slice .., by simp [eqC, eqBase]⟩
theorem OwnE.len {E : Enc α} {v : V} {l : List α} (h : OwnE E H v l) {t : TypeId} {z : Nat} (ht : sliceT P t z = true) (H' : Hp) : lenV P t H' v = some (.int .i64 l.length) := by
  rcases h with ⟨rfl, rfl⟩ | ⟨id, g, rfl, _, _⟩
  · exact len_nilslice ht
  · exact len_slice ht ..
theorem OwnE.idx {E : Enc α} {v : V} {l : List α} (h : OwnE E H v l) {t : TypeId} {w : Nat} (ht : sliceT P t w = true) (hw : E.w = w) {kk : IntKind} {j : Int} (hj : 0 ≤ j ∧ j < (l.length : Int)) : indexAddrV P t v (.int kk j) = some (.ptr (vid v) (vgen v) (j.toNat * w)) := by
  subst hw
  rcases h with ⟨rfl, rfl⟩ | ⟨id, g, rfl, _, _⟩
  · simp at hj; omega
  · rw [ia_slice ht hj, Nat.zero_add]; rfl
theorem OwnE.row {E : Enc α} {v : V} {l : List α} (h : OwnE E H v l) (hl : 0 < l.length) : getRow H (vid v) (vgen v) = some (flatE E l, true) := by
  rcases h with ⟨rfl, rfl⟩ | ⟨id, g, rfl, _, h2⟩
  · simp at hl
  · exact getRow_of h2
theorem OwnE.at_ {E : Enc α} {v : V} {l : List α} (h : OwnE E H v l) (hl : 0 < l.length) : At v (vid v) := by
  rcases h with ⟨rfl, rfl⟩ | ⟨id, g, rfl, _, h2⟩
  · simp at hl
  · exact ⟨_, _, _, _, _, rfl⟩
theorem OwnE.set {E : Enc α} {v : V} {l l' : List α} (h : OwnE E H v l) (hl : 0 < l.length) (he : l'.length = l.length) : OwnE E (H.set (vid v) (.row (vgen v) (flatE E l') true)) v l' := by
  rcases h with ⟨rfl, rfl⟩ | ⟨id, g, rfl, h1, h2⟩
  · simp at hl
  · refine .inr ⟨id, g, by rw [he], by omega, ?_⟩
    show (H.set id _)[id]? = _
    rw [List.getElem?_set_self (List.getElem?_eq_some_iff.1 h2).1]
    rfl
theorem OwnE.push {E : Enc α} {v : V} {l : List α} {w by_ : Nat} (h : OwnE E H v l) (a : α) (hw : E.w = w) (hb : (l.length + 1) * by_ ≤ 2 ^ 40) (hb2 : l.length + 1 ≤ 2 ^ 40) :
    ∃ v' H', appOf w by_ H v (.isl (E.f a) 1 w) = some (v', H') ∧ OwnE E H' v' (l ++ [a]) ∧ (∀ id, id < H.length → ¬ At v id → H'[id]? = H[id]?) ∧ H.length ≤ H'.length ∧ (∀ id, At v' id → At v id ∨ H.length ≤ id) := by
  subst hw
  have hp := E.pos
  have e1 : (E.f a).length = 1 * E.w := by rw [E.len]; omega
  unfold appOf
  simp only [srcCells, if_pos e1, Option.bind_some]
  rw [if_pos ⟨e1, immL_cells (E.imm a)⟩]
  rcases h with ⟨rfl, rfl⟩ | ⟨id, g, rfl, h1, h2⟩
  · simp only [List.length_nil, Nat.zero_add, Nat.one_mul] at hb hb2
    refine ⟨_, H ++ [.row 0 (E.f a) true], ?_, .inr ⟨H.length, 0, rfl, by simp, by simp [flatE]⟩, ?_, by simp, ?_⟩
    · simp only
      rw [if_neg (by omega), if_pos ⟨by omega, by omega⟩]
      simp
    · intro id hid _
      rw [List.getElem?_append_left hid]
    · rintro id ⟨g, o, n, z, cp, e⟩
      injection e with e1
      right; omega
  · have hid : id < H.length := (List.getElem?_eq_some_iff.1 h2).1
    have hl := flatE_len (E := E) (l := l)
    have hr := getRow_of h2
    refine ⟨_, H.set id (.row (g + 1) (flatE E l ++ E.f a) true), ?_, .inr ⟨id, g + 1, rfl, by simp, ?_⟩, ?_, by simp, ?_⟩
    · simp only
      rw [hr]
      simp only [Option.bind_some]
      rw [if_pos ⟨trivial, by omega, by omega, by omega⟩, if_neg (by omega), if_pos trivial, if_neg (by rw [Nat.add_mul]; omega), if_pos (by omega)]
      simp
    · rw [List.getElem?_set_self hid]
      simp [flatE]
    · intro id' hid' hn
      have hne : id ≠ id' := fun e => hn ⟨g, 0, l.length, E.w, .full, by rw [e]⟩
      rw [List.getElem?_set_ne hne]
    · rintro id' ⟨g', o, n', z, cp, e⟩
      injection e with e1
      subst e1
      exact .inl ⟨g, 0, l.length, E.w, .full, rfl⟩
/-- What a call has made, laid into its answer. -/
theorem OwnE.inl {E : Enc α} {v : V} {l : List α} (h : OwnE E H v l) {n f : Nat} (hn : ∀ id, At v id → n ≤ id) : inlB n H (f + 2) v = some (slV true E l) := by
  rcases h with ⟨rfl, rfl⟩ | ⟨id, g, rfl, h1, h2⟩
  · rw [slV_nil]; rfl
  · rw [inlB_row (hn id ⟨_, _, _, _, _, rfl⟩) h2 flatE_len flatE_imm, slV_some h1]
/-- A list as a value: one that stays as it is, or a row's. -/
def LstE (E : Enc α) (H : Hp) (s : V) (l : List α) : Prop := (∃ b, s = slV b E l) ∨ ∃ id g, s = .slice id g 0 l.length E.w .full ∧ getRow H id g = some (flatE E l, true)
theorem LstE.of (E : Enc α) (H : Hp) (b : Bool) (l : List α) : LstE E H (slV b E l) l := .inl ⟨b, rfl⟩
theorem LstE.app {E : Enc α} {s : V} {l : List α} (h : LstE E H s l) (L : Hp) : LstE E (H ++ L) s l := by
  rcases h with ⟨b, rfl⟩ | ⟨id, g, rfl, hr⟩
  · exact .of E _ b l
  · exact .inr ⟨id, g, rfl, by rw [getRow_app (getRow_lt hr)]; exact hr⟩
theorem OwnE.lst {E : Enc α} {v : V} {l : List α} (h : OwnE E H v l) : LstE E H v l := by
  rcases h with ⟨rfl, rfl⟩ | ⟨id, g, rfl, h1, h2⟩
  · exact .inl ⟨true, (slV_nil E).symm⟩
  · exact .inr ⟨id, g, rfl, getRow_of h2⟩
theorem LstE.bl {E : Enc α} {A : Hp} {n g w : Nat} {l : List α} (hn : n = A.length) (hw : E.w = w) (hl : 0 < l.length) : LstE E (A ++ blH g (l.map E.f)) (blV n g w (l.map E.f)) l := by
  subst hw
  exact .inr ⟨n, g, blV_some hl, getRow_bl hn hl⟩
theorem ldR {id g off : Nat} {t : TypeId} : loadV P t H (.ptr id g off) = (getRow H id g).bind fun r => partV P t r.1 off := loadV_ptr t id g off
theorem lq_agg {E : Enc α} {l : List α} {t : TypeId} {w i : Nat} (hg : aggT P t = some true) (hz : szOf P t = some w) (hw : E.w = w) (hi : i < l.length) : partV P t (flatE E l) (i * w) = some (.agg (E.f (E.at l i))) := (loadV_ipt (H := []) t _ _).symm.trans (ld_agg hg hz hw hi)
theorem lq_cell {E : Enc α} {l : List α} {t : TypeId} {w i j : Nat} (hg : aggT P t = some false) (hw : E.w = w) (hi : i < l.length) (hj : j < w) : partV P t (flatE E l) (i * w + j) = (E.f (E.at l i))[j]? := (loadV_ipt (H := []) t _ _).symm.trans (ld_cell hg hw hi hj)
theorem lq_cell0 {E : Enc α} {l : List α} {t : TypeId} {w i : Nat} (hg : aggT P t = some false) (hw : E.w = w) (hi : i < l.length) : partV P t (flatE E l) (i * w) = (E.f (E.at l i))[0]? := (loadV_ipt (H := []) t _ _).symm.trans (ld_cell0 hg hw hi)
end
end Go.An
/-
  The abstract machine, part EF: elements taken out of a row in place; a written-out element laid behind. No statement of the seat stands here.
-/
namespace Go.An
open Go
set_option linter.unusedSectionVars false

section
variable [Orc]
variable {P : Program} {H : Hp} {α : Type}
theorem flatE_take {E : Enc α} : ∀ (l : List α) (k : Nat), (flatE E l).take (k * E.w) = flatE E (l.take k)
  | [], k => by simp [flatE]
  | x :: l, 0 => by simp [flatE]
  | x :: l, k + 1 => by
    have ih := flatE_take (E := E) l k
    show (E.f x ++ flatE E l).take _ = E.f x ++ flatE E (l.take k)
    rw [← ih, Nat.succ_mul, Nat.add_comm (k * E.w), List.take_append, E.len, List.take_of_length_le (by rw [E.len]; omega)]
    congr 2
    omega
theorem flatE_drop {E : Enc α} : ∀ (l : List α) (k : Nat), (flatE E l).drop (k * E.w) = flatE E (l.drop k)
  | [], k => by simp [flatE]
  | x :: l, 0 => by simp [flatE]
  | x :: l, k + 1 => by
    have ih := flatE_drop (E := E) l k
    show (E.f x ++ flatE E l).drop _ = flatE E (l.drop k)
    rw [← ih, Nat.succ_mul, Nat.add_comm (k * E.w), List.drop_append, E.len, List.drop_of_length_le (by rw [E.len]; omega)]
    simp
theorem flatE_put {E : Enc α} {X Y : List α} {k : Nat} : setAt (flatE E X) (k * E.w) (flatE E Y) = flatE E (X.take k ++ Y ++ X.drop (k + Y.length)) := by
  show List.take (k * E.w) (flatE E X) ++ flatE E Y ++ List.drop (k * E.w + (flatE E Y).length) (flatE E X) = _
  rw [flatE_len, ← Nat.add_mul, flatE_take, flatE_drop, flatE_app, flatE_app]
/-- append(s[:k], s[k+1:]...) of a row. -/
theorem app_cut {E : Enc α} {X : List α} {id g m k w by_ : Nat} {cp : Cap} (hr : getRow H id g = some (flatE E X, true)) (hw : E.w = w) (hm : m ≤ X.length) (hk : k < m) (hb : m * by_ ≤ 2 ^ 40) (hb2 : m ≤ 2 ^ 40) :
    appOf w by_ H (.slice id g 0 k w .full) (.slice id g ((k + 1) * w) (m - (k + 1)) w cp) = some (.slice id g 0 (m - 1) w .full, H.set id (.row g (flatE E ((X.take k ++ (X.take m).drop (k + 1)) ++ X.drop (m - 1))) true)) := by
  subst hw
  have hid := getRow_lt hr
  have hxl := flatE_len (E := E) (l := X)
  have hmm : m * E.w ≤ X.length * E.w := Nat.mul_le_mul_right _ hm
  have hsum : (k + 1) * E.w + (m - (k + 1)) * E.w = m * E.w := by rw [← Nat.add_mul]; congr 1; omega
  have hyl : ((X.take m).drop (k + 1)).length = m - (k + 1) := by simp; omega
  have hsrc : srcCells H (.slice id g ((k + 1) * E.w) (m - (k + 1)) E.w cp) = some (flatE E ((X.take m).drop (k + 1)), m - (k + 1)) := by
    rw [src_sl hr (by rw [hxl, hsum]; exact hmm)]
    congr 2
    rw [flatE_drop, flatE_take, List.drop_take]
  have hrow : H[id]? = some (.row g (flatE E X) true) := by
    unfold getRow at hr
    split at hr
    · rename_i g' cs o e
      split at hr
      · rename_i e2
        injection hr with hr
        injection hr with h1 h2
        subst h1 h2 e2
        exact e
      · cases hr
    · cases hr
  unfold appOf
  rw [hsrc]
  simp only [Option.bind_some]
  have hyf : (flatE E ((X.take m).drop (k + 1))).length = (m - (k + 1)) * E.w := by rw [flatE_len, hyl]
  rw [if_pos ⟨hyf, flatE_cells E _⟩, hr]
  simp only [Option.bind_some]
  have hkm : k * E.w ≤ X.length * E.w := Nat.mul_le_mul_right _ (by omega)
  have e1 : k + (m - (k + 1)) = m - 1 := by omega
  have hmb : (m - 1) * by_ ≤ m * by_ := Nat.mul_le_mul_right _ (by omega)
  have hput : setAt (flatE E X) (k * E.w) (flatE E ((X.take m).drop (k + 1))) = flatE E ((X.take k ++ (X.take m).drop (k + 1)) ++ X.drop (m - 1)) := by
    rw [flatE_put, hyl, e1]
  have hm1 : (m - 1) * E.w ≤ X.length * E.w := Nat.mul_le_mul_right _ (by omega)
  rw [e1, if_pos ⟨trivial, by omega, by omega, by omega⟩]
  by_cases h0 : m - (k + 1) = 0
  · rw [if_pos h0]
    have e2 : m - 1 = k := by omega
    have e3 : (X.take m).drop (k + 1) = [] := List.eq_nil_of_length_eq_zero (by omega)
    rw [e3, e2, List.append_nil, List.take_append_drop]
    congr 2
    apply List.ext_getElem?
    intro i
    rw [List.getElem?_set]
    split
    · rename_i e; subst e; exact hrow
    · rfl
  · rw [if_neg h0, if_pos trivial, if_pos (by omega), Nat.zero_add, hput]
theorem OwnE.pushR {E : Enc α} {v : V} {l : List α} {w by_ : Nat} (h : OwnE E H v l) (a : α) (hw : E.w = w) (hb : (l.length + 1) * by_ ≤ 2 ^ 40) (hb2 : l.length + 1 ≤ 2 ^ 40) :
    ∃ v' H', appOf w by_ (H ++ [.row 0 (E.f a) true]) v (.slice H.length 0 0 1 w .full) = some (v', H') ∧ OwnE E H' v' (l ++ [a]) ∧ (∀ id, id < H.length → ¬ At v id → H'[id]? = H[id]?) ∧ H.length ≤ H'.length ∧ (∀ id, At v' id → At v id ∨ H.length ≤ id) := by
  obtain ⟨v', H', h1, h2, h3, h4, h5⟩ := (h.app [.row 0 (E.f a) true]).push a hw hb hb2
  refine ⟨v', H', ?_, h2, fun id hid hna => ?_, by simp at h4; omega, fun id hat => ?_⟩
  · rw [← h1]
    subst hw
    have e1 : (E.f a).length = 1 * E.w := by rw [E.len]; omega
    have e2 : srcCells (H ++ [.row 0 (E.f a) true]) (.slice H.length 0 0 1 E.w .full) = some (E.f a, 1) := by
      rw [src_sl (getRow_lastN rfl) (by omega), List.drop_zero, List.take_of_length_le (by omega)]
    have e3 : srcCells (H ++ [.row 0 (E.f a) true]) (.isl (E.f a) 1 E.w) = some (E.f a, 1) := by simp only [srcCells, if_pos e1]
    unfold appOf
    rw [e2, e3]
  · rw [h3 id (by simp; omega) hna, List.getElem?_append_left hid]
  · rcases h5 id hat with h | h
    · exact .inl h
    · simp at h; exact .inr (by omega)
end
end Go.An
/-
  The abstract machine, part EG: bits of small numbers as sums and rests. No statement of the seat stands here.
-/
namespace Go.An
open Go
set_option linter.unusedSectionVars false

section
variable [Orc]
variable {P : Program}
theorem b_and (t : TypeId) (k : IntKind) (x y : Int) : binV P .and t (.int k x) (.int k y) = (bitsV .and k x y).map (.int k) := by simp [binV, intV]
theorem b_or (t : TypeId) (k : IntKind) (x y : Int) : binV P .or t (.int k x) (.int k y) = (bitsV .or k x y).map (.int k) := by simp [binV, intV]
theorem and127 (c : UInt8) : bitsV .and .u8 (c.toNat : Int) 127 = some ((c.toNat % 128 : Nat) : Int) := by
  have hc := c.toNat_lt
  have e1 : (BitVec.ofInt 8 (c.toNat : Int)) = BitVec.ofNat 8 c.toNat := by simp
  have e2 : (BitVec.ofInt 8 (127 : Int)) = BitVec.ofNat 8 127 := rfl
  show some (IntKind.u8.wrap ((BitVec.ofInt 8 (c.toNat : Int) &&& BitVec.ofInt 8 127).toNat : Int)) = _
  rw [e1, e2, BitVec.toNat_and, BitVec.toNat_ofNat, BitVec.toNat_ofNat, Nat.mod_eq_of_lt (by simpa using hc)]
  have e3 : c.toNat &&& 127 % 2 ^ 8 = c.toNat % 128 := by
    have := Nat.and_two_pow_sub_one_eq_mod c.toNat 7
    simpa using this
  rw [e3]
  have : c.toNat % 128 < 128 := Nat.mod_lt _ (by omega)
  congr 1
  exact IntWalk.u8_in _ (by omega)
theorem or_add {n x s : Nat} (hn : n < 2 ^ s) (hx : n + x * 2 ^ s < 2 ^ 63) : bitsV .or .i64 (n : Int) ((x * 2 ^ s : Nat) : Int) = some ((n + x * 2 ^ s : Nat) : Int) := by
  show some (IntKind.i64.wrap ((BitVec.ofInt 64 (n : Int) ||| BitVec.ofInt 64 ((x * 2 ^ s : Nat) : Int)).toNat : Int)) = _
  have e1 : ∀ m : Nat, BitVec.ofInt 64 (m : Int) = BitVec.ofNat 64 m := fun m => by simp
  rw [e1, e1, BitVec.toNat_or, BitVec.toNat_ofNat, BitVec.toNat_ofNat, Nat.mod_eq_of_lt (by omega), Nat.mod_eq_of_lt (by omega)]
  have e3 : n ||| x * 2 ^ s = n + x * 2 ^ s := by
    have := Nat.shiftLeft_add_eq_or_of_lt hn x
    rw [Nat.shiftLeft_eq] at this
    rw [Nat.or_comm, ← this, Nat.add_comm]
  rw [e3]
  congr 1
  exact IntWalk.i64_in _ (by omega)
end
end Go.An
/-
  The abstract machine, part EH: slices that grow and stay as they are behind their begin. No statement of the seat stands here.
-/
namespace Go.An
open Go
set_option linter.unusedSectionVars false

/-- A slice that grows. -/
def osV {α : Type} (id : Nat) (E : Enc α) (l : List α) : V := if l = [] then .osl id [] 0 0 else .osl id (flatE E l) l.length E.w
section
variable [Orc]
variable {P : Program} {H : Hp} {α : Type} {E : Enc α} {l : List α}
theorem osV_cases (id : Nat) (E : Enc α) (l : List α) : (l = [] ∧ osV id E l = .osl id [] 0 0) ∨ (l ≠ [] ∧ osV id E l = .osl id (flatE E l) l.length E.w) := by
  unfold osV
  by_cases h : l = []
  · exact .inl ⟨h, if_pos h⟩
  · exact .inr ⟨h, if_neg h⟩
theorem osV_nil (id : Nat) (E : Enc α) : osV id E [] = .osl id [] 0 0 := if_pos rfl
@[go_sem] theorem osV_dem1 (id : Nat) (E : Enc α) (l : List α) : (osV id E l).dem1 = slV true E l := by
  rcases osV_cases id E l with ⟨rfl, h⟩ | ⟨h0, h⟩ <;> rw [h]
  · simp [V.dem1, slV]
  · simp [V.dem1, slV, h0]
@[go_sem] theorem osV_dem (id : Nat) (E : Enc α) (l : List α) : (osV id E l).dem = slV true E l := by
  rw [← osV_dem1 id E l]
  rcases osV_cases id E l with ⟨rfl, h⟩ | ⟨h0, h⟩ <;> rw [h] <;> rfl
@[go_sem] theorem dem_osl0 (id sz : Nat) (cs : List V) : (V.osl id cs 0 sz).dem = .nilslice := rfl
@[go_sem] theorem dem1_osl0 (id sz : Nat) (cs : List V) : (V.osl id cs 0 sz).dem1 = .nilslice := rfl
@[go_sem] theorem osV_cell (id : Nat) (E : Enc α) (l : List α) : (osV id E l).isCell = true := by unfold osV; split <;> rfl
@[go_sem] theorem osV_cells (id : Nat) (E : Enc α) (l : List α) : (osV id E l).cells = [osV id E l] := by unfold osV; split <;> rfl
@[go_sem] theorem osV_nt (id : Nat) (E : Enc α) (l : List α) : (osV id E l).isTup = false := by unfold osV; split <;> rfl
@[go_sem] theorem osV_eqA (id : Nat) (E : Enc α) (l : List α) : eqA (osV id E l) (osV id E l) = true := by unfold osV; split <;> exact eqA_osl ..
@[go_sem] theorem osV_eqC (id : Nat) (E : Enc α) (l : List α) : eqC (osV id E l) (osV id E l) = true := by unfold osV; split <;> simp [eqC, eqBase, eqIL_refl]
@[go_sem] theorem slV_dem1 (b : Bool) (E : Enc α) (l : List α) : (slV b E l).dem1 = slV b E l := dem1_imm (slV_imm b E l)
@[go_sem] theorem slV_dem (b : Bool) (E : Enc α) (l : List α) : (slV b E l).dem = slV b E l := by
  rcases slV_cases b E l with ⟨h, _⟩ | h <;> rw [h] <;> rfl
@[go_sem] theorem blV_dem1 (n g w : Nat) (xs : List (List V)) : (blV n g w xs).dem1 = blV n g w xs := by unfold blV; split <;> rfl
@[go_sem] theorem blV_dem (n g w : Nat) (xs : List (List V)) : (blV n g w xs).dem = blV n g w xs := by unfold blV; split <;> rfl
@[go_sem] theorem Enc.dem1 (E : Enc α) (a : α) : (E.f a).map V.dem1 = E.f a := dem1_immL (E.imm a)
/-! Where a slice that grows is told of. -/
@[go_sem] theorem tk_0 (n : Nat) (L : Hp) : tokAt (.tok n :: L) 0 = some n := rfl
@[go_sem] theorem tk_S (b : AB) (L : Hp) (k : Nat) : tokAt (b :: L) (k + 1) = tokAt L k := rfl
theorem tk_app (A L : Hp) (k : Nat) : tokAt (A ++ L) (A.length + k) = tokAt L k := by
  unfold tokAt
  rw [List.getElem?_append_right (by omega), Nat.add_sub_cancel_left]
theorem tk_here (A L : Hp) : tokAt (A ++ L) A.length = tokAt L 0 := tk_app A L 0
@[go_sem] theorem gr_0 (g : Nat) (cs : List V) (o : Bool) (L : Hp) : getRow (.row g cs o :: L) 0 g = some (cs, o) := by simp [getRow]
@[go_sem] theorem gr_S (b : AB) (L : Hp) (k g : Nat) : getRow (b :: L) (k + 1) g = getRow L k g := rfl
theorem gr_app (A L : Hp) (k g : Nat) : getRow (A ++ L) (A.length + k) g = getRow L k g := by
  unfold getRow
  rw [List.getElem?_append_right (by omega), Nat.add_sub_cancel_left]
theorem gr_here (A L : Hp) (g : Nat) : getRow (A ++ L) A.length g = getRow L 0 g := gr_app A L 0 g
theorem st_app (A L : Hp) (k : Nat) (b : AB) : (A ++ L).set (A.length + k) b = A ++ L.set k b := by
  rw [List.set_append_right _ _ (by omega), Nat.add_sub_cancel_left]
theorem st_here (A L : Hp) (b : AB) : (A ++ L).set A.length b = A ++ L.set 0 b := st_app A L 0 b
/-! One more. -/
theorem os_push {id w by_ : Nat} {cs : List V} (a : α) (hc : cs = E.f a) (hw : E.w = w) (ht : tokAt H id = some (l.length * w)) (hb : (l.length + 1) * by_ ≤ 2 ^ 40) (hb2 : l.length + 1 ≤ 2 ^ 40) :
    appOf w by_ H (osV id E l) (.isl cs 1 w) = some (osV id E (l ++ [a]), H.set id (.tok ((l.length + 1) * w))) := by
  subst hc hw
  have h1 : (E.f a).length = 1 * E.w := by rw [E.len]; omega
  have h2 : (E.f a).all V.isCell = true := immL_cells (E.imm a)
  have h3 : l ++ [a] ≠ [] := by simp
  have e1 : osV id E (l ++ [a]) = .osl id (flatE E l ++ E.f a) (l.length + 1) E.w := by
    unfold osV
    rw [if_neg h3, flatE_app, List.length_append]
    simp [flatE]
  rw [e1]
  unfold appOf
  simp only [srcCells, if_pos h1, Option.bind_some]
  rw [if_pos ⟨h1, h2⟩]
  rcases osV_cases id E l with ⟨rfl, h⟩ | ⟨h0, h⟩ <;> rw [h] <;> simp only
  · rw [if_neg (by omega), if_pos ⟨.inl trivial, by simpa using ht, E.imm a, by simpa using hb, by omega⟩]
    simp [flatE, E.len]
  · rw [if_neg (by omega), if_pos ⟨.inr trivial, by rw [flatE_len]; exact ht, E.imm a, hb, hb2⟩]
    simp only [flatE_len, E.len, Nat.add_mul, Nat.one_mul]
/-- All of another one. -/
theorem os_all {id w by_ : Nat} {m : List α} (b : Bool) (hw : E.w = w) (ht : tokAt H id = some (l.length * w)) (hb : (l.length + m.length) * by_ ≤ 2 ^ 40) (hb2 : l.length + m.length ≤ 2 ^ 40) :
    appOf w by_ H (osV id E l) (slV b E m) = some (osV id E (l ++ m), H.set id (.tok ((l.length + m.length) * w))) := by
  subst hw
  unfold appOf
  rw [src_slV]
  simp only [Option.bind_some]
  have h2 : (flatE E m).all V.isCell = true := immL_cells flatE_imm
  rw [if_pos ⟨flatE_len, h2⟩]
  by_cases hm : m = []
  · subst hm
    simp only [List.append_nil, List.length_nil, Nat.add_zero, if_true]
    have e : H.set id (.tok (l.length * E.w)) = H := by
      unfold tokAt at ht
      split at ht
      · rename_i n hn
        injection ht with ht
        subst ht
        obtain ⟨h1, h2⟩ := List.getElem?_eq_some_iff.1 hn
        rw [← h2, List.set_getElem_self]
      · cases ht
    rw [e]
    rcases osV_cases id E l with ⟨rfl, h⟩ | ⟨h0, h⟩ <;> rw [h]
  · have hm0 : 0 < m.length := List.length_pos_iff.2 hm
    have e1 : osV id E (l ++ m) = .osl id (flatE E l ++ flatE E m) (l.length + m.length) E.w := by
      unfold osV
      rw [if_neg (by simp [hm]), flatE_app, List.length_append]
    rw [e1]
    rcases osV_cases id E l with ⟨rfl, h⟩ | ⟨h0, h⟩ <;> rw [h] <;> simp only
    · rw [if_neg (by omega), if_pos ⟨.inl trivial, by simpa using ht, flatE_imm, by simpa using hb, by simpa using hb2⟩]
      rw [flatE_len]
      simp [flatE]
    · rw [if_neg (by omega), if_pos ⟨.inr trivial, by rw [flatE_len]; exact ht, flatE_imm, hb, hb2⟩]
      simp only [flatE_len, Nat.add_mul]
@[go_sem] theorem os_ag {id w by_ : Nat} (a : α) (hw : E.w = w) (ht : tokAt H id = some (l.length * w)) (hb : (l.length + 1) * by_ ≤ 2 ^ 40) (hb2 : l.length + 1 ≤ 2 ^ 40) :
    appOf w by_ H (osV id E l) (.isl (E.f a) 1 w) = some (osV id E (l ++ [a]), H.set id (.tok ((l.length + 1) * w))) := os_push a rfl hw ht hb hb2
@[go_sem] theorem os_by {id : Nat} {l : List UInt8} (c : UInt8) (ht : tokAt H id = some l.length) (hb : l.length + 1 ≤ 2 ^ 40) : appOf 1 1 H (osV id byE l) (.isl [.int .u8 c.toNat] 1 1) = some (osV id byE (l ++ [c]), H.set id (.tok (l.length + 1))) := by
  have := os_push (E := byE) (w := 1) (by_ := 1) c rfl rfl (by rw [ht, Nat.mul_one]) (by omega) hb
  rwa [Nat.mul_one] at this
@[go_sem] theorem os_in {id : Nat} {l : List Int} (c : Int) (ht : tokAt H id = some l.length) (hb : l.length + 1 ≤ 2 ^ 36) : appOf 1 8 H (osV id inE l) (.isl [.int .i64 c] 1 1) = some (osV id inE (l ++ [c]), H.set id (.tok (l.length + 1))) := by
  have := os_push (E := inE) (w := 1) (by_ := 8) c rfl rfl (by rw [ht, Nat.mul_one]) (by omega) (by omega)
  rwa [Nat.mul_one] at this
@[go_sem] theorem os_st {id : Nat} {l : List (List UInt8)} (c : List UInt8) (ht : tokAt H id = some l.length) (hb : l.length + 1 ≤ 2 ^ 36) : appOf 1 16 H (osV id stE l) (.isl [.str c] 1 1) = some (osV id stE (l ++ [c]), H.set id (.tok (l.length + 1))) := by
  have := os_push (E := stE) (w := 1) (by_ := 16) c rfl rfl (by rw [ht, Nat.mul_one]) (by omega) (by omega)
  rwa [Nat.mul_one] at this
@[go_sem] theorem os_allb {id : Nat} {l m : List UInt8} (b : Bool) (ht : tokAt H id = some l.length) (hb : l.length + m.length ≤ 2 ^ 40) : appOf 1 1 H (osV id byE l) (slV b byE m) = some (osV id byE (l ++ m), H.set id (.tok (l.length + m.length))) := by
  have := os_all (E := byE) (w := 1) (by_ := 1) (l := l) (m := m) b rfl (by rw [ht, Nat.mul_one]) (by omega) hb
  rwa [Nat.mul_one] at this
/-! What a call leaves of it. -/
variable {n f : Nat} {H' : Hp}
@[go_sem] theorem inlB_osV {id : Nat} (hn : n ≤ id) : inlB n H' (f + 1) (osV id E l) = some (slV true E l) := by
  rw [← osV_dem1 id E l]
  have e : ¬ id < n := by omega
  rcases osV_cases id E l with ⟨rfl, h⟩ | ⟨h0, h⟩ <;> rw [h] <;> simp [inlB, e]
@[go_sem] theorem inlA_osV (id : Nat) : inlA n H' f (osV id E l) = inlB n H' f (osV id E l) := by unfold osV; split <;> rfl
@[go_sem] theorem inlR_osV (id : Nat) : inlR n H' f (osV id E l) = inlB n H' f (osV id E l) := by unfold osV; split <;> rfl
@[go_sem] theorem inlC_osV (id : Nat) : inlC n H' f (osV id E l) = inlB n H' f (osV id E l) := by unfold osV; split <;> rfl
theorem inlB_osO {id : Nat} (hn : id < n) : inlB n H' (f + 1) (osV id E l) = some (osV id E l) := by
  rcases osV_cases id E l with ⟨rfl, h⟩ | ⟨h0, h⟩ <;> rw [h] <;> simp [inlB, hn]
@[go_sem] theorem inlK_tok (k : Nat) : inlK n H' f (.tok k) = some (.tok k) := rfl
end
/-! Lists of lists. -/
def lsE {α : Type} (E : Enc α) : Enc (List α) := ⟨fun l => [slV true E l], 1, [], fun _ => rfl, by omega, fun l => by
  haveI : Orc := ⟨fun _ _ _ => false, fun _ _ => false, fun _ => false⟩
  simp only [immL, slV_imm]; rfl⟩
@[go_sem] theorem lsE_f {α : Type} (E : Enc α) (l : List α) : (lsE E).f l = [slV true E l] := rfl
theorem lsE_w {α : Type} (E : Enc α) : (lsE E).w = 1 := rfl
@[go_sem] theorem os_ls [Orc] {H : Hp} {α : Type} {F : Enc α} {id : Nat} {l : List (List α)} (m : List α) (ht : tokAt H id = some l.length) (hb : l.length + 1 ≤ 2 ^ 35) : appOf 1 24 H (osV id (lsE F) l) (.isl [slV true F m] 1 1) = some (osV id (lsE F) (l ++ [m]), H.set id (.tok (l.length + 1))) := by
  have := os_push (E := lsE F) (w := 1) (by_ := 24) m rfl rfl (by rw [ht, Nat.mul_one]) (by omega) (by omega)
  rwa [Nat.mul_one] at this
/-! Short forms of operations. -/
def co (d : Nat) (o : Op) : Co := ⟨some d, o, false, none, false, false, []⟩
def coi (d : Nat) (o : Op) : Co := ⟨some d, o, true, none, false, false, []⟩
def coz (o : Op) : Co := ⟨none, o, false, none, false, false, []⟩
def cog (d : Nat) (o : Op) (j : Nat) (w : Bool) : Co := ⟨some d, o, false, some (j, w), false, false, []⟩
def tm (t : Nat) : Operand := .tmp t
section
variable [Orc]
variable {P : Program} {cl : CallT} {N n0 : Nat} {T : Fr} {D : Dfr} {H : Hp} {Q : Fr → Dfr → Hp → Prop} {rest : List Co}
@[go_sem] theorem W_co (d : Nat) (o : Op) : W P cl N n0 (co d o :: rest) T D H Q = (d < N ∧ stepQ P cl N n0 (stepW P cl o false T D H) (some d) false [] rest T H Q) := by
  rw [co, W_c]; simp [selfP]
@[go_sem] theorem W_coi (d : Nat) (o : Op) : W P cl N n0 (coi d o :: rest) T D H Q = (d < N ∧ stepQ P cl N n0 (stepW P cl o true T D H) (some d) false [] rest T H Q) := by
  rw [coi, W_c]; simp [selfP]
@[go_sem] theorem W_coz (o : Op) : W P cl N n0 (coz o :: rest) T D H Q = stepQ P cl N n0 (stepW P cl o false T D H) none false [] rest T H Q := by
  rw [coz, W_c0]; simp [selfP]
@[go_sem] theorem W_cog (d : Nat) (o : Op) (j : Nat) (w : Bool) : W P cl N n0 (cog d o j w :: rest) T D H Q = (d < N ∧ guardQ P cl N n0 (get T j) w True (stepW P cl o false T D H) (some d) false [] rest T D H Q) := by
  rw [cog, W_g]; simp [selfP]
@[go_sem] theorem ev_tm (t : Nat) : ev T (tm t) = get T t := rfl
end
attribute [go_sem] Nat.add_zero Nat.zero_add Nat.sub_zero List.drop_zero IntWalk.i64_in Bool.or_self Bool.or_false Bool.or_true Bool.and_false Bool.and_true Bool.false_or Bool.true_or Bool.false_eq_true Bool.true_eq_false
end Go.An
/-
  What this seat's program gives to the abstract machine: its types, its functions' code in short form (printed by a tool). No statement of the seat stands here.
-/
namespace Go.Proofs.Ytejkgnmjdaohdaa
open Go Go.An

abbrev ExP (k n : Nat) (c : Cc) (rs : List ResultVar) : Prop := ∀ {args : List V} {H : Hp} {R : V × Hp → Prop}, args.length ≤ n → Wp Try.prog (callL Try.prog pr) n c args [] H (RetQ Try.prog rs fun v H' => R (pr.gc k H (v, H'))) → ∃ r, callL Try.prog pr k args H = some r ∧ R r
abbrev RunP (k n : Nat) (c : Cc) (rs : List ResultVar) : Prop := ∀ {args : List V} {H : Hp} {r : V × Hp}, args.length ≤ n → Wp Try.prog (callL Try.prog pr) n c args [] H (RetQ Try.prog rs fun v H' => pr.gc k H (v, H') = r) → callL Try.prog pr k args H = some r
theorem run_of {k n : Nat} {c : Cc} {rs : List ResultVar} (h : ExP k n c rs) : RunP k n c rs := @fun _ _ r ha hw => by
  obtain ⟨_, h1, rfl⟩ := h (R := fun x => x = r) ha hw
  exact h1
abbrev ExPD (k n : Nat) (c : Cc) (rs : List ResultVar) : Prop := ∀ {args : List V} {H : Hp} {R : V × Hp → Prop}, args.length ≤ n → Wp Try.prog (callL Try.prog pr) n c args [] H (RetD Try.prog pr rs fun v H' => R (pr.gc k H (v, H'))) → ∃ r, callL Try.prog pr k args H = some r ∧ R r
abbrev RunPD (k n : Nat) (c : Cc) (rs : List ResultVar) : Prop := ∀ {args : List V} {H : Hp} {r : V × Hp}, args.length ≤ n → Wp Try.prog (callL Try.prog pr) n c args [] H (RetD Try.prog pr rs fun v H' => pr.gc k H (v, H') = r) → callL Try.prog pr k args H = some r
theorem run_ofD {k n : Nat} {c : Cc} {rs : List ResultVar} (h : ExPD k n c rs) : RunPD k n c rs := @fun _ _ r ha hw => by
  obtain ⟨_, h1, rfl⟩ := h (R := fun x => x = r) ha hw
  exact h1
theorem gcOne {k : Nat} (h : modeOf k = 1) (H : Hp) (r : V × Hp) : pr.gc k H r = gcF H r := (show pr.gc k H r = gcM modeOf k H r from rfl).trans (gcM_one h H r)
theorem gcZero {k : Nat} (h : modeOf k = 0) (H : Hp) (r : V × Hp) : pr.gc k H r = r := (show pr.gc k H r = gcM modeOf k H r from rfl).trans (gcM_zero h H r)
theorem gcTwo {k : Nat} (h : modeOf k = 2) (H : Hp) (r : V × Hp) : pr.gc k H r = gcC H r := (show pr.gc k H r = gcM modeOf k H r from rfl).trans (gcM_two h H r)
@[go_sem] theorem u3 : Try.prog.underlying 3 = some (.int .i64) := by kernel_rfl
@[go_sem] theorem z3 : szOf Try.prog 3 = some 1 := by kernel_rfl
@[go_sem] theorem y3 : bytesOf' Try.prog 3 = some 8 := by kernel_rfl
@[go_sem] theorem g3 : aggT Try.prog 3 = some false := by kernel_rfl
@[go_sem] theorem o3 : zeroV Try.prog 3 = some (.int .i64 0) := by kernel_rfl
@[go_sem] theorem u5 : Try.prog.underlying 5 = some (.int .u8) := by kernel_rfl
@[go_sem] theorem z5 : szOf Try.prog 5 = some 1 := by kernel_rfl
@[go_sem] theorem y5 : bytesOf' Try.prog 5 = some 1 := by kernel_rfl
@[go_sem] theorem g5 : aggT Try.prog 5 = some false := by kernel_rfl
@[go_sem] theorem o5 : zeroV Try.prog 5 = some (.int .u8 0) := by kernel_rfl
@[go_sem] theorem u9 : Try.prog.underlying 9 = some (.string) := by kernel_rfl
@[go_sem] theorem z9 : szOf Try.prog 9 = some 1 := by kernel_rfl
@[go_sem] theorem y9 : bytesOf' Try.prog 9 = some 16 := by kernel_rfl
@[go_sem] theorem g9 : aggT Try.prog 9 = some false := by kernel_rfl
@[go_sem] theorem o9 : zeroV Try.prog 9 = some (.str []) := by kernel_rfl
@[go_sem] theorem u32 : Try.prog.underlying 32 = some (.int .i64) := by kernel_rfl
@[go_sem] theorem z32 : szOf Try.prog 32 = some 1 := by kernel_rfl
@[go_sem] theorem y32 : bytesOf' Try.prog 32 = some 8 := by kernel_rfl
@[go_sem] theorem g32 : aggT Try.prog 32 = some false := by kernel_rfl
@[go_sem] theorem o32 : zeroV Try.prog 32 = some (.int .i64 0) := by kernel_rfl
@[go_sem] theorem u37 : Try.prog.underlying 37 = some (.slice 5) := by kernel_rfl
@[go_sem] theorem z37 : szOf Try.prog 37 = some 1 := by kernel_rfl
@[go_sem] theorem y37 : bytesOf' Try.prog 37 = some 24 := by kernel_rfl
@[go_sem] theorem g37 : aggT Try.prog 37 = some false := by kernel_rfl
@[go_sem] theorem o37 : zeroV Try.prog 37 = some .nilslice := by kernel_rfl
theorem s37 : sliceT Try.prog 37 1 = true := by kernel_rfl
@[go_sem] theorem i37 {id g off n : Nat} {cp : Cap} {k : IntKind} {j : Int} (hj : 0 ≤ j ∧ j < n) : indexAddrV Try.prog 37 (.slice id g off n 1 cp) (.int k j) = some (.ptr id g (off + j.toNat * 1)) := ia_slice (by kernel_rfl) hj
@[go_sem] theorem n37 {H : Hp} (id g off n : Nat) (cp : Cap) : lenV Try.prog 37 H (.slice id g off n 1 cp) = some (.int .i64 n) := len_slice (sz := 1) (by kernel_rfl) id g off n 1 cp
@[go_sem] theorem is37 {α : Type} {E : Enc α} {l : List α} {b : Bool} {k : IntKind} {j : Int} (hw : E.w = 1) (hj : 0 ≤ j ∧ j < (l.length : Int)) : indexAddrV Try.prog 37 (slV b E l) (.int k j) = some (.ipt (flatE E l) (j.toNat * 1)) := idx_slV s37 hw hj
@[go_sem] theorem ns37 {α : Type} {H : Hp} (b : Bool) (E : Enc α) (l : List α) : lenV Try.prog 37 H (slV b E l) = some (.int .i64 l.length) := len_slV s37 b E l
@[go_sem] theorem nb37 {H : Hp} (n g w : Nat) (xs : List (List V)) : lenV Try.prog 37 H (blV n g w xs) = some (.int .i64 xs.length) := len_blV s37 n g w xs
@[go_sem] theorem lo37 {H : Hp} (x : V) (hi : Option V) : sliceV Try.prog 37 H x none hi = sliceV Try.prog 37 H x (some (.int .i64 0)) hi := lo_slV ⟨_, u37⟩
@[go_sem] theorem hi37 {α : Type} {E : Enc α} {l : List α} {b : Bool} {H : Hp} (lo : Option V) : sliceV Try.prog 37 H (slV b E l) lo none = sliceV Try.prog 37 H (slV b E l) lo (some (.int .i64 l.length)) := hi_slV s37
@[go_sem] theorem ct37 {α : Type} {E : Enc α} {l : List α} {b : Bool} {H : Hp} {k k' : IntKind} {lo hi : Int} (hw : E.w = 1) (h : 0 ≤ lo ∧ lo ≤ hi ∧ hi ≤ (l.length : Int)) : sliceV Try.prog 37 H (slV b E l) (some (.int k lo)) (some (.int k' hi)) = some (slV (b && decide (l.length = 0)) E ((l.drop lo.toNat).take (hi.toNat - lo.toNat))) := cut_slV s37 hw h
@[go_sem] theorem m37 {H : Hp} : lenV Try.prog 37 H .nilslice = some (.int .i64 0) := len_nilslice (sz := 1) (by kernel_rfl)
@[go_sem] theorem x37_9 {H : Hp} (c : Bool) (l : List UInt8) : convV Try.prog 37 9 H (slV c byE l) = some (.str l, H) := str_slV (by kernel_rfl) c l
@[go_sem] theorem x5_3 {H : Hp} (k : IntKind) (n : Int) : convV Try.prog 5 3 H (.int k n) = some (.int .i64 (IntKind.wrap .i64 n), H) := by
  simp only [convV, u5, u3]
@[go_sem] theorem w37_37 {H : Hp} (s x : V) : builtinV Try.prog .append #[37, 37] [s, x] H = appOf 1 1 H s x.dem1 := app_eq (by kernel_rfl) s x
@[go_sem] theorem qi37 (v : V) : immSl Try.prog 37 1 [(0, v)] = if immL v.cells = true ∧ v.cells.length = 1 then some (.isl v.cells 1 1) else none := is_one u37 z5 o5 rfl (by decide) (by decide) v
@[go_sem] theorem q37 {H : Hp} (v : V) : buildSliceV Try.prog 37 1 [(0, v)] H = if v.cells.all V.isCell = true ∧ v.cells.length = 1 then some (.slice H.length 0 0 1 1 .full, H ++ [.row 0 v.cells true]) else none := bs_if u37 z5 o5 rfl (by decide) (by decide) v
def r4_0 : List Co := [
  co 2 (.assign (.const (.bool false)))]
def r4_1 : List Co := [
  co 7 (.move (tm 0)),
  co 8 (.call ⟨.builtin .len, #[(tm 7)], #[37]⟩),
  co 9 (.binOp .gtr 3 (tm 8) (.const (.int .i64 400000)) 3)]
def r4_2 : List Co := [
  co 10 (.call ⟨.value (.func 15), #[], #[]⟩),
  co 2 (.assign (tm 10))]
def r4_3 : List Co := [
  co 12 (.move (tm 0)),
  co 13 (.call ⟨.value (.func 19), #[(tm 12)], #[37]⟩),
  co 11 (.move (tm 13)),
  co 14 (.extract (tm 11) 0),
  co 15 (.extract (tm 11) 1),
  co 3 (.assign (tm 14)),
  co 4 (.assign (tm 15))]
def r4_4 : List Co := [
  co 17 (.move (tm 0)),
  co 18 (.call ⟨.value (.func 20), #[(tm 17)], #[37]⟩),
  co 16 (.move (tm 18)),
  co 19 (.extract (tm 16) 0),
  co 20 (.extract (tm 16) 1),
  co 5 (.assign (tm 19)),
  co 6 (.assign (tm 20))]
def r4_5 : List Co := [
  co 21 (.move (tm 3)),
  co 22 (.convert 37 9 (tm 21)),
  co 23 (.move (tm 5)),
  co 24 (.convert 37 9 (tm 23)),
  co 25 (.binOp .eql 9 (tm 22) (tm 24) 9),
  co 26 (.move (tm 25)),
  cog 27 (.move (tm 4)) 26 true,
  cog 28 (.move (tm 6)) 26 true,
  cog 29 (.binOp .eql 32 (tm 27) (tm 28) 32) 26 true,
  co 30 (.pick (tm 26) (tm 29) (.const (.bool false))),
  co 31 (.move (tm 30)),
  cog 32 (.call ⟨.value (.func 15), #[], #[]⟩) 31 true,
  co 33 (.pick (tm 31) (tm 32) (.const (.bool false))),
  co 2 (.assign (tm 33))]
/-- wireglass/wireglasslaw03.FileUnpacks -/
def c4 : Cc := (.seq (.reg r4_0) (.seq (.seq (.reg r4_1) (.cond (tm 9) (.seq (.reg r4_2) .ret) .skip)) (.seq (.reg r4_3) (.seq (.reg r4_4) (.seq (.reg r4_5) .ret)))))
def r19_0 : List Co := [
  co 2 (.assign (.const (.slice none 0 0))),
  co 3 (.assign (.const (.int .i64 0)))]
def r19_1 : List Co := [
  co 10 (.move (tm 0)),
  co 11 (.call ⟨.builtin .len, #[(tm 10)], #[37]⟩),
  co 12 (.binOp .gtr 3 (tm 11) (.const (.int .i64 262144)) 3)]
def r19_2 : List Co := [
  co 2 (.assign (.const (.slice none 0 0))),
  co 3 (.assign (.const (.int .i64 3)))]
def r19_3 : List Co := [
  co 14 (.move (tm 0)),
  co 15 (.call ⟨.value (.func 66), #[(tm 14)], #[37]⟩),
  co 13 (.move (tm 15)),
  co 16 (.extract (tm 13) 0),
  co 17 (.extract (tm 13) 1),
  co 18 (.extract (tm 13) 2),
  co 4 (.assign (tm 16)),
  co 5 (.assign (tm 17)),
  co 6 (.assign (tm 18))]
def r19_4 : List Co := [
  co 19 (.move (tm 6)),
  co 20 (.binOp .neq 32 (tm 19) (.const (.int .i64 0)) 32)]
def r19_5 : List Co := [
  co 21 (.move (tm 6)),
  co 2 (.assign (.const (.slice none 0 0))),
  co 3 (.assign (tm 21))]
def r19_6 : List Co := [
  co 22 (.move (tm 4)),
  co 23 (.binOp .gtr 3 (tm 22) (.const (.int .i64 131072)) 3)]
def r19_7 : List Co := [
  co 2 (.assign (.const (.slice none 0 0))),
  co 3 (.assign (.const (.int .i64 3)))]
def r19_8 : List Co := [
  coi 7 (.assign (.const (.slice none 0 0)))]
def r19_9 : List Co := [
  co 24 (.move (tm 0)),
  co 25 (.move (tm 5)),
  co 26 (.slice 37 (tm 24) (some (tm 25)) none none),
  co 0 (.assign (tm 26))]
def r19_10 : List Co := [
  co 27 (.move (tm 0)),
  co 28 (.call ⟨.builtin .len, #[(tm 27)], #[37]⟩),
  co 29 (.binOp .gtr 3 (tm 28) (.const (.int .i64 0)) 3)]
def r19_11 : List Co := [
  co 30 (.move (tm 0)),
  co 31 (.indexAddr 37 (tm 30) (.const (.int .i64 0))),
  co 32 (.load 5 (tm 31)),
  co 33 (.convert 5 3 (tm 32)),
  co 8 (.assign (tm 33))]
def r19_12 : List Co := [
  co 34 (.move (tm 0)),
  co 35 (.slice 37 (tm 34) (some (.const (.int .i64 1))) none none),
  co 0 (.assign (tm 35))]
def r19_13 : List Co := [
  co 36 (.move (tm 8)),
  co 37 (.binOp .lss 3 (tm 36) (.const (.int .i64 128)) 3)]
def r19_14 : List Co := [
  co 38 (.move (tm 8)),
  co 39 (.binOp .add 3 (tm 38) (.const (.int .i64 1)) 3),
  co 40 (.move (tm 0)),
  co 41 (.call ⟨.builtin .len, #[(tm 40)], #[37]⟩),
  co 42 (.binOp .gtr 3 (tm 39) (tm 41) 3),
  co 43 (.move (tm 42)),
  cog 44 (.move (tm 7)) 43 false,
  cog 45 (.call ⟨.builtin .len, #[(tm 44)], #[37]⟩) 43 false,
  cog 46 (.move (tm 8)) 43 false,
  cog 47 (.binOp .add 3 (tm 45) (tm 46) 3) 43 false,
  cog 48 (.binOp .add 3 (tm 47) (.const (.int .i64 1)) 3) 43 false,
  cog 49 (.move (tm 4)) 43 false,
  cog 50 (.binOp .gtr 3 (tm 48) (tm 49) 3) 43 false,
  co 51 (.pick (tm 43) (.const (.bool true)) (tm 50))]
def r19_15 : List Co := [
  co 2 (.assign (.const (.slice none 0 0))),
  co 3 (.assign (.const (.int .i64 11)))]
def r19_16 : List Co := [
  co 52 (.move (tm 7)),
  co 53 (.move (tm 0)),
  co 54 (.move (tm 8)),
  co 55 (.binOp .add 3 (tm 54) (.const (.int .i64 1)) 3),
  co 56 (.slice 37 (tm 53) none (some (tm 55)) none),
  co 57 (.call ⟨.builtin .append, #[(tm 52), (tm 56)], #[37, 37]⟩),
  co 7 (.assign (tm 57))]
def r19_17 : List Co := [
  co 58 (.move (tm 0)),
  co 59 (.move (tm 8)),
  co 60 (.binOp .add 3 (tm 59) (.const (.int .i64 1)) 3),
  co 61 (.slice 37 (tm 58) (some (tm 60)) none none),
  co 0 (.assign (tm 61))]
def r19_18 : List Co := [
  co 62 (.move (tm 0)),
  co 63 (.call ⟨.builtin .len, #[(tm 62)], #[37]⟩),
  co 64 (.binOp .lss 3 (tm 63) (.const (.int .i64 2)) 3)]
def r19_19 : List Co := [
  co 2 (.assign (.const (.slice none 0 0))),
  co 3 (.assign (.const (.int .i64 11)))]
def r19_20 : List Co := [
  co 65 (.move (tm 0)),
  co 66 (.indexAddr 37 (tm 65) (.const (.int .i64 0))),
  co 67 (.load 5 (tm 66)),
  co 68 (.convert 5 3 (tm 67)),
  co 69 (.binOp .shl 3 (tm 68) (.const (.int .u64 8)) 104),
  co 70 (.move (tm 0)),
  co 71 (.indexAddr 37 (tm 70) (.const (.int .i64 1))),
  co 72 (.load 5 (tm 71)),
  co 73 (.convert 5 3 (tm 72)),
  co 74 (.binOp .or 3 (tm 69) (tm 73) 3),
  co 9 (.assign (tm 74))]
def r19_21 : List Co := [
  co 75 (.move (tm 0)),
  co 76 (.slice 37 (tm 75) (some (.const (.int .i64 2))) none none),
  co 0 (.assign (tm 76))]
def r19_22 : List Co := [
  co 77 (.move (tm 9)),
  co 78 (.binOp .lss 3 (tm 77) (.const (.int .i64 1)) 3),
  co 79 (.move (tm 78)),
  cog 80 (.move (tm 9)) 79 false,
  cog 81 (.move (tm 7)) 79 false,
  cog 82 (.call ⟨.builtin .len, #[(tm 81)], #[37]⟩) 79 false,
  cog 83 (.binOp .gtr 3 (tm 80) (tm 82) 3) 79 false,
  co 84 (.pick (tm 79) (.const (.bool true)) (tm 83)),
  co 85 (.move (tm 84)),
  cog 86 (.move (tm 7)) 85 false,
  cog 87 (.call ⟨.builtin .len, #[(tm 86)], #[37]⟩) 85 false,
  cog 88 (.move (tm 8)) 85 false,
  cog 89 (.binOp .add 3 (tm 87) (tm 88) 3) 85 false,
  cog 90 (.binOp .sub 3 (tm 89) (.const (.int .i64 125)) 3) 85 false,
  cog 91 (.move (tm 4)) 85 false,
  cog 92 (.binOp .gtr 3 (tm 90) (tm 91) 3) 85 false,
  co 93 (.pick (tm 85) (.const (.bool true)) (tm 92))]
def r19_23 : List Co := [
  co 2 (.assign (.const (.slice none 0 0))),
  co 3 (.assign (.const (.int .i64 11)))]
def r19_24 : List Co := [
  co 94 (.move (tm 8)),
  co 95 (.binOp .sub 3 (tm 94) (.const (.int .i64 125)) 3),
  co 96 (.move (.const (.int .i64 0)))]
def r19_25 : List Co := [
  co 97 (.binOp .lss 3 (tm 96) (tm 95) 3)]
def r19_26 : List Co := [
  co 98 (.move (tm 7)),
  co 99 (.move (tm 7)),
  co 100 (.move (tm 7)),
  co 101 (.call ⟨.builtin .len, #[(tm 100)], #[37]⟩),
  co 102 (.move (tm 9)),
  co 103 (.binOp .sub 3 (tm 101) (tm 102) 3),
  co 104 (.indexAddr 37 (tm 99) (tm 103)),
  co 105 (.load 5 (tm 104)),
  coi 106 (.buildSlice 37 1 #[(0, (tm 105))]),
  co 107 (.call ⟨.builtin .append, #[(tm 98), (tm 106)], #[37, 37]⟩),
  co 7 (.assign (tm 107))]
def r19_27 : List Co := [
  co 108 (.binOp .add 3 (tm 96) (.const (.int .i64 1)) 3),
  co 96 (.move (tm 108))]
def l19_28 : Cc := (.seq (.reg r19_25) (.seq (.cond (tm 97) .skip (.exit 2)) (.seq (.block 3 (.reg r19_26)) (.reg r19_27))))
def l19_29 : Cc := (.seq (.seq (.reg r19_10) (.cond (tm 29) .skip (.exit 0))) (.block 1 (.seq (.reg r19_11) (.seq (.reg r19_12) (.seq (.seq (.reg r19_13) (.cond (tm 37) (.seq (.seq (.reg r19_14) (.cond (tm 51) (.seq (.reg r19_15) .ret) .skip)) (.seq (.reg r19_16) (.seq (.reg r19_17) (.exit 1)))) .skip)) (.seq (.seq (.reg r19_18) (.cond (tm 64) (.seq (.reg r19_19) .ret) .skip)) (.seq (.reg r19_20) (.seq (.reg r19_21) (.seq (.seq (.reg r19_22) (.cond (tm 93) (.seq (.reg r19_23) .ret) .skip)) (.seq (.reg r19_24) (.block 2 (.loop l19_28))))))))))))
def r19_30 : List Co := [
  co 109 (.move (tm 7)),
  co 110 (.call ⟨.builtin .len, #[(tm 109)], #[37]⟩),
  co 111 (.move (tm 4)),
  co 112 (.binOp .neq 3 (tm 110) (tm 111) 3)]
def r19_31 : List Co := [
  co 2 (.assign (.const (.slice none 0 0))),
  co 3 (.assign (.const (.int .i64 11)))]
def r19_32 : List Co := [
  co 113 (.move (tm 7)),
  co 2 (.assign (tm 113)),
  co 3 (.assign (.const (.int .i64 0)))]
/-- wireglass/file.Unpack -/
def c19 : Cc := (.seq (.reg r19_0) (.seq (.seq (.reg r19_1) (.cond (tm 12) (.seq (.reg r19_2) .ret) .skip)) (.seq (.reg r19_3) (.seq (.seq (.reg r19_4) (.cond (tm 20) (.seq (.reg r19_5) .ret) .skip)) (.seq (.seq (.reg r19_6) (.cond (tm 23) (.seq (.reg r19_7) .ret) .skip)) (.seq (.reg r19_8) (.seq (.seq (.reg r19_9) (.block 0 (.loop l19_29))) (.seq (.seq (.reg r19_30) (.cond (tm 112) (.seq (.reg r19_31) .ret) .skip)) (.seq (.reg r19_32) .ret)))))))))
def r20_0 : List Co := [
  co 2 (.assign (.const (.slice none 0 0))),
  co 3 (.assign (.const (.int .i64 0)))]
def r20_1 : List Co := [
  co 11 (.move (tm 0)),
  co 12 (.call ⟨.builtin .len, #[(tm 11)], #[37]⟩),
  co 13 (.binOp .gtr 3 (tm 12) (.const (.int .i64 262144)) 3)]
def r20_2 : List Co := [
  co 2 (.assign (.const (.slice none 0 0))),
  co 3 (.assign (.const (.int .i64 3)))]
def r20_3 : List Co := [
  co 15 (.move (tm 0)),
  co 16 (.call ⟨.value (.func 67), #[(tm 15)], #[37]⟩),
  co 14 (.move (tm 16)),
  co 17 (.extract (tm 14) 0),
  co 18 (.extract (tm 14) 1),
  co 19 (.extract (tm 14) 2),
  co 4 (.assign (tm 17)),
  co 5 (.assign (tm 18)),
  co 6 (.assign (tm 19))]
def r20_4 : List Co := [
  co 20 (.move (tm 6)),
  co 21 (.binOp .neq 32 (tm 20) (.const (.int .i64 0)) 32)]
def r20_5 : List Co := [
  co 22 (.move (tm 6)),
  co 2 (.assign (.const (.slice none 0 0))),
  co 3 (.assign (tm 22))]
def r20_6 : List Co := [
  co 23 (.move (tm 4)),
  co 24 (.binOp .gtr 3 (tm 23) (.const (.int .i64 131072)) 3)]
def r20_7 : List Co := [
  co 2 (.assign (.const (.slice none 0 0))),
  co 3 (.assign (.const (.int .i64 3)))]
def r20_8 : List Co := [
  coi 7 (.assign (.const (.slice none 0 0)))]
def r20_9 : List Co := [
  co 25 (.move (tm 5)),
  co 26 (.move (tm 0)),
  co 27 (.call ⟨.builtin .len, #[(tm 26)], #[37]⟩),
  co 28 (.binOp .lss 3 (tm 25) (tm 27) 3)]
def r20_10 : List Co := [
  co 29 (.move (tm 0)),
  co 30 (.move (tm 5)),
  co 31 (.indexAddr 37 (tm 29) (tm 30)),
  co 32 (.load 5 (tm 31)),
  co 33 (.convert 5 3 (tm 32)),
  co 8 (.assign (tm 33))]
def r20_11 : List Co := [
  co 80 (.move (tm 8)),
  co 81 (.binOp .lss 3 (tm 80) (.const (.int .i64 128)) 3),
  co 79 (.assign (tm 81))]
def r20_12 : List Co := [
  co 82 (.move (tm 5)),
  co 83 (.binOp .add 3 (tm 82) (.const (.int .i64 1)) 3),
  co 84 (.move (tm 8)),
  co 85 (.binOp .add 3 (tm 83) (tm 84) 3),
  co 86 (.binOp .add 3 (tm 85) (.const (.int .i64 1)) 3),
  co 87 (.move (tm 0)),
  co 88 (.call ⟨.builtin .len, #[(tm 87)], #[37]⟩),
  co 89 (.binOp .gtr 3 (tm 86) (tm 88) 3)]
def r20_13 : List Co := [
  co 2 (.assign (.const (.slice none 0 0))),
  co 3 (.assign (.const (.int .i64 11)))]
def r20_14 : List Co := [
  co 90 (.move (tm 7)),
  co 91 (.move (tm 0)),
  co 92 (.move (tm 5)),
  co 93 (.binOp .add 3 (tm 92) (.const (.int .i64 1)) 3),
  co 94 (.move (tm 5)),
  co 95 (.move (tm 8)),
  co 96 (.binOp .add 3 (tm 94) (tm 95) 3),
  co 97 (.binOp .add 3 (tm 96) (.const (.int .i64 2)) 3),
  co 98 (.slice 37 (tm 91) (some (tm 93)) (some (tm 97)) none),
  co 99 (.call ⟨.builtin .append, #[(tm 90), (tm 98)], #[37, 37]⟩),
  co 7 (.assign (tm 99))]
def r20_15 : List Co := [
  co 100 (.move (tm 5)),
  co 101 (.move (tm 8)),
  co 102 (.binOp .add 3 (tm 101) (.const (.int .i64 2)) 3),
  co 103 (.binOp .add 3 (tm 100) (tm 102) 3),
  co 5 (.assign (tm 103))]
def r20_16 : List Co := [
  co 34 (.move (tm 5)),
  co 35 (.binOp .add 3 (tm 34) (.const (.int .i64 3)) 3),
  co 36 (.move (tm 0)),
  co 37 (.call ⟨.builtin .len, #[(tm 36)], #[37]⟩),
  co 38 (.binOp .gtr 3 (tm 35) (tm 37) 3)]
def r20_17 : List Co := [
  co 2 (.assign (.const (.slice none 0 0))),
  co 3 (.assign (.const (.int .i64 11)))]
def r20_18 : List Co := [
  co 39 (.move (tm 0)),
  co 40 (.move (tm 5)),
  co 41 (.binOp .add 3 (tm 40) (.const (.int .i64 1)) 3),
  co 42 (.indexAddr 37 (tm 39) (tm 41)),
  co 43 (.load 5 (tm 42)),
  co 44 (.convert 5 3 (tm 43)),
  co 45 (.binOp .mul 3 (.const (.int .i64 256)) (tm 44) 3),
  co 46 (.move (tm 0)),
  co 47 (.move (tm 5)),
  co 48 (.binOp .add 3 (tm 47) (.const (.int .i64 2)) 3),
  co 49 (.indexAddr 37 (tm 46) (tm 48)),
  co 50 (.load 5 (tm 49)),
  co 51 (.convert 5 3 (tm 50)),
  co 52 (.binOp .add 3 (tm 45) (tm 51) 3),
  co 9 (.assign (tm 52))]
def r20_19 : List Co := [
  co 53 (.move (tm 9)),
  co 54 (.binOp .lss 3 (tm 53) (.const (.int .i64 1)) 3),
  co 55 (.move (tm 54)),
  cog 56 (.move (tm 9)) 55 false,
  cog 57 (.move (tm 7)) 55 false,
  cog 58 (.call ⟨.builtin .len, #[(tm 57)], #[37]⟩) 55 false,
  cog 59 (.binOp .gtr 3 (tm 56) (tm 58) 3) 55 false,
  co 60 (.pick (tm 55) (.const (.bool true)) (tm 59))]
def r20_20 : List Co := [
  co 2 (.assign (.const (.slice none 0 0))),
  co 3 (.assign (.const (.int .i64 11)))]
def r20_21 : List Co := [
  co 10 (.assign (.const (.int .i64 0)))]
def r20_22 : List Co := [
  co 61 (.move (tm 10)),
  co 62 (.move (tm 8)),
  co 63 (.binOp .sub 3 (tm 62) (.const (.int .i64 125)) 3),
  co 64 (.binOp .lss 3 (tm 61) (tm 63) 3)]
def r20_23 : List Co := [
  co 67 (.move (tm 7)),
  co 68 (.move (tm 7)),
  co 69 (.move (tm 7)),
  co 70 (.call ⟨.builtin .len, #[(tm 69)], #[37]⟩),
  co 71 (.move (tm 9)),
  co 72 (.binOp .sub 3 (tm 70) (tm 71) 3),
  co 73 (.indexAddr 37 (tm 68) (tm 72)),
  co 74 (.load 5 (tm 73)),
  coi 75 (.buildSlice 37 1 #[(0, (tm 74))]),
  co 76 (.call ⟨.builtin .append, #[(tm 67), (tm 75)], #[37, 37]⟩),
  co 7 (.assign (tm 76))]
def r20_24 : List Co := [
  co 65 (.move (tm 10)),
  co 66 (.binOp .add 3 (tm 65) (.const (.int .i64 1)) 3),
  co 10 (.assign (tm 66))]
def l20_25 : Cc := (.seq (.seq (.reg r20_22) (.cond (tm 64) .skip (.exit 3))) (.seq (.block 4 (.reg r20_23)) (.reg r20_24)))
def r20_26 : List Co := [
  co 77 (.move (tm 5)),
  co 78 (.binOp .add 3 (tm 77) (.const (.int .i64 3)) 3),
  co 5 (.assign (tm 78))]
def r20_27 : List Co := [
  co 104 (.move (tm 7)),
  co 105 (.call ⟨.builtin .len, #[(tm 104)], #[37]⟩),
  co 106 (.move (tm 4)),
  co 107 (.binOp .gtr 3 (tm 105) (tm 106) 3)]
def r20_28 : List Co := [
  co 2 (.assign (.const (.slice none 0 0))),
  co 3 (.assign (.const (.int .i64 11)))]
def l20_29 : Cc := (.seq (.seq (.reg r20_9) (.cond (tm 28) .skip (.exit 0))) (.block 1 (.seq (.reg r20_10) (.seq (.block 2 (.seq (.reg r20_11) (.cond (tm 79) (.seq (.seq (.reg r20_12) (.cond (tm 89) (.seq (.reg r20_13) .ret) .skip)) (.seq (.reg r20_14) (.reg r20_15))) (.seq (.seq (.reg r20_16) (.cond (tm 38) (.seq (.reg r20_17) .ret) .skip)) (.seq (.reg r20_18) (.seq (.seq (.reg r20_19) (.cond (tm 60) (.seq (.reg r20_20) .ret) .skip)) (.seq (.seq (.reg r20_21) (.block 3 (.loop l20_25))) (.reg r20_26)))))))) (.seq (.reg r20_27) (.cond (tm 107) (.seq (.reg r20_28) .ret) .skip))))))
def r20_30 : List Co := [
  co 108 (.move (tm 7)),
  co 109 (.call ⟨.builtin .len, #[(tm 108)], #[37]⟩),
  co 110 (.move (tm 4)),
  co 111 (.binOp .neq 3 (tm 109) (tm 110) 3)]
def r20_31 : List Co := [
  co 2 (.assign (.const (.slice none 0 0))),
  co 3 (.assign (.const (.int .i64 11)))]
def r20_32 : List Co := [
  co 112 (.move (tm 7)),
  co 2 (.assign (tm 112)),
  co 3 (.assign (.const (.int .i64 0)))]
/-- wireglass/wireglassref03.Unpack -/
def c20 : Cc := (.seq (.reg r20_0) (.seq (.seq (.reg r20_1) (.cond (tm 13) (.seq (.reg r20_2) .ret) .skip)) (.seq (.reg r20_3) (.seq (.seq (.reg r20_4) (.cond (tm 21) (.seq (.reg r20_5) .ret) .skip)) (.seq (.seq (.reg r20_6) (.cond (tm 24) (.seq (.reg r20_7) .ret) .skip)) (.seq (.reg r20_8) (.seq (.block 0 (.loop l20_29)) (.seq (.seq (.reg r20_30) (.cond (tm 111) (.seq (.reg r20_31) .ret) .skip)) (.seq (.reg r20_32) .ret)))))))))
def r66_0 : List Co := [
  co 2 (.assign (.const (.int .i64 0))),
  co 3 (.assign (.const (.int .i64 0))),
  co 4 (.assign (.const (.int .i64 0)))]
def r66_1 : List Co := [
  co 5 (.assign (.const (.int .i64 0)))]
def r66_2 : List Co := [
  co 8 (.move (tm 0)),
  co 9 (.call ⟨.builtin .len, #[(tm 8)], #[37]⟩),
  co 10 (.move (.const (.int .i64 0)))]
def r66_3 : List Co := [
  co 11 (.binOp .lss 3 (tm 10) (tm 9) 3)]
def r66_4 : List Co := [
  co 12 (.move (tm 10)),
  co 13 (.indexAddr 37 (tm 8) (tm 10)),
  co 14 (.load 5 (tm 13)),
  co 6 (.assign (tm 12)),
  co 7 (.assign (tm 14))]
def r66_5 : List Co := [
  co 15 (.move (tm 6)),
  co 16 (.binOp .eql 3 (tm 15) (.const (.int .i64 7)) 3)]
def r66_6 : List Co := [
  co 17 (.move (tm 5)),
  co 18 (.move (tm 7)),
  co 19 (.binOp .and 5 (tm 18) (.const (.int .u8 127)) 5),
  co 20 (.convert 5 3 (tm 19)),
  co 21 (.move (tm 6)),
  co 22 (.binOp .mul 3 (.const (.int .i64 7)) (tm 21) 3),
  co 23 (.binOp .shl 3 (tm 20) (tm 22) 3),
  co 24 (.binOp .or 3 (tm 17) (tm 23) 3),
  co 5 (.assign (tm 24))]
def r66_7 : List Co := [
  co 25 (.move (tm 7)),
  co 26 (.binOp .gtr 5 (tm 25) (.const (.int .u8 127)) 5)]
def r66_8 : List Co := [
  co 27 (.move (tm 7)),
  co 28 (.binOp .eql 5 (tm 27) (.const (.int .u8 0)) 5),
  co 29 (.move (tm 28)),
  cog 30 (.move (tm 6)) 29 true,
  cog 31 (.binOp .gtr 3 (tm 30) (.const (.int .i64 0)) 3) 29 true,
  co 32 (.pick (tm 29) (tm 31) (.const (.bool false))),
  co 33 (.move (tm 32)),
  cog 34 (.move (tm 5)) 33 false,
  cog 35 (.binOp .geq 3 (tm 34) (.const (.int .i64 281474976710656)) 3) 33 false,
  co 36 (.pick (tm 33) (.const (.bool true)) (tm 35))]
def r66_9 : List Co := [
  co 37 (.move (tm 5)),
  co 38 (.move (tm 6)),
  co 39 (.binOp .add 3 (tm 38) (.const (.int .i64 1)) 3),
  co 2 (.assign (tm 37)),
  co 3 (.assign (tm 39)),
  co 4 (.assign (.const (.int .i64 0)))]
def r66_10 : List Co := [
  co 40 (.binOp .add 3 (tm 10) (.const (.int .i64 1)) 3),
  co 10 (.move (tm 40))]
def l66_11 : Cc := (.seq (.reg r66_3) (.seq (.cond (tm 11) .skip (.exit 0)) (.seq (.block 1 (.seq (.reg r66_4) (.seq (.seq (.reg r66_5) (.cond (tm 16) (.exit 0) .skip)) (.seq (.reg r66_6) (.seq (.seq (.reg r66_7) (.cond (tm 26) (.exit 1) .skip)) (.seq (.seq (.reg r66_8) (.cond (tm 36) (.exit 0) .skip)) (.seq (.reg r66_9) .ret))))))) (.reg r66_10))))
def r66_12 : List Co := [
  co 2 (.assign (.const (.int .i64 0))),
  co 3 (.assign (.const (.int .i64 0))),
  co 4 (.assign (.const (.int .i64 11)))]
/-- wireglass/bits.Unseven -/
def c66 : Cc := (.seq (.reg r66_0) (.seq (.reg r66_1) (.seq (.seq (.reg r66_2) (.block 0 (.loop l66_11))) (.seq (.reg r66_12) .ret))))
def r67_0 : List Co := [
  co 2 (.assign (.const (.int .i64 0))),
  co 3 (.assign (.const (.int .i64 0))),
  co 4 (.assign (.const (.int .i64 0)))]
def r67_1 : List Co := [
  co 5 (.assign (.const (.int .i64 0))),
  co 6 (.assign (.const (.int .i64 1)))]
def r67_2 : List Co := [
  co 7 (.assign (.const (.int .i64 0)))]
def r67_3 : List Co := [
  co 8 (.move (tm 7)),
  co 9 (.move (tm 0)),
  co 10 (.call ⟨.builtin .len, #[(tm 9)], #[37]⟩),
  co 11 (.binOp .lss 3 (tm 8) (tm 10) 3),
  co 12 (.move (tm 11)),
  cog 13 (.move (tm 7)) 12 true,
  cog 14 (.binOp .lss 3 (tm 13) (.const (.int .i64 7)) 3) 12 true,
  co 15 (.pick (tm 12) (tm 14) (.const (.bool false)))]
def r67_4 : List Co := [
  co 18 (.move (tm 5)),
  co 19 (.move (tm 6)),
  co 20 (.move (tm 0)),
  co 21 (.move (tm 7)),
  co 22 (.indexAddr 37 (tm 20) (tm 21)),
  co 23 (.load 5 (tm 22)),
  co 24 (.binOp .rem 5 (tm 23) (.const (.int .u8 128)) 5),
  co 25 (.convert 5 3 (tm 24)),
  co 26 (.binOp .mul 3 (tm 19) (tm 25) 3),
  co 27 (.binOp .add 3 (tm 18) (tm 26) 3),
  co 5 (.assign (tm 27))]
def r67_5 : List Co := [
  co 28 (.move (tm 6)),
  co 29 (.binOp .mul 3 (tm 28) (.const (.int .i64 128)) 3),
  co 6 (.assign (tm 29))]
def r67_6 : List Co := [
  co 30 (.move (tm 0)),
  co 31 (.move (tm 7)),
  co 32 (.indexAddr 37 (tm 30) (tm 31)),
  co 33 (.load 5 (tm 32)),
  co 34 (.binOp .lss 5 (tm 33) (.const (.int .u8 128)) 5)]
def r67_7 : List Co := [
  co 35 (.move (tm 5)),
  co 36 (.binOp .geq 3 (tm 35) (.const (.int .i64 281474976710656)) 3),
  co 37 (.move (tm 36)),
  cog 38 (.move (tm 7)) 37 false,
  cog 39 (.binOp .gtr 3 (tm 38) (.const (.int .i64 0)) 3) 37 false,
  cog 40 (.move (tm 39)) 37 false,
  cog 41 (.move (tm 0)) 40 true,
  cog 42 (.move (tm 7)) 40 true,
  cog 43 (.indexAddr 37 (tm 41) (tm 42)) 40 true,
  cog 44 (.load 5 (tm 43)) 40 true,
  cog 45 (.binOp .eql 5 (tm 44) (.const (.int .u8 0)) 5) 40 true,
  cog 46 (.pick (tm 40) (tm 45) (.const (.bool false))) 37 false,
  co 47 (.pick (tm 37) (.const (.bool true)) (tm 46))]
def r67_8 : List Co := [
  co 2 (.assign (.const (.int .i64 0))),
  co 3 (.assign (.const (.int .i64 0))),
  co 4 (.assign (.const (.int .i64 11)))]
def r67_9 : List Co := [
  co 48 (.move (tm 5)),
  co 49 (.move (tm 7)),
  co 50 (.binOp .add 3 (tm 49) (.const (.int .i64 1)) 3),
  co 2 (.assign (tm 48)),
  co 3 (.assign (tm 50)),
  co 4 (.assign (.const (.int .i64 0)))]
def r67_10 : List Co := [
  co 16 (.move (tm 7)),
  co 17 (.binOp .add 3 (tm 16) (.const (.int .i64 1)) 3),
  co 7 (.assign (tm 17))]
def l67_11 : Cc := (.seq (.seq (.reg r67_3) (.cond (tm 15) .skip (.exit 0))) (.seq (.block 1 (.seq (.reg r67_4) (.seq (.reg r67_5) (.seq (.reg r67_6) (.cond (tm 34) (.seq (.seq (.reg r67_7) (.cond (tm 47) (.seq (.reg r67_8) .ret) .skip)) (.seq (.reg r67_9) .ret)) .skip))))) (.reg r67_10)))
def r67_12 : List Co := [
  co 2 (.assign (.const (.int .i64 0))),
  co 3 (.assign (.const (.int .i64 0))),
  co 4 (.assign (.const (.int .i64 11)))]
/-- wireglass/wireglassref01.Unseven -/
def c67 : Cc := (.seq (.reg r67_0) (.seq (.reg r67_1) (.seq (.seq (.reg r67_2) (.block 0 (.loop l67_11))) (.seq (.reg r67_12) .ret))))
@[go_sem] theorem kp4 (v : V) : demK 4 v = v.dem := rfl
def rs4 : List ResultVar := [.tmp 2]
theorem gc4 (H : Hp) (r : V × Hp) : pr.gc 4 H r = gcF H r := gcOne rfl H r
set_option maxRecDepth 100000 in
theorem ex4 : ExP 4 34 c4 rs4 := @fun _ _ _ ha h => call_ex (fn := Try.f4) rfl Try.func4 rfl (by kernel_rfl) rfl (Nat.max_eq_right ha) h
theorem run4 : RunP 4 34 c4 rs4 := @fun _ _ _ ha h => run_of ex4 ha h
@[go_sem] theorem kp19 (v : V) : demK 19 v = v.dem := rfl
def rs19 : List ResultVar := [.tmp 2, .tmp 3]
theorem gc19 (H : Hp) (r : V × Hp) : pr.gc 19 H r = gcF H r := gcOne rfl H r
set_option maxRecDepth 100000 in
theorem ex19 : ExP 19 114 c19 rs19 := @fun _ _ _ ha h => call_ex (fn := Try.f19) rfl Try.func19 rfl (by kernel_rfl) rfl (Nat.max_eq_right ha) h
theorem run19 : RunP 19 114 c19 rs19 := @fun _ _ _ ha h => run_of ex19 ha h
@[go_sem] theorem kp20 (v : V) : demK 20 v = v.dem := rfl
def rs20 : List ResultVar := [.tmp 2, .tmp 3]
theorem gc20 (H : Hp) (r : V × Hp) : pr.gc 20 H r = gcF H r := gcOne rfl H r
set_option maxRecDepth 100000 in
theorem ex20 : ExP 20 113 c20 rs20 := @fun _ _ _ ha h => call_ex (fn := Try.f20) rfl Try.func20 rfl (by kernel_rfl) rfl (Nat.max_eq_right ha) h
theorem run20 : RunP 20 113 c20 rs20 := @fun _ _ _ ha h => run_of ex20 ha h
@[go_sem] theorem kp66 (v : V) : demK 66 v = v.dem := rfl
def rs66 : List ResultVar := [.tmp 2, .tmp 3, .tmp 4]
theorem gc66 (H : Hp) (r : V × Hp) : pr.gc 66 H r = gcF H r := gcOne rfl H r
set_option maxRecDepth 100000 in
theorem ex66 : ExP 66 41 c66 rs66 := @fun _ _ _ ha h => call_ex (fn := Try.f66) rfl Try.func66 rfl (by kernel_rfl) rfl (Nat.max_eq_right ha) h
theorem run66 : RunP 66 41 c66 rs66 := @fun _ _ _ ha h => run_of ex66 ha h
@[go_sem] theorem kp67 (v : V) : demK 67 v = v.dem := rfl
def rs67 : List ResultVar := [.tmp 2, .tmp 3, .tmp 4]
theorem gc67 (H : Hp) (r : V × Hp) : pr.gc 67 H r = gcF H r := gcOne rfl H r
set_option maxRecDepth 100000 in
theorem ex67 : ExP 67 51 c67 rs67 := @fun _ _ _ ha h => call_ex (fn := Try.f67) rfl Try.func67 rfl (by kernel_rfl) rfl (Nat.max_eq_right ha) h
theorem run67 : RunP 67 51 c67 rs67 := @fun _ _ _ ha h => run_of ex67 ha h
end Go.Proofs.Ytejkgnmjdaohdaa
/-
  Numbers in sevens of bits, read by both; walked. No statement of the seat stands here.
-/
namespace Go.Proofs.Ytejkgnmjdaohdaa
open Go Go.An
set_option maxRecDepth 4000
set_option linter.unusedSimpArgs false
set_option linter.unusedVariables false

theorem ldB {l : List UInt8} {i : Nat} {H : Hp} (h : i < l.length) : loadV Try.prog 5 H (.ipt (flatE byE l) (i * 1)) = some (.int .u8 (byE.at l i).toNat) := ld_cell0 g5 rfl h
def val (l : List UInt8) : Nat → Nat
  | 0 => 0
  | i + 1 => val l i + (byE.at l i).toNat % 128 * 2 ^ (7 * i)
theorem val_lt (l : List UInt8) : ∀ i, val l i < 2 ^ (7 * i)
  | 0 => by simp [val]
  | i + 1 => by
    have := val_lt l i
    have h : (byE.at l i).toNat % 128 ≤ 127 := by have := Nat.mod_lt (byE.at l i).toNat (show 0 < 128 by omega); omega
    have e : 2 ^ (7 * (i + 1)) = 128 * 2 ^ (7 * i) := by rw [Nat.mul_add, Nat.pow_add]; omega
    have h2 : (byE.at l i).toNat % 128 * 2 ^ (7 * i) ≤ 127 * 2 ^ (7 * i) := Nat.mul_le_mul_right _ h
    rw [val, e]
    omega
theorem val_small (l : List UInt8) {i : Nat} (h : i ≤ 7) : val l i < 2 ^ 49 :=
  Nat.lt_of_lt_of_le (val_lt l i) (Nat.pow_le_pow_right (by omega) (by omega))
/-- The number, how many bytes it has, what is wrong. -/
def unsG (l : List UInt8) : Nat → Nat → Int × Int × Int
  | 0, _ => (0, 0, 11)
  | f + 1, i => if i < l.length then (if 127 < (byE.at l i).toNat then unsG l f (i + 1) else if ((byE.at l i).toNat = 0 ∧ 0 < i) ∨ 2 ^ 48 ≤ val l (i + 1) then (0, 0, 11) else (val l (i + 1), i + 1, 0)) else (0, 0, 11)
def uns (l : List UInt8) : Int × Int × Int := unsG l 7 0
def unV (r : Int × Int × Int) : V := .tup [.int .i64 r.1, .int .i64 r.2.1, .int .i64 r.2.2]
theorem fn67 {b : Bool} {l : List UInt8} (hlen : l.length ≤ 2 ^ 40) (H : Hp) : callL Try.prog pr 67 [slV b byE l] H = some (unV (uns l), H) := by
  refine run67 (Nat.le_of_ble_eq_true rfl) ?_
  simp (disch := first | rfl | omega | exact lt_new _ | assumption | decide | (simp [tk_here, tk_app, tk_0, tk_S] <;> omega) | fail) only [r67_0, r67_1, r67_2, r67_3, r67_4, r67_5, r67_6, r67_7, r67_8, r67_9, r67_10, r67_12, c67, rs67, gc67, go_sem, ↓reduceIte, Nat.reduceLT, Nat.reduceEqDiff, Nat.reduceAdd, Nat.reduceMul, Nat.reduceSub, Int.reduceAdd, Int.reduceSub, Nat.reduceLeDiff, Int.reduceLT, Int.reduceLE, Int.reduceEq, Int.reduceNeg, Int.reduceToNat]
  refine Wp_loop (fun m T D H' => ∃ i, m = 7 - i ∧ i ≤ 7 ∧ D = [] ∧ H' = H ∧ get T 0 = slV b byE l ∧ get T 5 = .int .i64 (val l i) ∧ get T 6 = .int .i64 ((2 ^ (7 * i) : Nat) : Int) ∧ get T 7 = .int .i64 i ∧ uns l = unsG l (7 - i) i) ?_ 7 _ _ _ ?_
  · rintro m T D H' ⟨i, rfl, hi, rfl, rfl, t0, t5, t6, t7, hu⟩
    by_cases hl : i < l.length
    · by_cases h7 : i < 7
      · have hl' : (i : Int) < l.length := by omega
        have h7' : (i : Int) < 7 := by omega
        rw [show 7 - i = (7 - (i + 1)) + 1 by omega] at hu
        unfold unsG at hu
        rw [if_pos hl] at hu
        have lb := fun H => ldB (H := H) hl
        obtain ⟨c, hc⟩ : ∃ c, byE.at l i = c := ⟨_, rfl⟩
        rw [hc] at lb hu
        have hcl := c.toNat_lt
        have hv1 := val_small l (i := i + 1) (by omega)
        have hv0 := val_small l (i := i) (by omega)
        have hvn : val l (i + 1) = val l i + c.toNat % 128 * 2 ^ (7 * i) := by rw [val, hc]
        have hrem : ((c.toNat : Int)).tmod 128 = ((c.toNat % 128 : Nat) : Int) := rfl
        have hmul : ((2 ^ (7 * i) : Nat) : Int) * ((c.toNat % 128 : Nat) : Int) = ((c.toNat % 128 * 2 ^ (7 * i) : Nat) : Int) := by rw [← Int.natCast_mul, Nat.mul_comm]
        have hadd : (val l i : Int) + ((c.toNat % 128 * 2 ^ (7 * i) : Nat) : Int) = (val l (i + 1) : Int) := by rw [hvn]; simp
        have hp1 : 2 ^ (7 * i) ≤ 2 ^ 42 := Nat.pow_le_pow_right (by omega) (by omega)
        have hp2 : ((2 ^ (7 * i) : Nat) : Int) * 128 = ((2 ^ (7 * (i + 1)) : Nat) : Int) := by rw [Nat.mul_add, Nat.pow_add]; simp
        have hp3 : 2 ^ (7 * (i + 1)) ≤ 2 ^ 49 := Nat.pow_le_pow_right (by omega) (by omega)
        generalize hP : 2 ^ (7 * i) = P0 at *
        generalize hQ : 2 ^ (7 * (i + 1)) = P1 at *
        have hxb : c.toNat % 128 * P0 ≤ val l (i + 1) := by omega
        generalize hX : c.toNat % 128 * P0 = X at *
        generalize hR : c.toNat % 128 = rr at *
        simp (disch := first | rfl | omega | exact lt_new _ | assumption | decide | (simp [tk_here, tk_app, tk_0, tk_S] <;> omega) | fail) only [l67_11, r67_3, r67_4, r67_5, r67_6, r67_7, r67_8, r67_9, r67_10, rs67, gc67, t0, t5, t6, t7, hl', h7', decide_true, lb, hrem, hmul, hadd, hp2, IntWalk.u8_in, go_sem, ↓reduceIte, Nat.reduceLT, Nat.reduceEqDiff, Nat.reduceAdd, Nat.reduceMul, Nat.reduceSub, Int.reduceAdd, Int.reduceSub, Nat.reduceLeDiff, Int.reduceLT, Int.reduceLE, Int.reduceEq, Int.reduceNeg, Int.reduceToNat]
        repeat' ((first | refine guardB_dec (fun hy => ?_) (fun hy => ?_) | refine guardB_bool (fun hy => ?_) (fun hy => ?_) | refine guardQ_ite (fun hy => ?_) (fun hy => ?_) | refine brQ_dec (fun hy => ?_) (fun hy => ?_) | refine brQ_bool (fun hy => ?_) (fun hy => ?_)) <;> (try simp only [Bool.not_eq_true', Bool.not_eq_false', Bool.and_eq_true, Bool.or_eq_false_iff, decide_eq_true_eq, decide_eq_false_iff_not] at hy) <;> simp (disch := first | rfl | omega | exact lt_new _ | assumption | decide | (simp [tk_here, tk_app, tk_0, tk_S] <;> omega) | fail) only [l67_11, r67_3, r67_4, r67_5, r67_6, r67_7, r67_8, r67_9, r67_10, rs67, gc67, t0, t5, t6, t7, hl', h7', decide_true, lb, hrem, hmul, hadd, hp2, IntWalk.u8_in, go_sem, ↓reduceIte, Nat.reduceLT, Nat.reduceEqDiff, Nat.reduceAdd, Nat.reduceMul, Nat.reduceSub, Int.reduceAdd, Int.reduceSub, Nat.reduceLeDiff, Int.reduceLT, Int.reduceLE, Int.reduceEq, Int.reduceNeg, Int.reduceToNat, hy])
        all_goals first
          | (rw [if_neg (by omega), if_pos (by omega)] at hu
             rw [hu]
             refine finQ_same ?_
             simp only [go_sem, ↓reduceIte, Nat.reduceLT, Nat.reduceEqDiff, Nat.reduceAdd, Nat.reduceMul, Nat.reduceSub, Int.reduceAdd, Int.reduceSub, Nat.reduceLeDiff, Int.reduceLT, Int.reduceLE, Int.reduceEq, Int.reduceNeg, Int.reduceToNat, unV]
             done)
          | (rw [if_neg (by omega), if_neg (by omega)] at hu
             rw [hu]
             refine finQ_same ?_
             simp only [go_sem, ↓reduceIte, Nat.reduceLT, Nat.reduceEqDiff, Nat.reduceAdd, Nat.reduceMul, Nat.reduceSub, Int.reduceAdd, Int.reduceSub, Nat.reduceLeDiff, Int.reduceLT, Int.reduceLE, Int.reduceEq, Int.reduceNeg, Int.reduceToNat, unV]
             done)
          | (rw [if_pos (by omega)] at hu
             exact ⟨_, by omega, i + 1, rfl, by omega, rfl, by rw [hQ], rfl, hu⟩)
      · obtain rfl : i = 7 := by omega
        have hl' : ((7 : Nat) : Int) < l.length := by omega
        have hu2 : uns l = (0, 0, 11) := hu
        rw [hu2]
        simp (disch := first | rfl | omega | exact lt_new _ | assumption | decide | (simp [tk_here, tk_app, tk_0, tk_S] <;> omega) | fail) only [l67_11, r67_3, r67_12, rs67, gc67, t0, t5, t6, t7, hl', decide_true, go_sem, ↓reduceIte, Nat.reduceLT, Nat.reduceEqDiff, Nat.reduceAdd, Nat.reduceMul, Nat.reduceSub, Int.reduceAdd, Int.reduceSub, Nat.reduceLeDiff, Int.reduceLT, Int.reduceLE, Int.reduceEq, Int.reduceNeg, Int.reduceToNat]
        repeat' ((first | refine guardB_dec (fun hy => ?_) (fun hy => ?_) | refine guardB_bool (fun hy => ?_) (fun hy => ?_) | refine guardQ_ite (fun hy => ?_) (fun hy => ?_) | refine brQ_dec (fun hy => ?_) (fun hy => ?_) | refine brQ_bool (fun hy => ?_) (fun hy => ?_)) <;> (try simp only [Bool.not_eq_true', Bool.not_eq_false', Bool.and_eq_true, Bool.or_eq_false_iff, decide_eq_true_eq, decide_eq_false_iff_not] at hy) <;> simp (disch := first | rfl | omega | exact lt_new _ | assumption | decide | (simp [tk_here, tk_app, tk_0, tk_S] <;> omega) | fail) only [l67_11, r67_3, r67_12, rs67, gc67, t0, t5, t6, t7, hl', decide_true, go_sem, ↓reduceIte, Nat.reduceLT, Nat.reduceEqDiff, Nat.reduceAdd, Nat.reduceMul, Nat.reduceSub, Int.reduceAdd, Int.reduceSub, Nat.reduceLeDiff, Int.reduceLT, Int.reduceLE, Int.reduceEq, Int.reduceNeg, Int.reduceToNat, hy])
        all_goals (refine finQ_same ?_; simp only [go_sem, ↓reduceIte, Nat.reduceLT, Nat.reduceEqDiff, Nat.reduceAdd, Nat.reduceMul, Nat.reduceSub, Int.reduceAdd, Int.reduceSub, Nat.reduceLeDiff, Int.reduceLT, Int.reduceLE, Int.reduceEq, Int.reduceNeg, Int.reduceToNat, unV])
    · have hl' : ¬ (i : Int) < l.length := by omega
      have hu2 : uns l = (0, 0, 11) := by
        rw [hu]
        cases h : 7 - i with
        | zero => rfl
        | succ f => unfold unsG; rw [if_neg hl]
      rw [hu2]
      simp (disch := first | rfl | omega | exact lt_new _ | assumption | decide | (simp [tk_here, tk_app, tk_0, tk_S] <;> omega) | fail) only [l67_11, r67_3, r67_12, rs67, gc67, t0, t5, t6, t7, hl', decide_false, go_sem, ↓reduceIte, Nat.reduceLT, Nat.reduceEqDiff, Nat.reduceAdd, Nat.reduceMul, Nat.reduceSub, Int.reduceAdd, Int.reduceSub, Nat.reduceLeDiff, Int.reduceLT, Int.reduceLE, Int.reduceEq, Int.reduceNeg, Int.reduceToNat]
      repeat' ((first | refine guardB_dec (fun hy => ?_) (fun hy => ?_) | refine guardB_bool (fun hy => ?_) (fun hy => ?_) | refine guardQ_ite (fun hy => ?_) (fun hy => ?_) | refine brQ_dec (fun hy => ?_) (fun hy => ?_) | refine brQ_bool (fun hy => ?_) (fun hy => ?_)) <;> (try simp only [Bool.not_eq_true', Bool.not_eq_false', Bool.and_eq_true, Bool.or_eq_false_iff, decide_eq_true_eq, decide_eq_false_iff_not] at hy) <;> simp (disch := first | rfl | omega | exact lt_new _ | assumption | decide | (simp [tk_here, tk_app, tk_0, tk_S] <;> omega) | fail) only [l67_11, r67_3, r67_12, rs67, gc67, t0, t5, t6, t7, hl', decide_false, go_sem, ↓reduceIte, Nat.reduceLT, Nat.reduceEqDiff, Nat.reduceAdd, Nat.reduceMul, Nat.reduceSub, Int.reduceAdd, Int.reduceSub, Nat.reduceLeDiff, Int.reduceLT, Int.reduceLE, Int.reduceEq, Int.reduceNeg, Int.reduceToNat, hy])
      all_goals (refine finQ_same ?_; simp only [go_sem, ↓reduceIte, Nat.reduceLT, Nat.reduceEqDiff, Nat.reduceAdd, Nat.reduceMul, Nat.reduceSub, Int.reduceAdd, Int.reduceSub, Nat.reduceLeDiff, Int.reduceLT, Int.reduceLE, Int.reduceEq, Int.reduceNeg, Int.reduceToNat, unV])
  · exact ⟨0, by simp [go_sem, val, uns]⟩
theorem b_shl (x y : Int) (hy : 0 ≤ y) : binV Try.prog .shl 3 (.int .i64 x) (.int .i64 y) = some (.int .i64 (IntKind.i64.wrap (x * 2 ^ min y.toNat 64))) := by
  simp [binV, shiftV, intV, hy, IntKind.bits]
theorem fn66 {b : Bool} {l : List UInt8} (hlen : l.length ≤ 2 ^ 40) (H : Hp) : callL Try.prog pr 66 [slV b byE l] H = some (unV (uns l), H) := by
  refine run66 (Nat.le_of_ble_eq_true rfl) ?_
  simp (disch := first | rfl | omega | exact lt_new _ | assumption | decide | (simp [tk_here, tk_app, tk_0, tk_S] <;> omega) | fail) only [r66_0, r66_1, r66_2, r66_3, r66_4, r66_5, r66_6, r66_7, r66_8, r66_9, r66_10, r66_12, c66, rs66, gc66, go_sem, ↓reduceIte, Nat.reduceLT, Nat.reduceEqDiff, Nat.reduceAdd, Nat.reduceMul, Nat.reduceSub, Int.reduceAdd, Int.reduceSub, Nat.reduceLeDiff, Int.reduceLT, Int.reduceLE, Int.reduceEq, Int.reduceNeg, Int.reduceToNat]
  refine Wp_loop (fun m T D H' => ∃ i, m = 8 - i ∧ i ≤ 7 ∧ D = [] ∧ H' = H ∧ get T 8 = slV b byE l ∧ get T 9 = .int .i64 l.length ∧ get T 5 = .int .i64 (val l i) ∧ get T 10 = .int .i64 i ∧ uns l = unsG l (7 - i) i) ?_ 8 _ _ _ ?_
  · rintro m T D H' ⟨i, rfl, hi, rfl, rfl, t8, t9, t5, t10, hu⟩
    by_cases hl : i < l.length
    · have hl' : (i : Int) < l.length := by omega
      have lb := fun H => ldB (H := H) hl
      obtain ⟨c, hc⟩ : ∃ c, byE.at l i = c := ⟨_, rfl⟩
      rw [hc] at lb
      by_cases h7 : i < 7
      · have h7' : ¬ (i : Int) = 7 := by omega
        rw [show 7 - i = (7 - (i + 1)) + 1 by omega] at hu
        unfold unsG at hu
        rw [if_pos hl, hc] at hu
        have hcl := c.toNat_lt
        have hv1 := val_small l (i := i + 1) (by omega)
        have hvn : val l (i + 1) = val l i + c.toNat % 128 * 2 ^ (7 * i) := by rw [val, hc]
        have hand := and127 c
        have hor := or_add (val_lt l i) (x := c.toNat % 128) (by rw [← hvn]; omega)
        rw [← hvn] at hor
        have hsh : ((c.toNat % 128 : Nat) : Int) * 2 ^ min ((7 : Int) * i).toNat 64 = ((c.toNat % 128 * 2 ^ (7 * i) : Nat) : Int) := by
          rw [show min ((7 : Int) * i).toNat 64 = 7 * i by omega]
          simp
        simp (disch := first | rfl | omega | exact lt_new _ | assumption | decide | (simp [tk_here, tk_app, tk_0, tk_S] <;> omega) | fail) only [l66_11, r66_3, r66_4, r66_5, r66_6, r66_7, r66_8, r66_9, r66_10, rs66, gc66, t8, t9, t5, t10, hl', h7', decide_true, decide_false, lb, b_and, b_or, b_shl, hand, hor, hsh, IntWalk.u8_in, go_sem, ↓reduceIte, Nat.reduceLT, Nat.reduceEqDiff, Nat.reduceAdd, Nat.reduceMul, Nat.reduceSub, Int.reduceAdd, Int.reduceSub, Nat.reduceLeDiff, Int.reduceLT, Int.reduceLE, Int.reduceEq, Int.reduceNeg, Int.reduceToNat]
        repeat' ((first | refine guardB_dec (fun hy => ?_) (fun hy => ?_) | refine guardB_bool (fun hy => ?_) (fun hy => ?_) | refine guardQ_ite (fun hy => ?_) (fun hy => ?_) | refine brQ_dec (fun hy => ?_) (fun hy => ?_) | refine brQ_bool (fun hy => ?_) (fun hy => ?_)) <;> (try simp only [Bool.not_eq_true', Bool.not_eq_false', Bool.and_eq_true, Bool.or_eq_false_iff, decide_eq_true_eq, decide_eq_false_iff_not] at hy) <;> simp (disch := first | rfl | omega | exact lt_new _ | assumption | decide | (simp [tk_here, tk_app, tk_0, tk_S] <;> omega) | fail) only [l66_11, r66_3, r66_4, r66_5, r66_6, r66_7, r66_8, r66_9, r66_10, rs66, gc66, t8, t9, t5, t10, hl', h7', decide_true, decide_false, lb, b_and, b_or, b_shl, hand, hor, hsh, IntWalk.u8_in, go_sem, ↓reduceIte, Nat.reduceLT, Nat.reduceEqDiff, Nat.reduceAdd, Nat.reduceMul, Nat.reduceSub, Int.reduceAdd, Int.reduceSub, Nat.reduceLeDiff, Int.reduceLT, Int.reduceLE, Int.reduceEq, Int.reduceNeg, Int.reduceToNat, hy])
        all_goals first
          | (rw [if_neg (by omega), if_pos (by omega)] at hu
             rw [hu]
             refine finQ_same ?_
             simp only [go_sem, ↓reduceIte, Nat.reduceLT, Nat.reduceEqDiff, Nat.reduceAdd, Nat.reduceMul, Nat.reduceSub, Int.reduceAdd, Int.reduceSub, Nat.reduceLeDiff, Int.reduceLT, Int.reduceLE, Int.reduceEq, Int.reduceNeg, Int.reduceToNat, unV]
             done)
          | (rw [if_neg (by omega), if_neg (by omega)] at hu
             rw [hu]
             refine finQ_same ?_
             simp only [go_sem, ↓reduceIte, Nat.reduceLT, Nat.reduceEqDiff, Nat.reduceAdd, Nat.reduceMul, Nat.reduceSub, Int.reduceAdd, Int.reduceSub, Nat.reduceLeDiff, Int.reduceLT, Int.reduceLE, Int.reduceEq, Int.reduceNeg, Int.reduceToNat, unV]
             done)
          | (rw [if_pos (by omega)] at hu
             exact ⟨_, by omega, i + 1, rfl, by omega, rfl, rfl, hu⟩)
      · obtain rfl : i = 7 := by omega
        have hu2 : uns l = (0, 0, 11) := hu
        rw [hu2]
        have h7' : ((7 : Nat) : Int) = 7 := rfl
        simp (disch := first | rfl | omega | exact lt_new _ | assumption | decide | (simp [tk_here, tk_app, tk_0, tk_S] <;> omega) | fail) only [l66_11, r66_3, r66_4, r66_5, r66_12, rs66, gc66, t8, t9, t5, t10, hl', decide_true, lb, h7', go_sem, ↓reduceIte, Nat.reduceLT, Nat.reduceEqDiff, Nat.reduceAdd, Nat.reduceMul, Nat.reduceSub, Int.reduceAdd, Int.reduceSub, Nat.reduceLeDiff, Int.reduceLT, Int.reduceLE, Int.reduceEq, Int.reduceNeg, Int.reduceToNat]
        repeat' ((first | refine guardB_dec (fun hy => ?_) (fun hy => ?_) | refine guardB_bool (fun hy => ?_) (fun hy => ?_) | refine guardQ_ite (fun hy => ?_) (fun hy => ?_) | refine brQ_dec (fun hy => ?_) (fun hy => ?_) | refine brQ_bool (fun hy => ?_) (fun hy => ?_)) <;> (try simp only [Bool.not_eq_true', Bool.not_eq_false', Bool.and_eq_true, Bool.or_eq_false_iff, decide_eq_true_eq, decide_eq_false_iff_not] at hy) <;> simp (disch := first | rfl | omega | exact lt_new _ | assumption | decide | (simp [tk_here, tk_app, tk_0, tk_S] <;> omega) | fail) only [l66_11, r66_3, r66_4, r66_5, r66_12, rs66, gc66, t8, t9, t5, t10, hl', decide_true, lb, h7', go_sem, ↓reduceIte, Nat.reduceLT, Nat.reduceEqDiff, Nat.reduceAdd, Nat.reduceMul, Nat.reduceSub, Int.reduceAdd, Int.reduceSub, Nat.reduceLeDiff, Int.reduceLT, Int.reduceLE, Int.reduceEq, Int.reduceNeg, Int.reduceToNat, hy])
        all_goals (refine finQ_same ?_; simp only [go_sem, ↓reduceIte, Nat.reduceLT, Nat.reduceEqDiff, Nat.reduceAdd, Nat.reduceMul, Nat.reduceSub, Int.reduceAdd, Int.reduceSub, Nat.reduceLeDiff, Int.reduceLT, Int.reduceLE, Int.reduceEq, Int.reduceNeg, Int.reduceToNat, unV])
    · have hl' : ¬ (i : Int) < l.length := by omega
      have hu2 : uns l = (0, 0, 11) := by
        rw [hu]
        cases h : 7 - i with
        | zero => rfl
        | succ f => unfold unsG; rw [if_neg hl]
      rw [hu2]
      simp (disch := first | rfl | omega | exact lt_new _ | assumption | decide | (simp [tk_here, tk_app, tk_0, tk_S] <;> omega) | fail) only [l66_11, r66_3, r66_12, rs66, gc66, t8, t9, t5, t10, hl', decide_false, go_sem, ↓reduceIte, Nat.reduceLT, Nat.reduceEqDiff, Nat.reduceAdd, Nat.reduceMul, Nat.reduceSub, Int.reduceAdd, Int.reduceSub, Nat.reduceLeDiff, Int.reduceLT, Int.reduceLE, Int.reduceEq, Int.reduceNeg, Int.reduceToNat]
      repeat' ((first | refine guardB_dec (fun hy => ?_) (fun hy => ?_) | refine guardB_bool (fun hy => ?_) (fun hy => ?_) | refine guardQ_ite (fun hy => ?_) (fun hy => ?_) | refine brQ_dec (fun hy => ?_) (fun hy => ?_) | refine brQ_bool (fun hy => ?_) (fun hy => ?_)) <;> (try simp only [Bool.not_eq_true', Bool.not_eq_false', Bool.and_eq_true, Bool.or_eq_false_iff, decide_eq_true_eq, decide_eq_false_iff_not] at hy) <;> simp (disch := first | rfl | omega | exact lt_new _ | assumption | decide | (simp [tk_here, tk_app, tk_0, tk_S] <;> omega) | fail) only [l66_11, r66_3, r66_12, rs66, gc66, t8, t9, t5, t10, hl', decide_false, go_sem, ↓reduceIte, Nat.reduceLT, Nat.reduceEqDiff, Nat.reduceAdd, Nat.reduceMul, Nat.reduceSub, Int.reduceAdd, Int.reduceSub, Nat.reduceLeDiff, Int.reduceLT, Int.reduceLE, Int.reduceEq, Int.reduceNeg, Int.reduceToNat, hy])
      all_goals (refine finQ_same ?_; simp only [go_sem, ↓reduceIte, Nat.reduceLT, Nat.reduceEqDiff, Nat.reduceAdd, Nat.reduceMul, Nat.reduceSub, Int.reduceAdd, Int.reduceSub, Nat.reduceLeDiff, Int.reduceLT, Int.reduceLE, Int.reduceEq, Int.reduceNeg, Int.reduceToNat, unV])
  · exact ⟨0, by simp [go_sem, val, uns]⟩
end Go.Proofs.Ytejkgnmjdaohdaa
/-
  Packed bytes unpacked by the program and by the reference, walked. No statement of the seat stands here.
-/
namespace Go.Proofs.Ytejkgnmjdaohdaa
open Go Go.An
set_option maxRecDepth 4000
set_option linter.unusedSimpArgs false
set_option linter.unusedVariables false

/-- What is there behind so many bytes taken again. -/
def repC (o : List UInt8) (d : Nat) : Nat → List UInt8
  | 0 => o
  | j + 1 => repC o d j ++ [byE.at (repC o d j) ((repC o d j).length - d)]
theorem repC_len (o : List UInt8) (d : Nat) : ∀ j, (repC o d j).length = o.length + j
  | 0 => rfl
  | j + 1 => by rw [repC, List.length_append, repC_len o d j]; simp; omega
/-- What packed bytes make, of a size that is told. -/
def upk (n : Int) : Nat → List UInt8 → List UInt8 → List UInt8 × Int
  | 0, _, _ => ([], 11)
  | _ + 1, [], out => if (out.length : Int) = n then (out, 0) else ([], 11)
  | f + 1, k :: r, out =>
    if k.toNat < 128 then (if r.length < k.toNat + 1 ∨ n < out.length + k.toNat + 1 then ([], 11) else upk n f (r.drop (k.toNat + 1)) (out ++ r.take (k.toNat + 1)))
    else if r.length < 2 then ([], 11) else
    if (byE.at r 0).toNat * 256 + (byE.at r 1).toNat < 1 ∨ out.length < (byE.at r 0).toNat * 256 + (byE.at r 1).toNat ∨ n < out.length + (k.toNat - 125) then ([], 11) else
    upk n f (r.drop 2) (repC out ((byE.at r 0).toNat * 256 + (byE.at r 1).toNat) (k.toNat - 125))
def unpF (l : List UInt8) : List UInt8 × Int := if 262144 < l.length then ([], 3) else if (uns l).2.2 ≠ 0 then ([], (uns l).2.2) else if 131072 < (uns l).1 then ([], 3) else upk (uns l).1 (l.length + 1) (l.drop (uns l).2.1.toNat) []
def upV (r : List UInt8 × Int) : V := .tup [slV true byE r.1, .int .i64 r.2]
def UpI (H : Hp) (n : Int) (res : List UInt8 × Int) (m : Nat) (T : Fr) (D : Dfr) (H' : Hp) : Prop := ∃ (r out : List UInt8) (f : Nat) (bb : Bool), m = r.length ∧ D = [] ∧ H' = H ++ [.tok out.length] ∧ get T 0 = slV bb byE r ∧ get T 4 = .int .i64 n ∧ get T 7 = osV H.length byE out ∧ res = upk n f r out ∧ r.length < f ∧ out.length ≤ 131072
set_option maxHeartbeats 4000000 in
theorem up_step {H H' : Hp} {n : Int} {res : List UInt8 × Int} {m : Nat} {T : Fr} {D : Dfr} {Q : Ex → Fr → Dfr → Hp → Prop} (h : UpI H n res m T D H') (hm : 0 < m) (hn : n ≤ 131072)
    (hQ : ∀ T out, res = ([], 11) → get T 2 = .nilslice → get T 3 = .int .i64 11 → Q .ret T [] (H ++ [.tok out])) :
    Wp Try.prog (callL Try.prog pr) 114 l19_29 T D H' (loopQ (fun T D H' => ∃ m' < m, UpI H n res m' T D H') Q) := by
  obtain ⟨r, out, f, bb, rfl, rfl, rfl, t0, t4, t7, hres, hf, hol⟩ := h
  cases r with
  | nil => simp at hm
  | cons k r =>
    cases f with
    | zero => simp at hf
    | succ f =>
      have hl0 : (0 : Int) < ((r.length + 1 : Nat) : Int) := by omega
      have lb := fun H => ldB (H := H) (l := k :: r) (i := 0) (by simp)
      have hk0 : byE.at (k :: r) 0 = k := rfl
      rw [hk0, Nat.zero_mul] at lb
      have hkt := k.toNat_lt
      have hlc : (k :: r).length = r.length + 1 := rfl
      have hcut1 : sliceV Try.prog 37 (H ++ [.tok out.length]) (slV bb byE (k :: r)) (some (.int .i64 1)) none = some (slV (bb && decide ((k :: r).length = 0)) byE r) := by
        rw [hi37, ct37 rfl (by simp; omega)]
        congr 2
        simp
      simp only [List.length_cons] at hf
      unfold upk at hres
      obtain ⟨kn, hkn⟩ : ∃ kn, k.toNat = kn := ⟨_, rfl⟩
      rw [hkn] at lb hres hkt
      by_cases hk : kn < 128
      · have hk' : (kn : Int) < 128 := by omega
        rw [if_pos hk] at hres
        by_cases hbad : r.length < kn + 1 ∨ n < out.length + kn + 1
        · rw [if_pos hbad] at hres
          have hb2 : ¬ (r.length : Int) < (kn : Int) + 1 → n < (out.length : Int) + (kn : Int) + 1 := by omega
          simp (disch := first | rfl | omega | exact lt_new _ | assumption | decide | (simp [tk_here, tk_app, tk_0, tk_S] <;> omega) | fail) only [l19_29, r19_10, r19_11, r19_12, r19_13, r19_14, r19_15, t0, t4, t7, hl0, lb, hcut1, Nat.zero_mul, hk', hb2, go_sem, ↓reduceIte, Nat.reduceLT, Nat.reduceEqDiff, Nat.reduceAdd, Nat.reduceMul, Nat.reduceSub, Int.reduceAdd, Int.reduceSub, Nat.reduceLeDiff, Int.reduceLT, Int.reduceLE, Int.reduceEq, Int.reduceNeg, Int.reduceToNat]
          repeat' ((first | refine guardB_dec (fun hy => ?_) (fun hy => ?_) | refine guardB_bool (fun hy => ?_) (fun hy => ?_) | refine guardQ_ite (fun hy => ?_) (fun hy => ?_) | refine brQ_dec (fun hy => ?_) (fun hy => ?_) | refine brQ_bool (fun hy => ?_) (fun hy => ?_)) <;> (try simp only [Bool.not_eq_true', Bool.not_eq_false', Bool.and_eq_true, Bool.or_eq_false_iff, decide_eq_true_eq, decide_eq_false_iff_not] at hy) <;> simp (disch := first | rfl | omega | exact lt_new _ | assumption | decide | (simp [tk_here, tk_app, tk_0, tk_S] <;> omega) | fail) only [l19_29, r19_10, r19_11, r19_12, r19_13, r19_14, r19_15, t0, t4, t7, hl0, lb, hcut1, Nat.zero_mul, hk', hb2, go_sem, ↓reduceIte, Nat.reduceLT, Nat.reduceEqDiff, Nat.reduceAdd, Nat.reduceMul, Nat.reduceSub, Int.reduceAdd, Int.reduceSub, Nat.reduceLeDiff, Int.reduceLT, Int.reduceLE, Int.reduceEq, Int.reduceNeg, Int.reduceToNat, hy])
          all_goals (refine hQ _ _ hres ?_ ?_ <;> simp (disch := first | rfl | omega | exact lt_new _ | assumption | decide | (simp [tk_here, tk_app, tk_0, tk_S] <;> omega) | fail) only [go_sem, ↓reduceIte, Nat.reduceLT, Nat.reduceEqDiff, Nat.reduceAdd, Nat.reduceMul, Nat.reduceSub, Int.reduceAdd, Int.reduceSub, Nat.reduceLeDiff, Int.reduceLT, Int.reduceLE, Int.reduceEq, Int.reduceNeg, Int.reduceToNat])
        · rw [if_neg hbad] at hres
          have hb1 : ¬ (r.length : Int) < (kn : Int) + 1 := by omega
          have hb2 : ¬ n < (out.length : Int) + (kn : Int) + 1 := by omega
          have hkr : kn + 1 ≤ r.length := by omega
          have hcut2 : ∀ (X : Hp) (b2 : Bool), sliceV Try.prog 37 X (slV b2 byE r) none (some (.int .i64 ((kn : Int) + 1))) = some (slV (b2 && decide (r.length = 0)) byE (r.take (kn + 1))) := fun X b2 => by
            rw [lo37, ct37 rfl (by omega)]
            congr 2
          have hcut3 : ∀ (X : Hp) (b2 : Bool), sliceV Try.prog 37 X (slV b2 byE r) (some (.int .i64 ((kn : Int) + 1))) none = some (slV (b2 && decide (r.length = 0)) byE (r.drop (kn + 1))) := fun X b2 => by
            rw [hi37, ct37 rfl (by omega)]
            congr 2
            rw [show ((kn : Int) + 1).toNat = kn + 1 by omega, List.take_of_length_le (by simp)]
          simp (disch := first | rfl | omega | exact lt_new _ | assumption | decide | (simp [tk_here, tk_app, tk_0, tk_S] <;> omega) | fail) only [l19_29, r19_10, r19_11, r19_12, r19_13, r19_14, r19_16, r19_17, t0, t4, t7, hl0, lb, hcut1, hcut2, hcut3, Nat.zero_mul, hk', hb1, hb2, List.append_assoc, List.length_append, List.length_cons, List.length_nil, List.set_cons_zero, List.set_cons_succ, tk_here, tk_app, gr_here, gr_app, st_here, st_app, go_sem, ↓reduceIte, Nat.reduceLT, Nat.reduceEqDiff, Nat.reduceAdd, Nat.reduceMul, Nat.reduceSub, Int.reduceAdd, Int.reduceSub, Nat.reduceLeDiff, Int.reduceLT, Int.reduceLE, Int.reduceEq, Int.reduceNeg, Int.reduceToNat]
          repeat' ((first | refine guardB_dec (fun hy => ?_) (fun hy => ?_) | refine guardB_bool (fun hy => ?_) (fun hy => ?_) | refine guardQ_ite (fun hy => ?_) (fun hy => ?_) | refine brQ_dec (fun hy => ?_) (fun hy => ?_) | refine brQ_bool (fun hy => ?_) (fun hy => ?_)) <;> (try simp only [Bool.not_eq_true', Bool.not_eq_false', Bool.and_eq_true, Bool.or_eq_false_iff, decide_eq_true_eq, decide_eq_false_iff_not] at hy) <;> simp (disch := first | rfl | omega | exact lt_new _ | assumption | decide | (simp [tk_here, tk_app, tk_0, tk_S] <;> omega) | fail) only [l19_29, r19_10, r19_11, r19_12, r19_13, r19_14, r19_16, r19_17, t0, t4, t7, hl0, lb, hcut1, hcut2, hcut3, Nat.zero_mul, hk', hb1, hb2, List.append_assoc, List.length_append, List.length_cons, List.length_nil, List.set_cons_zero, List.set_cons_succ, tk_here, tk_app, gr_here, gr_app, st_here, st_app, go_sem, ↓reduceIte, Nat.reduceLT, Nat.reduceEqDiff, Nat.reduceAdd, Nat.reduceMul, Nat.reduceSub, Int.reduceAdd, Int.reduceSub, Nat.reduceLeDiff, Int.reduceLT, Int.reduceLE, Int.reduceEq, Int.reduceNeg, Int.reduceToNat, hy])
          have hlen2 : (out ++ r.take (kn + 1)).length ≤ 131072 := by rw [List.length_append, List.length_take]; omega
          refine ⟨(r.drop (kn + 1)).length, by rw [List.length_drop]; omega, r.drop (kn + 1), out ++ r.take (kn + 1), f, (bb && decide ((k :: r).length = 0) && decide (r.length = 0)), rfl, rfl, ?_, ?_, ?_, ?_, hres, by rw [List.length_drop]; omega, hlen2⟩
          all_goals simp (disch := first | rfl | omega | exact lt_new _ | assumption | decide | (simp [tk_here, tk_app, tk_0, tk_S] <;> omega) | fail) only [go_sem, ↓reduceIte, Nat.reduceLT, Nat.reduceEqDiff, Nat.reduceAdd, Nat.reduceMul, Nat.reduceSub, Int.reduceAdd, Int.reduceSub, Nat.reduceLeDiff, Int.reduceLT, Int.reduceLE, Int.reduceEq, Int.reduceNeg, Int.reduceToNat, t4, List.length_append]
      · have hk' : ¬ (kn : Int) < 128 := by omega
        rw [if_neg hk] at hres
        by_cases hb1 : r.length < 2
        · rw [if_pos hb1] at hres
          have hb1' : (r.length : Int) < 2 := by omega
          simp (disch := first | rfl | omega | exact lt_new _ | assumption | decide | (simp [tk_here, tk_app, tk_0, tk_S] <;> omega) | fail) only [l19_29, r19_10, r19_11, r19_12, r19_13, r19_18, r19_19, t0, t4, t7, hl0, lb, hcut1, Nat.zero_mul, hk', hb1', go_sem, ↓reduceIte, Nat.reduceLT, Nat.reduceEqDiff, Nat.reduceAdd, Nat.reduceMul, Nat.reduceSub, Int.reduceAdd, Int.reduceSub, Nat.reduceLeDiff, Int.reduceLT, Int.reduceLE, Int.reduceEq, Int.reduceNeg, Int.reduceToNat]
          repeat' ((first | refine guardB_dec (fun hy => ?_) (fun hy => ?_) | refine guardB_bool (fun hy => ?_) (fun hy => ?_) | refine guardQ_ite (fun hy => ?_) (fun hy => ?_) | refine brQ_dec (fun hy => ?_) (fun hy => ?_) | refine brQ_bool (fun hy => ?_) (fun hy => ?_)) <;> (try simp only [Bool.not_eq_true', Bool.not_eq_false', Bool.and_eq_true, Bool.or_eq_false_iff, decide_eq_true_eq, decide_eq_false_iff_not] at hy) <;> simp (disch := first | rfl | omega | exact lt_new _ | assumption | decide | (simp [tk_here, tk_app, tk_0, tk_S] <;> omega) | fail) only [l19_29, r19_10, r19_11, r19_12, r19_13, r19_18, r19_19, t0, t4, t7, hl0, lb, hcut1, Nat.zero_mul, hk', hb1', go_sem, ↓reduceIte, Nat.reduceLT, Nat.reduceEqDiff, Nat.reduceAdd, Nat.reduceMul, Nat.reduceSub, Int.reduceAdd, Int.reduceSub, Nat.reduceLeDiff, Int.reduceLT, Int.reduceLE, Int.reduceEq, Int.reduceNeg, Int.reduceToNat, hy])
          all_goals (refine hQ _ _ hres ?_ ?_ <;> simp (disch := first | rfl | omega | exact lt_new _ | assumption | decide | (simp [tk_here, tk_app, tk_0, tk_S] <;> omega) | fail) only [go_sem, ↓reduceIte, Nat.reduceLT, Nat.reduceEqDiff, Nat.reduceAdd, Nat.reduceMul, Nat.reduceSub, Int.reduceAdd, Int.reduceSub, Nat.reduceLeDiff, Int.reduceLT, Int.reduceLE, Int.reduceEq, Int.reduceNeg, Int.reduceToNat])
        · rw [if_neg hb1] at hres
          have hb1' : ¬ (r.length : Int) < 2 := by omega
          have la := fun H => ldB (H := H) (l := r) (i := 0) (by omega)
          have lc := fun H => ldB (H := H) (l := r) (i := 1) (by omega)
          rw [Nat.zero_mul] at la
          obtain ⟨x, hx⟩ : ∃ x, (byE.at r 0).toNat = x := ⟨_, rfl⟩
          obtain ⟨y, hy0⟩ : ∃ y, (byE.at r 1).toNat = y := ⟨_, rfl⟩
          have hxl := (byE.at r 0).toNat_lt
          have hyl := (byE.at r 1).toNat_lt
          rw [hx] at la hres hxl
          rw [hy0] at lc hres hyl
          have hcut2 : ∀ (X : Hp) (b2 : Bool), sliceV Try.prog 37 X (slV b2 byE r) (some (.int .i64 2)) none = some (slV (b2 && decide (r.length = 0)) byE (r.drop 2)) := fun X b2 => by
            rw [hi37, ct37 rfl (by omega)]
            congr 2
            rw [show (2 : Int).toNat = 2 by rfl, List.take_of_length_le (by simp)]
          have hsh : binV Try.prog .shl 3 (.int .i64 (x : Int)) (.int .u64 8) = some (.int .i64 ((x * 2 ^ 8 : Nat) : Int)) := by
            have : (x : Int) * 256 = ((x * 256 : Nat) : Int) := by simp
            simp [binV, shiftV, IntKind.bits]
            rw [this, IntWalk.i64_in _ (by omega)]
          have hor : bitsV .or .i64 ((x * 2 ^ 8 : Nat) : Int) (y : Int) = some ((x * 256 + y : Nat) : Int) := by
            have := or_add (n := y) (x := x) (s := 8) (by omega) (by omega)
            rw [show y + x * 2 ^ 8 = x * 256 + y by omega] at this
            rw [← this]
            simp only [bitsV]
            rw [BitVec.or_comm]
          obtain ⟨d, hd⟩ : ∃ d, x * 256 + y = d := ⟨_, rfl⟩
          rw [hd] at hor hres
          by_cases hbad : d < 1 ∨ out.length < d ∨ n < out.length + (kn - 125)
          · rw [if_pos hbad] at hres
            have hb2 : ¬ (d : Int) < 1 → ¬ (out.length : Int) < d → n < (out.length : Int) + (kn : Int) - 125 := by omega
            simp (disch := first | rfl | omega | exact lt_new _ | assumption | decide | (simp [tk_here, tk_app, tk_0, tk_S] <;> omega) | fail) only [l19_29, r19_10, r19_11, r19_12, r19_13, r19_18, r19_20, r19_21, r19_22, r19_23, t0, t4, t7, hl0, lb, la, lc, hcut1, hcut2, Nat.zero_mul, Nat.one_mul, hk', hb1', hsh, hor, b_or, hb2, go_sem, ↓reduceIte, Nat.reduceLT, Nat.reduceEqDiff, Nat.reduceAdd, Nat.reduceMul, Nat.reduceSub, Int.reduceAdd, Int.reduceSub, Nat.reduceLeDiff, Int.reduceLT, Int.reduceLE, Int.reduceEq, Int.reduceNeg, Int.reduceToNat]
            repeat' ((first | refine guardB_dec (fun hy => ?_) (fun hy => ?_) | refine guardB_bool (fun hy => ?_) (fun hy => ?_) | refine guardQ_ite (fun hy => ?_) (fun hy => ?_) | refine brQ_dec (fun hy => ?_) (fun hy => ?_) | refine brQ_bool (fun hy => ?_) (fun hy => ?_)) <;> (try simp only [Bool.not_eq_true', Bool.not_eq_false', Bool.and_eq_true, Bool.or_eq_false_iff, decide_eq_true_eq, decide_eq_false_iff_not] at hy) <;> simp (disch := first | rfl | omega | exact lt_new _ | assumption | decide | (simp [tk_here, tk_app, tk_0, tk_S] <;> omega) | fail) only [l19_29, r19_10, r19_11, r19_12, r19_13, r19_18, r19_20, r19_21, r19_22, r19_23, t0, t4, t7, hl0, lb, la, lc, hcut1, hcut2, Nat.zero_mul, Nat.one_mul, hk', hb1', hsh, hor, b_or, hb2, go_sem, ↓reduceIte, Nat.reduceLT, Nat.reduceEqDiff, Nat.reduceAdd, Nat.reduceMul, Nat.reduceSub, Int.reduceAdd, Int.reduceSub, Nat.reduceLeDiff, Int.reduceLT, Int.reduceLE, Int.reduceEq, Int.reduceNeg, Int.reduceToNat, hy])
            all_goals (refine hQ _ _ hres ?_ ?_ <;> simp (disch := first | rfl | omega | exact lt_new _ | assumption | decide | (simp [tk_here, tk_app, tk_0, tk_S] <;> omega) | fail) only [go_sem, ↓reduceIte, Nat.reduceLT, Nat.reduceEqDiff, Nat.reduceAdd, Nat.reduceMul, Nat.reduceSub, Int.reduceAdd, Int.reduceSub, Nat.reduceLeDiff, Int.reduceLT, Int.reduceLE, Int.reduceEq, Int.reduceNeg, Int.reduceToNat])
          · rw [if_neg hbad] at hres
            have hb2 : ¬ (d : Int) < 1 := by omega
            have hb3 : ¬ (out.length : Int) < d := by omega
            have hb4 : ¬ n < (out.length : Int) + (kn : Int) - 125 := by omega
            obtain ⟨cnt, hcnt⟩ : ∃ cnt, kn - 125 = cnt := ⟨_, rfl⟩
            have hcnt' : (kn : Int) - 125 = cnt := by omega
            rw [hcnt] at hres
            simp (disch := first | rfl | omega | exact lt_new _ | assumption | decide | (simp [tk_here, tk_app, tk_0, tk_S] <;> omega) | fail) only [l19_29, r19_10, r19_11, r19_12, r19_13, r19_18, r19_20, r19_21, r19_22, r19_24, t0, t4, t7, hl0, lb, la, lc, hcut1, hcut2, Nat.zero_mul, Nat.one_mul, hk', hb1', hsh, hor, b_or, hb2, hb3, hb4, hcnt', go_sem, ↓reduceIte, Nat.reduceLT, Nat.reduceEqDiff, Nat.reduceAdd, Nat.reduceMul, Nat.reduceSub, Int.reduceAdd, Int.reduceSub, Nat.reduceLeDiff, Int.reduceLT, Int.reduceLE, Int.reduceEq, Int.reduceNeg, Int.reduceToNat]
            repeat' ((first | refine guardB_dec (fun hy => ?_) (fun hy => ?_) | refine guardB_bool (fun hy => ?_) (fun hy => ?_) | refine guardQ_ite (fun hy => ?_) (fun hy => ?_) | refine brQ_dec (fun hy => ?_) (fun hy => ?_) | refine brQ_bool (fun hy => ?_) (fun hy => ?_)) <;> (try simp only [Bool.not_eq_true', Bool.not_eq_false', Bool.and_eq_true, Bool.or_eq_false_iff, decide_eq_true_eq, decide_eq_false_iff_not] at hy) <;> simp (disch := first | rfl | omega | exact lt_new _ | assumption | decide | (simp [tk_here, tk_app, tk_0, tk_S] <;> omega) | fail) only [l19_29, r19_10, r19_11, r19_12, r19_13, r19_18, r19_20, r19_21, r19_22, r19_24, t0, t4, t7, hl0, lb, la, lc, hcut1, hcut2, Nat.zero_mul, Nat.one_mul, hk', hb1', hsh, hor, b_or, hb2, hb3, hb4, hcnt', go_sem, ↓reduceIte, Nat.reduceLT, Nat.reduceEqDiff, Nat.reduceAdd, Nat.reduceMul, Nat.reduceSub, Int.reduceAdd, Int.reduceSub, Nat.reduceLeDiff, Int.reduceLT, Int.reduceLE, Int.reduceEq, Int.reduceNeg, Int.reduceToNat, hy])
            refine Wp_loop (fun m T D H' => ∃ j, m = cnt - j ∧ j ≤ cnt ∧ D = [] ∧ H' = H ++ [.tok (out.length + j)] ∧ get T 0 = slV (bb && decide ((k :: r).length = 0) && decide (r.length = 0)) byE (r.drop 2) ∧ get T 4 = .int .i64 n ∧ get T 7 = osV H.length byE (repC out d j) ∧ get T 9 = .int .i64 d ∧ get T 96 = .int .i64 j ∧ get T 95 = .int .i64 cnt) ?_ cnt _ _ _ ?_
            · rintro m T D H' ⟨j, rfl, hj, rfl, rfl, s0, s4, s7, s9, s96, s95⟩
              have hrl := repC_len out d j
              by_cases hlt : j < cnt
              · have hj' : (j : Int) < cnt := by omega
                obtain ⟨q, hq⟩ : ∃ q, (repC out d j).length - d = q := ⟨_, rfl⟩
                have hqe : ((repC out d j).length : Int) - d = (q : Int) := by omega
                have hql : q < (repC out d j).length := by omega
                have lq := fun H => ldB (H := H) hql
                have htk : tokAt (H ++ [AB.tok (out.length + j)]) H.length = some (repC out d j).length := by rw [hrl]; simp [tk_here, tk_0]
                simp (disch := first | rfl | omega | exact lt_new _ | assumption | decide | (simp [tk_here, tk_app, tk_0, tk_S] <;> omega) | fail) only [l19_28, r19_25, r19_26, r19_27, s0, s4, s7, s9, s96, s95, hj', hqe, lq, htk, List.append_assoc, List.length_append, List.length_cons, List.length_nil, List.set_cons_zero, List.set_cons_succ, tk_here, tk_app, gr_here, gr_app, st_here, st_app, go_sem, ↓reduceIte, Nat.reduceLT, Nat.reduceEqDiff, Nat.reduceAdd, Nat.reduceMul, Nat.reduceSub, Int.reduceAdd, Int.reduceSub, Nat.reduceLeDiff, Int.reduceLT, Int.reduceLE, Int.reduceEq, Int.reduceNeg, Int.reduceToNat]
                repeat' ((first | refine guardB_dec (fun hy => ?_) (fun hy => ?_) | refine guardB_bool (fun hy => ?_) (fun hy => ?_) | refine guardQ_ite (fun hy => ?_) (fun hy => ?_) | refine brQ_dec (fun hy => ?_) (fun hy => ?_) | refine brQ_bool (fun hy => ?_) (fun hy => ?_)) <;> (try simp only [Bool.not_eq_true', Bool.not_eq_false', Bool.and_eq_true, Bool.or_eq_false_iff, decide_eq_true_eq, decide_eq_false_iff_not] at hy) <;> simp (disch := first | rfl | omega | exact lt_new _ | assumption | decide | (simp [tk_here, tk_app, tk_0, tk_S] <;> omega) | fail) only [l19_28, r19_25, r19_26, r19_27, s0, s4, s7, s9, s96, s95, hj', hqe, lq, htk, List.append_assoc, List.length_append, List.length_cons, List.length_nil, List.set_cons_zero, List.set_cons_succ, tk_here, tk_app, gr_here, gr_app, st_here, st_app, go_sem, ↓reduceIte, Nat.reduceLT, Nat.reduceEqDiff, Nat.reduceAdd, Nat.reduceMul, Nat.reduceSub, Int.reduceAdd, Int.reduceSub, Nat.reduceLeDiff, Int.reduceLT, Int.reduceLE, Int.reduceEq, Int.reduceNeg, Int.reduceToNat, hy])
                exact ⟨_, by omega, j + 1, rfl, hlt, by rw [hrl]; rfl, by rw [repC, hq], rfl⟩
              · obtain rfl : j = cnt := by omega
                simp (disch := first | rfl | omega | exact lt_new _ | assumption | decide | (simp [tk_here, tk_app, tk_0, tk_S] <;> omega) | fail) only [l19_28, r19_25, s0, s4, s7, s9, s96, s95, Int.lt_irrefl, go_sem, ↓reduceIte, Nat.reduceLT, Nat.reduceEqDiff, Nat.reduceAdd, Nat.reduceMul, Nat.reduceSub, Int.reduceAdd, Int.reduceSub, Nat.reduceLeDiff, Int.reduceLT, Int.reduceLE, Int.reduceEq, Int.reduceNeg, Int.reduceToNat]
                repeat' ((first | refine guardB_dec (fun hy => ?_) (fun hy => ?_) | refine guardB_bool (fun hy => ?_) (fun hy => ?_) | refine guardQ_ite (fun hy => ?_) (fun hy => ?_) | refine brQ_dec (fun hy => ?_) (fun hy => ?_) | refine brQ_bool (fun hy => ?_) (fun hy => ?_)) <;> (try simp only [Bool.not_eq_true', Bool.not_eq_false', Bool.and_eq_true, Bool.or_eq_false_iff, decide_eq_true_eq, decide_eq_false_iff_not] at hy) <;> simp (disch := first | rfl | omega | exact lt_new _ | assumption | decide | (simp [tk_here, tk_app, tk_0, tk_S] <;> omega) | fail) only [l19_28, r19_25, s0, s4, s7, s9, s96, s95, Int.lt_irrefl, go_sem, ↓reduceIte, Nat.reduceLT, Nat.reduceEqDiff, Nat.reduceAdd, Nat.reduceMul, Nat.reduceSub, Int.reduceAdd, Int.reduceSub, Nat.reduceLeDiff, Int.reduceLT, Int.reduceLE, Int.reduceEq, Int.reduceNeg, Int.reduceToNat, hy])
                refine ⟨(r.drop 2).length, by simp; omega, r.drop 2, repC out d j, f, (bb && decide ((k :: r).length = 0) && decide (r.length = 0)), rfl, rfl, by rw [hrl], ?_, ?_, ?_, hres, by simp; omega, by rw [hrl]; omega⟩
                all_goals simp (disch := first | rfl | omega | exact lt_new _ | assumption | decide | (simp [tk_here, tk_app, tk_0, tk_S] <;> omega) | fail) only [go_sem, ↓reduceIte, Nat.reduceLT, Nat.reduceEqDiff, Nat.reduceAdd, Nat.reduceMul, Nat.reduceSub, Int.reduceAdd, Int.reduceSub, Nat.reduceLeDiff, Int.reduceLT, Int.reduceLE, Int.reduceEq, Int.reduceNeg, Int.reduceToNat, s0, s4, s7]
            · exact ⟨0, by simp [go_sem, t4, t7, repC]⟩
end Go.Proofs.Ytejkgnmjdaohdaa
/-
  Both answers about packed bytes. No statement of the seat stands here.
-/
namespace Go.Proofs.Ytejkgnmjdaohdaa
open Go Go.An
set_option maxRecDepth 4000
set_option linter.unusedSimpArgs false
set_option linter.unusedVariables false

theorem unsG_ok (l : List UInt8) : ∀ f i, (unsG l f i).2.2 = 0 → 0 ≤ (unsG l f i).2.1 ∧ (unsG l f i).2.1 ≤ l.length ∧ 0 ≤ (unsG l f i).1
  | 0, _, h => by simp [unsG] at h
  | f + 1, i, h => by
    unfold unsG at h ⊢
    split
    · split
      · rename_i h1 h2
        rw [if_pos h1, if_pos h2] at h
        exact unsG_ok l f (i + 1) h
      · split
        · rename_i h1 h2 h3
          rw [if_pos h1, if_neg h2, if_pos h3] at h
          simp at h
        · exact ⟨by simp only; omega, by simp only; omega, by simp only; omega⟩
    · rename_i h1
      rw [if_neg h1] at h
      simp at h
theorem uns_ok {l : List UInt8} {n k : Int} (h : uns l = (n, k, 0)) : ∃ j : Nat, k = j ∧ j ≤ l.length ∧ 0 ≤ n := by
  have := unsG_ok l 7 0 (by show (uns l).2.2 = 0; rw [h])
  have e : unsG l 7 0 = (n, k, 0) := h
  rw [e] at this
  simp only at this
  exact ⟨k.toNat, by omega, by omega, by omega⟩
set_option maxHeartbeats 4000000 in
theorem fn19 {b : Bool} {l : List UInt8} (hlen : l.length ≤ 2 ^ 40) (H : Hp) : callL Try.prog pr 19 [slV b byE l] H = some (upV (unpF l), H) := by
  obtain ⟨n, k, e, hu⟩ : ∃ n k e, uns l = (n, k, e) := ⟨_, _, _, rfl⟩
  have h66 := fun H => fn66 (b := b) hlen H
  rw [hu] at h66
  refine run19 (Nat.le_of_ble_eq_true rfl) ?_
  by_cases h1 : 262144 < l.length
  · have h1' : (262144 : Int) < l.length := by omega
    unfold unpF upV
    rw [if_pos h1]
    simp (disch := first | rfl | omega | exact lt_new _ | assumption | decide | (simp [tk_here, tk_app, tk_0, tk_S] <;> omega) | fail) only [r19_0, r19_1, r19_2, r19_3, r19_4, r19_5, r19_6, r19_7, r19_8, r19_9, r19_10, r19_11, r19_12, r19_13, r19_14, r19_15, r19_16, r19_17, r19_18, r19_19, r19_20, r19_21, r19_22, r19_23, r19_24, r19_25, r19_26, r19_27, r19_30, r19_31, r19_32, c19, rs19, gc19, h1', slV_nil, go_sem, ↓reduceIte, Nat.reduceLT, Nat.reduceEqDiff, Nat.reduceAdd, Nat.reduceMul, Nat.reduceSub, Int.reduceAdd, Int.reduceSub, Nat.reduceLeDiff, Int.reduceLT, Int.reduceLE, Int.reduceEq, Int.reduceNeg, Int.reduceToNat]
    repeat' ((first | refine guardB_dec (fun hy => ?_) (fun hy => ?_) | refine guardB_bool (fun hy => ?_) (fun hy => ?_) | refine guardQ_ite (fun hy => ?_) (fun hy => ?_) | refine brQ_dec (fun hy => ?_) (fun hy => ?_) | refine brQ_bool (fun hy => ?_) (fun hy => ?_)) <;> (try simp only [Bool.not_eq_true', Bool.not_eq_false', Bool.and_eq_true, Bool.or_eq_false_iff, decide_eq_true_eq, decide_eq_false_iff_not] at hy) <;> simp (disch := first | rfl | omega | exact lt_new _ | assumption | decide | (simp [tk_here, tk_app, tk_0, tk_S] <;> omega) | fail) only [r19_0, r19_1, r19_2, r19_3, r19_4, r19_5, r19_6, r19_7, r19_8, r19_9, r19_10, r19_11, r19_12, r19_13, r19_14, r19_15, r19_16, r19_17, r19_18, r19_19, r19_20, r19_21, r19_22, r19_23, r19_24, r19_25, r19_26, r19_27, r19_30, r19_31, r19_32, c19, rs19, gc19, h1', slV_nil, go_sem, ↓reduceIte, Nat.reduceLT, Nat.reduceEqDiff, Nat.reduceAdd, Nat.reduceMul, Nat.reduceSub, Int.reduceAdd, Int.reduceSub, Nat.reduceLeDiff, Int.reduceLT, Int.reduceLE, Int.reduceEq, Int.reduceNeg, Int.reduceToNat, hy])
    all_goals (try ((first | refine finQ_same ?_ | refine finQ_app ?_ | (rw [List.append_assoc]; refine finQ_app ?_)) <;> simp (disch := first | rfl | omega | exact lt_new _ | assumption | decide | (simp [tk_here, tk_app, tk_0, tk_S] <;> omega) | fail) only [go_sem, ↓reduceIte, Nat.reduceLT, Nat.reduceEqDiff, Nat.reduceAdd, Nat.reduceMul, Nat.reduceSub, Int.reduceAdd, Int.reduceSub, Nat.reduceLeDiff, Int.reduceLT, Int.reduceLE, Int.reduceEq, Int.reduceNeg, Int.reduceToNat, List.append_assoc, List.cons_append, List.nil_append, *]))
    all_goals (try first | rfl | (simp [*]; done) | grind)
  · have h1' : ¬ (262144 : Int) < l.length := by omega
    by_cases h2 : e = 0
    · subst h2
      obtain ⟨j, rfl, hj, hn0⟩ := uns_ok hu
      by_cases h3 : 131072 < n
      · have hF : unpF l = ([], 3) := by unfold unpF; rw [if_neg h1, hu]; simp [h3]
        rw [hF]
        unfold upV
        simp (disch := first | rfl | omega | exact lt_new _ | assumption | decide | (simp [tk_here, tk_app, tk_0, tk_S] <;> omega) | fail) only [r19_0, r19_1, r19_2, r19_3, r19_4, r19_5, r19_6, r19_7, r19_8, r19_9, r19_10, r19_11, r19_12, r19_13, r19_14, r19_15, r19_16, r19_17, r19_18, r19_19, r19_20, r19_21, r19_22, r19_23, r19_24, r19_25, r19_26, r19_27, r19_30, r19_31, r19_32, c19, rs19, gc19, h1', h66, unV, h3, slV_nil, go_sem, ↓reduceIte, Nat.reduceLT, Nat.reduceEqDiff, Nat.reduceAdd, Nat.reduceMul, Nat.reduceSub, Int.reduceAdd, Int.reduceSub, Nat.reduceLeDiff, Int.reduceLT, Int.reduceLE, Int.reduceEq, Int.reduceNeg, Int.reduceToNat]
        repeat' ((first | refine guardB_dec (fun hy => ?_) (fun hy => ?_) | refine guardB_bool (fun hy => ?_) (fun hy => ?_) | refine guardQ_ite (fun hy => ?_) (fun hy => ?_) | refine brQ_dec (fun hy => ?_) (fun hy => ?_) | refine brQ_bool (fun hy => ?_) (fun hy => ?_)) <;> (try simp only [Bool.not_eq_true', Bool.not_eq_false', Bool.and_eq_true, Bool.or_eq_false_iff, decide_eq_true_eq, decide_eq_false_iff_not] at hy) <;> simp (disch := first | rfl | omega | exact lt_new _ | assumption | decide | (simp [tk_here, tk_app, tk_0, tk_S] <;> omega) | fail) only [r19_0, r19_1, r19_2, r19_3, r19_4, r19_5, r19_6, r19_7, r19_8, r19_9, r19_10, r19_11, r19_12, r19_13, r19_14, r19_15, r19_16, r19_17, r19_18, r19_19, r19_20, r19_21, r19_22, r19_23, r19_24, r19_25, r19_26, r19_27, r19_30, r19_31, r19_32, c19, rs19, gc19, h1', h66, unV, h3, slV_nil, go_sem, ↓reduceIte, Nat.reduceLT, Nat.reduceEqDiff, Nat.reduceAdd, Nat.reduceMul, Nat.reduceSub, Int.reduceAdd, Int.reduceSub, Nat.reduceLeDiff, Int.reduceLT, Int.reduceLE, Int.reduceEq, Int.reduceNeg, Int.reduceToNat, hy])
        all_goals (try ((first | refine finQ_same ?_ | refine finQ_app ?_ | (rw [List.append_assoc]; refine finQ_app ?_)) <;> simp (disch := first | rfl | omega | exact lt_new _ | assumption | decide | (simp [tk_here, tk_app, tk_0, tk_S] <;> omega) | fail) only [go_sem, ↓reduceIte, Nat.reduceLT, Nat.reduceEqDiff, Nat.reduceAdd, Nat.reduceMul, Nat.reduceSub, Int.reduceAdd, Int.reduceSub, Nat.reduceLeDiff, Int.reduceLT, Int.reduceLE, Int.reduceEq, Int.reduceNeg, Int.reduceToNat, List.append_assoc, List.cons_append, List.nil_append, *]))
        all_goals (try first | rfl | (simp [*]; done) | grind)
      · have hF : unpF l = upk n (l.length + 1) (l.drop j) [] := by unfold unpF; rw [if_neg h1, hu]; simp [h3]
        rw [hF]
        obtain ⟨res, hG⟩ : ∃ res, upk n (l.length + 1) (l.drop j) [] = res := ⟨_, rfl⟩
        rw [hG]
        have hcut : ∀ X : Hp, sliceV Try.prog 37 X (slV b byE l) (some (.int .i64 (j : Int))) none = some (slV (b && decide (l.length = 0)) byE (l.drop j)) := fun X => by
          rw [hi37, ct37 rfl (by omega)]
          congr 2
          rw [show (j : Int).toNat = j by rfl, List.take_of_length_le (by simp)]
        simp (disch := first | rfl | omega | exact lt_new _ | assumption | decide | (simp [tk_here, tk_app, tk_0, tk_S] <;> omega) | fail) only [r19_0, r19_1, r19_2, r19_3, r19_4, r19_5, r19_6, r19_7, r19_8, r19_9, r19_10, r19_11, r19_12, r19_13, r19_14, r19_15, r19_16, r19_17, r19_18, r19_19, r19_20, r19_21, r19_22, r19_23, r19_24, r19_25, r19_26, r19_27, r19_30, r19_31, r19_32, c19, rs19, gc19, h1', h66, unV, h3, hcut, go_sem, ↓reduceIte, Nat.reduceLT, Nat.reduceEqDiff, Nat.reduceAdd, Nat.reduceMul, Nat.reduceSub, Int.reduceAdd, Int.reduceSub, Nat.reduceLeDiff, Int.reduceLT, Int.reduceLE, Int.reduceEq, Int.reduceNeg, Int.reduceToNat]
        repeat' ((first | refine guardB_dec (fun hy => ?_) (fun hy => ?_) | refine guardB_bool (fun hy => ?_) (fun hy => ?_) | refine guardQ_ite (fun hy => ?_) (fun hy => ?_) | refine brQ_dec (fun hy => ?_) (fun hy => ?_) | refine brQ_bool (fun hy => ?_) (fun hy => ?_)) <;> (try simp only [Bool.not_eq_true', Bool.not_eq_false', Bool.and_eq_true, Bool.or_eq_false_iff, decide_eq_true_eq, decide_eq_false_iff_not] at hy) <;> simp (disch := first | rfl | omega | exact lt_new _ | assumption | decide | (simp [tk_here, tk_app, tk_0, tk_S] <;> omega) | fail) only [r19_0, r19_1, r19_2, r19_3, r19_4, r19_5, r19_6, r19_7, r19_8, r19_9, r19_10, r19_11, r19_12, r19_13, r19_14, r19_15, r19_16, r19_17, r19_18, r19_19, r19_20, r19_21, r19_22, r19_23, r19_24, r19_25, r19_26, r19_27, r19_30, r19_31, r19_32, c19, rs19, gc19, h1', h66, unV, h3, hcut, go_sem, ↓reduceIte, Nat.reduceLT, Nat.reduceEqDiff, Nat.reduceAdd, Nat.reduceMul, Nat.reduceSub, Int.reduceAdd, Int.reduceSub, Nat.reduceLeDiff, Int.reduceLT, Int.reduceLE, Int.reduceEq, Int.reduceNeg, Int.reduceToNat, hy])
        refine Wp_loop (UpI H n res) ?_ (l.drop j).length _ _ _ ?_
        · intro m T D H' hI
          by_cases hm : 0 < m
          · refine up_step hI hm (by omega) fun T out hr q2 q3 => ?_
            simp (disch := first | rfl | omega | exact lt_new _ | assumption | decide | (simp [tk_here, tk_app, tk_0, tk_S] <;> omega) | fail) only [go_sem, ↓reduceIte, Nat.reduceLT, Nat.reduceEqDiff, Nat.reduceAdd, Nat.reduceMul, Nat.reduceSub, Int.reduceAdd, Int.reduceSub, Nat.reduceLeDiff, Int.reduceLT, Int.reduceLE, Int.reduceEq, Int.reduceNeg, Int.reduceToNat, rs19, gc19, q2, q3]
            refine finQ_app ?_
            simp (disch := first | rfl | omega | exact lt_new _ | assumption | decide | (simp [tk_here, tk_app, tk_0, tk_S] <;> omega) | fail) only [go_sem, ↓reduceIte, Nat.reduceLT, Nat.reduceEqDiff, Nat.reduceAdd, Nat.reduceMul, Nat.reduceSub, Int.reduceAdd, Int.reduceSub, Nat.reduceLeDiff, Int.reduceLT, Int.reduceLE, Int.reduceEq, Int.reduceNeg, Int.reduceToNat, hr, upV, slV_nil]
          · obtain ⟨r, out, f, bb, rfl, rfl, rfl, t0, t4, t7, hres, hf, hol⟩ := hI
            obtain rfl : r = [] := List.eq_nil_of_length_eq_zero (by omega)
            obtain ⟨f, rfl⟩ : ∃ g, f = g + 1 := ⟨f - 1, by simp at hf; omega⟩
            unfold upk at hres
            by_cases hol2 : (out.length : Int) = n
            · rw [if_pos hol2] at hres
              subst hol2
              rw [hres]
              simp (disch := first | rfl | omega | exact lt_new _ | assumption | decide | (simp [tk_here, tk_app, tk_0, tk_S] <;> omega) | fail) only [l19_29, r19_10, r19_30, r19_32, rs19, gc19, t0, t4, t7, List.length_nil, Int.lt_irrefl, go_sem, ↓reduceIte, Nat.reduceLT, Nat.reduceEqDiff, Nat.reduceAdd, Nat.reduceMul, Nat.reduceSub, Int.reduceAdd, Int.reduceSub, Nat.reduceLeDiff, Int.reduceLT, Int.reduceLE, Int.reduceEq, Int.reduceNeg, Int.reduceToNat]
              repeat' ((first | refine guardB_dec (fun hy => ?_) (fun hy => ?_) | refine guardB_bool (fun hy => ?_) (fun hy => ?_) | refine guardQ_ite (fun hy => ?_) (fun hy => ?_) | refine brQ_dec (fun hy => ?_) (fun hy => ?_) | refine brQ_bool (fun hy => ?_) (fun hy => ?_)) <;> (try simp only [Bool.not_eq_true', Bool.not_eq_false', Bool.and_eq_true, Bool.or_eq_false_iff, decide_eq_true_eq, decide_eq_false_iff_not] at hy) <;> simp (disch := first | rfl | omega | exact lt_new _ | assumption | decide | (simp [tk_here, tk_app, tk_0, tk_S] <;> omega) | fail) only [l19_29, r19_10, r19_30, r19_32, rs19, gc19, t0, t4, t7, List.length_nil, Int.lt_irrefl, go_sem, ↓reduceIte, Nat.reduceLT, Nat.reduceEqDiff, Nat.reduceAdd, Nat.reduceMul, Nat.reduceSub, Int.reduceAdd, Int.reduceSub, Nat.reduceLeDiff, Int.reduceLT, Int.reduceLE, Int.reduceEq, Int.reduceNeg, Int.reduceToNat, hy])
              refine finQ_app ?_
              simp (disch := first | rfl | omega | exact lt_new _ | assumption | decide | (simp [tk_here, tk_app, tk_0, tk_S] <;> omega) | fail) only [go_sem, ↓reduceIte, Nat.reduceLT, Nat.reduceEqDiff, Nat.reduceAdd, Nat.reduceMul, Nat.reduceSub, Int.reduceAdd, Int.reduceSub, Nat.reduceLeDiff, Int.reduceLT, Int.reduceLE, Int.reduceEq, Int.reduceNeg, Int.reduceToNat, upV]
            · rw [if_neg hol2] at hres
              rw [hres]
              simp (disch := first | rfl | omega | exact lt_new _ | assumption | decide | (simp [tk_here, tk_app, tk_0, tk_S] <;> omega) | fail) only [l19_29, r19_10, r19_30, r19_31, rs19, gc19, t0, t4, t7, List.length_nil, Int.lt_irrefl, hol2, go_sem, ↓reduceIte, Nat.reduceLT, Nat.reduceEqDiff, Nat.reduceAdd, Nat.reduceMul, Nat.reduceSub, Int.reduceAdd, Int.reduceSub, Nat.reduceLeDiff, Int.reduceLT, Int.reduceLE, Int.reduceEq, Int.reduceNeg, Int.reduceToNat]
              repeat' ((first | refine guardB_dec (fun hy => ?_) (fun hy => ?_) | refine guardB_bool (fun hy => ?_) (fun hy => ?_) | refine guardQ_ite (fun hy => ?_) (fun hy => ?_) | refine brQ_dec (fun hy => ?_) (fun hy => ?_) | refine brQ_bool (fun hy => ?_) (fun hy => ?_)) <;> (try simp only [Bool.not_eq_true', Bool.not_eq_false', Bool.and_eq_true, Bool.or_eq_false_iff, decide_eq_true_eq, decide_eq_false_iff_not] at hy) <;> simp (disch := first | rfl | omega | exact lt_new _ | assumption | decide | (simp [tk_here, tk_app, tk_0, tk_S] <;> omega) | fail) only [l19_29, r19_10, r19_30, r19_31, rs19, gc19, t0, t4, t7, List.length_nil, Int.lt_irrefl, hol2, go_sem, ↓reduceIte, Nat.reduceLT, Nat.reduceEqDiff, Nat.reduceAdd, Nat.reduceMul, Nat.reduceSub, Int.reduceAdd, Int.reduceSub, Nat.reduceLeDiff, Int.reduceLT, Int.reduceLE, Int.reduceEq, Int.reduceNeg, Int.reduceToNat, hy])
              refine finQ_app ?_
              simp (disch := first | rfl | omega | exact lt_new _ | assumption | decide | (simp [tk_here, tk_app, tk_0, tk_S] <;> omega) | fail) only [go_sem, ↓reduceIte, Nat.reduceLT, Nat.reduceEqDiff, Nat.reduceAdd, Nat.reduceMul, Nat.reduceSub, Int.reduceAdd, Int.reduceSub, Nat.reduceLeDiff, Int.reduceLT, Int.reduceLE, Int.reduceEq, Int.reduceNeg, Int.reduceToNat, upV, slV_nil]
        · refine ⟨l.drop j, [], l.length + 1, b && decide (l.length = 0), rfl, rfl, rfl, ?_, ?_, ?_, hG.symm, by simp; omega, by simp⟩
          all_goals simp (disch := first | rfl | omega | exact lt_new _ | assumption | decide | (simp [tk_here, tk_app, tk_0, tk_S] <;> omega) | fail) only [go_sem, ↓reduceIte, Nat.reduceLT, Nat.reduceEqDiff, Nat.reduceAdd, Nat.reduceMul, Nat.reduceSub, Int.reduceAdd, Int.reduceSub, Nat.reduceLeDiff, Int.reduceLT, Int.reduceLE, Int.reduceEq, Int.reduceNeg, Int.reduceToNat, osV_nil]
    · have hF : unpF l = ([], e) := by unfold unpF; rw [if_neg h1, hu]; simp [h2]
      rw [hF]
      unfold upV
      simp (disch := first | rfl | omega | exact lt_new _ | assumption | decide | (simp [tk_here, tk_app, tk_0, tk_S] <;> omega) | fail) only [r19_0, r19_1, r19_2, r19_3, r19_4, r19_5, r19_6, r19_7, r19_8, r19_9, r19_10, r19_11, r19_12, r19_13, r19_14, r19_15, r19_16, r19_17, r19_18, r19_19, r19_20, r19_21, r19_22, r19_23, r19_24, r19_25, r19_26, r19_27, r19_30, r19_31, r19_32, c19, rs19, gc19, h1', h66, unV, h2, slV_nil, go_sem, ↓reduceIte, Nat.reduceLT, Nat.reduceEqDiff, Nat.reduceAdd, Nat.reduceMul, Nat.reduceSub, Int.reduceAdd, Int.reduceSub, Nat.reduceLeDiff, Int.reduceLT, Int.reduceLE, Int.reduceEq, Int.reduceNeg, Int.reduceToNat]
      repeat' ((first | refine guardB_dec (fun hy => ?_) (fun hy => ?_) | refine guardB_bool (fun hy => ?_) (fun hy => ?_) | refine guardQ_ite (fun hy => ?_) (fun hy => ?_) | refine brQ_dec (fun hy => ?_) (fun hy => ?_) | refine brQ_bool (fun hy => ?_) (fun hy => ?_)) <;> (try simp only [Bool.not_eq_true', Bool.not_eq_false', Bool.and_eq_true, Bool.or_eq_false_iff, decide_eq_true_eq, decide_eq_false_iff_not] at hy) <;> simp (disch := first | rfl | omega | exact lt_new _ | assumption | decide | (simp [tk_here, tk_app, tk_0, tk_S] <;> omega) | fail) only [r19_0, r19_1, r19_2, r19_3, r19_4, r19_5, r19_6, r19_7, r19_8, r19_9, r19_10, r19_11, r19_12, r19_13, r19_14, r19_15, r19_16, r19_17, r19_18, r19_19, r19_20, r19_21, r19_22, r19_23, r19_24, r19_25, r19_26, r19_27, r19_30, r19_31, r19_32, c19, rs19, gc19, h1', h66, unV, h2, slV_nil, go_sem, ↓reduceIte, Nat.reduceLT, Nat.reduceEqDiff, Nat.reduceAdd, Nat.reduceMul, Nat.reduceSub, Int.reduceAdd, Int.reduceSub, Nat.reduceLeDiff, Int.reduceLT, Int.reduceLE, Int.reduceEq, Int.reduceNeg, Int.reduceToNat, hy])
      all_goals (try ((first | refine finQ_same ?_ | refine finQ_app ?_ | (rw [List.append_assoc]; refine finQ_app ?_)) <;> simp (disch := first | rfl | omega | exact lt_new _ | assumption | decide | (simp [tk_here, tk_app, tk_0, tk_S] <;> omega) | fail) only [go_sem, ↓reduceIte, Nat.reduceLT, Nat.reduceEqDiff, Nat.reduceAdd, Nat.reduceMul, Nat.reduceSub, Int.reduceAdd, Int.reduceSub, Nat.reduceLeDiff, Int.reduceLT, Int.reduceLE, Int.reduceEq, Int.reduceNeg, Int.reduceToNat, List.append_assoc, List.cons_append, List.nil_append, *]))
      all_goals (try first | rfl | (simp [*]; done) | grind)
def Up2I (H : Hp) (b : Bool) (l : List UInt8) (n : Int) (res : List UInt8 × Int) (m : Nat) (T : Fr) (D : Dfr) (H' : Hp) : Prop := ∃ (at_ : Nat) (out : List UInt8) (f : Nat), m = l.length - at_ ∧ at_ ≤ l.length ∧ D = [] ∧ H' = H ++ [.tok out.length] ∧ get T 0 = slV b byE l ∧ get T 4 = .int .i64 n ∧ get T 5 = .int .i64 at_ ∧ get T 7 = osV H.length byE out ∧ res = upk n f (l.drop at_) out ∧ l.length - at_ < f ∧ out.length ≤ 131072
theorem drop_two {l : List UInt8} {i : Nat} : byE.at (l.drop i) 0 = byE.at l i ∧ byE.at (l.drop i) 1 = byE.at l (i + 1) := by simp [Enc.at]
set_option maxHeartbeats 4000000 in
theorem up2_step {H H' : Hp} {b : Bool} {l : List UInt8} {n : Int} {res : List UInt8 × Int} {m : Nat} {T : Fr} {D : Dfr} {Q : Ex → Fr → Dfr → Hp → Prop} (h : Up2I H b l n res m T D H') (hm : 0 < m) (hn : n ≤ 131072) (hll : l.length ≤ 262144)
    (hQ : ∀ T out, res = ([], 11) → get T 2 = .nilslice → get T 3 = .int .i64 11 → Q .ret T [] (H ++ [.tok out])) :
    Wp Try.prog (callL Try.prog pr) 113 l20_29 T D H' (loopQ (fun T D H' => ∃ m' < m, Up2I H b l n res m' T D H') Q) := by
  obtain ⟨i, out, f, rfl, hi, rfl, rfl, t0, t4, t5, t7, hres, hf, hol⟩ := h
  have hil : i < l.length := by omega
  obtain ⟨f, rfl⟩ : ∃ g, f = g + 1 := ⟨f - 1, by omega⟩
  have hil' : (i : Int) < l.length := by omega
  have lb := fun H => ldB (H := H) hil
  rw [byE.drop_at hil] at hres
  unfold upk at hres
  obtain ⟨kn, hkn⟩ : ∃ kn, (byE.at l i).toNat = kn := ⟨_, rfl⟩
  have hkt := (byE.at l i).toNat_lt
  rw [hkn] at lb hres hkt
  rw [List.length_drop] at hres
  by_cases hk : kn < 128
  · have hk' : (kn : Int) < 128 := by omega
    rw [if_pos hk] at hres
    by_cases hb1 : l.length - (i + 1) < kn + 1
    · rw [if_pos (.inl hb1)] at hres
      have hb1' : (l.length : Int) < (i : Int) + 1 + kn + 1 := by omega
      simp (disch := first | rfl | omega | exact lt_new _ | assumption | decide | (simp [tk_here, tk_app, tk_0, tk_S] <;> omega) | fail) only [l20_29, r20_9, r20_10, r20_11, r20_12, r20_13, t0, t4, t5, t7, hil', lb, hk', hb1', go_sem, ↓reduceIte, Nat.reduceLT, Nat.reduceEqDiff, Nat.reduceAdd, Nat.reduceMul, Nat.reduceSub, Int.reduceAdd, Int.reduceSub, Nat.reduceLeDiff, Int.reduceLT, Int.reduceLE, Int.reduceEq, Int.reduceNeg, Int.reduceToNat]
      repeat' ((first | refine guardB_dec (fun hy => ?_) (fun hy => ?_) | refine guardB_bool (fun hy => ?_) (fun hy => ?_) | refine guardQ_ite (fun hy => ?_) (fun hy => ?_) | refine brQ_dec (fun hy => ?_) (fun hy => ?_) | refine brQ_bool (fun hy => ?_) (fun hy => ?_)) <;> (try simp only [Bool.not_eq_true', Bool.not_eq_false', Bool.and_eq_true, Bool.or_eq_false_iff, decide_eq_true_eq, decide_eq_false_iff_not] at hy) <;> simp (disch := first | rfl | omega | exact lt_new _ | assumption | decide | (simp [tk_here, tk_app, tk_0, tk_S] <;> omega) | fail) only [l20_29, r20_9, r20_10, r20_11, r20_12, r20_13, t0, t4, t5, t7, hil', lb, hk', hb1', go_sem, ↓reduceIte, Nat.reduceLT, Nat.reduceEqDiff, Nat.reduceAdd, Nat.reduceMul, Nat.reduceSub, Int.reduceAdd, Int.reduceSub, Nat.reduceLeDiff, Int.reduceLT, Int.reduceLE, Int.reduceEq, Int.reduceNeg, Int.reduceToNat, hy])
      all_goals (refine hQ _ _ hres ?_ ?_ <;> simp (disch := first | rfl | omega | exact lt_new _ | assumption | decide | (simp [tk_here, tk_app, tk_0, tk_S] <;> omega) | fail) only [go_sem, ↓reduceIte, Nat.reduceLT, Nat.reduceEqDiff, Nat.reduceAdd, Nat.reduceMul, Nat.reduceSub, Int.reduceAdd, Int.reduceSub, Nat.reduceLeDiff, Int.reduceLT, Int.reduceLE, Int.reduceEq, Int.reduceNeg, Int.reduceToNat])
    · have hb1' : ¬ (l.length : Int) < (i : Int) + 1 + kn + 1 := by omega
      have hcut : ∀ X : Hp, sliceV Try.prog 37 X (slV b byE l) (some (.int .i64 ((i : Int) + 1))) (some (.int .i64 ((i : Int) + kn + 2))) = some (slV (b && decide (l.length = 0)) byE ((l.drop (i + 1)).take (kn + 1))) := fun X => by
        rw [ct37 rfl (by omega)]
        congr 2
        rw [show ((i : Int) + kn + 2).toNat = i + kn + 2 by omega, show ((i : Int) + 1).toNat = i + 1 by omega]
        congr 1
        omega
      have hl2 : ((l.drop (i + 1)).take (kn + 1)).length = kn + 1 := by simp; omega
      have hdd : (l.drop (i + 1)).drop (kn + 1) = l.drop (i + (kn + 2)) := by rw [List.drop_drop]; congr 1; omega
      rw [hdd] at hres
      obtain ⟨ys, hys⟩ : ∃ ys, (l.drop (i + 1)).take (kn + 1) = ys := ⟨_, rfl⟩
      rw [hys] at hl2 hres hcut
      by_cases hb2 : n < out.length + kn + 1
      · rw [if_pos (.inr hb2)] at hres
        have hb2' : n < (out.length : Int) + ((kn : Int) + 1) := by omega
        simp (disch := first | rfl | omega | exact lt_new _ | assumption | decide | (simp [tk_here, tk_app, tk_0, tk_S] <;> omega) | fail) only [l20_29, r20_9, r20_10, r20_11, r20_12, r20_14, r20_15, r20_27, r20_28, t0, t4, t5, t7, hil', lb, hk', hb1', hcut, List.append_assoc, List.length_append, List.length_cons, List.length_nil, List.set_cons_zero, List.set_cons_succ, tk_here, tk_app, gr_here, gr_app, st_here, st_app, hl2, hb2', Int.natCast_add, Int.natCast_one, go_sem, ↓reduceIte, Nat.reduceLT, Nat.reduceEqDiff, Nat.reduceAdd, Nat.reduceMul, Nat.reduceSub, Int.reduceAdd, Int.reduceSub, Nat.reduceLeDiff, Int.reduceLT, Int.reduceLE, Int.reduceEq, Int.reduceNeg, Int.reduceToNat]
        repeat' ((first | refine guardB_dec (fun hy => ?_) (fun hy => ?_) | refine guardB_bool (fun hy => ?_) (fun hy => ?_) | refine guardQ_ite (fun hy => ?_) (fun hy => ?_) | refine brQ_dec (fun hy => ?_) (fun hy => ?_) | refine brQ_bool (fun hy => ?_) (fun hy => ?_)) <;> (try simp only [Bool.not_eq_true', Bool.not_eq_false', Bool.and_eq_true, Bool.or_eq_false_iff, decide_eq_true_eq, decide_eq_false_iff_not] at hy) <;> simp (disch := first | rfl | omega | exact lt_new _ | assumption | decide | (simp [tk_here, tk_app, tk_0, tk_S] <;> omega) | fail) only [l20_29, r20_9, r20_10, r20_11, r20_12, r20_14, r20_15, r20_27, r20_28, t0, t4, t5, t7, hil', lb, hk', hb1', hcut, List.append_assoc, List.length_append, List.length_cons, List.length_nil, List.set_cons_zero, List.set_cons_succ, tk_here, tk_app, gr_here, gr_app, st_here, st_app, hl2, hb2', Int.natCast_add, Int.natCast_one, go_sem, ↓reduceIte, Nat.reduceLT, Nat.reduceEqDiff, Nat.reduceAdd, Nat.reduceMul, Nat.reduceSub, Int.reduceAdd, Int.reduceSub, Nat.reduceLeDiff, Int.reduceLT, Int.reduceLE, Int.reduceEq, Int.reduceNeg, Int.reduceToNat, hy])
        all_goals (refine hQ _ _ hres ?_ ?_ <;> simp (disch := first | rfl | omega | exact lt_new _ | assumption | decide | (simp [tk_here, tk_app, tk_0, tk_S] <;> omega) | fail) only [go_sem, ↓reduceIte, Nat.reduceLT, Nat.reduceEqDiff, Nat.reduceAdd, Nat.reduceMul, Nat.reduceSub, Int.reduceAdd, Int.reduceSub, Nat.reduceLeDiff, Int.reduceLT, Int.reduceLE, Int.reduceEq, Int.reduceNeg, Int.reduceToNat])
      · rw [if_neg (by omega)] at hres
        have hb2' : ¬ n < (out.length : Int) + ((kn : Int) + 1) := by omega
        simp (disch := first | rfl | omega | exact lt_new _ | assumption | decide | (simp [tk_here, tk_app, tk_0, tk_S] <;> omega) | fail) only [l20_29, r20_9, r20_10, r20_11, r20_12, r20_14, r20_15, r20_27, t0, t4, t5, t7, hil', lb, hk', hb1', hcut, List.append_assoc, List.length_append, List.length_cons, List.length_nil, List.set_cons_zero, List.set_cons_succ, tk_here, tk_app, gr_here, gr_app, st_here, st_app, hl2, hb2', Int.natCast_add, Int.natCast_one, go_sem, ↓reduceIte, Nat.reduceLT, Nat.reduceEqDiff, Nat.reduceAdd, Nat.reduceMul, Nat.reduceSub, Int.reduceAdd, Int.reduceSub, Nat.reduceLeDiff, Int.reduceLT, Int.reduceLE, Int.reduceEq, Int.reduceNeg, Int.reduceToNat]
        repeat' ((first | refine guardB_dec (fun hy => ?_) (fun hy => ?_) | refine guardB_bool (fun hy => ?_) (fun hy => ?_) | refine guardQ_ite (fun hy => ?_) (fun hy => ?_) | refine brQ_dec (fun hy => ?_) (fun hy => ?_) | refine brQ_bool (fun hy => ?_) (fun hy => ?_)) <;> (try simp only [Bool.not_eq_true', Bool.not_eq_false', Bool.and_eq_true, Bool.or_eq_false_iff, decide_eq_true_eq, decide_eq_false_iff_not] at hy) <;> simp (disch := first | rfl | omega | exact lt_new _ | assumption | decide | (simp [tk_here, tk_app, tk_0, tk_S] <;> omega) | fail) only [l20_29, r20_9, r20_10, r20_11, r20_12, r20_14, r20_15, r20_27, t0, t4, t5, t7, hil', lb, hk', hb1', hcut, List.append_assoc, List.length_append, List.length_cons, List.length_nil, List.set_cons_zero, List.set_cons_succ, tk_here, tk_app, gr_here, gr_app, st_here, st_app, hl2, hb2', Int.natCast_add, Int.natCast_one, go_sem, ↓reduceIte, Nat.reduceLT, Nat.reduceEqDiff, Nat.reduceAdd, Nat.reduceMul, Nat.reduceSub, Int.reduceAdd, Int.reduceSub, Nat.reduceLeDiff, Int.reduceLT, Int.reduceLE, Int.reduceEq, Int.reduceNeg, Int.reduceToNat, hy])
        refine ⟨_, by omega, i + (kn + 2), out ++ ys, f, rfl, by omega, rfl, ?_, ?_, ?_, ?_, ?_, hres, by omega, by simp; omega⟩
        all_goals simp (disch := first | rfl | omega | exact lt_new _ | assumption | decide | (simp [tk_here, tk_app, tk_0, tk_S] <;> omega) | fail) only [go_sem, ↓reduceIte, Nat.reduceLT, Nat.reduceEqDiff, Nat.reduceAdd, Nat.reduceMul, Nat.reduceSub, Int.reduceAdd, Int.reduceSub, Nat.reduceLeDiff, Int.reduceLT, Int.reduceLE, Int.reduceEq, Int.reduceNeg, Int.reduceToNat, t0, t4, List.length_append, hl2, Int.natCast_add]
  · have hk' : ¬ (kn : Int) < 128 := by omega
    rw [if_neg hk] at hres
    by_cases hb1 : l.length - (i + 1) < 2
    · rw [if_pos hb1] at hres
      have hb1' : (l.length : Int) < (i : Int) + 3 := by omega
      simp (disch := first | rfl | omega | exact lt_new _ | assumption | decide | (simp [tk_here, tk_app, tk_0, tk_S] <;> omega) | fail) only [l20_29, r20_9, r20_10, r20_11, r20_16, r20_17, t0, t4, t5, t7, hil', lb, hk', hb1', go_sem, ↓reduceIte, Nat.reduceLT, Nat.reduceEqDiff, Nat.reduceAdd, Nat.reduceMul, Nat.reduceSub, Int.reduceAdd, Int.reduceSub, Nat.reduceLeDiff, Int.reduceLT, Int.reduceLE, Int.reduceEq, Int.reduceNeg, Int.reduceToNat]
      repeat' ((first | refine guardB_dec (fun hy => ?_) (fun hy => ?_) | refine guardB_bool (fun hy => ?_) (fun hy => ?_) | refine guardQ_ite (fun hy => ?_) (fun hy => ?_) | refine brQ_dec (fun hy => ?_) (fun hy => ?_) | refine brQ_bool (fun hy => ?_) (fun hy => ?_)) <;> (try simp only [Bool.not_eq_true', Bool.not_eq_false', Bool.and_eq_true, Bool.or_eq_false_iff, decide_eq_true_eq, decide_eq_false_iff_not] at hy) <;> simp (disch := first | rfl | omega | exact lt_new _ | assumption | decide | (simp [tk_here, tk_app, tk_0, tk_S] <;> omega) | fail) only [l20_29, r20_9, r20_10, r20_11, r20_16, r20_17, t0, t4, t5, t7, hil', lb, hk', hb1', go_sem, ↓reduceIte, Nat.reduceLT, Nat.reduceEqDiff, Nat.reduceAdd, Nat.reduceMul, Nat.reduceSub, Int.reduceAdd, Int.reduceSub, Nat.reduceLeDiff, Int.reduceLT, Int.reduceLE, Int.reduceEq, Int.reduceNeg, Int.reduceToNat, hy])
      all_goals (refine hQ _ _ hres ?_ ?_ <;> simp (disch := first | rfl | omega | exact lt_new _ | assumption | decide | (simp [tk_here, tk_app, tk_0, tk_S] <;> omega) | fail) only [go_sem, ↓reduceIte, Nat.reduceLT, Nat.reduceEqDiff, Nat.reduceAdd, Nat.reduceMul, Nat.reduceSub, Int.reduceAdd, Int.reduceSub, Nat.reduceLeDiff, Int.reduceLT, Int.reduceLE, Int.reduceEq, Int.reduceNeg, Int.reduceToNat])
    · rw [if_neg hb1, drop_two.1, drop_two.2] at hres
      have hb1' : ¬ (l.length : Int) < (i : Int) + 3 := by omega
      have la := fun H => ldB (H := H) (l := l) (i := i + 1) (by omega)
      have lc := fun H => ldB (H := H) (l := l) (i := i + 1 + 1) (by omega)
      have e1 : ((i : Int) + 1).toNat = i + 1 := by omega
      have e2 : ((i : Int) + 2).toNat = i + 1 + 1 := by omega
      obtain ⟨x, hx⟩ : ∃ x, (byE.at l (i + 1)).toNat = x := ⟨_, rfl⟩
      obtain ⟨y, hy0⟩ : ∃ y, (byE.at l (i + 1 + 1)).toNat = y := ⟨_, rfl⟩
      have hxl := (byE.at l (i + 1)).toNat_lt
      have hyl := (byE.at l (i + 1 + 1)).toNat_lt
      rw [hx] at la hres hxl
      rw [hy0] at lc hres hyl
      have hdd : (l.drop (i + 1)).drop 2 = l.drop (i + 3) := by rw [List.drop_drop]
      rw [hdd] at hres
      obtain ⟨d, hd⟩ : ∃ d, x * 256 + y = d := ⟨_, rfl⟩
      have hd' : (256 : Int) * x + y = d := by omega
      rw [hd] at hres
      by_cases hbad : d < 1 ∨ out.length < d
      · rw [if_pos (by omega)] at hres
        have hb2 : ¬ (d : Int) < 1 → (out.length : Int) < d := by omega
        simp (disch := first | rfl | omega | exact lt_new _ | assumption | decide | (simp [tk_here, tk_app, tk_0, tk_S] <;> omega) | fail) only [l20_29, r20_9, r20_10, r20_11, r20_16, r20_18, r20_19, r20_20, t0, t4, t5, t7, hil', lb, hk', hb1', la, lc, e1, e2, hd', hb2, go_sem, ↓reduceIte, Nat.reduceLT, Nat.reduceEqDiff, Nat.reduceAdd, Nat.reduceMul, Nat.reduceSub, Int.reduceAdd, Int.reduceSub, Nat.reduceLeDiff, Int.reduceLT, Int.reduceLE, Int.reduceEq, Int.reduceNeg, Int.reduceToNat]
        repeat' ((first | refine guardB_dec (fun hy => ?_) (fun hy => ?_) | refine guardB_bool (fun hy => ?_) (fun hy => ?_) | refine guardQ_ite (fun hy => ?_) (fun hy => ?_) | refine brQ_dec (fun hy => ?_) (fun hy => ?_) | refine brQ_bool (fun hy => ?_) (fun hy => ?_)) <;> (try simp only [Bool.not_eq_true', Bool.not_eq_false', Bool.and_eq_true, Bool.or_eq_false_iff, decide_eq_true_eq, decide_eq_false_iff_not] at hy) <;> simp (disch := first | rfl | omega | exact lt_new _ | assumption | decide | (simp [tk_here, tk_app, tk_0, tk_S] <;> omega) | fail) only [l20_29, r20_9, r20_10, r20_11, r20_16, r20_18, r20_19, r20_20, t0, t4, t5, t7, hil', lb, hk', hb1', la, lc, e1, e2, hd', hb2, go_sem, ↓reduceIte, Nat.reduceLT, Nat.reduceEqDiff, Nat.reduceAdd, Nat.reduceMul, Nat.reduceSub, Int.reduceAdd, Int.reduceSub, Nat.reduceLeDiff, Int.reduceLT, Int.reduceLE, Int.reduceEq, Int.reduceNeg, Int.reduceToNat, hy])
        all_goals (refine hQ _ _ hres ?_ ?_ <;> simp (disch := first | rfl | omega | exact lt_new _ | assumption | decide | (simp [tk_here, tk_app, tk_0, tk_S] <;> omega) | fail) only [go_sem, ↓reduceIte, Nat.reduceLT, Nat.reduceEqDiff, Nat.reduceAdd, Nat.reduceMul, Nat.reduceSub, Int.reduceAdd, Int.reduceSub, Nat.reduceLeDiff, Int.reduceLT, Int.reduceLE, Int.reduceEq, Int.reduceNeg, Int.reduceToNat])
      · have hb2 : ¬ (d : Int) < 1 := by omega
        have hb3 : ¬ (out.length : Int) < d := by omega
        obtain ⟨cnt, hcnt⟩ : ∃ cnt, kn - 125 = cnt := ⟨_, rfl⟩
        have hcnt' : (kn : Int) - 125 = cnt := by omega
        rw [hcnt, hcnt'] at hres
        simp (disch := first | rfl | omega | exact lt_new _ | assumption | decide | (simp [tk_here, tk_app, tk_0, tk_S] <;> omega) | fail) only [l20_29, r20_9, r20_10, r20_11, r20_16, r20_18, r20_19, r20_21, t0, t4, t5, t7, hil', lb, hk', hb1', la, lc, e1, e2, hd', hb2, hb3, go_sem, ↓reduceIte, Nat.reduceLT, Nat.reduceEqDiff, Nat.reduceAdd, Nat.reduceMul, Nat.reduceSub, Int.reduceAdd, Int.reduceSub, Nat.reduceLeDiff, Int.reduceLT, Int.reduceLE, Int.reduceEq, Int.reduceNeg, Int.reduceToNat]
        repeat' ((first | refine guardB_dec (fun hy => ?_) (fun hy => ?_) | refine guardB_bool (fun hy => ?_) (fun hy => ?_) | refine guardQ_ite (fun hy => ?_) (fun hy => ?_) | refine brQ_dec (fun hy => ?_) (fun hy => ?_) | refine brQ_bool (fun hy => ?_) (fun hy => ?_)) <;> (try simp only [Bool.not_eq_true', Bool.not_eq_false', Bool.and_eq_true, Bool.or_eq_false_iff, decide_eq_true_eq, decide_eq_false_iff_not] at hy) <;> simp (disch := first | rfl | omega | exact lt_new _ | assumption | decide | (simp [tk_here, tk_app, tk_0, tk_S] <;> omega) | fail) only [l20_29, r20_9, r20_10, r20_11, r20_16, r20_18, r20_19, r20_21, t0, t4, t5, t7, hil', lb, hk', hb1', la, lc, e1, e2, hd', hb2, hb3, go_sem, ↓reduceIte, Nat.reduceLT, Nat.reduceEqDiff, Nat.reduceAdd, Nat.reduceMul, Nat.reduceSub, Int.reduceAdd, Int.reduceSub, Nat.reduceLeDiff, Int.reduceLT, Int.reduceLE, Int.reduceEq, Int.reduceNeg, Int.reduceToNat, hy])
        refine Wp_loop (fun m T D H' => ∃ j, m = cnt - j ∧ j ≤ cnt ∧ D = [] ∧ H' = H ++ [.tok (out.length + j)] ∧ get T 0 = slV b byE l ∧ get T 4 = .int .i64 n ∧ get T 5 = .int .i64 i ∧ get T 7 = osV H.length byE (repC out d j) ∧ get T 9 = .int .i64 d ∧ get T 10 = .int .i64 j ∧ get T 8 = .int .i64 kn) ?_ cnt _ _ _ ?_
        · rintro m T D H' ⟨j, rfl, hj, rfl, rfl, s0, s4, s5, s7, s9, s10, s8⟩
          have hrl := repC_len out d j
          by_cases hlt : j < cnt
          · have hj' : (j : Int) < cnt := by omega
            obtain ⟨q, hq⟩ : ∃ q, (repC out d j).length - d = q := ⟨_, rfl⟩
            have hqe : ((repC out d j).length : Int) - d = (q : Int) := by omega
            have hql : q < (repC out d j).length := by omega
            have lq := fun H => ldB (H := H) hql
            have htk : tokAt (H ++ [AB.tok (out.length + j)]) H.length = some (repC out d j).length := by rw [hrl]; simp [tk_here, tk_0]
            simp (disch := first | rfl | omega | exact lt_new _ | assumption | decide | (simp [tk_here, tk_app, tk_0, tk_S] <;> omega) | fail) only [l20_25, r20_22, r20_23, r20_24, s0, s4, s5, s7, s9, s10, s8, hcnt', hj', hqe, lq, htk, List.append_assoc, List.length_append, List.length_cons, List.length_nil, List.set_cons_zero, List.set_cons_succ, tk_here, tk_app, gr_here, gr_app, st_here, st_app, go_sem, ↓reduceIte, Nat.reduceLT, Nat.reduceEqDiff, Nat.reduceAdd, Nat.reduceMul, Nat.reduceSub, Int.reduceAdd, Int.reduceSub, Nat.reduceLeDiff, Int.reduceLT, Int.reduceLE, Int.reduceEq, Int.reduceNeg, Int.reduceToNat]
            repeat' ((first | refine guardB_dec (fun hy => ?_) (fun hy => ?_) | refine guardB_bool (fun hy => ?_) (fun hy => ?_) | refine guardQ_ite (fun hy => ?_) (fun hy => ?_) | refine brQ_dec (fun hy => ?_) (fun hy => ?_) | refine brQ_bool (fun hy => ?_) (fun hy => ?_)) <;> (try simp only [Bool.not_eq_true', Bool.not_eq_false', Bool.and_eq_true, Bool.or_eq_false_iff, decide_eq_true_eq, decide_eq_false_iff_not] at hy) <;> simp (disch := first | rfl | omega | exact lt_new _ | assumption | decide | (simp [tk_here, tk_app, tk_0, tk_S] <;> omega) | fail) only [l20_25, r20_22, r20_23, r20_24, s0, s4, s5, s7, s9, s10, s8, hcnt', hj', hqe, lq, htk, List.append_assoc, List.length_append, List.length_cons, List.length_nil, List.set_cons_zero, List.set_cons_succ, tk_here, tk_app, gr_here, gr_app, st_here, st_app, go_sem, ↓reduceIte, Nat.reduceLT, Nat.reduceEqDiff, Nat.reduceAdd, Nat.reduceMul, Nat.reduceSub, Int.reduceAdd, Int.reduceSub, Nat.reduceLeDiff, Int.reduceLT, Int.reduceLE, Int.reduceEq, Int.reduceNeg, Int.reduceToNat, hy])
            exact ⟨_, by omega, j + 1, rfl, hlt, by rw [hrl]; rfl, by rw [repC, hq], rfl⟩
          · obtain rfl : j = cnt := by omega
            by_cases hb4 : n < out.length + (j : Int)
            · rw [if_pos (by omega)] at hres
              have hb4' : n < ((repC out d j).length : Int) := by omega
              simp (disch := first | rfl | omega | exact lt_new _ | assumption | decide | (simp [tk_here, tk_app, tk_0, tk_S] <;> omega) | fail) only [l20_25, r20_22, r20_26, r20_27, r20_28, s0, s4, s5, s7, s9, s10, s8, hcnt', Int.lt_irrefl, hb4', go_sem, ↓reduceIte, Nat.reduceLT, Nat.reduceEqDiff, Nat.reduceAdd, Nat.reduceMul, Nat.reduceSub, Int.reduceAdd, Int.reduceSub, Nat.reduceLeDiff, Int.reduceLT, Int.reduceLE, Int.reduceEq, Int.reduceNeg, Int.reduceToNat]
              repeat' ((first | refine guardB_dec (fun hy => ?_) (fun hy => ?_) | refine guardB_bool (fun hy => ?_) (fun hy => ?_) | refine guardQ_ite (fun hy => ?_) (fun hy => ?_) | refine brQ_dec (fun hy => ?_) (fun hy => ?_) | refine brQ_bool (fun hy => ?_) (fun hy => ?_)) <;> (try simp only [Bool.not_eq_true', Bool.not_eq_false', Bool.and_eq_true, Bool.or_eq_false_iff, decide_eq_true_eq, decide_eq_false_iff_not] at hy) <;> simp (disch := first | rfl | omega | exact lt_new _ | assumption | decide | (simp [tk_here, tk_app, tk_0, tk_S] <;> omega) | fail) only [l20_25, r20_22, r20_26, r20_27, r20_28, s0, s4, s5, s7, s9, s10, s8, hcnt', Int.lt_irrefl, hb4', go_sem, ↓reduceIte, Nat.reduceLT, Nat.reduceEqDiff, Nat.reduceAdd, Nat.reduceMul, Nat.reduceSub, Int.reduceAdd, Int.reduceSub, Nat.reduceLeDiff, Int.reduceLT, Int.reduceLE, Int.reduceEq, Int.reduceNeg, Int.reduceToNat, hy])
              all_goals (refine hQ _ _ hres ?_ ?_ <;> simp (disch := first | rfl | omega | exact lt_new _ | assumption | decide | (simp [tk_here, tk_app, tk_0, tk_S] <;> omega) | fail) only [go_sem, ↓reduceIte, Nat.reduceLT, Nat.reduceEqDiff, Nat.reduceAdd, Nat.reduceMul, Nat.reduceSub, Int.reduceAdd, Int.reduceSub, Nat.reduceLeDiff, Int.reduceLT, Int.reduceLE, Int.reduceEq, Int.reduceNeg, Int.reduceToNat])
            · rw [if_neg (by omega)] at hres
              have hb4' : ¬ n < ((repC out d j).length : Int) := by omega
              simp (disch := first | rfl | omega | exact lt_new _ | assumption | decide | (simp [tk_here, tk_app, tk_0, tk_S] <;> omega) | fail) only [l20_25, r20_22, r20_26, r20_27, s0, s4, s5, s7, s9, s10, s8, hcnt', Int.lt_irrefl, hb4', go_sem, ↓reduceIte, Nat.reduceLT, Nat.reduceEqDiff, Nat.reduceAdd, Nat.reduceMul, Nat.reduceSub, Int.reduceAdd, Int.reduceSub, Nat.reduceLeDiff, Int.reduceLT, Int.reduceLE, Int.reduceEq, Int.reduceNeg, Int.reduceToNat]
              repeat' ((first | refine guardB_dec (fun hy => ?_) (fun hy => ?_) | refine guardB_bool (fun hy => ?_) (fun hy => ?_) | refine guardQ_ite (fun hy => ?_) (fun hy => ?_) | refine brQ_dec (fun hy => ?_) (fun hy => ?_) | refine brQ_bool (fun hy => ?_) (fun hy => ?_)) <;> (try simp only [Bool.not_eq_true', Bool.not_eq_false', Bool.and_eq_true, Bool.or_eq_false_iff, decide_eq_true_eq, decide_eq_false_iff_not] at hy) <;> simp (disch := first | rfl | omega | exact lt_new _ | assumption | decide | (simp [tk_here, tk_app, tk_0, tk_S] <;> omega) | fail) only [l20_25, r20_22, r20_26, r20_27, s0, s4, s5, s7, s9, s10, s8, hcnt', Int.lt_irrefl, hb4', go_sem, ↓reduceIte, Nat.reduceLT, Nat.reduceEqDiff, Nat.reduceAdd, Nat.reduceMul, Nat.reduceSub, Int.reduceAdd, Int.reduceSub, Nat.reduceLeDiff, Int.reduceLT, Int.reduceLE, Int.reduceEq, Int.reduceNeg, Int.reduceToNat, hy])
              refine ⟨_, by omega, i + 3, repC out d j, f, rfl, by omega, rfl, by rw [hrl], ?_, ?_, ?_, ?_, hres, by omega, by omega⟩
              all_goals simp (disch := first | rfl | omega | exact lt_new _ | assumption | decide | (simp [tk_here, tk_app, tk_0, tk_S] <;> omega) | fail) only [go_sem, ↓reduceIte, Nat.reduceLT, Nat.reduceEqDiff, Nat.reduceAdd, Nat.reduceMul, Nat.reduceSub, Int.reduceAdd, Int.reduceSub, Nat.reduceLeDiff, Int.reduceLT, Int.reduceLE, Int.reduceEq, Int.reduceNeg, Int.reduceToNat, s0, s4, s5, s7, Int.natCast_add]
        · exact ⟨0, by simp [go_sem, t0, t4, t5, t7, repC]⟩
set_option maxHeartbeats 4000000 in
theorem fn20 {b : Bool} {l : List UInt8} (hlen : l.length ≤ 2 ^ 40) (H : Hp) : callL Try.prog pr 20 [slV b byE l] H = some (upV (unpF l), H) := by
  obtain ⟨n, k, e, hu⟩ : ∃ n k e, uns l = (n, k, e) := ⟨_, _, _, rfl⟩
  have h67 := fun H => fn67 (b := b) hlen H
  rw [hu] at h67
  refine run20 (Nat.le_of_ble_eq_true rfl) ?_
  by_cases h1 : 262144 < l.length
  · have h1' : (262144 : Int) < l.length := by omega
    unfold unpF upV
    rw [if_pos h1]
    simp (disch := first | rfl | omega | exact lt_new _ | assumption | decide | (simp [tk_here, tk_app, tk_0, tk_S] <;> omega) | fail) only [r20_0, r20_1, r20_2, r20_3, r20_4, r20_5, r20_6, r20_7, r20_8, r20_9, r20_10, r20_11, r20_12, r20_13, r20_14, r20_15, r20_16, r20_17, r20_18, r20_19, r20_20, r20_21, r20_22, r20_23, r20_24, r20_26, r20_27, r20_28, r20_30, r20_31, r20_32, c20, rs20, gc20, h1', slV_nil, go_sem, ↓reduceIte, Nat.reduceLT, Nat.reduceEqDiff, Nat.reduceAdd, Nat.reduceMul, Nat.reduceSub, Int.reduceAdd, Int.reduceSub, Nat.reduceLeDiff, Int.reduceLT, Int.reduceLE, Int.reduceEq, Int.reduceNeg, Int.reduceToNat]
    repeat' ((first | refine guardB_dec (fun hy => ?_) (fun hy => ?_) | refine guardB_bool (fun hy => ?_) (fun hy => ?_) | refine guardQ_ite (fun hy => ?_) (fun hy => ?_) | refine brQ_dec (fun hy => ?_) (fun hy => ?_) | refine brQ_bool (fun hy => ?_) (fun hy => ?_)) <;> (try simp only [Bool.not_eq_true', Bool.not_eq_false', Bool.and_eq_true, Bool.or_eq_false_iff, decide_eq_true_eq, decide_eq_false_iff_not] at hy) <;> simp (disch := first | rfl | omega | exact lt_new _ | assumption | decide | (simp [tk_here, tk_app, tk_0, tk_S] <;> omega) | fail) only [r20_0, r20_1, r20_2, r20_3, r20_4, r20_5, r20_6, r20_7, r20_8, r20_9, r20_10, r20_11, r20_12, r20_13, r20_14, r20_15, r20_16, r20_17, r20_18, r20_19, r20_20, r20_21, r20_22, r20_23, r20_24, r20_26, r20_27, r20_28, r20_30, r20_31, r20_32, c20, rs20, gc20, h1', slV_nil, go_sem, ↓reduceIte, Nat.reduceLT, Nat.reduceEqDiff, Nat.reduceAdd, Nat.reduceMul, Nat.reduceSub, Int.reduceAdd, Int.reduceSub, Nat.reduceLeDiff, Int.reduceLT, Int.reduceLE, Int.reduceEq, Int.reduceNeg, Int.reduceToNat, hy])
    all_goals (try ((first | refine finQ_same ?_ | refine finQ_app ?_ | (rw [List.append_assoc]; refine finQ_app ?_)) <;> simp (disch := first | rfl | omega | exact lt_new _ | assumption | decide | (simp [tk_here, tk_app, tk_0, tk_S] <;> omega) | fail) only [go_sem, ↓reduceIte, Nat.reduceLT, Nat.reduceEqDiff, Nat.reduceAdd, Nat.reduceMul, Nat.reduceSub, Int.reduceAdd, Int.reduceSub, Nat.reduceLeDiff, Int.reduceLT, Int.reduceLE, Int.reduceEq, Int.reduceNeg, Int.reduceToNat, List.append_assoc, List.cons_append, List.nil_append, *]))
    all_goals (try first | rfl | (simp [*]; done) | grind)
  · have h1' : ¬ (262144 : Int) < l.length := by omega
    by_cases h2 : e = 0
    · subst h2
      obtain ⟨j, rfl, hj, hn0⟩ := uns_ok hu
      by_cases h3 : 131072 < n
      · have hF : unpF l = ([], 3) := by unfold unpF; rw [if_neg h1, hu]; simp [h3]
        rw [hF]
        unfold upV
        simp (disch := first | rfl | omega | exact lt_new _ | assumption | decide | (simp [tk_here, tk_app, tk_0, tk_S] <;> omega) | fail) only [r20_0, r20_1, r20_2, r20_3, r20_4, r20_5, r20_6, r20_7, r20_8, r20_9, r20_10, r20_11, r20_12, r20_13, r20_14, r20_15, r20_16, r20_17, r20_18, r20_19, r20_20, r20_21, r20_22, r20_23, r20_24, r20_26, r20_27, r20_28, r20_30, r20_31, r20_32, c20, rs20, gc20, h1', h67, unV, h3, slV_nil, go_sem, ↓reduceIte, Nat.reduceLT, Nat.reduceEqDiff, Nat.reduceAdd, Nat.reduceMul, Nat.reduceSub, Int.reduceAdd, Int.reduceSub, Nat.reduceLeDiff, Int.reduceLT, Int.reduceLE, Int.reduceEq, Int.reduceNeg, Int.reduceToNat]
        repeat' ((first | refine guardB_dec (fun hy => ?_) (fun hy => ?_) | refine guardB_bool (fun hy => ?_) (fun hy => ?_) | refine guardQ_ite (fun hy => ?_) (fun hy => ?_) | refine brQ_dec (fun hy => ?_) (fun hy => ?_) | refine brQ_bool (fun hy => ?_) (fun hy => ?_)) <;> (try simp only [Bool.not_eq_true', Bool.not_eq_false', Bool.and_eq_true, Bool.or_eq_false_iff, decide_eq_true_eq, decide_eq_false_iff_not] at hy) <;> simp (disch := first | rfl | omega | exact lt_new _ | assumption | decide | (simp [tk_here, tk_app, tk_0, tk_S] <;> omega) | fail) only [r20_0, r20_1, r20_2, r20_3, r20_4, r20_5, r20_6, r20_7, r20_8, r20_9, r20_10, r20_11, r20_12, r20_13, r20_14, r20_15, r20_16, r20_17, r20_18, r20_19, r20_20, r20_21, r20_22, r20_23, r20_24, r20_26, r20_27, r20_28, r20_30, r20_31, r20_32, c20, rs20, gc20, h1', h67, unV, h3, slV_nil, go_sem, ↓reduceIte, Nat.reduceLT, Nat.reduceEqDiff, Nat.reduceAdd, Nat.reduceMul, Nat.reduceSub, Int.reduceAdd, Int.reduceSub, Nat.reduceLeDiff, Int.reduceLT, Int.reduceLE, Int.reduceEq, Int.reduceNeg, Int.reduceToNat, hy])
        all_goals (try ((first | refine finQ_same ?_ | refine finQ_app ?_ | (rw [List.append_assoc]; refine finQ_app ?_)) <;> simp (disch := first | rfl | omega | exact lt_new _ | assumption | decide | (simp [tk_here, tk_app, tk_0, tk_S] <;> omega) | fail) only [go_sem, ↓reduceIte, Nat.reduceLT, Nat.reduceEqDiff, Nat.reduceAdd, Nat.reduceMul, Nat.reduceSub, Int.reduceAdd, Int.reduceSub, Nat.reduceLeDiff, Int.reduceLT, Int.reduceLE, Int.reduceEq, Int.reduceNeg, Int.reduceToNat, List.append_assoc, List.cons_append, List.nil_append, *]))
        all_goals (try first | rfl | (simp [*]; done) | grind)
      · have hF : unpF l = upk n (l.length + 1) (l.drop j) [] := by unfold unpF; rw [if_neg h1, hu]; simp [h3]
        rw [hF]
        obtain ⟨res, hG⟩ : ∃ res, upk n (l.length + 1) (l.drop j) [] = res := ⟨_, rfl⟩
        rw [hG]
        simp (disch := first | rfl | omega | exact lt_new _ | assumption | decide | (simp [tk_here, tk_app, tk_0, tk_S] <;> omega) | fail) only [r20_0, r20_1, r20_2, r20_3, r20_4, r20_5, r20_6, r20_7, r20_8, r20_9, r20_10, r20_11, r20_12, r20_13, r20_14, r20_15, r20_16, r20_17, r20_18, r20_19, r20_20, r20_21, r20_22, r20_23, r20_24, r20_26, r20_27, r20_28, r20_30, r20_31, r20_32, c20, rs20, gc20, h1', h67, unV, h3, go_sem, ↓reduceIte, Nat.reduceLT, Nat.reduceEqDiff, Nat.reduceAdd, Nat.reduceMul, Nat.reduceSub, Int.reduceAdd, Int.reduceSub, Nat.reduceLeDiff, Int.reduceLT, Int.reduceLE, Int.reduceEq, Int.reduceNeg, Int.reduceToNat]
        repeat' ((first | refine guardB_dec (fun hy => ?_) (fun hy => ?_) | refine guardB_bool (fun hy => ?_) (fun hy => ?_) | refine guardQ_ite (fun hy => ?_) (fun hy => ?_) | refine brQ_dec (fun hy => ?_) (fun hy => ?_) | refine brQ_bool (fun hy => ?_) (fun hy => ?_)) <;> (try simp only [Bool.not_eq_true', Bool.not_eq_false', Bool.and_eq_true, Bool.or_eq_false_iff, decide_eq_true_eq, decide_eq_false_iff_not] at hy) <;> simp (disch := first | rfl | omega | exact lt_new _ | assumption | decide | (simp [tk_here, tk_app, tk_0, tk_S] <;> omega) | fail) only [r20_0, r20_1, r20_2, r20_3, r20_4, r20_5, r20_6, r20_7, r20_8, r20_9, r20_10, r20_11, r20_12, r20_13, r20_14, r20_15, r20_16, r20_17, r20_18, r20_19, r20_20, r20_21, r20_22, r20_23, r20_24, r20_26, r20_27, r20_28, r20_30, r20_31, r20_32, c20, rs20, gc20, h1', h67, unV, h3, go_sem, ↓reduceIte, Nat.reduceLT, Nat.reduceEqDiff, Nat.reduceAdd, Nat.reduceMul, Nat.reduceSub, Int.reduceAdd, Int.reduceSub, Nat.reduceLeDiff, Int.reduceLT, Int.reduceLE, Int.reduceEq, Int.reduceNeg, Int.reduceToNat, hy])
        refine Wp_loop (Up2I H b l n res) ?_ (l.length - j) _ _ _ ?_
        · intro m T D H' hI
          by_cases hm : 0 < m
          · refine up2_step hI hm (by omega) (by omega) fun T out hr q2 q3 => ?_
            simp (disch := first | rfl | omega | exact lt_new _ | assumption | decide | (simp [tk_here, tk_app, tk_0, tk_S] <;> omega) | fail) only [go_sem, ↓reduceIte, Nat.reduceLT, Nat.reduceEqDiff, Nat.reduceAdd, Nat.reduceMul, Nat.reduceSub, Int.reduceAdd, Int.reduceSub, Nat.reduceLeDiff, Int.reduceLT, Int.reduceLE, Int.reduceEq, Int.reduceNeg, Int.reduceToNat, rs20, gc20, q2, q3]
            refine finQ_app ?_
            simp (disch := first | rfl | omega | exact lt_new _ | assumption | decide | (simp [tk_here, tk_app, tk_0, tk_S] <;> omega) | fail) only [go_sem, ↓reduceIte, Nat.reduceLT, Nat.reduceEqDiff, Nat.reduceAdd, Nat.reduceMul, Nat.reduceSub, Int.reduceAdd, Int.reduceSub, Nat.reduceLeDiff, Int.reduceLT, Int.reduceLE, Int.reduceEq, Int.reduceNeg, Int.reduceToNat, hr, upV, slV_nil]
          · obtain ⟨i, out, f, rfl, hi, rfl, rfl, t0, t4, t5, t7, hres, hf, hol⟩ := hI
            obtain rfl : i = l.length := by omega
            obtain ⟨f, rfl⟩ : ∃ g, f = g + 1 := ⟨f - 1, by omega⟩
            rw [List.drop_length] at hres
            unfold upk at hres
            by_cases hol2 : (out.length : Int) = n
            · rw [if_pos hol2] at hres
              subst hol2
              rw [hres]
              simp (disch := first | rfl | omega | exact lt_new _ | assumption | decide | (simp [tk_here, tk_app, tk_0, tk_S] <;> omega) | fail) only [l20_29, r20_9, r20_30, r20_32, rs20, gc20, t0, t4, t5, t7, Int.lt_irrefl, go_sem, ↓reduceIte, Nat.reduceLT, Nat.reduceEqDiff, Nat.reduceAdd, Nat.reduceMul, Nat.reduceSub, Int.reduceAdd, Int.reduceSub, Nat.reduceLeDiff, Int.reduceLT, Int.reduceLE, Int.reduceEq, Int.reduceNeg, Int.reduceToNat]
              repeat' ((first | refine guardB_dec (fun hy => ?_) (fun hy => ?_) | refine guardB_bool (fun hy => ?_) (fun hy => ?_) | refine guardQ_ite (fun hy => ?_) (fun hy => ?_) | refine brQ_dec (fun hy => ?_) (fun hy => ?_) | refine brQ_bool (fun hy => ?_) (fun hy => ?_)) <;> (try simp only [Bool.not_eq_true', Bool.not_eq_false', Bool.and_eq_true, Bool.or_eq_false_iff, decide_eq_true_eq, decide_eq_false_iff_not] at hy) <;> simp (disch := first | rfl | omega | exact lt_new _ | assumption | decide | (simp [tk_here, tk_app, tk_0, tk_S] <;> omega) | fail) only [l20_29, r20_9, r20_30, r20_32, rs20, gc20, t0, t4, t5, t7, Int.lt_irrefl, go_sem, ↓reduceIte, Nat.reduceLT, Nat.reduceEqDiff, Nat.reduceAdd, Nat.reduceMul, Nat.reduceSub, Int.reduceAdd, Int.reduceSub, Nat.reduceLeDiff, Int.reduceLT, Int.reduceLE, Int.reduceEq, Int.reduceNeg, Int.reduceToNat, hy])
              refine finQ_app ?_
              simp (disch := first | rfl | omega | exact lt_new _ | assumption | decide | (simp [tk_here, tk_app, tk_0, tk_S] <;> omega) | fail) only [go_sem, ↓reduceIte, Nat.reduceLT, Nat.reduceEqDiff, Nat.reduceAdd, Nat.reduceMul, Nat.reduceSub, Int.reduceAdd, Int.reduceSub, Nat.reduceLeDiff, Int.reduceLT, Int.reduceLE, Int.reduceEq, Int.reduceNeg, Int.reduceToNat, upV]
            · rw [if_neg hol2] at hres
              rw [hres]
              simp (disch := first | rfl | omega | exact lt_new _ | assumption | decide | (simp [tk_here, tk_app, tk_0, tk_S] <;> omega) | fail) only [l20_29, r20_9, r20_30, r20_31, rs20, gc20, t0, t4, t5, t7, Int.lt_irrefl, hol2, go_sem, ↓reduceIte, Nat.reduceLT, Nat.reduceEqDiff, Nat.reduceAdd, Nat.reduceMul, Nat.reduceSub, Int.reduceAdd, Int.reduceSub, Nat.reduceLeDiff, Int.reduceLT, Int.reduceLE, Int.reduceEq, Int.reduceNeg, Int.reduceToNat]
              repeat' ((first | refine guardB_dec (fun hy => ?_) (fun hy => ?_) | refine guardB_bool (fun hy => ?_) (fun hy => ?_) | refine guardQ_ite (fun hy => ?_) (fun hy => ?_) | refine brQ_dec (fun hy => ?_) (fun hy => ?_) | refine brQ_bool (fun hy => ?_) (fun hy => ?_)) <;> (try simp only [Bool.not_eq_true', Bool.not_eq_false', Bool.and_eq_true, Bool.or_eq_false_iff, decide_eq_true_eq, decide_eq_false_iff_not] at hy) <;> simp (disch := first | rfl | omega | exact lt_new _ | assumption | decide | (simp [tk_here, tk_app, tk_0, tk_S] <;> omega) | fail) only [l20_29, r20_9, r20_30, r20_31, rs20, gc20, t0, t4, t5, t7, Int.lt_irrefl, hol2, go_sem, ↓reduceIte, Nat.reduceLT, Nat.reduceEqDiff, Nat.reduceAdd, Nat.reduceMul, Nat.reduceSub, Int.reduceAdd, Int.reduceSub, Nat.reduceLeDiff, Int.reduceLT, Int.reduceLE, Int.reduceEq, Int.reduceNeg, Int.reduceToNat, hy])
              refine finQ_app ?_
              simp (disch := first | rfl | omega | exact lt_new _ | assumption | decide | (simp [tk_here, tk_app, tk_0, tk_S] <;> omega) | fail) only [go_sem, ↓reduceIte, Nat.reduceLT, Nat.reduceEqDiff, Nat.reduceAdd, Nat.reduceMul, Nat.reduceSub, Int.reduceAdd, Int.reduceSub, Nat.reduceLeDiff, Int.reduceLT, Int.reduceLE, Int.reduceEq, Int.reduceNeg, Int.reduceToNat, upV, slV_nil]
        · refine ⟨j, [], l.length + 1, rfl, hj, rfl, rfl, ?_, ?_, ?_, ?_, hG.symm, by omega, by simp⟩
          all_goals simp (disch := first | rfl | omega | exact lt_new _ | assumption | decide | (simp [tk_here, tk_app, tk_0, tk_S] <;> omega) | fail) only [go_sem, ↓reduceIte, Nat.reduceLT, Nat.reduceEqDiff, Nat.reduceAdd, Nat.reduceMul, Nat.reduceSub, Int.reduceAdd, Int.reduceSub, Nat.reduceLeDiff, Int.reduceLT, Int.reduceLE, Int.reduceEq, Int.reduceNeg, Int.reduceToNat, osV_nil]
    · have hF : unpF l = ([], e) := by unfold unpF; rw [if_neg h1, hu]; simp [h2]
      rw [hF]
      unfold upV
      simp (disch := first | rfl | omega | exact lt_new _ | assumption | decide | (simp [tk_here, tk_app, tk_0, tk_S] <;> omega) | fail) only [r20_0, r20_1, r20_2, r20_3, r20_4, r20_5, r20_6, r20_7, r20_8, r20_9, r20_10, r20_11, r20_12, r20_13, r20_14, r20_15, r20_16, r20_17, r20_18, r20_19, r20_20, r20_21, r20_22, r20_23, r20_24, r20_26, r20_27, r20_28, r20_30, r20_31, r20_32, c20, rs20, gc20, h1', h67, unV, h2, slV_nil, go_sem, ↓reduceIte, Nat.reduceLT, Nat.reduceEqDiff, Nat.reduceAdd, Nat.reduceMul, Nat.reduceSub, Int.reduceAdd, Int.reduceSub, Nat.reduceLeDiff, Int.reduceLT, Int.reduceLE, Int.reduceEq, Int.reduceNeg, Int.reduceToNat]
      repeat' ((first | refine guardB_dec (fun hy => ?_) (fun hy => ?_) | refine guardB_bool (fun hy => ?_) (fun hy => ?_) | refine guardQ_ite (fun hy => ?_) (fun hy => ?_) | refine brQ_dec (fun hy => ?_) (fun hy => ?_) | refine brQ_bool (fun hy => ?_) (fun hy => ?_)) <;> (try simp only [Bool.not_eq_true', Bool.not_eq_false', Bool.and_eq_true, Bool.or_eq_false_iff, decide_eq_true_eq, decide_eq_false_iff_not] at hy) <;> simp (disch := first | rfl | omega | exact lt_new _ | assumption | decide | (simp [tk_here, tk_app, tk_0, tk_S] <;> omega) | fail) only [r20_0, r20_1, r20_2, r20_3, r20_4, r20_5, r20_6, r20_7, r20_8, r20_9, r20_10, r20_11, r20_12, r20_13, r20_14, r20_15, r20_16, r20_17, r20_18, r20_19, r20_20, r20_21, r20_22, r20_23, r20_24, r20_26, r20_27, r20_28, r20_30, r20_31, r20_32, c20, rs20, gc20, h1', h67, unV, h2, slV_nil, go_sem, ↓reduceIte, Nat.reduceLT, Nat.reduceEqDiff, Nat.reduceAdd, Nat.reduceMul, Nat.reduceSub, Int.reduceAdd, Int.reduceSub, Nat.reduceLeDiff, Int.reduceLT, Int.reduceLE, Int.reduceEq, Int.reduceNeg, Int.reduceToNat, hy])
      all_goals (try ((first | refine finQ_same ?_ | refine finQ_app ?_ | (rw [List.append_assoc]; refine finQ_app ?_)) <;> simp (disch := first | rfl | omega | exact lt_new _ | assumption | decide | (simp [tk_here, tk_app, tk_0, tk_S] <;> omega) | fail) only [go_sem, ↓reduceIte, Nat.reduceLT, Nat.reduceEqDiff, Nat.reduceAdd, Nat.reduceMul, Nat.reduceSub, Int.reduceAdd, Int.reduceSub, Nat.reduceLeDiff, Int.reduceLT, Int.reduceLE, Int.reduceEq, Int.reduceNeg, Int.reduceToNat, List.append_assoc, List.cons_append, List.nil_append, *]))
      all_goals (try first | rfl | (simp [*]; done) | grind)
theorem fn4 {b : Bool} {l : List UInt8} (H : Hp) : callL Try.prog pr 4 [slV b byE l] H = some (.bool true, H) := by
  refine run4 (Nat.le_of_ble_eq_true rfl) ?_
  by_cases h : 400000 < l.length
  · have h' : (400000 : Int) < l.length := by omega
    simp (disch := first | rfl | omega | exact lt_new _ | assumption | decide | (simp [tk_here, tk_app, tk_0, tk_S] <;> omega) | fail) only [r4_0, r4_1, r4_2, r4_3, r4_4, r4_5, c4, rs4, gc4, known_call, h', go_sem, ↓reduceIte, Nat.reduceLT, Nat.reduceEqDiff, Nat.reduceAdd, Nat.reduceMul, Nat.reduceSub, Int.reduceAdd, Int.reduceSub, Nat.reduceLeDiff, Int.reduceLT, Int.reduceLE, Int.reduceEq, Int.reduceNeg, Int.reduceToNat]
    repeat' ((first | refine guardB_dec (fun hy => ?_) (fun hy => ?_) | refine guardB_bool (fun hy => ?_) (fun hy => ?_) | refine guardQ_ite (fun hy => ?_) (fun hy => ?_) | refine brQ_dec (fun hy => ?_) (fun hy => ?_) | refine brQ_bool (fun hy => ?_) (fun hy => ?_)) <;> (try simp only [Bool.not_eq_true', Bool.not_eq_false', Bool.and_eq_true, Bool.or_eq_false_iff, decide_eq_true_eq, decide_eq_false_iff_not] at hy) <;> simp (disch := first | rfl | omega | exact lt_new _ | assumption | decide | (simp [tk_here, tk_app, tk_0, tk_S] <;> omega) | fail) only [r4_0, r4_1, r4_2, r4_3, r4_4, r4_5, c4, rs4, gc4, known_call, h', go_sem, ↓reduceIte, Nat.reduceLT, Nat.reduceEqDiff, Nat.reduceAdd, Nat.reduceMul, Nat.reduceSub, Int.reduceAdd, Int.reduceSub, Nat.reduceLeDiff, Int.reduceLT, Int.reduceLE, Int.reduceEq, Int.reduceNeg, Int.reduceToNat, hy])
    all_goals (try ((first | refine finQ_same ?_ | refine finQ_app ?_ | (rw [List.append_assoc]; refine finQ_app ?_)) <;> simp (disch := first | rfl | omega | exact lt_new _ | assumption | decide | (simp [tk_here, tk_app, tk_0, tk_S] <;> omega) | fail) only [go_sem, ↓reduceIte, Nat.reduceLT, Nat.reduceEqDiff, Nat.reduceAdd, Nat.reduceMul, Nat.reduceSub, Int.reduceAdd, Int.reduceSub, Nat.reduceLeDiff, Int.reduceLT, Int.reduceLE, Int.reduceEq, Int.reduceNeg, Int.reduceToNat, List.append_assoc, List.cons_append, List.nil_append, *]))
    all_goals (try first | rfl | (simp [*]; done) | grind)
  · have h' : ¬ (400000 : Int) < l.length := by omega
    have h19 := fun H => fn19 (b := b) (l := l) (by omega) H
    have h20 := fun H => fn20 (b := b) (l := l) (by omega) H
    obtain ⟨⟨c, e⟩, hr⟩ : ∃ r, unpF l = r := ⟨_, rfl⟩
    rw [hr] at h19 h20
    simp (disch := first | rfl | omega | exact lt_new _ | assumption | decide | (simp [tk_here, tk_app, tk_0, tk_S] <;> omega) | fail) only [r4_0, r4_1, r4_2, r4_3, r4_4, r4_5, c4, rs4, gc4, known_call, h19, h20, upV, h', go_sem, ↓reduceIte, Nat.reduceLT, Nat.reduceEqDiff, Nat.reduceAdd, Nat.reduceMul, Nat.reduceSub, Int.reduceAdd, Int.reduceSub, Nat.reduceLeDiff, Int.reduceLT, Int.reduceLE, Int.reduceEq, Int.reduceNeg, Int.reduceToNat]
    repeat' ((first | refine guardB_dec (fun hy => ?_) (fun hy => ?_) | refine guardB_bool (fun hy => ?_) (fun hy => ?_) | refine guardQ_ite (fun hy => ?_) (fun hy => ?_) | refine brQ_dec (fun hy => ?_) (fun hy => ?_) | refine brQ_bool (fun hy => ?_) (fun hy => ?_)) <;> (try simp only [Bool.not_eq_true', Bool.not_eq_false', Bool.and_eq_true, Bool.or_eq_false_iff, decide_eq_true_eq, decide_eq_false_iff_not] at hy) <;> simp (disch := first | rfl | omega | exact lt_new _ | assumption | decide | (simp [tk_here, tk_app, tk_0, tk_S] <;> omega) | fail) only [r4_0, r4_1, r4_2, r4_3, r4_4, r4_5, c4, rs4, gc4, known_call, h19, h20, upV, h', go_sem, ↓reduceIte, Nat.reduceLT, Nat.reduceEqDiff, Nat.reduceAdd, Nat.reduceMul, Nat.reduceSub, Int.reduceAdd, Int.reduceSub, Nat.reduceLeDiff, Int.reduceLT, Int.reduceLE, Int.reduceEq, Int.reduceNeg, Int.reduceToNat, hy])
    all_goals (try ((first | refine finQ_same ?_ | refine finQ_app ?_ | (rw [List.append_assoc]; refine finQ_app ?_)) <;> simp (disch := first | rfl | omega | exact lt_new _ | assumption | decide | (simp [tk_here, tk_app, tk_0, tk_S] <;> omega) | fail) only [go_sem, ↓reduceIte, Nat.reduceLT, Nat.reduceEqDiff, Nat.reduceAdd, Nat.reduceMul, Nat.reduceSub, Int.reduceAdd, Int.reduceSub, Nat.reduceLeDiff, Int.reduceLT, Int.reduceLE, Int.reduceEq, Int.reduceNeg, Int.reduceToNat, List.append_assoc, List.cons_append, List.nil_append, *]))
    all_goals (try first | rfl | (simp [*]; done) | grind)
end Go.Proofs.Ytejkgnmjdaohdaa
