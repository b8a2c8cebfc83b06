/-
  The abstract machine, part ZC: how simp steps through code in short form. No statement of the seat stands here.
-/
import Derived.Test.YtdpdlobaabcjjaaAmZB
namespace Go.Am
open Go

section
variable {P : Program} {cl : CallT} {N n0 : Nat} {T : Fr} {D : Dfr} {H : Hp} {Q : Fr → Dfr → Hp → Prop} {R : Ex → Fr → Dfr → Hp → Prop} {rest : List Co}

@[go_sem] theorem bindW_some {α : Type} (a : α) (k : α → Prop) : bindW (some a) k = k a := by simp [bindW]
/-- A branch, as data: nothing is stepped into before the test is settled. -/
def brQ (P : Program) (cl : CallT) (N : Nat) (v : V) (a b : Cc) (T : Fr) (D : Dfr) (H : Hp) (R : Ex → Fr → Dfr → Hp → Prop) : Prop := ∃ x, v = .bool x ∧ (x = true → Wp P cl N a T D H R) ∧ (x = false → Wp P cl N b T D H R)
@[go_sem] theorem brQ_t (a b : Cc) : brQ P cl N (.bool true) a b T D H R = Wp P cl N a T D H R := by simp [brQ]
@[go_sem] theorem brQ_f (a b : Cc) : brQ P cl N (.bool false) a b T D H R = Wp P cl N b T D H R := by simp [brQ]
theorem brQ_dec {p : Prop} [Decidable p] {a b : Cc} (h1 : p → Wp P cl N a T D H R) (h2 : ¬ p → Wp P cl N b T D H R) : brQ P cl N (.bool (decide p)) a b T D H R := ⟨_, rfl, fun h => h1 (of_decide_eq_true h), fun h => h2 (of_decide_eq_false h)⟩
theorem brQ_bool {x : Bool} {a b : Cc} (h1 : x = true → Wp P cl N a T D H R) (h2 : x = false → Wp P cl N b T D H R) : brQ P cl N (.bool x) a b T D H R := ⟨_, rfl, h1, h2⟩
@[go_sem] theorem stillP_f (n : Nat) (x y : Hp) : stillP false n x y = True := by simp [stillP]
@[go_sem] theorem stillP_t (n : Nat) (x y : Hp) : stillP true n x y = (x.take n = y.take n) := by simp [stillP]
/-- What a reader has read is a value that is equal to itself. -/
def selfO (x : Option V) : Prop := ∃ v, x = some v ∧ eqA v v = true
@[go_sem] theorem selfO_some (v : V) : selfO (some v) = (eqA v v = true) := by simp [selfO]
@[go_sem] theorem selfP_f (n : Nat) (o : Op) : selfP P false n o T H = True := by simp [selfP]
@[go_sem] theorem readP_nil (H' : Hp) : readP P [] T H H' = True := rfl
@[go_sem] theorem readP_none (o : Op) (rs : List (Option (Nat × Bool) × Op)) (H' : Hp) : readP P ((none, o) :: rs) T H H' = (readO (opV P o T H) (opV P o T H') ∧ readP P rs T H H') := rfl
def guardV (v : V) (w : Bool) (c : Prop) : Prop := ∃ x, wantB v w = some x ∧ (x = true → c)
@[go_sem] theorem guardV_tup (vs : List V) (w : Bool) (c : Prop) : guardV (.tup vs) w c = True := by simp [guardV, wantB]
@[go_sem] theorem guardV_tt (c : Prop) : guardV (.bool true) true c = c := by simp [guardV, wantB]
@[go_sem] theorem guardV_tf (c : Prop) : guardV (.bool true) false c = True := by simp [guardV, wantB]
@[go_sem] theorem guardV_ft (c : Prop) : guardV (.bool false) true c = True := by simp [guardV, wantB]
@[go_sem] theorem guardV_ff (c : Prop) : guardV (.bool false) false c = c := by simp [guardV, wantB]
@[go_sem] theorem readP_some (j : Nat) (w : Bool) (o : Op) (rs : List (Option (Nat × Bool) × Op)) (H' : Hp) : readP P ((some (j, w), o) :: rs) T H H' = (guardV (get T j) w (readO (opV P o T H) (opV P o T H')) ∧ readP P rs T H H') := rfl
/-- Read the same twice. -/
def readV (x y : Option V) : Prop := ∃ a b, x = some a ∧ y = some b ∧ b = a ∧ eqA a a = true
@[go_sem] theorem readV_some (a b : V) : readV (some a) (some b) = (b = a ∧ eqA a a = true) := by simp [readV]
theorem readO_of {x y : Option V} {H H' : Hp} : readO (x.map fun v => (v, H)) (y.map fun v => (v, H')) = readV x y := by
  simp only [readO, readV, eq_iff_iff]
  constructor
  · rintro ⟨a, b, h1, h2, h3, h4⟩
    obtain ⟨v, h5, rfl⟩ := Option.map_eq_some_iff.1 h1
    obtain ⟨w, h6, rfl⟩ := Option.map_eq_some_iff.1 h2
    exact ⟨v, w, h5, h6, h3, h4⟩
  · rintro ⟨a, b, rfl, rfl, h3, h4⟩
    exact ⟨_, _, rfl, rfl, h3, h4⟩
@[go_sem] theorem readO_load (t : TypeId) (a : Operand) (H' : Hp) : readO (opV P (.load t a) T H) (opV P (.load t a) T H') = readV (loadV P t H (ev T a)) (loadV P t H' (ev T a)) := readO_of
@[go_sem] theorem readO_lookup (t : TypeId) (x i : Operand) (ok : Bool) (H' : Hp) : readO (opV P (.lookup t x i ok) T H) (opV P (.lookup t x i ok) T H') = readV (lookupV P t H (ev T x) (ev T i) ok) (lookupV P t H' (ev T x) (ev T i) ok) := readO_of
@[go_sem] theorem readO_slice (t : TypeId) (x : Operand) (lo hi : Option Operand) (H' : Hp) : readO (opV P (.slice t x lo hi none) T H) (opV P (.slice t x lo hi none) T H') = readV (sliceV P t H (ev T x) (lo.map (ev T)) (hi.map (ev T))) (sliceV P t H' (ev T x) (lo.map (ev T)) (hi.map (ev T))) := readO_of
def lenL (P : Program) (t : TypeId) (H : Hp) : List V → Option V
  | [x] => lenV P t H x
  | _ => none
@[go_sem] theorem lenL_one (t : TypeId) (x : V) : lenL P t H [x] = lenV P t H x := rfl
@[go_sem] theorem readO_len (as : Array Operand) (t : TypeId) (ts : List TypeId) (H' : Hp) : readO (opV P (.call ⟨.builtin .len, as, List.toArray (t :: ts)⟩) T H) (opV P (.call ⟨.builtin .len, as, List.toArray (t :: ts)⟩) T H') = readV (lenL P t H (as.toList.map (ev T))) (lenL P t H' (as.toList.map (ev T))) := by
  have h : ∀ H, opV P (.call ⟨.builtin .len, as, List.toArray (t :: ts)⟩) T H = (lenL P t H (as.toList.map (ev T))).map fun v => (v, H) := by
    intro H
    simp only [opV, builtinV]
    generalize as.toList.map (ev T) = l
    match l with
    | [x] => rfl
    | [] => rfl
    | _ :: _ :: _ => rfl
  rw [h, h, readO_of]
/-- The one element of a list. -/
def bindO (l : List V) (k : V → Prop) : Prop := ∃ x, l = [x] ∧ k x
theorem selfP_of {n : Nat} {o : Op} {x : Option V} (h : opV P o T (H.take n) = x.map fun v => (v, H.take n)) : selfP P true n o T H = selfO x := by
  simp only [selfP, true_implies, h, selfO, eq_iff_iff]
  constructor
  · rintro ⟨r, h1, h2⟩
    obtain ⟨v, h3, rfl⟩ := Option.map_eq_some_iff.1 h1
    exact ⟨v, h3, h2⟩
  · rintro ⟨v, rfl, h2⟩
    exact ⟨_, rfl, h2⟩
@[go_sem] theorem selfP_load (n : Nat) (t : TypeId) (a : Operand) : selfP P true n (.load t a) T H = selfO (loadV P t (H.take n) (ev T a)) := selfP_of rfl
@[go_sem] theorem selfP_lookup (n : Nat) (t : TypeId) (x i : Operand) (ok : Bool) : selfP P true n (.lookup t x i ok) T H = selfO (lookupV P t (H.take n) (ev T x) (ev T i) ok) := selfP_of rfl
@[go_sem] theorem selfP_slice (n : Nat) (t : TypeId) (x : Operand) (lo hi : Option Operand) : selfP P true n (.slice t x lo hi none) T H = selfO (sliceV P t (H.take n) (ev T x) (lo.map (ev T)) (hi.map (ev T))) := selfP_of rfl
@[go_sem] theorem selfP_len (n : Nat) (as : Array Operand) (t : TypeId) (ts : List TypeId) : selfP P true n (.call ⟨.builtin .len, as, List.toArray (t :: ts)⟩) T H = bindO (as.toList.map (ev T)) fun x => selfO (lenV P t (H.take n) x) := by
  simp only [selfP, true_implies, opV, builtinV, selfO, bindO, eq_iff_iff]
  generalize as.toList.map (ev T) = l
  constructor
  · rintro ⟨r, h1, h2⟩
    match l, h1 with
    | [x], h1 =>
      obtain ⟨v, h3, rfl⟩ := Option.map_eq_some_iff.1 h1
      exact ⟨x, rfl, v, h3, h2⟩
    | [], h1 => cases h1
    | _ :: _ :: _, h1 => cases h1
  · rintro ⟨x, rfl, v, h1, h2⟩
    simp only [h1]
    exact ⟨_, rfl, h2⟩
@[go_sem] theorem bindO_one (v : V) (k : V → Prop) : bindO [v] k = k v := by simp [bindO]
@[go_sem] theorem eqA_int (k : IntKind) (n : Int) : eqA (.int k n) (.int k n) = true := by simp [eqA, eqC, eqBase]
@[go_sem] theorem eqA_bool (c : Bool) : eqA (.bool c) (.bool c) = true := by simp [eqA, eqC, eqBase]
@[go_sem] theorem eqA_str (c : List UInt8) : eqA (.str c) (.str c) = true := by simp [eqA, eqC, eqBase]
@[go_sem] theorem eqA_agg (cs : List V) : eqA (.agg cs) (.agg cs) = eqList eqC cs cs := rfl
@[go_sem] theorem eqA_nilslice : eqA .nilslice .nilslice = true := rfl
@[go_sem] theorem eqA_slice (a b c d e : Nat) (cp : Cap) : eqA (.slice a b c d e cp) (.slice a b c d e cp) = true := by cases cp <;> simp [eqA, eqC, eqBase]
@[go_sem] theorem eqA_ptr (a b c : Nat) : eqA (.ptr a b c) (.ptr a b c) = true := by simp [eqA, eqC, eqBase]
@[go_sem] theorem eqA_map (a : Nat) : eqA (.map a) (.map a) = true := by simp [eqA, eqC, eqBase]
@[go_sem] theorem take_len (l : Hp) : l.take l.length = l := List.take_length
@[go_sem] theorem take_app1 (l a : Hp) : (l ++ a).take l.length = l := List.take_left' rfl
@[go_sem] theorem take_app2 (l a b : Hp) : ((l ++ a) ++ b).take l.length = l := by rw [List.append_assoc, take_app1]
@[go_sem] theorem take_app3 (l a b c : Hp) : (((l ++ a) ++ b) ++ c).take l.length = l := by rw [List.append_assoc, take_app2]
@[go_sem] theorem take_app4 (l a b c d : Hp) : ((((l ++ a) ++ b) ++ c) ++ d).take l.length = l := by rw [List.append_assoc, take_app3]

@[go_sem] theorem W_nil : W P cl N n0 [] T D H Q = Q T D H := rfl
/-- What follows a step, as data. -/
def stepQ (P : Program) (cl : CallT) (N n0 : Nat) (x : Option (V × Dfr × Hp)) (d : Option Nat) (a : Bool) (rs : List (Option (Nat × Bool) × Op)) (rest : List Co) (T : Fr) (H : Hp) (Q : Fr → Dfr → Hp → Prop) : Prop := ∃ q, x = some q ∧ (stillP a n0 q.2.2 H ∧ readP P rs T H q.2.2 ∧ W P cl N n0 rest (putO T d q.1) q.2.1 q.2.2 Q)
def guardQ (P : Program) (cl : CallT) (N n0 : Nat) (v : V) (w : Bool) (o : Op) (d : Option Nat) (a b : Bool) (rs : List (Option (Nat × Bool) × Op)) (rest : List Co) (T : Fr) (D : Dfr) (H : Hp) (Q : Fr → Dfr → Hp → Prop) : Prop := ∃ x, wantB v w = some x ∧ (x = true → selfP P b n0 o T H ∧ stepQ P cl N n0 (stepW P cl o T D H) d a rs rest T H Q) ∧ (x = false → W P cl N n0 rest (putO T d (.tup [])) D H Q)
@[go_sem] theorem stepQ_some (v : V) (D' : Dfr) (H' : Hp) (d : Nat) (a : Bool) (rs : List (Option (Nat × Bool) × Op)) : stepQ P cl N n0 (some (v, D', H')) (some d) a rs rest T H Q = (stillP a n0 H' H ∧ readP P rs T H H' ∧ W P cl N n0 rest (put T d v) D' H' Q) := by simp [stepQ, putO]
@[go_sem] theorem stepQ_some0 (v : V) (D' : Dfr) (H' : Hp) (a : Bool) (rs : List (Option (Nat × Bool) × Op)) : stepQ P cl N n0 (some (v, D', H')) none a rs rest T H Q = (stillP a n0 H' H ∧ readP P rs T H H' ∧ W P cl N n0 rest T D' H' Q) := by simp [stepQ, putO]
@[go_sem] theorem guardQ_tt (o : Op) (d : Option Nat) (a b : Bool) (rs : List (Option (Nat × Bool) × Op)) : guardQ P cl N n0 (.bool true) true o d a b rs rest T D H Q = (selfP P b n0 o T H ∧ stepQ P cl N n0 (stepW P cl o T D H) d a rs rest T H Q) := by simp [guardQ, wantB]
@[go_sem] theorem guardQ_ff (o : Op) (d : Option Nat) (a b : Bool) (rs : List (Option (Nat × Bool) × Op)) : guardQ P cl N n0 (.bool false) false o d a b rs rest T D H Q = (selfP P b n0 o T H ∧ stepQ P cl N n0 (stepW P cl o T D H) d a rs rest T H Q) := by simp [guardQ, wantB]
@[go_sem] theorem guardQ_tf (o : Op) (d : Nat) (a b : Bool) (rs : List (Option (Nat × Bool) × Op)) : guardQ P cl N n0 (.bool true) false o (some d) a b rs rest T D H Q = W P cl N n0 rest (put T d (.tup [])) D H Q := by simp [guardQ, putO, wantB]
@[go_sem] theorem guardQ_ft (o : Op) (d : Nat) (a b : Bool) (rs : List (Option (Nat × Bool) × Op)) : guardQ P cl N n0 (.bool false) true o (some d) a b rs rest T D H Q = W P cl N n0 rest (put T d (.tup [])) D H Q := by simp [guardQ, putO, wantB]
@[go_sem] theorem guardQ_tf0 (o : Op) (a b : Bool) (rs : List (Option (Nat × Bool) × Op)) : guardQ P cl N n0 (.bool true) false o none a b rs rest T D H Q = W P cl N n0 rest T D H Q := by simp [guardQ, putO, wantB]
@[go_sem] theorem guardQ_ft0 (o : Op) (a b : Bool) (rs : List (Option (Nat × Bool) × Op)) : guardQ P cl N n0 (.bool false) true o none a b rs rest T D H Q = W P cl N n0 rest T D H Q := by simp [guardQ, putO, wantB]
@[go_sem] theorem guardQ_tup (vs : List V) (w : Bool) (o : Op) (d : Nat) (a b : Bool) (rs : List (Option (Nat × Bool) × Op)) : guardQ P cl N n0 (.tup vs) w o (some d) a b rs rest T D H Q = W P cl N n0 rest (put T d (.tup [])) D H Q := by simp [guardQ, putO, wantB]
@[go_sem] theorem guardQ_tup0 (vs : List V) (w : Bool) (o : Op) (a b : Bool) (rs : List (Option (Nat × Bool) × Op)) : guardQ P cl N n0 (.tup vs) w o none a b rs rest T D H Q = W P cl N n0 rest T D H Q := by simp [guardQ, putO, wantB]
@[go_sem] theorem W_c (d : Nat) (o : Op) (a b : Bool) (rs : List (Option (Nat × Bool) × Op)) : W P cl N n0 (⟨some d, o, none, a, b, rs⟩ :: rest) T D H Q = (d < N ∧ selfP P b n0 o T H ∧ stepQ P cl N n0 (stepW P cl o T D H) (some d) a rs rest T H Q) := by
  simp only [W, bindW, dOk, stepQ, eq_iff_iff]
  constructor
  · rintro ⟨q, h1, h2, h3, h4, h5⟩; exact ⟨h2, h4, q, h1, h3, h5⟩
  · rintro ⟨h2, h4, q, h1, h3, h5⟩; exact ⟨q, h1, h2, h3, h4, h5⟩
@[go_sem] theorem W_c0 (o : Op) (a b : Bool) (rs : List (Option (Nat × Bool) × Op)) : W P cl N n0 (⟨none, o, none, a, b, rs⟩ :: rest) T D H Q = (selfP P b n0 o T H ∧ stepQ P cl N n0 (stepW P cl o T D H) none a rs rest T H Q) := by
  simp only [W, bindW, dOk, stepQ, true_and, eq_iff_iff]
  constructor
  · rintro ⟨q, h1, h3, h4, h5⟩; exact ⟨h4, q, h1, h3, h5⟩
  · rintro ⟨h4, q, h1, h3, h5⟩; exact ⟨q, h1, h3, h4, h5⟩
@[go_sem] theorem W_g (d : Nat) (o : Op) (j : Nat) (w a b : Bool) (rs : List (Option (Nat × Bool) × Op)) : W P cl N n0 (⟨some d, o, some (j, w), a, b, rs⟩ :: rest) T D H Q = (d < N ∧ guardQ P cl N n0 (get T j) w o (some d) a b rs rest T D H Q) := by
  simp only [W, bindW, dOk, stepQ, guardQ, eq_iff_iff]
  constructor
  · rintro ⟨x, h1, h2, h3, h4⟩
    refine ⟨h2, x, h1, fun e => ?_, h4⟩
    obtain ⟨q, h5, h6, h7, h8⟩ := h3 e
    exact ⟨h7, q, h5, h6, h8⟩
  · rintro ⟨h2, x, h1, h3, h4⟩
    refine ⟨x, h1, h2, fun e => ?_, h4⟩
    obtain ⟨h7, q, h5, h6, h8⟩ := h3 e
    exact ⟨q, h5, h6, h7, h8⟩
@[go_sem] theorem W_g0 (o : Op) (j : Nat) (w a b : Bool) (rs : List (Option (Nat × Bool) × Op)) : W P cl N n0 (⟨none, o, some (j, w), a, b, rs⟩ :: rest) T D H Q = guardQ P cl N n0 (get T j) w o none a b rs rest T D H Q := by
  simp only [W, bindW, dOk, stepQ, guardQ, eq_iff_iff, true_and]
  constructor
  · rintro ⟨x, h1, h3, h4⟩
    refine ⟨x, h1, fun e => ?_, h4⟩
    obtain ⟨q, h5, h6, h7, h8⟩ := h3 e
    exact ⟨h7, q, h5, h6, h8⟩
  · rintro ⟨x, h1, h3, h4⟩
    refine ⟨x, h1, fun e => ?_, h4⟩
    obtain ⟨h7, q, h5, h6, h8⟩ := h3 e
    exact ⟨q, h5, h6, h7, h8⟩

@[go_sem] theorem get_put_eq (T : Fr) (d : Nat) (v : V) (i : Nat) : get (put T d v) i = if i = d then v else get T i := get_put T d v i
@[go_sem] theorem get_cons0 (v : V) (T : Fr) : get (v :: T) 0 = v := rfl
@[go_sem] theorem get_consS (v : V) (T : Fr) (i : Nat) : get (v :: T) (i + 1) = get T i := rfl
@[go_sem] theorem ev_tmp (t : Nat) : ev T (.tmp t) = get T t := rfl
@[go_sem] theorem ev_func (f : Nat) : ev T (.func f) = .fn f [] [] := rfl
@[go_sem] theorem ev_int (k : IntKind) (n : Int) : ev T (.const (.int k n)) = .int k n := rfl
@[go_sem] theorem ev_bool (b : Bool) : ev T (.const (.bool b)) = .bool b := rfl
@[go_sem] theorem ev_str (a : Array UInt8) : ev T (.const (.string ⟨a⟩)) = .str a.toList := rfl
@[go_sem] theorem ev_nilptr : ev T (.const (.pointer none)) = .nilptr := rfl
@[go_sem] theorem ev_nilslice : ev T (.const (.slice none 0 0)) = .nilslice := rfl
@[go_sem] theorem ev_nilmap : ev T (.const (.map none)) = .nilmap := rfl
@[go_sem] theorem ev_nilfn : ev T (.const .nilFunc) = .nilfn := rfl
@[go_sem] theorem ev_agg (cs : Array Value) : ev T (.const (.agg cs)) = .agg (cs.toList.map ofCell) := rfl
@[go_sem] theorem ofCell_int (k : IntKind) (n : Int) : ofCell (.int k n) = .int k n := rfl
@[go_sem] theorem ofCell_bool (b : Bool) : ofCell (.bool b) = .bool b := rfl
@[go_sem] theorem ofCell_str (a : Array UInt8) : ofCell (.string ⟨a⟩) = .str a.toList := rfl
@[go_sem] theorem ofCell_nilptr : ofCell (.pointer none) = .nilptr := rfl
@[go_sem] theorem ofCell_nilslice : ofCell (.slice none 0 0) = .nilslice := rfl
@[go_sem] theorem ofCell_nilmap : ofCell (.map none) = .nilmap := rfl

/-! Steps. -/
def mapS (D : Dfr) (x : Option (V × Hp)) : Option (V × Dfr × Hp) := x.map fun q => (q.1, D, q.2)
def mapV (D : Dfr) (H : Hp) (x : Option V) : Option (V × Dfr × Hp) := x.map fun v => (v, D, H)
def mapH (D : Dfr) (x : Option Hp) : Option (V × Dfr × Hp) := x.map fun h => (.tup [], D, h)
@[go_sem] theorem mapS_some (v : V) (h : Hp) : mapS D (some (v, h)) = some (v, D, h) := rfl
@[go_sem] theorem mapV_some (v : V) : mapV D H (some v) = some (v, D, H) := rfl
@[go_sem] theorem mapH_some (h : Hp) : mapH D (some h) = some (.tup [], D, h) := rfl
theorem map_map_V (x : Option V) : (x.map fun v => (v, H)).map (fun q : V × Hp => (q.1, D, q.2)) = mapV D H x := by cases x <;> rfl
theorem map_map_H (x : Option Hp) : (x.map fun h => (V.tup [], h)).map (fun q : V × Hp => (q.1, D, q.2)) = mapH D x := by cases x <;> rfl

@[go_sem] theorem s_move (x : Operand) : stepW P cl (.move x) T D H = some (ev T x, D, H) := rfl
@[go_sem] theorem s_assign (x : Operand) : stepW P cl (.assign x) T D H = some (ev T x, D, H) := rfl
def pickV : V → V → V → Option V
  | .bool true, a, _ => some a
  | .bool false, _, b => some b
  | _, _, _ => none
@[go_sem] theorem pickV_t (a b : V) : pickV (.bool true) a b = some a := rfl
@[go_sem] theorem pickV_f (a b : V) : pickV (.bool false) a b = some b := rfl
@[go_sem] theorem s_pick (c a b : Operand) : stepW P cl (.pick c a b) T D H = mapV D H (pickV (ev T c) (ev T a) (ev T b)) := by
  simp only [stepW, opV]
  generalize ev T c = v
  cases v with
  | bool b => cases b <;> rfl
  | _ => rfl
@[go_sem] theorem s_alloc (e : TypeId) : stepW P cl (.alloc e) T D H = mapS D ((zeroV P e).bind fun z => newRowV z.cells H) := rfl
@[go_sem] theorem s_box (e : TypeId) (x : Operand) : stepW P cl (.box e x) T D H = mapS D (newRowV (ev T x).cells H) := rfl
@[go_sem] theorem s_build (t : TypeId) (ps : Array (Nat × Operand)) : stepW P cl (.build t ps) T D H = mapV D H (buildV P t (ps.toList.map fun p => (p.1, ev T p.2))) := map_map_V _
@[go_sem] theorem s_buildSlice (t : TypeId) (n : Nat) (ps : Array (Nat × Operand)) : stepW P cl (.buildSlice t n ps) T D H = mapS D (buildSliceV P t n (ps.toList.map fun p => (p.1, ev T p.2)) H) := rfl
@[go_sem] theorem s_load (t : TypeId) (a : Operand) : stepW P cl (.load t a) T D H = mapV D H (loadV P t H (ev T a)) := map_map_V _
@[go_sem] theorem s_store (t : TypeId) (a x : Operand) : stepW P cl (.store t a x) T D H = mapH D (storeV P t H (ev T a) (ev T x)) := map_map_H _
def nilckV : V → Option V
  | .ptr id g off => some (.ptr id g off)
  | .fn f a b => some (.fn f a b)
  | _ => none
@[go_sem] theorem nilckV_ptr (id g off : Nat) : nilckV (.ptr id g off) = some (.ptr id g off) := rfl
@[go_sem] theorem nilckV_fn (f : Nat) (a b : List V) : nilckV (.fn f a b) = some (.fn f a b) := rfl
@[go_sem] theorem s_nilck (x : Operand) : stepW P cl (.nilCheck x) T D H = mapV D H (nilckV (ev T x)) := by
  simp only [stepW, opV]
  generalize ev T x = v
  cases v <;> rfl
@[go_sem] theorem s_bin (op : BinOp) (t : TypeId) (x y : Operand) (u : TypeId) : stepW P cl (.binOp op t x y u) T D H = mapV D H (binV P op t (ev T x) (ev T y)) := map_map_V _
@[go_sem] theorem s_un (op : UnOp) (t : TypeId) (x : Operand) : stepW P cl (.unOp op t x) T D H = mapV D H (unV op (ev T x)) := map_map_V _
@[go_sem] theorem s_conv (s d : TypeId) (x : Operand) : stepW P cl (.convert s d x) T D H = mapS D (convV P s d H (ev T x)) := rfl
@[go_sem] theorem s_func (f : Nat) (a b : Array Operand) : stepW P cl (.makeFunc (.func f) a b) T D H = mapV D H (if (a.toList.map (ev T)).all V.isBase = true ∧ (b.toList.map (ev T)).all V.isBase = true then some (.fn f (a.toList.map (ev T)) (b.toList.map (ev T))) else none) := by
  simp only [stepW, opV]; split <;> rfl
@[go_sem] theorem s_makeSlice (t : TypeId) (l c : Operand) : stepW P cl (.makeSlice t l c) T D H = mapS D (makeSliceV P t H (ev T l) (ev T c)) := rfl
@[go_sem] theorem s_slice (t : TypeId) (x : Operand) (lo hi : Option Operand) : stepW P cl (.slice t x lo hi none) T D H = mapV D H (sliceV P t H (ev T x) (lo.map (ev T)) (hi.map (ev T))) := map_map_V _
@[go_sem] theorem s_fieldAddr (s : TypeId) (x : Operand) (f : Nat) : stepW P cl (.fieldAddr s x f) T D H = mapV D H (fieldAddrV P s (ev T x) f) := map_map_V _
@[go_sem] theorem s_field (s : TypeId) (x : Operand) (f : Nat) : stepW P cl (.field s x f) T D H = mapV D H (fieldV P s (ev T x) f) := map_map_V _
@[go_sem] theorem s_indexAddr (t : TypeId) (x i : Operand) : stepW P cl (.indexAddr t x i) T D H = mapV D H (indexAddrV P t (ev T x) (ev T i)) := map_map_V _
@[go_sem] theorem s_index (t : TypeId) (x i : Operand) : stepW P cl (.index t x i) T D H = mapV D H (indexV P t (ev T x) (ev T i)) := map_map_V _
@[go_sem] theorem s_lookup (t : TypeId) (x i : Operand) (ok : Bool) : stepW P cl (.lookup t x i ok) T D H = mapV D H (lookupV P t H (ev T x) (ev T i) ok) := map_map_V _
@[go_sem] theorem s_mapUpdate (t : TypeId) (m k x : Operand) : stepW P cl (.mapUpdate t m k x) T D H = mapH D (updateV P t H (ev T m) (ev T k) (ev T x)) := map_map_H _
@[go_sem] theorem s_insert (t : TypeId) (m k x : Operand) : stepW P cl (.insert t m k x) T D H = mapH D (updateV P t H (ev T m) (ev T k) (ev T x)) := map_map_H _
def extV : V → Nat → Option V
  | .tup vs, i => vs[i]?
  | _, _ => none
@[go_sem] theorem extV_tup0 (v : V) (vs : List V) : extV (.tup (v :: vs)) 0 = some v := rfl
@[go_sem] theorem extV_tupS (v : V) (vs : List V) (i : Nat) : extV (.tup (v :: vs)) (i + 1) = extV (.tup vs) i := by simp [extV]
@[go_sem] theorem s_extract (x : Operand) (i : Nat) : stepW P cl (.extract x i) T D H = mapV D H (extV (ev T x) i) := by
  simp only [stepW, opV]
  generalize ev T x = v
  cases v <;> first | exact map_map_V _ | rfl
@[go_sem] theorem s_builtin (b : Builtin) (as : Array Operand) (ts : Array TypeId) : stepW P cl (.call ⟨.builtin b, as, ts⟩) T D H = mapS D (builtinV P b ts (as.toList.map (ev T)) H) := rfl
/-- A function value called. -/
def appW (cl : CallT) (D : Dfr) (f : V) (as : List V) (H : Hp) : Option (V × Dfr × Hp) :=
  match f with
  | .fn k a b => mapS D (cl k (a ++ as ++ b) H)
  | _ => none
@[go_sem] theorem appW_fn (k : Nat) (a b as : List V) : appW cl D (.fn k a b) as H = mapS D (cl k (a ++ as ++ b) H) := rfl
@[go_sem] theorem s_call (f : Operand) (as : Array Operand) (ts : Array TypeId) : stepW P cl (.call ⟨.value f, as, ts⟩) T D H = appW cl D (ev T f) (as.toList.map (ev T)) H := by
  simp only [stepW, calleeV]
  generalize ev T f = v
  cases v <;> rfl
def deferW (D : Dfr) (H : Hp) (f : V) (as : List V) : Option (V × Dfr × Hp) :=
  match f with
  | .fn k a b => some (.tup [], (k, a ++ as ++ b) :: D, H)
  | _ => none
@[go_sem] theorem deferW_fn (k : Nat) (a b as : List V) : deferW D H (.fn k a b) as = some (.tup [], (k, a ++ as ++ b) :: D, H) := rfl
@[go_sem] theorem s_defer (f : Operand) (as : Array Operand) (ts : Array TypeId) : stepW P cl (.defer ⟨.value f, as, ts⟩) T D H = deferW D H (ev T f) (as.toList.map (ev T)) := by
  simp only [stepW, calleeV]
  generalize ev T f = v
  cases v <;> rfl

attribute [go_sem] Int.natCast_zero Int.cast_ofNat_Int and_self if_true if_false true_and and_true decide_true decide_false Bool.not_true Bool.not_false Bool.false_eq_true Bool.and_true Bool.true_and Bool.and_false Bool.false_and ne_eq not_true_eq_false not_false_eq_true List.not_mem_nil Int.toNat_natCast
/-! Lists of literals. -/
@[go_sem] theorem lmap_nil {α β : Type} (f : α → β) : [].map f = [] := rfl
@[go_sem] theorem lmap_cons {α β : Type} (f : α → β) (a : α) (l : List α) : (a :: l).map f = f a :: l.map f := rfl
@[go_sem] theorem omap_some' {α β : Type} (f : α → β) (a : α) : Option.map f (some a) = some (f a) := rfl
@[go_sem] theorem omap_none' {α β : Type} (f : α → β) : Option.map f none = none := rfl
@[go_sem] theorem obind_some' {α β : Type} (f : α → Option β) (a : α) : Option.bind (some a) f = f a := rfl
@[go_sem] theorem atoList {α : Type} (l : List α) : (List.toArray l).toList = l := rfl
@[go_sem] theorem nil_app {α : Type} (l : List α) : [] ++ l = l := rfl
@[go_sem] theorem cons_app {α : Type} (a : α) (l k : List α) : (a :: l) ++ k = a :: (l ++ k) := rfl
@[go_sem] theorem app_nil {α : Type} (l : List α) : l ++ [] = l := List.append_nil l
@[go_sem] theorem all_nil' {α : Type} (f : α → Bool) : [].all f = true := rfl
@[go_sem] theorem all_cons' {α : Type} (f : α → Bool) (a : α) (l : List α) : (a :: l).all f = (f a && l.all f) := rfl
@[go_sem] theorem tt_and (b : Bool) : (true && b) = b := rfl
@[go_sem] theorem isBase_ptr (a b c : Nat) : (V.ptr a b c).isBase = true := rfl
@[go_sem] theorem isBase_int (k : IntKind) (n : Int) : (V.int k n).isBase = true := rfl
@[go_sem] theorem isBase_bool (b : Bool) : (V.bool b).isBase = true := rfl
@[go_sem] theorem isBase_str (b : List UInt8) : (V.str b).isBase = true := rfl
@[go_sem] theorem isBase_slice (a b c d e : Nat) (cp : Cap) : (V.slice a b c d e cp).isBase = true := rfl
@[go_sem] theorem isBase_nilslice : V.nilslice.isBase = true := rfl
@[go_sem] theorem isBase_map (a : Nat) : (V.map a).isBase = true := rfl
@[go_sem] theorem isBase_nilmap : V.nilmap.isBase = true := rfl
@[go_sem] theorem isBase_nilptr : V.nilptr.isBase = true := rfl
@[go_sem] theorem isCell_ptr (a b c : Nat) : (V.ptr a b c).isCell = true := rfl
@[go_sem] theorem isCell_int (k : IntKind) (n : Int) : (V.int k n).isCell = true := rfl
@[go_sem] theorem isCell_bool (b : Bool) : (V.bool b).isCell = true := rfl
@[go_sem] theorem isCell_str (b : List UInt8) : (V.str b).isCell = true := rfl
@[go_sem] theorem isCell_slice (a b c d e : Nat) (cp : Cap) : (V.slice a b c d e cp).isCell = true := rfl
@[go_sem] theorem isCell_nilslice : V.nilslice.isCell = true := rfl
@[go_sem] theorem isCell_map (a : Nat) : (V.map a).isCell = true := rfl
@[go_sem] theorem isCell_nilmap : V.nilmap.isCell = true := rfl
@[go_sem] theorem isCell_nilptr : V.nilptr.isCell = true := rfl
@[go_sem] theorem isCell_fn (f : Nat) (a b : List V) : (V.fn f a b).isCell = true := rfl
@[go_sem] theorem isCell_nilfn : V.nilfn.isCell = true := rfl
@[go_sem] theorem cells_agg (cs : List V) : (V.agg cs).cells = cs := rfl
@[go_sem] theorem cells_int (k : IntKind) (n : Int) : (V.int k n).cells = [.int k n] := rfl
@[go_sem] theorem cells_bool (b : Bool) : (V.bool b).cells = [.bool b] := rfl
@[go_sem] theorem cells_str (b : List UInt8) : (V.str b).cells = [.str b] := rfl
@[go_sem] theorem cells_ptr (a b c : Nat) : (V.ptr a b c).cells = [.ptr a b c] := rfl
@[go_sem] theorem cells_slice (a b c d e : Nat) (cp : Cap) : (V.slice a b c d e cp).cells = [.slice a b c d e cp] := rfl
@[go_sem] theorem cells_nilslice : V.nilslice.cells = [.nilslice] := rfl
@[go_sem] theorem cells_map (a : Nat) : (V.map a).cells = [.map a] := rfl
@[go_sem] theorem cells_nilmap : V.nilmap.cells = [.nilmap] := rfl
@[go_sem] theorem cells_nilptr : V.nilptr.cells = [.nilptr] := rfl
@[go_sem] theorem cells_fn (f : Nat) (a b : List V) : (V.fn f a b).cells = [.fn f a b] := rfl
@[go_sem] theorem cells_nilfn : V.nilfn.cells = [.nilfn] := rfl

/-! Arithmetic. -/
@[go_sem] theorem b_add (t : TypeId) (k : IntKind) (x y : Int) : binV P .add t (.int k x) (.int k y) = some (.int k (k.wrap (x + y))) := by simp [binV, intV]
@[go_sem] theorem b_sub (t : TypeId) (k : IntKind) (x y : Int) : binV P .sub t (.int k x) (.int k y) = some (.int k (k.wrap (x - y))) := by simp [binV, intV]
@[go_sem] theorem b_mul (t : TypeId) (k : IntKind) (x y : Int) : binV P .mul t (.int k x) (.int k y) = some (.int k (k.wrap (x * y))) := by simp [binV, intV]
@[go_sem] theorem b_quo (t : TypeId) (k : IntKind) (x y : Int) : binV P .quo t (.int k x) (.int k y) = if y = 0 then none else some (.int k (k.wrap (x.tdiv y))) := by simp [binV, intV]
@[go_sem] theorem b_rem (t : TypeId) (k : IntKind) (x y : Int) : binV P .rem t (.int k x) (.int k y) = if y = 0 then none else some (.int k (x.tmod y)) := by simp [binV, intV]
@[go_sem] theorem b_eql (t : TypeId) (k : IntKind) (x y : Int) : binV P .eql t (.int k x) (.int k y) = some (.bool (decide (x = y))) := by simp [binV, intV]; rfl
@[go_sem] theorem b_neq (t : TypeId) (k : IntKind) (x y : Int) : binV P .neq t (.int k x) (.int k y) = some (.bool (!decide (x = y))) := by simp [binV, intV]; rfl
@[go_sem] theorem b_lss (t : TypeId) (k : IntKind) (x y : Int) : binV P .lss t (.int k x) (.int k y) = some (.bool (decide (x < y))) := by simp [binV, intV]
@[go_sem] theorem b_leq (t : TypeId) (k : IntKind) (x y : Int) : binV P .leq t (.int k x) (.int k y) = some (.bool (decide (x ≤ y))) := by simp [binV, intV]
@[go_sem] theorem b_gtr (t : TypeId) (k : IntKind) (x y : Int) : binV P .gtr t (.int k x) (.int k y) = some (.bool (decide (y < x))) := by simp [binV, intV]
@[go_sem] theorem b_geq (t : TypeId) (k : IntKind) (x y : Int) : binV P .geq t (.int k x) (.int k y) = some (.bool (decide (y ≤ x))) := by simp [binV, intV]
@[go_sem] theorem b_str (op : BinOp) (t : TypeId) (x y : List UInt8) : binV P op t (.str x) (.str y) = strV op x y := by simp [binV]
@[go_sem] theorem b_seql (x y : List UInt8) : strV .eql x y = some (.bool (decide (x = y))) := by
  by_cases h : x = y <;> simp [strV, h]
@[go_sem] theorem b_sneq (x y : List UInt8) : strV .neq x y = some (.bool (!decide (x = y))) := by
  by_cases h : x = y <;> simp [strV, h]
theorem b_beql (t : TypeId) (x y : Bool) (h : P.underlying t = some .bool) : binV P .eql t (.bool x) (.bool y) = some (.bool (x == y)) := by simp [binV, eqV, h]
theorem b_bneq (t : TypeId) (x y : Bool) (h : P.underlying t = some .bool) : binV P .neq t (.bool x) (.bool y) = some (.bool (!(x == y))) := by simp [binV, eqV, h]
@[go_sem] theorem u_not (b : Bool) : unV .not (.bool b) = some (.bool (!b)) := by simp [unV]
@[go_sem] theorem u_neg (k : IntKind) (n : Int) : unV .neg (.int k n) = some (.int k (k.wrap (0 - n))) := by simp [unV]

/-! Code. -/
@[go_sem] theorem Wp_skip : Wp P cl N .skip T D H R = R .nor T D H := by
  unfold Wp
  refine propext ⟨fun ⟨e, s', h, hq⟩ => ?_, fun h => ⟨.nor, _, .skip _, h⟩⟩
  cases h; exact hq
@[go_sem] theorem Wp_ret : Wp P cl N .ret T D H R = R .ret T D H := by
  unfold Wp
  refine propext ⟨fun ⟨e, s', h, hq⟩ => ?_, fun h => ⟨.ret, _, .ret _, h⟩⟩
  cases h; exact hq
@[go_sem] theorem Wp_exit (id : Nat) : Wp P cl N (.exit id) T D H R = R (.exit id) T D H := by
  unfold Wp
  refine propext ⟨fun ⟨e, s', h, hq⟩ => ?_, fun h => ⟨.exit id, _, .exit _ _, h⟩⟩
  cases h; exact hq
@[go_sem] theorem Wp_reg (l : List Co) : Wp P cl N (.reg l) T D H R = W P cl N H.length l T D H (R .nor) := by
  unfold Wp
  refine propext ⟨fun ⟨e, s', h, hq⟩ => ?_, fun h => ?_⟩
  · cases h with
    | reg _ _ _ hw => exact W_iff.2 ⟨s', hw, hq⟩
  · obtain ⟨s', hw, hq⟩ := W_iff.1 h
    exact ⟨.nor, s', .reg _ _ _ hw, hq⟩
@[go_sem] theorem Wp_seq (a b : Cc) : Wp P cl N (.seq a b) T D H R = Wp P cl N a T D H (seqQ P cl N b R) := by
  unfold Wp
  refine propext ⟨fun ⟨e, s', h, hq⟩ => ?_, fun ⟨e, s', h, hq⟩ => ?_⟩
  · cases h with
    | seq _ _ _ s1 _ _ h1 h2 => exact ⟨.nor, s1, h1, e, s', h2, hq⟩
    | seqx _ _ _ _ _ h1 hne =>
      refine ⟨e, s', h1, ?_⟩
      cases e with
      | nor => exact absurd rfl hne
      | exit id => exact hq
      | ret => exact hq
  · cases e with
    | nor =>
      obtain ⟨e, s2, h2, hq⟩ := hq
      exact ⟨e, s2, .seq _ _ _ s' _ _ h h2, hq⟩
    | exit id => exact ⟨_, s', .seqx _ _ _ _ _ h (by simp), hq⟩
    | ret => exact ⟨_, s', .seqx _ _ _ _ _ h (by simp), hq⟩
@[go_sem] theorem seqQ_nor (b : Cc) : seqQ P cl N b R .nor T D H = Wp P cl N b T D H R := rfl
@[go_sem] theorem seqQ_ret (b : Cc) : seqQ P cl N b R .ret T D H = R .ret T D H := rfl
@[go_sem] theorem seqQ_exit (b : Cc) (id : Nat) : seqQ P cl N b R (.exit id) T D H = R (.exit id) T D H := rfl
@[go_sem] theorem Wp_cond (c : Operand) (a b : Cc) : Wp P cl N (.cond c a b) T D H R = brQ P cl N (ev T c) a b T D H R := by
  unfold brQ
  refine propext ⟨fun ⟨e, s', h, hq⟩ => ?_, fun ⟨x, hx, h1, h2⟩ => ?_⟩
  · cases h with
    | condt _ _ _ _ _ _ hv h1 => exact ⟨true, hv, fun _ => ⟨e, s', h1, hq⟩, fun h => by cases h⟩
    | condf _ _ _ _ _ _ hv h1 => exact ⟨false, hv, fun h => (by cases h), fun _ => ⟨e, s', h1, hq⟩⟩
  · cases x with
    | true => obtain ⟨e, s', h, hq⟩ := h1 rfl; exact ⟨e, s', .condt _ _ _ _ _ _ hx h, hq⟩
    | false => obtain ⟨e, s', h, hq⟩ := h2 rfl; exact ⟨e, s', .condf _ _ _ _ _ _ hx h, hq⟩
@[go_sem] theorem Wp_block (id : Nat) (b : Cc) : Wp P cl N (.block id b) T D H R = Wp P cl N b T D H (blockQ id R) := by
  unfold Wp
  refine propext ⟨fun ⟨e, s', h, hq⟩ => ?_, fun ⟨e, s', h, hq⟩ => ?_⟩
  · cases h with
    | block _ _ _ _ _ h1 hne =>
      refine ⟨e, s', h1, ?_⟩
      cases e with
      | nor => exact hq
      | ret => exact hq
      | exit j =>
        simp only [blockQ]
        rw [if_neg fun e => hne (by rw [e])]
        exact hq
    | blockx _ _ _ _ h1 =>
      refine ⟨_, s', h1, ?_⟩
      simp only [blockQ, if_true]
      exact hq
  · cases e with
    | nor => exact ⟨_, s', .block _ _ _ _ _ h (by simp), hq⟩
    | ret => exact ⟨_, s', .block _ _ _ _ _ h (by simp), hq⟩
    | exit j =>
      simp only [blockQ] at hq
      split at hq
      · rename_i e; subst e; exact ⟨_, s', .blockx _ _ _ _ h, hq⟩
      · rename_i e; exact ⟨_, s', .block _ _ _ _ _ h (by simpa using e), hq⟩
@[go_sem] theorem blockQ_nor (id : Nat) : blockQ id R .nor T D H = R .nor T D H := rfl
@[go_sem] theorem blockQ_ret (id : Nat) : blockQ id R .ret T D H = R .ret T D H := rfl
@[go_sem] theorem blockQ_exit (id j : Nat) : blockQ id R (.exit j) T D H = if j = id then R .nor T D H else R (.exit j) T D H := rfl
theorem Wp_mono {R' : Ex → Fr → Dfr → Hp → Prop} {c : Cc} (h : Wp P cl N c T D H R) (hR : ∀ e T D H, R e T D H → R' e T D H) : Wp P cl N c T D H R' := by
  obtain ⟨e, s', h1, h2⟩ := h
  exact ⟨e, s', h1, hR _ _ _ _ h2⟩
/-- What a loop's round asks. -/
def loopQ (I : Fr → Dfr → Hp → Prop) (R : Ex → Fr → Dfr → Hp → Prop) : Ex → Fr → Dfr → Hp → Prop
  | .nor, T, D, H => I T D H
  | e, T, D, H => R e T D H
@[go_sem] theorem loopQ_nor (I : Fr → Dfr → Hp → Prop) : loopQ I R .nor T D H = I T D H := rfl
@[go_sem] theorem loopQ_ret (I : Fr → Dfr → Hp → Prop) : loopQ I R .ret T D H = R .ret T D H := rfl
@[go_sem] theorem loopQ_exit (I : Fr → Dfr → Hp → Prop) (id : Nat) : loopQ I R (.exit id) T D H = R (.exit id) T D H := rfl
/-- A loop: what holds with so many rounds left. -/
theorem Wp_loop (I : Nat → Fr → Dfr → Hp → Prop) {b : Cc} (h : ∀ m T D H, I m T D H → Wp P cl N b T D H (loopQ (fun T D H => ∃ m' < m, I m' T D H) R)) : ∀ m T D H, I m T D H → Wp P cl N (.loop b) T D H R := by
  intro m
  induction m using Nat.strongRecOn with
  | ind m ih =>
    intro T D H hI
    obtain ⟨e, s', h1, h2⟩ := h m T D H hI
    cases e with
    | nor =>
      obtain ⟨m', hm, h3⟩ := h2
      obtain ⟨e, s2, h4, h5⟩ := ih m' hm _ _ _ h3
      exact ⟨e, s2, .loop _ _ s' _ _ h1 h4, h5⟩
    | exit id => exact ⟨_, s', .loopx _ _ _ _ h1 (by simp), h2⟩
    | ret => exact ⟨_, s', .loopx _ _ _ _ h1 (by simp), h2⟩
@[go_sem] theorem RetQ_ret (rs : List ResultVar) (K : V → Hp → Prop) : RetQ P rs K .ret T D H = (D = [] ∧ bindW ((mapO (resV P H T) rs).bind tupV) fun v => K v H) := rfl
@[go_sem] theorem RetQ_nor (rs : List ResultVar) (K : V → Hp → Prop) : RetQ P rs K .nor T D H = (D = [] ∧ bindW ((mapO (resV P H T) rs).bind tupV) fun v => K v H) := rfl
@[go_sem] theorem mapO_nil {α β : Type} (f : α → Option β) : mapO f [] = some [] := rfl
@[go_sem] theorem mapO_cons {α β : Type} (f : α → Option β) (x : α) (l : List α) : mapO f (x :: l) = (f x).bind fun y => (mapO f l).map fun ys => y :: ys := rfl
@[go_sem] theorem resV_tmp (t : Nat) : resV P H T (.tmp t) = some (get T t) := rfl
@[go_sem] theorem resV_cell (a : Nat) (t : TypeId) : resV P H T (.cell a t) = loadV P t H (get T a) := rfl
@[go_sem] theorem tupV_one (v : V) : tupV [v] = some v := rfl
@[go_sem] theorem tupV_more (v w : V) (vs : List V) : tupV (v :: w :: vs) = if (v :: w :: vs).all (fun v => !v.isTup) = true then some (.tup (v :: w :: vs)) else none := rfl
@[go_sem] theorem tupV_nil : tupV [] = some (.tup []) := rfl
@[go_sem] theorem nt_int (k : IntKind) (n : Int) : (V.int k n).isTup = false := rfl
@[go_sem] theorem nt_bool (b : Bool) : (V.bool b).isTup = false := rfl
@[go_sem] theorem nt_str (b : List UInt8) : (V.str b).isTup = false := rfl
@[go_sem] theorem nt_agg (b : List V) : (V.agg b).isTup = false := rfl
@[go_sem] theorem nt_ptr (a b c : Nat) : (V.ptr a b c).isTup = false := rfl
@[go_sem] theorem nt_slice (a b c d e : Nat) (cp : Cap) : (V.slice a b c d e cp).isTup = false := rfl
@[go_sem] theorem nt_nilslice : V.nilslice.isTup = false := rfl
@[go_sem] theorem nt_map (a : Nat) : (V.map a).isTup = false := rfl
@[go_sem] theorem nt_nilptr : V.nilptr.isTup = false := rfl
end
end Go.Am
