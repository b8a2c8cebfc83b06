/-
  The abstract machine, part A: values, heap, operations, code, all as plain functions. No statement of the seat stands here.
-/
import Derived.WalkKit
namespace Go.Am
open Go

/-- What is known of a slice's capacity: up to the block's end; nothing; a number. -/
inductive Cap where
  | full
  | unk
  | ex (c : Nat)

/-- An abstract value. A reference names a block (id) in one of its generations (g) and an offset in cells. -/
inductive V where
  | undef
  | int (k : IntKind) (n : Int)
  | bool (b : Bool)
  | str (s : List UInt8)
  | nilptr
  | ptr (id g off : Nat)
  | nilslice
  | slice (id g off n sz : Nat) (cp : Cap)
  | nilmap
  | map (id : Nat)
  | nilfn
  | fn (f : Nat) (first caps : List V)
  | agg (cs : List V)
  | tup (cs : List V)
  | nilif

/-- An abstract block; a hole is the place of a block that is still to come. -/
inductive AB where
  | row (g : Nat) (cs : List V) (own : Bool)
  | map (kt : TypeId) (es : List (V × V))
  | hole

def V.cells : V → List V
  | .agg cs => cs
  | v => [v]
/-- What one cell can hold, and is known. -/
def V.isCell : V → Bool
  | .undef | .agg _ | .tup _ => false
  | _ => true
/-- What may stand among what a function value carries. -/
def V.isBase : V → Bool
  | .undef | .agg _ | .tup _ | .fn .. => false
  | _ => true

def ofCell : Value → V
  | .int k n => .int k n
  | .bool b => .bool b
  | .string s => .str s.data.toList
  | .pointer none => .nilptr
  | .slice none 0 0 => .nilslice
  | .map none => .nilmap
  | .nilFunc => .nilfn
  | .nilIface => .nilif
  | .func (.func f) first caps => if first.size = 0 ∧ caps.size = 0 then .fn f [] [] else .undef
  | _ => .undef
def ofVal : Value → V
  | .agg cs => .agg (cs.toList.map ofCell)
  | v => ofCell v

abbrev Fr := List V
def get (T : Fr) (i : Nat) : V := T.getD i .undef
def put : Fr → Nat → V → Fr
  | [], 0, v => [v]
  | [], i + 1, v => .undef :: put [] i v
  | _ :: T, 0, v => v :: T
  | x :: T, i + 1, v => x :: put T i v
def putO (T : Fr) : Option Nat → V → Fr
  | none, _ => T
  | some i, v => put T i v

abbrev Hp := List AB

def getRow (H : Hp) (id g : Nat) : Option (List V × Bool) :=
  match H[id]? with
  | some (.row g' cs own) => if g = g' then some (cs, own) else none
  | _ => none
def getMap (H : Hp) (id : Nat) : Option (TypeId × List (V × V)) :=
  match H[id]? with
  | some (.map kt es) => some (kt, es)
  | _ => none

def ev (T : Fr) : Operand → V
  | .tmp t => get T t
  | .const v => ofVal v
  | .global _ => .undef
  | .func f => .fn f [] []

section
variable (P : Program)
def szOf (t : TypeId) : Option Nat := (P.info? t).map (·.size)
def bytesOf' (t : TypeId) : Option Nat := (P.info? t).map (·.bytes)
def aggT (t : TypeId) : Option Bool :=
  match P.underlying t with
  | some (.struct _) | some (.array _ _) => some true
  | some _ => some false
  | none => none
def zeroV (t : TypeId) : Option V := (P.info? t).bind fun i => i.zero.map ofVal

/-- A part of an aggregate. -/
def partV (t : TypeId) (cs : List V) (off : Nat) : Option V :=
  (aggT P t).bind fun b => if b then (szOf P t).bind fun n => if off + n ≤ cs.length then some (.agg ((cs.drop off).take n)) else none else cs[off]?

/-- What lies at an address. -/
def loadV (t : TypeId) (H : Hp) : V → Option V
  | .ptr id g off => (getRow H id g).bind fun r => partV P t r.1 off
  | _ => none

def setAt : List V → Nat → List V → List V
  | cs, off, vs => cs.take off ++ vs ++ cs.drop (off + vs.length)

def storeV (t : TypeId) (H : Hp) (p v : V) : Option Hp :=
  match p with
  | .ptr id g off => (getRow H id g).bind fun r =>
      if r.2 = true ∧ szOf P t = some v.cells.length ∧ off + v.cells.length ≤ r.1.length ∧ v.cells.all V.isCell = true then some (H.set id (.row g (setAt r.1 off v.cells) true)) else none
  | _ => none

/-- A new block of cells. -/
def newRowV (cs : List V) (H : Hp) : Option (V × Hp) := if cs.all V.isCell then some (.ptr H.length 0 0, H ++ [.row 0 cs true]) else none

def fillV (place : Nat → Option (Nat × Nat)) (cs : List V) : List (Nat × V) → Option (List V)
  | [] => some cs
  | (i, v) :: rest =>
    (place i).bind fun p => if v.cells.all V.isCell = true ∧ v.cells.length = p.2 ∧ p.1 + v.cells.length ≤ cs.length then fillV place (setAt cs p.1 v.cells) rest else none

def buildV (t : TypeId) (parts : List (Nat × V)) : Option V :=
  (zeroV P t).bind fun z =>
  match P.underlying t with
  | some (.struct fields) => (fields.toList.mapM fun f => (P.info? f.type).map fun i => (f.offset, i.size)).bind fun places => (fillV (fun i => places[i]?) z.cells parts).map V.agg
  | some (.array _ e) => (szOf P e).bind fun n => (fillV (fun i => some (i * n, n)) z.cells parts).map V.agg
  | _ => none

def repeatV (z : List V) : Nat → List V
  | 0 => []
  | n + 1 => z ++ repeatV z n

def buildSliceV (t : TypeId) (len : Nat) (parts : List (Nat × V)) (H : Hp) : Option (V × Hp) :=
  match P.underlying t with
  | some (.slice e) =>
    (szOf P e).bind fun n => (zeroV P e).bind fun z =>
      if z.cells.length = n ∧ 0 < n ∧ len * n ≤ 2 ^ 24 then
        (fillV (fun i => some (i * n, n)) (repeatV z.cells len) parts).bind fun cs =>
          if cs.all V.isCell then some (.slice H.length 0 0 len n .full, H ++ [.row 0 cs true]) else none
      else none
  | _ => none

def fieldAddrV (s : TypeId) (p : V) (i : Nat) : Option V :=
  match P.underlying s, p with
  | some (.struct fields), .ptr id g off => (fields[i]?).bind fun f => (szOf P f.type).bind fun n => if n = 0 then none else some (.ptr id g (off + f.offset))
  | _, _ => none
def fieldV (s : TypeId) (x : V) (i : Nat) : Option V :=
  match P.underlying s, x with
  | some (.struct fields), .agg cs => (fields[i]?).bind fun f => partV P f.type cs f.offset
  | _, _ => none
def indexAddrV (t : TypeId) (x i : V) : Option V :=
  match P.underlying t, x, i with
  | some (.array len e), .ptr id g off, .int _ j => (szOf P e).bind fun n => if 0 ≤ j ∧ j < len then some (.ptr id g (off + j.toNat * n)) else none
  | some (.slice e), .slice id g off len sz _, .int _ j => if szOf P e = some sz ∧ 0 ≤ j ∧ j < len then some (.ptr id g (off + j.toNat * sz)) else none
  | _, _, _ => none
def indexV (t : TypeId) (x i : V) : Option V :=
  match P.underlying t, x, i with
  | some (.array len e), .agg cs, .int _ j => if 0 ≤ j ∧ j < len then (szOf P e).bind fun n => partV P e cs (j.toNat * n) else none
  | some .string, .str s, .int _ j => if 0 ≤ j then (s[j.toNat]?).map fun b => .int .u8 b.toNat else none
  | _, _, _ => none

/-- The bounds of a slice expression; none: the operand's own. -/
def boundV : Option V → Nat → Option Int
  | none, d => some d
  | some (.int _ j), _ => some j
  | _, _ => none
def cutCap : Cap → Nat → Cap
  | .full, _ => .full
  | .unk, _ => .unk
  | .ex c, l => .ex (c - l)
def sliceV (t : TypeId) (H : Hp) (x : V) (lo hi : Option V) : Option V :=
  match P.underlying t, x with
  | some .string, .str s => (boundV lo 0).bind fun l => (boundV hi s.length).bind fun h => if 0 ≤ l ∧ l ≤ h ∧ h ≤ s.length then some (.str ((s.drop l.toNat).take (h.toNat - l.toNat))) else none
  | some (.slice e), .nilslice => (szOf P e).bind fun _ => (boundV lo 0).bind fun l => (boundV hi 0).bind fun h => if l = 0 ∧ h = 0 then some .nilslice else none
  | some (.slice e), .slice id g off n sz cp => (boundV lo 0).bind fun l => (boundV hi n).bind fun h =>
      if szOf P e = some sz ∧ 0 ≤ l ∧ l ≤ h ∧ h ≤ n then some (.slice id g (off + l.toNat * sz) (h.toNat - l.toNat) sz (cutCap cp l.toNat)) else none
  | some (.array n e), .ptr id g off => (szOf P e).bind fun sz => (getRow H id g).bind fun r => (boundV lo 0).bind fun l => (boundV hi n).bind fun h =>
      if 0 ≤ l ∧ l ≤ h ∧ h ≤ n ∧ off + n * sz ≤ r.1.length then some (.slice id g (off + l.toNat * sz) (h.toNat - l.toNat) sz (.ex (n - l.toNat))) else none
  | _, _ => none
/-- The cells of the first n elements of a slice (or the bytes of a string). -/
def srcCells (H : Hp) : V → Option (List V × Nat)
  | .nilslice => some ([], 0)
  | .slice id g off n sz _ => (getRow H id g).bind fun r => if off + n * sz ≤ r.1.length then some ((r.1.drop off).take (n * sz), n) else none
  | .str s => some (s.map fun b => .int .u8 b.toNat, s.length)
  | _ => none

/-- append(s, x...) -/
def appendV (t : TypeId) (H : Hp) (s x : V) : Option (V × Hp) :=
  match P.underlying t with
  | some (.slice e) =>
    (szOf P e).bind fun sz => (bytesOf' P e).bind fun by_ => (zeroV P e).bind fun z => (srcCells H x).bind fun (ys, m) =>
    if 0 < sz ∧ z.cells.length = sz ∧ ys.length = m * sz ∧ ys.all V.isCell = true then
      match s with
      | .nilslice => if m = 0 then some (.nilslice, H) else if m * by_ ≤ 2 ^ 40 ∧ m ≤ 2 ^ 40 then some (.slice H.length 0 0 m sz .full, H ++ [.row 0 ys true]) else none
      | .slice id g off n sz' cp => (getRow H id g).bind fun r =>
        if sz' = sz ∧ (n + m) * by_ ≤ 2 ^ 40 ∧ n + m ≤ 2 ^ 40 ∧ off + n * sz ≤ r.1.length then
          if m = 0 then some (s, H) else
          match cp with
          | .ex c => if c = n then some (.slice H.length 0 0 (n + m) sz .full, H ++ [.row 0 ((r.1.drop off).take (n * sz) ++ ys) true]) else none
          | .full =>
            if r.2 = true then
              if off + (n + m) * sz ≤ r.1.length then some (.slice id g off (n + m) sz .full, H.set id (.row g (setAt r.1 (off + n * sz) ys) true))
              else if off + n * sz = r.1.length then some (.slice id (g + 1) 0 (n + m) sz .full, H.set id (.row (g + 1) (r.1.drop off ++ ys) true))
              else none
            else none
          | .unk => none
        else none
      | _ => none
    else none
  | _ => none

def copyV (t : TypeId) (H : Hp) (d x : V) : Option (V × Hp) :=
  match P.underlying t with
  | some (.slice e) =>
    (szOf P e).bind fun sz => (srcCells H x).bind fun (ys, m) =>
    match d with
    | .nilslice => if ys.length = m * sz then some (.int .i64 0, H) else none
    | .slice id g off n sz' _ => (getRow H id g).bind fun r =>
      if sz' = sz ∧ ys.length = m * sz ∧ ys.all V.isCell = true ∧ r.2 = true ∧ off + n * sz ≤ r.1.length then some (.int .i64 (min m n : Nat), H.set id (.row g (setAt r.1 off (ys.take (min m n * sz))) true)) else none
    | _ => none
  | _ => none

def makeSliceV (t : TypeId) (H : Hp) (n c : V) : Option (V × Hp) :=
  match P.underlying t, n, c with
  | some (.slice e), .int .i64 n, .int .i64 c =>
    (szOf P e).bind fun sz => (bytesOf' P e).bind fun by_ => (zeroV P e).bind fun z =>
    if 0 < sz ∧ z.cells.length = sz ∧ z.cells.all V.isCell = true ∧ 0 ≤ n ∧ n ≤ c ∧ c * by_ ≤ 2 ^ 40 ∧ c ≤ 2 ^ 40 then some (.slice H.length 0 0 n.toNat sz .full, H ++ [.row 0 (repeatV z.cells n.toNat) true]) else none
  | _, _, _ => none

/-! Equality. -/
inductive CK where
  | int (k : IntKind)
  | str
  | bool
def ckOk : CK → V → Bool
  | .int k, .int k' _ => k == k'
  | .str, .str _ => true
  | .bool, .bool _ => true
  | _, _ => false
def eqCell : V → V → Bool
  | .int _ a, .int _ b => a == b
  | .str a, .str b => a == b
  | .bool a, .bool b => a == b
  | _, _ => false
def eqCells : List V → List V → Bool
  | a :: x, b :: y => eqCell a b && eqCells x y
  | [], [] => true
  | _, _ => false
def ckOks : List CK → List V → Bool
  | k :: ks, v :: vs => ckOk k v && ckOks ks vs
  | [], [] => true
  | _, _ => false
def repeatK (z : List CK) : Nat → List CK
  | 0 => []
  | n + 1 => z ++ repeatK z n
/-- The kinds of the cells of a type that is made of numbers, strings and bools alone. -/
def flatFields (flat : TypeId → Option (List CK)) : List Field → List CK → Option (List CK)
  | [], acc => some acc
  | f :: fs, acc => (flat f.type).bind fun ks => if f.name ≠ "_" ∧ f.offset = acc.length ∧ szOf P f.type = some ks.length then flatFields flat fs (acc ++ ks) else none
def flatT : Nat → TypeId → Option (List CK)
  | 0, _ => none
  | d + 1, t =>
    match P.underlying t with
    | some (.int k) => some [.int k]
    | some .string => some [.str]
    | some .bool => some [.bool]
    | some (.struct fs) => if P.stoodInHeld t then none else flatFields P (flatT d) fs.toList []
    | some (.array n e) => (flatT d e).bind fun ks => if szOf P e = some ks.length then some (repeatK ks n) else none
    | _ => none

def eqV (t : TypeId) (x y : V) : Option Bool :=
  match x, y with
  | .int k a, .int k' b => match P.underlying t with
    | some (.int _) => if k = k' then some (a == b) else none
    | _ => none
  | .str a, .str b => match P.underlying t with
    | some .string => some (a == b)
    | _ => none
  | .bool a, .bool b => match P.underlying t with
    | some .bool => some (a == b)
    | _ => none
  | .agg xs, .agg ys => (flatT P 8 t).bind fun ks => if ckOks ks xs = true ∧ ckOks ks ys = true ∧ aggT P t = some true ∧ szOf P t = some ks.length then some (eqCells xs ys) else none
  | .nilptr, .nilptr => match P.underlying t with
    | some (.pointer _) => some true
    | _ => none
  | .ptr .., .nilptr => match P.underlying t with
    | some (.pointer _) => some false
    | _ => none
  | .nilptr, .ptr .. => match P.underlying t with
    | some (.pointer _) => some false
    | _ => none
  | .nilslice, .nilslice => match P.underlying t with
    | some (.slice _) => some true
    | _ => none
  | .slice .., .nilslice => match P.underlying t with
    | some (.slice _) => some false
    | _ => none
  | .nilslice, .slice .. => match P.underlying t with
    | some (.slice _) => some false
    | _ => none
  | .nilmap, .nilmap => match P.underlying t with
    | some (.map _ _) => some true
    | _ => none
  | .map _, .nilmap => match P.underlying t with
    | some (.map _ _) => some false
    | _ => none
  | .nilfn, .nilfn => match P.underlying t with
    | some (.func _ _ _) => some true
    | _ => none
  | .fn .., .nilfn => match P.underlying t with
    | some (.func _ _ _) => some false
    | _ => none
  | _, _ => none

/-! Arithmetic. -/
def bitsV (op : BinOp) (k : IntKind) (x y : Int) : Option Int :=
  let a := BitVec.ofInt k.bits x
  let b := BitVec.ofInt k.bits y
  match op with
  | .and => some (k.wrap (a &&& b).toNat)
  | .or => some (k.wrap (a ||| b).toNat)
  | .xor => some (k.wrap (a ^^^ b).toNat)
  | .andNot => some (k.wrap (a &&& ~~~b).toNat)
  | _ => none
def intV (op : BinOp) (k : IntKind) (x y : Int) : Option V :=
  match op with
  | .add => some (.int k (k.wrap (x + y)))
  | .sub => some (.int k (k.wrap (x - y)))
  | .mul => some (.int k (k.wrap (x * y)))
  | .quo => if y = 0 then none else some (.int k (k.wrap (x.tdiv y)))
  | .rem => if y = 0 then none else some (.int k (x.tmod y))
  | .and | .or | .xor | .andNot => (bitsV op k x y).map (.int k)
  | .eql => some (.bool (x == y))
  | .neq => some (.bool (x != y))
  | .lss => some (.bool (x < y))
  | .leq => some (.bool (x ≤ y))
  | .gtr => some (.bool (x > y))
  | .geq => some (.bool (x ≥ y))
  | _ => none
def strV (op : BinOp) (x y : List UInt8) : Option V :=
  match op with
  | .add => if x.length + y.length ≤ 2 ^ 40 then some (.str (x ++ y)) else none
  | .eql => some (.bool (x == y))
  | .neq => some (.bool !(x == y))
  | .lss => some (.bool (Op.bytesLess x y))
  | .leq => some (.bool (Op.bytesLess x y || x == y))
  | .gtr => some (.bool !(Op.bytesLess x y || x == y))
  | .geq => some (.bool !(Op.bytesLess x y))
  | _ => none
def shiftV (op : BinOp) (k : IntKind) (x y : Int) : Option V :=
  if y < 0 then none else
  match op with
  | .shl => some (.int k (k.wrap (x * 2 ^ min y.toNat k.bits)))
  | .shr => some (.int k (x.fdiv (2 ^ min y.toNat k.bits)))
  | _ => none
def binV (op : BinOp) (t : TypeId) (x y : V) : Option V :=
  match x, y with
  | .int k a, .int k' b =>
    match op with
    | .shl | .shr => shiftV op k a b
    | _ => if k = k' then intV op k a b else none
  | .str a, .str b => strV op a b
  | x, y =>
    match op with
    | .eql => (eqV P t x y).map .bool
    | .neq => (eqV P t x y).map fun b => .bool !b
    | _ => none
def unV (op : UnOp) (x : V) : Option V :=
  match op, x with
  | .neg, .int k n => some (.int k (k.wrap (0 - n)))
  | .xor, .int k n => (bitsV .xor k (if k.signed then -1 else k.max) n).map (.int k)
  | .not, .bool b => some (.bool !b)
  | _, _ => none
def byteOf : V → Option UInt8
  | .int .u8 n => some (UInt8.ofNat n.toNat)
  | _ => none
def bytesOf : List V → Option (List UInt8)
  | [] => some []
  | v :: vs => (byteOf v).bind fun b => (bytesOf vs).map (b :: ·)
def convV (s d : TypeId) (H : Hp) (x : V) : Option (V × Hp) :=
  match P.underlying s, P.underlying d, x with
  | some _, some (.int k), .int _ n => some (.int k (k.wrap n), H)
  | some _, some .string, .str l => some (.str l, H)
  | some _, some (.slice e), .str l =>
    match P.underlying e with
    | some (.int .u8) => if szOf P e = some 1 ∧ l.length ≤ 2 ^ 40 then some (.slice H.length 0 0 l.length 1 .full, H ++ [.row 0 (l.map fun b => .int .u8 b.toNat) true]) else none
    | _ => none
  | some (.slice _), some (.slice e), .slice id g off n sz cp =>
    match P.underlying e with
    | some (.int .u8) => (getRow H id g).bind fun r => if r.2 = true ∧ s = d ∧ 0 < n then some (.slice id g off n sz cp, H) else none
    | _ => none
  | some (.slice e), some .string, x =>
    match P.underlying e with
    | some (.int .u8) =>
      match x with
      | .nilslice => some (.str [], H)
      | .slice id g off n sz _ => (getRow H id g).bind fun r => if sz = 1 ∧ off + n ≤ r.1.length then (bytesOf ((r.1.drop off).take n)).map fun l => (.str l, H) else none
      | _ => none
    | _ => none
  | _, _, _ => none

/-! Maps. -/
def keyOk (kt : TypeId) (k : V) : Bool :=
  match flatT P 8 kt with
  | some ks => ckOks ks k.cells && (szOf P kt == some ks.length) && (match aggT P kt, k with | some true, .agg _ => true | some false, .agg _ => false | some false, _ => true | _, _ => false)
  | none => false
def findM (es : List (V × V)) (k : V) : Option Nat := es.findIdx? fun e => eqCells e.1.cells k.cells
def elemOk : V → Bool
  | .agg cs => cs.all V.isCell
  | v => v.isCell
def lookupV (t : TypeId) (H : Hp) (m k : V) (ok : Bool) : Option V :=
  match P.underlying t with
  | some (.map kt et) =>
    (match m with | .nilmap => some (kt, []) | .map id => getMap H id | _ => none).bind fun (q : TypeId × List (V × V)) =>
    if q.1 = kt ∧ keyOk P kt k = true then
      (match findM q.2 k with
        | some i => (q.2[i]?).map fun (e : V × V) => ((e.2, true) : V × Bool)
        | none => (zeroV P et).map fun (z : V) => ((z, false) : V × Bool)).map fun (r : V × Bool) => if ok then .tup [r.1, .bool r.2] else r.1
    else none
  | _ => none
def updateV (t : TypeId) (H : Hp) (m k v : V) : Option Hp :=
  match P.underlying t, m with
  | some (.map kt _), .map id =>
    (getMap H id).bind fun q =>
    if q.1 = kt ∧ keyOk P kt k = true ∧ elemOk v = true then
      match findM q.2 k with
      | some i => some (H.set id (.map kt (q.2.set i (k, v))))
      | none => some (H.set id (.map kt (q.2 ++ [(k, v)])))
    else none
  | _, _ => none
def deleteV (t : TypeId) (H : Hp) (m k : V) : Option Hp :=
  match P.underlying t with
  | some (.map kt _) =>
    if keyOk P kt k = true then
      match m with
      | .nilmap => some H
      | .map id => (getMap H id).bind fun q =>
        if q.1 = kt then
          match findM q.2 k with
          | some i => some (H.set id (.map kt (q.2.eraseIdx i)))
          | none => some H
        else none
      | _ => none
    else none
  | _ => none
def lenV (t : TypeId) (H : Hp) (x : V) : Option V :=
  match P.underlying t, x with
  | some .string, .str s => if s.length ≤ 2 ^ 62 then some (.int .i64 s.length) else none
  | some (.array n _), _ => some (.int .i64 n)
  | some (.pointer a), _ => match P.underlying a with
    | some (.array n _) => some (.int .i64 n)
    | _ => none
  | some (.slice _), .nilslice => some (.int .i64 0)
  | some (.slice _), .slice _ _ _ n _ _ => some (.int .i64 n)
  | some (.map _ _), .nilmap => some (.int .i64 0)
  | some (.map _ _), .map id => (getMap H id).bind fun q => if q.2.length ≤ 2 ^ 62 then some (.int .i64 q.2.length) else none
  | _, _ => none
def max2V : V → V → Option V
  | .int k x, .int _ y => some (.int k (if y > x then y else x))
  | _, _ => none
def min2V : V → V → Option V
  | .int k x, .int _ y => some (.int k (if y < x then y else x))
  | _, _ => none
def foldV (f : V → V → Option V) : List V → V → Option V
  | [], x => some x
  | y :: ys, x => (f x y).bind (foldV f ys)
def builtinV (b : Builtin) (ts : Array TypeId) (args : List V) (H : Hp) : Option (V × Hp) :=
  match b, ts.toList, args with
  | .append, [t, t1], [s, x] => match P.underlying t1 with
    | some (.int _) => none
    | some _ => appendV P t H s x
    | none => none
  | .copy, [t, _], [d, x] => copyV P t H d x
  | .delete, t :: _, [m, k] => (deleteV P t H m k).map fun H' => (.tup [], H')
  | .len, t :: _, [x] => (lenV P t H x).map fun v => (v, H)
  | .max, _, x :: xs => (foldV max2V xs x).map fun v => (v, H)
  | .min, _, x :: xs => (foldV min2V xs x).map fun v => (v, H)
  | _, _, _ => none

/-- An operation that is no call of a function. -/
def opV (o : Op) (T : Fr) (H : Hp) : Option (V × Hp) :=
  match o with
  | .move x | .assign x => some (ev T x, H)
  | .pick c a b => match ev T c with
    | .bool true => some (ev T a, H)
    | .bool false => some (ev T b, H)
    | _ => none
  | .alloc e => (zeroV P e).bind fun z => newRowV z.cells H
  | .box _ x => newRowV (ev T x).cells H
  | .build t parts => (buildV P t (parts.toList.map fun p => (p.1, ev T p.2))).map fun v => (v, H)
  | .buildSlice t len parts => buildSliceV P t len (parts.toList.map fun p => (p.1, ev T p.2)) H
  | .load t a => (loadV P t H (ev T a)).map fun v => (v, H)
  | .store t a x => (storeV P t H (ev T a) (ev T x)).map fun H' => (.tup [], H')
  | .nilCheck x => match ev T x with
    | .ptr id g off => some (.ptr id g off, H)
    | .fn f a b => some (.fn f a b, H)
    | _ => none
  | .binOp op t x y _ => (binV P op t (ev T x) (ev T y)).map fun v => (v, H)
  | .unOp op _ x => (unV op (ev T x)).map fun v => (v, H)
  | .convert s d x => convV P s d H (ev T x)
  | .makeFunc (.func f) first caps =>
    let a := first.toList.map (ev T)
    let b := caps.toList.map (ev T)
    if a.all V.isBase = true ∧ b.all V.isBase = true then some (.fn f a b, H) else none
  | .makeMap t none => match P.underlying t with
    | some (.map kt _) => some (.map H.length, H ++ [.map kt []])
    | _ => none
  | .makeSlice t l c => makeSliceV P t H (ev T l) (ev T c)
  | .slice t x lo hi none => (sliceV P t H (ev T x) (lo.map (ev T)) (hi.map (ev T))).map fun v => (v, H)
  | .fieldAddr s x f => (fieldAddrV P s (ev T x) f).map fun v => (v, H)
  | .field s x f => (fieldV P s (ev T x) f).map fun v => (v, H)
  | .indexAddr t x i => (indexAddrV P t (ev T x) (ev T i)).map fun v => (v, H)
  | .index t x i => (indexV P t (ev T x) (ev T i)).map fun v => (v, H)
  | .lookup t x i ok => (lookupV P t H (ev T x) (ev T i) ok).map fun v => (v, H)
  | .mapUpdate t m k x | .insert t m k x => (updateV P t H (ev T m) (ev T k) (ev T x)).map fun H' => (.tup [], H')
  | .extract x i => match ev T x with
    | .tup vs => (vs[i]?).map fun v => (v, H)
    | _ => none
  | .call c => match c.callee with
    | .builtin b => builtinV P b c.argTypes (c.args.toList.map (ev T)) H
    | _ => none
  | _ => none

/-! Code. -/
structure St where
  T : Fr
  D : List (Nat × List V)
  H : Hp

inductive Ex where
  | nor
  | exit (id : Nat)
  | ret

abbrev CallT := Nat → List V → Hp → Option (V × Hp)
abbrev CodeT := Code → St → Option (Ex × St)

def wantedV (all : List Oper) (o : Oper) (T : Fr) : Option Bool :=
  match o.guard with
  | none => some true
  | some (j, want) =>
    match (all[j]?).bind (·.dst) with
    | none => some false
    | some d => match get T d with
      | .bool b => some (b == want)
      | .undef => none
      | _ => some false

def calleeV (T : Fr) (c : Call) : Option (Nat × List V) :=
  match c.callee with
  | .value f => match ev T f with
    | .fn k a b => some (k, a ++ c.args.toList.map (ev T) ++ b)
    | _ => none
  | _ => none

def stepV (cl : CallT) (o : Oper) (s : St) : Option (V × St) :=
  match o.op with
  | .defer c => (calleeV s.T c).map fun r => (.tup [], { s with D := r :: s.D })
  | .call c => match c.callee with
    | .value _ => (calleeV s.T c).bind fun r => (cl r.1 r.2 s.H).map fun q => (q.1, { s with H := q.2 })
    | _ => (opV P o.op s.T s.H).map fun q => (q.1, { s with H := q.2 })
  | _ => (opV P o.op s.T s.H).map fun q => (q.1, { s with H := q.2 })

/-- A slot is written; it must be one of the frame's. -/
def setO (N : Nat) (s : St) : Option Nat → V → Option St
  | none, _ => some s
  | some d, v => if d < N then some { s with T := put s.T d v } else none

def opsV (cl : CallT) (N : Nat) (all : List Oper) : List Oper → St → Option St
  | [], s => some s
  | o :: rest, s => (wantedV all o s.T).bind fun w =>
    if w = true then (stepV P cl o s).bind fun q => (setO N q.2 o.dst q.1).bind (opsV cl N all rest)
    else (setO N s o.dst (.tup [])).bind (opsV cl N all rest)

/-! A region that draws its order: the text's order is taken; what must hold that every order gives the same is asked. -/
inductive Kd where
  | pure
  | read
  | alloc
  | eff
  deriving DecidableEq
def kind (P : Program) : Op → Kd
  | .move _ | .assign _ | .pick .. | .build .. | .nilCheck _ | .binOp .. | .unOp .. | .makeFunc .. | .fieldAddr .. | .field .. | .indexAddr .. | .index .. | .extract .. => .pure
  | .load .. | .lookup .. | .slice .. => .read
  | .alloc _ | .box .. | .buildSlice .. | .makeMap .. | .makeSlice .. => .alloc
  | .convert s d _ => match P.underlying s, P.underlying d with
    | _, some (.int _) => .pure
    | some (.slice _), some .string => .read
    | some .string, some .string => .pure
    | some .string, some (.slice _) => .alloc
    | _, _ => .eff
  | .call c => match c.callee with
    | .builtin .len => .read
    | .builtin .max | .builtin .min => .pure
    | _ => .eff
  | _ => .eff
def isEff (k : Kd) : Bool := match k with
  | .alloc | .eff => true
  | _ => false
def namesOf (all : List Oper) (o : Oper) : List Tmp :=
  o.dst.toList ++ (o.op.operands.toList.filterMap fun x => match x with | .tmp t => some t | _ => none) ++
    (match o.guard with | some (j, _) => ((all[j]?).bind (·.dst)).toList | none => [])
/-- Of each operation the set of those that it waits for, as bits. -/
def befores (all : List Oper) : List Nat :=
  all.foldl (fun acc o => acc ++ [o.after.toList.foldl (fun s e => if Region.binds .any e then s ||| 2 ^ e.on ||| acc.getD e.on 0 else s) 0]) []
def waitsFor (B : List Nat) (j i : Nat) : Bool := (B.getD j 0).testBit i
/-- Every edge leads back; who writes a slot and who names it are ordered; of two effects the later one waits for the elder, or only makes a block; a test is ordered behind what it asks. -/
def drawOk (all : List Oper) : Bool :=
  let B := befores all
  let n := all.length
  (List.range n).all fun j => (match all[j]? with
    | none => true
    | some oj =>
      (oj.after.toList.all fun e => e.on < j || !Region.binds .any e) &&
      (match oj.guard with | some (g, _) => waitsFor B j g | none => true) &&
      (List.range j).all fun i => (match all[i]? with
        | none => true
        | some oi => waitsFor B j i ||
          ((!(isEff (kind P oi.op) && kind P oj.op == .eff)) &&
           (match oi.dst with | some t => !(namesOf all oj).contains t | none => true) &&
           (match oj.dst with | some t => !(namesOf all oi).contains t | none => true))))

def eqBase : V → V → Bool
  | .int k a, .int k' b => k == k' && a == b
  | .bool a, .bool b => a == b
  | .str a, .str b => a == b
  | .nilptr, .nilptr => true
  | .ptr a b c, .ptr a' b' c' => a == a' && b == b' && c == c'
  | .nilslice, .nilslice => true
  | .slice a b c d e .full, .slice a' b' c' d' e' .full => a == a' && b == b' && c == c' && d == d' && e == e'
  | .slice a b c d e .unk, .slice a' b' c' d' e' .unk => a == a' && b == b' && c == c' && d == d' && e == e'
  | .slice a b c d e (.ex f), .slice a' b' c' d' e' (.ex f') => a == a' && b == b' && c == c' && d == d' && e == e' && f == f'
  | .nilmap, .nilmap => true
  | .map a, .map b => a == b
  | .nilfn, .nilfn => true
  | .nilif, .nilif => true
  | _, _ => false
def eqList (f : V → V → Bool) : List V → List V → Bool
  | a :: x, b :: y => f a b && eqList f x y
  | [], [] => true
  | _, _ => false
def eqC : V → V → Bool
  | .fn f a b, .fn f' a' b' => f == f' && eqList eqBase a a' && eqList eqBase b b'
  | a, b => eqBase a b
def eqA : V → V → Bool
  | .agg a, .agg b => eqList eqC a b
  | .tup a, .tup b => eqList eqC a b
  | a, b => eqC a b
def eqO : Option (V × Hp) → Option (V × Hp) → Bool
  | some a, some b => eqA a.1 b.1
  | _, _ => false

/-- The states ahead of each operation, and the last one. -/
def traceV (cl : CallT) (N : Nat) (all : List Oper) : List Oper → St → Option (List St × St)
  | [], s => some ([], s)
  | o :: rest, s => (wantedV all o s.T).bind fun w =>
    (if w = true then (stepV P cl o s).bind fun q => setO N q.2 o.dst q.1 else setO N s o.dst (.tup [])).bind fun s' =>
      (traceV cl N all rest s').map fun r => (s :: r.1, r.2)

/-- What a reader reads does not hang on whether an effect that it isn't ordered with has come. -/
def drawDyn (all : List Oper) (tr : List St) : Bool :=
  let B := befores all
  let n := all.length
  (List.range n).all fun q => (match all[q]?, tr[q]? with
    | some oq, some sq =>
      kind P oq.op != .read || wantedV all oq sq.T != some true ||
      (List.range n).all fun e => (match all[e]?, tr[e]?, tr[e + 1]? with
        | some oe, some s1, some s2 =>
          kind P oe.op != .eff || waitsFor B q e || waitsFor B e q || wantedV all oe s1.T != some true ||
            eqO (opV P oq.op sq.T s1.H) (opV P oq.op sq.T s2.H)
        | _, _, _ => true)
    | _, _ => true)

def codeF (cl : CallT) (N : Nat) (rec : CodeT) (c : Code) (s : St) : Option (Ex × St) :=
  match c with
  | .skip => some (.nor, s)
  | .region _ ops draw =>
    if draw = true then
      if drawOk P ops.toList = true then
        (traceV P cl N ops.toList ops.toList s).bind fun r => if drawDyn P ops.toList (r.1 ++ [r.2]) = true then some (.nor, r.2) else none
      else none
    else (opsV P cl N ops.toList ops.toList s).map fun s' => (.nor, s')
  | .seq a b => (rec a s).bind fun r => match r.1 with
    | .nor => rec b r.2
    | e => some (e, r.2)
  | .cond c a b => match ev s.T c with
    | .bool true => rec a s
    | .bool false => rec b s
    | _ => none
  | .block id b => (rec b s).map fun r => match r.1 with
    | .exit id' => if id' = id then (.nor, r.2) else r
    | _ => r
  | .loop b => (rec b s).bind fun r => match r.1 with
    | .nor => rec (.loop b) r.2
    | e => some (e, r.2)
  | .exit id => some (.exit id, s)
  | .ret => some (.ret, s)
  | _ => none

def resV (H : Hp) (T : Fr) : ResultVar → Option V
  | .tmp t => some (get T t)
  | .cell a t => loadV P t H (get T a)
def mapO {α β : Type} (f : α → Option β) : List α → Option (List β)
  | [] => some []
  | x :: xs => (f x).bind fun y => (mapO f xs).map fun ys => y :: ys
def V.isTup : V → Bool
  | .tup _ => true
  | _ => false
def tupV : List V → Option V
  | [v] => some v
  | vs => if vs.all (fun v => !v.isTup) = true then some (.tup vs) else none
def resultsV (fn : Func) (H : Hp) (T : Fr) : Option V := (mapO (resV P H T) fn.results.toList).bind tupV

/-- Functions that are met by a contract: called, and deferred; and what is kept of a call's new blocks. -/
structure Prims where
  call : Nat → Option (List V → Hp → Option (V × Hp))
  dfr : Nat → Option (List V → Hp → Option Hp)
  gc : Hp → V × Hp → V × Hp
variable (Pr : Prims)
/-- A deferred call; it defers nothing itself. -/
def callD (code : Nat → CodeT) (k : Nat) (args : List V) (H : Hp) : Option Hp :=
  match Pr.dfr k with
  | some p => p args H
  | none => (P.funcs[k]?).bind fun fn => fn.body.bind fun c =>
    (code (max args.length fn.ntmps) c ⟨args, [], H⟩).bind fun r => match r.1, r.2.D with
      | .exit _, _ => none
      | _, [] => (resultsV P fn r.2.H r.2.T).map fun _ => r.2.H
      | _, _ => none
def defersV (code : Nat → CodeT) : List (Nat × List V) → Hp → Option Hp
  | [], H => some H
  | d :: ds, H => (callD P Pr code d.1 d.2 H).bind fun H' => defersV code ds H'

def callF (code : Nat → CodeT) (k : Nat) (args : List V) (H : Hp) : Option (V × Hp) :=
  match Pr.call k with
  | some p => p args H
  | none => (P.funcs[k]?).bind fun fn => fn.body.bind fun c =>
    (code (max args.length fn.ntmps) c ⟨args, [], H⟩).bind fun r => match r.1 with
      | .exit _ => none
      | _ => (defersV P Pr code r.2.D r.2.H).bind fun H' => (resultsV P fn H' r.2.T).map fun v => Pr.gc H (v, H')
/-- With so much fuel. -/
def both : Nat → (Nat → CodeT) × CallT
  | 0 => (fun _ _ _ => none, fun _ _ _ => none)
  | n + 1 => (fun N => codeF P (both n).2 N ((both n).1 N), callF P Pr (both n).1)
def exec (n : Nat) (N : Nat) : CodeT := (both P Pr n).1 N
def callN (n : Nat) : CallT := (both P Pr n).2
end
end Go.Am
