/-
  Texts of this seat, laid together. No statement of the seat stands here.
-/
import Derived.WalkKit
import Derived.Laws.StructEq
import Derived.Laws.BytesString
import Derived.Laws.BytesArg
set_option linter.unusedSectionVars false
namespace Go.An
open Go
class Orc where
 imm : Nat → Nat → Nat → Bool
 acc : Nat → Nat → Bool
 keep : Nat → Bool
 pure : Nat → Bool
inductive Cap where
 | full
 | unk
 | ex (c : Nat)
inductive V where
 | undef
 | int (k : IntKind) (n : Int)
 | bool (b : Bool)
 | str (s : List UInt8)
 | nilptr
 | ptr (id g off : Nat)
 | nilslice
 | slice (id g off n sz : Nat) (cp : Cap)
 | nilmap
 | map (id : Nat)
 | nilfn
 | fn (f : Nat) (first caps : List V)
 | agg (cs : List V)
 | tup (cs : List V)
 | nilif
 | isl (cs : List V) (n sz : Nat)
 | ipt (cs : List V) (off : Nat)
 | osl (id : Nat) (cs : List V) (n sz : Nat)
 | yld (id : Nat)
 | ifc (t : TypeId) (ag : Bool) (cs : List V)
inductive Ex where
 | nor
 | exit (id : Nat)
 | ret
structure LoopA where
 T : List V
 N : Nat
 ps : List Nat
 ca : Code
 cb : Code
 st : Nat
 pend : Ex
 d : Nat
inductive AB where
 | row (g : Nat) (cs : List V) (own : Bool)
 | map (kt : TypeId) (es : List (V × V))
 | hole
 | tok (n : Nat)
 | siter (s : List UInt8) (pos : Nat)
 | loop (L : LoopA)
 | dfr (b : Bool)
def V.dem1 : V → V
 | .osl _ cs n sz => if n = 0 then .nilslice else .isl cs n sz
 | v => v
def V.dem : V → V
 | .agg cs => .agg (cs.map V.dem1)
 | v => v.dem1
def V.cells : V → List V
 | .agg cs => cs
 | v => [v]
def V.isCell : V → Bool
 | .undef | .agg _ | .tup _ => false
 | _ => true
def V.isBase : V → Bool
 | .undef | .agg _ | .tup _ | .fn .. | .ifc .. => false
 | _ => true
mutual
def V.imm : V → Bool
 | .undef | .ptr .. | .slice .. | .map _ | .agg _ | .tup _ | .fn .. | .osl .. | .yld _ | .ifc .. => false
 | .isl cs _ _ | .ipt cs _ => immL cs
 | .int .. | .bool _ | .str _ | .nilptr | .nilslice | .nilmap | .nilfn | .nilif => true
def immL : List V → Bool
 | [] => true
 | c :: cs => c.imm && immL cs
end
def eqCap : Cap → Cap → Bool
 | .full, .full => true
 | .unk, .unk => true
 | .ex f, .ex f' => f == f'
 | _, _ => false
mutual
def eqI : V → V → Bool
 | .undef, .undef => true
 | .int k a, .int k' b => k == k' && a == b
 | .bool a, .bool b => a == b
 | .str a, .str b => a == b
 | .nilptr, .nilptr => true
 | .ptr a b c, .ptr a' b' c' => a == a' && b == b' && c == c'
 | .nilslice, .nilslice => true
 | .slice a b c d e p, .slice a' b' c' d' e' p' => a == a' && b == b' && c == c' && d == d' && e == e' && eqCap p p'
 | .nilmap, .nilmap => true
 | .map a, .map b => a == b
 | .nilfn, .nilfn => true
 | .nilif, .nilif => true
 | .fn f a b, .fn f' a' b' => f == f' && eqIL a a' && eqIL b b'
 | .agg a, .agg b => eqIL a b
 | .tup a, .tup b => eqIL a b
 | .isl a n s, .isl a' n' s' => eqIL a a' && n == n' && s == s'
 | .ipt a n, .ipt a' n' => eqIL a a' && n == n'
 | .osl i a n s, .osl i' a' n' s' => i == i' && eqIL a a' && n == n' && s == s'
 | .yld a, .yld b => a == b
 | .ifc t b a, .ifc t' b' a' => t == t' && b == b' && eqIL a a'
 | _, _ => false
def eqIL : List V → List V → Bool
 | [], [] => true
 | a :: x, b :: y => eqI a b && eqIL x y
 | _, _ => false
end
def ofCell : Value → V
 | .int k n => .int k n
 | .bool b => .bool b
 | .string s => .str s.data.toList
 | .pointer none => .nilptr
 | .slice none 0 0 => .nilslice
 | .map none => .nilmap
 | .nilFunc => .nilfn
 | .nilIface => .nilif
 | .func (.func f) first caps => if first.size = 0 ∧ caps.size = 0 then .fn f [] [] else .undef
 | _ => .undef
def ofVal : Value → V
 | .agg cs => .agg (cs.toList.map ofCell)
 | v => ofCell v
abbrev Fr := List V
def get (T : Fr) (i : Nat) : V := T.getD i .undef
def put : Fr → Nat → V → Fr
 | [], 0, v => [v]
 | [], i + 1, v => .undef :: put [] i v
 | _ :: T, 0, v => v :: T
 | x :: T, i + 1, v => x :: put T i v
def putO (T : Fr) : Option Nat → V → Fr
 | none, _ => T
 | some i, v => put T i v
abbrev Hp := List AB
def getRow (H : Hp) (id g : Nat) : Option (List V × Bool) :=
 match H[id]? with
 | some (.row g' cs own) => if g = g' then some (cs, own) else none
 | _ => none
def tokAt (H : Hp) (id : Nat) : Option Nat :=
 match H[id]? with
 | some (.tok n) => some n
 | _ => none
def getIter (H : Hp) (id : Nat) : Option (List UInt8 × Nat) :=
 match H[id]? with
 | some (.siter s p) => some (s, p)
 | _ => none
def getLoopA (H : Hp) (id : Nat) : Option LoopA :=
 match H[id]? with
 | some (.loop L) => some L
 | _ => none
def getMap (H : Hp) (id : Nat) : Option (TypeId × List (V × V)) :=
 match H[id]? with
 | some (.map kt es) => some (kt, es)
 | _ => none
def ev (T : Fr) : Operand → V
 | .tmp t => get T t
 | .const v => ofVal v
 | .global _ => .undef
 | .func f => .fn f [] []
def mapO {α β : Type} (f : α → Option β) : List α → Option (List β)
 | [] => some []
 | x :: xs => (f x).bind fun y => (mapO f xs).map fun ys => y :: ys
def V.flat : V → Bool
 | .int .. | .bool _ | .str _ => true
 | _ => false
def inlB (n : Nat) (H : Hp) : Nat → V → Option V
 | 0, _ => none
 | f + 1, v => match v with
  | .slice id g off len sz cp => if id < n then some (.slice id g off len sz cp) else
   match H[id]? with
   | some (.row g' cs true) => if g' = g ∧ off + len * sz ≤ cs.length then (mapO (inlB n H f) ((cs.drop off).take (len * sz))).bind fun xs => if immL xs = true then some (.isl xs len sz) else none else none
   | _ => none
  | .ptr id g off => if id < n then some (.ptr id g off) else
   match H[id]? with
   | some (.row g' cs true) => if g' = g then (mapO (inlB n H f) cs).bind fun xs => if immL xs = true then some (.ipt xs off) else none else none
   | _ => none
  | .map id => if id < n then some (.map id) else none
  | .int k m => some (.int k m)
  | .bool b => some (.bool b)
  | .str s => some (.str s)
  | .nilptr => some .nilptr
  | .nilslice => some .nilslice
  | .nilmap => some .nilmap
  | .nilfn => some .nilfn
  | .nilif => some .nilif
  | .isl cs m sz => some (.isl cs m sz)
  | .ipt cs off => some (.ipt cs off)
  | .osl id cs m sz => if id < n then some (.osl id cs m sz) else some (V.osl id cs m sz).dem1
  | .yld id => if id < n then some (.yld id) else none
  | .undef | .fn .. | .agg _ | .tup _ | .ifc .. => none
def inlC (n : Nat) (H : Hp) (f : Nat) : V → Option V
 | .fn k a b => (mapO (inlB n H f) a).bind fun a' => (mapO (inlB n H f) b).map fun b' => .fn k a' b'
 | .ifc t b cs => (mapO (inlB n H f) cs).map fun cs' => .ifc t b cs'
 | v => inlB n H f v
def inlA (n : Nat) (H : Hp) (f : Nat) : V → Option V
 | .agg cs => (mapO (inlC n H f) cs).map .agg
 | v => inlC n H f v
def inlR (n : Nat) (H : Hp) (f : Nat) : V → Option V
 | .tup vs => (mapO (inlA n H f) vs).map .tup
 | v => inlA n H f v
section
variable (P : Program)
def szOf (t : TypeId) : Option Nat := (P.info? t).map (·.size)
def bytesOf' (t : TypeId) : Option Nat := (P.info? t).map (·.bytes)
def aggT (t : TypeId) : Option Bool :=
 match P.underlying t with
 | some (.struct _) | some (.array _ _) => some true
 | some _ => some false
 | none => none
def zeroV (t : TypeId) : Option V := (P.info? t).bind fun i => i.zero.map ofVal
def partV (t : TypeId) (cs : List V) (off : Nat) : Option V :=
 (aggT P t).bind fun b => if b then (szOf P t).bind fun n => if off + n ≤ cs.length then some (.agg ((cs.drop off).take n)) else none else cs[off]?
def loadV (t : TypeId) (H : Hp) : V → Option V
 | .ptr id g off => (getRow H id g).bind fun r => partV P t r.1 off
 | .ipt cs off => partV P t cs off
 | _ => none
def setAt : List V → Nat → List V → List V
 | cs, off, vs => cs.take off ++ vs ++ cs.drop (off + vs.length)
def storeV (t : TypeId) (H : Hp) (p v : V) : Option Hp :=
 match p with
 | .ptr id g off => (getRow H id g).bind fun r =>
   if r.2 = true ∧ szOf P t = some v.cells.length ∧ off + v.cells.length ≤ r.1.length ∧ v.cells.all V.isCell = true then some (H.set id (.row g (setAt r.1 off v.cells) true)) else none
 | _ => none
def newRowV (cs : List V) (H : Hp) : Option (V × Hp) := if cs.all V.isCell then some (.ptr H.length 0 0, H ++ [.row 0 cs true]) else none
def fillV (place : Nat → Option (Nat × Nat)) (cs : List V) : List (Nat × V) → Option (List V)
 | [] => some cs
 | (i, v) :: rest =>
  (place i).bind fun p => if v.cells.all V.isCell = true ∧ v.cells.length = p.2 ∧ p.1 + v.cells.length ≤ cs.length then fillV place (setAt cs p.1 v.cells) rest else none
def buildV (t : TypeId) (parts : List (Nat × V)) : Option V :=
 (zeroV P t).bind fun z =>
 match P.underlying t with
 | some (.struct fields) => (fields.toList.mapM fun f => (P.info? f.type).map fun i => (f.offset, i.size)).bind fun places => (fillV (fun i => places[i]?) z.cells parts).map V.agg
 | some (.array _ e) => (szOf P e).bind fun n => (fillV (fun i => some (i * n, n)) z.cells parts).map V.agg
 | _ => none
def repeatV (z : List V) : Nat → List V
 | 0 => []
 | n + 1 => z ++ repeatV z n
def buildSliceV (t : TypeId) (len : Nat) (parts : List (Nat × V)) (H : Hp) : Option (V × Hp) :=
 match P.underlying t with
 | some (.slice e) =>
  (szOf P e).bind fun n => (zeroV P e).bind fun z =>
   if z.cells.length = n ∧ 0 < n ∧ len * n ≤ 2 ^ 24 then
    (fillV (fun i => some (i * n, n)) (repeatV z.cells len) parts).bind fun cs =>
     if cs.all V.isCell then some (.slice H.length 0 0 len n .full, H ++ [.row 0 cs true]) else none
   else none
 | _ => none
def fieldAddrV (s : TypeId) (p : V) (i : Nat) : Option V :=
 match P.underlying s, p with
 | some (.struct fields), .ptr id g off => (fields[i]?).bind fun f => (szOf P f.type).bind fun n => if n = 0 then none else some (.ptr id g (off + f.offset))
 | some (.struct fields), .ipt cs off => (fields[i]?).bind fun f => (szOf P f.type).bind fun n => if n = 0 then none else some (.ipt cs (off + f.offset))
 | _, _ => none
def fieldV (s : TypeId) (x : V) (i : Nat) : Option V :=
 match P.underlying s, x with
 | some (.struct fields), .agg cs => (fields[i]?).bind fun f => partV P f.type cs f.offset
 | _, _ => none
def indexAddrV (t : TypeId) (x i : V) : Option V :=
 match P.underlying t, x, i with
 | some (.array len e), .ptr id g off, .int _ j => (szOf P e).bind fun n => if 0 ≤ j ∧ j < len then some (.ptr id g (off + j.toNat * n)) else none
 | some (.slice e), .slice id g off len sz _, .int _ j => if szOf P e = some sz ∧ 0 ≤ j ∧ j < len then some (.ptr id g (off + j.toNat * sz)) else none
 | some (.array len e), .ipt cs off, .int _ j => (szOf P e).bind fun n => if 0 ≤ j ∧ j < len then some (.ipt cs (off + j.toNat * n)) else none
 | some (.slice e), .isl cs len sz, .int _ j => if szOf P e = some sz ∧ 0 < sz ∧ cs.length = len * sz ∧ 0 ≤ j ∧ j < len then some (.ipt cs (j.toNat * sz)) else none
 | _, _, _ => none
def indexV (t : TypeId) (x i : V) : Option V :=
 match P.underlying t, x, i with
 | some (.array len e), .agg cs, .int _ j => if 0 ≤ j ∧ j < len then (szOf P e).bind fun n => partV P e cs (j.toNat * n) else none
 | some .string, .str s, .int _ j => if 0 ≤ j then (s[j.toNat]?).map fun b => .int .u8 b.toNat else none
 | _, _, _ => none
def boundV : Option V → Nat → Option Int
 | none, d => some d
 | some (.int _ j), _ => some j
 | _, _ => none
def cutCap : Cap → Nat → Cap
 | .full, _ => .full
 | .unk, _ => .unk
 | .ex c, l => .ex (c - l)
def sliceV (t : TypeId) (H : Hp) (x : V) (lo hi : Option V) : Option V :=
 match P.underlying t, x with
 | some .string, .str s => (boundV lo 0).bind fun l => (boundV hi s.length).bind fun h => if 0 ≤ l ∧ l ≤ h ∧ h ≤ s.length then some (.str ((s.drop l.toNat).take (h.toNat - l.toNat))) else none
 | some (.slice e), .nilslice => (szOf P e).bind fun _ => (boundV lo 0).bind fun l => (boundV hi 0).bind fun h => if l = 0 ∧ h = 0 then some .nilslice else none
 | some (.slice e), .slice id g off n sz cp => (boundV lo 0).bind fun l => (boundV hi n).bind fun h =>
   if szOf P e = some sz ∧ 0 ≤ l ∧ l ≤ h ∧ h ≤ n then some (.slice id g (off + l.toNat * sz) (h.toNat - l.toNat) sz (cutCap cp l.toNat)) else none
 | some (.slice e), .isl cs n sz => (boundV lo 0).bind fun l => (boundV hi n).bind fun h =>
   if szOf P e = some sz ∧ 0 < sz ∧ cs.length = n * sz ∧ 0 ≤ l ∧ l ≤ h ∧ h ≤ n then some (.isl ((cs.drop (l.toNat * sz)).take ((h.toNat - l.toNat) * sz)) (h.toNat - l.toNat) sz) else none
 | some (.array n e), .ptr id g off => (szOf P e).bind fun sz => (getRow H id g).bind fun r => (boundV lo 0).bind fun l => (boundV hi n).bind fun h =>
   if 0 ≤ l ∧ l ≤ h ∧ h ≤ n ∧ off + n * sz ≤ r.1.length then some (.slice id g (off + l.toNat * sz) (h.toNat - l.toNat) sz (.ex (n - l.toNat))) else none
 | _, _ => none
def slice3V (t : TypeId) (x : V) (lo : Option V) (hi mx : V) : Option V :=
 match P.underlying t, x with
 | some (.slice e), .slice id g off n sz _ => (boundV lo 0).bind fun l => (boundV (some hi) 0).bind fun h => (boundV (some mx) 0).bind fun m =>
   if szOf P e = some sz ∧ 0 ≤ l ∧ l ≤ h ∧ h ≤ m ∧ m ≤ n then some (.slice id g (off + l.toNat * sz) (h.toNat - l.toNat) sz (.ex (m.toNat - l.toNat))) else none
 | some (.slice e), .isl cs n sz => (boundV lo 0).bind fun l => (boundV (some hi) 0).bind fun h => (boundV (some mx) 0).bind fun m =>
   if szOf P e = some sz ∧ 0 < sz ∧ cs.length = n * sz ∧ 0 ≤ l ∧ l ≤ h ∧ h ≤ m ∧ m ≤ n then some (.isl ((cs.drop (l.toNat * sz)).take ((h.toNat - l.toNat) * sz)) (h.toNat - l.toNat) sz) else none
 | _, _ => none
def srcCells (H : Hp) : V → Option (List V × Nat)
 | .nilslice => some ([], 0)
 | .slice id g off n sz _ => (getRow H id g).bind fun r => if off + n * sz ≤ r.1.length then some ((r.1.drop off).take (n * sz), n) else none
 | .str s => some (s.map fun b => .int .u8 b.toNat, s.length)
 | .isl cs n sz => if cs.length = n * sz then some (cs, n) else none
 | _ => none
def appendV (t : TypeId) (H : Hp) (s x : V) : Option (V × Hp) :=
 match P.underlying t with
 | some (.slice e) =>
  (szOf P e).bind fun sz => (bytesOf' P e).bind fun by_ => (zeroV P e).bind fun z => (srcCells H x).bind fun (ys, m) =>
  if 0 < sz ∧ z.cells.length = sz ∧ ys.length = m * sz ∧ ys.all V.isCell = true then
   match s with
   | .isl cs n k => if m = 0 then some (.isl cs n k, H) else none
   | .osl id cs n k => if m = 0 then some (.osl id cs n k, H) else
    if (n = 0 ∨ k = sz) ∧ tokAt H id = some cs.length ∧ immL ys = true ∧ (n + m) * by_ ≤ 2 ^ 40 ∧ n + m ≤ 2 ^ 40 then some (.osl id (cs ++ ys) (n + m) sz, H.set id (.tok (cs.length + ys.length))) else none
   | .nilslice => if m = 0 then some (.nilslice, H) else if m * by_ ≤ 2 ^ 40 ∧ m ≤ 2 ^ 40 then some (.slice H.length 0 0 m sz .full, H ++ [.row 0 ys true]) else none
   | .slice id g off n sz' cp => (getRow H id g).bind fun r =>
    if sz' = sz ∧ (n + m) * by_ ≤ 2 ^ 40 ∧ n + m ≤ 2 ^ 40 ∧ off + n * sz ≤ r.1.length then
     if m = 0 then some (s, H) else
     match cp with
     | .ex c => if c = n then some (.slice H.length 0 0 (n + m) sz .full, H ++ [.row 0 ((r.1.drop off).take (n * sz) ++ ys) true]) else none
     | .full =>
      if r.2 = true then
       if off + (n + m) * sz ≤ r.1.length then some (.slice id g off (n + m) sz .full, H.set id (.row g (setAt r.1 (off + n * sz) ys) true))
       else if off + n * sz = r.1.length then some (.slice id (g + 1) 0 (n + m) sz .full, H.set id (.row (g + 1) (r.1.drop off ++ ys) true))
       else none
      else none
     | .unk => none
    else none
   | _ => none
  else none
 | _ => none
def copyV (t : TypeId) (H : Hp) (d x : V) : Option (V × Hp) :=
 match P.underlying t with
 | some (.slice e) =>
  (szOf P e).bind fun sz => (srcCells H x).bind fun (ys, m) =>
  match d with
  | .nilslice => if ys.length = m * sz then some (.int .i64 0, H) else none
  | .slice id g off n sz' _ => (getRow H id g).bind fun r =>
   if sz' = sz ∧ ys.length = m * sz ∧ ys.all V.isCell = true ∧ r.2 = true ∧ off + n * sz ≤ r.1.length then some (.int .i64 (min m n : Nat), H.set id (.row g (setAt r.1 off (ys.take (min m n * sz))) true)) else none
  | _ => none
 | _ => none
def makeSliceV (t : TypeId) (H : Hp) (n c : V) : Option (V × Hp) :=
 match P.underlying t, n, c with
 | some (.slice e), .int .i64 n, .int .i64 c =>
  (szOf P e).bind fun sz => (bytesOf' P e).bind fun by_ => (zeroV P e).bind fun z =>
  if 0 < sz ∧ z.cells.length = sz ∧ z.cells.all V.isCell = true ∧ 0 ≤ n ∧ n ≤ c ∧ c * by_ ≤ 2 ^ 40 ∧ c ≤ 2 ^ 40 then some (.slice H.length 0 0 n.toNat sz .full, H ++ [.row 0 (repeatV z.cells n.toNat) true]) else none
 | _, _, _ => none
def growV (t : TypeId) (H : Hp) (s x : V) : Option (V × Hp) :=
 match P.underlying t, s, x with
 | some (.slice e), .nilslice, .int .i64 m => (szOf P e).bind fun sz => (bytesOf' P e).bind fun by_ => (zeroV P e).bind fun z =>
  if 0 < sz ∧ z.cells.length = sz ∧ z.cells.all V.isCell = true ∧ 0 < m ∧ m * by_ ≤ 2 ^ 40 ∧ m ≤ 2 ^ 40 then some (.slice H.length 0 0 m.toNat sz .full, H ++ [.row 0 (repeatV z.cells m.toNat) true]) else none
 | _, _, _ => none
inductive CK where
 | int (k : IntKind)
 | str
 | bool
def ckOk : CK → V → Bool
 | .int k, .int k' _ => k == k'
 | .str, .str _ => true
 | .bool, .bool _ => true
 | _, _ => false
def eqCell : V → V → Bool
 | .int _ a, .int _ b => a == b
 | .str a, .str b => a == b
 | .bool a, .bool b => a == b
 | _, _ => false
def eqCells : List V → List V → Bool
 | a :: x, b :: y => eqCell a b && eqCells x y
 | [], [] => true
 | _, _ => false
def ckOks : List CK → List V → Bool
 | k :: ks, v :: vs => ckOk k v && ckOks ks vs
 | [], [] => true
 | _, _ => false
def repeatK (z : List CK) : Nat → List CK
 | 0 => []
 | n + 1 => z ++ repeatK z n
def flatFields (flat : TypeId → Option (List CK)) : List Field → List CK → Option (List CK)
 | [], acc => some acc
 | f :: fs, acc => (flat f.type).bind fun ks => if f.name ≠ "_" ∧ f.offset = acc.length ∧ szOf P f.type = some ks.length then flatFields flat fs (acc ++ ks) else none
def flatT : Nat → TypeId → Option (List CK)
 | 0, _ => none
 | d + 1, t =>
  match P.underlying t with
  | some (.int k) => some [.int k]
  | some .string => some [.str]
  | some .bool => some [.bool]
  | some (.struct fs) => if P.stoodInHeld t then none else flatFields P (flatT d) fs.toList []
  | some (.array n e) => (flatT d e).bind fun ks => if szOf P e = some ks.length then some (repeatK ks n) else none
  | _ => none
def eqV (t : TypeId) (x y : V) : Option Bool :=
 match x, y with
 | .int k a, .int k' b => match P.underlying t with
  | some (.int _) => if k = k' then some (a == b) else none
  | _ => none
 | .str a, .str b => match P.underlying t with
  | some .string => some (a == b)
  | _ => none
 | .bool a, .bool b => match P.underlying t with
  | some .bool => some (a == b)
  | _ => none
 | .agg xs, .agg ys => (flatT P 8 t).bind fun ks => if ckOks ks xs = true ∧ ckOks ks ys = true ∧ aggT P t = some true ∧ szOf P t = some ks.length then some (eqCells xs ys) else none
 | .nilptr, .nilptr => match P.underlying t with
  | some (.pointer _) => some true
  | _ => none
 | .ptr .., .nilptr => match P.underlying t with
  | some (.pointer _) => some false
  | _ => none
 | .nilptr, .ptr .. => match P.underlying t with
  | some (.pointer _) => some false
  | _ => none
 | .nilslice, .nilslice => match P.underlying t with
  | some (.slice _) => some true
  | _ => none
 | .slice .., .nilslice => match P.underlying t with
  | some (.slice _) => some false
  | _ => none
 | .nilslice, .slice .. => match P.underlying t with
  | some (.slice _) => some false
  | _ => none
 | .isl .., .nilslice => match P.underlying t with
  | some (.slice _) => some false
  | _ => none
 | .nilslice, .isl .. => match P.underlying t with
  | some (.slice _) => some false
  | _ => none
 | .ipt .., .nilptr => match P.underlying t with
  | some (.pointer _) => some false
  | _ => none
 | .nilptr, .ipt .. => match P.underlying t with
  | some (.pointer _) => some false
  | _ => none
 | .nilmap, .nilmap => match P.underlying t with
  | some (.map _ _) => some true
  | _ => none
 | .map _, .nilmap => match P.underlying t with
  | some (.map _ _) => some false
  | _ => none
 | .nilfn, .nilfn => match P.underlying t with
  | some (.func _ _ _) => some true
  | _ => none
 | .fn .., .nilfn => match P.underlying t with
  | some (.func _ _ _) => some false
  | _ => none
 | _, _ => none
def bitsV (op : BinOp) (k : IntKind) (x y : Int) : Option Int :=
 let a := BitVec.ofInt k.bits x
 let b := BitVec.ofInt k.bits y
 match op with
 | .and => some (k.wrap (a &&& b).toNat)
 | .or => some (k.wrap (a ||| b).toNat)
 | .xor => some (k.wrap (a ^^^ b).toNat)
 | .andNot => some (k.wrap (a &&& ~~~b).toNat)
 | _ => none
def intV (op : BinOp) (k : IntKind) (x y : Int) : Option V :=
 match op with
 | .add => some (.int k (k.wrap (x + y)))
 | .sub => some (.int k (k.wrap (x - y)))
 | .mul => some (.int k (k.wrap (x * y)))
 | .quo => if y = 0 then none else some (.int k (k.wrap (x.tdiv y)))
 | .rem => if y = 0 then none else some (.int k (x.tmod y))
 | .and | .or | .xor | .andNot => (bitsV op k x y).map (.int k)
 | .eql => some (.bool (x == y))
 | .neq => some (.bool (x != y))
 | .lss => some (.bool (x < y))
 | .leq => some (.bool (x ≤ y))
 | .gtr => some (.bool (x > y))
 | .geq => some (.bool (x ≥ y))
 | _ => none
def strV (op : BinOp) (x y : List UInt8) : Option V :=
 match op with
 | .add => if x.length + y.length ≤ 2 ^ 40 then some (.str (x ++ y)) else none
 | .eql => some (.bool (x == y))
 | .neq => some (.bool !(x == y))
 | .lss => some (.bool (Op.bytesLess x y))
 | .leq => some (.bool (Op.bytesLess x y || x == y))
 | .gtr => some (.bool !(Op.bytesLess x y || x == y))
 | .geq => some (.bool !(Op.bytesLess x y))
 | _ => none
def shiftV (op : BinOp) (k : IntKind) (x y : Int) : Option V :=
 if y < 0 then none else
 match op with
 | .shl => some (.int k (k.wrap (x * 2 ^ min y.toNat k.bits)))
 | .shr => some (.int k (x.fdiv (2 ^ min y.toNat k.bits)))
 | _ => none
def binV (op : BinOp) (t : TypeId) (x y : V) : Option V :=
 match x, y with
 | .int k a, .int k' b =>
  match op with
  | .shl | .shr => shiftV op k a b
  | _ => if k = k' then intV op k a b else none
 | .str a, .str b => strV op a b
 | x, y =>
  match op with
  | .eql => (eqV P t x y).map .bool
  | .neq => (eqV P t x y).map fun b => .bool !b
  | _ => none
def unV (op : UnOp) (x : V) : Option V :=
 match op, x with
 | .neg, .int k n => some (.int k (k.wrap (0 - n)))
 | .xor, .int k n => (bitsV .xor k (if k.signed then -1 else k.max) n).map (.int k)
 | .not, .bool b => some (.bool !b)
 | _, _ => none
def byteOf : V → Option UInt8
 | .int .u8 n => some (UInt8.ofNat n.toNat)
 | _ => none
def bytesOf : List V → Option (List UInt8)
 | [] => some []
 | v :: vs => (byteOf v).bind fun b => (bytesOf vs).map (b :: ·)
def convV (s d : TypeId) (H : Hp) (x : V) : Option (V × Hp) :=
 match P.underlying s, P.underlying d, x with
 | some _, some (.int k), .int _ n => some (.int k (k.wrap n), H)
 | some _, some .string, .str l => some (.str l, H)
 | some _, some (.slice e), .str l =>
  match P.underlying e with
  | some (.int .u8) => if szOf P e = some 1 ∧ l.length ≤ 2 ^ 40 then some (.slice H.length 0 0 l.length 1 .full, H ++ [.row 0 (l.map fun b => .int .u8 b.toNat) true]) else none
  | _ => none
 | some (.slice _), some (.slice e), .slice id g off n sz cp =>
  match P.underlying e with
  | some (.int .u8) => (getRow H id g).bind fun r => if r.2 = true ∧ s = d ∧ 0 < n then some (.slice id g off n sz cp, H) else none
  | _ => none
 | some (.slice e), some .string, x =>
  match P.underlying e with
  | some (.int .u8) =>
   match x with
   | .nilslice => some (.str [], H)
   | .slice id g off n sz _ => (getRow H id g).bind fun r => if sz = 1 ∧ off + n ≤ r.1.length then (bytesOf ((r.1.drop off).take n)).map fun l => (.str l, H) else none
   | .isl cs n sz => if sz = 1 ∧ cs.length = n then (bytesOf cs).map fun l => (.str l, H) else none
   | _ => none
  | _ => none
 | _, _, _ => none
def keyOk (kt : TypeId) (k : V) : Bool :=
 match flatT P 8 kt with
 | some ks => ckOks ks k.cells && (szOf P kt == some ks.length) && (match aggT P kt, k with | some true, .agg _ => true | some false, .agg _ => false | some false, _ => true | _, _ => false)
 | none => false
def findM (es : List (V × V)) (k : V) : Option Nat := es.findIdx? fun e => eqCells e.1.cells k.cells
def elemOk : V → Bool
 | .agg cs => cs.all V.isCell
 | v => v.isCell
def lookupV (t : TypeId) (H : Hp) (m k : V) (ok : Bool) : Option V :=
 match P.underlying t with
 | some (.map kt et) =>
  (match m with | .nilmap => some (kt, []) | .map id => getMap H id | _ => none).bind fun (q : TypeId × List (V × V)) =>
  if q.1 = kt ∧ keyOk P kt k = true then
   (match findM q.2 k with
    | some i => (q.2[i]?).map fun (e : V × V) => ((e.2, true) : V × Bool)
    | none => (zeroV P et).map fun (z : V) => ((z, false) : V × Bool)).map fun (r : V × Bool) => if ok then .tup [r.1, .bool r.2] else r.1
  else none
 | _ => none
def updateV (t : TypeId) (H : Hp) (m k v : V) : Option Hp :=
 match P.underlying t, m with
 | some (.map kt _), .map id =>
  (getMap H id).bind fun q =>
  if q.1 = kt ∧ keyOk P kt k = true ∧ elemOk v = true then
   match findM q.2 k with
   | some i => some (H.set id (.map kt (q.2.set i (k, v))))
   | none => some (H.set id (.map kt (q.2 ++ [(k, v)])))
  else none
 | _, _ => none
def deleteV (t : TypeId) (H : Hp) (m k : V) : Option Hp :=
 match P.underlying t with
 | some (.map kt _) =>
  if keyOk P kt k = true then
   match m with
   | .nilmap => some H
   | .map id => (getMap H id).bind fun q =>
    if q.1 = kt then
     match findM q.2 k with
     | some i => some (H.set id (.map kt (q.2.eraseIdx i)))
     | none => some H
    else none
   | _ => none
  else none
 | _ => none
def lenV (t : TypeId) (H : Hp) (x : V) : Option V :=
 match P.underlying t, x with
 | some .string, .str s => if s.length ≤ 2 ^ 62 then some (.int .i64 s.length) else none
 | some (.array n _), _ => some (.int .i64 n)
 | some (.pointer a), _ => match P.underlying a with
  | some (.array n _) => some (.int .i64 n)
  | _ => none
 | some (.slice _), .nilslice => some (.int .i64 0)
 | some (.slice _), .slice _ _ _ n _ _ => some (.int .i64 n)
 | some (.slice _), .isl _ n _ => some (.int .i64 n)
 | some (.map _ _), .nilmap => some (.int .i64 0)
 | some (.map _ _), .map id => (getMap H id).bind fun q => if q.2.length ≤ 2 ^ 62 then some (.int .i64 q.2.length) else none
 | _, _ => none
def max2V : V → V → Option V
 | .int k x, .int _ y => some (.int k (if y > x then y else x))
 | _, _ => none
def min2V : V → V → Option V
 | .int k x, .int _ y => some (.int k (if y < x then y else x))
 | _, _ => none
def foldV (f : V → V → Option V) : List V → V → Option V
 | [], x => some x
 | y :: ys, x => (f x y).bind (foldV f ys)
def capV (t : TypeId) (x : V) : Option V :=
 match P.underlying t, x with
 | some (.slice _), .nilslice => some (.int .i64 (0 : Nat))
 | some (.slice _), .slice _ _ _ _ _ (.ex c) => some (.int .i64 c)
 | _, _ => none
def builtinV (b : Builtin) (ts : Array TypeId) (args : List V) (H : Hp) : Option (V × Hp) :=
 match b, ts.toList, args with
 | .append, [t, t1], [s, x] => match P.underlying t1 with
  | some (.int _) => growV P t H s x
  | some _ => appendV P t H s x.dem1
  | none => none
 | .copy, [t, _], [d, x] => copyV P t H d x.dem1
 | .delete, t :: _, [m, k] => (deleteV P t H m k).map fun H' => (.tup [], H')
 | .len, t :: _, [x] => (lenV P t H x.dem1).map fun v => (v, H)
 | .cap, t :: _, [x] => (capV P t x.dem1).map fun v => (v, H)
 | .max, _, x :: xs => (foldV max2V xs x).map fun v => (v, H)
 | .min, _, x :: xs => (foldV min2V xs x).map fun v => (v, H)
 | _, _, _ => none
def rangeV (t : TypeId) (H : Hp) (x : V) : Option (V × Hp) :=
 match P.underlying t, x with
 | some .string, .str s => some (.ptr H.length 0 0, H ++ [.siter s 0])
 | _, _ => none
def nextV (H : Hp) (x : V) : Option (V × Hp) :=
 match x with
 | .ptr id 0 0 => (getIter H id).bind fun q =>
  if q.2 < q.1.length then some (.tup [.bool true, .int .i64 q.2, .int .i32 (Utf8.decode ⟨q.1.toArray⟩ q.2).1], H.set id (.siter q.1 (q.2 + (Utf8.decode ⟨q.1.toArray⟩ q.2).2)))
  else some (.tup [.bool false], H)
 | _ => none
def ifcV (t : TypeId) (x : V) : Option V :=
 match P.underlying t with
 | none | some (.interface _) => none
 | some _ => match x with
  | .agg cs => if cs.all V.isBase = true then some (.ifc t true cs) else none
  | v => if v.isBase = true then some (.ifc t false [v]) else none
def methV (t : TypeId) (name : String) : Option FuncId :=
 (P.info? t).bind fun i => (i.methods.find? (·.name == name)).bind fun m =>
  if m.path.isEmpty = true then m.func.bind fun q => match P.underlying t with
   | some (.pointer _) => if q.2 = true then some q.1 else none
   | some _ => if q.2 = false then some q.1 else none
   | none => none
  else none
def opB (o : Op) (T : Fr) (H : Hp) : Option (V × Hp) :=
 match o with
 | .move x | .assign x => some (ev T x, H)
 | .pick c a b => match ev T c with
  | .bool true => some (ev T a, H)
  | .bool false => some (ev T b, H)
  | _ => none
 | .alloc e => (zeroV P e).bind fun z => newRowV z.cells H
 | .box _ x => newRowV (ev T x).cells H
 | .build t parts => (buildV P t (parts.toList.map fun p => (p.1, ev T p.2))).map fun v => (v, H)
 | .buildSlice t len parts => buildSliceV P t len (parts.toList.map fun p => (p.1, ev T p.2)) H
 | .load t a => (loadV P t H (ev T a)).map fun v => (v, H)
 | .store t a x => (storeV P t H (ev T a) (ev T x)).map fun H' => (.tup [], H')
 | .nilCheck x => match ev T x with
  | .ptr id g off => some (.ptr id g off, H)
  | .fn f a b => some (.fn f a b, H)
  | .ipt cs off => some (.ipt cs off, H)
  | .ifc t b cs => some (.ifc t b cs, H)
  | _ => none
 | .binOp op t x y _ => (binV P op t (ev T x).dem1 (ev T y).dem1).map fun v => (v, H)
 | .unOp op _ x => (unV op (ev T x)).map fun v => (v, H)
 | .convert s d x => convV P s d H (ev T x).dem1
 | .makeFunc (.func f) first caps =>
  let a := first.toList.map fun x => (ev T x).dem1
  let b := caps.toList.map fun x => (ev T x).dem1
  if a.all V.isBase = true ∧ b.all V.isBase = true then some (.fn f a b, H) else none
 | .makeMap t none => match P.underlying t with
  | some (.map kt _) => some (.map H.length, H ++ [.map kt []])
  | _ => none
 | .makeSlice t l c => makeSliceV P t H (ev T l) (ev T c)
 | .slice t x lo hi none => (sliceV P t H (ev T x).dem1 (lo.map (ev T)) (hi.map (ev T))).map fun v => (v, H)
 | .slice t x lo (some hi) (some mx) => (slice3V P t (ev T x).dem1 (lo.map (ev T)) (ev T hi) (ev T mx)).map fun v => (v, H)
 | .fieldAddr s x f => (fieldAddrV P s (ev T x) f).map fun v => (v, H)
 | .field s x f => (fieldV P s (ev T x) f).map fun v => (v, H)
 | .indexAddr t x i => (indexAddrV P t (ev T x).dem1 (ev T i)).map fun v => (v, H)
 | .index t x i => (indexV P t (ev T x) (ev T i)).map fun v => (v, H)
 | .lookup t x i ok => (lookupV P t H (ev T x) (ev T i) ok).map fun v => (v, H)
 | .mapUpdate t m k x | .insert t m k x => (updateV P t H (ev T m) (ev T k) (ev T x)).map fun H' => (.tup [], H')
 | .extract x i => match ev T x with
  | .tup vs => (vs[i]?).map fun v => (v, H)
  | _ => none
 | .range t x => rangeV P t H (ev T x)
 | .next x true => nextV H (ev T x)
 | .makeInterface t x => (ifcV P t (ev T x).dem).map fun v => (v, H)
 | .call c => match c.callee with
  | .builtin b => builtinV P b c.argTypes (c.args.toList.map (ev T)) H
  | _ => none
 | _ => none
def imKey : Op → Option (Nat × Nat)
 | .box e (.tmp x) => some (e, x)
 | .buildSlice t n _ => some (t, n)
 | .convert s d _ => some (s, d)
 | .call c => match c.callee, c.argTypes.toList with
  | .builtin .append, [t, t1] => some (t, t1)
  | _, _ => none
 | _ => none
def immO [Orc] (o : Oper) : Bool := match imKey o.op, o.dst with
 | some (a, b), some d => Orc.imm d a b
 | _, _ => false
def immSl (t : TypeId) (len : Nat) (parts : List (Nat × V)) : Option V :=
 match P.underlying t with
 | some (.slice e) =>
  (szOf P e).bind fun n => (zeroV P e).bind fun z =>
   if z.cells.length = n ∧ 0 < n ∧ len * n ≤ 2 ^ 24 then
    (fillV (fun i => some (i * n, n)) (repeatV z.cells len) parts).bind fun cs => if immL cs = true then some (.isl cs len n) else none
   else none
 | _ => none
def immApp (t t1 : TypeId) (s x : V) : Option V :=
 match P.underlying t, P.underlying t1 with
 | some (.slice e), some (.slice _) =>
  (szOf P e).bind fun sz => (bytesOf' P e).bind fun by_ => (zeroV P e).bind fun z => (match x with | .isl cs n k => if cs.length = n * k then some (cs, n) else none | .nilslice => some ([], 0) | _ => none).bind fun (q : List V × Nat) =>
  if 0 < sz ∧ z.cells.length = sz ∧ q.1.length = q.2 * sz ∧ immL q.1 = true ∧ q.2 * by_ ≤ 2 ^ 40 ∧ q.2 ≤ 2 ^ 40 then
   match s with
   | .nilslice => if q.2 = 0 then some .nilslice else some (.isl q.1 q.2 sz)
   | _ => none
  else none
 | _, _ => none
def immCv (s d : TypeId) (x : V) : Option V :=
 match P.underlying s, P.underlying d, x with
 | some .string, some (.slice e), .str l => match P.underlying e with
  | some (.int .u8) => if szOf P e = some 1 ∧ l.length ≤ 2 ^ 40 then some (.isl (l.map fun b => .int .u8 b.toNat) l.length 1) else none
  | _ => none
 | _, _, _ => none
def immV (o : Op) (T : Fr) : Option V :=
 match o with
 | .box _ x => if immL (ev T x).dem.cells = true then some (.ipt (ev T x).dem.cells 0) else none
 | .buildSlice t len parts => immSl P t len (parts.toList.map fun p => (p.1, (ev T p.2).dem))
 | .convert s d x => immCv P s d (ev T x)
 | .call c => match c.callee, c.argTypes.toList, c.args.toList.map fun x => (ev T x).dem1 with
  | .builtin .append, [t, t1], [s, x] => immApp P t t1 s x
  | _, _, _ => none
 | _ => none
variable [Orc]
def opV (o : Oper) (T : Fr) (H : Hp) : Option (V × Hp) := if immO o = true then (immV P o.op T).map fun v => (v, H) else opB P o.op T H
structure St where
 T : Fr
 D : List (Nat × List V)
 H : Hp
abbrev CallT := Nat → List V → Hp → Option (V × Hp)
abbrev CodeT := Code → St → Option (Ex × St)
def wantedV (all : List Oper) (o : Oper) (T : Fr) : Option Bool :=
 match o.guard with
 | none => some true
 | some (j, want) =>
  match (all[j]?).bind (·.dst) with
  | none => some false
  | some d => match get T d with
   | .bool b => some (b == want)
   | .undef => none
   | _ => some false
def Y0 : Nat := 18446744073709551616
def calleeV (T : Fr) (c : Call) : Option (Nat × List V) :=
 match c.callee with
 | .value f => match ev T f with
  | .fn k a b => if k = Y0 then none else some (k, a ++ (c.args.toList.map fun x => if Orc.keep k = true then ev T x else (ev T x).dem) ++ b)
  | .yld id => some (Y0, .yld id :: (c.args.toList.map fun x => (ev T x).dem))
  | _ => none
 | .invoke r name => match ev T r with
  | .ifc t b cs => (methV P t name).bind fun k => if k = Y0 then none else
   (if b then some (V.agg cs) else cs.head?).map fun v => (k, v :: (c.args.toList.map fun x => if Orc.keep k = true then ev T x else (ev T x).dem))
  | _ => none
 | _ => none
def inRound : List (Nat × List V) → Bool
 | [(k, [])] => k == Y0
 | _ => false
def stepV (cl : CallT) (o : Oper) (s : St) : Option (V × St) :=
 match o.op with
 | .defer c => if inRound s.D = true then none else match c.callee with
  | .value _ => (calleeV P s.T c).bind fun r => if r.1 = Y0 then none else some (.tup [], { s with D := r :: s.D })
  | _ => none
 | .call c => match c.callee with
  | .value _ | .invoke _ _ => (calleeV P s.T c).bind fun r => (cl r.1 r.2 s.H).map fun q => (q.1, { s with H := q.2 })
  | _ => (opV P o s.T s.H).map fun q => (q.1, { s with H := q.2 })
 | _ => (opV P o s.T s.H).map fun q => (q.1, { s with H := q.2 })
def setO (N : Nat) (s : St) : Option Nat → V → Option St
 | none, _ => some s
 | some d, v => if d < N then some { s with T := put s.T d v } else none
def accO (N : Nat) (o : Oper) : Bool := match o.op, o.dst with
 | .assign (.const (.slice none 0 0)), some d => Orc.acc N d
 | _, _ => false
def stepA (cl : CallT) (N : Nat) (o : Oper) (s : St) : Option (V × St) :=
 if accO N o = true then some (.osl s.H.length [] 0 0, { s with H := s.H ++ [.tok 0] }) else stepV P cl o s
def opsV (cl : CallT) (N : Nat) (all : List Oper) : List Oper → St → Option St
 | [], s => some s
 | o :: rest, s => (wantedV all o s.T).bind fun w =>
  if w = true then (stepA P cl N o s).bind fun q => (setO N q.2 o.dst q.1).bind (opsV cl N all rest)
  else (setO N s o.dst (.tup [])).bind (opsV cl N all rest)
inductive Kd where
 | pure
 | read
 | alloc
 | eff
 deriving DecidableEq
def kindB (P : Program) : Op → Kd
 | .makeInterface .. | .move _ | .assign _ | .pick .. | .build .. | .nilCheck _ | .binOp .. | .unOp .. | .makeFunc .. | .fieldAddr .. | .field .. | .indexAddr .. | .index .. | .extract .. => .pure
 | .load .. | .lookup .. | .slice .. => .read
 | .range .. | .alloc _ | .box .. | .buildSlice .. | .makeMap .. | .makeSlice .. => .alloc
 | .convert s d _ => match P.underlying s, P.underlying d with
  | _, some (.int _) => .pure
  | some (.slice _), some .string => .read
  | some .string, some .string => .pure
  | some .string, some (.slice _) => .alloc
  | _, _ => .eff
 | .call c => match c.callee with
  | .builtin .len => .read
  | .builtin .max | .builtin .min => .pure
  | _ => .eff
 | _ => .eff
def kind (P : Program) (o : Oper) : Kd := if immO o = true then .pure else kindB P o.op
def isEff (k : Kd) : Bool := match k with
 | .alloc | .eff => true
 | _ => false
def namesOf (all : List Oper) (o : Oper) : List Tmp :=
 o.dst.toList ++ (o.op.operands.toList.filterMap fun x => match x with | .tmp t => some t | _ => none) ++
  (match o.guard with | some (j, _) => ((all[j]?).bind (·.dst)).toList | none => [])
def befores (all : List Oper) : List Nat :=
 all.foldl (fun acc o => acc ++ [o.after.toList.foldl (fun s e => if Region.binds .any e then s ||| 2 ^ e.on ||| acc.getD e.on 0 else s) 0]) []
def waitsFor (B : List Nat) (j i : Nat) : Bool := (B.getD j 0).testBit i
def drawOk (all : List Oper) : Bool :=
 let B := befores all
 let n := all.length
 (List.range n).all fun j => (match all[j]? with
  | none => true
  | some oj =>
   (oj.after.toList.all fun e => e.on < j || !Region.binds .any e) &&
   (match oj.guard with | some (g, _) => waitsFor B j g | none => true) &&
   (List.range j).all fun i => (match all[i]? with
    | none => true
    | some oi => waitsFor B j i ||
     ((!(isEff (kind P oi) && kind P oj == .eff)) &&
      (match oi.dst with | some t => !(namesOf all oj).contains t | none => true) &&
      (match oj.dst with | some t => !(namesOf all oi).contains t | none => true))))
def eqBase : V → V → Bool
 | .int k a, .int k' b => k == k' && a == b
 | .bool a, .bool b => a == b
 | .str a, .str b => a == b
 | .nilptr, .nilptr => true
 | .ptr a b c, .ptr a' b' c' => a == a' && b == b' && c == c'
 | .nilslice, .nilslice => true
 | .slice a b c d e .full, .slice a' b' c' d' e' .full => a == a' && b == b' && c == c' && d == d' && e == e'
 | .slice a b c d e .unk, .slice a' b' c' d' e' .unk => a == a' && b == b' && c == c' && d == d' && e == e'
 | .slice a b c d e (.ex f), .slice a' b' c' d' e' (.ex f') => a == a' && b == b' && c == c' && d == d' && e == e' && f == f'
 | .nilmap, .nilmap => true
 | .map a, .map b => a == b
 | .nilfn, .nilfn => true
 | .nilif, .nilif => true
 | .isl a n s, .isl a' n' s' => eqIL a a' && n == n' && s == s'
 | .ipt a n, .ipt a' n' => eqIL a a' && n == n'
 | .osl i a n s, .osl i' a' n' s' => i == i' && eqIL a a' && n == n' && s == s'
 | .yld a, .yld b => a == b
 | _, _ => false
def eqList (f : V → V → Bool) : List V → List V → Bool
 | a :: x, b :: y => f a b && eqList f x y
 | [], [] => true
 | _, _ => false
def eqC : V → V → Bool
 | .fn f a b, .fn f' a' b' => f == f' && eqList eqBase a a' && eqList eqBase b b'
 | .ifc t a b, .ifc t' a' b' => t == t' && a == a' && eqList eqBase b b'
 | a, b => eqBase a b
def eqA : V → V → Bool
 | .agg a, .agg b => eqList eqC a b
 | .tup a, .tup b => eqList eqC a b
 | a, b => eqC a b
def eqO : Option (V × Hp) → Option (V × Hp) → Bool
 | some a, some b => eqA a.1 b.1
 | _, _ => false
def traceV (cl : CallT) (N : Nat) (all : List Oper) : List Oper → St → Option (List St × St)
 | [], s => some ([], s)
 | o :: rest, s => (wantedV all o s.T).bind fun w =>
  (if w = true then (stepV P cl o s).bind fun q => setO N q.2 o.dst q.1 else setO N s o.dst (.tup [])).bind fun s' =>
   (traceV cl N all rest s').map fun r => (s :: r.1, r.2)
def drawDyn (all : List Oper) (tr : List St) : Bool :=
 let B := befores all
 let n := all.length
 (List.range n).all fun q => (match all[q]?, tr[q]? with
  | some oq, some sq =>
   kind P oq != .read || wantedV all oq sq.T != some true ||
   (List.range n).all fun e => (match all[e]?, tr[e]?, tr[e + 1]? with
    | some oe, some s1, some s2 =>
     kind P oe != .eff || waitsFor B q e || waitsFor B e q || wantedV all oe s1.T != some true ||
      eqO (opV P oq sq.T s1.H) (opV P oq sq.T s2.H)
    | _, _, _ => true)
  | _, _ => true)
def codeF (cl : CallT) (N : Nat) (rec : CodeT) (c : Code) (s : St) : Option (Ex × St) :=
 match c with
 | .skip => some (.nor, s)
 | .region _ ops draw =>
  if draw = true then
   if drawOk P ops.toList = true then
    (traceV P cl N ops.toList ops.toList s).bind fun r => if drawDyn P ops.toList (r.1 ++ [r.2]) = true then some (.nor, r.2) else none
   else none
  else (opsV P cl N ops.toList ops.toList s).map fun s' => (.nor, s')
 | .seq a b => (rec a s).bind fun r => match r.1 with
  | .nor => rec b r.2
  | e => some (e, r.2)
 | .cond c a b => match ev s.T c with
  | .bool true => rec a s
  | .bool false => rec b s
  | _ => none
 | .block id b => (rec b s).map fun r => match r.1 with
  | .exit id' => if id' = id then (.nor, r.2) else r
  | _ => r
 | .loop b => (rec b s).bind fun r => match r.1 with
  | .nor => rec (.loop b) r.2
  | e => some (e, r.2)
 | .exit id => some (.exit id, s)
 | .ret => some (.ret, s)
 | .rangeFunc f ps ca cb => match ev s.T f with
  | .fn k a b => if k = Y0 ∨ inRound s.D = true ∨ ((P.funcs[k]?).any (·.body.isSome)) = false then none else
   (cl k (a ++ [.yld (s.H.length + 1)] ++ b) (s.H ++ [.dfr true, .loop ⟨s.T, N, ps.toList, ca, cb, 0, .nor, s.H.length⟩])).bind fun q =>
   (getLoopA q.2 (s.H.length + 1)).bind fun L => if L.st = 1 then none else
   some (L.pend, { s with D := (Y0, [.ptr s.H.length 0 0]) :: s.D, H := q.2.set (s.H.length + 1) (.loop { L with st := 3 }) })
  | _ => none
 | _ => none
def putL : Fr → List Nat → List V → Option Fr
 | T, [], [] => some T
 | T, p :: ps, v :: vs => putL (put T p v) ps vs
 | _, _, _ => none
def roundV (code : Nat → CodeT) (args : List V) (H : Hp) : Option (V × Hp) :=
 match args with
 | .yld id :: vs => (getLoopA H id).bind fun L => if L.st = 0 ∧ L.ps.all (fun p => p < L.N) = true then
   (putL L.T L.ps vs).bind fun T =>
   (code L.N L.ca ⟨T, [(Y0, [])], H⟩).bind fun r => match r.1 with
    | .nor => (getLoopA r.2.H id).bind fun L1 => if L1.st = 0 then
      (code L.N L.cb { r.2 with H := r.2.H.set id (.loop { L1 with st := 1 }) }).bind fun q =>
      (getLoopA q.2.H id).map fun L2 => match q.1 with
       | .nor => (.bool true, q.2.H.set id (.loop { L2 with st := 0, pend := .nor }))
       | e => (.bool false, q.2.H.set id (.loop { L2 with st := 2, pend := e }))
     else none
    | _ => none
  else none
 | _ => none
def resV (H : Hp) (T : Fr) : ResultVar → Option V
 | .tmp t => some (get T t)
 | .cell a t => loadV P t H (get T a)
def V.isTup : V → Bool
 | .tup _ => true
 | _ => false
def tupV : List V → Option V
 | [v] => some v
 | vs => if vs.all (fun v => !v.isTup) = true then some (.tup vs) else none
def resultsV (fn : Func) (H : Hp) (T : Fr) : Option V := (mapO (resV P H T) fn.results.toList).bind tupV
structure Prims where
 call : Nat → Option (List V → Hp → Option (V × Hp))
 dfr : Nat → Option (List V → Hp → Option Hp)
 gc : Nat → Hp → V × Hp → V × Hp
variable (Pr : Prims)
def callD (code : Nat → CodeT) (k : Nat) (args : List V) (H : Hp) : Option Hp :=
 if k = Y0 then (match args with
  | [.ptr id 0 0] => match H[id]? with
   | some (.dfr true) => some (H.set id (.dfr false))
   | _ => none
  | _ => none) else
 match Pr.dfr k with
 | some p => p args H
 | none => (P.funcs[k]?).bind fun fn => fn.body.bind fun c =>
  (code (max args.length fn.ntmps) c ⟨args, [], H⟩).bind fun r => match r.1, r.2.D with
   | .exit _, _ => none
   | _, [] => (resultsV P fn r.2.H r.2.T).map fun _ => r.2.H
   | _, _ => none
def defersV (code : Nat → CodeT) : List (Nat × List V) → Hp → Option Hp
 | [], H => some H
 | d :: ds, H => (callD P Pr code d.1 d.2 H).bind fun H' => defersV code ds H'
def bodyF (code : Nat → CodeT) (k : Nat) (args : List V) (H : Hp) : Option (V × Hp) :=
 (P.funcs[k]?).bind fun fn => fn.body.bind fun c =>
  (code (max args.length fn.ntmps) c ⟨args, [], H⟩).bind fun r => match r.1 with
   | .exit _ => none
   | _ => (defersV P Pr code r.2.D r.2.H).bind fun H' => (resultsV P fn H' r.2.T).map fun v => Pr.gc k H (v, H')
def preV (k : Nat) (args : List V) (H : Hp) : Option (List V) := if Orc.pure k = true then mapO (inlR 0 H 9) args else none
def callF (code : Nat → CodeT) (k : Nat) (args : List V) (H : Hp) : Option (V × Hp) :=
 if k = Y0 then roundV code args H else
 match Pr.call k with
 | some p => p args H
 | none => match preV k args H with
  | some a => (bodyF P Pr code k a []).bind fun q => if q.1.flat = true then some (q.1, H) else none
  | none => bodyF P Pr code k args H
def both : Nat → (Nat → CodeT) × CallT
 | 0 => (fun _ _ _ => none, fun _ _ _ => none)
 | n + 1 => (fun N => codeF P (both n).2 N ((both n).1 N), callF P Pr (both n).1)
def exec (n : Nat) (N : Nat) : CodeT := (both P Pr n).1 N
def callN (n : Nat) : CallT := (both P Pr n).2
end
end Go.An
namespace Go.An
open Go
structure Loc where
 blk : Nat
 base : Nat
 tot : Nat
 own : Bool
structure Ren where
 r : Nat → Nat → Option Loc
 m : Nat → Option (Array Value)
instance : CoeFun Ren (fun _ => Nat → Nat → Option Loc) := ⟨Ren.r⟩
mutual
def VI (m : Nat → Option (Array Value)) : V → Value → Prop
 | .int k n, u => u = .int k n
 | .bool b, u => u = .bool b
 | .str s, u => u = .string ⟨s.toArray⟩
 | .nilptr, u => u = .pointer none
 | .nilslice, u => u = .slice none 0 0
 | .nilmap, u => u = .map none
 | .nilfn, u => u = .nilFunc
 | .nilif, u => u = .nilIface
 | .isl cs n _, u => ∃ a c, u = .slice (some a) n c ∧ n ≤ c ∧ (cs = [] ∨ ∃ blk base C, a = ⟨blk, base, none⟩ ∧ m blk = some C ∧ VIs m cs C base)
 | .ipt cs off, u => ∃ blk base C, u = .pointer (some ⟨blk, base + off, none⟩) ∧ m blk = some C ∧ VIs m cs C base
 | _, _ => False
def VIs (m : Nat → Option (Array Value)) : List V → Array Value → Nat → Prop
 | [], _, _ => True
 | c :: cs, C, i => (∃ u, C[i]? = some u ∧ u.oneCell' = true ∧ VI m c u) ∧ VIs m cs C (i + 1)
end
def Sub (C A : Array Value) : Prop := ∀ (i : Nat) (u : Value), C[i]? = some u → A[i]? = some u
theorem Sub.refl (C : Array Value) : Sub C C := fun _ _ h => h
theorem Sub.trans {A B C : Array Value} (h : Sub A B) (k : Sub B C) : Sub A C := fun i u x => k i u (h i u x)
def capOk (l : Loc) (off sz c : Nat) : Cap → Prop
 | .full => l.own = true ∧ l.base + off + c * sz = l.tot
 | .unk => True
 | .ex k => c = k
def VB (ρ : Ren) : V → Value → Prop
 | .undef, _ => True
 | .int k n, v => v = .int k n
 | .bool b, v => v = .bool b
 | .str s, v => v = .string ⟨s.toArray⟩
 | .nilptr, v => v = .pointer none
 | .ptr id g off, v => ∃ l, ρ id g = some l ∧ v = .pointer (some ⟨l.blk, l.base + off, none⟩)
 | .nilslice, v => v = .slice none 0 0
 | .slice id g off n sz cp, v => ∃ l a c, ρ id g = some l ∧ v = .slice (some a) n c ∧ n ≤ c ∧ (a = ⟨l.blk, l.base + off, none⟩ ∨ c = 0) ∧ (l.own = true → l.base + off + c * sz ≤ l.tot) ∧ capOk l off sz c cp
 | .nilmap, v => v = .map none
 | .map id, v => ∃ l, ρ id 0 = some l ∧ v = .map (some l.blk)
 | .nilfn, v => v = .nilFunc
 | .nilif, v => v = .nilIface
 | .isl cs n sz, v => VI ρ.m (.isl cs n sz) v
 | .ipt cs off, v => VI ρ.m (.ipt cs off) v
 | .yld id, v => ∃ l, ρ id 0 = some l ∧ v = .func (.yield l.blk) #[] #[]
 | .osl id cs n sz, v => (n = 0 ∧ cs = [] ∧ v = .slice none 0 0) ∨ (0 < n ∧ cs.length = n * sz ∧ immL cs = true ∧ ∃ l c C, ρ id cs.length = some l ∧ v = .slice (some ⟨l.blk, 0, none⟩) n c ∧ n ≤ c ∧ c * sz = l.tot ∧ ρ.m l.blk = some C ∧ VIs ρ.m cs C 0)
 | _, _ => False
def VL (R : V → Value → Prop) : List V → List Value → Prop
 | [], [] => True
 | a :: l, b :: l' => R a b ∧ VL R l l'
 | _, _ => False
def VC (ρ : Ren) : V → Value → Prop
 | .fn f a b, v => ∃ a' b', v = .func (.func f) a' b' ∧ VL (VB ρ) a a'.toList ∧ VL (VB ρ) b b'.toList
 | .ifc t b cs, v => ∃ cs' u, v = .iface t u ∧ VL (VB ρ) cs cs'.toList ∧ ((b = true ∧ u = .agg cs') ∨ (b = false ∧ cs' = #[u]))
 | x, v => VB ρ x v
def VA (ρ : Ren) : V → Value → Prop
 | .agg cs, v => ∃ cs', v = .agg cs' ∧ VL (VC ρ) cs cs'.toList
 | x, v => VC ρ x v
def VR (ρ : Ren) : V → Value → Prop
 | .tup vs, v => ∃ vs', v = .tuple vs' ∧ VL (VA ρ) vs vs'.toList
 | x, v => VA ρ x v
structure Ren.Le (ρ ρ' : Ren) : Prop where
 r : ∀ id g l, ρ id g = some l → ρ' id g = some l
 m : ∀ k C, ρ.m k = some C → ∃ C', ρ'.m k = some C' ∧ Sub C C'
theorem Ren.Le.refl (ρ : Ren) : ρ.Le ρ := ⟨fun _ _ _ h => h, fun _ C h => ⟨C, h, .refl C⟩⟩
theorem Ren.Le.trans {a b c : Ren} (h : a.Le b) (k : b.Le c) : a.Le c := ⟨fun _ _ _ x => k.r _ _ _ (h.r _ _ _ x), fun i C x => let ⟨C1, h1, s1⟩ := h.m i C x; let ⟨C2, h2, s2⟩ := k.m i C1 h1; ⟨C2, h2, s1.trans s2⟩⟩
mutual
theorem VI.mono {m m' : Nat → Option (Array Value)} (h : ∀ k C, m k = some C → ∃ C', m' k = some C' ∧ Sub C C') : ∀ {x : V} {u : Value}, VI m x u → VI m' x u
 | .int .., _, hx | .bool _, _, hx | .str _, _, hx | .nilptr, _, hx | .nilslice, _, hx | .nilmap, _, hx | .nilfn, _, hx | .nilif, _, hx => by simpa only [VI] using hx
 | .isl cs n _, u, hx => by
  simp only [VI] at hx ⊢
  obtain ⟨a, c, e, hn, hc⟩ := hx
  refine ⟨a, c, e, hn, hc.imp id ?_⟩
  rintro ⟨blk, base, C, e1, e2, e3⟩
  obtain ⟨C', e4, e5⟩ := h _ _ e2
  exact ⟨blk, base, C', e1, e4, VIs.mono h e5 e3⟩
 | .ipt cs off, u, hx => by
  simp only [VI] at hx ⊢
  obtain ⟨blk, base, C, e1, e2, e3⟩ := hx
  obtain ⟨C', e4, e5⟩ := h _ _ e2
  exact ⟨blk, base, C', e1, e4, VIs.mono h e5 e3⟩
 | .undef, _, hx | .ptr .., _, hx | .slice .., _, hx | .map _, _, hx | .fn .., _, hx | .agg _, _, hx | .tup _, _, hx | .osl .., _, hx | .yld _, _, hx | .ifc .., _, hx => by simp only [VI] at hx
theorem VIs.mono {m m' : Nat → Option (Array Value)} (h : ∀ k C, m k = some C → ∃ C', m' k = some C' ∧ Sub C C') : ∀ {xs : List V} {C C' : Array Value} {i : Nat}, Sub C C' → VIs m xs C i → VIs m' xs C' i
 | [], _, _, _, _, _ => by simp only [VIs]
 | x :: xs, C, C', i, hs, hx => by
  simp only [VIs] at hx ⊢
  obtain ⟨⟨u, e1, e2, e3⟩, e4⟩ := hx
  exact ⟨⟨u, hs _ _ e1, e2, VI.mono h e3⟩, VIs.mono h hs e4⟩
end
theorem m_refl (m : Nat → Option (Array Value)) : ∀ k C, m k = some C → ∃ C', m k = some C' ∧ Sub C C' := fun _ C h => ⟨C, h, .refl C⟩
theorem VIs.sub {m : Nat → Option (Array Value)} {xs : List V} {C C' : Array Value} {i : Nat} (h : VIs m xs C i) (hs : Sub C C') : VIs m xs C' i := h.mono (m_refl m) hs
theorem VIs_iff {m : Nat → Option (Array Value)} {C : Array Value} : ∀ {xs : List V} {i : Nat}, VIs m xs C i ↔ ∀ j v, xs[j]? = some v → ∃ u, C[i + j]? = some u ∧ u.oneCell' = true ∧ VI m v u
 | [], i => by simp [VIs]
 | x :: xs, i => by
  simp only [VIs]
  constructor
  ·rintro ⟨h1, h2⟩ j v hv
   cases j with
   | zero => simp at hv; subst hv; exact h1
   | succ j =>
    simp only [List.getElem?_cons_succ] at hv
    have := VIs_iff.1 h2 j v hv
    rwa [show i + 1 + j = i + (j + 1) by omega] at this
  ·intro h
   refine ⟨h 0 x rfl, VIs_iff.2 fun j v hv => ?_⟩
   have := h (j + 1) v (by simpa using hv)
   rwa [show i + (j + 1) = i + 1 + j by omega] at this
theorem VB.mono {ρ ρ' : Ren} (h : ρ.Le ρ') : ∀ {x : V} {v : Value}, VB ρ x v → VB ρ' x v := by
 intro x v hx
 cases x <;> simp only [VB] at hx ⊢ <;> first | exact hx | exact trivial | skip
 ·obtain ⟨l, a, b⟩ := hx; exact ⟨l, h.r _ _ _ a, b⟩
 ·obtain ⟨l, a, c, e, r⟩ := hx; exact ⟨l, a, c, h.r _ _ _ e, r⟩
 ·obtain ⟨l, a, b⟩ := hx; exact ⟨l, h.r _ _ _ a, b⟩
 ·exact hx.mono h.m
 ·exact hx.mono h.m
 ·rcases hx with hx | ⟨h0, h1, h2, l, c, C, h3, h4, h5, h6, h7, h8⟩
  ·exact .inl hx
  ·obtain ⟨C', h9, h10⟩ := h.m _ _ h7
   exact .inr ⟨h0, h1, h2, l, c, C', h.r _ _ _ h3, h4, h5, h6, h9, h8.mono h.m h10⟩
 ·obtain ⟨l, a, b⟩ := hx; exact ⟨l, h.r _ _ _ a, b⟩
theorem VL.imp {R R' : V → Value → Prop} (h : ∀ a b, R a b → R' a b) : ∀ {l : List V} {l' : List Value}, VL R l l' → VL R' l l'
 | [], [], _ => trivial
 | _ :: _, _ :: _, hl => ⟨h _ _ hl.1, hl.2.imp h⟩
 | [], _ :: _, hl => hl.elim
 | _ :: _, [], hl => hl.elim
theorem VC.mono {ρ ρ' : Ren} (h : ρ.Le ρ') : ∀ {x : V} {v : Value}, VC ρ x v → VC ρ' x v := by
 intro x v hx
 cases x <;> simp only [VC] at hx ⊢ <;> first | exact VB.mono h hx | skip
 ·obtain ⟨a, b, e, r, s⟩ := hx
  exact ⟨a, b, e, r.imp fun _ _ => VB.mono h, s.imp fun _ _ => VB.mono h⟩
 ·obtain ⟨a, u, e, r, s⟩ := hx
  exact ⟨a, u, e, r.imp fun _ _ => VB.mono h, s⟩
theorem VA.mono {ρ ρ' : Ren} (h : ρ.Le ρ') : ∀ {x : V} {v : Value}, VA ρ x v → VA ρ' x v := by
 intro x v hx
 cases x <;> simp only [VA] at hx ⊢ <;> first | exact VC.mono h hx | skip
 obtain ⟨a, e, r⟩ := hx
 exact ⟨a, e, r.imp fun _ _ => VC.mono h⟩
theorem VR.mono {ρ ρ' : Ren} (h : ρ.Le ρ') : ∀ {x : V} {v : Value}, VR ρ x v → VR ρ' x v := by
 intro x v hx
 cases x <;> simp only [VR] at hx ⊢ <;> first | exact VA.mono h hx | skip
 obtain ⟨a, e, r⟩ := hx
 exact ⟨a, e, r.imp fun _ _ => VA.mono h⟩
theorem VL.length {R : V → Value → Prop} : ∀ {l : List V} {l' : List Value}, VL R l l' → l.length = l'.length
 | [], [], _ => rfl
 | _ :: _, _ :: _, h => by simp [h.2.length]
 | [], _ :: _, h => h.elim
 | _ :: _, [], h => h.elim
theorem VL.get {R : V → Value → Prop} : ∀ {l : List V} {l' : List Value}, VL R l l' → ∀ (i : Nat) {a : V}, l[i]? = some a → ∃ b, l'[i]? = some b ∧ R a b
 | [], _, _, i, _, h => by simp at h
 | _ :: _, b :: _, hl, 0, _, h => ⟨b, rfl, by simp at h; exact h ▸ hl.1⟩
 | _ :: l, _ :: l', hl, i + 1, _, h => by
  simp only [List.getElem?_cons_succ] at h ⊢
  exact hl.2.get i h
 | _ :: _, [], hl, _, _, _ => hl.elim
theorem VL.mk {R : V → Value → Prop} : ∀ {l : List V} {l' : List Value}, l.length = l'.length → (∀ (i : Nat) (a : V), l[i]? = some a → ∃ b, l'[i]? = some b ∧ R a b) → VL R l l'
 | [], [], _, _ => trivial
 | a :: l, b :: l', hl, h => by
  refine ⟨?_, VL.mk (by simpa using hl) fun i x hx => by simpa using h (i + 1) x (by simpa using hx)⟩
  obtain ⟨c, hc, r⟩ := h 0 a rfl
  simp at hc
  exact hc ▸ r
 | [], _ :: _, h, _ => by simp at h
 | _ :: _, [], h, _ => by simp at h
theorem VL.append {R : V → Value → Prop} : ∀ {l k : List V} {l' k' : List Value}, VL R l l' → VL R k k' → VL R (l ++ k) (l' ++ k')
 | [], _, [], _, _, h => h
 | _ :: _, _, _ :: _, _, hl, h => ⟨hl.1, hl.2.append h⟩
 | [], _, _ :: _, _, hl, _ => hl.elim
 | _ :: _, _, [], _, hl, _ => hl.elim
theorem VL.drop {R : V → Value → Prop} : ∀ {l : List V} {l' : List Value} (n : Nat), VL R l l' → VL R (l.drop n) (l'.drop n)
 | l, l', 0, h => by simpa using h
 | [], [], _ + 1, _ => trivial
 | _ :: _, _ :: _, n + 1, h => h.2.drop n
 | [], _ :: _, _ + 1, h => h.elim
 | _ :: _, [], _ + 1, h => h.elim
theorem VL.take {R : V → Value → Prop} : ∀ {l : List V} {l' : List Value} (n : Nat), VL R l l' → VL R (l.take n) (l'.take n)
 | l, l', 0, _ => by simp [VL]
 | [], [], _ + 1, _ => trivial
 | _ :: _, _ :: _, n + 1, h => ⟨h.1, h.2.take n⟩
 | [], _ :: _, _ + 1, h => h.elim
 | _ :: _, [], _ + 1, h => h.elim
theorem VL.map {R : V → Value → Prop} {α : Type} (f : α → V) (f' : α → Value) (h : ∀ x, R (f x) (f' x)) : ∀ l : List α, VL R (l.map f) (l.map f')
 | [] => trivial
 | x :: l => ⟨h x, VL.map f f' h l⟩
theorem VL.repl {R : V → Value → Prop} {l : List V} {l' : List Value} (h : VL R l l') : ∀ n, VL R (repeatV l n) ((List.replicate n l').flatten)
 | 0 => trivial
 | n + 1 => by
  simp only [repeatV, List.replicate_succ, List.flatten_cons]
  exact h.append (h.repl n)
theorem VA.cell {ρ : Ren} {x : V} {v : Value} (h : VA ρ x v) (hc : x.isCell = true) : VC ρ x v ∧ v.oneCell' = true := by
 cases x <;> simp [V.isCell] at hc <;> simp only [VA, VC, VB] at h ⊢
 case osl =>
  refine ⟨h, ?_⟩
  rcases h with ⟨_, _, rfl⟩ | ⟨_, _, _, _, _, _, _, h, _⟩
  ·rfl
  ·subst h; rfl
 all_goals first
  | (subst h; exact ⟨rfl, rfl⟩)
  | (refine ⟨h, ?_⟩; obtain ⟨_, _, rfl⟩ := h; rfl)
  | (refine ⟨h, ?_⟩; obtain ⟨_, _, _, _, rfl, _⟩ := h; rfl)
  | (refine ⟨h, ?_⟩; simp only [VI] at h; obtain ⟨_, _, rfl, _⟩ := h; rfl)
  | (refine ⟨h, ?_⟩; simp only [VI] at h; obtain ⟨_, _, _, rfl, _⟩ := h; rfl)
  | (refine ⟨h, ?_⟩; obtain ⟨_, _, rfl, _⟩ := h; rfl)
theorem VC.va {ρ : Ren} {x : V} {v : Value} (h : VC ρ x v) (hc : x.isCell = true) : VA ρ x v := by
 cases x <;> simp [V.isCell] at hc <;> exact h
theorem VA.vr {ρ : Ren} {x : V} {v : Value} (h : VA ρ x v) (hc : ∀ vs, x ≠ .tup vs) : VR ρ x v := by
 cases x <;> first | exact h | exact absurd rfl (hc _)
theorem VR.va {ρ : Ren} {x : V} {v : Value} (h : VR ρ x v) (hc : ∀ vs, x ≠ .tup vs) : VA ρ x v := by
 cases x <;> first | exact h | exact absurd rfl (hc _)
theorem VC_ofCell (ρ : Ren) (v : Value) : VC ρ (ofCell v) v := by
 unfold ofCell
 split
 case h_9 f a b =>
  by_cases h : a.size = 0 ∧ b.size = 0
  ·rw [if_pos h]
   refine ⟨_, _, rfl, ?_, ?_⟩
   ·rw [Array.eq_empty_of_size_eq_zero h.1]; trivial
   ·rw [Array.eq_empty_of_size_eq_zero h.2]; trivial
  ·rw [if_neg h]; trivial
 all_goals simp only [VC, VB]
theorem ofCell_not (v : Value) : (∀ c, ofCell v ≠ .agg c) ∧ (∀ c, ofCell v ≠ .tup c) := by
 unfold ofCell
 split <;> (try split) <;> simp
theorem VR_ofVal (ρ : Ren) (v : Value) : VR ρ (ofVal v) v := by
 unfold ofVal
 split
 ·exact ⟨_, rfl, by
   rename_i cs
   have := VL.map (R := VC ρ) ofCell id (VC_ofCell ρ) cs.toList
   simpa using this⟩
 ·have h := VC_ofCell ρ v
  have hn := ofCell_not v
  generalize ofCell v = x at h hn
  cases x <;> first | exact h | exact absurd rfl (hn.1 _) | exact absurd rfl (hn.2 _)
def FrR (ρ : Ren) (T : Fr) (tmps : Array Value) : Prop := ∀ i, VR ρ (get T i) (tmps.getD i undef)
theorem FrR.mono {ρ ρ' : Ren} (h : ρ.Le ρ') {T : Fr} {tmps : Array Value} (hT : FrR ρ T tmps) : FrR ρ' T tmps := fun i => (hT i).mono h
def stOf : Nat → LoopState
 | 0 => .ready
 | 1 => .busy
 | 2 => .done
 | _ => .exhausted
def codeOf : Ex → Option Code
 | .nor => none
 | .exit id => some (.exit id)
 | .ret => some .ret
structure LoopR (ρ : Ren) (L : LoopA) (l : Loop) : Prop where
 fr : FrR ρ L.T l.tmps
 sz : l.tmps.size = L.N
 ps : l.params.toList = L.ps
 ca : l.assign = L.ca
 cb : l.body = L.cb
 st : l.state = stOf L.st
 pend : l.pending = codeOf L.pend
theorem LoopR.mono {ρ ρ' : Ren} (h : ρ.Le ρ') {L : LoopA} {l : Loop} (hl : LoopR ρ L l) : LoopR ρ' L l := ⟨hl.fr.mono h, hl.sz, hl.ps, hl.ca, hl.cb, hl.st, hl.pend⟩
def AB.gen : AB → Nat
 | .row g _ _ => g
 | .tok n => n
 | _ => 0
def AB.ho : AB → Bool
 | .hole => true
 | .tok n => n == 0
 | _ => false
def AB.isTok : AB → Bool
 | .tok _ => true
 | _ => false
def frOk (fr : Nat × Nat) (n : Nat) : Prop := fr.1 = fr.2 ∨ n ≤ fr.1
theorem frOk.at {fr : Nat × Nat} {n : Nat} (h : frOk fr n) (j : Nat) (hj : j < n) : ¬ (fr.1 ≤ j ∧ j < fr.2) := by
 rcases h with h | h <;> omega
def CellsRel (ρ : Ren) (cs : List V) (C : Array Value) (base : Nat) : Prop := ∀ j v, cs[j]? = some v → ∃ u, C[base + j]? = some u ∧ VC ρ v u ∧ u.oneCell' = true
structure EntsRel (P : Program) (ρ : Ren) (kt : TypeId) (es : List (V × V)) (ents : Array MapEntry) (clk : Nat) : Prop where
 size : es.length = ents.size
 at_ : ∀ (i : Nat) (e : V × V), es[i]? = some e → ∃ m : MapEntry, ents[i]? = some m ∧ VA ρ e.1 m.key ∧ VA ρ e.2 m.val ∧ keyOk P kt e.1 = true ∧ elemOk e.2 = true ∧ m.born < clk
 born : ∀ (i j : Nat) (mi mj : MapEntry), i < j → ents[i]? = some mi → ents[j]? = some mj → mi.born < mj.born
def BlkOk (P : Program) (b0 : Nat) (ρ : Ren) (W : World) (l : Loc) : AB → Prop
 | .row _ cs own => l.own = own ∧ ∃ C t fr, W.heap[l.blk]? = some (.cells C t fr) ∧ CellsRel ρ cs C l.base ∧
   (own = true → b0 ≤ l.blk ∧ frOk fr C.size ∧ C.size = l.tot ∧ l.base + cs.length ≤ l.tot) ∧ (own = false → l.blk < b0)
 | .map kt es => l.own = true ∧ b0 ≤ l.blk ∧ ∃ ents clk, W.heap[l.blk]? = some (.map ents clk) ∧ EntsRel P ρ kt es ents clk
 | .hole => False
 | .siter s p => l.own = true ∧ l.base = 0 ∧ b0 ≤ l.blk ∧ W.heap[l.blk]? = some (.stringIter ⟨s.toArray⟩ p)
 | .loop L => l.own = true ∧ b0 ≤ l.blk ∧ ∃ q, W.heap[l.blk]? = some (.loop q) ∧ LoopR ρ L q
 | .dfr b => l.own = true ∧ b0 ≤ l.blk ∧ W.heap[l.blk]? = some (.deferred (if b then some [] else none))
 | .tok n => 0 < n ∧ l.own = true ∧ b0 ≤ l.blk ∧ (∃ A t fr, W.heap[l.blk]? = some (.cells A t fr) ∧ frOk fr A.size ∧ A.size = l.tot) ∧ ∃ C, ρ.m l.blk = some C
def OwnedR (ρ : Ren) (H : Hp) (k : Nat) : Prop := ∃ i b l, H[i]? = some b ∧ b.isTok = false ∧ ρ i b.gen = some l ∧ l.own = true ∧ l.blk = k
def Owned (ρ : Ren) (H : Hp) (k : Nat) : Prop := ∃ i b l, H[i]? = some b ∧ ρ i b.gen = some l ∧ l.own = true ∧ l.blk = k
structure Rel (P : Program) (b0 : Nat) (ρ : Ren) (H : Hp) (W : World) : Prop where
 blk : ∀ id b, H[id]? = some b → b.ho = false → ∃ l, ρ id b.gen = some l ∧ BlkOk P b0 ρ W l b
 hole : ∀ id g b, H[id]? = some b → b.ho = true → ρ id g = none
 inj : ∀ i j bi bj li lj, i ≠ j → H[i]? = some bi → H[j]? = some bj → ρ i bi.gen = some li → ρ j bj.gen = some lj → li.own = true → lj.own = true → li.blk ≠ lj.blk
 fresh : ∀ id g, H.length ≤ id → ρ id g = none
 gen : ∀ id b g, H[id]? = some b → b.gen < g → ρ id g = none
 size : b0 ≤ W.heap.size
 imm : ∀ k C, ρ.m k = some C → (∃ A t fr, W.heap[k]? = some (.cells A t fr) ∧ Sub C A) ∧ ¬ OwnedR ρ H k
 tok : ∀ id n l C, H[id]? = some (.tok n) → ρ id n = some l → ρ.m l.blk = some C → C.size = n
structure Step (P : Program) (b0 : Nat) (ρ ρ' : Ren) (H H' : Hp) (W W' : World) : Prop where
 rel : Rel P b0 ρ' H' W'
 le : ρ.Le ρ'
 frame : ∀ k, k < W.heap.size → ¬ Owned ρ H k → W'.heap[k]? = W.heap[k]?
 new : ∀ k, Owned ρ' H' k → Owned ρ H k ∨ W.heap.size ≤ k
 size : W.heap.size ≤ W'.heap.size
 len : H.length ≤ H'.length
 os : W'.os = W.os
 tape : W'.tape = W.tape
 output : W'.output = W.output
 newm : ∀ k C, ρ'.m k = some C → ρ.m k = some C ∨ Owned ρ H k ∨ W.heap.size ≤ k
theorem Step.refl {P : Program} {b0 : Nat} {ρ : Ren} {H : Hp} {W : World} (h : Rel P b0 ρ H W) : Step P b0 ρ ρ H H W W :=
 ⟨h, Ren.Le.refl _, fun _ _ _ => rfl, fun _ h => .inl h, Nat.le_refl _, Nat.le_refl _, rfl, rfl, rfl, fun _ _ h => .inl h⟩
theorem Step.trans {P : Program} {b0 : Nat} {ρ ρ1 ρ2 : Ren} {H H1 H2 : Hp} {W W1 W2 : World} (h : Step P b0 ρ ρ1 H H1 W W1) (k : Step P b0 ρ1 ρ2 H1 H2 W1 W2) : Step P b0 ρ ρ2 H H2 W W2 := by
 refine ⟨k.rel, h.le.trans k.le, fun i hi ho => ?_, fun i hi => ?_, Nat.le_trans h.size k.size, Nat.le_trans h.len k.len, k.os.trans h.os, k.tape.trans h.tape, k.output.trans h.output, fun i C hi => ?_⟩
 ·rw [k.frame i (Nat.lt_of_lt_of_le hi h.size) fun hc => ?_]
  ·exact h.frame i hi ho
  ·rcases h.new i hc with hc | hc
   ·exact ho hc
   ·omega
 ·rcases k.new i hi with hi | hi
  ·exact h.new i hi
  ·exact .inr (Nat.le_trans h.size hi)
 ·rcases k.newm i C hi with hi | hi | hi
  ·exact h.newm i C hi
  ·exact .inr (h.new i hi)
  ·exact .inr (.inr (Nat.le_trans h.size hi))
theorem BlkOk.world {P : Program} {b0 : Nat} {ρ : Ren} {W W' : World} {l : Loc} {b : AB} (h : BlkOk P b0 ρ W l b) (hw : W'.heap[l.blk]? = W.heap[l.blk]?) : BlkOk P b0 ρ W' l b := by
 cases b with
 | row g cs own =>
  obtain ⟨h1, C, t, fr, h2, h3⟩ := h
  exact ⟨h1, C, t, fr, hw.trans h2, h3⟩
 | map kt es =>
  obtain ⟨h1, h2, ents, clk, h3, h4⟩ := h
  exact ⟨h1, h2, ents, clk, hw.trans h3, h4⟩
 | hole => exact h.elim
 | tok n =>
  obtain ⟨h0, h1, h2, ⟨A, t, fr, h3, h4⟩, h5⟩ := h
  exact ⟨h0, h1, h2, ⟨A, t, fr, hw.trans h3, h4⟩, h5⟩
 | siter s p => exact ⟨h.1, h.2.1, h.2.2.1, hw.trans h.2.2.2⟩
 | loop L => obtain ⟨h1, h2, q, h3, h4⟩ := h; exact ⟨h1, h2, q, hw.trans h3, h4⟩
 | dfr b => exact ⟨h.1, h.2.1, hw.trans h.2.2⟩
theorem CellsRel.mono {ρ ρ' : Ren} (h : ρ.Le ρ') {cs : List V} {C : Array Value} {base : Nat} (hc : CellsRel ρ cs C base) : CellsRel ρ' cs C base :=
 fun j v hv => let ⟨u, a, b, c⟩ := hc j v hv; ⟨u, a, b.mono h, c⟩
theorem BlkOk.mono {P : Program} {b0 : Nat} {ρ ρ' : Ren} (h : ρ.Le ρ') {W : World} {l : Loc} {b : AB} (hb : BlkOk P b0 ρ W l b) : BlkOk P b0 ρ' W l b := by
 cases b with
 | row g cs own =>
  obtain ⟨h1, C, t, fr, h2, h3, h4⟩ := hb
  exact ⟨h1, C, t, fr, h2, h3.mono h, h4⟩
 | map kt es =>
  obtain ⟨h1, h2, ents, clk, h3, h4⟩ := hb
  refine ⟨h1, h2, ents, clk, h3, ⟨h4.size, fun i e he => ?_, h4.born⟩⟩
  obtain ⟨m, a, b, c, r⟩ := h4.at_ i e he
  exact ⟨m, a, b.mono h, c.mono h, r⟩
 | hole => exact hb.elim
 | tok n =>
  obtain ⟨h0, h1, h2, h3, C, h4⟩ := hb
  obtain ⟨C', h5, _⟩ := h.m _ _ h4
  exact ⟨h0, h1, h2, h3, C', h5⟩
 | siter s p => exact hb
 | loop L => obtain ⟨h1, h2, q, h3, h4⟩ := hb; exact ⟨h1, h2, q, h3, h4.mono h⟩
 | dfr b => exact hb
theorem BlkOk.own_eq {P : Program} {b0 : Nat} {ρ : Ren} {W : World} {l : Loc} {b : AB} (h : BlkOk P b0 ρ W l b) : (l.own = true → b0 ≤ l.blk) ∧ (l.own = false → l.blk < b0) := by
 cases b with
 | row g cs own =>
  obtain ⟨rfl, C, t, fr, h2, h3, h4, h5⟩ := h
  exact ⟨fun e => (h4 e).1, h5⟩
 | map kt es =>
  obtain ⟨h1, h2, _⟩ := h
  exact ⟨fun _ => h2, fun e => by rw [h1] at e; cases e⟩
 | hole => exact h.elim
 | tok n =>
  obtain ⟨_, h1, h2, _⟩ := h
  exact ⟨fun _ => h2, fun e => by rw [h1] at e; cases e⟩
 | siter s p => exact ⟨fun _ => h.2.2.1, fun e => by rw [h.1] at e; cases e⟩
 | loop L => exact ⟨fun _ => h.2.1, fun e => by rw [h.1] at e; cases e⟩
 | dfr b => exact ⟨fun _ => h.2.1, fun e => by rw [h.1] at e; cases e⟩
theorem BlkOk.lt {P : Program} {b0 : Nat} {ρ : Ren} {W : World} {l : Loc} {b : AB} (h : BlkOk P b0 ρ W l b) : l.blk < W.heap.size := by
 cases b with
 | row g cs own =>
  obtain ⟨_, C, t, fr, h2, _⟩ := h
  exact (Array.getElem?_eq_some_iff.1 h2).1
 | map kt es =>
  obtain ⟨_, _, _, _, h2, _⟩ := h
  exact (Array.getElem?_eq_some_iff.1 h2).1
 | hole => exact h.elim
 | tok n =>
  obtain ⟨_, _, _, ⟨_, _, _, h2, _⟩, _⟩ := h
  exact (Array.getElem?_eq_some_iff.1 h2).1
 | siter s p => exact (Array.getElem?_eq_some_iff.1 h.2.2.2).1
 | loop L => obtain ⟨_, _, q, h3, _⟩ := h; exact (Array.getElem?_eq_some_iff.1 h3).1
 | dfr b => exact (Array.getElem?_eq_some_iff.1 h.2.2).1
theorem BlkOk.ne {P : Program} {b0 : Nat} {ρ : Ren} {W : World} {l : Loc} {b : AB} (h : BlkOk P b0 ρ W l b) : b.ho = false := by
 cases b with
 | hole => exact h.elim
 | tok n => simp [AB.ho]; have := h.1; omega
 | _ => rfl
theorem Rel.ne {P : Program} {b0 : Nat} {ρ : Ren} {H : Hp} {W : World} (h : Rel P b0 ρ H W) {id g : Nat} {b : AB} {l : Loc} (hb : H[id]? = some b) (hl : ρ id g = some l) : b.ho = false := by
 cases e : b.ho with
 | false => rfl
 | true => rw [h.hole id g b hb e] at hl; cases hl
theorem Rel.at_ {P : Program} {b0 : Nat} {ρ : Ren} {H : Hp} {W : World} (h : Rel P b0 ρ H W) {id : Nat} {b : AB} {l : Loc} (hb : H[id]? = some b) (hl : ρ id b.gen = some l) : BlkOk P b0 ρ W l b := by
 obtain ⟨l', hl', hk⟩ := h.blk id b hb (h.ne hb hl)
 rw [hl] at hl'
 injection hl' with e
 exact e ▸ hk
def updH (H : Hp) (id : Nat) (b : AB) : Hp := if id < H.length then H.set id b else H ++ [b]
theorem updH_set {H : Hp} {id : Nat} {b : AB} (h : id < H.length) : updH H id b = H.set id b := if_pos h
theorem updH_push (H : Hp) (b : AB) : updH H H.length b = H ++ [b] := if_neg (Nat.lt_irrefl _)
theorem updH_get {H : Hp} {id : Nat} {b : AB} (hid : id ≤ H.length) (i : Nat) : (updH H id b)[i]? = if i = id then some b else H[i]? := by
 unfold updH
 split
 ·rename_i h
  rw [List.getElem?_set]
  by_cases e : id = i
  ·subst e; simp [h]
  ·rw [if_neg e, if_neg (fun x => e x.symm)]
 ·have : id = H.length := by omega
  subst this
  rw [List.getElem?_append]
  by_cases h1 : i < H.length
  ·rw [if_pos h1, if_neg (by omega)]
  ·by_cases h2 : i = H.length
   ·subst h2; simp
   ·rw [if_neg h1, if_neg h2, List.getElem?_eq_none (by simp; omega), List.getElem?_eq_none (by omega)]
theorem updH_length {H : Hp} {id : Nat} {b : AB} (hid : id ≤ H.length) : H.length ≤ (updH H id b).length ∧ id < (updH H id b).length ∧ ∀ i, i < (updH H id b).length → i < H.length ∨ i = id := by
 unfold updH
 split
 ·rename_i h
  simp only [List.length_set]
  exact ⟨Nat.le_refl _, h, fun i hi => .inl hi⟩
 ·rename_i h
  simp only [List.length_append, List.length_singleton]
  exact ⟨by omega, by omega, fun i hi => by omega⟩
def renAdd (ρ : Ren) (id g : Nat) (l : Loc) : Ren := ⟨fun i k => if i = id ∧ k = g then some l else ρ i k, ρ.m⟩
theorem renAdd_r (ρ : Ren) (id g : Nat) (l : Loc) (i k : Nat) : renAdd ρ id g l i k = if i = id ∧ k = g then some l else ρ i k := rfl
theorem renAdd_same (ρ : Ren) (id g : Nat) (l : Loc) : renAdd ρ id g l id g = some l := if_pos ⟨rfl, rfl⟩
theorem renAdd_le {ρ : Ren} {id g : Nat} {l : Loc} (h : ρ id g = none ∨ ρ id g = some l) : ρ.Le (renAdd ρ id g l) := by
 refine ⟨fun i k x hx => ?_, fun _ C h => ⟨C, h, .refl C⟩⟩
 rw [renAdd_r]
 split
 ·rename_i e
  obtain ⟨rfl, rfl⟩ := e
  rcases h with h | h
  ·rw [h] at hx; cases hx
  ·rw [h] at hx; exact hx
 ·exact hx
def renM (ρ : Ren) (id g : Nat) (l : Loc) (m : Nat → Option (Array Value)) : Ren := ⟨(renAdd ρ id g l).r, m⟩
theorem renM_r (ρ : Ren) (id g : Nat) (l : Loc) (m : Nat → Option (Array Value)) (i k : Nat) : renM ρ id g l m i k = if i = id ∧ k = g then some l else ρ i k := rfl
theorem renM_same (ρ : Ren) (id g : Nat) (l : Loc) (m : Nat → Option (Array Value)) : renM ρ id g l m id g = some l := if_pos ⟨rfl, rfl⟩
theorem Rel.updG {P : Program} {b0 : Nat} {ρ : Ren} {H : Hp} {W W' : World} (h : Rel P b0 ρ H W) (id : Nat) (b : AB) (l : Loc) (m : Nat → Option (Array Value))
  (hid : id ≤ H.length) (hgen : ∀ b', H[id]? = some b' → b'.gen ≤ b.gen) (hρ : ρ id b.gen = none ∨ ρ id b.gen = some l)
  (hblk : (∃ b' l', H[id]? = some b' ∧ ρ id b'.gen = some l' ∧ l'.own = true ∧ l'.blk = l.blk) ∨ W.heap.size ≤ l.blk)
  (hm1 : ∀ k C, ρ.m k = some C → ∃ C', m k = some C' ∧ Sub C C') (hm2 : ∀ k, k ≠ l.blk → m k = ρ.m k)
  (hm3 : ∀ C, m l.blk = some C → b.isTok = true ∧ (∃ A t fr, W'.heap[l.blk]? = some (.cells A t fr) ∧ Sub C A) ∧ C.size = b.gen)
  (hW : ∀ k, k < W.heap.size → k ≠ l.blk → W'.heap[k]? = W.heap[k]?) (hsize : W.heap.size ≤ W'.heap.size) (hos : W'.os = W.os) (htape : W'.tape = W.tape) (hout : W'.output = W.output)
  (hnew : BlkOk P b0 (renM ρ id b.gen l m) W' l b) : Step P b0 ρ (renM ρ id b.gen l m) H (updH H id b) W W' := by
 have hle : ρ.Le (renM ρ id b.gen l m) := ⟨(renAdd_le hρ).r, hm1⟩
 have hne : ∀ i bi li, i ≠ id → H[i]? = some bi → ρ i bi.gen = some li → li.blk ≠ l.blk := by
  intro i bi li hi hb hl he
  rcases hblk with ⟨b', l', h1, h2, h3, h4⟩ | hlt
  ·by_cases ho : li.own = true
   ·exact h.inj i id bi b' li l' hi hb h1 hl h2 ho h3 (he.trans h4.symm)
   ·have hk := h.at_ hb hl
    have hk3 := h.at_ h1 h2
    have := hk.own_eq.2 (by simpa using ho)
    have := hk3.own_eq.1 h3
    omega
  ·have hk := h.at_ hb hl
   have := hk.lt
   omega
 have hget := updH_get (b := b) hid
 have hlen := updH_length (b := b) hid
 have hold : ∀ i bi, i ≠ id → H[i]? = some bi → ∀ g, renM ρ id b.gen l m i g = ρ i g := fun i _ hi _ g => if_neg fun e => hi e.1
 have hcur : ∀ i bi li, i ≠ id → (updH H id b)[i]? = some bi → renM ρ id b.gen l m i bi.gen = some li → H[i]? = some bi ∧ ρ i bi.gen = some li := by
  intro i bi li hi hb hl
  rw [hget i, if_neg hi] at hb
  rw [hold i bi hi hb] at hl
  exact ⟨hb, hl⟩
 have hnewO : ∀ k, Owned (renM ρ id b.gen l m) (updH H id b) k → Owned ρ H k ∨ W.heap.size ≤ k := by
  rintro k ⟨i, bi, li, hb, hl, ho, rfl⟩
  by_cases hi : i = id
  ·subst hi
   rw [hget i, if_pos rfl] at hb
   injection hb with hb
   subst hb
   rw [renM_same] at hl
   injection hl with hl
   subst hl
   rcases hblk with ⟨b', l', h1, h2, h3, h4⟩ | hlt
   ·exact .inl ⟨i, b', l', h1, h2, h3, h4⟩
   ·exact .inr hlt
  ·obtain ⟨hb, hl⟩ := hcur i bi li hi hb hl
   exact .inl ⟨i, bi, li, hb, hl, ho, rfl⟩
 have hnewR : ∀ k, k ≠ l.blk → OwnedR (renM ρ id b.gen l m) (updH H id b) k → OwnedR ρ H k := by
  rintro k hk ⟨i, bi, li, hb, ht, hl, ho, rfl⟩
  by_cases hi : i = id
  ·subst hi
   rw [hget i, if_pos rfl] at hb
   injection hb with hb
   subst hb
   rw [renM_same] at hl
   injection hl with hl
   subst hl
   exact absurd rfl hk
  ·obtain ⟨hb, hl⟩ := hcur i bi li hi hb hl
   exact ⟨i, bi, li, hb, ht, hl, ho, rfl⟩
 have hmem : ∀ k C, m k = some C → k ≠ l.blk → ρ.m k = some C := fun k C hk hn => by rwa [hm2 k hn] at hk
 have himm : ∀ k C, m k = some C → (∃ A t fr, W'.heap[k]? = some (.cells A t fr) ∧ Sub C A) ∧ ¬ OwnedR (renM ρ id b.gen l m) (updH H id b) k := by
  intro k C hk
  by_cases hkl : k = l.blk
  ·subst hkl
   obtain ⟨h1, h2, _⟩ := hm3 C hk
   refine ⟨h2, ?_⟩
   rintro ⟨i, bi, li, hb, ht, hl, ho, he⟩
   by_cases hi : i = id
   ·subst hi
    rw [hget i, if_pos rfl] at hb
    injection hb with hb
    subst hb
    rw [h1] at ht
    cases ht
   ·obtain ⟨hb, hl⟩ := hcur i bi li hi hb hl
    exact hne i bi li hi hb hl he
  ·obtain ⟨⟨A, t, fr, h1, hs⟩, h2⟩ := h.imm k C (hmem k C hk hkl)
   have hlt : k < W.heap.size := (Array.getElem?_eq_some_iff.1 h1).1
   exact ⟨⟨A, t, fr, (hW k hlt hkl).trans h1, hs⟩, fun ho => h2 (hnewR k hkl ho)⟩
 refine ⟨⟨?_, ?_, ?_, ?_, ?_, Nat.le_trans h.size hsize, himm, ?_⟩, hle, ?_, hnewO, hsize, hlen.1, hos, htape, hout, ?_⟩
 ·intro i bi hb hne'
  by_cases hi : i = id
  ·subst hi
   rw [hget i, if_pos rfl] at hb
   injection hb with hb
   subst hb
   exact ⟨l, renM_same _ _ _ _ _, hnew⟩
  ·rw [hget i, if_neg hi] at hb
   obtain ⟨li, hl, hk⟩ := h.blk i bi hb hne'
   exact ⟨li, (hold i bi hi hb _).trans hl, (hk.world (hW _ hk.lt (hne i bi li hi hb hl))).mono hle⟩
 ·intro i g bi hb hbo
  by_cases hi : i = id
  ·subst hi
   rw [hget i, if_pos rfl] at hb
   injection hb with hb
   subst hb
   rw [hnew.ne] at hbo
   cases hbo
  ·rw [hget i, if_neg hi] at hb
   rw [renM_r, if_neg fun e => hi e.1]
   exact h.hole i g bi hb hbo
 ·intro i j bi bj li lj hij hbi hbj hli hlj ho1 ho2
  by_cases hi : i = id
  ·subst hi
   rw [hget i, if_pos rfl] at hbi
   injection hbi with hbi
   subst hbi
   rw [renM_same] at hli
   injection hli with hli
   subst hli
   obtain ⟨hbj, hlj⟩ := hcur j bj lj (fun e => hij e.symm) hbj hlj
   exact fun e => hne j bj lj (fun e => hij e.symm) hbj hlj e.symm
  ·by_cases hj : j = id
   ·subst hj
    rw [hget j, if_pos rfl] at hbj
    injection hbj with hbj
    subst hbj
    rw [renM_same] at hlj
    injection hlj with hlj
    subst hlj
    obtain ⟨hbi, hli⟩ := hcur i bi li hi hbi hli
    exact hne i bi li hi hbi hli
   ·obtain ⟨hbi, hli⟩ := hcur i bi li hi hbi hli
    obtain ⟨hbj, hlj⟩ := hcur j bj lj hj hbj hlj
    exact h.inj i j bi bj li lj hij hbi hbj hli hlj ho1 ho2
 ·intro i g hi
  have : i ≠ id := fun e => by subst e; omega
  rw [renM_r, if_neg fun e => this e.1]
  exact h.fresh i g (by omega)
 ·intro i bi g hb hg
  by_cases hi : i = id
  ·subst hi
   rw [hget i, if_pos rfl] at hb
   injection hb with hb
   subst hb
   rw [renM_r, if_neg fun e => by omega]
   cases hq : H[i]? with
   | none => exact h.fresh i g (by simpa using hq)
   | some b' => exact h.gen i b' g hq (by have := hgen b' hq; omega)
  ·rw [hget i, if_neg hi] at hb
   rw [hold i bi hi hb]
   exact h.gen i bi g hb hg
 ·intro i n li C hb hl hC
  by_cases hi : i = id
  ·subst hi
   rw [hget i, if_pos rfl] at hb
   injection hb with hb
   subst hb
   rw [renM_r, if_pos ⟨rfl, rfl⟩] at hl
   injection hl with hl
   subst hl
   exact (hm3 C hC).2.2
  ·rw [hget i, if_neg hi] at hb
   rw [renM_r, if_neg fun e => hi e.1] at hl
   exact h.tok i n li C hb hl (hmem _ C hC (hne i _ li hi hb hl))
 ·intro k hk ho
  refine hW k hk fun e => ho ?_
  rcases hblk with ⟨b', l', h1, h2, h3, h4⟩ | hlt
  ·exact ⟨id, b', l', h1, h2, h3, h4.trans e.symm⟩
  ·omega
 ·intro k C hk
  by_cases hkl : k = l.blk
  ·subst hkl
   rcases hblk with ⟨b', l', h1, h2, h3, h4⟩ | hlt
   ·exact .inr (.inl ⟨id, b', l', h1, h2, h3, h4⟩)
   ·exact .inr (.inr hlt)
  ·exact .inl (hmem k C hk hkl)
theorem Rel.upd {P : Program} {b0 : Nat} {ρ : Ren} {H : Hp} {W W' : World} (h : Rel P b0 ρ H W) (id : Nat) (b : AB) (l : Loc)
  (hid : id ≤ H.length) (hgen : ∀ b', H[id]? = some b' → b'.gen ≤ b.gen ∧ b'.isTok = false) (hρ : ρ id b.gen = none ∨ ρ id b.gen = some l)
  (hblk : (∃ b' l', H[id]? = some b' ∧ ρ id b'.gen = some l' ∧ l'.own = true ∧ l'.blk = l.blk) ∨ W.heap.size ≤ l.blk)
  (_hown : l.own = true)
  (hW : ∀ k, k < W.heap.size → k ≠ l.blk → W'.heap[k]? = W.heap[k]?) (hsize : W.heap.size ≤ W'.heap.size) (hos : W'.os = W.os) (htape : W'.tape = W.tape) (hout : W'.output = W.output)
  (hnew : BlkOk P b0 (renAdd ρ id b.gen l) W' l b) : Step P b0 ρ (renAdd ρ id b.gen l) H (updH H id b) W W' := by
 refine h.updG id b l ρ.m hid (fun b' hb' => (hgen b' hb').1) hρ hblk (m_refl _) (fun _ _ => rfl) (fun C hC => ?_) hW hsize hos htape hout hnew
 obtain ⟨⟨A, t, fr, h1, _⟩, h2⟩ := h.imm _ _ hC
 rcases hblk with ⟨b', l', h3, h4, h5, h6⟩ | hlt
 ·exact absurd ⟨id, b', l', h3, (hgen b' h3).2, h4, h5, h6⟩ h2
 ·have := (Array.getElem?_eq_some_iff.1 h1).1
  omega
end Go.An
namespace Go.An
open Go
theorem VC.toVA {ρ : Ren} {x : V} {v : Value} (h : VC ρ x v) : VA ρ x v := by
 cases x <;> first | exact h | exact absurd h id
theorem VA.toVR {ρ : Ren} {x : V} {v : Value} (h : VA ρ x v) : VR ρ x v := by
 cases x <;> first | exact h | exact absurd h id
theorem VC.toVR {ρ : Ren} {x : V} {v : Value} (h : VC ρ x v) : VR ρ x v := h.toVA.toVR
theorem VI.vc {ρ : Ren} {v : V} {u : Value} (h : VI ρ.m v u) : VC ρ v u := by
 cases v <;> first | exact h | (simp only [VI] at h <;> exact h)
theorem VC.vi {ρ : Ren} {v : V} {u : Value} (hi : v.imm = true) (h : VC ρ v u) : VI ρ.m v u := by
 cases v <;> first | (simp [V.imm] at hi; done) | exact h | (simp only [VC, VB] at h; simp only [VI]; exact h)
theorem VI_ipt {ρ : Ren} {cs : List V} {off : Nat} {u : Value} (h : VR ρ (.ipt cs off) u) : ∃ blk base C, u = .pointer (some ⟨blk, base + off, none⟩) ∧ ρ.m blk = some C ∧ VIs ρ.m cs C base := by
 have h' : VI ρ.m (.ipt cs off) u := h
 simpa only [VI] using h'
theorem VI_isl {ρ : Ren} {cs : List V} {n sz : Nat} {u : Value} (h : VR ρ (.isl cs n sz) u) : ∃ a c, u = .slice (some a) n c ∧ n ≤ c ∧ (cs = [] ∨ ∃ blk base C, a = ⟨blk, base, none⟩ ∧ ρ.m blk = some C ∧ VIs ρ.m cs C base) := by
 have h' : VI ρ.m (.isl cs n sz) u := h
 simpa only [VI] using h'
theorem VIs_rel {ρ : Ren} {cs : List V} {C : Array Value} {base : Nat} (h : VIs ρ.m cs C base) : CellsRel ρ cs C base := by
 intro j v hv
 obtain ⟨u, h1, h2, h3⟩ := VIs_iff.1 h j v hv
 exact ⟨u, h1, h3.vc, h2⟩
theorem immL_iff : ∀ {l : List V}, immL l = true ↔ ∀ v ∈ l, v.imm = true
 | [] => by simp [immL]
 | x :: l => by simp [immL, immL_iff (l := l)]
theorem VIs_of {ρ : Ren} {cs : List V} {C : Array Value} {base : Nat} (hi : immL cs = true) (h : CellsRel ρ cs C base) : VIs ρ.m cs C base :=
 VIs_iff.2 fun j v hv => let ⟨u, h1, h2, h3⟩ := h j v hv; ⟨u, h1, h3, h2.vi (immL_iff.1 hi v (List.mem_of_getElem? hv))⟩
theorem imm_cell {v : V} (h : v.imm = true) : v.isCell = true := by
 cases v <;> first | rfl | (simp [V.imm] at h; done)
theorem immL_cells {l : List V} (h : immL l = true) : l.all V.isCell = true := List.all_eq_true.2 fun v hv => imm_cell (immL_iff.1 h v hv)
def renImm (ρ : Ren) (k : Nat) (C : Array Value) : Ren := ⟨ρ.r, fun i => if i = k then some C else ρ.m i⟩
section
variable {P : Program} {b0 : Nat} {ρ : Ren} {H : Hp} {W : World}
theorem renImm_le (h : Rel P b0 ρ H W) {C : Array Value} : ρ.Le (renImm ρ W.heap.size C) := ⟨fun _ _ _ h => h, fun k C' hk => by
 refine ⟨C', ?_, .refl _⟩
 show (if k = W.heap.size then some C else ρ.m k) = some C'
 rw [if_neg]
 ·exact hk
 ·rintro rfl
  obtain ⟨⟨A, t, fr, h1, _⟩, _⟩ := h.imm _ _ hk
  have := (Array.getElem?_eq_some_iff.1 h1).1
  omega⟩
theorem Rel.pushI (h : Rel P b0 ρ H W) {C : Array Value} {t : TypeId} {fr : Nat × Nat} {W' : World}
  (hW : W'.heap = W.heap.push (.cells C t fr)) (hos : W'.os = W.os) (htape : W'.tape = W.tape) (hout : W'.output = W.output) :
  Step P b0 ρ (renImm ρ W.heap.size C) H H W W' := by
 have hk : ∀ k, k < W.heap.size → W'.heap[k]? = W.heap[k]? := fun k hk => by rw [hW, Array.getElem?_push, if_neg (by omega)]
 have hle := renImm_le h (C := C)
 refine ⟨⟨fun id b hb hne => ?_, h.hole, h.inj, h.fresh, h.gen, by rw [hW]; have := h.size; simp; omega, fun k C' hk' => ?_, fun id n l C' hb hl hC => ?_⟩, hle, fun k hk' _ => hk k hk', fun k ho => .inl ho, by rw [hW]; simp, Nat.le_refl _, hos, htape, hout, fun k C' hk' => ?_⟩
 ·obtain ⟨l, hl, hb'⟩ := h.blk id b hb hne
  exact ⟨l, hl, (hb'.world (hk _ hb'.lt)).mono hle⟩
 ·by_cases hks : k = W.heap.size
  ·subst hks
   have hC : (if W.heap.size = W.heap.size then some C else ρ.m W.heap.size) = some C' := hk'
   rw [if_pos rfl] at hC
   injection hC with hC
   subst hC
   refine ⟨⟨_, t, fr, by rw [hW]; simp, .refl _⟩, ?_⟩
   rintro ⟨i, b, l, hb, _, hl, ho, he⟩
   have := (h.at_ hb hl).lt
   omega
  ·have hC : (if k = W.heap.size then some C else ρ.m k) = some C' := hk'
   rw [if_neg hks] at hC
   obtain ⟨⟨A, t', fr', h1, hs⟩, h2⟩ := h.imm _ _ hC
   exact ⟨⟨A, t', fr', (hk k (Array.getElem?_eq_some_iff.1 h1).1).trans h1, hs⟩, h2⟩
 ·have hC : (if l.blk = W.heap.size then some C else ρ.m l.blk) = some C' := hC
  rw [if_neg (by have := (h.at_ hb hl).lt; omega)] at hC
  exact h.tok id n l C' hb hl hC
 ·have hC : (if k = W.heap.size then some C else ρ.m k) = some C' := hk'
  split at hC
  ·rename_i e; exact .inr (.inr (by omega))
  ·exact .inl hC
theorem run_szOf {t : TypeId} {n : Nat} (h : szOf P t = some n) (W : World) : (sizeOf t).run P W = .ok n W := by
 unfold szOf at h
 cases hi : P.info? t with
 | none => rw [hi] at h; cases h
 | some i => rw [hi] at h; simp at h; simp [sizeOf, typeInfo, hi, h]
theorem run_aggT {t : TypeId} {b : Bool} (h : aggT P t = some b) (W : World) : (isAgg t).run P W = .ok b W := by
 unfold aggT at h
 cases hu : P.underlying t with
 | none => rw [hu] at h; cases h
 | some d =>
  rw [hu] at h
  cases d <;> simp at h <;> subst h <;> simp [isAgg, run_underlying hu]
theorem run_zeroV {t : TypeId} {z : V} (h : zeroV P t = some z) (W : World) : ∃ u, (zeroValue t).run P W = .ok u W ∧ z = ofVal u := by
 unfold zeroV at h
 cases hi : P.info? t with
 | none => rw [hi] at h; cases h
 | some i =>
  rw [hi] at h
  simp at h
  obtain ⟨u, hu, rfl⟩ := h
  exact ⟨u, by simp [zeroValue, typeInfo, hi, hu], rfl⟩
theorem run_v {s : Sem Value} {W W' : World} {u : Value} (h : s.run P W = .ok u W') : (do pure (Next.value (← s)) : Sem Next).run P W = .ok (.value u) W' := by simp [h]
theorem run_u {s : Sem Unit} {W W' : World} (h : s.run P W = .ok () W') : (do s; pure Next.skip : Sem Next).run P W = .ok .skip W' := by simp [h]
theorem get_set3 {α : Type} (l vs : List α) (o j : Nat) (h : o ≤ l.length) :
  (l.take o ++ vs ++ l.drop (o + vs.length))[j]? = if j < o then l[j]? else if j < o + vs.length then vs[j - o]? else l[j]? := by
 have h1 : (l.take o).length = o := by simp; omega
 rw [List.append_assoc, List.getElem?_append, h1]
 by_cases a : j < o
 ·rw [if_pos a, if_pos a, List.getElem?_take, if_pos a]
 ·rw [if_neg a, if_neg a, List.getElem?_append]
  by_cases b : j < o + vs.length
  ·rw [if_pos (by omega), if_pos b]
  ·rw [if_neg (by omega), if_neg b, List.getElem?_drop]
   congr 1
   omega
theorem setAt_get (l vs : List V) (o j : Nat) (h : o ≤ l.length) :
  (setAt l o vs)[j]? = if j < o then l[j]? else if j < o + vs.length then vs[j - o]? else l[j]? := get_set3 l vs o j h
theorem setAt_length (l vs : List V) (o : Nat) (h : o + vs.length ≤ l.length) : (setAt l o vs).length = l.length := by
 simp [setAt]; omega
theorem CellsRel.seg {cs : List V} {C : Array Value} {base off n : Nat} (h : CellsRel ρ cs C base) (hl : off + n ≤ cs.length) :
  VL (VC ρ) ((cs.drop off).take n) ((C.toList.drop (base + off)).take n) ∧ (n = 0 ∨ base + off + n ≤ C.size) ∧ ∀ u ∈ (C.toList.drop (base + off)).take n, u.oneCell' = true := by
 have hat : ∀ j, j < n → ∃ v u, cs[off + j]? = some v ∧ C[base + off + j]? = some u ∧ VC ρ v u ∧ u.oneCell' = true := by
  intro j hj
  have hv : cs[off + j]? = some cs[off + j] := List.getElem?_eq_getElem (by omega)
  obtain ⟨u, hu, r⟩ := h _ _ hv
  exact ⟨_, u, hv, by rw [Nat.add_assoc]; exact hu, r⟩
 have hsz : n = 0 ∨ base + off + n ≤ C.size := by
  cases n with
  | zero => exact .inl rfl
  | succ n =>
   obtain ⟨_, u, _, hu, _⟩ := hat n (by omega)
   have := (Array.getElem?_eq_some_iff.1 hu).1
   exact .inr (by omega)
 have hlen : ((C.toList.drop (base + off)).take n).length = n := by
  rcases hsz with rfl | hsz
  ·simp
  ·simp; omega
 refine ⟨VL.mk (by rw [hlen]; simp; omega) fun i a ha => ?_, hsz, fun u hu => ?_⟩
 ·rw [List.getElem?_take] at ha ⊢
  split at ha
  ·rename_i hi
   obtain ⟨v, u, h1, h2, h3, h4⟩ := hat i hi
   rw [List.getElem?_drop] at ha
   rw [if_pos hi, List.getElem?_drop]
   rw [h1] at ha
   injection ha with ha
   subst ha
   exact ⟨u, by simpa using h2, h3⟩
  ·cases ha
 ·obtain ⟨i, hi, rfl⟩ := List.getElem_of_mem hu
  simp at hi
  obtain ⟨v, u, h1, h2, h3, h4⟩ := hat i (by omega)
  simp at h2 ⊢
  rw [Array.getElem?_eq_some_iff] at h2
  obtain ⟨hh, h2⟩ := h2
  rw [h2]
  exact h4
theorem CellsRel.set {cs vs : List V} {us : List Value} {C : Array Value} {base off : Nat} (h : CellsRel ρ cs C base) (hv : VL (VC ρ) vs us) (h1 : ∀ u ∈ us, u.oneCell' = true) (hl : off + vs.length ≤ cs.length) (hb : base + cs.length ≤ C.size) :
  CellsRel ρ (setAt cs off vs) (C.toList.take (base + off) ++ us ++ C.toList.drop (base + off + us.length)).toArray base := by
 intro j v hj
 have e := hv.length
 rw [setAt_get _ _ _ _ (by omega)] at hj
 simp only [List.getElem?_toArray]
 rw [get_set3 _ _ _ _ (by simp; omega)]
 by_cases a : j < off
 ·rw [if_pos a] at hj
  rw [if_pos (by omega)]
  obtain ⟨u, hu, r⟩ := h j v hj
  exact ⟨u, by simpa using hu, r⟩
 ·rw [if_neg a] at hj
  rw [if_neg (by omega)]
  by_cases b : j < off + vs.length
  ·rw [if_pos b] at hj
   rw [if_pos (by omega)]
   obtain ⟨u, hu, r⟩ := hv.get _ hj
   have e2 : base + j - (base + off) = j - off := by omega
   rw [e2]
   exact ⟨u, hu, r, h1 u (List.mem_of_getElem? hu)⟩
  ·rw [if_neg b] at hj
   rw [if_neg (by omega)]
   obtain ⟨u, hu, r⟩ := h j v hj
   exact ⟨u, by simpa using hu, r⟩
theorem CellsRel.of {cs : List V} {us spare : List Value} (h : VL (VC ρ) cs us) (h1 : ∀ u ∈ us, u.oneCell' = true) (pre : List Value) : CellsRel ρ cs (pre ++ us ++ spare).toArray pre.length := by
 intro j v hj
 obtain ⟨u, hu, r⟩ := h.get j hj
 have hlt : j < us.length := (List.getElem?_eq_some_iff.1 hu).1
 refine ⟨u, ?_, r, h1 u (List.mem_of_getElem? hu)⟩
 simp only [List.getElem?_toArray]
 rw [List.append_assoc, List.getElem?_append_right (by omega), List.getElem?_append_left (by omega)]
 rw [show pre.length + j - pre.length = j from by omega]
 exact hu
theorem VL.cells {R : List V} {us : List Value} (h : VL (VA ρ) R us) (hc : R.all V.isCell = true) : VL (VC ρ) R us ∧ ∀ u ∈ us, u.oneCell' = true := by
 induction R generalizing us with
 | nil => cases us with
  | nil => exact ⟨trivial, by simp⟩
  | cons => exact h.elim
 | cons a R ih => cases us with
  | nil => exact h.elim
  | cons u us =>
   simp only [List.all_cons, Bool.and_eq_true] at hc
   obtain ⟨h1, h2⟩ := ih h.2 hc.2
   obtain ⟨h3, h4⟩ := VA.cell h.1 hc.1
   exact ⟨⟨h3, h1⟩, by simp; exact ⟨h4, h2⟩⟩
theorem VL.cells' {R : List V} {us : List Value} (h : VL (VC ρ) R us) (hc : R.all V.isCell = true) : ∀ u ∈ us, u.oneCell' = true :=
 (VL.cells (h.imp fun _ _ => VC.toVA) hc).2
theorem VA.cells {v : V} {u : Value} (h : VA ρ v u) (hc : v.cells.all V.isCell = true) : VL (VC ρ) v.cells u.cells.toList ∧ ∀ x ∈ u.cells.toList, x.oneCell' = true := by
 cases v
 case agg cs =>
  obtain ⟨cs', rfl, hl⟩ := h
  exact ⟨hl, VL.cells' hl hc⟩
 all_goals
  simp only [V.cells, List.all_cons, List.all_nil, Bool.and_true] at hc
  obtain ⟨h3, h4⟩ := VA.cell h hc
  have e : u.cells = #[u] := by cases u <;> simp_all [Value.cells, Value.oneCell']
  rw [e]
  exact ⟨⟨h3, trivial⟩, by simpa using h4⟩
theorem Rel.push (h : Rel P b0 ρ H W) {cs : List V} {C : Array Value} {t : TypeId} {fr : Nat × Nat} {W' : World}
  (hc : CellsRel ρ cs C 0) (hfr : frOk fr C.size) (hl : cs.length ≤ C.size)
  (hW : W'.heap = W.heap.push (.cells C t fr)) (hos : W'.os = W.os) (htape : W'.tape = W.tape) (hout : W'.output = W.output) :
  Step P b0 ρ (renAdd ρ H.length 0 ⟨W.heap.size, 0, C.size, true⟩) H (H ++ [.row 0 cs true]) W W' := by
 have hk : ∀ k, k < W.heap.size → W'.heap[k]? = W.heap[k]? := fun k hk => by rw [hW, Array.getElem?_push, if_neg (by omega)]
 have := h.upd H.length (.row 0 cs true) ⟨W.heap.size, 0, C.size, true⟩ (Nat.le_refl _) (by simp) (.inl (h.fresh _ _ (Nat.le_refl _))) (.inr (Nat.le_refl _)) rfl
  (fun k hk' _ => hk k hk') (by rw [hW]; simp) hos htape hout ?_
 ·rwa [updH_push] at this
 ·refine ⟨rfl, C, t, fr, by rw [hW]; simp, hc.mono (renAdd_le (.inl (h.fresh _ _ (Nat.le_refl _)))), fun _ => ⟨h.size, hfr, rfl, by simpa using hl⟩, fun e => by cases e⟩
theorem frOk_none (n : Nat) : frOk (0, 0) n := .inl rfl
theorem Rel.put (h : Rel P b0 ρ H W) {id g : Nat} {cs cs' : List V} {own : Bool} (hid : H[id]? = some (.row g cs own)) (hown : own = true) {l : Loc} (hl : ρ id g = some l) {C' : Array Value}
  (hc : CellsRel ρ cs' C' l.base) (hsz : C'.size = l.tot) (hlen : l.base + cs'.length ≤ l.tot) :
  Step P b0 ρ ρ H (H.set id (.row g cs' true)) W (W.setRow l.blk C') := by
 subst hown
 obtain ⟨l', hl', hk⟩ := h.blk id _ hid rfl
 simp only [AB.gen] at hl'
 rw [hl] at hl'
 injection hl' with hl'
 subst hl'
 obtain ⟨ho, C, t, fr, hC, hcr, hcap, _⟩ := hk
 obtain ⟨c1, c2, c3, c4⟩ := hcap rfl
 have hlt : id < H.length := (List.getElem?_eq_some_iff.1 hid).1
 have hadd : renAdd ρ id (AB.gen (.row g cs' true)) l = ρ := by
  show Ren.mk _ _ = _
  cases ρ with
  | mk r m =>
  congr 1
  funext i k
  split
  ·rename_i e
   obtain ⟨rfl, rfl⟩ := e
   exact hl.symm
  ·rfl
 have := h.upd (W' := W.setRow l.blk C') id (.row g cs' true) l (by omega) (fun b' hb' => by rw [hid] at hb'; injection hb' with hb'; subst hb'; exact ⟨Nat.le_refl _, rfl⟩) (.inr hl)
  (.inl ⟨_, l, hid, hl, ho, rfl⟩) ho (fun k _ hk => setRow_other W l.blk k C' hk) (by simp) rfl rfl rfl ?_
 ·rw [hadd, updH_set hlt] at this
  exact this
 ·rw [hadd]
  exact ⟨ho, C', t, fr, setRow_heap W _ _ _ _ _ hC, hc, fun _ => ⟨c1, by rw [hsz, ← c3]; exact c2, hsz, hlen⟩, fun e => by cases e⟩
theorem run_storeF {g o : Nat} {t : TypeId} {fr : Nat × Nat} : ∀ (vs : List Value) (i : Nat) (cur : Array Value) (w : World), w.heap[g]? = some (.cells cur t fr) → frOk fr cur.size → o + i + vs.length ≤ cur.size → (∀ v ∈ vs, v.oneCell' = true) →
  (storeCells ⟨g, o, none⟩ vs i).run P w = .ok () (w.setRow g (cur.toList.take (o + i) ++ vs ++ cur.toList.drop (o + i + vs.length)).toArray)
 | [], i, cur, w, hg, _, _, _ => by
  simp only [storeCells, List.append_nil, List.length_nil, Nat.add_zero, List.take_append_drop, Array.toArray_toList]
  rw [setRow_self w g cur t fr hg]
  rfl
 | v :: rest, i, cur, w, hg, hfz, hl, h1 => by
  have hi : o + i < cur.size := by simp at hl; omega
  have hadd : (⟨g, o, none⟩ : Addr).add i = ⟨g, o + i, none⟩ := by unfold Addr.add; split <;> simp_all
  have hcell : w.cell? ⟨g, o + i, none⟩ = some cur[o + i] := by simp [World.cell?, hg, hi]
  have hfro : w.frozen? ⟨g, o + i, none⟩ = false := by
   have := hfz.at (o + i) hi
   simp only [World.frozen?, hg]
   simpa using this
  have hst : (store ((⟨g, o, none⟩ : Addr).add i) v).run P w = .ok () (w.setRow g (cur.setIfInBounds (o + i) v)) := by
   rw [hadd, run_store P w _ v _ (h1 v (by simp)), hcell]
   simp [hfro, setCell_eq_setRow w g (o + i) cur t fr v hg]
  have ih := run_storeF (g := g) (o := o) (t := t) (fr := fr) rest (i + 1) (cur.setIfInBounds (o + i) v) (w.setRow g (cur.setIfInBounds (o + i) v)) (setRow_heap w g cur _ t _ hg) (by simpa using hfz) (by simp at hl ⊢; omega) (fun x hx => h1 x (by simp [hx]))
  simp only [storeCells, Sem.run_bind, hst, Result.andThen_ok, ih, setRow_setRow]
  congr 3
  have e := list_seg_step cur.toList (o + i) v rest (by simp at hl ⊢; omega)
  simpa [Array.toList_setIfInBounds, Nat.add_assoc] using e
def Out (P : Program) (b0 : Nat) (ρ : Ren) (H : Hp) (W : World) (r : Result Value) (v : V) (H' : Hp) : Prop := ∃ u W' ρ', r = .ok u W' ∧ VR ρ' v u ∧ Step P b0 ρ ρ' H H' W W'
def OutU (P : Program) (b0 : Nat) (ρ : Ren) (H : Hp) (W : World) (r : Result Unit) (H' : Hp) : Prop := ∃ W' ρ', r = .ok () W' ∧ Step P b0 ρ ρ' H H' W W'
theorem part_sim {t : TypeId} {cs : List V} {C : Array Value} {off : Nat} {v : V} (hc : VL (VC ρ) cs C.toList) (h : partV P t cs off = some v) : ∃ u, (part t C off).run P W = .ok u W ∧ VA ρ v u := by
 unfold partV at h
 cases ha : aggT P t with
 | none => rw [ha] at h; cases h
 | some b =>
  rw [ha] at h
  cases b with
  | true =>
   simp only [Option.bind_some, if_true] at h
   cases hn : szOf P t with
   | none => rw [hn] at h; cases h
   | some n =>
    rw [hn] at h
    simp only [Option.bind_some] at h
    split at h
    ·injection h with h
     subst h
     refine ⟨.agg (C.extract off (off + n)), ?_, _, rfl, ?_⟩
     ·simp [part, run_aggT ha, run_szOf hn]
     ·have := (hc.drop off).take n
      simpa [Array.toList_extract, List.extract_eq_take_drop] using this
    ·cases h
  | false =>
   simp only [Option.bind_some, Bool.false_eq_true, if_false] at h
   obtain ⟨u, hu, r⟩ := hc.get off h
   refine ⟨u, ?_, r.toVA⟩
   have : C[off]? = some u := by simpa using hu
   simp [part, run_aggT ha, this]
theorem load_blk {t : TypeId} {cs : List V} {C : Array Value} {te : TypeId} {fr : Nat × Nat} {blk base off : Nat} {v : V} (hC : W.heap[blk]? = some (.cells C te fr)) (hcr : CellsRel ρ cs C base) (h : partV P t cs off = some v) : ∃ x, (loadVar t ⟨blk, base + off, none⟩).run P W = .ok x W ∧ VR ρ v x := by
 unfold partV at h
 cases ha : aggT P t with
 | none => rw [ha] at h; cases h
 | some b =>
  rw [ha] at h
  cases b with
  | true =>
   simp only [Option.bind_some, if_true] at h
   cases hn : szOf P t with
   | none => rw [hn] at h; cases h
   | some n =>
    rw [hn] at h
    simp only [Option.bind_some] at h
    split at h
    ·rename_i hle
     injection h with h
     subst h
     obtain ⟨s1, s2, _⟩ := hcr.seg hle
     have hcells := run_loadCells_list (P := P) W ⟨blk, base + off, none⟩ ((C.toList.drop (base + off)).take n) (fun j u hu => by
      rw [List.getElem?_take] at hu
      split at hu
      ·rw [List.getElem?_drop] at hu
       have hadd : (⟨blk, base + off, none⟩ : Addr).add j = ⟨blk, base + off + j, none⟩ := by unfold Addr.add; split <;> simp_all
       rw [hadd]
       simpa [World.cell?, hC] using hu
      ·cases hu)
     have hlen : ((C.toList.drop (base + off)).take n).length = n := by
      rw [← s1.length]; simp; omega
     rw [hlen] at hcells
     refine ⟨.agg ((C.toList.drop (base + off)).take n).toArray, ?_, ⟨_, rfl, by simpa using s1⟩⟩
     simp [loadVar, run_aggT ha, run_szOf hn, hcells]
    ·cases h
  | false =>
   simp only [Option.bind_some, Bool.false_eq_true, if_false] at h
   obtain ⟨u, hu, r, _⟩ := hcr _ _ h
   refine ⟨u, ?_, r.toVR⟩
   have : W.cell? ⟨blk, base + off, none⟩ = some u := by simpa [World.cell?, hC] using hu
   simp [loadVar, run_aggT ha, this]
theorem load_same (hR : Rel P b0 ρ H W) {t : TypeId} {p v : V} {u : Value} (hp : VR ρ p u) (h : loadV P t H p = some v) : ∃ a x, u = .pointer (some a) ∧ (loadVar t a).run P W = .ok x W ∧ VR ρ v x := by
 cases p <;> simp only [loadV] at h <;> try cases h
 case ipt cs off =>
  obtain ⟨blk, base, C, rfl, h1, h2⟩ := VI_ipt hp
  obtain ⟨⟨A, te, fr, hC, hs⟩, _⟩ := hR.imm _ _ h1
  obtain ⟨x, h3, h4⟩ := load_blk hC (VIs_rel (h2.sub hs)) h
  exact ⟨_, x, rfl, h3, h4⟩
 rename_i id g off
 obtain ⟨l, hl, rfl⟩ := hp
 unfold getRow at h
 split at h
 ·rename_i g' cs own hid
  split at h
  ·rename_i hg
   subst hg
   simp only [Option.bind_some] at h
   obtain ⟨l', hl', hk⟩ := hR.blk id _ hid rfl
   simp only [AB.gen] at hl'
   rw [hl] at hl'
   injection hl' with hl'
   subst hl'
   obtain ⟨ho, C, te, fr, hC, hcr, _⟩ := hk
   obtain ⟨x, h1, h2⟩ := load_blk hC hcr h
   exact ⟨_, x, rfl, h1, h2⟩
  ·cases h
 ·cases h
theorem load_sim (hR : Rel P b0 ρ H W) {t : TypeId} {p v : V} {u : Value} (hp : VR ρ p u) (h : loadV P t H p = some v) : Out P b0 ρ H W ((Instr.loadAt t u).run P W) v H := by
 obtain ⟨a, x, rfl, h1, h2⟩ := load_same hR hp h
 refine ⟨x, W, ρ, ?_, h2, Step.refl hR⟩
 simp [Instr.loadAt, Instr.sureAddr, h1]
theorem store_sim (hR : Rel P b0 ρ H W) {t : TypeId} {p v : V} {u x : Value} {H' : Hp} (hp : VR ρ p u) (hv : VR ρ v x) (h : storeV P t H p v = some H') : OutU P b0 ρ H W ((Instr.storeAt t u x).run P W) H' := by
 cases p <;> simp only [storeV] at h <;> try cases h
 rename_i id g off
 obtain ⟨l, hl, rfl⟩ := hp
 unfold getRow at h
 split at h
 ·rename_i g' cs own hid
  split at h
  ·rename_i hg
   subst hg
   simp only [Option.bind_some] at h
   split at h
   ·rename_i hcond
    obtain ⟨ho, hsz, hle, hall⟩ := hcond
    injection h with h
    subst h
    have hva : VA ρ v x := hv.va (fun vs e => by subst e; simp [V.cells, V.isCell] at hall)
    obtain ⟨hc1, hc2⟩ := hva.cells hall
    obtain ⟨l', hl', hk⟩ := hR.blk id _ hid rfl
    simp only [AB.gen] at hl'
    rw [hl] at hl'
    injection hl' with hl'
    subst hl'
    obtain ⟨hown, C, te, fr, hC, hcr, hcap, _⟩ := hk
    obtain ⟨c1, c2, c3, c4⟩ := hcap ho
    have e := hc1.length
    have hst := run_storeF (P := P) (g := l.blk) (o := l.base + off) (t := te) (fr := fr) x.cells.toList 0 C W hC c2 (by simp at e ⊢; omega) hc2
    refine ⟨_, ρ, ?_, hR.put hid ho hl (hcr.set hc1 hc2 hle (by omega)) (by simp; simp at e; omega) (by rw [setAt_length _ _ _ hle]; omega)⟩
    have hs : x.cells.size = v.cells.length := by simp at e; omega
    simp only [Nat.add_zero] at hst
    simp [Instr.storeAt, Instr.sureAddr, storeVar, run_szOf hsz, hs, hst]
   ·cases h
  ·cases h
 ·cases h
end
end Go.An
namespace Go.An
open Go
section
variable {P : Program} {b0 : Nat} {ρ : Ren} {H : Hp} {W : World}
theorem add_lit (b o n : Nat) : (⟨b, o, none⟩ : Addr).add n = ⟨b, o + n, none⟩ := by unfold Addr.add; split <;> simp_all
theorem ipt_VI {cs : List V} {blk base off : Nat} {C : Array Value} (h1 : ρ.m blk = some C) (h2 : VIs ρ.m cs C base) : VR ρ (.ipt cs off) (.pointer (some ⟨blk, base + off, none⟩)) := by
 show VI ρ.m (.ipt cs off) _
 simp only [VI]
 exact ⟨blk, base, C, rfl, h1, h2⟩
theorem isl_VI {cs : List V} {n c sz blk base : Nat} {C : Array Value} (hn : n ≤ c) (h1 : ρ.m blk = some C) (h2 : VIs ρ.m cs C base) : VR ρ (.isl cs n sz) (.slice (some ⟨blk, base, none⟩) n c) := by
 show VI ρ.m (.isl cs n sz) _
 simp only [VI]
 exact ⟨_, c, rfl, hn, .inr ⟨blk, base, C, rfl, h1, h2⟩⟩
theorem isl_VI0 {a : Addr} {n c sz : Nat} (hn : n ≤ c) : VR ρ (.isl [] n sz) (.slice (some a) n c) := by
 show VI ρ.m (.isl [] n sz) _
 simp only [VI]
 exact ⟨_, c, rfl, hn, .inl trivial⟩
theorem dem1_VB {v : V} {u : Value} (h : VB ρ v u) : VB ρ v.dem1 u := by
 cases v <;> try exact h
 rename_i id cs n sz
 show VB ρ (if n = 0 then .nilslice else .isl cs n sz) u
 rcases h with ⟨h0, rfl, rfl⟩ | ⟨h0, h1, h2, l, c, C, h3, rfl, h5, h6, h7, h8⟩
 ·rw [if_pos h0]; rfl
 ·rw [if_neg (by omega)]; exact isl_VI (sz := sz) h5 h7 h8
theorem dem1_VC {v : V} {u : Value} (h : VC ρ v u) : VC ρ v.dem1 u := by
 cases v
 case osl id cs n sz =>
  have h' : VB ρ (.osl id cs n sz) u := h
  have := dem1_VB h'
  simp only [V.dem1] at this ⊢
  split at this
  ·rename_i e; rw [if_pos e]; exact this
  ·rename_i e; rw [if_neg e]; exact this
 all_goals exact h
theorem VL.dem1 : ∀ {l : List V} {l' : List Value}, VL (VC ρ) l l' → VL (VC ρ) (l.map V.dem1) l'
 | [], [], _ => trivial
 | _ :: _, _ :: _, h => ⟨dem1_VC h.1, VL.dem1 h.2⟩
 | [], _ :: _, h => h.elim
 | _ :: _, [], h => h.elim
theorem dem1_VR {v : V} {u : Value} (h : VR ρ v u) : VR ρ v.dem1 u := by
 cases v <;> first | exact h | exact (dem1_VC (v := .osl _ _ _ _) h).toVR
theorem dem_VR {v : V} {u : Value} (h : VR ρ v u) : VR ρ v.dem u := by
 cases v
 case agg cs =>
  obtain ⟨cs', rfl, hl⟩ := h
  exact ⟨cs', rfl, hl.dem1⟩
 all_goals exact dem1_VR h
theorem fieldAddr_sim (hR : Rel P b0 ρ H W) {s : TypeId} {p v : V} {u : Value} {i : Nat} (hp : VR ρ p u) (h : fieldAddrV P s p i = some v) : Out P b0 ρ H W ((Instr.fieldAt s u i).run P W) v H := by
 unfold fieldAddrV at h
 split at h
 ·rename_i fields id g off hu
  cases hf : fields[i]? with
  | none => rw [hf] at h; cases h
  | some f =>
   rw [hf] at h
   simp only [Option.bind_some] at h
   cases hn : szOf P f.type with
   | none => rw [hn] at h; cases h
   | some n =>
    rw [hn] at h
    simp only [Option.bind_some] at h
    split at h
    ·cases h
    ·rename_i h0
     injection h with h
     subst h
     obtain ⟨l, hl, rfl⟩ := hp
     refine ⟨.pointer (some ⟨l.blk, l.base + (off + f.offset), none⟩), W, ρ, ?_, ⟨l, hl, rfl⟩, Step.refl hR⟩
     simp [Instr.fieldAt, run_underlying hu, hf, Instr.sureAddr, fieldPlace, run_szOf hn, h0, add_lit, Nat.add_assoc]
 ·rename_i fields cs off hu
  cases hf : fields[i]? with
  | none => rw [hf] at h; cases h
  | some f =>
   rw [hf] at h
   simp only [Option.bind_some] at h
   cases hn : szOf P f.type with
   | none => rw [hn] at h; cases h
   | some n =>
    rw [hn] at h
    simp only [Option.bind_some] at h
    split at h
    ·cases h
    ·rename_i h0
     injection h with h
     subst h
     obtain ⟨blk, base, C, rfl, h1, h2⟩ := VI_ipt hp
     refine ⟨.pointer (some ⟨blk, base + (off + f.offset), none⟩), W, ρ, ?_, ipt_VI h1 h2, Step.refl hR⟩
     simp [Instr.fieldAt, run_underlying hu, hf, Instr.sureAddr, fieldPlace, run_szOf hn, h0, add_lit, Nat.add_assoc]
 ·cases h
theorem field_sim (hR : Rel P b0 ρ H W) {s : TypeId} {x v : V} {u : Value} {i : Nat} (hp : VR ρ x u) (h : fieldV P s x i = some v) : Out P b0 ρ H W ((Instr.field s u i).run P W) v H := by
 unfold fieldV at h
 split at h
 ·rename_i fields cs hu
  cases hf : fields[i]? with
  | none => rw [hf] at h; cases h
  | some f =>
   rw [hf] at h
   simp only [Option.bind_some] at h
   obtain ⟨cs', rfl, hl⟩ := hp
   obtain ⟨w, hw, r⟩ := part_sim (P := P) (W := W) hl h
   refine ⟨w, W, ρ, ?_, r.toVR, Step.refl hR⟩
   simp [Instr.field, run_underlying hu, hf, asAgg, hw]
 ·cases h
theorem indexAddr_sim (hR : Rel P b0 ρ H W) {t : TypeId} {x i v : V} {u j : Value} (hp : VR ρ x u) (hi : VR ρ i j) (h : indexAddrV P t x i = some v) : Out P b0 ρ H W ((Instr.indexAt t u j).run P W) v H := by
 unfold indexAddrV at h
 split at h
 ·rename_i len e id g off k n hu
  cases hn : szOf P e with
  | none => rw [hn] at h; cases h
  | some sz =>
   rw [hn] at h
   simp only [Option.bind_some] at h
   split at h
   ·rename_i hc
    injection h with h
    subst h
    obtain ⟨l, hl, rfl⟩ := hp
    subst hi
    refine ⟨.pointer (some ⟨l.blk, l.base + (off + n.toNat * sz), none⟩), W, ρ, ?_, ⟨l, hl, rfl⟩, Step.refl hR⟩
    simp [Instr.indexAt, asIntOf, run_underlying hu, Instr.sureAddr, hc.1, hc.2, run_szOf hn, add_lit, Nat.add_assoc]
   ·cases h
 ·rename_i e id g off len sz cp k n hu
  split at h
  ·rename_i hc
   injection h with h
   subst h
   obtain ⟨l, a, c, hl, rfl, hnc, ha, _⟩ := hp
   subst hi
   have : c ≠ 0 := by omega
   have ha := ha.resolve_right this
   subst ha
   refine ⟨.pointer (some ⟨l.blk, l.base + (off + n.toNat * sz), none⟩), W, ρ, ?_, ⟨l, hl, rfl⟩, Step.refl hR⟩
   simp [Instr.indexAt, asIntOf, run_underlying hu, hc.2.1, hc.2.2, run_szOf hc.1, add_lit, Nat.add_assoc]
  ·cases h
 ·rename_i len e cs off k n hu
  cases hn : szOf P e with
  | none => rw [hn] at h; cases h
  | some sz =>
   rw [hn] at h
   simp only [Option.bind_some] at h
   split at h
   ·rename_i hc
    injection h with h
    subst h
    obtain ⟨blk, base, C, rfl, h1, h2⟩ := VI_ipt hp
    subst hi
    refine ⟨.pointer (some ⟨blk, base + (off + n.toNat * sz), none⟩), W, ρ, ?_, ipt_VI h1 h2, Step.refl hR⟩
    simp [Instr.indexAt, asIntOf, run_underlying hu, Instr.sureAddr, hc.1, hc.2, run_szOf hn, add_lit, Nat.add_assoc]
   ·cases h
 ·rename_i e cs len sz k n hu
  split at h
  ·rename_i hc
   injection h with h
   subst h
   obtain ⟨a, c, rfl, hnc, ha⟩ := VI_isl hp
   subst hi
   obtain ⟨hc1, hc2, hc3, hc4, hc5⟩ := hc
   have hne : cs ≠ [] := by
    rintro rfl
    simp only [List.length_nil] at hc3
    rcases Nat.mul_eq_zero.1 hc3.symm with e1 | e1 <;> omega
   obtain ⟨blk, base, C, rfl, h1, h2⟩ := ha.resolve_left hne
   refine ⟨.pointer (some ⟨blk, base + (n.toNat * sz), none⟩), W, ρ, ?_, ipt_VI h1 h2, Step.refl hR⟩
   simp [Instr.indexAt, asIntOf, run_underlying hu, hc4, hc5, run_szOf hc1, add_lit]
  ·cases h
 ·cases h
theorem index_sim (hR : Rel P b0 ρ H W) {t : TypeId} {x i v : V} {u j : Value} (hp : VR ρ x u) (hi : VR ρ i j) (h : indexV P t x i = some v) : Out P b0 ρ H W ((Instr.index t u j).run P W) v H := by
 unfold indexV at h
 split at h
 ·rename_i len e cs k n hu
  split at h
  ·rename_i hc
   cases hn : szOf P e with
   | none => rw [hn] at h; cases h
   | some sz =>
    rw [hn] at h
    simp only [Option.bind_some] at h
    obtain ⟨cs', rfl, hl⟩ := hp
    subst hi
    obtain ⟨w, hw, r⟩ := part_sim (P := P) (W := W) hl h
    refine ⟨w, W, ρ, ?_, r.toVR, Step.refl hR⟩
    simp [Instr.index, asIntOf, run_underlying hu, hc.1, hc.2, run_szOf hn, hw]
  ·cases h
 ·rename_i s k n hu
  split at h
  ·rename_i hc
   obtain ⟨b, hb, rfl⟩ := Option.map_eq_some_iff.1 h
   have hp' : u = .string ⟨s.toArray⟩ := hp
   subst hp'
   subst hi
   refine ⟨.int .u8 b.toNat, W, ρ, ?_, rfl, Step.refl hR⟩
   have hb' : (⟨s.toArray⟩ : ByteArray)[n.toNat]? = some b := by
    obtain ⟨hlt, he⟩ := List.getElem?_eq_some_iff.1 hb
    have h1 : n.toNat < (⟨s.toArray⟩ : ByteArray).size := by show n.toNat < s.toArray.size; simpa using hlt
    exact (getElem?_pos (⟨s.toArray⟩ : ByteArray) n.toNat h1).trans (congrArg some he)
   simp [Instr.index, asIntOf, run_underlying hu, hc, hb']
  ·cases h
 ·cases h
theorem VL.setAt {cs vs : List V} {C us : List Value} {off : Nat} (hc : VL (VC ρ) cs C) (hv : VL (VC ρ) vs us) :
  VL (VC ρ) (setAt cs off vs) (C.take off ++ us ++ C.drop (off + us.length)) := by
 have e1 := hc.length
 have e2 := hv.length
 rw [An.setAt, e2]
 exact ((hc.take off).append hv).append (hc.drop _)
theorem fold_set : ∀ (us : List Value) (k off : Nat) (C : Array Value), off + k + us.length ≤ C.size →
  ((us.zipIdx k).foldl (fun (cs : Array Value) (p : Value × Nat) => cs.setIfInBounds (off + p.2) p.1) C).toList = C.toList.take (off + k) ++ us ++ C.toList.drop (off + k + us.length)
 | [], k, off, C, _ => by simp
 | u :: us, k, off, C, h => by
  simp only [List.length_cons] at h
  simp only [List.zipIdx_cons, List.foldl_cons]
  rw [fold_set us (k + 1) off _ (by simp; omega)]
  have e := list_seg_step C.toList (off + k) u us (by simp; omega)
  simpa [Array.toList_setIfInBounds, Nat.add_assoc] using e
theorem fill_sim {place : Nat → Option (Nat × Nat)} : ∀ {parts : List (Nat × V)} {parts' : List (Nat × Value)} {cs : List V} {C : Array Value} {cs' : List V},
  VL (VC ρ) cs C.toList → parts.length = parts'.length → (∀ (j : Nat) (p : Nat × V), parts[j]? = some p → ∃ p' : Nat × Value, parts'[j]? = some p' ∧ p'.1 = p.1 ∧ VR ρ p.2 p'.2) →
  fillV place cs parts = some cs' → ∃ C', Instr.fill place C parts' = some C' ∧ VL (VC ρ) cs' C'.toList
 | [], parts', cs, C, cs', hc, hlen, _, h => by
  have : parts' = [] := List.eq_nil_of_length_eq_zero (by simpa using hlen.symm)
  subst this
  simp only [fillV, Option.some.injEq] at h
  subst h
  exact ⟨C, rfl, hc⟩
 | (i, v) :: rest, [], _, _, _, _, hlen, _, _ => by simp at hlen
 | (i, v) :: rest, (i', u) :: rest', cs, C, cs', hc, hlen, hat, h => by
  obtain ⟨p', hp', e1, r⟩ := hat 0 (i, v) rfl
  simp at hp'
  subst hp'
  simp only at e1 r
  subst e1
  simp only [fillV] at h
  cases hpl : place i' with
  | none => rw [hpl] at h; cases h
  | some q =>
   rw [hpl] at h
   simp only [Option.bind_some] at h
   split at h
   ·rename_i hcond
    have hva : VA ρ v u := r.va (fun vs e => by subst e; simp [V.cells, V.isCell] at hcond)
    obtain ⟨hcells, _⟩ := hva.cells hcond.1
    have e2 := hcells.length
    have e3 := hc.length
    have hlen2 : u.cells.size = v.cells.length := by simpa using e2.symm
    have hCs : C.size = cs.length := by simpa using e3.symm
    have hfold := fold_set u.cells.toList 0 q.1 C (by simp; omega)
    simp only [Nat.add_zero] at hfold
    have hcl := hc.setAt hcells (off := q.1)
    rw [← hfold] at hcl
    obtain ⟨C', h1, h2⟩ := fill_sim (parts' := rest') hcl (by simpa using hlen) (fun j p hj => by simpa using hat (j + 1) p (by simpa using hj)) h
    refine ⟨C', ?_, h2⟩
    rw [Instr.fill, hpl]
    simp only
    rw [if_neg (by simp; omega)]
    rw [← h1]
    congr 1
    have : u.cells.zipIdx.toList = u.cells.toList.zipIdx := by simp
    rw [← Array.foldl_toList, this]
   ·cases h
def PartsRel (ρ : Ren) (ps : List (Nat × V)) (qs : List (Nat × Value)) : Prop :=
 ps.length = qs.length ∧ ∀ (j : Nat) (p : Nat × V), ps[j]? = some p → ∃ p' : Nat × Value, qs[j]? = some p' ∧ p'.1 = p.1 ∧ VR ρ p.2 p'.2
theorem zero_cells {t : TypeId} {z : V} (h : zeroV P t = some z) (W : World) : ∃ u : Value, (zeroValue t).run P W = .ok u W ∧ VL (VC ρ) z.cells u.cells.toList := by
 obtain ⟨u, hu, rfl⟩ := run_zeroV h W
 refine ⟨u, hu, ?_⟩
 unfold ofVal
 split
 ·rename_i cs
  have := VL.map (R := VC ρ) ofCell id (VC_ofCell ρ) cs.toList
  simpa [V.cells, Value.cells] using this
 ·rename_i hn
  have e : u.cells = #[u] := by unfold Value.cells; split <;> first | rfl | exact absurd rfl (hn _)
  have e2 : (ofCell u).cells = [ofCell u] := by unfold V.cells; split <;> first | rfl | exact absurd ‹_› ((ofCell_not u).1 _)
  rw [e, e2]
  exact ⟨VC_ofCell ρ u, trivial⟩
theorem build_sim (hR : Rel P b0 ρ H W) {t : TypeId} {ps : List (Nat × V)} {qs : Array (Nat × Value)} {v : V} (hp : PartsRel ρ ps qs.toList) (h : buildV P t ps = some v) : Out P b0 ρ H W ((Instr.build t qs).run P W) v H := by
 unfold buildV at h
 cases hz : zeroV P t with
 | none => rw [hz] at h; cases h
 | some z =>
  rw [hz] at h
  simp only [Option.bind_some] at h
  obtain ⟨u, hu, hzc⟩ := zero_cells (ρ := ρ) hz W
  split at h
  ·rename_i fields hun
   cases hpl : (fields.toList.mapM fun f => (P.info? f.type).map fun i => (f.offset, i.size)) with
   | none => rw [hpl] at h; cases h
   | some places =>
    rw [hpl] at h
    simp only [Option.bind_some] at h
    obtain ⟨cs, hcs, rfl⟩ := Option.map_eq_some_iff.1 h
    obtain ⟨C', h1, h2⟩ := fill_sim hzc hp.1 hp.2 hcs
    refine ⟨.agg C', W, ρ, ?_, ⟨_, rfl, h2⟩, Step.refl hR⟩
    simp [Instr.build, hu, run_underlying hun, Array.mapM_eq_mapM_toList, run_places W _ _ hpl, h1]
  ·rename_i n e hun
   cases hn : szOf P e with
   | none => rw [hn] at h; cases h
   | some sz =>
    rw [hn] at h
    simp only [Option.bind_some] at h
    obtain ⟨cs, hcs, rfl⟩ := Option.map_eq_some_iff.1 h
    obtain ⟨C', h1, h2⟩ := fill_sim hzc hp.1 hp.2 hcs
    refine ⟨.agg C', W, ρ, ?_, ⟨_, rfl, h2⟩, Step.refl hR⟩
    simp [Instr.build, hu, run_underlying hun, run_szOf hn, h1]
  ·cases h
end
end Go.An
namespace Go.An
open Go
section
variable {P : Program} {b0 : Nat} {ρ : Ren} {H : Hp} {W : World}
theorem repeatV_length (z : List V) : ∀ n, (repeatV z n).length = n * z.length
 | 0 => by simp [repeatV]
 | n + 1 => by simp only [repeatV, List.length_append, repeatV_length z n, Nat.succ_mul]; omega
theorem repeatV_get (z : List V) : ∀ (n i : Nat), i < n * z.length → (repeatV z n)[i]? = z[i % z.length]?
 | 0, i, h => by simp at h
 | n + 1, i, h => by
  simp only [repeatV]
  rw [List.getElem?_append]
  by_cases hi : i < z.length
  ·rw [if_pos hi, Nat.mod_eq_of_lt hi]
  ·rw [if_neg hi, repeatV_get z n (i - z.length) (by rw [Nat.succ_mul] at h; omega)]
   rw [Nat.mod_eq_sub_mod (by omega : i ≥ z.length)]
theorem zeros_rel {z : List V} {u : Array Value} (h : VL (VC ρ) z u.toList) (hz : z.all V.isCell = true) (h0 : 0 < z.length) (n m : Nat) (hm : n * z.length ≤ m) :
  CellsRel ρ (repeatV z n) ((Array.range m).map fun i => u[i % u.size]!) 0 := by
 intro j v hj
 have e : z.length = u.size := by simpa using h.length
 have hlt := (List.getElem?_eq_some_iff.1 hj).1
 rw [repeatV_length] at hlt
 rw [repeatV_get _ _ _ hlt] at hj
 obtain ⟨w, hw, r⟩ := h.get _ hj
 have hmod : j % z.length < z.length := Nat.mod_lt _ h0
 refine ⟨w, ?_, r, VL.cells' h hz w (List.mem_of_getElem? hw)⟩
 rw [Nat.zero_add, Array.getElem?_map]
 have : (Array.range m)[j]? = some j := by rw [Array.getElem?_eq_some_iff]; exact ⟨by simp; omega, by simp⟩
 rw [this]
 simp only [Option.map_some, Option.some.injEq]
 rw [← e]
 have h2 : u[j % z.length]? = some w := by simpa using hw
 rw [getElem!_def, h2]
theorem fillV_length (place : Nat → Option (Nat × Nat)) : ∀ (ps : List (Nat × V)) (cs cs' : List V), fillV place cs ps = some cs' → cs'.length = cs.length
 | [], cs, cs', h => by simp only [fillV, Option.some.injEq] at h; rw [h]
 | (i, v) :: rest, cs, cs', h => by
  simp only [fillV] at h
  cases hpl : place i with
  | none => rw [hpl] at h; cases h
  | some q =>
   rw [hpl] at h
   simp only [Option.bind_some] at h
   split at h
   ·rename_i hc
    rw [fillV_length place rest _ _ h, setAt_length _ _ _ hc.2.2]
   ·cases h
theorem frOk0 (n : Nat) : frOk (0, 0) n := frOk_none n
theorem buildSlice_sim (hR : Rel P b0 ρ H W) {t : TypeId} {len : Nat} {ps : List (Nat × V)} {qs : Array (Nat × Value)} {v : V} {H' : Hp} (hp : PartsRel ρ ps qs.toList) (h : buildSliceV P t len ps H = some (v, H')) :
  Out P b0 ρ H W ((Instr.buildSlice t len qs).run P W) v H' := by
 unfold buildSliceV at h
 split at h
 ·rename_i e hun
  cases hn : szOf P e with
  | none => rw [hn] at h; cases h
  | some sz =>
   rw [hn] at h
   simp only [Option.bind_some] at h
   cases hz : zeroV P e with
   | none => rw [hz] at h; cases h
   | some z =>
    rw [hz] at h
    simp only [Option.bind_some] at h
    split at h
    ·rename_i hc
     obtain ⟨hzl, h0, h24⟩ := hc
     cases hf : fillV (fun i => some (i * sz, sz)) (repeatV z.cells len) ps with
     | none => rw [hf] at h; cases h
     | some cs =>
      rw [hf] at h
      simp only [Option.bind_some] at h
      split at h
      ·rename_i hall
       injection h with h
       injection h with h1 h2
       subst h1 h2
       obtain ⟨u, hu, hzc⟩ := zero_cells (ρ := ρ) hz W
       have hus : u.cells.size = sz := by rw [← hzl]; simpa using hzc.length.symm
       have hzero : VL (VC ρ) (repeatV z.cells len) (((Array.range (len * sz)).map fun i => u.cells[i % u.cells.size]!)).toList := by
        refine VL.mk (by rw [repeatV_length, hzl]; simp) fun i a ha => ?_
        have hlt := (List.getElem?_eq_some_iff.1 ha).1
        rw [repeatV_length] at hlt
        rw [repeatV_get _ _ _ hlt] at ha
        obtain ⟨w, hw, r⟩ := hzc.get _ ha
        refine ⟨w, ?_, r⟩
        have h2 : u.cells[i % u.cells.size]? = some w := by rw [hus, ← hzl]; simpa using hw
        have h3 : (Array.range (len * sz))[i]? = some i := by rw [Array.getElem?_eq_some_iff]; exact ⟨by simp; rw [← hzl]; exact hlt, by simp⟩
        rw [Array.getElem?_toList, Array.getElem?_map, h3]
        simp only [Option.map_some, Option.some.injEq]
        rw [getElem!_def, h2]
       obtain ⟨C', f1, f2⟩ := fill_sim hzero hp.1 hp.2 hf
       have hone := VL.cells' f2 hall
       have hcl : CellsRel ρ cs C' 0 := by
        have := CellsRel.of (spare := []) f2 hone []
        simpa using this
       have hCs : C'.size = cs.length := by simpa using f2.length.symm
       have hcsl : cs.length = len * sz := by
        have := fillV_length _ _ _ _ hf
        rw [this, repeatV_length, hzl]
       have hst := hR.push (W' := W.alloc (.cells C' e)) hcl (frOk0 _) (by omega) (t := e) (fr := (0, 0)) rfl rfl rfl rfl
       refine ⟨.slice (some ⟨W.heap.size, 0, none⟩) len len, _, _, ?_, ?_, hst⟩
       ·have hne : ¬ (len * sz > 2 ^ 24) := by omega
        have hne0 : ¬ (len * sz = 0 ∧ False) := by simp
        by_cases hl0 : len * sz = 0
        ·have hl : len = 0 := by
          rcases Nat.mul_eq_zero.1 hl0 with h | h
          ·exact h
          ·omega
         subst hl
         have e0 : ∀ f : Nat → Value, (Array.range 0).map f = #[] := fun f => by simp [Array.range]
         simp only [Nat.zero_mul, e0] at f1
         simp [Instr.buildSlice, run_underlying hun, run_szOf hn, e0, f1, newRow]
        ·simp [Instr.buildSlice, run_underlying hun, run_szOf hn, hne, hl0, hu, f1, newRow]
       ·refine ⟨_, ⟨W.heap.size, 0, none⟩, len, renAdd_same _ _ _ _, rfl, Nat.le_refl _, .inl rfl, fun _ => ?_, ⟨rfl, ?_⟩⟩
        ·show 0 + 0 + len * sz ≤ C'.size; omega
        ·show 0 + 0 + len * sz = C'.size; omega
      ·cases h
    ·cases h
 ·cases h
theorem immSl_sim (hR : Rel P b0 ρ H W) {t : TypeId} {len : Nat} {ps : List (Nat × V)} {qs : Array (Nat × Value)} {v : V} (hp : PartsRel ρ ps qs.toList) (h : immSl P t len ps = some v) :
  Out P b0 ρ H W ((Instr.buildSlice t len qs).run P W) v H := by
 unfold immSl at h
 split at h
 ·rename_i e hun
  cases hn : szOf P e with
  | none => rw [hn] at h; cases h
  | some sz =>
   rw [hn] at h
   simp only [Option.bind_some] at h
   cases hz : zeroV P e with
   | none => rw [hz] at h; cases h
   | some z =>
    rw [hz] at h
    simp only [Option.bind_some] at h
    split at h
    ·rename_i hc
     obtain ⟨hzl, h0, h24⟩ := hc
     cases hf : fillV (fun i => some (i * sz, sz)) (repeatV z.cells len) ps with
     | none => rw [hf] at h; cases h
     | some cs =>
      rw [hf] at h
      simp only [Option.bind_some] at h
      split at h
      ·rename_i hall
       injection h with h
       subst h
       obtain ⟨u, hu, hzc⟩ := zero_cells (ρ := ρ) hz W
       have hus : u.cells.size = sz := by rw [← hzl]; simpa using hzc.length.symm
       have hzero : VL (VC ρ) (repeatV z.cells len) (((Array.range (len * sz)).map fun i => u.cells[i % u.cells.size]!)).toList := by
        refine VL.mk (by rw [repeatV_length, hzl]; simp) fun i a ha => ?_
        have hlt := (List.getElem?_eq_some_iff.1 ha).1
        rw [repeatV_length] at hlt
        rw [repeatV_get _ _ _ hlt] at ha
        obtain ⟨w, hw, r⟩ := hzc.get _ ha
        refine ⟨w, ?_, r⟩
        have h2 : u.cells[i % u.cells.size]? = some w := by rw [hus, ← hzl]; simpa using hw
        have h3 : (Array.range (len * sz))[i]? = some i := by rw [Array.getElem?_eq_some_iff]; exact ⟨by simp; rw [← hzl]; exact hlt, by simp⟩
        rw [Array.getElem?_toList, Array.getElem?_map, h3]
        simp only [Option.map_some, Option.some.injEq]
        rw [getElem!_def, h2]
       obtain ⟨C', f1, f2⟩ := fill_sim hzero hp.1 hp.2 hf
       have hone := VL.cells' f2 (immL_cells hall)
       have hcl : CellsRel ρ cs C' 0 := by
        have := CellsRel.of (spare := []) f2 hone []
        simpa using this
       have hCs : C'.size = cs.length := by simpa using f2.length.symm
       have hcsl : cs.length = len * sz := by
        have := fillV_length _ _ _ _ hf
        rw [this, repeatV_length, hzl]
       have hst := hR.pushI (W' := W.alloc (.cells C' e)) (C := C') (t := e) (fr := (0, 0)) rfl rfl rfl rfl
       refine ⟨.slice (some ⟨W.heap.size, 0, none⟩) len len, _, _, ?_, ?_, hst⟩
       ·have hne : ¬ (len * sz > 2 ^ 24) := by omega
        have hne0 : ¬ (len * sz = 0 ∧ False) := by simp
        by_cases hl0 : len * sz = 0
        ·have hl : len = 0 := by
          rcases Nat.mul_eq_zero.1 hl0 with h | h
          ·exact h
          ·omega
         subst hl
         have e0 : ∀ f : Nat → Value, (Array.range 0).map f = #[] := fun f => by simp [Array.range]
         simp only [Nat.zero_mul, e0] at f1
         simp [Instr.buildSlice, run_underlying hun, run_szOf hn, e0, f1, newRow]
        ·simp [Instr.buildSlice, run_underlying hun, run_szOf hn, hne, hl0, hu, f1, newRow]
       ·exact isl_VI (Nat.le_refl _) (by simp [renImm]) (VIs_of hall (hcl.mono hst.le))
      ·cases h
    ·cases h
 ·cases h
theorem row_at (hR : Rel P b0 ρ H W) {id g : Nat} {r : List V × Bool} (h : getRow H id g = some r) {l : Loc} (hl : ρ id g = some l) :
  ∃ C t fr, W.heap[l.blk]? = some (.cells C t fr) ∧ CellsRel ρ r.1 C l.base ∧ (l.own = true → C.size = l.tot ∧ l.base + r.1.length ≤ l.tot) := by
 unfold getRow at h
 split at h
 ·rename_i g' cs own hid
  split at h
  ·rename_i hg
   subst hg
   injection h with h
   subst h
   obtain ⟨l', hl', hk⟩ := hR.blk id _ hid rfl
   simp only [AB.gen] at hl'
   rw [hl] at hl'
   injection hl' with hl'
   subst hl'
   obtain ⟨ho, C, te, fr, hC, hcr, hcap, _⟩ := hk
   exact ⟨C, te, fr, hC, hcr, fun e => ⟨(hcap (ho ▸ e)).2.2.1, (hcap (ho ▸ e)).2.2.2⟩⟩
  ·cases h
 ·cases h
theorem row_own (hR : Rel P b0 ρ H W) {id g : Nat} {r : List V × Bool} (h : getRow H id g = some r) (ho : r.2 = true) {l : Loc} (hl : ρ id g = some l) :
  H[id]? = some (.row g r.1 true) ∧ l.own = true ∧ b0 ≤ l.blk ∧ ∃ C t fr, W.heap[l.blk]? = some (.cells C t fr) ∧ CellsRel ρ r.1 C l.base ∧ frOk fr C.size ∧ C.size = l.tot ∧ l.base + r.1.length ≤ l.tot := by
 unfold getRow at h
 split at h
 ·rename_i g' cs own hid
  split at h
  ·rename_i hg
   subst hg
   injection h with h
   subst h
   simp only at ho
   subst ho
   obtain ⟨l', hl', hk⟩ := hR.blk id _ hid rfl
   simp only [AB.gen] at hl'
   rw [hl] at hl'
   injection hl' with hl'
   subst hl'
   obtain ⟨ho, C, te, fr, hC, hcr, hcap, _⟩ := hk
   obtain ⟨c1, c2, c3, c4⟩ := hcap rfl
   exact ⟨hid, ho, c1, C, te, fr, hC, hcr, c2, c3, c4⟩
  ·cases h
 ·cases h
def RO (ρ : Ren) : Option V → Option Value → Prop
 | none, none => True
 | some a, some b => VR ρ a b
 | _, _ => False
theorem bound_run {lo : Option V} {lo' : Option Value} (h : RO ρ lo lo') {d : Nat} {l : Int} (hb : boundV lo d = some l) : (lo' = none ∧ l = d) ∨ ∃ k, lo' = some (.int k l) := by
 cases lo with
 | none => cases lo' with
  | none => simp [boundV] at hb; exact .inl ⟨rfl, by omega⟩
  | some => exact h.elim
 | some a => cases lo' with
  | none => exact h.elim
  | some b =>
   cases a <;> simp only [boundV] at hb <;> try cases hb
   rename_i k
   have h' : b = .int k l := h
   subst h'
   exact .inr ⟨k, rfl⟩
theorem bounds_run {lo hi : Option V} {lo' hi' : Option Value} (h1 : RO ρ lo lo') (h2 : RO ρ hi hi') {n cap : Nat} {l h : Int} (hl : boundV lo 0 = some l) (hh : boundV hi n = some h)
  (h0 : 0 ≤ l) (hlh : l ≤ h) (hn : h ≤ n) (hcap : n ≤ cap) (isS : Bool) (W : World) : (Instr.sliceBounds isS n cap lo' hi' none).run P W = .ok (l.toNat, h.toNat, cap) W := by
 rcases bound_run h2 hh with ⟨rfl, rfl⟩ | ⟨k, rfl⟩
 ·rcases bound_run h1 hl with ⟨rfl, rfl⟩ | ⟨k', rfl⟩
  ·simp [Instr.sliceBounds]
  ·simp [Instr.sliceBounds, Instr.sliceBound, asIntOf, h0, show l ≤ (n : Int) from by omega]
 ·have e1 : (0 : Int) ≤ h := by omega
  have e2 : h ≤ (cap : Int) := by omega
  rcases bound_run h1 hl with ⟨rfl, rfl⟩ | ⟨k', rfl⟩
  ·simp [Instr.sliceBounds, Instr.sliceBound, asIntOf, e1, e2]
  ·have e3 : l ≤ (h.toNat : Int) := by omega
   simp only [Instr.sliceBounds, Instr.sliceBound, asIntOf, Sem.run_bind, Sem.run_pure, Result.andThen_ok, Sem.run_ite, e1, e2, h0, and_self, if_true]
   rw [if_pos ⟨trivial, e3⟩]
   rfl
theorem VIs_seg {m : Nat → Option (Array Value)} {cs : List V} {C : Array Value} {base k j : Nat} (h : VIs m cs C base) : VIs m ((cs.drop k).take j) C (base + k) := by
 refine VIs_iff.2 fun i v hv => ?_
 rw [List.getElem?_take] at hv
 split at hv
 ·rw [List.getElem?_drop] at hv
  have := VIs_iff.1 h _ v hv
  rwa [← Nat.add_assoc] at this
 ·cases hv
theorem slice_sim (hR : Rel P b0 ρ H W) {t : TypeId} {x v : V} {u : Value} {lo hi : Option V} {lo' hi' : Option Value} (hp : VR ρ x u) (h1 : RO ρ lo lo') (h2 : RO ρ hi hi') (h : sliceV P t H x lo hi = some v) :
  Out P b0 ρ H W ((Instr.sliceAt t u lo' hi' none).run P W) v H := by
 unfold sliceV at h
 split at h
 ·rename_i s hun
  cases hl : boundV lo 0 with
  | none => rw [hl] at h; cases h
  | some l =>
   rw [hl] at h
   simp only [Option.bind_some] at h
   cases hh : boundV hi s.length with
   | none => rw [hh] at h; cases h
   | some hh' =>
    rw [hh] at h
    simp only [Option.bind_some] at h
    split at h
    ·rename_i hc
     injection h with h
     subst h
     have hp' : u = .string ⟨s.toArray⟩ := hp
     subst hp'
     have hb := bounds_run (P := P) h1 h2 hl hh hc.1 hc.2.1 hc.2.2 (Nat.le_refl _) false W
     have hsz : (⟨s.toArray⟩ : ByteArray).size = s.length := by show s.toArray.size = _; simp
     refine ⟨.string ((⟨s.toArray⟩ : ByteArray).extract l.toNat hh'.toNat), W, ρ, ?_, ?_, Step.refl hR⟩
     ·simp only [Instr.sliceAt, Instr.slice, run_underlying hun, Sem.run_bind, Result.andThen_ok, hsz, Option.isSome_none]
      simp [hb]
     ·show Value.string _ = Value.string _
      congr 1
      apply ByteArray.ext
      rw [ByteArray.data_extract]
      apply Array.ext'
      simp [List.extract_eq_take_drop]
    ·cases h
 ·rename_i e hun
  cases hsz : szOf P e with
  | none => rw [hsz] at h; cases h
  | some sz =>
   rw [hsz] at h
   simp only [Option.bind_some] at h
   cases hl : boundV lo 0 with
   | none => rw [hl] at h; cases h
   | some l =>
    rw [hl] at h
    simp only [Option.bind_some] at h
    cases hh : boundV hi 0 with
    | none => rw [hh] at h; cases h
    | some hh' =>
     rw [hh] at h
     simp only [Option.bind_some] at h
     split at h
     ·rename_i hc
      injection h with h
      subst h
      obtain ⟨rfl, rfl⟩ := hc
      have hp' : u = .slice none 0 0 := hp
      subst hp'
      have hb := bounds_run (P := P) h1 h2 hl hh (Int.le_refl _) (Int.le_refl _) (Int.le_refl _) (Nat.le_refl _) true W
      refine ⟨.slice none 0 0, W, ρ, ?_, rfl, Step.refl hR⟩
      simp only [Instr.sliceAt, Instr.slice, run_underlying hun, Sem.run_bind, Result.andThen_ok]
      simp [hb, run_szOf hsz]
     ·cases h
 ·rename_i e id g off n sz cp hun
  cases hl : boundV lo 0 with
  | none => rw [hl] at h; cases h
  | some l =>
   rw [hl] at h
   simp only [Option.bind_some] at h
   cases hh : boundV hi n with
   | none => rw [hh] at h; cases h
   | some hh' =>
    rw [hh] at h
    simp only [Option.bind_some] at h
    split at h
    ·rename_i hc
     injection h with h
     subst h
     obtain ⟨hsz, h0, hlh, hhn⟩ := hc
     obtain ⟨l', a, c, hloc, rfl, hnc, ha, hcap, hcp⟩ := hp
     have hb := bounds_run (P := P) h1 h2 hl hh h0 hlh hhn hnc true W
     refine ⟨.slice (if c = l.toNat then some a else some (a.add (l.toNat * sz))) (hh'.toNat - l.toNat) (c - l.toNat), W, ρ, ?_, ?_, Step.refl hR⟩
     ·simp only [Instr.sliceAt, Instr.slice, run_underlying hun, Sem.run_bind, Result.andThen_ok, hb, run_szOf hsz]
      simp
     ·have hmul : (c - l.toNat) * sz + l.toNat * sz = c * sz := by rw [← Nat.add_mul]; congr 1; omega
      by_cases hcl : c = l.toNat
      ·rw [if_pos hcl]
       refine ⟨l', a, _, hloc, rfl, by omega, .inr (by omega), fun ho => ?_, ?_⟩
       ·have := hcap ho; omega
       ·cases cp with
        | full => obtain ⟨c1, c2⟩ := hcp; exact ⟨c1, by omega⟩
        | unk => trivial
        | ex k => have : c = k := hcp; show c - l.toNat = k - l.toNat; omega
      ·rw [if_neg hcl]
       refine ⟨l', _, _, hloc, rfl, by omega, ?_, fun ho => ?_, ?_⟩
       ·rcases ha with rfl | h0
        ·exact .inl (by rw [add_lit, Nat.add_assoc])
        ·exact .inr (by omega)
       ·have := hcap ho; omega
       ·cases cp with
        | full => obtain ⟨c1, c2⟩ := hcp; exact ⟨c1, by omega⟩
        | unk => trivial
        | ex k => have : c = k := hcp; show c - l.toNat = k - l.toNat; omega
    ·cases h
 ·rename_i e cs n sz hun
  cases hl : boundV lo 0 with
  | none => rw [hl] at h; cases h
  | some l =>
   rw [hl] at h
   simp only [Option.bind_some] at h
   cases hh : boundV hi n with
   | none => rw [hh] at h; cases h
   | some hh' =>
    rw [hh] at h
    simp only [Option.bind_some] at h
    split at h
    ·rename_i hc
     injection h with h
     subst h
     obtain ⟨hsz, hz, hcl, h0, hlh, hhn⟩ := hc
     obtain ⟨a, c, rfl, hnc, ha⟩ := VI_isl hp
     have hb := bounds_run (P := P) h1 h2 hl hh h0 hlh hhn hnc true W
     refine ⟨.slice (if c = l.toNat then some a else some (a.add (l.toNat * sz))) (hh'.toNat - l.toNat) (c - l.toNat), W, ρ, ?_, ?_, Step.refl hR⟩
     ·simp only [Instr.sliceAt, Instr.slice, run_underlying hun, Sem.run_bind, Result.andThen_ok, hb, run_szOf hsz]
      simp
     ·by_cases hne : hh'.toNat - l.toNat = 0
      ·rw [hne, Nat.zero_mul, List.take_zero]
       split
       ·exact isl_VI0 (by omega)
       ·exact isl_VI0 (by omega)
      ·have hcs : cs ≠ [] := by
        rintro rfl
        simp only [List.length_nil] at hcl
        rcases Nat.mul_eq_zero.1 hcl.symm with e1 | e1 <;> omega
       obtain ⟨blk, base, C, rfl, k1, k2⟩ := ha.resolve_left hcs
       rw [if_neg (by omega), add_lit]
       exact isl_VI (by omega) k1 (VIs_seg k2)
    ·cases h
 ·rename_i n e id g off hun
  cases hsz : szOf P e with
  | none => rw [hsz] at h; cases h
  | some sz =>
   rw [hsz] at h
   simp only [Option.bind_some] at h
   cases hr : getRow H id g with
   | none => rw [hr] at h; cases h
   | some r =>
    rw [hr] at h
    simp only [Option.bind_some] at h
    cases hl : boundV lo 0 with
    | none => rw [hl] at h; cases h
    | some l =>
     rw [hl] at h
     simp only [Option.bind_some] at h
     cases hh : boundV hi n with
     | none => rw [hh] at h; cases h
     | some hh' =>
      rw [hh] at h
      simp only [Option.bind_some] at h
      split at h
      ·rename_i hc
       injection h with h
       subst h
       obtain ⟨h0, hlh, hhn, hfit⟩ := hc
       obtain ⟨l', hloc, rfl⟩ := hp
       obtain ⟨C, t', fr, hC, hcr, hcap⟩ := row_at hR hr hloc
       have hb := bounds_run (P := P) h1 h2 hl hh h0 hlh hhn (Nat.le_refl _) false W
       have hmul : (n - l.toNat) * sz + l.toNat * sz = n * sz := by rw [← Nat.add_mul]; congr 1; omega
       refine ⟨.slice (some (if n = l.toNat then ⟨l'.blk, l'.base + off, none⟩ else (⟨l'.blk, l'.base + off, none⟩ : Addr).add (l.toNat * sz))) (hh'.toNat - l.toNat) (n - l.toNat), W, ρ, ?_, ?_, Step.refl hR⟩
       ·simp only [Instr.sliceAt, Instr.sureAddr, run_underlying hun, Sem.run_bind, Sem.run_pure, Result.andThen_ok, hb, run_szOf hsz]
       ·refine ⟨l', _, _, hloc, rfl, by omega, ?_, fun ho => ?_, rfl⟩
        ·by_cases hcl : n = l.toNat
         ·exact .inr (by omega)
         ·rw [if_neg hcl, add_lit, Nat.add_assoc]
          exact .inl rfl
        ·obtain ⟨c1, c2⟩ := hcap ho
         omega
      ·cases h
 ·cases h
theorem slice3_sim (hR : Rel P b0 ρ H W) {t : TypeId} {x v hi mx : V} {u hi' mx' : Value} {lo : Option V} {lo' : Option Value} (hp : VR ρ x u) (h1 : RO ρ lo lo') (h2 : VR ρ hi hi') (h3 : VR ρ mx mx') (h : slice3V P t x lo hi mx = some v) :
  Out P b0 ρ H W ((Instr.sliceAt t u lo' (some hi') (some mx')).run P W) v H := by
 unfold slice3V at h
 split at h
 ·rename_i e id g off n sz cp hun
  cases hl : boundV lo 0 with
  | none => rw [hl] at h; cases h
  | some l =>
   rw [hl] at h
   simp only [Option.bind_some] at h
   cases hh : boundV (some hi) 0 with
   | none => rw [hh] at h; cases h
   | some hh' =>
    rw [hh] at h
    simp only [Option.bind_some] at h
    cases hm : boundV (some mx) 0 with
    | none => rw [hm] at h; cases h
    | some m =>
     rw [hm] at h
     simp only [Option.bind_some] at h
     split at h
     ·rename_i hc
      injection h with h
      subst h
      obtain ⟨hsz, h0, hlh, hhm, hmn⟩ := hc
      obtain ⟨l', a, c, hloc, rfl, hnc, ha, hcap, hcp⟩ := hp
      obtain ⟨kh, rfl⟩ : ∃ k, hi' = .int k hh' := by
       rcases bound_run (lo := some hi) (lo' := some hi') h2 hh with ⟨e1, _⟩ | ⟨k, e1⟩
       ·cases e1
       ·exact ⟨k, Option.some.inj e1⟩
      obtain ⟨km, rfl⟩ : ∃ k, mx' = .int k m := by
       rcases bound_run (lo := some mx) (lo' := some mx') h3 hm with ⟨e1, _⟩ | ⟨k, e1⟩
       ·cases e1
       ·exact ⟨k, Option.some.inj e1⟩
      have e1 : (0 : Int) ≤ m := by omega
      have e2 : m ≤ (c : Int) := by omega
      have e3 : (0 : Int) ≤ hh' := by omega
      have e4 : hh' ≤ (m.toNat : Int) := by omega
      have e5 : l ≤ (hh'.toNat : Int) := by omega
      have hb : (Instr.sliceBounds true n c lo' (some (.int kh hh')) (some (.int km m))).run P W = .ok (l.toNat, hh'.toNat, m.toNat) W := by
       rcases bound_run h1 hl with ⟨rfl, rfl⟩ | ⟨k', rfl⟩
       ·simp only [Instr.sliceBounds, Instr.sliceBound, asIntOf, Sem.run_bind, Sem.run_pure, Result.andThen_ok, Sem.run_ite, e1, e2, e3, e4, and_self, if_true]
        rfl
       ·simp only [Instr.sliceBounds, Instr.sliceBound, asIntOf, Sem.run_bind, Sem.run_pure, Result.andThen_ok, Sem.run_ite, e1, e2, e3, e4, h0, e5, and_self, if_true]
      refine ⟨.slice (if m.toNat = l.toNat then some a else some (a.add (l.toNat * sz))) (hh'.toNat - l.toNat) (m.toNat - l.toNat), W, ρ, ?_, ?_, Step.refl hR⟩
      ·simp only [Instr.sliceAt, Instr.slice, run_underlying hun, Sem.run_bind, Result.andThen_ok, hb, run_szOf hsz]
       simp
      ·have hmul : (m.toNat - l.toNat) * sz + l.toNat * sz = m.toNat * sz := by rw [← Nat.add_mul]; congr 1; omega
       have hmc : m.toNat * sz ≤ c * sz := Nat.mul_le_mul_right _ (by omega)
       by_cases hcl : m.toNat = l.toNat
       ·rw [if_pos hcl]
        refine ⟨l', a, _, hloc, rfl, by omega, .inr (by omega), fun ho => ?_, rfl⟩
        have := hcap ho; omega
       ·rw [if_neg hcl]
        refine ⟨l', _, _, hloc, rfl, by omega, ?_, fun ho => ?_, rfl⟩
        ·rcases ha with rfl | h0
         ·exact .inl (by rw [add_lit, Nat.add_assoc])
         ·exact .inr (by omega)
        ·have := hcap ho; omega
     ·cases h
 ·rename_i e cs n sz hun
  cases hl : boundV lo 0 with
  | none => rw [hl] at h; cases h
  | some l =>
   rw [hl] at h
   simp only [Option.bind_some] at h
   cases hh : boundV (some hi) 0 with
   | none => rw [hh] at h; cases h
   | some hh' =>
    rw [hh] at h
    simp only [Option.bind_some] at h
    cases hm : boundV (some mx) 0 with
    | none => rw [hm] at h; cases h
    | some m =>
     rw [hm] at h
     simp only [Option.bind_some] at h
     split at h
     ·rename_i hc
      injection h with h
      subst h
      obtain ⟨hsz, hz, hcl, h0, hlh, hhm, hmn⟩ := hc
      obtain ⟨a, c, rfl, hnc, ha⟩ := VI_isl hp
      obtain ⟨kh, rfl⟩ : ∃ k, hi' = .int k hh' := by
       rcases bound_run (lo := some hi) (lo' := some hi') h2 hh with ⟨e1, _⟩ | ⟨k, e1⟩
       ·cases e1
       ·exact ⟨k, Option.some.inj e1⟩
      obtain ⟨km, rfl⟩ : ∃ k, mx' = .int k m := by
       rcases bound_run (lo := some mx) (lo' := some mx') h3 hm with ⟨e1, _⟩ | ⟨k, e1⟩
       ·cases e1
       ·exact ⟨k, Option.some.inj e1⟩
      have e1 : (0 : Int) ≤ m := by omega
      have e2 : m ≤ (c : Int) := by omega
      have e3 : (0 : Int) ≤ hh' := by omega
      have e4 : hh' ≤ (m.toNat : Int) := by omega
      have e5 : l ≤ (hh'.toNat : Int) := by omega
      have hb : (Instr.sliceBounds true n c lo' (some (.int kh hh')) (some (.int km m))).run P W = .ok (l.toNat, hh'.toNat, m.toNat) W := by
       rcases bound_run h1 hl with ⟨rfl, rfl⟩ | ⟨k', rfl⟩
       ·simp only [Instr.sliceBounds, Instr.sliceBound, asIntOf, Sem.run_bind, Sem.run_pure, Result.andThen_ok, Sem.run_ite, e1, e2, e3, e4, and_self, if_true]
        rfl
       ·simp only [Instr.sliceBounds, Instr.sliceBound, asIntOf, Sem.run_bind, Sem.run_pure, Result.andThen_ok, Sem.run_ite, e1, e2, e3, e4, h0, e5, and_self, if_true]
      refine ⟨.slice (if m.toNat = l.toNat then some a else some (a.add (l.toNat * sz))) (hh'.toNat - l.toNat) (m.toNat - l.toNat), W, ρ, ?_, ?_, Step.refl hR⟩
      ·simp only [Instr.sliceAt, Instr.slice, run_underlying hun, Sem.run_bind, Result.andThen_ok, hb, run_szOf hsz]
       simp
      ·by_cases hne : hh'.toNat - l.toNat = 0
       ·rw [hne, Nat.zero_mul, List.take_zero]
        split
        ·exact isl_VI0 (by omega)
        ·exact isl_VI0 (by omega)
       ·have hcs : cs ≠ [] := by
         rintro rfl
         simp only [List.length_nil] at hcl
         rcases Nat.mul_eq_zero.1 hcl.symm with e1 | e1 <;> omega
        obtain ⟨blk, base, C, rfl, k1, k2⟩ := ha.resolve_left hcs
        rw [if_neg (by omega), add_lit]
        exact isl_VI (by omega) k1 (VIs_seg k2)
     ·cases h
 ·cases h
theorem src_sim (hR : Rel P b0 ρ H W) {x : V} {u : Value} {ys : List V} {m sz : Nat} (hx : VR ρ x u) (h : srcCells H x = some (ys, m)) (hl : ys.length = m * sz) :
  ∃ us, VL (VC ρ) ys us ∧ (Builtin.lenOf u = pure m) ∧ ∀ W1 : World, W1.heap = W.heap → (Builtin.firstCells sz m u).run P W1 = .ok us.toArray W1 := by
 unfold srcCells at h
 split at h
 ·simp only [Option.some.injEq, Prod.mk.injEq] at h
  obtain ⟨rfl, rfl⟩ := h
  have hx' : u = .slice none 0 0 := hx
  subst hx'
  exact ⟨[], trivial, rfl, fun W1 _ => by simp [Builtin.firstCells]⟩
 ·rename_i id g off n sz' cp
  cases hr : getRow H id g with
  | none => rw [hr] at h; cases h
  | some r =>
   rw [hr] at h
   simp only [Option.bind_some] at h
   split at h
   ·rename_i hfit
    simp only [Option.some.injEq, Prod.mk.injEq] at h
    obtain ⟨rfl, rfl⟩ := h
    obtain ⟨l, a, c, hloc, rfl, hnc, ha, _, _⟩ := hx
    obtain ⟨C, t, fr, hC, hcr, _⟩ := row_at hR hr hloc
    obtain ⟨s1, s2, s3⟩ := hcr.seg hfit
    refine ⟨_, s1, rfl, fun W1 hW1 => ?_⟩
    have hlen : ((C.toList.drop (l.base + off)).take (n * sz')).length = n * sz := by rw [← s1.length, hl]
    have := run_firstCells_some (P := P) W1 sz n a n c _ hlen (fun j v hj => by
     have hlt := (List.getElem?_eq_some_iff.1 hj).1
     rw [hlen] at hlt
     have hn : n ≠ 0 := fun e => by subst e; simp at hlt
     rcases ha with rfl | h0
     ·rw [add_lit]
      rw [List.getElem?_take] at hj
      split at hj
      ·rw [List.getElem?_drop] at hj
       have hC1 : W1.heap[l.blk]? = some (.cells C t fr) := by rw [hW1]; exact hC
       simpa [World.cell?, hC1] using hj
      ·cases hj
     ·omega)
    exact this
   ·cases h
 ·rename_i s
  simp only [Option.some.injEq, Prod.mk.injEq] at h
  obtain ⟨rfl, rfl⟩ := h
  have hx' : u = .string ⟨s.toArray⟩ := hx
  subst hx'
  refine ⟨s.map fun b => .int .u8 b.toNat, VL.map _ _ (fun b => rfl) s, ?_, fun W1 _ => ?_⟩
  ·show (pure (⟨s.toArray⟩ : ByteArray).size : Sem Nat) = _
   congr 1
  ·simp only [Builtin.firstCells, Sem.run_pure]
   congr 1
   rw [ByteArray.data_extract]
   apply Array.ext'
   simp [List.extract_eq_take_drop]
 ·rename_i cs n sz'
  split at h
  ·rename_i hfit
   simp only [Option.some.injEq, Prod.mk.injEq] at h
   obtain ⟨rfl, rfl⟩ := h
   obtain ⟨a, c, rfl, hnc, ha⟩ := VI_isl hx
   by_cases hcs : cs = []
   ·subst hcs
    refine ⟨[], trivial, rfl, fun W1 hW1 => ?_⟩
    exact run_firstCells_some (P := P) W1 sz n a n c [] (by simpa using hl) (fun j v hj => by simp at hj)
   ·obtain ⟨blk, base, C, rfl, k1, k2⟩ := ha.resolve_left hcs
    obtain ⟨⟨C, t, fr, hC, hsub⟩, _⟩ := hR.imm _ _ k1
    have hcr := VIs_rel (k2.sub hsub)
    obtain ⟨s1, s2, s3⟩ := hcr.seg (off := 0) (n := cs.length) (by simp)
    rw [List.drop_zero, List.take_length] at s1
    refine ⟨_, s1, rfl, fun W1 hW1 => ?_⟩
    have hlen : ((C.toList.drop (base + 0)).take cs.length).length = n * sz := by rw [← s1.length, hl]
    exact run_firstCells_some (P := P) W1 sz n ⟨blk, base, none⟩ n c _ hlen (fun j v hj => by
     rw [add_lit]
     rw [List.getElem?_take] at hj
     split at hj
     ·rw [List.getElem?_drop] at hj
      have hC1 : W1.heap[blk]? = some (.cells C t fr) := by rw [hW1]; exact hC
      simpa [World.cell?, hC1] using hj
     ·cases hj)
  ·cases h
 ·cases h
theorem elem_facts {e : TypeId} {sz by_ : Nat} {z : V} (h1 : szOf P e = some sz) (h2 : bytesOf' P e = some by_) (h3 : zeroV P e = some z) : ∃ i u, P.info? e = some i ∧ i.size = sz ∧ i.bytes = by_ ∧ i.zero = some u ∧ z = ofVal u := by
 unfold szOf at h1
 unfold bytesOf' at h2
 unfold zeroV at h3
 cases hi : P.info? e with
 | none => rw [hi] at h1; cases h1
 | some i =>
  rw [hi] at h1 h2 h3
  simp at h1 h2 h3
  obtain ⟨u, hu, rfl⟩ := h3
  exact ⟨i, u, rfl, h1, h2, hu, rfl⟩
theorem ofVal_cells_length (u : Value) : (ofVal u).cells.length = u.cells.size := by
 unfold ofVal
 split
 ·simp [V.cells, Value.cells]
 ·rename_i hn
  have e : u.cells = #[u] := by unfold Value.cells; split <;> first | rfl | exact absurd rfl (hn _)
  have e2 : (ofCell u).cells = [ofCell u] := by unfold V.cells; split <;> first | rfl | exact absurd ‹_› ((ofCell_not u).1 _)
  rw [e, e2]
  rfl
theorem run_grow {t t1 ty e : TypeId} {d1 : TypeDesc} {sz by_ : Nat} {z : V} (ht : P.underlying t = some (.slice e)) (ht1 : P.underlying t1 = some d1) (hd1 : ∀ k, d1 ≠ .int k)
  (h1 : szOf P e = some sz) (h2 : bytesOf' P e = some by_) (h3 : zeroV P e = some z) (hzs : z.cells.length = sz)
  (base : Option Addr) (n cap m : Nat) (ux : Value) (olds news : List Value) (hlo : olds.length = n * sz) (hln : news.length = m * sz)
  (hlen : Builtin.lenOf ux = pure m) (hnews : (Builtin.firstCells sz m ux).run P W.drew = .ok news.toArray W.drew) (holds : (Builtin.firstCells sz n (.slice base n cap)).run P W.drew = .ok olds.toArray W.drew)
  (hg : cap < n + m) (hb : (n + m) * by_ ≤ 2 ^ 40) (hb2 : n + m ≤ 2 ^ 40) :
  ∃ c, n + m ≤ c ∧ ∃ C : Array Value, C.size = c * sz ∧ C.toList.take ((n + m) * sz) = olds ++ news ∧
   (Builtin.append_ #[t, t1] ty #[.slice base n cap, ux]).run P W = .ok (.slice (some ⟨W.heap.size, 0, none⟩) (n + m) c) (W.drew.alloc (.cells C e)) := by
 obtain ⟨i, u, hi, rfl, rfl, hz, rfl⟩ := elem_facts h1 h2 h3
 have hn : ¬ (n + m ≤ cap) := by omega
 have h63 : ¬ ((9223372036854775807 : Int) < ((n : Int) + (m : Int))) := by omega
 have h48 : ¬ (281474976710656 < Builtin.nextslicecap (n + m) cap * i.bytes) := by
  have := growslice_fits (need := n + m) (old := cap) (bytes := i.bytes) (by omega) (by omega)
  omega
 have hge := grownCap_ge W (n + m) cap e
 rw [ofVal_cells_length] at hzs
 have hzsz : (Builtin.zeroCells u.cells (grownCap W (n + m) cap e - (n + m))).size = (grownCap W (n + m) cap e - (n + m)) * i.size := by rw [size_zeroCells, hzs]
 refine ⟨grownCap W (n + m) cap e, hge, olds.toArray ++ news.toArray ++ Builtin.zeroCells u.cells (grownCap W (n + m) cap e - (n + m)), ?_, ?_, ?_⟩
 ·rw [Array.size_append, Array.size_append, hzsz, List.size_toArray, List.size_toArray, hlo, hln, ← Nat.add_mul, ← Nat.add_mul]
  congr 1
  omega
 ·have : (olds ++ news).length = (n + m) * i.size := by rw [List.length_append, hlo, hln, ← Nat.add_mul]
  rw [Array.toList_append, Array.toList_append]
  rw [← this]
  exact List.take_left
 ·have hlen2 : ∀ w : World, (Builtin.lenOf ux).run P w = .ok m w := fun w => by rw [hlen]; rfl
  have hc : (Question.appendCap (n + m) cap e).cut (W.tape W.drawn (.appendCap (n + m) cap e)) = grownCap W (n + m) cap e := rfl
  have hd : ({ W with drawn := W.drawn + 1 } : World) = W.drew := rfl
  simp [Builtin.append_, run_underlying ht, run_underlying ht1, sizeOf, typeInfo, zeroValue, hi, hz, hlen2, hn, h63, h48, Question.forced, hc, hnews, holds, newRow]
  congr 2
  apply Array.ext'
  simp
theorem run_room {t t1 ty e : TypeId} {d1 : TypeDesc} {sz : Nat} (ht : P.underlying t = some (.slice e)) (ht1 : P.underlying t1 = some d1) (hd1 : ∀ k, d1 ≠ .int k)
  (h1 : szOf P e = some sz) (a : Addr) (n cap m : Nat) (ux : Value) (news : List Value) (hlen : Builtin.lenOf ux = pure m) (hnews : (Builtin.firstCells sz m ux).run P W = .ok news.toArray W)
  (hg : n + m ≤ cap) {W' : World} (hst : (storeCells (a.add (n * sz)) news).run P W = .ok () W') :
  (Builtin.append_ #[t, t1] ty #[.slice (some a) n cap, ux]).run P W = .ok (.slice (some a) (n + m) cap) W' := by
 have hlen2 : ∀ w : World, (Builtin.lenOf ux).run P w = .ok m w := fun w => by rw [hlen]; rfl
 simp [Builtin.append_, run_underlying ht, run_underlying ht1, run_szOf h1, hlen2, hg, hnews, hst]
theorem run_room_none {t t1 ty e : TypeId} {d1 : TypeDesc} {sz : Nat} (ht : P.underlying t = some (.slice e)) (ht1 : P.underlying t1 = some d1) (hd1 : ∀ k, d1 ≠ .int k)
  (h1 : szOf P e = some sz) (ux : Value) (news : List Value) (hlen : Builtin.lenOf ux = pure 0) (hnews : (Builtin.firstCells sz 0 ux).run P W = .ok news.toArray W) :
  (Builtin.append_ #[t, t1] ty #[.slice none 0 0, ux]).run P W = .ok (.slice none 0 0) W := by
 have hlen2 : ∀ w : World, (Builtin.lenOf ux).run P w = .ok 0 w := fun w => by rw [hlen]; rfl
 simp [Builtin.append_, run_underlying ht, run_underlying ht1, run_szOf h1, hlen2, hnews]
end
end Go.An
namespace Go.An
open Go
section
variable {P : Program} {b0 : Nat} {ρ : Ren} {H : Hp} {W : World}
theorem cells_take {cs : List V} {us : List Value} {C : Array Value} {k : Nat} (h : VL (VC ρ) cs us) (h1 : ∀ u ∈ us, u.oneCell' = true) (hk : C.toList.take k = us) : CellsRel ρ cs C 0 := by
 intro j v hj
 obtain ⟨u, hu, r⟩ := h.get j hj
 refine ⟨u, ?_, r, h1 u (List.mem_of_getElem? hu)⟩
 rw [← hk, List.getElem?_take] at hu
 split at hu
 ·rw [Nat.zero_add]; simpa using hu
 ·cases hu
theorem tokAt_some {id n : Nat} (h : tokAt H id = some n) : H[id]? = some (.tok n) := by
 unfold tokAt at h
 split at h
 ·injection h with h; subst h; assumption
 ·cases h
theorem VIs_app {m : Nat → Option (Array Value)} {xs ys : List V} {C : Array Value} {i : Nat} (h : VIs m xs C i) (k : VIs m ys C (i + xs.length)) : VIs m (xs ++ ys) C i := by
 refine VIs_iff.2 fun j v hv => ?_
 rw [List.getElem?_append] at hv
 split at hv
 ·exact VIs_iff.1 h j v hv
 ·obtain ⟨u, h1, h2⟩ := VIs_iff.1 k _ v hv
  exact ⟨u, by rw [← h1]; congr 1; omega, h2⟩
theorem Rel.growT (hR : Rel P b0 ρ H W) {id n0 n1 : Nat} {l : Loc} {C A : Array Value} {t : TypeId} {fr : Nat × Nat} {W' : World}
  (hid : H[id]? = some (.tok n0)) (hn : n0 < n1) (hblk : (0 < n0 ∧ ∃ l', ρ id n0 = some l' ∧ l'.blk = l.blk) ∨ W.heap.size ≤ l.blk) (hown : l.own = true) (hb0 : b0 ≤ l.blk)
  (hW : ∀ k, k < W.heap.size → k ≠ l.blk → W'.heap[k]? = W.heap[k]?) (hsize : W.heap.size ≤ W'.heap.size) (hos : W'.os = W.os) (htape : W'.tape = W.tape) (hout : W'.output = W.output)
  (hA : W'.heap[l.blk]? = some (.cells A t fr)) (hfr : frOk fr A.size) (htot : A.size = l.tot) (hsub : Sub C A) (hC : C.size = n1) (hold : ∀ C0, ρ.m l.blk = some C0 → Sub C0 C) :
  ∃ ρ', Step P b0 ρ ρ' H (H.set id (.tok n1)) W W' ∧ ρ' id n1 = some l ∧ ρ'.m l.blk = some C := by
 have hlt : id < H.length := (List.getElem?_eq_some_iff.1 hid).1
 have := hR.updG (W' := W') id (.tok n1) l (fun k => if k = l.blk then some C else ρ.m k) (by omega) (fun b' hb' => by rw [hid] at hb'; injection hb' with hb'; subst hb'; exact Nat.le_of_lt hn) (.inl (hR.gen id _ n1 hid hn))
  (hblk.imp (fun ⟨h0, l', h1, h2⟩ => ⟨_, l', hid, h1, (hR.at_ hid h1).2.1, h2⟩) (fun h => h))
  (fun k C0 hk => by
   by_cases e : k = l.blk
   ·subst e; exact ⟨C, if_pos rfl, hold C0 hk⟩
   ·exact ⟨C0, (if_neg e).trans hk, .refl _⟩)
  (fun k hk => if_neg hk) (fun C0 h0 => by
   rw [if_pos rfl] at h0
   injection h0 with h0
   subst h0
   exact ⟨rfl, ⟨A, t, fr, hA, hsub⟩, hC⟩)
  hW hsize hos htape hout ⟨by omega, hown, hb0, ⟨A, t, fr, hA, hfr, htot⟩, C, if_pos rfl⟩
 rw [updH_set hlt] at this
 exact ⟨_, this, renM_same _ _ _ _ _, if_pos rfl⟩
theorem Sub_push {C A : Array Value} {us : List Value} {k : Nat} (hs : Sub C A) (hk : C.size = k) (hA : k + us.length ≤ A.size) : Sub (C.toList ++ us).toArray (A.toList.take k ++ us ++ A.toList.drop (k + us.length)).toArray := by
 intro i u h
 simp only [List.getElem?_toArray] at h ⊢
 rw [get_set3 _ _ _ _ (by simp; omega)]
 rw [List.getElem?_append] at h
 split at h
 ·rename_i hi
  simp at hi
  rw [if_pos (by omega)]
  have := hs i u (by simpa using h)
  simpa using this
 ·rename_i hi
  simp at hi h
  have hlt := (List.getElem?_eq_some_iff.1 h).1
  rw [if_neg (by omega), if_pos (by omega)]
  rw [← hk]
  exact h
theorem append_sim (hR : Rel P b0 ρ H W) {t t1 ty : TypeId} {d1 : TypeDesc} {s x v : V} {us ux : Value} {H' : Hp} (hs : VR ρ s us) (hx : VR ρ x ux) (ht1 : P.underlying t1 = some d1) (hd1 : ∀ k, d1 ≠ .int k)
  (h : appendV P t H s x = some (v, H')) : Out P b0 ρ H W ((Builtin.append_ #[t, t1] ty #[us, ux]).run P W) v H' := by
 unfold appendV at h
 split at h
 case h_2 => cases h
 rename_i e ht
 cases hsz : szOf P e with
 | none => rw [hsz] at h; cases h
 | some sz =>
 cases hby : bytesOf' P e with
 | none => rw [hsz, hby] at h; cases h
 | some by_ =>
 cases hz : zeroV P e with
 | none => rw [hsz, hby, hz] at h; cases h
 | some z =>
 cases hsrc : srcCells H x with
 | none => rw [hsz, hby, hz, hsrc] at h; cases h
 | some q =>
 obtain ⟨ys, m⟩ := q
 rw [hsz, hby, hz, hsrc] at h
 simp only [Option.bind_some] at h
 split at h
 case isFalse => cases h
 rename_i hc
 obtain ⟨hsz0, hzl, hyl, hall⟩ := hc
 obtain ⟨news, hnv, hlen, hfirst⟩ := src_sim (P := P) hR hx hsrc hyl
 have hnl : news.length = m * sz := by rw [← hnv.length, hyl]
 have hone := VL.cells' hnv hall
 split at h
 ·
  split at h
  ·rename_i hm
   subst hm
   simp only [Option.some.injEq, Prod.mk.injEq] at h
   obtain ⟨rfl, rfl⟩ := h
   have hn0 : news = [] := List.eq_nil_of_length_eq_zero (by simpa using hnl)
   subst hn0
   obtain ⟨a, c, rfl, hnc, ha⟩ := VI_isl hs
   exact ⟨_, W, ρ, run_room (W' := W) ht ht1 hd1 hsz a _ c 0 ux [] hlen (hfirst W rfl) (by omega) rfl, hs, Step.refl hR⟩
  ·cases h
 ·
  rename_i id cs n k
  split at h
  ·rename_i hm
   subst hm
   simp only [Option.some.injEq, Prod.mk.injEq] at h
   obtain ⟨rfl, rfl⟩ := h
   have hn0 : news = [] := List.eq_nil_of_length_eq_zero (by simpa using hnl)
   subst hn0
   have hs0 := hs
   rcases hs with ⟨_, _, rfl⟩ | ⟨_, _, _, l, c, C, _, rfl, hnc, _⟩
   ·exact ⟨_, W, ρ, run_room_none ht ht1 hd1 hsz ux [] hlen (hfirst W rfl), hs0, Step.refl hR⟩
   ·exact ⟨_, W, ρ, run_room (W' := W) ht ht1 hd1 hsz _ n c 0 ux [] hlen (hfirst W rfl) (by omega) rfl, hs0, Step.refl hR⟩
  ·rename_i hm
   split at h
   case isFalse => cases h
   rename_i hc
   obtain ⟨hk, htk, hyi, hb1, hb2⟩ := hc
   simp only [Option.some.injEq, Prod.mk.injEq] at h
   obtain ⟨rfl, rfl⟩ := h
   have htk := tokAt_some htk
   have hyn : ys.length = news.length := by rw [hyl, hnl]
   have hmsz : 0 < m * sz := Nat.mul_pos (by omega) hsz0
   have fresh : ∀ (olds : List Value) (ua : Option Addr) (c : Nat), olds.length = n * sz → cs.length = n * sz → c < n + m → (Builtin.firstCells sz n (.slice ua n c)).run P W.drew = .ok olds.toArray W.drew → VL (VC ρ) cs olds → (∀ u ∈ olds, u.oneCell' = true) → immL cs = true →
     Out P b0 ρ H W ((Builtin.append_ #[t, t1] ty #[.slice ua n c, ux]).run P W) (.osl id (cs ++ ys) (n + m) sz) (H.set id (.tok (cs.length + ys.length))) := by
    intro olds ua c hol hcl hg hof hov hoo hci
    obtain ⟨c', hcm, A, hAs, htake, hrun⟩ := run_grow (W := W) (ty := ty) ht ht1 hd1 hsz hby hz hzl ua n c m ux olds news hol hnl hlen (hfirst W.drew rfl) hof hg hb1 hb2
    have hmul : (n + m) * sz ≤ c' * sz := Nat.mul_le_mul_right _ hcm
    have e1 : (n + m) * sz = n * sz + m * sz := Nat.add_mul _ _ _
    obtain ⟨ρ', hst, h1, h2⟩ := hR.growT (W' := W.drew.alloc (.cells A e)) (id := id) (n0 := cs.length) (n1 := cs.length + ys.length) (l := ⟨W.heap.size, 0, A.size, true⟩) (C := (olds ++ news).toArray) (A := A) (t := e) (fr := (0, 0)) htk (by omega) (.inr (Nat.le_refl _)) rfl hR.size
     (fun k hk _ => heap_alloc_old W.drew (Obj.cells A e) (r := k) hk) (by simp) rfl rfl rfl (heap_alloc_new W.drew _) (frOk0 _) rfl
     (fun i u hi => by
      have hi' : (olds ++ news)[i]? = some u := by simpa using hi
      rw [← htake, List.getElem?_take] at hi'
      split at hi'
      ·simpa using hi'
      ·cases hi') (by simp; omega) (fun C0 h0 => by
      obtain ⟨⟨A0, t0, fr0, h1, _⟩, _⟩ := hR.imm _ _ h0
      have := (Array.getElem?_eq_some_iff.1 h1).1
      exact absurd this (Nat.lt_irrefl _))
    have hcr : CellsRel ρ (cs ++ ys) ([] ++ (olds ++ news) ++ []).toArray 0 := CellsRel.of (hov.append hnv) (fun u hu => (List.mem_append.1 hu).elim (hoo u) (hone u)) []
    have hii : immL (cs ++ ys) = true := immL_iff.2 fun v hv => (List.mem_append.1 hv).elim (immL_iff.1 hci v) (immL_iff.1 hyi v)
    rw [List.nil_append, List.append_nil] at hcr
    refine ⟨_, _, ρ', hrun, .inr ⟨by omega, by simp; omega, hii, _, c', _, ?_, rfl, hcm, hAs.symm, h2, VIs_of hii (hcr.mono hst.le)⟩, hst⟩
    rw [List.length_append]
    exact h1
   have hs0 := hs
   rcases hs with ⟨rfl, rfl, rfl⟩ | ⟨h0, hcl, hci, l, c, C, hloc, rfl, hnc, hct, hm1, hvi⟩
   ·exact fresh [] none 0 (by simp) (by simp) (by omega) (by simp [Builtin.firstCells]) trivial (by simp) rfl
   ·obtain rfl : k = sz := hk.resolve_left (by omega)
    have hv : VR ρ (.isl cs n k) (.slice (some ⟨l.blk, 0, none⟩) n c) := isl_VI hnc hm1 hvi
    have hself : srcCells H (.isl cs n k) = some (cs, n) := by simp [srcCells, hcl]
    obtain ⟨olds, hov, _, hofirst⟩ := src_sim (P := P) hR hv hself hcl
    have hol : olds.length = n * k := by rw [← hov.length, hcl]
    have hoo := VL.cells' hov (immL_cells hci)
    have e1 : (n + m) * k = n * k + m * k := Nat.add_mul _ _ _
    by_cases hroom : n + m ≤ c
    ·obtain ⟨_, hlo, hlb, ⟨A, t0, fr0, hA, hfr, htot⟩, _⟩ := hR.at_ htk hloc
     have hCs := hR.tok _ _ _ _ htk hloc hm1
     have hmul : (n + m) * k ≤ c * k := Nat.mul_le_mul_right _ hroom
     have hsub : Sub C A := by
      obtain ⟨⟨A', t', fr', h1, h2⟩, _⟩ := hR.imm _ _ hm1
      rw [hA] at h1
      injection h1 with h1
      injection h1 with h1
      exact h1 ▸ h2
     have hst := run_storeF (P := P) (g := l.blk) (o := n * k) (t := t0) (fr := fr0) news 0 A W hA hfr (by omega) hone
     have hrun := run_room (ty := ty) ht ht1 hd1 hsz ⟨l.blk, 0, none⟩ n c m ux news hlen (hfirst W rfl) hroom (by rw [add_lit, Nat.zero_add]; exact hst)
     simp only [Nat.add_zero] at hrun
     rw [← hcl] at hrun
     have hsub2 := Sub_push (us := news) hsub hCs (by omega)
     obtain ⟨ρ', hstep, h1, h2⟩ := hR.growT (W' := W.setRow l.blk (A.toList.take cs.length ++ news ++ A.toList.drop (cs.length + news.length)).toArray) (id := id) (n0 := cs.length) (n1 := cs.length + ys.length) (l := l) htk (by omega) (.inl ⟨by omega, l, hloc, rfl⟩) hlo hlb
      (fun k _ hk => setRow_other W l.blk k _ hk) (by simp) rfl rfl rfl (setRow_heap W _ _ _ _ _ hA) (hfr.elim .inl (fun h => .inr (by simp; omega))) (by simp; omega) hsub2 (by simp; omega)
      (fun C0 h0 => by
       rw [hm1] at h0
       injection h0 with h0
       subst h0
       intro i u hi
       have hlt := (Array.getElem?_eq_some_iff.1 hi).1
       simp only [List.getElem?_toArray]
       rw [List.getElem?_append_left (by simpa using hlt)]
       simpa using hi)
     have hii : immL (cs ++ ys) = true := immL_iff.2 fun v hv => (List.mem_append.1 hv).elim (immL_iff.1 hci v) (immL_iff.1 hyi v)
     refine ⟨_, _, ρ', hrun, .inr ⟨by omega, by simp; omega, hii, l, c, _, ?_, rfl, hroom, hct, h2, ?_⟩, hstep⟩
     ·rw [List.length_append]; exact h1
     ·refine VIs_app (hvi.mono hstep.le.m fun i u hi => ?_) ?_
      ·have hlt := (Array.getElem?_eq_some_iff.1 hi).1
       simp only [List.getElem?_toArray]
       rw [List.getElem?_append_left (by simpa using hlt)]
       simpa using hi
      ·have hcr : CellsRel ρ ys (C.toList ++ news ++ []).toArray C.toList.length := CellsRel.of hnv hone C.toList
       rw [List.append_nil] at hcr
       have := VIs_of hyi (hcr.mono hstep.le)
       rwa [show C.toList.length = 0 + cs.length by simp; omega] at this
    ·exact fresh olds (some ⟨l.blk, 0, none⟩) c hol hcl (by omega) (hofirst W.drew rfl) hov hoo hci
 ·
  have hs' : us = .slice none 0 0 := hs
  subst hs'
  split at h
  ·rename_i hm
   subst hm
   simp only [Option.some.injEq, Prod.mk.injEq] at h
   obtain ⟨rfl, rfl⟩ := h
   exact ⟨_, W, ρ, run_room_none ht ht1 hd1 hsz ux news hlen (hfirst W rfl), rfl, Step.refl hR⟩
  ·rename_i hm
   split at h
   ·rename_i hb
    simp only [Option.some.injEq, Prod.mk.injEq] at h
    obtain ⟨rfl, rfl⟩ := h
    obtain ⟨c, hcm, C, hCs, htake, hrun⟩ := run_grow (W := W) (ty := ty) ht ht1 hd1 hsz hby hz hzl none 0 0 m ux [] news (by simp) hnl hlen (hfirst W.drew rfl) (by simp [Builtin.firstCells]) (by omega) (by rw [Nat.zero_add]; exact hb.1) (by omega)
    rw [Nat.zero_add] at hcm hrun htake
    have hcr : CellsRel ρ ys C 0 := cells_take hnv hone htake
    have hst := hR.push (W' := W.drew.alloc (.cells C e)) hcr (frOk0 _) (by rw [hyl, hCs]; exact Nat.mul_le_mul_right _ hcm) (t := e) (fr := (0, 0)) rfl rfl rfl rfl
    refine ⟨_, _, _, hrun, ⟨_, ⟨W.heap.size, 0, none⟩, c, renAdd_same _ _ _ _, rfl, hcm, .inl rfl, fun _ => ?_, ⟨rfl, ?_⟩⟩, hst⟩
    ·show 0 + 0 + c * sz ≤ C.size; omega
    ·show 0 + 0 + c * sz = C.size; omega
   ·cases h
 ·rename_i id g off n sz' cp
  cases hr : getRow H id g with
  | none => rw [hr] at h; cases h
  | some r =>
  rw [hr] at h
  simp only [Option.bind_some] at h
  split at h
  case isFalse => cases h
  rename_i hc
  obtain ⟨hss, hb1, hb2, hfit⟩ := hc
  subst hss
  have hs0 := hs
  obtain ⟨l, a, c, hloc, hus, hnc, ha, hcap, hcp⟩ := hs
  split at h
  ·
   rename_i hm
   subst hm
   simp only [Option.some.injEq, Prod.mk.injEq] at h
   obtain ⟨rfl, rfl⟩ := h
   have hn0 : news = [] := List.eq_nil_of_length_eq_zero (by simpa using hnl)
   subst hn0
   subst hus
   refine ⟨_, W, ρ, run_room (W' := W) ht ht1 hd1 hsz a n c 0 ux [] hlen (hfirst W rfl) (by omega) rfl, ?_, Step.refl hR⟩
   exact ⟨l, a, c, hloc, rfl, by omega, ha, hcap, hcp⟩
  ·rename_i hm
   have hself : srcCells H (.slice id g off n sz' cp) = some ((r.1.drop off).take (n * sz'), n) := by
    simp only [srcCells, hr, Option.bind_some]
    rw [if_pos hfit]
   have hol : ((r.1.drop off).take (n * sz')).length = n * sz' := by simp; omega
   obtain ⟨olds, hov, holen, hofirst⟩ := src_sim (P := P) hR hs0 hself hol
   have holl : olds.length = n * sz' := by rw [← hov.length, hol]
   have hseg := row_at hR hr hloc
   obtain ⟨C0, t0, fr0, hC0, hcr0, hown0⟩ := hseg
   subst hus
   have hoone : ∀ u ∈ olds, u.oneCell' = true := by
    obtain ⟨s1, _, s3⟩ := hcr0.seg hfit
    intro u hu
    have e1 := hofirst W rfl
    obtain ⟨s1, _, s3⟩ := hcr0.seg hfit
    have hl2 : ((C0.toList.drop (l.base + off)).take (n * sz')).length = n * sz' := by rw [← s1.length, hol]
    have e2 := run_firstCells_some (P := P) W sz' n a n c _ hl2 (fun j v hj => by
     have hlt := (List.getElem?_eq_some_iff.1 hj).1
     rw [hl2] at hlt
     have hn : n ≠ 0 := fun e => by subst e; simp at hlt
     rcases ha with rfl | h0
     ·rw [add_lit]
      rw [List.getElem?_take, if_pos hlt, List.getElem?_drop] at hj
      simpa [World.cell?, hC0] using hj
     ·omega)
    rw [e2] at e1
    injection e1 with e1 _
    have e3 : olds = (C0.toList.drop (l.base + off)).take (n * sz') := by
     have := congrArg Array.toList e1
     simpa using this.symm
    exact s3 u (e3 ▸ hu)
   have grow : c < n + m → ∃ c', n + m ≤ c' ∧ ∃ C : Array Value, C.size = c' * sz' ∧ C.toList.take ((n + m) * sz') = olds ++ news ∧
     (Builtin.append_ #[t, t1] ty #[.slice (some a) n c, ux]).run P W = .ok (.slice (some ⟨W.heap.size, 0, none⟩) (n + m) c') (W.drew.alloc (.cells C e)) :=
    fun hg => run_grow (W := W) (ty := ty) ht ht1 hd1 hsz hby hz hzl (some a) n c m ux olds news holl hnl hlen (hfirst W.drew rfl) (hofirst W.drew rfl) hg hb1 hb2
   have hon : ∀ u ∈ olds ++ news, u.oneCell' = true := fun u hu => (List.mem_append.1 hu).elim (hoone u) (hone u)
   split at h
   ·
    rename_i k
    split at h
    ·rename_i hk
     subst hk
     simp only [Option.some.injEq, Prod.mk.injEq] at h
     obtain ⟨rfl, rfl⟩ := h
     have hck : c = k := hcp
     obtain ⟨c', hcm, C, hCs, htake, hrun⟩ := grow (by omega)
     have hcr : CellsRel ρ ((r.1.drop off).take (k * sz') ++ ys) C 0 := cells_take (hov.append hnv) hon htake
     have hst := hR.push (W' := W.drew.alloc (.cells C e)) hcr (frOk0 _) (by rw [List.length_append, hol, hyl, hCs, ← Nat.add_mul]; exact Nat.mul_le_mul_right _ hcm) (t := e) (fr := (0, 0)) rfl rfl rfl rfl
     refine ⟨_, _, _, hrun, ⟨_, ⟨W.heap.size, 0, none⟩, c', renAdd_same _ _ _ _, rfl, hcm, .inl rfl, fun _ => ?_, ⟨rfl, ?_⟩⟩, hst⟩
     ·show 0 + 0 + c' * sz' ≤ C.size; omega
     ·show 0 + 0 + c' * sz' = C.size; omega
    ·cases h
   ·
    split at h
    case isFalse => cases h
    rename_i hr2
    obtain ⟨hid, hlo, hlb, C1, t1', fr1, hC1, hcr1, hfr1, hCs1, hlt1⟩ := row_own hR hr hr2 hloc
    obtain ⟨_, hcp⟩ := hcp
    split at h
    ·
     rename_i hA
     simp only [Option.some.injEq, Prod.mk.injEq] at h
     obtain ⟨rfl, rfl⟩ := h
     have hmul : (n + m) * sz' ≤ c * sz' := by omega
     have hroom : n + m ≤ c := Nat.le_of_mul_le_mul_right hmul hsz0
     have ha := ha.resolve_right (by omega)
     subst ha
     have e1 : (n + m) * sz' = n * sz' + m * sz' := Nat.add_mul _ _ _
     have hst := run_storeF (P := P) (g := l.blk) (o := l.base + off + n * sz') (t := t1') (fr := fr1) news 0 C1 W hC1 hfr1 (by omega) hone
     have hrun := run_room (ty := ty) ht ht1 hd1 hsz ⟨l.blk, l.base + off, none⟩ n c m ux news hlen (hfirst W rfl) hroom (by rw [add_lit]; exact hst)
     simp only [Nat.add_zero] at hrun
     have hset := hcr1.set (off := off + n * sz') hnv hone (by omega) (by omega)
     rw [← Nat.add_assoc] at hset
     refine ⟨_, _, ρ, hrun, ⟨l, _, c, hloc, rfl, hroom, .inl rfl, hcap, ⟨hlo, hcp⟩⟩, hR.put hid rfl hloc hset (by simp; omega) (by rw [setAt_length _ _ _ (by omega)]; omega)⟩
    ·split at h
     ·
      rename_i hA hB
      simp only [Option.some.injEq, Prod.mk.injEq] at h
      obtain ⟨rfl, rfl⟩ := h
      have hlt : id < H.length := (List.getElem?_eq_some_iff.1 hid).1
      have htk : (r.1.drop off).take (n * sz') = r.1.drop off := List.take_of_length_le (by simp; omega)
      rw [htk] at hov hol
      have hnone : ρ id (g + 1) = none := hR.gen id _ (g + 1) hid (by simp [AB.gen])
      have e1 : (n + m) * sz' = n * sz' + m * sz' := Nat.add_mul _ _ _
      have hlen2 : (r.1.drop off ++ ys).length = (n + m) * sz' := by rw [List.length_append, hol, hyl, e1]
      by_cases hroom : n + m ≤ c
      ·have ha := ha.resolve_right (by omega)
       subst ha
       have hmul : (n + m) * sz' ≤ c * sz' := Nat.mul_le_mul_right _ hroom
       have hst := run_storeF (P := P) (g := l.blk) (o := l.base + off + n * sz') (t := t1') (fr := fr1) news 0 C1 W hC1 hfr1 (by omega) hone
       have hrun := run_room (ty := ty) ht ht1 hd1 hsz ⟨l.blk, l.base + off, none⟩ n c m ux news hlen (hfirst W rfl) hroom (by rw [add_lit]; exact hst)
       simp only [Nat.add_zero] at hrun
       have hcr : CellsRel ρ (r.1.drop off ++ ys) (C1.toList.take (l.base + off + n * sz') ++ news ++ C1.toList.drop (l.base + off + n * sz' + news.length)).toArray (l.base + off) := by
        intro j v hj
        simp only [List.getElem?_toArray]
        rw [get_set3 _ _ _ _ (by simp; omega)]
        rw [List.getElem?_append] at hj
        split at hj
        ·rename_i hj1
         rw [hol] at hj1
         rw [if_pos (by omega)]
         rw [List.getElem?_drop] at hj
         obtain ⟨u, hu, q⟩ := hcr1 _ _ hj
         exact ⟨u, by rw [← Nat.add_assoc] at hu; simpa using hu, q⟩
        ·rename_i hj1
         rw [hol] at hj1 hj
         obtain ⟨u, hu, q⟩ := hnv.get _ hj
         have hlt := (List.getElem?_eq_some_iff.1 hu).1
         rw [if_neg (by omega), if_pos (by omega)]
         rw [show l.base + off + j - (l.base + off + n * sz') = j - n * sz' from by omega]
         exact ⟨u, hu, q, hone u (List.mem_of_getElem? hu)⟩
       have hup := hR.upd (W' := W.setRow l.blk (C1.toList.take (l.base + off + n * sz') ++ news ++ C1.toList.drop (l.base + off + n * sz' + news.length)).toArray) id (.row (g + 1) (r.1.drop off ++ ys) true) ⟨l.blk, l.base + off, l.tot, true⟩ (by omega)
        (fun b' hb' => by rw [hid] at hb'; injection hb' with hb'; subst hb'; exact ⟨by simp [AB.gen], rfl⟩) (.inl hnone) (.inl ⟨_, l, hid, hloc, hlo, rfl⟩) rfl (fun k _ hk => setRow_other W l.blk k _ hk) (by simp) rfl rfl rfl
        ⟨rfl, _, t1', fr1, setRow_heap W _ _ _ _ _ hC1, hcr.mono (renAdd_le (.inl hnone)), fun _ => ⟨hlb, hfr1.elim .inl (fun h => .inr (by simp; omega)), by simp; omega, by rw [hlen2]; simp; omega⟩, fun e => by cases e⟩
       rw [updH_set hlt] at hup
       refine ⟨_, _, _, hrun, ⟨_, _, c, renAdd_same _ _ _ _, rfl, hroom, .inl (by simp), fun _ => ?_, ⟨rfl, ?_⟩⟩, hup⟩
       ·show l.base + off + 0 + c * sz' ≤ l.tot; omega
       ·show l.base + off + 0 + c * sz' = l.tot; omega
      ·obtain ⟨c', hcm, C, hCs, htake, hrun⟩ := grow (by omega)
       have hcr : CellsRel ρ (r.1.drop off ++ ys) C 0 := cells_take (hov.append hnv) hon htake
       have hmul : (n + m) * sz' ≤ c' * sz' := Nat.mul_le_mul_right _ hcm
       have hup := hR.upd (W' := W.drew.alloc (.cells C e)) id (.row (g + 1) (r.1.drop off ++ ys) true) ⟨W.heap.size, 0, C.size, true⟩ (by omega)
        (fun b' hb' => by rw [hid] at hb'; injection hb' with hb'; subst hb'; exact ⟨by simp [AB.gen], rfl⟩) (.inl hnone) (.inr (Nat.le_refl _)) rfl
        (fun k hk _ => by have := heap_alloc_old W.drew (Obj.cells C e) (r := k) hk; exact this) (by simp) rfl rfl rfl
        ⟨rfl, C, e, (0, 0), heap_alloc_new W.drew _, hcr.mono (renAdd_le (.inl hnone)), fun _ => ⟨hR.size, frOk0 _, rfl, by rw [hlen2]; simp; omega⟩, fun e => by cases e⟩
       rw [updH_set hlt] at hup
       refine ⟨_, _, _, hrun, ⟨_, _, c', renAdd_same _ _ _ _, rfl, hcm, .inl rfl, fun _ => ?_, ⟨rfl, ?_⟩⟩, hup⟩
       ·show 0 + 0 + c' * sz' ≤ C.size; omega
       ·show 0 + 0 + c' * sz' = C.size; omega
     ·cases h
   ·cases h
 ·cases h
theorem immApp_sim (hR : Rel P b0 ρ H W) {t t1 ty : TypeId} {s x v : V} {us ux : Value} (hs : VR ρ s us) (hx : VR ρ x ux)
  (h : immApp P t t1 s x = some v) : Out P b0 ρ H W ((Builtin.append_ #[t, t1] ty #[us, ux]).run P W) v H := by
 unfold immApp at h
 split at h
 case h_2 => cases h
 rename_i e e1 ht ht1
 cases hsz : szOf P e with
 | none => rw [hsz] at h; cases h
 | some sz =>
 cases hby : bytesOf' P e with
 | none => rw [hsz, hby] at h; cases h
 | some by_ =>
 cases hz : zeroV P e with
 | none => rw [hsz, hby, hz] at h; cases h
 | some z =>
 rw [hsz, hby, hz] at h
 simp only [Option.bind_some] at h
 obtain ⟨q, hq, h⟩ := Option.bind_eq_some_iff.1 h
 obtain ⟨ys, m⟩ := q
 have hsrc : srcCells H x = some (ys, m) := by
  cases x <;> simp only [reduceCtorEq] at hq
  ·exact hq
  ·exact hq
 simp only at h
 split at h
 case isFalse => cases h
 rename_i hc
 obtain ⟨hsz0, hzl, hyl, hall, hb1, hb2⟩ := hc
 obtain ⟨news, hnv, hlen, hfirst⟩ := src_sim (P := P) hR hx hsrc hyl
 have hnl : news.length = m * sz := by rw [← hnv.length, hyl]
 have hone := VL.cells' hnv (immL_cells hall)
 split at h
 ·have hs' : us = .slice none 0 0 := hs
  subst hs'
  split at h
  ·rename_i hm
   subst hm
   simp only [Option.some.injEq] at h
   subst h
   exact ⟨_, W, ρ, run_room_none ht ht1 (by simp) hsz ux news hlen (hfirst W rfl), rfl, Step.refl hR⟩
  ·rename_i hm
   simp only [Option.some.injEq] at h
   subst h
   obtain ⟨c, hcm, C, hCs, htake, hrun⟩ := run_grow (W := W) (ty := ty) ht ht1 (by simp) hsz hby hz hzl none 0 0 m ux [] news (by simp) hnl hlen (hfirst W.drew rfl) (by simp [Builtin.firstCells]) (by omega) (by rw [Nat.zero_add]; exact hb1) (by omega)
   rw [Nat.zero_add] at hcm hrun htake
   have hcr : CellsRel ρ ys C 0 := cells_take hnv hone htake
   have hst := hR.pushI (W' := W.drew.alloc (.cells C e)) (C := C) (t := e) (fr := (0, 0)) rfl rfl rfl rfl
   exact ⟨_, _, _, hrun, isl_VI hcm (by simp [renImm]) (VIs_of hall (hcr.mono hst.le)), hst⟩
 ·cases h
end
end Go.An
namespace Go.An
open Go
section
variable {P : Program} {ρ : Ren} {W : World}
theorem eqCells_split : ∀ (k : Nat) (x y : List V), x.length = y.length → eqCells x y = (eqCells (x.take k) (y.take k) && eqCells (x.drop k) (y.drop k))
 | 0, x, y, _ => by simp [eqCells]
 | k + 1, [], [], _ => by simp [eqCells]
 | k + 1, a :: x, b :: y, h => by
  simp only [eqCells, List.take_succ_cons, List.drop_succ_cons]
  rw [eqCells_split k x y (by simpa using h), Bool.and_assoc]
 | k + 1, [], _ :: _, h => by simp at h
 | k + 1, _ :: _, [], h => by simp at h
theorem ckOks_length : ∀ {ks : List CK} {vs : List V}, ckOks ks vs = true → ks.length = vs.length
 | [], [], _ => rfl
 | _ :: ks, _ :: vs, h => by simp only [ckOks, Bool.and_eq_true] at h; simp [ckOks_length h.2]
 | [], _ :: _, h => by simp [ckOks] at h
 | _ :: _, [], h => by simp [ckOks] at h
theorem ckOks_append : ∀ {ks ls : List CK} {vs : List V}, ckOks (ks ++ ls) vs = true → ckOks ks (vs.take ks.length) = true ∧ ckOks ls (vs.drop ks.length) = true
 | [], ls, vs, h => by simpa [ckOks] using h
 | k :: ks, ls, [], h => by simp [ckOks] at h
 | k :: ks, ls, v :: vs, h => by
  simp only [List.cons_append, ckOks, Bool.and_eq_true] at h
  obtain ⟨h1, h2⟩ := ckOks_append h.2
  simp only [List.length_cons, List.take_succ_cons, List.drop_succ_cons, ckOks, Bool.and_eq_true]
  exact ⟨⟨h.1, h1⟩, h2⟩
theorem flatFields_append {flat : TypeId → Option (List CK)} : ∀ {fs : List Field} {acc ks : List CK}, flatFields P flat fs acc = some ks → ∃ r, ks = acc ++ r
 | [], acc, ks, h => by simp only [flatFields, Option.some.injEq] at h; exact ⟨[], by simp [h]⟩
 | f :: fs, acc, ks, h => by
  simp only [flatFields] at h
  cases hk : flat f.type with
  | none => rw [hk] at h; cases h
  | some kf =>
   rw [hk] at h
   simp only [Option.bind_some] at h
   split at h
   ·obtain ⟨r, hr⟩ := flatFields_append h
    exact ⟨kf ++ r, by rw [hr, List.append_assoc]⟩
   ·cases h
def FlatSays (P : Program) (ρ : Ren) (W : World) (D : Nat) (t : TypeId) (ks : List CK) : Prop :=
 ∀ (X Y : Array Value) (xs ys : List V) (off : Nat), VL (VC ρ) xs X.toList → VL (VC ρ) ys Y.toList → off + ks.length ≤ xs.length → off + ks.length ≤ ys.length → szOf P t = some ks.length →
  ckOks ks ((xs.drop off).take ks.length) = true → ckOks ks ((ys.drop off).take ks.length) = true →
  ∃ a b, (part t X off).run P W = .ok a W ∧ (part t Y off).run P W = .ok b W ∧ (Op.equalIn D t a b).run P W = .ok (eqCells ((xs.drop off).take ks.length) ((ys.drop off).take ks.length)) W
theorem fields_eq {flat : TypeId → Option (List CK)} {D : Nat} (hflat : ∀ t ks, flat t = some ks → FlatSays P ρ W D t ks) {X Y : Array Value} {xs ys : List V} (hx : VL (VC ρ) xs X.toList) (hy : VL (VC ρ) ys Y.toList) :
  ∀ (fs : List Field) (acc ks : List CK), flatFields P flat fs acc = some ks → ckOks ks xs = true → ckOks ks ys = true →
   (Op.eqFields D X Y fs).run P W = .ok (eqCells (xs.drop acc.length) (ys.drop acc.length)) W
 | [], acc, ks, h, h1, h2 => by
  simp only [flatFields, Option.some.injEq] at h
  subst h
  rw [List.drop_of_length_le (by rw [ckOks_length h1]; exact Nat.le_refl _), List.drop_of_length_le (by rw [ckOks_length h2]; exact Nat.le_refl _)]
  simp [Op.eqFields, eqCells]
 | f :: fs, acc, ks, h, h1, h2 => by
  simp only [flatFields] at h
  cases hk : flat f.type with
  | none => rw [hk] at h; cases h
  | some kf =>
   rw [hk] at h
   simp only [Option.bind_some] at h
   split at h
   ·rename_i hc
    obtain ⟨hn, ho, hs⟩ := hc
    obtain ⟨r, hr⟩ := flatFields_append h
    have l1 := ckOks_length h1
    have l2 := ckOks_length h2
    have lk : ks.length = acc.length + kf.length + r.length := by rw [hr]; simp; omega
    have c1 : ckOks kf ((xs.drop acc.length).take kf.length) = true := by
     rw [hr, List.append_assoc] at h1
     exact (ckOks_append (ckOks_append h1).2).1
    have c2 : ckOks kf ((ys.drop acc.length).take kf.length) = true := by
     rw [hr, List.append_assoc] at h2
     exact (ckOks_append (ckOks_append h2).2).1
    obtain ⟨a, b, e1, e2, e3⟩ := hflat _ _ hk X Y xs ys acc.length hx hy (by omega) (by omega) hs c1 c2
    have ih := fields_eq hflat hx hy fs (acc ++ kf) ks h h1 h2
    rw [eqCells_split kf.length (xs.drop acc.length) (ys.drop acc.length) (by simp; omega)]
    simp only [Op.eqFields, if_pos hn, Sem.run_bind, ho, e1, e2, e3, Result.andThen_ok]
    generalize eqCells ((xs.drop acc.length).take kf.length) ((ys.drop acc.length).take kf.length) = q
    cases q
    ·simp
    ·simp [ih, List.drop_drop, List.length_append]
   ·cases h
theorem repeatK_length (z : List CK) : ∀ n, (repeatK z n).length = n * z.length
 | 0 => by simp [repeatK]
 | n + 1 => by simp only [repeatK, List.length_append, repeatK_length z n, Nat.succ_mul]; omega
theorem elems_eq {D : Nat} {e : TypeId} {kf : List CK} (hflat : FlatSays P ρ W D e kf) (hs : szOf P e = some kf.length) {X Y : Array Value} {xs ys : List V} (hx : VL (VC ρ) xs X.toList) (hy : VL (VC ρ) ys Y.toList) :
  ∀ (m i : Nat), xs.length = (i + m) * kf.length → ys.length = (i + m) * kf.length → ckOks (repeatK kf m) (xs.drop (i * kf.length)) = true → ckOks (repeatK kf m) (ys.drop (i * kf.length)) = true →
   (forIn (m := Sem) (List.range' i m 1) ((none, ()) : Option Bool × Unit) (fun i _ => do
    let a ← part e X (i * kf.length)
    let b ← part e Y (i * kf.length)
    let r ← Op.equalIn D e a b
    if (!r) = true then pure (ForInStep.done (some false, ())) else do
     pure (ForInStep.yield (none, ())))).run P W = .ok (if eqCells (xs.drop (i * kf.length)) (ys.drop (i * kf.length)) = true then (none, ()) else (some false, ())) W
 | 0, i, h1, h2, _, _ => by
  rw [Nat.add_zero] at h1 h2
  rw [List.drop_of_length_le (by omega), List.drop_of_length_le (by omega)]
  simp [eqCells]
 | m + 1, i, h1, h2, c1, c2 => by
  simp only [repeatK] at c1 c2
  obtain ⟨a1, b1⟩ := ckOks_append c1
  obtain ⟨a2, b2⟩ := ckOks_append c2
  have e0 : (i + (m + 1)) * kf.length = i * kf.length + kf.length + m * kf.length := by rw [Nat.add_mul, Nat.succ_mul]; omega
  obtain ⟨a, b, e1, e2, e3⟩ := hflat X Y xs ys (i * kf.length) hx hy (by omega) (by omega) hs a1 a2
  have e4 : (i + 1) * kf.length = i * kf.length + kf.length := Nat.succ_mul _ _
  have ih := elems_eq hflat hs hx hy m (i + 1) (by rw [h1]; congr 1; omega) (by rw [h2]; congr 1; omega) (by rw [e4, ← List.drop_drop]; exact b1) (by rw [e4, ← List.drop_drop]; exact b2)
  rw [eqCells_split kf.length (xs.drop (i * kf.length)) (ys.drop (i * kf.length)) (by simp; omega)]
  simp only [List.range'_succ, List.forIn_cons, Sem.run_bind, e1, e2, e3, Result.andThen_ok]
  generalize eqCells ((xs.drop (i * kf.length)).take kf.length) ((ys.drop (i * kf.length)).take kf.length) = q
  cases q
  ·simp
  ·simp only [Bool.not_true, Bool.false_eq_true, if_false, Sem.run_pure, Result.andThen_ok, ih, Bool.true_and, e4, ← List.drop_drop]
theorem flat_eq : ∀ (d : Nat) (t : TypeId) (ks : List CK), flatT P d t = some ks → ∀ D, d ≤ D → FlatSays P ρ W D t ks
 | 0, t, ks, h => by simp [flatT] at h
 | d + 1, t, ks, h => by
  intro D hD X Y xs ys off hx hy l1 l2 hs c1 c2
  obtain ⟨D, rfl⟩ : ∃ D', D = D' + 1 := ⟨D - 1, by omega⟩
  have ihd : ∀ t' ks', flatT P d t' = some ks' → FlatSays P ρ W D t' ks' := fun t' ks' h' => flat_eq d t' ks' h' D (by omega)
  have scalar : ∀ (k : CK), aggT P t = some false → ks = [k] → ∃ x y u v, xs[off]? = some x ∧ ys[off]? = some y ∧ X[off]? = some u ∧ Y[off]? = some v ∧ VC ρ x u ∧ VC ρ y v ∧ ckOk k x = true ∧ ckOk k y = true ∧
    (part t X off).run P W = .ok u W ∧ (part t Y off).run P W = .ok v W ∧ (xs.drop off).take ks.length = [x] ∧ (ys.drop off).take ks.length = [y] := by
   intro k ha hk
   subst hk
   simp only [List.length_singleton] at l1 l2
   have g1 : xs[off]? = some xs[off] := List.getElem?_eq_getElem (by omega)
   have g2 : ys[off]? = some ys[off] := List.getElem?_eq_getElem (by omega)
   obtain ⟨u, hu, ru⟩ := hx.get off g1
   obtain ⟨v, hv, rv⟩ := hy.get off g2
   have t1 : (xs.drop off).take 1 = [xs[off]] := by rw [List.drop_eq_getElem_cons (by omega)]; rfl
   have t2 : (ys.drop off).take 1 = [ys[off]] := by rw [List.drop_eq_getElem_cons (by omega)]; rfl
   simp only [List.length_singleton, t1, t2, ckOks, Bool.and_true] at c1 c2
   have hu' : X[off]? = some u := by simpa using hu
   have hv' : Y[off]? = some v := by simpa using hv
   refine ⟨_, _, u, v, g1, g2, hu', hv', ru, rv, c1, c2, ?_, ?_, t1, t2⟩
   ·simp [part, run_aggT ha, hu']
   ·simp [part, run_aggT ha, hv']
  have agg : aggT P t = some true → (part t X off).run P W = .ok (.agg (X.extract off (off + ks.length))) W ∧ (part t Y off).run P W = .ok (.agg (Y.extract off (off + ks.length))) W ∧
    VL (VC ρ) ((xs.drop off).take ks.length) (X.extract off (off + ks.length)).toList ∧ VL (VC ρ) ((ys.drop off).take ks.length) (Y.extract off (off + ks.length)).toList := by
   intro ha
   refine ⟨by simp [part, run_aggT ha, run_szOf hs], by simp [part, run_aggT ha, run_szOf hs], ?_, ?_⟩
   ·simpa [Array.toList_extract, List.extract_eq_take_drop] using (hx.drop off).take ks.length
   ·simpa [Array.toList_extract, List.extract_eq_take_drop] using (hy.drop off).take ks.length
  simp only [flatT] at h
  split at h
  ·rename_i k hu
   simp only [Option.some.injEq] at h
   obtain ⟨x, y, u, v, _, _, _, _, rx, ry, k1, k2, p1, p2, t1, t2⟩ := scalar (.int k) (by simp [aggT, hu]) h.symm
   rw [t1, t2]
   cases x <;> simp [ckOk] at k1
   cases y <;> simp [ckOk] at k2
   subst k1 k2
   have e1 : u = .int k _ := rx
   have e2 : v = .int k _ := ry
   subst e1 e2
   exact ⟨_, _, p1, p2, by rw [run_equalIn_int W D t k k _ _ hu]; simp [eqCells, eqCell]⟩
  ·rename_i hu
   simp only [Option.some.injEq] at h
   obtain ⟨x, y, u, v, _, _, _, _, rx, ry, k1, k2, p1, p2, t1, t2⟩ := scalar .str (by simp [aggT, hu]) h.symm
   rw [t1, t2]
   cases x <;> simp [ckOk] at k1
   cases y <;> simp [ckOk] at k2
   obtain rfl : u = .string _ := rx
   obtain rfl : v = .string _ := ry
   refine ⟨_, _, p1, p2, ?_⟩
   rw [run_equalIn_string W D t _ _ hu, ByteArray.toList_eq, ByteArray.toList_eq]
   simp [eqCells, eqCell]
  ·rename_i hu
   simp only [Option.some.injEq] at h
   obtain ⟨x, y, u, v, _, _, _, _, rx, ry, k1, k2, p1, p2, t1, t2⟩ := scalar .bool (by simp [aggT, hu]) h.symm
   rw [t1, t2]
   cases x <;> simp [ckOk] at k1
   cases y <;> simp [ckOk] at k2
   have e1 : u = .bool _ := rx
   have e2 : v = .bool _ := ry
   subst e1 e2
   exact ⟨_, _, p1, p2, by rw [run_equalIn_bool W D t _ _ hu]; simp [eqCells, eqCell]⟩
  ·rename_i fs hu
   split at h
   ·cases h
   ·rename_i hst
    obtain ⟨p1, p2, v1, v2⟩ := agg (by simp [aggT, hu])
    refine ⟨_, _, p1, p2, ?_⟩
    have hfo : P.fieldsOf t = fs := by simp [Program.fieldsOf, hu]
    rw [run_equalIn_struct W D t _ _ (by rw [hfo]; exact hu) (by simpa using hst), hfo]
    have := fields_eq ihd v1 v2 fs.toList [] ks h c1 c2
    simpa using this
  ·rename_i n e hu
   cases hk : flatT P d e with
   | none => rw [hk] at h; cases h
   | some kf =>
    rw [hk] at h
    simp only [Option.bind_some] at h
    split at h
    ·rename_i hse
     simp only [Option.some.injEq] at h
     subst h
     obtain ⟨p1, p2, v1, v2⟩ := agg (by simp [aggT, hu])
     refine ⟨_, _, p1, p2, ?_⟩
     have := elems_eq (ihd _ _ hk) hse v1 v2 n 0 (by rw [← ckOks_length c1, repeatK_length]; simp) (by rw [← ckOks_length c2, repeatK_length]; simp) (by simpa using c1) (by simpa using c2)
     simp only [Nat.zero_mul, List.drop_zero] at this
     simp only [Op.equalIn, Sem.run_bind, run_underlying hu, Result.andThen_ok, run_szOf hse, Std.Legacy.Range.forIn_eq_forIn_range', Std.Legacy.Range.size, Nat.sub_zero, Nat.add_sub_cancel, Nat.div_one]
     rw [this]
     generalize eqCells _ _ = q
     cases q <;> rfl
    ·cases h
  ·cases h
theorem guard_flatFields {flat : TypeId → Option (List CK)} {D : Nat} (hflat : ∀ t ks, flat t = some ks → P.eqGuardType D t = false) :
  ∀ (fs : List Field) (acc ks : List CK), flatFields P flat fs acc = some ks → (fs.any fun f => f.name != "_" && P.eqGuardType D f.type) = false
 | [], _, _, _ => rfl
 | f :: fs, acc, ks, h => by
  simp only [flatFields] at h
  cases hk : flat f.type with
  | none => rw [hk] at h; cases h
  | some kf =>
   rw [hk] at h
   simp only [Option.bind_some] at h
   split at h
   ·simp only [List.any_cons, hflat _ _ hk, Bool.and_false, Bool.false_or]
    exact guard_flatFields hflat fs _ _ h
   ·cases h
theorem guard_flat : ∀ (d : Nat) (t : TypeId) (ks : List CK), flatT P d t = some ks → ∀ D, d ≤ D → P.eqGuardType D t = false
 | 0, t, ks, h => by simp [flatT] at h
 | d + 1, t, ks, h => by
  intro D hD
  obtain ⟨D, rfl⟩ : ∃ D', D = D' + 1 := ⟨D - 1, by omega⟩
  simp only [flatT] at h
  simp only [Program.eqGuardType]
  split at h
  ·rename_i hu; rw [hu]
  ·rename_i hu; rw [hu]
  ·rename_i hu; rw [hu]
  ·rename_i fs hu
   rw [hu]
   split at h
   ·cases h
   ·have := guard_flatFields (D := D) (fun t' ks' h' => guard_flat d t' ks' h' D (by omega)) fs.toList [] ks h
    simpa using this
  ·rename_i n e hu
   rw [hu]
   cases hk : flatT P d e with
   | none => rw [hk] at h; cases h
   | some kf => exact guard_flat d e kf hk D (by omega)
  ·cases h
theorem depth_ge : 8 ≤ P.depth := by unfold Program.depth Made.depth; omega
theorem eqn_ptr0 (W : World) (d : Nat) {t e : TypeId} (hu : P.underlying t = some (.pointer e)) (b : Option Addr) : (Op.equalIn (d + 1) t (.pointer none) (.pointer b)).run P W = .ok b.isNone W := by
 simp [Op.equalIn, run_underlying hu]
theorem eqn_ptr1 (W : World) (d : Nat) {t e : TypeId} (hu : P.underlying t = some (.pointer e)) (a : Addr) : (Op.equalIn (d + 1) t (.pointer (some a)) (.pointer none)).run P W = .ok false W := by
 simp [Op.equalIn, run_underlying hu]
theorem eqn_sl0 (W : World) (d : Nat) {t e : TypeId} (hu : P.underlying t = some (.slice e)) (b : Option Addr) (n c : Nat) : (Op.equalIn (d + 1) t (.slice none 0 0) (.slice b n c)).run P W = .ok b.isNone W := by
 simp [Op.equalIn, run_underlying hu]
theorem eqn_sl1 (W : World) (d : Nat) {t e : TypeId} (hu : P.underlying t = some (.slice e)) (a : Addr) (n c : Nat) : (Op.equalIn (d + 1) t (.slice (some a) n c) (.slice none 0 0)).run P W = .ok false W := by
 simp [Op.equalIn, run_underlying hu]
theorem eqn_map0 (W : World) (d : Nat) {t k e : TypeId} (hu : P.underlying t = some (.map k e)) (b : Option Nat) : (Op.equalIn (d + 1) t (.map none) (.map b)).run P W = .ok b.isNone W := by
 simp [Op.equalIn, run_underlying hu]
theorem eqn_map1 (W : World) (d : Nat) {t k e : TypeId} (hu : P.underlying t = some (.map k e)) (a : Nat) : (Op.equalIn (d + 1) t (.map (some a)) (.map none)).run P W = .ok false W := by
 simp [Op.equalIn, run_underlying hu]
theorem eqn_fn0 (W : World) (d : Nat) {t : TypeId} {a b : Array TypeId} {c : Bool} (hu : P.underlying t = some (.func a b c)) : (Op.equalIn (d + 1) t .nilFunc .nilFunc).run P W = .ok true W := by
 simp [Op.equalIn, run_underlying hu]
theorem eqn_fn1 (W : World) (d : Nat) {t : TypeId} {a b : Array TypeId} {c : Bool} (hu : P.underlying t = some (.func a b c)) (f : Fn) (x y : Array Value) : (Op.equalIn (d + 1) t (.func f x y) .nilFunc).run P W = .ok false W := by
 simp [Op.equalIn, run_underlying hu]
theorem eq_sim {t : TypeId} {x y : V} {u v : Value} {b : Bool} (hx : VR ρ x u) (hy : VR ρ y v) (h : eqV P t x y = some b) :
  (Op.equal t u v).run P W = .ok b W ∧ ∀ op X Y, (eqGuard op t X Y u v).run P W = .ok () W := by
 have hg : ∀ op X Y, (∀ a b, ¬ (u = .agg a ∧ v = .agg b)) → ¬ (u = .nilIface ∧ v = .nilIface) → (eqGuard op t X Y u v).run P W = .ok () W := by
  intro op X Y h1 h2
  unfold eqGuard
  cases op <;> simp
  all_goals
   cases u <;> cases v <;> first | rfl | exact absurd ⟨rfl, rfl⟩ h2 | exact absurd ⟨rfl, rfl⟩ (h1 _ _)
 cases x <;> cases y <;> simp only [eqV] at h <;> try cases h
 case int.int k a k' a' =>
  obtain rfl : u = .int k a := hx
  obtain rfl : v = .int k' a' := hy
  split at h
  ·rename_i hu
   split at h
   ·rename_i hk
    subst hk
    injection h with h
    subst h
    exact ⟨run_equalIn_int W 9999 t k _ a a' hu, fun op X Y => hg op X Y (by simp) (by simp)⟩
   ·cases h
  ·cases h
 case bool.bool a a' =>
  obtain rfl : u = .bool a := hx
  obtain rfl : v = .bool a' := hy
  split at h
  ·rename_i hu
   injection h with h
   subst h
   exact ⟨run_equalIn_bool W 9999 t a a' hu, fun op X Y => hg op X Y (by simp) (by simp)⟩
  ·cases h
 case str.str a a' =>
  obtain rfl : u = .string ⟨a.toArray⟩ := hx
  obtain rfl : v = .string ⟨a'.toArray⟩ := hy
  split at h
  ·rename_i hu
   injection h with h
   subst h
   refine ⟨?_, fun op X Y => hg op X Y (by simp) (by simp)⟩
   have := run_equalIn_string W 9999 t ⟨a.toArray⟩ ⟨a'.toArray⟩ hu
   rw [ByteArray.toList_eq, ByteArray.toList_eq] at this
   simpa [Op.equal, Op.maxDepth] using this
  ·cases h
 case agg.agg xs ys =>
  obtain ⟨X, rfl, hX⟩ := hx
  obtain ⟨Y, rfl, hY⟩ := hy
  cases hk : flatT P 8 t with
  | none => rw [hk] at h; cases h
  | some ks =>
   rw [hk] at h
   simp only [Option.bind_some] at h
   split at h
   ·rename_i hc
    obtain ⟨c1, c2, ha, hs⟩ := hc
    injection h with h
    subst h
    have l1 := ckOks_length c1
    have l2 := ckOks_length c2
    refine ⟨?_, fun op _ _ => run_eqGuard_agg W op t _ _ _ _ (guard_flat 8 t ks hk _ depth_ge)⟩
    have f1 : (xs.drop 0).take ks.length = xs := by rw [l1]; simp
    have f2 : (ys.drop 0).take ks.length = ys := by rw [l2]; simp
    obtain ⟨a, b, e1, e2, e3⟩ := flat_eq (P := P) (ρ := ρ) (W := W) 8 t ks hk 10000 (by omega) X Y xs ys 0 hX hY (by omega) (by omega) hs (by rw [f1]; exact c1) (by rw [f2]; exact c2)
    have sX : X.size = ks.length := by rw [l1]; simpa using hX.length.symm
    have sY : Y.size = ks.length := by rw [l2]; simpa using hY.length.symm
    have g1 : (part t X 0).run P W = .ok (.agg X) W := by
     have : X.extract 0 ks.length = X := by rw [← sX]; simp
     simp [part, run_aggT ha, run_szOf hs, this]
    have g2 : (part t Y 0).run P W = .ok (.agg Y) W := by
     have : Y.extract 0 ks.length = Y := by rw [← sY]; simp
     simp [part, run_aggT ha, run_szOf hs, this]
    rw [g1] at e1
    rw [g2] at e2
    injection e1 with e1 _
    injection e2 with e2 _
    subst e1 e2
    rw [f1, f2] at e3
    exact e3
   ·cases h
 case nilptr.nilptr =>
  obtain rfl : u = _ := hx
  obtain rfl : v = _ := hy
  split at h
  ·rename_i hu; injection h with h; subst h
   exact ⟨eqn_ptr0 W 9999 hu _, fun op X Y => hg op X Y (by simp) (by simp)⟩
  ·cases h
 case nilptr.ptr =>
  obtain rfl : u = _ := hx
  obtain ⟨_, _, rfl⟩ := hy
  split at h
  ·rename_i hu; injection h with h; subst h
   exact ⟨eqn_ptr0 W 9999 hu _, fun op X Y => hg op X Y (by simp) (by simp)⟩
  ·cases h
 case ptr.nilptr =>
  obtain ⟨_, _, rfl⟩ := hx
  obtain rfl : v = _ := hy
  split at h
  ·rename_i hu; injection h with h; subst h
   exact ⟨eqn_ptr1 W 9999 hu _, fun op X Y => hg op X Y (by simp) (by simp)⟩
  ·cases h
 case nilslice.nilslice =>
  obtain rfl : u = _ := hx
  obtain rfl : v = _ := hy
  split at h
  ·rename_i hu; injection h with h; subst h
   exact ⟨eqn_sl0 W 9999 hu _ _ _, fun op X Y => hg op X Y (by simp) (by simp)⟩
  ·cases h
 case nilslice.slice =>
  obtain rfl : u = _ := hx
  obtain ⟨_, _, _, _, rfl, _⟩ := hy
  split at h
  ·rename_i hu; injection h with h; subst h
   exact ⟨eqn_sl0 W 9999 hu _ _ _, fun op X Y => hg op X Y (by simp) (by simp)⟩
  ·cases h
 case slice.nilslice =>
  obtain ⟨_, _, _, _, rfl, _⟩ := hx
  obtain rfl : v = _ := hy
  split at h
  ·rename_i hu; injection h with h; subst h
   exact ⟨eqn_sl1 W 9999 hu _ _ _, fun op X Y => hg op X Y (by simp) (by simp)⟩
  ·cases h
 case nilmap.nilmap =>
  obtain rfl : u = _ := hx
  obtain rfl : v = _ := hy
  split at h
  ·rename_i hu; injection h with h; subst h
   exact ⟨eqn_map0 W 9999 hu _, fun op X Y => hg op X Y (by simp) (by simp)⟩
  ·cases h
 case map.nilmap =>
  obtain ⟨_, _, rfl⟩ := hx
  obtain rfl : v = _ := hy
  split at h
  ·rename_i hu; injection h with h; subst h
   exact ⟨eqn_map1 W 9999 hu _, fun op X Y => hg op X Y (by simp) (by simp)⟩
  ·cases h
 case nilfn.nilfn =>
  obtain rfl : u = _ := hx
  obtain rfl : v = _ := hy
  split at h
  ·rename_i hu; injection h with h; subst h
   exact ⟨eqn_fn0 W 9999 hu, fun op X Y => hg op X Y (by simp) (by simp)⟩
  ·cases h
 case fn.nilfn =>
  obtain ⟨_, _, rfl, _⟩ := hx
  obtain rfl : v = _ := hy
  split at h
  ·rename_i hu; injection h with h; subst h
   exact ⟨eqn_fn1 W 9999 hu _ _ _, fun op X Y => hg op X Y (by simp) (by simp)⟩
  ·cases h
 case nilptr.ipt =>
  obtain rfl : u = _ := hx
  obtain ⟨_, _, _, rfl, _⟩ := VI_ipt hy
  split at h
  ·rename_i hu; injection h with h; subst h
   exact ⟨eqn_ptr0 W 9999 hu _, fun op X Y => hg op X Y (by simp) (by simp)⟩
  ·cases h
 case ipt.nilptr =>
  obtain ⟨_, _, _, rfl, _⟩ := VI_ipt hx
  obtain rfl : v = _ := hy
  split at h
  ·rename_i hu; injection h with h; subst h
   exact ⟨eqn_ptr1 W 9999 hu _, fun op X Y => hg op X Y (by simp) (by simp)⟩
  ·cases h
 case nilslice.isl =>
  obtain rfl : u = _ := hx
  obtain ⟨_, _, rfl, _⟩ := VI_isl hy
  split at h
  ·rename_i hu; injection h with h; subst h
   exact ⟨eqn_sl0 W 9999 hu _ _ _, fun op X Y => hg op X Y (by simp) (by simp)⟩
  ·cases h
 case isl.nilslice =>
  obtain ⟨_, _, rfl, _⟩ := VI_isl hx
  obtain rfl : v = _ := hy
  split at h
  ·rename_i hu; injection h with h; subst h
   exact ⟨eqn_sl1 W 9999 hu _ _ _, fun op X Y => hg op X Y (by simp) (by simp)⟩
  ·cases h
end
end Go.An
namespace Go.An
open Go
section
variable {P : Program} {b0 : Nat} {ρ : Ren} {H : Hp} {W : World}
theorem guard_ok {t : TypeId} {u v : Value} (op : BinOp) (X Y : Operand) (h1 : ∀ a b, ¬ (u = .agg a ∧ v = .agg b)) (h2 : ¬ (u = .nilIface ∧ v = .nilIface)) : (eqGuard op t X Y u v).run P W = .ok () W := by
 unfold eqGuard
 cases op <;> simp
 all_goals
  cases u <;> cases v <;> first | rfl | exact absurd ⟨rfl, rfl⟩ h2 | exact absurd ⟨rfl, rfl⟩ (h1 _ _)
theorem bits_sim {op : BinOp} {k : IntKind} {x y r : Int} (h : bitsV op k x y = some r) : (Op.intBits op k x y).run P W = .ok (.int k r) W := by
 cases op <;> simp only [bitsV] at h <;> first | (injection h with h; subst h; simp [Op.intBits]; done) | cases h
theorem int_sim {op : BinOp} {t : TypeId} {k : IntKind} {x y : Int} {v : V} (hs : op ≠ .shl) (hs2 : op ≠ .shr) (h : intV op k x y = some v) : ∃ u, (binOp op t (.int k x) (.int k y)).run P W = .ok u W ∧ VR ρ v u := by
 cases op <;> simp only [intV] at h <;> try (first | exact absurd rfl hs | exact absurd rfl hs2)
 case add => injection h with h; subst h; exact ⟨_, by simp [binOp, Op.intArith], rfl⟩
 case sub => injection h with h; subst h; exact ⟨_, by simp [binOp, Op.intArith], rfl⟩
 case mul => injection h with h; subst h; exact ⟨_, by simp [binOp, Op.intArith], rfl⟩
 case quo =>
  split at h
  ·cases h
  ·rename_i h0; injection h with h; subst h; exact ⟨_, by simp [binOp, Op.intDiv, h0], rfl⟩
 case rem =>
  split at h
  ·cases h
  ·rename_i h0; injection h with h; subst h; exact ⟨_, by simp [binOp, Op.intDiv, h0], rfl⟩
 case and => obtain ⟨r, hr, rfl⟩ := Option.map_eq_some_iff.1 h; exact ⟨_, by simp [binOp, bits_sim hr], rfl⟩
 case or => obtain ⟨r, hr, rfl⟩ := Option.map_eq_some_iff.1 h; exact ⟨_, by simp [binOp, bits_sim hr], rfl⟩
 case xor => obtain ⟨r, hr, rfl⟩ := Option.map_eq_some_iff.1 h; exact ⟨_, by simp [binOp, bits_sim hr], rfl⟩
 case andNot => obtain ⟨r, hr, rfl⟩ := Option.map_eq_some_iff.1 h; exact ⟨_, by simp [binOp, bits_sim hr], rfl⟩
 all_goals
  injection h with h
  subst h
  exact ⟨_, by simp [binOp, Op.intCmp], rfl⟩
theorem bytes_append (x y : List UInt8) : (⟨x.toArray⟩ ++ ⟨y.toArray⟩ : ByteArray) = ⟨(x ++ y).toArray⟩ := by
 apply ByteArray.ext
 rw [ByteArray.data_append]
 simp
theorem bytes_toList (x : List UInt8) : (⟨x.toArray⟩ : ByteArray).toList = x := by rw [ByteArray.toList_eq]
theorem bytes_size (x : List UInt8) : (⟨x.toArray⟩ : ByteArray).size = x.length := by show x.toArray.size = _; simp
theorem str_sim {op : BinOp} {t : TypeId} {x y : List UInt8} {v : V} (h : strV op x y = some v) : ∃ u, (binOp op t (.string ⟨x.toArray⟩) (.string ⟨y.toArray⟩)).run P W = .ok u W ∧ VR ρ v u := by
 cases op <;> simp only [strV] at h
 case add =>
  split at h
  ·rename_i hl
   injection h with h
   subst h
   have : ¬ ((9223372036854775807 : Int) < (x.length : Int) + (y.length : Int)) := by omega
   exact ⟨.string ⟨(x ++ y).toArray⟩, by simp [binOp, Op.stringOp, bytes_size, this, bytes_append], rfl⟩
  ·cases h
 all_goals first
  | (injection h with h; subst h; exact ⟨_, by simp [binOp, Op.stringOp], rfl⟩)
  | cases h
theorem shift_sim {op : BinOp} {t : TypeId} {k k' : IntKind} {x y : Int} {v : V} (hs : op = .shl ∨ op = .shr) (h : shiftV op k x y = some v) : ∃ u, (binOp op t (.int k x) (.int k' y)).run P W = .ok u W ∧ VR ρ v u := by
 unfold shiftV at h
 split at h
 ·cases h
 ·rename_i h0
  rcases hs with rfl | rfl
  ·injection h with h; subst h; exact ⟨_, by simp [binOp, Op.shift, h0], rfl⟩
  ·injection h with h; subst h; exact ⟨_, by simp [binOp, Op.shift, h0], rfl⟩
theorem bin_eq {op : BinOp} {t : TypeId} {u v : Value} (h : op = .eql ∨ op = .neq) (hn : ∀ k a k' b, ¬ (u = .int k a ∧ v = .int k' b)) (hs : ∀ a b, ¬ (u = .string a ∧ v = .string b)) (hf : ∀ k a k' b, ¬ (u = .float k a ∧ v = .float k' b)) (hc : ∀ k a b k' a' b', ¬ (u = .complex k a b ∧ v = .complex k' a' b')) :
  binOp op t u v = if op = .eql then (do pure (.bool (← Op.equal t u v))) else (do pure (.bool (!(← Op.equal t u v)))) := by
 rcases h with rfl | rfl
 ·cases u <;> cases v <;> first | rfl | exact absurd ⟨rfl, rfl⟩ (hn _ _ _ _) | exact absurd ⟨rfl, rfl⟩ (hs _ _) | exact absurd ⟨rfl, rfl⟩ (hf _ _ _ _) | exact absurd ⟨rfl, rfl⟩ (hc _ _ _ _ _ _)
 ·cases u <;> cases v <;> first | rfl | exact absurd ⟨rfl, rfl⟩ (hn _ _ _ _) | exact absurd ⟨rfl, rfl⟩ (hs _ _) | exact absurd ⟨rfl, rfl⟩ (hf _ _ _ _) | exact absurd ⟨rfl, rfl⟩ (hc _ _ _ _ _ _)
theorem bin_sim (hR : Rel P b0 ρ H W) {op : BinOp} {t : TypeId} {x y v : V} {u w : Value} (X Y : Operand) (hx : VR ρ x u) (hy : VR ρ y w) (h : binV P op t x y = some v) :
  Out P b0 ρ H W ((do eqGuard op t X Y u w; binOp op t u w).run P W) v H := by
 have done : ∀ {r : Value}, (eqGuard op t X Y u w).run P W = .ok () W → (binOp op t u w).run P W = .ok r W → VR ρ v r → Out P b0 ρ H W ((do eqGuard op t X Y u w; binOp op t u w).run P W) v H := by
  intro r h1 h2 h3
  exact ⟨r, W, ρ, by simp [h1, h2], h3, Step.refl hR⟩
 have general : (h : (match op with | .eql => (eqV P t x y).map V.bool | .neq => (eqV P t x y).map fun b => V.bool !b | _ => none) = some v) → (∀ k a k' b, ¬ (u = .int k a ∧ w = .int k' b)) → (∀ a b, ¬ (u = .string a ∧ w = .string b)) → Out P b0 ρ H W ((do eqGuard op t X Y u w; binOp op t u w).run P W) v H := by
  intro h hn hs
  have ho : op = .eql ∨ op = .neq := by cases op <;> first | exact .inl rfl | exact .inr rfl | cases h
  have hb : ∃ b, eqV P t x y = some b ∧ v = .bool (if op = .eql then b else !b) := by
   rcases ho with rfl | rfl
   ·obtain ⟨b, hb, rfl⟩ := Option.map_eq_some_iff.1 h; exact ⟨b, hb, by simp⟩
   ·obtain ⟨b, hb, rfl⟩ := Option.map_eq_some_iff.1 h; exact ⟨b, hb, by simp⟩
  obtain ⟨b, hb, rfl⟩ := hb
  obtain ⟨e1, e2⟩ := eq_sim (P := P) (W := W) hx hy hb
  have hf : ∀ k a k' b, ¬ (u = .float k a ∧ w = .float k' b) := by
   rintro k a k' b ⟨rfl, rfl⟩
   cases x <;> cases y <;> simp only [eqV] at hb <;> try cases hb
   all_goals first | exact absurd hx (by simp [VR, VA, VC, VB, VI]) | exact absurd hy (by simp [VR, VA, VC, VB, VI])
  have hc : ∀ k a b k' a' b', ¬ (u = .complex k a b ∧ w = .complex k' a' b') := by
   rintro k a b k' a' b' ⟨rfl, rfl⟩
   cases x <;> cases y <;> simp only [eqV] at hb <;> try cases hb
   all_goals first | exact absurd hx (by simp [VR, VA, VC, VB, VI]) | exact absurd hy (by simp [VR, VA, VC, VB, VI])
  refine done (e2 op X Y) ?_ rfl
  rw [bin_eq ho hn hs hf hc]
  rcases ho with rfl | rfl <;> simp [e1]
 unfold binV at h
 split at h
 ·rename_i k a k' b
  obtain rfl : u = .int k a := hx
  obtain rfl : w = .int k' b := hy
  have hg : (eqGuard op t X Y (.int k a) (.int k' b)).run P W = .ok () W := guard_ok op X Y (by simp) (by simp)
  split at h
  ·obtain ⟨r, h1, h2⟩ := shift_sim (P := P) (W := W) (ρ := ρ) (t := t) (k' := k') (.inl rfl) h; exact done hg h1 h2
  ·obtain ⟨r, h1, h2⟩ := shift_sim (P := P) (W := W) (ρ := ρ) (t := t) (k' := k') (.inr rfl) h; exact done hg h1 h2
  ·split at h
   ·rename_i h1 h2 hk
    subst hk
    obtain ⟨r, h1, h2⟩ := int_sim (P := P) (W := W) (ρ := ρ) (t := t) h1 h2 h; exact done hg h1 h2
   ·cases h
 ·rename_i a b
  obtain rfl : u = .string ⟨a.toArray⟩ := hx
  obtain rfl : w = .string ⟨b.toArray⟩ := hy
  have hg : (eqGuard op t X Y (.string ⟨a.toArray⟩) (.string ⟨b.toArray⟩)).run P W = .ok () W := guard_ok op X Y (by simp) (by simp)
  obtain ⟨r, h1, h2⟩ := str_sim (P := P) (W := W) (ρ := ρ) (t := t) h; exact done hg h1 h2
 ·rename_i hn hs
  refine general h ?_ ?_
  ·rintro k a k' b ⟨rfl, rfl⟩
   cases op <;> simp only [] at h <;> try cases h
   all_goals
    obtain ⟨b, hb, _⟩ := Option.map_eq_some_iff.1 h
    cases x <;> cases y <;> simp only [eqV] at hb <;> try cases hb
    all_goals first | exact (hn _ _ _ _ rfl rfl).elim | exact absurd hx (by simp [VR, VA, VC, VB, VI]) | exact absurd hy (by simp [VR, VA, VC, VB, VI])
  ·rintro a b ⟨rfl, rfl⟩
   cases op <;> simp only [] at h <;> try cases h
   all_goals
    obtain ⟨b, hb, _⟩ := Option.map_eq_some_iff.1 h
    cases x <;> cases y <;> simp only [eqV] at hb <;> try cases hb
    all_goals first | exact (hs _ _ rfl rfl).elim | exact absurd hx (by simp [VR, VA, VC, VB, VI]) | exact absurd hy (by simp [VR, VA, VC, VB, VI])
theorem un_sim (hR : Rel P b0 ρ H W) {op : UnOp} {x v : V} {u : Value} (hx : VR ρ x u) (h : unV op x = some v) : Out P b0 ρ H W ((Op.unary op u).run P W) v H := by
 unfold unV at h
 split at h
 ·rename_i k n
  obtain rfl : u = .int k n := hx
  injection h with h; subst h
  exact ⟨_, W, ρ, by simp [Op.unary, Op.intArith], rfl, Step.refl hR⟩
 ·rename_i k n
  obtain rfl : u = .int k n := hx
  obtain ⟨r, hr, rfl⟩ := Option.map_eq_some_iff.1 h
  exact ⟨_, W, ρ, by simp [Op.unary, bits_sim hr], rfl, Step.refl hR⟩
 ·rename_i b
  obtain rfl : u = .bool b := hx
  injection h with h; subst h
  exact ⟨_, W, ρ, by simp [Op.unary], rfl, Step.refl hR⟩
 ·cases h
end
end Go.An
namespace Go.An
open Go
section
variable {P : Program} {b0 : Nat} {ρ : Ren} {H : Hp} {W : World}
theorem newRow_sim (hR : Rel P b0 ρ H W) {e : TypeId} {v r : V} {u : Value} {H' : Hp} (hv : VA ρ v u) (h : newRowV v.cells H = some (r, H')) :
  Out P b0 ρ H W ((do pure (.pointer (some (← newVar e u))) : Sem Value).run P W) r H' := by
 unfold newRowV at h
 split at h
 ·rename_i hall
  injection h with h
  injection h with h1 h2
  subst h1 h2
  obtain ⟨hc, hone⟩ := hv.cells hall
  have hcr : CellsRel ρ v.cells u.cells 0 := by
   have := CellsRel.of (spare := []) hc hone []
   simpa using this
  have hl := hc.length
  have hst := hR.push (W' := W.alloc (.cells u.cells e)) hcr (frOk0 _) (by simp at hl; omega) (t := e) (fr := (0, 0)) rfl rfl rfl rfl
  refine ⟨.pointer (some ⟨W.heap.size, 0, none⟩), _, _, ?_, ⟨_, renAdd_same _ _ _ _, rfl⟩, hst⟩
  simp [newVar, newRow]
 ·cases h
theorem alloc_sim (hR : Rel P b0 ρ H W) {e : TypeId} {z r : V} {H' : Hp} (hz : zeroV P e = some z) (h : newRowV z.cells H = some (r, H')) : Out P b0 ρ H W ((Instr.alloc e true (.tuple #[])).run P W) r H' := by
 obtain ⟨u, hu, rfl⟩ := run_zeroV hz W
 have hv : VA ρ (ofVal u) u := by
  have := VR_ofVal ρ u
  exact this.va (fun vs e => by
   unfold ofVal at e
   split at e
   ·cases e
   ·exact (ofCell_not _).2 _ e)
 obtain ⟨x, W', ρ', h1, h2, h3⟩ := newRow_sim (e := e) hR hv h
 refine ⟨x, W', ρ', ?_, h2, h3⟩
 rw [← h1]
 simp [Instr.alloc, hu]
theorem box_sim (hR : Rel P b0 ρ H W) {e : TypeId} {v r : V} {u : Value} {H' : Hp} (hv : VR ρ v u) (h : newRowV v.cells H = some (r, H')) : Out P b0 ρ H W ((Instr.box e u).run P W) r H' := by
 have hva : VA ρ v u := hv.va (fun vs e => by subst e; simp [newRowV, V.cells, V.isCell] at h)
 exact newRow_sim (e := e) hR hva h
theorem immBox_sim (hR : Rel P b0 ρ H W) {e : TypeId} {v : V} {u : Value} (hv : VR ρ v u) (h : immL v.cells = true) : Out P b0 ρ H W ((Instr.box e u).run P W) (.ipt v.cells 0) H := by
 have hva : VA ρ v u := hv.va (fun vs e => by subst e; simp [V.cells, immL, V.imm] at h)
 obtain ⟨hc, hone⟩ := hva.cells (immL_cells h)
 have hcr : CellsRel ρ v.cells u.cells 0 := by
  have := CellsRel.of (spare := []) hc hone []
  simpa using this
 have hst := hR.pushI (W' := W.alloc (.cells u.cells e)) (C := u.cells) (t := e) (fr := (0, 0)) rfl rfl rfl rfl
 refine ⟨.pointer (some ⟨W.heap.size, 0, none⟩), _, _, ?_, ipt_VI (off := 0) (base := 0) (by simp only [renImm, if_true]) (VIs_of h (hcr.mono hst.le)), hst⟩
 simp [Instr.box, newVar, newRow]
theorem wrap_small {n : Int} (h0 : 0 ≤ n) (h1 : n ≤ 2 ^ 40) : IntKind.i64.wrap n = n := by
 exact Go.IntWalk.i64_in n (by omega)
theorem makeSlice_sim (hR : Rel P b0 ρ H W) {t : TypeId} {n c v : V} {n' c' : Value} {H' : Hp} (hn : VR ρ n n') (hc : VR ρ c c') (h : makeSliceV P t H n c = some (v, H')) : Out P b0 ρ H W ((Instr.makeSlice t n' c').run P W) v H' := by
 unfold makeSliceV at h
 split at h
 ·rename_i e n c hun
  obtain rfl : n' = .int .i64 n := hn
  obtain rfl : c' = .int .i64 c := hc
  cases hsz : szOf P e with
  | none => rw [hsz] at h; cases h
  | some sz =>
  cases hby : bytesOf' P e with
  | none => rw [hsz, hby] at h; cases h
  | some by_ =>
  cases hz : zeroV P e with
  | none => rw [hsz, hby, hz] at h; cases h
  | some z =>
  rw [hsz, hby, hz] at h
  simp only [Option.bind_some] at h
  split at h
  ·rename_i hc
   obtain ⟨s0, zl, zc, n0, nc, b40, c40⟩ := hc
   injection h with h
   injection h with h1 h2
   subst h1 h2
   obtain ⟨i, u, hi, rfl, rfl, hzu, rfl⟩ := elem_facts hsz hby hz
   have hzc : VL (VC ρ) (ofVal u).cells u.cells.toList := by
    obtain ⟨u', hu', h2⟩ := zero_cells (ρ := ρ) hz W
    have : u' = u := by
     have : (zeroValue e).run P W = .ok u W := by simp [zeroValue, typeInfo, hi, hzu]
     rw [this] at hu'
     injection hu' with h _
     exact h.symm
    exact this ▸ h2
   have hus : u.cells.size = i.size := by rw [← zl, ofVal_cells_length]
   have hw1 := wrap_small n0 (by omega)
   have hw2 := wrap_small (n := c) (by omega) c40
   have hcr := zeros_rel hzc zc (by omega) n.toNat (c.toNat * i.size) (by rw [zl]; exact Nat.mul_le_mul_right _ (by omega))
   have hst := hR.push (W' := W.alloc (.cells ((Array.range (c.toNat * i.size)).map fun j => u.cells[j % u.cells.size]!) e)) hcr (frOk0 _) (by rw [repeatV_length, zl]; simp; exact Nat.mul_le_mul_right _ (by omega)) (t := e) (fr := (0, 0)) rfl rfl rfl rfl
   refine ⟨.slice (some ⟨W.heap.size, 0, none⟩) n.toNat c.toNat, _, _, ?_, ?_, hst⟩
   ·have t1 : ¬ (c < 0) := by omega
    have t2 : ¬ ((281474976710656 : Int) < (i.bytes : Int) * c) := by rw [Int.mul_comm]; omega
    have t3 : ¬ (n < 0) := by omega
    have t4 : ¬ (n > c) := by omega
    by_cases hc0 : c.toNat * i.size = 0
    ·have e0 : ∀ f : Nat → Value, (Array.range 0).map f = #[] := fun f => by simp [Array.range]
     simp only [Instr.makeSlice, run_underlying hun, Sem.run_bind, Result.andThen_ok, asInt, asIntOf, Sem.run_pure, typeInfo, run_program, hi, hw1, hw2]
     simp [t1, t2, t3, t4, hc0, sizeOf, typeInfo, hi, newRow, e0]
    ·simp only [Instr.makeSlice, run_underlying hun, Sem.run_bind, Result.andThen_ok, asInt, asIntOf, Sem.run_pure, typeInfo, run_program, hi, hw1, hw2]
     simp [t1, t2, t3, t4, hc0, sizeOf, typeInfo, hi, newRow, zeroValue, hzu]
   ·refine ⟨_, _, _, renAdd_same _ _ _ _, rfl, by omega, .inl rfl, fun _ => ?_, ⟨rfl, ?_⟩⟩
    ·show 0 + 0 + c.toNat * i.size ≤ _; simp
    ·show 0 + 0 + c.toNat * i.size = _; simp
  ·cases h
 ·cases h
theorem growV_sim (hR : Rel P b0 ρ H W) {t t1 ty : TypeId} {k1 : IntKind} {s x v : V} {us ux : Value} {H' : Hp} (hs : VR ρ s us) (hx : VR ρ x ux) (ht1 : P.underlying t1 = some (.int k1))
  (h : growV P t H s x = some (v, H')) : Out P b0 ρ H W ((Builtin.append_ #[t, t1] ty #[us, ux]).run P W) v H' := by
 unfold growV at h
 split at h
 ·rename_i e m ht
  obtain rfl : us = .slice none 0 0 := hs
  obtain rfl : ux = .int .i64 m := hx
  cases hsz : szOf P e with
  | none => rw [hsz] at h; cases h
  | some sz =>
  cases hby : bytesOf' P e with
  | none => rw [hsz, hby] at h; cases h
  | some by_ =>
  cases hz : zeroV P e with
  | none => rw [hsz, hby, hz] at h; cases h
  | some z =>
  rw [hsz, hby, hz] at h
  simp only [Option.bind_some] at h
  split at h
  ·rename_i hc
   obtain ⟨s0, zl, zc, n0, b40, c40⟩ := hc
   injection h with h
   injection h with h1 h2
   subst h1 h2
   obtain ⟨i, u, hi, rfl, rfl, hzu, rfl⟩ := elem_facts hsz hby hz
   have hzc : VL (VC ρ) (ofVal u).cells u.cells.toList := by
    obtain ⟨u', hu', h2⟩ := zero_cells (ρ := ρ) hz W
    have : u' = u := by
     have : (zeroValue e).run P W = .ok u W := by simp [zeroValue, typeInfo, hi, hzu]
     rw [this] at hu'
     injection hu' with h _
     exact h.symm
    exact this ▸ h2
   have hus : u.cells.size = i.size := by rw [← zl, ofVal_cells_length]
   have hw1 := wrap_small (n := m) (by omega) (by omega)
   obtain ⟨c, hcdef⟩ : ∃ c, grownCap W m.toNat 0 e = c := ⟨_, rfl⟩
   have hge : m.toNat ≤ c := hcdef ▸ grownCap_ge W m.toNat 0 e
   have hzs1 : (Builtin.zeroCells u.cells m.toNat).size = m.toNat * i.size := by rw [size_zeroCells, hus]
   have hzs2 : (Builtin.zeroCells u.cells (c - m.toNat)).size = (c - m.toNat) * i.size := by rw [size_zeroCells, hus]
   have e0 : Builtin.zeroCells u.cells m.toNat = (Array.range (m.toNat * i.size)).map fun j => u.cells[j % u.cells.size]! := by
    unfold Builtin.zeroCells
    rw [hus]
   obtain ⟨C, hC⟩ : ∃ C, Builtin.zeroCells u.cells m.toNat ++ Builtin.zeroCells u.cells (c - m.toNat) = C := ⟨_, rfl⟩
   have hsum : m.toNat * i.size + (c - m.toNat) * i.size = c * i.size := by rw [← Nat.add_mul]; congr 1; omega
   have hCs : C.size = c * i.size := by rw [← hC, Array.size_append, hzs1, hzs2, hsum]
   have hcr : CellsRel ρ (repeatV (ofVal u).cells m.toNat) C 0 := by
    have h0 := zeros_rel hzc zc (by omega) m.toNat (m.toNat * i.size) (by rw [zl]; exact Nat.le_refl _)
    rw [← e0] at h0
    intro j v hj
    obtain ⟨w, hw, hv⟩ := h0 j v hj
    refine ⟨w, ?_, hv⟩
    have hlt := (Array.getElem?_eq_some_iff.1 hw).1
    rw [← hC, Array.getElem?_append_left hlt]
    exact hw
   have hst := hR.push (W' := W.drew.alloc (.cells C e)) hcr (frOk0 _) (by rw [repeatV_length, zl, hCs]; exact Nat.mul_le_mul_right _ hge) (t := e) (fr := (0, 0)) rfl rfl rfl rfl
   refine ⟨.slice (some ⟨W.heap.size, 0, none⟩) m.toNat c, _, _, ?_, ?_, hst⟩
   ·have hn : ¬ (m.toNat = 0) := by omega
    have hn0 : ¬ (m ≤ 0) := by omega
    have t1 : ¬ (m < 0) := by omega
    have t2 : ¬ ((281474976710656 : Int) < m * (i.bytes : Int)) := by omega
    have hmn : ((m.toNat : Nat) : Int) = m := by omega
    have h64 : ¬ ((9223372036854775807 : Int) < m) := by omega
    have hby : m.toNat * i.bytes ≤ 2 ^ 40 := by
     have : ((m.toNat * i.bytes : Nat) : Int) ≤ 2 ^ 40 := by rw [Int.natCast_mul, hmn]; exact b40
     omega
    have h48 : ¬ (281474976710656 < Builtin.nextslicecap m.toNat 0 * i.bytes) := by
     have := growslice_fits (need := m.toNat) (old := 0) (bytes := i.bytes) (by omega) (by omega)
     omega
    have hc : (Question.appendCap m.toNat 0 e).cut (W.tape W.drawn (.appendCap m.toNat 0 e)) = c := hcdef
    have hd : ({ W with drawn := W.drawn + 1 } : World) = W.drew := rfl
    have hms : ¬ (m.toNat * i.size = 0) := by
     have := Nat.mul_pos (show 0 < m.toNat by omega) s0
     omega
    have hmx : max m 0 = m := by omega
    simp [Builtin.append_, run_underlying ht, run_underlying ht1, sizeOf, typeInfo, zeroValue, hi, hzu, hn0, t1, t2, h64, h48, Question.forced, hc, newRow, asInt, asIntOf, hw1, hms, hmx, Builtin.firstCells, hC]
   ·refine ⟨_, _, _, renAdd_same _ _ _ _, rfl, hge, .inl rfl, fun _ => ?_, ⟨rfl, ?_⟩⟩
    ·show 0 + 0 + c * i.size ≤ C.size; omega
    ·show 0 + 0 + c * i.size = C.size; omega
  ·cases h
 ·cases h
theorem bytesOf_some : ∀ {vs : List V} {l : List UInt8}, bytesOf vs = some l → ∃ ns : List Int, vs = ns.map (V.int .u8) ∧ l = ns.map fun n => UInt8.ofNat n.toNat
 | [], l, h => by simp only [bytesOf, Option.some.injEq] at h; exact ⟨[], rfl, by rw [← h]; rfl⟩
 | v :: vs, l, h => by
  simp only [bytesOf] at h
  cases hb : byteOf v with
  | none => rw [hb] at h; cases h
  | some b =>
   rw [hb] at h
   simp only [Option.bind_some] at h
   obtain ⟨l', hl', rfl⟩ := Option.map_eq_some_iff.1 h
   obtain ⟨ns, rfl, rfl⟩ := bytesOf_some hl'
   unfold byteOf at hb
   split at hb
   ·rename_i n
    injection hb with hb
    exact ⟨n :: ns, rfl, by rw [← hb]; rfl⟩
   ·cases hb
theorem ints_of : ∀ {ns : List Int} {us : List Value}, VL (VC ρ) (ns.map (V.int .u8)) us → us = ns.map (Value.int .u8)
 | [], [], _ => rfl
 | n :: ns, u :: us, h => by
  obtain rfl : u = .int .u8 n := h.1
  rw [ints_of h.2]; rfl
 | [], _ :: _, h => h.elim
 | _ :: _, [], h => h.elim
theorem freeze_heap (W : World) (C : Array Value) (e : TypeId) (W1 : World) (hW1 : W1.heap = W.heap.push (.cells C e (0, 0))) :
  (W1.freeze ⟨W.heap.size, C.size, none⟩ 1).heap = W.heap.push (.cells C e (C.size, C.size + 1)) := by
 unfold World.freeze
 simp only [Nat.one_ne_zero, if_false, hW1]
 apply Array.ext
 ·simp
 ·intro i h1 h2
  rw [Array.getElem_modify]
  simp only [Array.getElem_push]
  by_cases hi : i < W.heap.size
  ·simp [hi, show ¬ W.heap.size = i from by omega]
  ·have : i = W.heap.size := by simp at h2; omega
   subst this
   simp
theorem freeze_old (W : World) {b : Nat} {C : Array Value} {t : TypeId} {fr : Nat × Nat} (hC : W.heap[b]? = some (.cells C t fr)) (hfr : frOk fr C.size) :
  ∃ fr', (W.freeze ⟨b, C.size, none⟩ 1).heap[b]? = some (.cells C t fr') ∧ frOk fr' C.size ∧ (∀ k, k ≠ b → (W.freeze ⟨b, C.size, none⟩ 1).heap[k]? = W.heap[k]?) ∧ (W.freeze ⟨b, C.size, none⟩ 1).heap.size = W.heap.size := by
 obtain ⟨lo, hi⟩ := fr
 refine ⟨if lo == hi then (C.size, C.size + 1) else (min lo C.size, max hi (C.size + 1)), ?_, ?_, ?_, ?_⟩
 ·obtain ⟨hlt, he⟩ := Array.getElem?_eq_some_iff.1 hC
  unfold World.freeze
  simp only [Nat.one_ne_zero, if_false]
  rw [Array.getElem?_eq_getElem (by simpa using hlt), Array.getElem_modify]
  simp [he]
 ·rcases hfr with h | h
  ·simp only at h
   rw [if_pos (by simpa using h)]
   exact .inr (Nat.le_refl _)
  ·simp only at h
   by_cases e : lo = hi
   ·rw [if_pos (by simpa using e)]
    exact .inr (Nat.le_refl _)
   ·rw [if_neg (by simpa using e)]
    exact .inr (by simp only; omega)
 ·intro k hk
  unfold World.freeze
  simp only [Nat.one_ne_zero, if_false, Array.getElem?_modify]
  rw [if_neg (fun e => hk e.symm)]
 ·unfold World.freeze
  simp
theorem conv_sim (hR : Rel P b0 ρ H W) {s d : TypeId} {x v : V} {u : Value} {H' : Hp} (hx : VR ρ x u) (h : convV P s d H x = some (v, H')) : Out P b0 ρ H W ((convert s d u).run P W) v H' := by
 unfold convV at h
 split at h
 ·rename_i ds k k' n hs hd
  obtain rfl : u = .int k' n := hx
  injection h with h
  injection h with h1 h2
  subst h1 h2
  exact ⟨_, W, ρ, by simp [convert, run_underlying hs, run_underlying hd, Conv.intToInt], rfl, Step.refl hR⟩
 ·rename_i ds l hs hd
  obtain rfl : u = .string ⟨l.toArray⟩ := hx
  injection h with h
  injection h with h1 h2
  subst h1 h2
  exact ⟨_, W, ρ, by simp [convert, run_underlying hs, run_underlying hd], rfl, Step.refl hR⟩
 ·rename_i ds e l hs hd
  obtain rfl : u = .string ⟨l.toArray⟩ := hx
  split at h
  ·rename_i he
   split at h
   ·rename_i hc
    injection h with h
    injection h with h1 h2
    subst h1 h2
    have hge := grownCap_ge W l.length 0 e
    have hq : (Question.appendCap l.length 0 e).cut (W.tape W.drawn (.appendCap l.length 0 e)) = grownCap W l.length 0 e := rfl
    have hcr : CellsRel ρ (l.map fun b => V.int .u8 b.toNat) (l.toArray.map (fun b : UInt8 => Value.int .u8 b.toNat) ++ Array.replicate (grownCap W l.length 0 e - l.length) (Value.int .u8 0)) 0 := by
     have := CellsRel.of (ρ := ρ) (cs := l.map fun b => V.int .u8 b.toNat) (us := l.map fun b => Value.int .u8 b.toNat) (spare := List.replicate (grownCap W l.length 0 e - l.length) (Value.int .u8 0)) (VL.map _ _ (fun b => rfl) l) (by simp; intros; rfl) []
     intro j w hj
     obtain ⟨y, hy, r⟩ := this j w hj
     refine ⟨y, ?_, r⟩
     rw [← hy]
     congr 1
     apply Array.ext'
     simp
    have hCs : (l.toArray.map (fun b : UInt8 => Value.int .u8 b.toNat) ++ Array.replicate (grownCap W l.length 0 e - l.length) (Value.int .u8 0)).size = grownCap W l.length 0 e := by simp; omega
    have hfr := freeze_heap W.drew (l.toArray.map (fun b : UInt8 => Value.int .u8 b.toNat) ++ Array.replicate (grownCap W l.length 0 e - l.length) (Value.int .u8 0)) e (W.drew.alloc (.cells (l.toArray.map (fun b : UInt8 => Value.int .u8 b.toNat) ++ Array.replicate (grownCap W l.length 0 e - l.length) (Value.int .u8 0)) e)) rfl
    have hst := hR.push hcr (fr := (_, _ + 1)) (.inr (Nat.le_refl _)) (by rw [hCs]; simpa using hge) (t := e) hfr rfl rfl rfl
    refine ⟨.slice (some ⟨W.heap.size, 0, none⟩) l.length (grownCap W l.length 0 e), _, _, ?_, ?_, hst⟩
    ·simp only [convert, run_underlying hs, run_underlying hd, run_underlying he, Sem.run_bind, Result.andThen_ok, Conv.stringToBytes, run_choose, Question.forced, bytes_size, hq, newRow, run_newObj, Sem.run_pure, markStringish, run_shape]
     simp [World.shape?]
    ·refine ⟨_, _, _, renAdd_same _ _ _ _, rfl, hge, .inl rfl, fun _ => ?_, ⟨rfl, ?_⟩⟩
     ·rw [hCs]; show 0 + 0 + grownCap W l.length 0 e * 1 ≤ grownCap W l.length 0 e; omega
     ·rw [hCs]; show 0 + 0 + grownCap W l.length 0 e * 1 = grownCap W l.length 0 e; omega
   ·cases h
  ·cases h
 ·rename_i ds e id g off n sz cp hs hd
  split at h
  ·rename_i he
   cases hr : getRow H id g with
   | none => rw [hr] at h; cases h
   | some r =>
   rw [hr] at h
   simp only [Option.bind_some] at h
   split at h
   ·rename_i hc
    obtain ⟨hr2, hsd, hn⟩ := hc
    injection h with h
    injection h with h1 h2
    subst h1 h2
    subst hsd
    obtain ⟨l, a, c, hloc, rfl, hnc, ha, hcap, hcp⟩ := hx
    have ha := ha.resolve_right (by omega)
    subst ha
    obtain ⟨hid, hlo, hlb, C, t, fr, hC, hcr, hfr, hCs, hlt⟩ := row_own hR hr hr2 hloc
    obtain ⟨fr', hf1, hf2, hf3, hf4⟩ := freeze_old W hC hfr
    have hlt2 : id < H.length := (List.getElem?_eq_some_iff.1 hid).1
    have hadd : renAdd ρ id (AB.gen (.row g r.1 true)) l = ρ := by
     show Ren.mk _ _ = _
     cases ρ with
     | mk rr m =>
     congr 1
     funext i k
     split
     ·rename_i e
      obtain ⟨rfl, rfl⟩ := e
      exact hloc.symm
     ·rfl
    have hup := hR.upd (W' := W.freeze ⟨l.blk, C.size, none⟩ 1) id (.row g r.1 true) l (by omega) (fun b' hb' => by rw [hid] at hb'; injection hb' with hb'; subst hb'; exact ⟨Nat.le_refl _, rfl⟩) (.inr hloc)
     (.inl ⟨_, l, hid, hloc, hlo, rfl⟩) hlo (fun k _ hk => hf3 k hk) (by rw [hf4]; exact Nat.le_refl _) rfl rfl rfl
     ⟨hlo, C, t, fr', hf1, by rw [hadd]; exact hcr, fun _ => ⟨hlb, hf2, hCs, hlt⟩, fun e => by cases e⟩
    rw [hadd, updH_set hlt2] at hup
    have hself : H.set id (.row g r.1 true) = H := by
     apply List.ext_getElem?
     intro i
     rw [List.getElem?_set]
     by_cases e : id = i
     ·subst e; rw [if_pos rfl, if_pos hlt2, hid]
     ·rw [if_neg e]
    rw [hself] at hup
    refine ⟨_, _, ρ, ?_, ⟨l, _, c, hloc, rfl, hnc, .inl rfl, hcap, hcp⟩, hup⟩
    have hshape : W.shape? l.blk = some (t, C.size) := by simp [World.shape?, hC]
    rw [hs] at hd
    injection hd with hd
    injection hd with hd
    subst hd
    simp [convert, run_underlying hs, run_underlying he, markStringish, hshape]
   ·cases h
  ·cases h
 ·rename_i e hs hd _
  split at h
  ·rename_i he
   split at h
   ·obtain rfl : u = .slice none 0 0 := hx
    injection h with h
    injection h with h1 h2
    subst h1 h2
    exact ⟨_, W, ρ, run_convert_bytes_nil W s e hs he 0 0 d hd, rfl, Step.refl hR⟩
   ·rename_i id g off n sz cp _
    cases hr : getRow H id g with
    | none => rw [hr] at h; cases h
    | some r =>
    rw [hr] at h
    simp only [Option.bind_some] at h
    split at h
    ·rename_i hc
     obtain ⟨rfl, hfit⟩ := hc
     obtain ⟨l', hl', h⟩ := Option.map_eq_some_iff.1 h
     injection h with h1 h2
     subst h1 h2
     obtain ⟨ns, hns, rfl⟩ := bytesOf_some hl'
     obtain ⟨l, a, c, hloc, rfl, hnc, ha, _, _⟩ := hx
     obtain ⟨C, t, fr, hC, hcr, _⟩ := row_at hR hr hloc
     obtain ⟨s1, s2, s3⟩ := hcr.seg hfit
     rw [hns] at s1
     have hus := ints_of s1
     have hlen : ns.length = n := by
      have := congrArg List.length hns
      simp at this
      omega
     have hl : (loadCells a n).run P W = .ok (ns.map (Value.int .u8)).toArray W := by
      have := run_loadCells_list (P := P) W a (ns.map (Value.int .u8)) (fun j v hj => by
       have hlt := (List.getElem?_eq_some_iff.1 hj).1
       rw [List.length_map, hlen] at hlt
       have ha := ha.resolve_right (by omega)
       subst ha
       rw [add_lit]
       rw [← hus, List.getElem?_take, if_pos hlt, List.getElem?_drop] at hj
       simpa [World.cell?, hC] using hj)
      simpa [hlen] using this
     refine ⟨_, W, ρ, ?_, rfl, Step.refl hR⟩
     rw [run_convert_bytes_string W s d e _ n c hs he hd, run_bytesToString W _ n c ns hl, foldl_push_bytes]
     simp [ByteArray.empty, ByteArray.emptyWithCapacity]
     rfl
    ·cases h
   ·rename_i cs n sz _
    split at h
    ·rename_i hc
     obtain ⟨rfl, hfit⟩ := hc
     obtain ⟨l', hl', h⟩ := Option.map_eq_some_iff.1 h
     injection h with h1 h2
     subst h1 h2
     obtain ⟨ns, hns, rfl⟩ := bytesOf_some hl'
     obtain ⟨a, c, rfl, hnc, ha⟩ := VI_isl hx
     have hlen : ns.length = n := by
      have := congrArg List.length hns
      simp at this
      omega
     have hl : (loadCells a n).run P W = .ok (ns.map (Value.int .u8)).toArray W := by
      have := run_loadCells_list (P := P) W a (ns.map (Value.int .u8)) (fun j v hj => by
       have hlt := (List.getElem?_eq_some_iff.1 hj).1
       rw [List.length_map] at hlt
       have hne : cs ≠ [] := by
        rintro rfl
        simp at hfit
        omega
       obtain ⟨blk, base, C, rfl, k1, k2⟩ := ha.resolve_left hne
       obtain ⟨⟨A, t, fr, hC, hsub⟩, _⟩ := hR.imm _ _ k1
       rw [List.getElem?_map] at hj
       obtain ⟨y, hy, rfl⟩ := Option.map_eq_some_iff.1 hj
       have hcs : cs[j]? = some (V.int .u8 y) := by rw [hns, List.getElem?_map, hy]; rfl
       obtain ⟨u, h1, h2, h3⟩ := VIs_iff.1 (k2.sub hsub) _ _ hcs
       simp only [VI] at h3
       subst h3
       rw [add_lit]
       simpa [World.cell?, hC] using h1)
      simpa [hlen] using this
     refine ⟨_, W, ρ, ?_, rfl, Step.refl hR⟩
     rw [run_convert_bytes_string W s d e _ n c hs he hd, run_bytesToString W _ n c ns hl, foldl_push_bytes]
     simp [ByteArray.empty, ByteArray.emptyWithCapacity]
     rfl
    ·cases h
   ·cases h
  ·cases h
 ·cases h
theorem immConv_sim (hR : Rel P b0 ρ H W) {s d : TypeId} {x v : V} {u : Value} (hx : VR ρ x u) (h : immCv P s d x = some v) : Out P b0 ρ H W ((convert s d u).run P W) v H := by
 unfold immCv at h
 split at h
 ·rename_i e l hs hd
  obtain rfl : u = .string ⟨l.toArray⟩ := hx
  split at h
  ·rename_i he
   split at h
   ·rename_i hc
    injection h with h
    subst h
    have hge := grownCap_ge W l.length 0 e
    have hq : (Question.appendCap l.length 0 e).cut (W.tape W.drawn (.appendCap l.length 0 e)) = grownCap W l.length 0 e := rfl
    have hcr : CellsRel ρ (l.map fun b => V.int .u8 b.toNat) (l.toArray.map (fun b : UInt8 => Value.int .u8 b.toNat) ++ Array.replicate (grownCap W l.length 0 e - l.length) (Value.int .u8 0)) 0 := by
     have := CellsRel.of (ρ := ρ) (cs := l.map fun b => V.int .u8 b.toNat) (us := l.map fun b => Value.int .u8 b.toNat) (spare := List.replicate (grownCap W l.length 0 e - l.length) (Value.int .u8 0)) (VL.map _ _ (fun b => rfl) l) (by simp; intros; rfl) []
     intro j w hj
     obtain ⟨y, hy, r⟩ := this j w hj
     refine ⟨y, ?_, r⟩
     rw [← hy]
     congr 1
     apply Array.ext'
     simp
    have hCs : (l.toArray.map (fun b : UInt8 => Value.int .u8 b.toNat) ++ Array.replicate (grownCap W l.length 0 e - l.length) (Value.int .u8 0)).size = grownCap W l.length 0 e := by simp; omega
    have hfr := freeze_heap W.drew (l.toArray.map (fun b : UInt8 => Value.int .u8 b.toNat) ++ Array.replicate (grownCap W l.length 0 e - l.length) (Value.int .u8 0)) e (W.drew.alloc (.cells (l.toArray.map (fun b : UInt8 => Value.int .u8 b.toNat) ++ Array.replicate (grownCap W l.length 0 e - l.length) (Value.int .u8 0)) e)) rfl
    have hst := hR.pushI (fr := (_, _ + 1)) (t := e) hfr rfl rfl rfl
    refine ⟨.slice (some ⟨W.heap.size, 0, none⟩) l.length (grownCap W l.length 0 e), _, _, ?_, ?_, hst⟩
    ·simp only [convert, run_underlying hs, run_underlying hd, run_underlying he, Sem.run_bind, Result.andThen_ok, Conv.stringToBytes, run_choose, Question.forced, bytes_size, hq, newRow, run_newObj, Sem.run_pure, markStringish, run_shape]
     simp [World.shape?]
    ·refine isl_VI hge (by simp only [renImm, if_true]) (VIs_of (immL_iff.2 fun v hv => ?_) (hcr.mono hst.le))
     obtain ⟨x, _, rfl⟩ := List.mem_map.1 hv
     rfl
   ·cases h
  ·cases h
 ·cases h
theorem src_sim_k (hR : Rel P b0 ρ H W) {x : V} {u : Value} {ys : List V} {m sz : Nat} (hx : VR ρ x u) (h : srcCells H x = some (ys, m)) (hl : ys.length = m * sz) :
  ∃ us, VL (VC ρ) ys us ∧ (Builtin.lenOf u = pure m) ∧ ∀ k, k ≤ m → (Builtin.firstCells sz k u).run P W = .ok (us.take (k * sz)).toArray W := by
 unfold srcCells at h
 split at h
 ·simp only [Option.some.injEq, Prod.mk.injEq] at h
  obtain ⟨rfl, rfl⟩ := h
  have hx' : u = .slice none 0 0 := hx
  subst hx'
  exact ⟨[], trivial, rfl, fun k _ => by simp [Builtin.firstCells]⟩
 ·rename_i id g off n sz' cp
  cases hr : getRow H id g with
  | none => rw [hr] at h; cases h
  | some r =>
   rw [hr] at h
   simp only [Option.bind_some] at h
   split at h
   ·rename_i hfit
    simp only [Option.some.injEq, Prod.mk.injEq] at h
    obtain ⟨rfl, rfl⟩ := h
    obtain ⟨l, a, c, hloc, rfl, hnc, ha, _, _⟩ := hx
    obtain ⟨C, t, fr, hC, hcr, _⟩ := row_at hR hr hloc
    obtain ⟨s1, s2, s3⟩ := hcr.seg hfit
    refine ⟨_, s1, rfl, fun k hk => ?_⟩
    have hlen : ((C.toList.drop (l.base + off)).take (n * sz')).length = n * sz := by rw [← s1.length, hl]
    have hkn : k * sz ≤ n * sz := Nat.mul_le_mul_right _ hk
    exact run_firstCells_some (P := P) W sz k a n c _ (by rw [List.length_take, hlen]; omega) (fun j v hj => by
     have hlt := (List.getElem?_eq_some_iff.1 hj).1
     rw [List.length_take, hlen] at hlt
     have hn : n ≠ 0 := fun e => by subst e; simp at hlt
     have ha := ha.resolve_right (by omega)
     subst ha
     rw [add_lit]
     have hnn : n * sz' = n * sz := by rw [← hl]; simp; omega
     rw [List.getElem?_take, if_pos (by omega), List.getElem?_take, if_pos (by omega), List.getElem?_drop] at hj
     simpa [World.cell?, hC] using hj)
   ·cases h
 ·rename_i s
  simp only [Option.some.injEq, Prod.mk.injEq] at h
  obtain ⟨rfl, rfl⟩ := h
  have hx' : u = .string ⟨s.toArray⟩ := hx
  subst hx'
  refine ⟨s.map fun b => .int .u8 b.toNat, VL.map _ _ (fun b => rfl) s, ?_, fun k hk => ?_⟩
  ·show (pure (⟨s.toArray⟩ : ByteArray).size : Sem Nat) = _
   congr 1
  ·simp only [Builtin.firstCells, Sem.run_pure]
   congr 1
   rw [ByteArray.data_extract]
   have hs1 : sz = 1 ∨ s.length = 0 := by
    simp at hl
    rcases Nat.eq_zero_or_pos s.length with h | h
    ·exact .inr h
    ·left
     have : s.length * 1 = s.length * sz := by omega
     exact (Nat.eq_of_mul_eq_mul_left h this).symm
   rcases hs1 with rfl | h0
   ·apply Array.ext'
    simp [List.extract_eq_take_drop, List.map_take]
   ·have : s = [] := List.eq_nil_of_length_eq_zero h0
    subst this
    apply Array.ext'
    simp
 ·rename_i cs n sz'
  split at h
  ·rename_i hfit
   simp only [Option.some.injEq, Prod.mk.injEq] at h
   obtain ⟨rfl, rfl⟩ := h
   obtain ⟨a, c, rfl, hnc, ha⟩ := VI_isl hx
   by_cases hcs : cs = []
   ·subst hcs
    refine ⟨[], trivial, rfl, fun k hk => ?_⟩
    have hkn : k * sz ≤ n * sz := Nat.mul_le_mul_right _ hk
    simp only [List.length_nil] at hl
    exact run_firstCells_some (P := P) W sz k a n c _ (by simp; omega) (fun j v hj => by simp at hj)
   ·obtain ⟨blk, base, C, rfl, k1, k2⟩ := ha.resolve_left hcs
    obtain ⟨⟨C, t, fr, hC, hsub⟩, _⟩ := hR.imm _ _ k1
    obtain ⟨s1, s2, s3⟩ := (VIs_rel (k2.sub hsub)).seg (off := 0) (n := cs.length) (by simp)
    rw [List.drop_zero, List.take_length] at s1
    refine ⟨_, s1, rfl, fun k hk => ?_⟩
    have hlen : ((C.toList.drop (base + 0)).take cs.length).length = n * sz := by rw [← s1.length, hl]
    have hkn : k * sz ≤ n * sz := Nat.mul_le_mul_right _ hk
    exact run_firstCells_some (P := P) W sz k ⟨blk, base, none⟩ n c _ (by rw [List.length_take, hlen]; omega) (fun j v hj => by
     have hlt := (List.getElem?_eq_some_iff.1 hj).1
     rw [List.length_take, hlen] at hlt
     rw [add_lit]
     rw [List.getElem?_take, if_pos (by omega), List.getElem?_take, if_pos (by omega), List.getElem?_drop] at hj
     simpa [World.cell?, hC] using hj)
  ·cases h
 ·cases h
theorem copy_sim (hR : Rel P b0 ρ H W) {t t1 ty : TypeId} {d x v : V} {ud ux : Value} {H' : Hp} (hd : VR ρ d ud) (hx : VR ρ x ux) (h : copyV P t H d x = some (v, H')) :
  Out P b0 ρ H W ((Builtin.copy_ #[t, t1] ty #[ud, ux]).run P W) v H' := by
 unfold copyV at h
 split at h
 case h_2 => cases h
 rename_i e ht
 cases hsz : szOf P e with
 | none => rw [hsz] at h; cases h
 | some sz =>
 cases hsrc : srcCells H x with
 | none => rw [hsz, hsrc] at h; cases h
 | some q =>
 obtain ⟨ys, m⟩ := q
 rw [hsz, hsrc] at h
 simp only [Option.bind_some] at h
 split at h
 ·split at h
  ·rename_i hyl
   simp only [Option.some.injEq, Prod.mk.injEq] at h
   obtain ⟨rfl, rfl⟩ := h
   obtain rfl : ud = .slice none 0 0 := hd
   obtain ⟨us, hnv, hlen, hfirst⟩ := src_sim_k (P := P) hR hx hsrc hyl
   have hl2 : (Builtin.lenOf ux).run P W = .ok m W := by rw [hlen]; rfl
   refine ⟨.int .i64 0, W, ρ, ?_, rfl, Step.refl hR⟩
   have h0 := hfirst 0 (Nat.zero_le _)
   simp [Builtin.copy_, run_underlying ht, hl2, run_szOf hsz, h0, goInt]
  ·cases h
 ·rename_i id g off n sz' cp
  cases hr : getRow H id g with
  | none => rw [hr] at h; cases h
  | some r =>
  rw [hr] at h
  simp only [Option.bind_some] at h
  split at h
  ·rename_i hc
   obtain ⟨rfl, hyl, hall, hr2, hfit⟩ := hc
   simp only [Option.some.injEq, Prod.mk.injEq] at h
   obtain ⟨rfl, rfl⟩ := h
   obtain ⟨l, a, c, hloc, rfl, hnc, ha, hcap, hcp⟩ := hd
   obtain ⟨us, hnv, hlen, hfirst⟩ := src_sim_k (P := P) hR hx hsrc hyl
   have hl2 : (Builtin.lenOf ux).run P W = .ok m W := by rw [hlen]; rfl
   have hone := VL.cells' hnv hall
   obtain ⟨hid, hlo, hlb, C, t', fr, hC, hcr, hfr, hCs, hlt⟩ := row_own hR hr hr2 hloc
   have hk := hfirst (min m n) (Nat.min_le_left _ _)
   have hmn : min m n * sz' ≤ n * sz' := Nat.mul_le_mul_right _ (Nat.min_le_right _ _)
   have hmn2 : min m n * sz' ≤ m * sz' := Nat.mul_le_mul_right _ (Nat.min_le_left _ _)
   have hul : us.length = m * sz' := by rw [← hnv.length, hyl]
   have htl : (us.take (min m n * sz')).length = min m n * sz' := by rw [List.length_take, hul]; omega
   have htl2 : (ys.take (min m n * sz')).length = min m n * sz' := by rw [List.length_take, hyl]; omega
   have hone2 : ∀ u ∈ us.take (min m n * sz'), u.oneCell' = true := fun u hu => hone u (List.mem_of_mem_take hu)
   have hst := run_storeF (P := P) (g := l.blk) (o := l.base + off) (t := t') (fr := fr) (us.take (min m n * sz')) 0 C W hC hfr (by omega) hone2
   simp only [Nat.add_zero] at hst
   have hset := hcr.set (off := off) (hnv.take (min m n * sz')) hone2 (by omega) (by omega)
   refine ⟨.int .i64 (min m n : Nat), _, ρ, ?_, rfl, hR.put hid rfl hloc hset (by simp; omega) (by rw [setAt_length _ _ _ (by omega)]; omega)⟩
   by_cases hc0 : c = 0
   ·have hn0 : n = 0 := by omega
    subst hn0
    have hz : us.take (min m 0 * sz') = [] := by simp
    have hset0 : W.setRow l.blk (C.toList.take (l.base + off) ++ us.take (min m 0 * sz') ++ C.toList.drop (l.base + off + (us.take (min m 0 * sz')).length)).toArray = W := by
     rw [hz]
     simp
     exact setRow_self W l.blk C t' fr hC
    rw [hset0]
    have hk0 : (Builtin.firstCells sz' 0 ux).run P W = .ok #[] W := by simpa using hfirst 0 (Nat.zero_le _)
    simp [Builtin.copy_, run_underlying ht, hl2, run_szOf hsz, hk0, goInt, storeCells]
   ·have ha := ha.resolve_right hc0
    subst ha
    have hnm : Nat.min m n = min m n := rfl
    simp [Builtin.copy_, run_underlying ht, hl2, run_szOf hsz, hnm, hk, goInt, hst]
  ·cases h
 ·cases h
end
end Go.An
