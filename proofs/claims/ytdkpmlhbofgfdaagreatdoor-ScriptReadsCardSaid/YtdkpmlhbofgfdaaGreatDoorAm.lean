/-
  An abstract machine of our own over the model's programs: values without capacities, numbered blocks, one order of operations, executable with fuel. Definitions only; what it is worth is proved in the texts behind this one.
-/
import Derived.Calls
import Derived.Orders
import Derived.Below
import Derived.LoopN
import Derived.KernelRfl
namespace Go.Proofs.YtdkpmlhbofgfdaaGreatDoor.AM
open Go

/-! ### A map from numbers, as a tree -/
inductive T (α : Type) where
  | nil
  | node (l : T α) (v : Option α) (r : T α)
namespace T
variable {α : Type}
def get : T α → Nat → Option α
  | .nil, _ => none
  | .node l v r, k => bif Nat.beq k 0 then v else bif Nat.beq (k % 2) 1 then l.get (k / 2) else r.get (k / 2 - 1)
def setF : Nat → T α → Nat → α → T α
  | 0, t, _, _ => t
  | f + 1, .nil, k, v => bif Nat.beq k 0 then .node .nil (some v) .nil else bif Nat.beq (k % 2) 1 then .node (setF f .nil (k / 2) v) none .nil else .node .nil none (setF f .nil (k / 2 - 1) v)
  | f + 1, .node l x r, k, v => bif Nat.beq k 0 then .node l (some v) r else bif Nat.beq (k % 2) 1 then .node (setF f l (k / 2) v) x r else .node l x (setF f r (k / 2 - 1) v)
def set (t : T α) (k : Nat) (v : α) : T α := setF (k + 1) t k v
end T

/-! ### Values -/
inductive AV where
  | bool (b : Bool)
  | int (k : IntKind) (n : Int)
  | str (s : List UInt8)
  | nilp
  | ptr (b o : Nat)
  | nils
  | slc (b o len cap : Nat)
  | nilm
  | map (b : Nat)
  | nilFn
  | fn (f : Fn) (first captured : List AV)
  | yld (b : Nat)
  | nilIface
  | iface (t : TypeId) (v : AV)
  | agg (cs : List AV)
  | tup (vs : List AV)
  deriving Inhabited, Repr
abbrev AV.undef : AV := .tup []
def AV.cells : AV → List AV
  | .agg cs => cs
  | v => [v]
/-- may it lie in one cell? -/
def AV.one : AV → Bool
  | .agg _ | .tup _ => false
  | _ => true
/-- equal, where that is easily told -/
def AV.same1 : AV → AV → Bool
  | .bool a, .bool b => a == b
  | .int k a, .int j b => k == j && a == b
  | .str a, .str b => a == b
  | .nilp, .nilp | .nils, .nils | .nilm, .nilm | .nilFn, .nilFn | .nilIface, .nilIface => true
  | .ptr a b, .ptr c d => a == c && b == d
  | .slc a b c d, .slc a' b' c' d' => a == a' && b == b' && c == c' && d == d'
  | .map a, .map b => a == b
  | _, _ => false
def AV.sameL : List AV → List AV → Bool
  | [], [] => true
  | x :: xs, y :: ys => AV.same1 x y && AV.sameL xs ys
  | _, _ => false
def AV.same : AV → AV → Bool
  | .agg xs, .agg ys => AV.sameL xs ys
  | .tup xs, .tup ys => AV.sameL xs ys
  | x, y => AV.same1 x y

/-! ### Memory -/
structure Blk where
  cells : List AV
  es : Nat := 0
  ro : Bool := false
  live : Bool := true
  ty : Nat := 0
  deriving Inhabited, Repr
/-- n cells from o on -/
def cut (cs : List AV) (o n : Nat) : Option (List AV) := if o + n ≤ cs.length then some ((cs.drop o).take n) else none
/-- cells from o on, written over -/
def over (cs : List AV) (o : Nat) : List AV → List AV
  | [] => cs
  | v :: vs => over (cs.set o v) (o + 1) vs

abbrev Env := T AV
def Env.get (e : Env) (i : Nat) : AV := (T.get e i).getD .undef
def Env.put (e : Env) (d : Option Nat) (v : AV) : Env :=
  match d with
  | some d => T.set e d v
  | none => e
def Env.init : Nat → List AV → Env → Env
  | _, [], e => e
  | i, v :: vs, e => Env.init (i + 1) vs (T.set e i v)

inductive Opd where
  | t (i : Nat)
  | c (v : AV)
  deriving Inhabited, Repr
def Opd.ev (x : Opd) (e : Env) : AV :=
  match x with
  | .t i => Env.get e i
  | .c v => v

/-! ### Operations -/
inductive ROp where
  | mv (x : Opd)
  | pick (c a b : Opd)
  | nilck (x : Opd)
  | bin (op : BinOp) (x y : Opd)
  | beq (neg : Bool) (x y : Opd)
  | nileq (k : Nat) (neg : Bool) (x y : Opd)
  | seq (ks : List Nat) (neg : Bool) (x y : Opd)
  | neg (x : Opd)
  | not (x : Opd)
  | cvInt (k : IntKind) (x : Opd)
  | cvRune (x : Opd)
  | cvStr (x : Opd)
  | mkIface (t : TypeId) (x : Opd)
  | mkFn (f : Fn) (first captured : List Opd)
  | build (zero : List AV) (parts : List (Nat × Nat × Opd))
  | field (off : Nat) (sz : Option Nat) (x : Opd)
  | fieldAddr (off : Nat) (x : Opd)
  | idxS (es : Nat) (x i : Opd)
  | idxA (n es : Nat) (x i : Opd)
  | idxArr (n es : Nat) (sz : Option Nat) (x i : Opd)
  | idxStr (x i : Opd)
  | slStr (x : Opd) (lo hi : Option Opd)
  | slS (es : Nat) (x : Opd) (lo hi : Option Opd)
  | slA (n es : Nat) (x : Opd) (lo hi : Option Opd)
  | extract (i : Nat) (x : Opd)
  | lng (k : Nat) (x : Opd)
  | lenC (n : Nat)
  | mnmx (isMax : Bool) (x : Opd) (xs : List Opd)
  | load (sz : Option Nat) (a : Opd)
  | strOfBytes (x : Opd)
  | strOfRunes (x : Opd)
  | toUns (x : Opd)
  | fromUns (tbl : List (Nat × Nat × Nat)) (x : Opd)
  | pteq (neg : Bool) (x y : Opd)
  | sldata (x : Opd)
  | lookup (kk : Nat) (zero : List AV) (zagg : Bool) (x k : Opd) (ok : Bool)
  deriving Inhabited, Repr
inductive LOp where
  | box (x : Opd)
  | alloc (zero : List AV)
  | allocT (ty : Nat) (zero : List AV)
  | boxT (ty : Nat) (x : Opd)
  | bslice (es n : Nat) (zero : List AV) (parts : List (Nat × Opd))
  | mkslice (es bytes : Nat) (zero : List AV) (l c : Opd)
  | bytesOfStr (x : Opd)
  | runesOfStr (x : Opd)
  | mkMap
  | rng (x : Opd)
  deriving Inhabited, Repr
inductive EOp where
  | store (n : Nat) (a v : Opd)
  | append (es bytes : Nat) (s x : Opd)
  | appendT (ty es bytes : Nat) (s x : Opd)
  | strUns (ety : Nat) (x n : Opd)
  | mapDel (kk : Nat) (m k : Opd)
  | copy (es : Nat) (d s : Opd)
  | clear (zero : List AV) (s : Opd)
  | call (f : FuncId) (args : List Opd)
  | callv (f : Opd) (args : List Opd)
  | mapUpd (kk : Nat) (m k v : Opd)
  | mark (x : Opd)
  | nxt (x : Opd)
  | fail
  deriving Inhabited, Repr
inductive AOp where
  | r (x : ROp)
  | a (x : LOp)
  | e (x : EOp)
  deriving Inhabited, Repr
structure Echo where
  dst : Option Nat
  guard : Option (Nat × Bool)
  op : ROp
  deriving Inhabited, Repr
structure AOper where
  ix : Nat
  dst : Option Nat
  guard : Option (Nat × Bool)
  op : AOp
  echo : List Echo
  deriving Inhabited, Repr
inductive ACode where
  | skip
  | ops (l : List AOper)
  | seq (a b : ACode)
  | cond (c : Opd) (a b : ACode)
  | block (id : Nat) (c : ACode)
  | loop (c : ACode)
  | rangeF (g : Opd) (N : Nat) (ps : List Nat) (assign body : ACode)
  | exit (id : Nat)
  | ret
  | fail
  deriving Inhabited, Repr
inductive ARes where
  | t (i : Nat)
  | cell (i : Nat) (sz : Option Nat)
  deriving Inhabited, Repr
structure AFunc where
  ntmps : Nat
  res : List ARes
  body : ACode
  deriving Inhabited, Repr

inductive AEx where
  | normal
  | exit (id : Nat)
  | ret
  deriving Inhabited, Repr, DecidableEq
/-! ### Memory -/
/-- a range over a function: its state (0 ready, 1 busy, 2 done, 3 left), the jump that is pending, where it began -/
structure ALoop where
  st : Nat
  pend : AEx
  N : Nat
  env : Env
  ps : List Nat
  assign : ACode
  body : ACode
inductive AObj where
  | row (B : Blk)
  | map (es : List (AV × AV))
  | loop (R : ALoop)
  | itr (s : List UInt8) (pos : Nat)
instance : Inhabited AObj := ⟨.map []⟩
structure AHeap where
  next : Nat
  tr : T AObj
def AHeap.get (H : AHeap) (b : Nat) : Option AObj := H.tr.get b
def AHeap.set (H : AHeap) (b : Nat) (o : AObj) : AHeap := { H with tr := H.tr.set b o }
def AHeap.alloc (H : AHeap) (o : AObj) : AHeap := ⟨H.next + 1, H.tr.set H.next o⟩
def AHeap.row (H : AHeap) (b : Nat) : Option Blk :=
  match H.get b with
  | some (.row B) => if B.live then some B else none
  | _ => none

/-! ### What the operations do -/
def intBin (op : BinOp) (k : IntKind) (a b : Int) : Option AV :=
  match op with
  | .add => some (.int k (k.wrap (a + b)))
  | .sub => some (.int k (k.wrap (a - b)))
  | .mul => some (.int k (k.wrap (a * b)))
  | .quo => if b = 0 then none else some (.int k (k.wrap (a.tdiv b)))
  | .rem => if b = 0 then none else some (.int k (a.tmod b))
  | .and => some (.int k (k.wrap (BitVec.ofInt k.bits a &&& BitVec.ofInt k.bits b).toNat))
  | .or => some (.int k (k.wrap (BitVec.ofInt k.bits a ||| BitVec.ofInt k.bits b).toNat))
  | .xor => some (.int k (k.wrap (BitVec.ofInt k.bits a ^^^ BitVec.ofInt k.bits b).toNat))
  | .andNot => some (.int k (k.wrap (BitVec.ofInt k.bits a &&& ~~~BitVec.ofInt k.bits b).toNat))
  | .eql => some (.bool (a == b))
  | .neq => some (.bool (a != b))
  | .lss => some (.bool (decide (a < b)))
  | .leq => some (.bool (decide (a ≤ b)))
  | .gtr => some (.bool (decide (a > b)))
  | .geq => some (.bool (decide (a ≥ b)))
  | _ => none
def shiftBin (op : BinOp) (k : IntKind) (a b : Int) : Option AV :=
  if b < 0 then none else
  match op with
  | .shl => some (.int k (k.wrap (a * 2 ^ (min b.toNat k.bits))))
  | .shr => some (.int k (a.fdiv (2 ^ (min b.toNat k.bits))))
  | _ => none
def strBin (op : BinOp) (a b : List UInt8) : Option AV :=
  match op with
  | .add => if a.length + b.length ≤ 9223372036854775807 then some (.str (a ++ b)) else none
  | .eql => some (.bool (a == b))
  | .neq => some (.bool !(a == b))
  | .lss => some (.bool (Op.bytesLess a b))
  | .leq => some (.bool (Op.bytesLess a b || a == b))
  | .gtr => some (.bool !(Op.bytesLess a b || a == b))
  | .geq => some (.bool !(Op.bytesLess a b))
  | _ => none
def binV (op : BinOp) : AV → AV → Option AV
  | .int k a, .int j b =>
    match op with
    | .shl | .shr => shiftBin op k a b
    | _ => if k = j then intBin op k a b else none
  | .str a, .str b => match op with | .shl | .shr => none | _ => strBin op a b
  | _, _ => none
/-- nil against a value, or nil: of pointers 0, slices 1, maps 2, functions 3, interfaces 4 -/
def nilKind : AV → Option (Nat × Bool)
  | .nilp => some (0, true)
  | .ptr _ _ => some (0, false)
  | .nils => some (1, true)
  | .slc _ _ _ _ => some (1, false)
  | .nilm => some (2, true)
  | .map _ => some (2, false)
  | .nilFn => some (3, true)
  | .fn _ _ _ => some (3, false)
  | .yld _ => some (3, false)
  | .nilIface => some (4, true)
  | .iface _ _ => some (4, false)
  | _ => none
def nileqV (k : Nat) (x y : AV) : Option Bool :=
  match nilKind x, nilKind y with
  | some (i, a), some (j, b) => if i = k ∧ j = k ∧ (a || b) then some (a && b) else none
  | _, _ => none
/-- cells of plain numbers, bools, strings: 0 bools, 1 numbers, 2 strings -/
def cellsEq : List Nat → List AV → List AV → Option Bool
  | [], [], [] => some true
  | 0 :: ks, .bool a :: xs, .bool b :: ys => if a = b then cellsEq ks xs ys else some false
  | 1 :: ks, .int k a :: xs, .int j b :: ys => if k = j then (if a = b then cellsEq ks xs ys else some false) else none
  | 2 :: ks, .str a :: xs, .str b :: ys => if a = b then cellsEq ks xs ys else some false
  | _, _, _ => none
def buildIn (cs : List AV) : List (Nat × Nat × AV) → Option (List AV)
  | [] => some cs
  | (o, s, v) :: r => if v.cells.length = s ∧ o + s ≤ cs.length then buildIn (over cs o v.cells) r else none
def sub (cs : List AV) (o : Nat) : Option Nat → Option AV
  | none => cs[o]?
  | some n => some (.agg ((cs.drop o).take n))
def bound (x : AV) (y : Nat) : Option Nat :=
  match x with
  | .int _ i => if 0 ≤ i ∧ i ≤ y then some i.toNat else none
  | _ => none
def bounds (len cap : Nat) (lo hi : Option AV) : Option (Nat × Nat) :=
  match (match hi with | some v => bound v cap | none => some len) with
  | none => none
  | some h =>
    match (match lo with | some v => bound v h | none => some 0) with
    | none => none
    | some l => some (l, h)
def mnmx2 (isMax : Bool) : AV → AV → Option AV
  | .int k x, .int j y => if k = j then some (.int k (if isMax then (if y > x then y else x) else (if y < x then y else x))) else none
  | _, _ => none
def mnmxL (isMax : Bool) : AV → List AV → Option AV
  | v, [] => some v
  | v, w :: ws => match mnmx2 isMax v w with | some u => mnmxL isMax u ws | none => none
/-- the characters of a text -/
def runesL (s : ByteArray) : Nat → Nat → List AV
  | 0, _ => []
  | b + 1, i => if i < s.size then .int .i32 (Int.ofNat (Utf8.decode s i).1) :: runesL s b (i + (Utf8.decode s i).2) else []
def runesOf : List AV → Option (List UInt8)
  | [] => some []
  | .int .i32 n :: r => (match runesOf r with | some l => some ((Utf8.encode n).data.toList ++ l) | none => none)
  | _ => none
def bytesOf : List AV → Option (List UInt8)
  | [] => some []
  | .int .u8 n :: r => match bytesOf r with | some l => some (UInt8.ofNat n.toNat :: l) | none => none
  | _ :: _ => none
def ofBytes (l : List UInt8) : List AV := l.map fun b => .int .u8 b.toNat
def keyEq : AV → AV → Option Bool
  | .int k a, .int j b => if k = j then some (a == b) else none
  | .str a, .str b => some (a == b)
  | .bool a, .bool b => some (a == b)
  | _, _ => none
def findKey (k : AV) : List (AV × AV) → Nat → Option (Option (Nat × AV))
  | [], _ => some none
  | (x, v) :: es, i =>
    match keyEq k x with
    | some true => some (some (i, v))
    | some false => findKey k es (i + 1)
    | none => none
/-- a key of a kind: 0 bools, 1 numbers, 2 strings -/
def isKind : Nat → AV → Bool
  | 0, .bool _ | 1, .int _ _ | 2, .str _ => true
  | _, _ => false
def mapOf (H : AHeap) : AV → Option (List (AV × AV))
  | .nilm => some []
  | .map b => match H.get b with | some (.map es) => some es | _ => none
  | _ => none
def hit (z : AV) : Option (Nat × AV) → AV × Bool
  | some (_, v) => (v, true)
  | none => (z, false)
def inIndex (x : AV) (n : Nat) : Option Nat :=
  match x with
  | .int _ i => if 0 ≤ i ∧ i < n then some i.toNat else none
  | _ => none

def ROp.run (H : AHeap) (e : Env) : ROp → Option AV
  | .mv x => some (x.ev e)
  | .pick c a b => match c.ev e with | .bool t => some (if t then a.ev e else b.ev e) | _ => none
  | .nilck x => match x.ev e with | .ptr b o => some (.ptr b o) | .fn (.func f) a b => some (.fn (.func f) a b) | .yld b => some (.yld b) | .iface t v => some (.iface t v) | _ => none
  | .bin op x y => binV op (x.ev e) (y.ev e)
  | .beq g x y => match x.ev e, y.ev e with | .bool a, .bool b => some (.bool (xor g (a == b))) | _, _ => none
  | .nileq k g x y => match nileqV k (x.ev e) (y.ev e) with | some b => some (.bool (xor g b)) | none => none
  | .seq ks g x y => match x.ev e, y.ev e with | .agg xs, .agg ys => if xs.length = ks.length ∧ ys.length = ks.length then (match cellsEq ks xs ys with | some b => some (.bool (xor g b)) | none => none) else none | _, _ => none
  | .neg x => match x.ev e with | .int k n => some (.int k (k.wrap (0 - n))) | _ => none
  | .not x => match x.ev e with | .bool b => some (.bool !b) | _ => none
  | .cvInt k x => match x.ev e with | .int _ n => some (.int k (k.wrap n)) | _ => none
  | .cvRune x => match x.ev e with | .int _ n => some (.str (Utf8.encode n).data.toList) | _ => none
  | .cvStr x => match x.ev e with | .str s => some (.str s) | _ => none
  | .mkIface t x => some (.iface t (x.ev e))
  | .mkFn f first captured => some (.fn f (first.map (·.ev e)) (captured.map (·.ev e)))
  | .build zero parts => match buildIn zero (parts.map fun p => (p.1, p.2.1, p.2.2.ev e)) with | some cs => some (.agg cs) | none => none
  | .field off sz x => match x.ev e with | .agg cs => sub cs off sz | _ => none
  | .fieldAddr off x => match x.ev e with | .ptr b o => some (.ptr b (o + off)) | _ => none
  | .idxS es x i => match x.ev e with | .slc b o len _ => (match inIndex (i.ev e) len with | some k => some (.ptr b (o + k * es)) | none => none) | _ => none
  | .idxA n es x i => match x.ev e with | .ptr b o => (match inIndex (i.ev e) n with | some k => some (.ptr b (o + k * es)) | none => none) | _ => none
  | .idxArr n es sz x i => match x.ev e with | .agg cs => (match inIndex (i.ev e) n with | some k => sub cs (k * es) sz | none => none) | _ => none
  | .idxStr x i => match x.ev e with | .str s => (match inIndex (i.ev e) s.length with | some k => (match s[k]? with | some b => some (.int .u8 b.toNat) | none => none) | none => none) | _ => none
  | .slStr x lo hi => match x.ev e with | .str s => (match bounds s.length s.length (lo.map (·.ev e)) (hi.map (·.ev e)) with | some (l, h) => some (.str ((s.take h).drop l)) | none => none) | _ => none
  | .slS es x lo hi => match x.ev e with
    | .nils => (match bounds 0 0 (lo.map (·.ev e)) (hi.map (·.ev e)) with | some _ => some .nils | none => none)
    | .slc b o len cap => (match bounds len cap (lo.map (·.ev e)) (hi.map (·.ev e)) with
      | some (l, h) => (match H.get b with | some (.row B) => if B.es = 0 ∨ B.es = es then some (.slc b (o + l * es) (h - l) (cap - l)) else none | _ => none)
      | none => none)
    | _ => none
  | .slA n es x lo hi => match x.ev e with | .ptr b o => (match bounds n n (lo.map (·.ev e)) (hi.map (·.ev e)) with | some (l, h) => some (.slc b (o + l * es) (h - l) (n - l)) | none => none) | _ => none
  | .extract i x => match x.ev e with | .tup vs => vs[i]? | _ => none
  | .lng k x => match k, x.ev e with
    | 0, .str s => some (.int .i64 s.length)
    | 1, .nils => some (.int .i64 0)
    | 1, .slc _ _ len _ => some (.int .i64 len)
    | 2, .nilm => some (.int .i64 0)
    | 2, .map b => (match H.get b with | some (.map es) => some (.int .i64 es.length) | _ => none)
    | _, _ => none
  | .lenC n => some (.int .i64 n)
  | .mnmx isMax x xs => match x.ev e with | .int k n => mnmxL isMax (.int k n) (xs.map (·.ev e)) | _ => none
  | .load sz a => match a.ev e with
    | .ptr b o => (match H.row b with
      | some B => (match sz with | none => B.cells[o]? | some n => (match cut B.cells o n with | some cs => some (.agg cs) | none => none))
      | none => none)
    | _ => none
  | .strOfBytes x => match x.ev e with
    | .nils => some (.str [])
    | .slc b o len _ => (match H.row b with | some B => (match cut B.cells o len with | some cs => (match bytesOf cs with | some l => some (.str l) | none => none) | none => none) | none => none)
    | _ => none
  | .strOfRunes x => match x.ev e with
    | .nils => some (.str [])
    | .slc b o len _ => (match H.row b with | some B => (match cut B.cells o len with | some cs => (match runesOf cs with | some l => some (.str l) | none => none) | none => none) | none => none)
    | _ => none
  | .toUns x => match x.ev e with
    | .ptr b o => (match H.get b with | some (.row B) => if B.ty ≠ 0 ∧ o < B.cells.length then some (.ptr b o) else none | _ => none)
    | _ => none
  | .fromUns tbl x => match x.ev e with
    | .ptr b o => (match H.get b with | some (.row B) => if B.ty ≠ 0 ∧ (B.ty, B.cells.length, o) ∈ tbl then some (.ptr b o) else none | _ => none)
    | _ => none
  | .pteq g x y => match x.ev e, y.ev e with
    | .ptr b o, .ptr b' o' => if b = b' ∧ o = o' then some (.bool (xor g true)) else none
    | u, w => match nileqV 0 u w with | some r => some (.bool (xor g r)) | none => none
  | .sldata x => match x.ev e with
    | .nils => some .nilp
    | .slc b o len _ => if 0 < len then some (.ptr b o) else none
    | _ => none
  | .lookup kk zero zagg x k ok =>
    if !isKind kk (k.ev e) then none else
    match mapOf H (x.ev e) with
    | none => none
    | some es => match findKey (k.ev e) es 0 with
      | none => none
      | some r => some (if ok then .tup [(hit (if zagg then .agg zero else zero.headD .undef) r).1, .bool (hit (if zagg then .agg zero else zero.headD .undef) r).2] else (hit (if zagg then .agg zero else zero.headD .undef) r).1)

/-- how a new block is told: by its address, as a slice, as a map -/
inductive AKind where
  | ptr
  | slc (len cap : Nat)
  | map
def AKind.val (b : Nat) : AKind → AV
  | .ptr => .ptr b 0
  | .slc len cap => .slc b 0 len cap
  | .map => .map b
def zeros (zero : List AV) (n : Nat) : List AV := (List.range n).map fun i => zero.getD (i % zero.length) .undef
def LOp.run (e : Env) : LOp → Option (AObj × AKind)
  | .box x => if (x.ev e).cells.all AV.one then some (.row { cells := (x.ev e).cells }, .ptr) else none
  | .alloc zero => some (.row { cells := zero }, .ptr)
  | .allocT ty zero => some (.row { cells := zero, ty := ty }, .ptr)
  | .boxT ty x => if (x.ev e).cells.all AV.one then some (.row { cells := (x.ev e).cells, ty := ty }, .ptr) else none
  | .bslice es n zero parts =>
    if n * es > 16777216 ∨ ¬ (n * es = 0 ∨ 0 < zero.length) then none else
    match buildIn (zeros zero (n * es)) (parts.map fun p => (p.1 * es, es, p.2.ev e)) with
    | some cs => if cs.all AV.one then some (.row { cells := cs }, .slc n n) else none
    | none => none
  | .mkslice es bytes zero l c =>
    match l.ev e, c.ev e with
    | .int .i64 l, .int .i64 c =>
      if 0 ≤ l ∧ l ≤ c ∧ c ≤ 70368744177664 ∧ bytes * c.toNat ≤ 70368744177664 ∧ 0 < zero.length ∧ zero.all AV.one then some (.row { cells := zeros zero (c.toNat * es) }, .slc l.toNat c.toNat) else none
    | _, _ => none
  | .bytesOfStr x => match x.ev e with | .str s => some (.row { cells := ofBytes s, es := 1 }, .slc s.length s.length) | _ => none
  | .runesOfStr x => match x.ev e with | .str s => some (.row { cells := runesL ⟨s.toArray⟩ s.length 0, es := 1 }, .slc (runesL ⟨s.toArray⟩ s.length 0).length (runesL ⟨s.toArray⟩ s.length 0).length) | _ => none
  | .mkMap => some (.map [], .map)
  | .rng x => match x.ev e with | .str s => some (.itr s 0, .ptr) | _ => none

def srcCells (H : AHeap) (es : Nat) : AV → Option (Nat × List AV)
  | .nils => some (0, [])
  | .str s => if es = 1 then some (s.length, ofBytes s) else none
  | .slc b o len _ =>
    if len = 0 then some (0, []) else
    match H.row b with
    | some B => (match cut B.cells o (len * es) with | some cs => some (len, cs) | none => none)
    | none => none
  | _ => none
def storeA (H : AHeap) (b o : Nat) (cs : List AV) : Option AHeap :=
  match H.row b with
  | some B => if B.ro = false ∧ o + cs.length ≤ B.cells.length ∧ cs.all AV.one then some (H.set b (.row { B with cells := over B.cells o cs })) else none
  | none => none
def appendA (ty : Nat) (H : AHeap) (es bytes : Nat) (s : AV) (n : Nat) (new : List AV) : Option (AV × AHeap) :=
  match s with
  | .nils => if n = 0 then some (.nils, H) else if n * bytes ≤ 70368744177664 ∧ n ≤ 70368744177664 then some (.slc H.next 0 n n, H.alloc (.row { cells := new, es := es, ty := ty })) else none
  | .slc b o len cap =>
    if len + n ≤ cap then
      if n = 0 then some (.slc b o len cap, H) else
      match storeA H b (o + len * es) new with
      | some H' => some (.slc b o (len + n) cap, H')
      | none => none
    else if ¬ ((len + n) * bytes ≤ 70368744177664 ∧ len + n ≤ 70368744177664) then none else
    match H.row b with
    | none => none
    | some B =>
      match cut B.cells o (len * es) with
      | none => none
      | some old =>
        if B.es = 0 then some (.slc H.next 0 (len + n) (len + n), H.alloc (.row { cells := old ++ new, es := es, ty := ty }))
        else if B.es = es ∧ B.ro = false then some (.slc H.next 0 (len + n) (len + n), (H.set b (.row { B with live := false })).alloc (.row { cells := old ++ new, es := es, ty := if o = 0 ∧ B.ty = ty then ty else 0 }))
        else none
  | _ => none

/-- what is called: a function, or the round of a loop -/
inductive CFn where
  | fn (f : FuncId)
  | yld (b : Nat)
abbrev CallH := CFn → List AV → AHeap → Option (AV × AHeap)
def EOp.run (cl : CallH) (H : AHeap) (e : Env) : EOp → Option (AV × AHeap)
  | .store n a v => match a.ev e with
    | .ptr b o => if (v.ev e).cells.length = n then (match storeA H b o (v.ev e).cells with | some H' => some (.undef, H') | none => none) else none
    | _ => none
  | .append es bytes s x => match srcCells H es (x.ev e) with
    | some (n, cs) => if es = 0 ∨ bytes = 0 ∨ !(cs.all AV.one) then none else appendA 0 H es bytes (s.ev e) n cs
    | none => none
  | .appendT ty es bytes s x => match srcCells H es (x.ev e) with
    | some (n, cs) => if es = 0 ∨ bytes = 0 ∨ !(cs.all AV.one) then none else appendA ty H es bytes (s.ev e) n cs
    | none => none
  | .strUns ety x n => match x.ev e, n.ev e with
    | .nilp, .int .i64 n => if n = 0 then some (.str [], H) else none
    | .ptr b o, .int .i64 n => if ¬ (o = 0 ∧ (0 < n ∧ n ≤ 9223372036854775807) ∧ ety ≠ 0) then none else (match H.row b with
      | some B => if ¬ (B.ro = false ∧ B.ty = ety) then none else (match cut B.cells 0 n.toNat with
        | some cs => (match bytesOf cs with | some l => some (.str l, H.set b (.row { B with live := false })) | none => none)
        | none => none)
      | none => none)
    | _, _ => none
  | .copy es d s => match d.ev e with
    | .nils => (match s.ev e with | .nils | .str _ | .slc _ _ _ _ => some (.int .i64 0, H) | _ => none)
    | .slc b o len _ => (match srcCells H es (s.ev e) with
      | some (n, cs) =>
        let k := min n len
        if k = 0 then some (.int .i64 0, H) else
        (match storeA H b o (cs.take (k * es)) with | some H' => some (.int .i64 k, H') | none => none)
      | none => none)
    | _ => none
  | .clear zero s => match s.ev e with
    | .nils | .nilm => some (.undef, H)
    | .map b => (match H.get b with | some (.map _) => some (.undef, H.set b (.map [])) | _ => none)
    | .slc b o len _ => if len = 0 then some (.undef, H) else if zero.length = 0 then none else (match storeA H b o (zeros zero (len * zero.length)) with | some H' => some (.undef, H') | none => none)
    | _ => none
  | .call f args => cl (.fn f) (args.map (·.ev e)) H
  | .callv f args => match f.ev e with | .fn (.func g) first captured => cl (.fn g) (first ++ args.map (·.ev e) ++ captured) H | .yld b => cl (.yld b) (args.map (·.ev e)) H | _ => none
  | .mapUpd kk m k v => match m.ev e with
    | .map b => (match H.get b with
      | some (.map es) => if !isKind kk (k.ev e) then none else (match findKey (k.ev e) es 0 with
        | none => none
        | some (some (i, _)) => some (.undef, H.set b (.map (es.set i (k.ev e, v.ev e))))
        | some none => some (.undef, H.set b (.map (es ++ [(k.ev e, v.ev e)]))))
      | _ => none)
    | _ => none
  | .mapDel kk m k => match m.ev e with
    | .map b => (match H.get b with
      | some (.map es) => if !isKind kk (k.ev e) then none else (match findKey (k.ev e) es 0 with
        | none => none
        | some (some (i, _)) => some (.undef, H.set b (.map (es.eraseIdx i)))
        | some none => some (.undef, H.set b (.map es)))
      | _ => none)
    | .nilm => if isKind kk (k.ev e) then some (.undef, H) else none
    | _ => none
  | .mark x => match x.ev e with
    | .slc b o len cap => (match H.row b with | some B => if B.ro = true ∨ cap = 0 then none else some (.slc b o len cap, H) | none => none)
    | _ => none
  | .nxt x => match x.ev e with
    | .ptr b o => if o ≠ 0 then none else (match H.get b with
      | some (.itr s pos) => if pos < s.length then some (.tup [.bool true, .int .i64 pos, .int .i32 (Utf8.decode ⟨s.toArray⟩ pos).1], H.set b (.itr s (pos + (Utf8.decode ⟨s.toArray⟩ pos).2))) else some (.tup [.bool false], H)
      | _ => none)
    | _ => none
  | .fail => none

def want (e : Env) : Option (Nat × Bool) → Bool
  | none => true
  | some (t, b) => match Env.get e t with | .bool c => c == b | _ => false
def echoOk (H : AHeap) (e : Env) : List Echo → Bool
  | [] => true
  | x :: xs =>
    (if want e x.guard then (match x.op.run H e with | some v => (match x.dst with | some d => AV.same v (Env.get e d) | none => true) | none => false) else true) && echoOk H e xs
def AOper.run (cl : CallH) (o : AOper) (e : Env) (H : AHeap) : Option (Env × AHeap) :=
  if want e o.guard then
    match o.op with
    | .r x => (match x.run H e with | some v => some (Env.put e o.dst v, H) | none => none)
    | .a x => (match x.run e with | some (obj, k) => some (Env.put e o.dst (k.val H.next), H.alloc obj) | none => none)
    | .e x => (match x.run cl H e with | some (v, H') => if echoOk H' e o.echo then some (Env.put e o.dst v, H') else none | none => none)
  else some (Env.put e o.dst .undef, H)
def runOps (cl : CallH) : List AOper → Env → AHeap → Option (Env × AHeap)
  | [], e, H => some (e, H)
  | o :: l, e, H => match o.run cl e H with | some (e', H') => runOps cl l e' H' | none => none

abbrev Out := Option (AEx × Env × AHeap)
def iter (f : Env → AHeap → Out) : Nat → Env → AHeap → Out
  | 0, _, _ => none
  | k + 1, e, H => match f e H with
    | some (.normal, e', H') => iter f k e' H'
    | r => r
def ACode.run (cl : CallH) (fuel : Nat) : ACode → Env → AHeap → Out
  | .skip, e, H => some (.normal, e, H)
  | .ops l, e, H => match runOps cl l e H with | some (e', H') => some (.normal, e', H') | none => none
  | .seq a b, e, H => match a.run cl fuel e H with
    | some (.normal, e', H') => b.run cl fuel e' H'
    | r => r
  | .cond c a b, e, H => match c.ev e with
    | .bool true => a.run cl fuel e H
    | .bool false => b.run cl fuel e H
    | _ => none
  | .block id c, e, H => match c.run cl fuel e H with
    | some (.exit id', e', H') => if id' = id then some (.normal, e', H') else some (.exit id', e', H')
    | r => r
  | .loop c, e, H => iter (c.run cl fuel) fuel e H
  | .rangeF g N ps as bd, e, H => match g.ev e with
    | .fn (.func f) first cap => (match cl (.fn f) (first ++ [.yld H.next] ++ cap) (H.alloc (.loop ⟨0, .normal, N, e, ps, as, bd⟩)) with
      | some (_, H') => (match H'.get H.next with
        | some (.loop R) => if R.st = 1 then none else some (R.pend, e, H'.set H.next (.loop { R with st := 3 }))
        | _ => none)
      | none => none)
    | _ => none
  | .exit id, e, H => some (.exit id, e, H)
  | .ret, e, H => some (.ret, e, H)
  | .fail, _, _ => none

def ARes.val (e : Env) (H : AHeap) : ARes → Option AV
  | .t i => some (Env.get e i)
  | .cell i sz => ROp.run H e (.load sz (.t i))
def resVals (e : Env) (H : AHeap) : List ARes → Option (List AV)
  | [] => some []
  | r :: rs => match r.val e H with
    | some v => (match resVals e H rs with | some vs => some (v :: vs) | none => none)
    | none => none
def resVal (e : Env) (H : AHeap) (l : List ARes) : Option AV :=
  match resVals e H l with
  | some [v] => some v
  | some vs => some (.tup vs)
  | none => none

/-- a table of numbers: a package-level variable that nothing writes -/
structure Tb where
  g : Nat
  k : IntKind
  zs : List Int
def Tb.cs (t : Tb) : List AV := t.zs.map (.int t.k)
/-- do tables lie there? -/
def hasTabs (H : AHeap) (l : List Tb) : Bool := l.all fun t => match H.get t.g with | some (.row B) => B.live && AV.sameL B.cells t.cs | _ => false
/-- The functions: compiled, or known by their answer alone ('orc': of arguments and answers without addresses). -/
structure Prog where
  fns : FuncId → Option AFunc
  orc : FuncId → List AV → Option AV
  tabs : List Tb := []
  orh : FuncId → List AV → AHeap → Option AV := fun _ _ _ => none
def putAll : List Nat → List AV → Env → Env
  | p :: ps, v :: vs, e => putAll ps vs (Env.put e (some p) v)
  | _, _, e => e
def callF (P : Prog) : Nat → CallH
  | 0, _, _, _ => none
  | n + 1, .fn f, args, H =>
    match P.orc f args with
    | some v => if hasTabs H P.tabs then some (v, H) else none
    | none =>
      match P.fns f with
      | none => (match P.orh f args H with | some v => some (v, H) | none => none)
      | some F =>
        if args.length > F.ntmps then none else
        match F.body.run (callF P n) n (Env.init 0 args .nil) H with
        | some (.normal, e, H') | some (.ret, e, H') => (match resVal e H' F.res with | some v => some (v, H') | none => none)
        | _ => none
  | n + 1, .yld b, args, H =>
    match H.get b with
    | some (.loop R) =>
      if ¬ (R.st = 0 ∧ args.length = R.ps.length) then none else
      match R.assign.run (callF P n) n (putAll R.ps args R.env) H with
      | some (.normal, e, H1) =>
        match H1.get b with
        | some (.loop R1) =>
          if R1.st ≠ 0 then none else
          match R.body.run (callF P n) n e (H1.set b (.loop { R1 with st := 1 })) with
          | some (x, _, H2) =>
            match H2.get b with
            | some (.loop R2) => some (.bool (decide (x = .normal)), H2.set b (.loop { R2 with st := if x = .normal then 0 else 2, pend := x }))
            | _ => none
          | none => none
        | _ => none
      | _ => none
    | _ => none
/-! ### Operations in few letters -/
def oR (i d : Nat) (x : ROp) : AOper := ⟨i, some d, none, .r x, []⟩
def oT (i d g : Nat) (x : ROp) : AOper := ⟨i, some d, some (g, true), .r x, []⟩
def oN (i d g : Nat) (x : ROp) : AOper := ⟨i, some d, some (g, false), .r x, []⟩
def oM (i d s : Nat) : AOper := ⟨i, some d, none, .r (.mv (.t s)), []⟩
def oK (i d s : Nat) : AOper := ⟨i, some d, none, .r (.nilck (.t s)), []⟩
def oF (i d f s : Nat) : AOper := ⟨i, some d, none, .r (.fieldAddr f (.t s)), []⟩
def oL (i d s : Nat) : AOper := ⟨i, some d, none, .r (.load none (.t s)), []⟩
def oE (i d : Nat) (x : EOp) : AOper := ⟨i, some d, none, .e x, []⟩
def oI (n : Int) : Opd := .c (.int .i64 n)
end Go.Proofs.YtdkpmlhbofgfdaaGreatDoor.AM
