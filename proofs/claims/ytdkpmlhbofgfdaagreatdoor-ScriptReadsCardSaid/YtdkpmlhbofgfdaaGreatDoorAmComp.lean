/-
  From the model's functions to the abstract machine's: types resolved, one order for each region, the orders that Go leaves open looked at. Definitions only.
-/
import Derived.Test.YtdkpmlhbofgfdaaGreatDoorAm
namespace Go.Proofs.YtdkpmlhbofgfdaaGreatDoor.AM
open Go

def AV.ofScalar : Value → Option AV
  | .bool b => some (.bool b)
  | .int k n => some (.int k n)
  | .string s => some (.str s.data.toList)
  | .pointer none => some .nilp
  | .slice none 0 0 => some .nils
  | .map none => some .nilm
  | .nilFunc => some .nilFn
  | .nilIface => some .nilIface
  | _ => none
def ofScalars : List Value → Option (List AV)
  | [] => some []
  | v :: vs => match AV.ofScalar v with | some a => (match ofScalars vs with | some as => some (a :: as) | none => none) | none => none
def AV.ofConst : Value → Option AV
  | .agg cs => (ofScalars cs.toList).map .agg
  | .tuple vs => (ofScalars vs.toList).map .tup
  | v => AV.ofScalar v
def copd (gl : List Nat) : Operand → Option Opd
  | .tmp t => some (.t t)
  | .const v => (AV.ofConst v).map .c
  | .global g => if gl.contains g && decide (g < 999999) then some (.c (.ptr g 0)) else none
  | .func f => some (.c (.fn (.func f) [] []))
def copds (gl : List Nat) : List Operand → Option (List Opd)
  | [] => some []
  | x :: xs => match copd gl x with | some y => (match copds gl xs with | some ys => some (y :: ys) | none => none) | none => none
def copdO (gl : List Nat) : Option Operand → Option (Option Opd)
  | none => some none
  | some x => (copd gl x).map some
section
variable (P : Program) (gl : List Nat)
def isAggT (t : TypeId) : Option Bool := (P.underlying t).map fun | .struct _ | .array _ _ => true | _ => false
def sizeT (t : TypeId) : Option Nat := (P.info? t).map (·.size)
def bytesT (t : TypeId) : Option Nat := (P.info? t).map (·.bytes)
def zeroT (t : TypeId) : Option (List AV) := ((P.info? t).bind (·.zero)).bind fun z => ofScalars z.cells.toList
def zeroAgg (t : TypeId) : Option Bool := ((P.info? t).bind (·.zero)).map fun | .agg _ => true | _ => false
def szT (t : TypeId) : Option (Option Nat) :=
  match isAggT P t with
  | some true => (sizeT P t).map some
  | some false => some none
  | none => none
def flatFields (g : TypeId → Option (List Nat)) : List Field → Option (List Nat)
  | [] => some []
  | f :: fs => if f.name == "_" then none else match g f.type, flatFields g fs with | some a, some b => some (a ++ b) | _, _ => none
/-- made of plain numbers, bools and strings alone, all compared -/
def flatT : Nat → TypeId → Option (List Nat)
  | 0, _ => none
  | d + 1, t =>
    match P.underlying t with
    | some .bool => some [0]
    | some (.int _) => some [1]
    | some .string => some [2]
    | some (.struct fs) => if P.stoodInHeld t then none else flatFields (flatT d) fs.toList
    | _ => none
/-- the fields lie one behind the other -/
def packedT : Nat → TypeId → Bool
  | 0, _ => false
  | d + 1, t =>
    match P.underlying t with
    | some (.struct fs) => (fs.toList.foldl (fun (s : Nat × Bool) f => (s.1 + P.cellsOf f.type, s.2 && f.offset == s.1 && packedT d f.type)) (0, true)) == (P.cellsOf t, true)
    | some _ => P.cellsOf t == 1
    | none => false
def cparts (gl : List Nat) (place : Nat → Option (Nat × Nat)) : List (Nat × Operand) → Option (List (Nat × Nat × Opd))
  | [] => some []
  | (i, x) :: r =>
    match place i, copd gl x, cparts gl place r with
    | some (o, s), some y, some l => some ((o, s, y) :: l)
    | _, _, _ => none
def cpartsS (gl : List Nat) : List (Nat × Operand) → Option (List (Nat × Opd))
  | [] => some []
  | (i, x) :: r =>
    match copd gl x, cpartsS gl r with
    | some y, some l => some ((i, y) :: l)
    | _, _ => none
def zeroN (k : Nat) (t : TypeId) : Option (List AV) := if k = 0 then some [] else zeroT P t
def keyKindT (t : TypeId) : Option Nat := match P.underlying t with | some .bool => some 0 | some (.int _) => some 1 | some .string => some 2 | _ => none
def isNilIface : Operand → Bool
  | .const .nilIface => true
  | _ => false
def cbin (op : BinOp) (t : TypeId) (x y : Operand) : Option AOp := do
  let a ← copd gl x
  let b ← copd gl y
  match op with
  | .eql | .neq =>
    let g := op matches .neq
    match ← P.underlying t with
    | .int _ | .string => pure (.r (.bin op a b))
    | .bool => pure (.r (.beq g a b))
    | .pointer _ => pure (.r (.nileq 0 g a b))
    | .slice _ => pure (.r (.nileq 1 g a b))
    | .map _ _ => pure (.r (.nileq 2 g a b))
    | .func _ _ _ => pure (.r (.nileq 3 g a b))
    | .interface _ => if isNilIface x || isNilIface y then pure (.r (.nileq 4 g a b)) else none
    | .struct _ => do
      let ks ← flatT P 8 t
      if packedT P 8 t && !P.eqGuardType P.depth t && P.cellsOf t == ks.length then pure (.r (.seq ks g a b)) else none
    | _ => none
  | _ => pure (.r (.bin op a b))
def cconv (src dst : TypeId) (x : Operand) : Option AOp := do
  let a ← copd gl x
  match ← P.underlying src, ← P.underlying dst with
  | .int _, .int k => pure (.r (.cvInt k a))
  | .int _, .string => pure (.r (.cvRune a))
  | .string, .string => pure (.r (.cvStr a))
  | .string, .slice e => match ← P.underlying e with | .int .u8 => pure (.a (.bytesOfStr a)) | .int .i32 => pure (.a (.runesOfStr a)) | _ => none
  | .slice _, .slice e => match decide (src = dst), ← P.underlying e with | true, .int .u8 => pure (.e (.mark a)) | _, _ => none
  | .slice e, .string => match ← P.underlying e with | .int .u8 => pure (.r (.strOfBytes a)) | .int .i32 => pure (.r (.strOfRunes a)) | _ => none
  | _, _ => none
def ccall (c : Call) : Option AOp := do
  let as ← copds gl c.args.toList
  match c.callee with
  | .value (.func f) => pure (.e (.call f as))
  | .value x => pure (.e (.callv (← copd gl x) as))
  | .invoke _ _ => none
  | .builtin b =>
    let t0 ← c.argTypes[0]?
    match b, as with
    | .append, [s, x] =>
      let .slice el ← P.underlying t0 | none
      let t1 ← c.argTypes[1]?
      match ← P.underlying t1 with
      | .slice _ | .string => do
        let z ← zeroT P el
        let k ← sizeT P el
        if z.length = k then pure (.e (.append k (← bytesT P el) s x)) else none
      | _ => none
    | .len, [x] =>
      match ← P.underlying t0 with
      | .string => pure (.r (.lng 0 x))
      | .slice _ => pure (.r (.lng 1 x))
      | .map _ _ => pure (.r (.lng 2 x))
      | .array n _ => pure (.r (.lenC n))
      | .pointer a => (match ← P.underlying a with | .array n _ => pure (.r (.lenC n)) | _ => none)
      | _ => none
    | .copy, [d, s] =>
      let .slice el ← P.underlying t0 | none
      pure (.e (.copy (← sizeT P el) d s))
    | .clear, [s] =>
      match ← P.underlying t0 with
      | .slice el => pure (.e (.clear (← zeroT P el) s))
      | .map _ _ => pure (.e (.clear [] s))
      | _ => none
    | .min, x :: xs => pure (.r (.mnmx false x xs))
    | .max, x :: xs => pure (.r (.mnmx true x xs))
    | _, _ => none
def cop0 (op : Op) : Option AOp :=
  match op with
  | .move x | .assign x => do pure (.r (.mv (← copd gl x)))
  | .pick c a b => do pure (.r (.pick (← copd gl c) (← copd gl a) (← copd gl b)))
  | .alloc t => do pure (.a (.alloc (← zeroT P t)))
  | .box _ x => do pure (.a (.box (← copd gl x)))
  | .build t ps => do
    match ← P.underlying t with
    | .struct fs => do
      let pl ← fs.toList.mapM fun f => (P.info? f.type).map fun i => (f.offset, i.size)
      pure (.r (.build (← zeroT P t) (← cparts gl (fun i => pl[i]?) ps.toList)))
    | .array _ el => do
      let s ← sizeT P el
      pure (.r (.build (← zeroT P t) (← cparts gl (fun i => some (i * s, s)) ps.toList)))
    | _ => none
  | .buildSlice t n ps => do
    let .slice el ← P.underlying t | none
    let s ← sizeT P el
    let z ← zeroN P (n * s) el
    pure (.a (.bslice s n z (← cpartsS gl ps.toList)))
  | .load t a => do pure (.r (.load (← szT P t) (← copd gl a)))
  | .store t a x => do pure (.e (.store (← sizeT P t) (← copd gl a) (← copd gl x)))
  | .nilCheck x => do pure (.r (.nilck (← copd gl x)))
  | .binOp op t x y _ => cbin P gl op t x y
  | .unOp .neg _ x => do pure (.r (.neg (← copd gl x)))
  | .unOp .not _ x => do pure (.r (.not (← copd gl x)))
  | .convert s d x => cconv P gl s d x
  | .makeInterface t x => do
    match ← P.underlying t with
    | .interface _ => none
    | _ => pure (.r (.mkIface t (← copd gl x)))
  | .makeFunc f a b => do pure (.r (.mkFn f (← copds gl a.toList) (← copds gl b.toList)))
  | .makeMap _ none => pure (.a .mkMap)
  | .makeSlice t l c => do
    let .slice el ← P.underlying t | none
    pure (.a (.mkslice (← sizeT P el) (← bytesT P el) (← zeroT P el) (← copd gl l) (← copd gl c)))
  | .slice t x lo hi none => do
    let a ← copd gl x
    let l ← copdO gl lo
    let h ← copdO gl hi
    match ← P.underlying t with
    | .array n el => pure (.r (.slA n (← sizeT P el) a l h))
    | .string => pure (.r (.slStr a l h))
    | .slice el => pure (.r (.slS (← sizeT P el) a l h))
    | _ => none
  | .fieldAddr t x f => do
    let .struct fs ← P.underlying t | none
    let g ← fs[f]?
    if (← sizeT P g.type) = 0 then none else pure (.r (.fieldAddr g.offset (← copd gl x)))
  | .field t x f => do
    let .struct fs ← P.underlying t | none
    let g ← fs[f]?
    pure (.r (.field g.offset (← szT P g.type) (← copd gl x)))
  | .indexAddr t x i => do
    match ← P.underlying t with
    | .array n el => pure (.r (.idxA n (← sizeT P el) (← copd gl x) (← copd gl i)))
    | .slice el => pure (.r (.idxS (← sizeT P el) (← copd gl x) (← copd gl i)))
    | _ => none
  | .index t x i => do
    match ← P.underlying t with
    | .array n el => pure (.r (.idxArr n (← sizeT P el) (← szT P el) (← copd gl x) (← copd gl i)))
    | .string => pure (.r (.idxStr (← copd gl x) (← copd gl i)))
    | _ => none
  | .lookup t x k ok => do
    let .map kt el ← P.underlying t | none
    pure (.r (.lookup (← keyKindT P kt) (← zeroT P el) (← zeroAgg P el) (← copd gl x) (← copd gl k) ok))
  | .mapUpdate t m k v | .insert t m k v => do
    let .map kt _ ← P.underlying t | none
    pure (.e (.mapUpd (← keyKindT P kt) (← copd gl m) (← copd gl k) (← copd gl v)))
  | .extract x i => do pure (.r (.extract i (← copd gl x)))
  | .call c => ccall P gl c
  | _ => none
/-- a struct whose first field points at it, or that has such a one in it -/
def selfT : Nat → TypeId → Bool
  | 0, _ => false
  | d + 1, t =>
    match P.underlying t with
    | some (.struct fs) => (match fs[0]? with | some f => (match P.underlying f.type with | some (.pointer u) => decide (u = t) | _ => false) | none => false) || fs.toList.any fun f => selfT d f.type
    | _ => false
/-- where one of a type lies in rows of a type -/
def liesTbl (u t : TypeId) : List (Nat × Nat × Nat) :=
  match sizeT P t with
  | some n => ((List.range n).filter fun o => liesAt P P.depth t (n / P.cellsOf t) o u 1).map fun o => (t, n, o)
  | none => []
def tyMode : Nat := 999999
/-- the types of rows in which one of a type may be looked for -/
def tyList : List TypeId := (gl.filter (fun g => decide (tyMode < g))).map (fun g => g - tyMode)
def isSS : TypeDesc → Bool
  | .slice _ | .string => true
  | _ => false
def cspStr (pt : TypeId) (x n : Operand) : Option EOp :=
  match P.underlying pt, copd gl x, copd gl n with
  | some (.pointer el), some a, some b => if P.cellsOf el = 1 then some (.strUns el a b) else none
  | _, _, _ => none
def cspEl (el : TypeId) (a b : Opd) : Option EOp :=
  match zeroT P el, sizeT P el, bytesT P el, P.underlying el with
  | some z, some k, some by_, some (.int .u8) => if z.length = k ∧ el ≠ 0 then some (.appendT el k by_ a b) else none
  | _, _, _, _ => none
def cspApp (t0 t1 : TypeId) (s x : Operand) : Option EOp :=
  match P.underlying t0, P.underlying t1, copd gl s, copd gl x with
  | some (.slice el), some U1, some a, some b => if isSS U1 then cspEl P el a b else none
  | _, _, _, _ => none
def cspDel (t0 : TypeId) (m k : Operand) : Option EOp :=
  match P.underlying t0, copd gl m, copd gl k with
  | some (.map kt _), some a, some b => (keyKindT P kt).map fun kk => .mapDel kk a b
  | _, _, _ => none
/-- what is known of addresses' types alone, where that is asked for -/
def csp (op : Op) : Option AOp :=
  if !gl.contains tyMode then none else
  match op with
  | .alloc t => if t = 0 ∨ !(tyList gl).contains t then none else (zeroT P t).map fun z => .a (.allocT t z)
  | .box t x => if t = 0 ∨ !(tyList gl).contains t then none else (copd gl x).map fun a => .a (.boxT t a)
  | .binOp .eql t x y _ => match P.underlying t with
    | some (.pointer u) => if (P.info? u).isNone then none else match copd gl x, copd gl y with | some a, some b => some (.r (.pteq false a b)) | _, _ => none
    | _ => none
  | .binOp .neq t x y _ => match P.underlying t with
    | some (.pointer u) => if (P.info? u).isNone then none else match copd gl x, copd gl y with | some a, some b => some (.r (.pteq true a b)) | _, _ => none
    | _ => none
  | .convert s d x => match copd gl x, P.underlying s, P.underlying d with
    | some a, some (.pointer t), some .unsafePointer => if (sizeT P t).getD 0 = 0 then none else some (.r (.toUns a))
    | some a, some .unsafePointer, some (.pointer u) => if (sizeT P u).isNone then none else some (.r (.fromUns ((tyList gl).flatMap (liesTbl P u)) a))
    | _, _, _ => none
  | .call c => match c.callee, c.argTypes.toList, c.args.toList with
    | .value (.func f), _, [x] => match P.funcs[f]? with
      | some F => if F.body.isNone && F.name == "internal/abi.NoEscape" && (Extern.findNext F).isNone then (copd gl x).map fun a => .r (.mv a) else none
      | none => none
    | .builtin .unsafeSliceData, _, [x] => (copd gl x).map fun a => .r (.sldata a)
    | .builtin .unsafeString, [pt, _], [x, n] => (cspStr P gl pt x n).map .e
    | .builtin .append, [t0, t1], [s, x] => (cspApp P gl t0 t1 s x).map .e
    | .builtin .delete, [t0, _], [m, k] => (cspDel P gl t0 m k).map .e
    | _, _, _ => none
  | _ => none
def rngMode : Nat := 1999999
/-- walks through texts, where that is asked for -/
def crng (op : Op) : Option AOp :=
  if !gl.contains rngMode then none else
  match op with
  | .range t x => match P.underlying t, copd gl x with
    | some .string, some a => some (.a (.rng a))
    | _, _ => none
  | .next x true => (copd gl x).map fun a => .e (.nxt a)
  | _ => none
def cop (op : Op) : Option AOp :=
  match crng P gl op with
  | some a => some a
  | none => match csp P gl op with
    | some a => some a
    | none => cop0 P gl op
end

/-! ### Regions -/
def edges (o : Oper) : List Nat := (o.after.toList.filter fun e => Region.binds .any e).map (·.on)
/-- of each operation all that must have gone before it, as bits -/
def closGo : List Oper → List Nat → List Nat
  | [], acc => acc
  | o :: r, acc => closGo r (acc ++ [(edges o).foldl (fun m j => if j < acc.length then m ||| (1 <<< j) ||| acc.getD j 0 else m) 0])
def ROp.pure : ROp → Bool
  | .load _ _ | .strOfBytes _ | .strOfRunes _ | .lookup _ _ _ _ _ _ | .slS _ _ _ _ | .toUns _ | .fromUns _ _ => false
  | .lng k _ => k != 2
  | _ => true
def AOp.eff : AOp → Bool
  | .e _ => true
  | _ => false
def AOp.loud : AOp → Bool
  | .r x => !x.pure
  | _ => true
/-- an order: what is no call and no store, as early as may be -/
def canon (masks : List Nat) (eff : List Bool) : Nat → List Nat → Nat → List Nat → List Nat
  | 0, _, _, acc => acc
  | f + 1, todo, done, acc =>
    let ready (i : Nat) : Bool := (masks.getD i 0 ||| done) == done
    match todo.find? (fun i => ready i && !(eff.getD i true)) with
    | some i => canon masks eff f (todo.filter (· != i)) (done ||| (1 <<< i)) (acc ++ [i])
    | none => match todo.find? ready with
      | some i => canon masks eff f (todo.filter (· != i)) (done ||| (1 <<< i)) (acc ++ [i])
      | none => acc
def cguard (ops : List Oper) : Option (Nat × Bool) → Option (Option (Nat × Bool))
  | none => some none
  | some (j, w) => match ops[j]? with
    | some o => (match o.dst with | some t => some (some (t, w)) | none => none)
    | none => none
def dstOk (N : Nat) : Option Nat → Bool
  | some d => decide (d < N)
  | none => true
def coper (P : Program) (gl : List Nat) (N : Nat) (ops : List Oper) (i : Nat) : Option AOper :=
  match ops[i]? with
  | none => none
  | some o =>
    match cguard ops o.guard with
    | some g => if dstOk N o.dst then some { ix := i, dst := o.dst, guard := g, op := (cop P gl o.op).getD (.e .fail), echo := [] } else none
    | none => none
def copers (P : Program) (gl : List Nat) (N : Nat) (ops : List Oper) : List Nat → Option (List AOper)
  | [] => some []
  | i :: is => match coper P gl N ops i with | some o => (match copers P gl N ops is with | some l => some (o :: l) | none => none) | none => none
def opTmps (o : Oper) : List Nat := o.op.operands.toList.filterMap fun | .tmp t => some t | _ => none
/-- what is read ahead of an operation and need not be -/
def echoOf (masks : List Nat) (earlier : List AOper) (o : AOper) : List Echo :=
  earlier.filterMap fun p => match p.op with
    | .r x => if !x.pure && !(masks.getD o.ix 0).testBit p.ix then some { dst := p.dst, guard := p.guard, op := x } else none
    | _ => none
def withEcho (masks : List Nat) : List AOper → List AOper → List AOper
  | _, [] => []
  | earlier, o :: l => (if o.op.eff then { o with echo := echoOf masks earlier o } else o) :: withEcho masks (earlier ++ [o]) l
def bef (masks : List Nat) (i j : Nat) : Bool := (masks.getD i 0).testBit j
def Opd.tmps : Opd → List Nat
  | .t i => [i]
  | .c _ => []
def optTmps : Option Opd → List Nat
  | some x => x.tmps
  | none => []
/-- the slots that are looked at -/
def ROp.tmps : ROp → List Nat
  | .mv x | .nilck x | .neg x | .not x | .cvInt _ x | .cvRune x | .cvStr x | .mkIface _ x | .field _ _ x | .fieldAddr _ x | .extract _ x | .lng _ x | .load _ x | .strOfBytes x | .strOfRunes x | .toUns x | .fromUns _ x | .sldata x => x.tmps
  | .pick c a b => c.tmps ++ a.tmps ++ b.tmps
  | .bin _ x y | .beq _ x y | .pteq _ x y | .nileq _ _ x y | .seq _ _ x y | .idxS _ x y | .idxA _ _ x y | .idxArr _ _ _ x y | .idxStr x y | .lookup _ _ _ x y _ => x.tmps ++ y.tmps
  | .mkFn _ a b => a.flatMap Opd.tmps ++ b.flatMap Opd.tmps
  | .build _ ps => ps.flatMap fun p => p.2.2.tmps
  | .slStr x l h | .slS _ x l h | .slA _ _ x l h => x.tmps ++ optTmps l ++ optTmps h
  | .lenC _ => []
  | .mnmx _ x xs => x.tmps ++ xs.flatMap Opd.tmps
def usesOf (ops : List Oper) (i : Nat) : List Nat :=
  match ops[i]? with
  | some o => opTmps o ++ (match cguard ops o.guard with | some (some (t, _)) => [t] | _ => [])
  | none => []
/-- operands (and the guard's) of an operation against all that write: told apart by what must go before -/
def tmpsOk (masks : List Nat) (ops : List Oper) (L : List AOper) (o : AOper) : Bool :=
  (usesOf ops o.ix).all fun t => L.all fun p => p.ix == o.ix || p.dst != some t || bef masks o.ix p.ix || bef masks p.ix o.ix
/-- of a read that is looked at again behind a call: what it looks at was there before it -/
def strictOk (masks : List Nat) (L : List AOper) (o : AOper) (r : ROp) : Bool :=
  (r.tmps ++ (match o.guard with | some (t, _) => [t] | none => [])).all fun t => L.all fun p => p.dst != some t || (p.ix != o.ix && bef masks o.ix p.ix)
def singleDst (L : List AOper) : Bool :=
  L.all fun o => L.all fun p => o.ix == p.ix || (match o.dst with | some d => p.dst != some d | none => true)
def ordOk (masks : List Nat) (n : Nat) (all : List AOper) : List AOper → List AOper → Bool
  | _, [] => true
  | earlier, o :: l =>
    ((List.range n).all fun j => !bef masks o.ix j || earlier.any (·.ix == j)) &&
    (!o.op.loud || earlier.all fun p => !p.op.eff || bef masks o.ix p.ix) &&
    (!o.op.eff || earlier.all fun p => match p.op with
      | .r x => x.pure || bef masks o.ix p.ix || strictOk masks all p x
      | _ => true) &&
    ordOk masks n all (earlier ++ [o]) l
def edgesOk : List Oper → Nat → Bool
  | [], _ => true
  | o :: l, i => (edges o).all (fun j => decide (j < i)) && edgesOk l (i + 1)
def nodupIx : List AOper → Bool
  | [] => true
  | o :: l => l.all (fun p => p.ix != o.ix) && nodupIx l
def okRegion (masks : List Nat) (ops : List Oper) (L : List AOper) : Bool :=
  edgesOk ops 0 && nodupIx L && (List.range ops.length).all (fun i => L.any (·.ix == i)) && singleDst L && L.all (tmpsOk masks ops L) && ordOk masks ops.length L [] L
def cregion (P : Program) (gl : List Nat) (N : Nat) (opsA : Array Oper) (draw : Bool) : Option (List AOper) :=
  let ops := opsA.toList
  if draw then
    let masks := closGo ops []
    match copers P gl N ops (List.range ops.length) with
    | none => none
    | some l =>
      let ord := canon masks (l.map (·.op.eff)) ops.length (List.range ops.length) 0 []
      match copers P gl N ops ord with
      | none => none
      | some l' =>
        if okRegion masks ops l' then some (withEcho masks [] l') else none
  else copers P gl N ops (List.range ops.length)
def ccode (P : Program) (gl : List Nat) (N : Nat) : Code → Option ACode
  | .skip => some .skip
  | .region _ ops draw => (cregion P gl N ops draw).map .ops
  | .seq a b => match ccode P gl N a, ccode P gl N b with | some x, some y => some (.seq x y) | _, _ => none
  | .cond c a b => match copd gl c, ccode P gl N a, ccode P gl N b with | some z, some x, some y => some (.cond z x y) | _, _, _ => none
  | .block id c => (ccode P gl N c).map (.block id)
  | .loop c => (ccode P gl N c).map .loop
  | .rangeFunc g ps a b => match copd gl g, ccode P gl N a, ccode P gl N b with | some z, some x, some y => (if ps.toList.all (fun p => decide (p < N)) then some (.rangeF z N ps.toList x y) else some .fail) | _, _, _ => some .fail
  | .exit id => some (.exit id)
  | .ret => some .ret
  | _ => some .fail
def cres (P : Program) : List ResultVar → Option (List ARes)
  | [] => some []
  | .tmp t :: r => (cres P r).map (.t t :: ·)
  | .cell a t :: r => match szT P t, cres P r with | some s, some l => some (.cell a s :: l) | _, _ => none
def cfunc (P : Program) (gl : List Nat) (F : Func) : Option AFunc :=
  match F.body with
  | none => none
  | some c =>
    if F.name == "runtime.NumGoroutine" then none else
    match ccode P gl F.ntmps c, cres P F.results.toList with
    | some b, some r => some { ntmps := F.ntmps, res := r, body := b }
    | _, _ => none
end Go.Proofs.YtdkpmlhbofgfdaaGreatDoor.AM
