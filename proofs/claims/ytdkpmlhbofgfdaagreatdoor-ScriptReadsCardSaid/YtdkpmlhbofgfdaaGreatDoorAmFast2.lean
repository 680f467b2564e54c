/-
  The abstract machine made for the kernel: operations, code, calls; and the proof that it tells the same.
-/
import Derived.Test.YtdkpmlhbofgfdaaGreatDoorAmFast
set_option linter.unusedVariables false
set_option linter.unusedSimpArgs false
namespace Go.Proofs.YtdkpmlhbofgfdaaGreatDoor.AM
open Go
namespace Fast
noncomputable def orN {α β : Type} (o : Option α) (f : α → Option β) : Option β := Option.rec (motive := fun _ => Option β) none f o
theorem orN_eq {α β : Type} (o : Option α) (f : α → Option β) : orN o f = (match o with | some a => f a | none => none) := by cases o <;> rfl
noncomputable def setHF (H : AHeap) (b : Nat) (o : AObj) : AHeap := ⟨H.next, setP (path b) o H.tr⟩
theorem setHF_eq (H : AHeap) (b : Nat) (o : AObj) : setHF H b o = H.set b o := by unfold setHF; rw [setT]; rfl
noncomputable def allocF (H : AHeap) (o : AObj) : AHeap := ⟨Nat.succ H.next, setP (path H.next) o H.tr⟩
theorem allocF_eq (H : AHeap) (o : AObj) : allocF H o = H.alloc o := by unfold allocF; rw [setT]; rfl

/-! ### New blocks -/
noncomputable def lBox (x : Opd) (e : Env) : Option (AObj × AKind) := iteB (allL oneF (cellsF (evF x e))) (some (.row { cells := cellsF (evF x e) }, .ptr)) none
noncomputable def lAlloc (z : List AV) (e : Env) : Option (AObj × AKind) := some (.row { cells := z }, .ptr)
noncomputable def lAllocT (t : Nat) (z : List AV) (e : Env) : Option (AObj × AKind) := some (.row { cells := z, ty := t }, .ptr)
noncomputable def lBoxT (t : Nat) (x : Opd) (e : Env) : Option (AObj × AKind) := iteB (allL oneF (cellsF (evF x e))) (some (.row { cells := cellsF (evF x e), ty := t }, .ptr)) none
noncomputable def lBslice (es n : Nat) (z : List AV) (ps : List (Nat × Opd)) (e : Env) : Option (AObj × AKind) := LOp.run e (.bslice es n z ps)
noncomputable def lMk (es b : Nat) (z : List AV) (l c : Opd) (e : Env) : Option (AObj × AKind) := LOp.run e (.mkslice es b z l c)
noncomputable def lBytes (x : Opd) (e : Env) : Option (AObj × AKind) := LOp.run e (.bytesOfStr x)
noncomputable def lRunes (x : Opd) (e : Env) : Option (AObj × AKind) := LOp.run e (.runesOfStr x)
noncomputable def lMap (e : Env) : Option (AObj × AKind) := some (.map [], .map)
noncomputable def lRng (x : Opd) (e : Env) : Option (AObj × AKind) := LOp.run e (.rng x)
noncomputable def runL (x : LOp) : Env → Option (AObj × AKind) := LOp.rec (motive := fun _ => Env → Option (AObj × AKind)) lBox lAlloc lAllocT lBoxT lBslice lMk lBytes lRunes lMap lRng x
theorem runL_eq (x : LOp) (e : Env) : runL x e = x.run e := by
  cases x
  case box x =>
    show iteB (allL oneF (cellsF (evF x e))) (some (AObj.row { cells := cellsF (evF x e) }, AKind.ptr)) none = _
    simp only [evF_eq, cellsF_eq, oneF_eq, allL_eq, iteB_eq]; rfl
  case boxT t x =>
    show iteB (allL oneF (cellsF (evF x e))) (some (AObj.row { cells := cellsF (evF x e), ty := t }, AKind.ptr)) none = _
    simp only [evF_eq, cellsF_eq, oneF_eq, allL_eq, iteB_eq]; rfl
  all_goals rfl

/-! ### What is written, what is called -/
noncomputable def storeB (H : AHeap) (b o : Nat) (cs : List AV) (B : Blk) : Option AHeap :=
  iteB (iteB B.ro false (iteB (lenGe B.cells (Nat.add o (lenL cs))) (allL oneF cs) false)) (some (setHF H b (.row { B with cells := overF cs B.cells o }))) none
noncomputable def storeF (H : AHeap) (b o : Nat) (cs : List AV) : Option AHeap := orN (rowF H b) (storeB H b o cs)
theorem storeF_eq (H : AHeap) (b o : Nat) (cs : List AV) : storeF H b o cs = storeA H b o cs := by
  unfold storeF storeA
  rw [rowF_eq, orN_eq]
  cases H.row b with
  | none => rfl
  | some B =>
    simp only [storeB, oneF_eq, lenL_eq, allL_eq, overF_eq, setHF_eq]
    rw [lenGe_eq, show Nat.add o cs.length = o + cs.length from rfl]
    cases hro : B.ro with
    | true => simp [iteB]
    | false =>
      by_cases h : o + cs.length ≤ B.cells.length
      · cases ha : cs.all AV.one <;> simp [iteB, h]
      · simp [iteB, h]
noncomputable def pairU (H : AHeap) : Option (AV × AHeap) := some (.undef, H)
noncomputable def eStore (n : Nat) (a v : Opd) (cl : CallH) (H : AHeap) (e : Env) : Option (AV × AHeap) :=
  ifPtr (evF a e) (fun b o => iteB (Nat.beq (lenL (cellsF (evF v e))) n) (orN (storeF H b o (cellsF (evF v e))) pairU) none) none
noncomputable def srcB (o len es : Nat) (B : Blk) : Option (Nat × List AV) := orN (cutF B.cells o (Nat.mul len es)) (fun cs => some (len, cs))
noncomputable def srcF (H : AHeap) (es : Nat) (x : AV) : Option (Nat × List AV) := ifSlc x (fun b o len => iteB (Nat.beq len 0) (some (0, [])) (orN (rowF H b) (srcB o len es))) (srcCells H es x)
theorem srcF_eq (H : AHeap) (es : Nat) (x : AV) : srcF H es x = srcCells H es x := by
  cases x
  case slc b o len c =>
    unfold srcF srcCells
    rw [ifSlc_eq]
    simp only
    rw [beq_dec, iteB_dec, rowF_eq, orN_eq]
    by_cases h : len = 0
    · rw [if_pos h, if_pos h]
    · rw [if_neg h, if_neg h]
      cases H.row b with
      | none => rfl
      | some B => simp only [srcB, orN_eq, cutF_eq]; rw [show Nat.mul len es = len * es from rfl]; cases cut B.cells o (len * es) <;> rfl
  all_goals rfl
noncomputable def newS (ty n es : Nat) (cs : List AV) (H : AHeap) : Option (AV × AHeap) := some (.slc H.next 0 n n, allocF H (.row { cells := cs, es := es, ty := ty }))
noncomputable def oldS (b n es : Nat) (B : Blk) (cs : List AV) (H : AHeap) (ty : Nat) : Option (AV × AHeap) := some (.slc H.next 0 n n, allocF (setHF H b (.row { B with live := false })) (.row { cells := cs, es := es, ty := ty }))
noncomputable def appC (ty : Nat) (H : AHeap) (es b o n : Nat) (B : Blk) (new old : List AV) : Option (AV × AHeap) :=
  iteB (Nat.beq B.es 0) (newS ty n es (appL old new) H) (iteB (iteB (Nat.beq B.es es) (Bool.not B.ro) false) (iteB (iteB (Nat.beq o 0) (Nat.beq B.ty ty) false) (oldS b n es B (appL old new) H ty) (oldS b n es B (appL old new) H 0)) none)
noncomputable def appB (ty : Nat) (H : AHeap) (es b o len n : Nat) (new : List AV) (B : Blk) : Option (AV × AHeap) := orN (cutF B.cells o (Nat.mul len es)) (appC ty H es b o n B new)
noncomputable def appS (ty : Nat) (H : AHeap) (es bytes : Nat) (n : Nat) (new : List AV) (b o len cap : Nat) : Option (AV × AHeap) :=
  iteB (Nat.ble (Nat.add len n) cap) (appendA ty H es bytes (.slc b o len cap) n new)
    (iteB (iteB (Nat.ble (Nat.mul (Nat.add len n) bytes) 70368744177664) (Nat.ble (Nat.add len n) 70368744177664) false) (orN (rowF H b) (appB ty H es b o len (Nat.add len n) new)) none)
noncomputable def appF (ty : Nat) (H : AHeap) (es bytes : Nat) (s : AV) (n : Nat) (new : List AV) : Option (AV × AHeap) :=
  match s with
  | .slc b o len cap => appS ty H es bytes n new b o len cap
  | s => appendA ty H es bytes s n new
theorem appF_eq (ty : Nat) (H : AHeap) (es bytes : Nat) (s : AV) (n : Nat) (new : List AV) : appF ty H es bytes s n new = appendA ty H es bytes s n new := by
  cases s
  case slc b o len cap =>
    show appS ty H es bytes n new b o len cap = _
    unfold appS
    rw [ble_dec, show Nat.add len n = len + n from rfl, iteB_dec]
    by_cases h : len + n ≤ cap
    · rw [if_pos h]
    · rw [if_neg h]
      conv => rhs; unfold appendA
      simp only
      rw [if_neg h, ble_dec, ble_dec, show Nat.mul (len + n) bytes = (len + n) * bytes from rfl, iteB_dec]
      by_cases h1 : (len + n) * bytes ≤ 70368744177664
      · rw [if_pos h1, iteB_dec]
        by_cases h2 : len + n ≤ 70368744177664
        · rw [if_pos h2, if_neg (by simp [h1, h2]), rowF_eq, orN_eq]
          cases H.row b with
          | none => rfl
          | some B =>
            simp only [appB, orN_eq, cutF_eq]
            rw [show Nat.mul len es = len * es from rfl]
            cases cut B.cells o (len * es) with
            | none => rfl
            | some old =>
              simp only [appC, newS, oldS, beq_dec, iteB_dec, appL_eq, allocF_eq, setHF_eq]
              by_cases h3 : B.es = 0
              · rw [if_pos h3, if_pos h3]
              · rw [if_neg h3, if_neg h3]
                by_cases h4 : B.es = es
                · by_cases h5 : o = 0
                  · by_cases h6 : B.ty = ty
                    · cases hro : B.ro <;> simp [h4, h5, h6, iteB]
                    · cases hro : B.ro <;> simp [h4, h5, h6, iteB]
                  · cases hro : B.ro <;> simp [h4, h5, iteB]
                · simp [h4, iteB]
        · rw [if_neg h2, if_pos (by simp [h2])]
      · rw [if_neg h1, if_pos (by simp [h1])]; rfl
  all_goals rfl
noncomputable def eAppend (es bytes : Nat) (s x : Opd) (cl : CallH) (H : AHeap) (e : Env) : Option (AV × AHeap) :=
  orN (srcF H es (evF x e)) (fun p => iteB (iteB (Nat.beq es 0) true (iteB (Nat.beq bytes 0) true (Bool.not (allL oneF p.2)))) none (appF 0 H es bytes (evF s e) p.1 p.2))
noncomputable def eAppendT (ty es bytes : Nat) (s x : Opd) (cl : CallH) (H : AHeap) (e : Env) : Option (AV × AHeap) :=
  orN (srcF H es (evF x e)) (fun p => iteB (iteB (Nat.beq es 0) true (iteB (Nat.beq bytes 0) true (Bool.not (allL oneF p.2)))) none (appF ty H es bytes (evF s e) p.1 p.2))
noncomputable def eStrUns (t : Nat) (x n : Opd) (cl : CallH) (H : AHeap) (e : Env) : Option (AV × AHeap) := EOp.run cl H e (.strUns t x n)
noncomputable def eMapDel (kk : Nat) (m k : Opd) (cl : CallH) (H : AHeap) (e : Env) : Option (AV × AHeap) := EOp.run cl H e (.mapDel kk m k)
noncomputable def eCopy (es : Nat) (d s : Opd) (cl : CallH) (H : AHeap) (e : Env) : Option (AV × AHeap) := EOp.run cl H e (.copy es d s)
noncomputable def eClear (z : List AV) (s : Opd) (cl : CallH) (H : AHeap) (e : Env) : Option (AV × AHeap) := EOp.run cl H e (.clear z s)
noncomputable def eCall (f : FuncId) (as : List Opd) (cl : CallH) (H : AHeap) (e : Env) : Option (AV × AHeap) := cl (.fn f) (mapF e as) H
noncomputable def eCallv (f : Opd) (as : List Opd) (cl : CallH) (H : AHeap) (e : Env) : Option (AV × AHeap) :=
  match evF f e with | .fn (.func g) first captured => cl (.fn g) (appL (appL first (mapF e as)) captured) H | .yld b => cl (.yld b) (mapF e as) H | _ => none
noncomputable def eMap (kk : Nat) (m k v : Opd) (cl : CallH) (H : AHeap) (e : Env) : Option (AV × AHeap) := EOp.run cl H e (.mapUpd kk m k v)
noncomputable def eMark (x : Opd) (cl : CallH) (H : AHeap) (e : Env) : Option (AV × AHeap) := EOp.run cl H e (.mark x)
noncomputable def eNxt (x : Opd) (cl : CallH) (H : AHeap) (e : Env) : Option (AV × AHeap) := EOp.run cl H e (.nxt x)
noncomputable def eFail (cl : CallH) (H : AHeap) (e : Env) : Option (AV × AHeap) := none
noncomputable def runE (x : EOp) : CallH → AHeap → Env → Option (AV × AHeap) := EOp.rec (motive := fun _ => CallH → AHeap → Env → Option (AV × AHeap)) eStore eAppend eAppendT eStrUns eMapDel eCopy eClear eCall eCallv eMap eMark eNxt eFail x
theorem runE_eq (x : EOp) (cl : CallH) (H : AHeap) (e : Env) : runE x cl H e = x.run cl H e := by
  cases x
  case store n a v =>
    show ifPtr (evF a e) (fun b o => iteB (Nat.beq (lenL (cellsF (evF v e))) n) (orN (storeF H b o (cellsF (evF v e))) pairU) none) none = _
    simp only [evF_eq, cellsF_eq, lenL_eq, storeF_eq, beq_dec, iteB_dec, orN_eq, ifPtr_eq, EOp.run]
    generalize a.ev e = w
    cases w
    case ptr b o =>
      simp only
      split
      · cases storeA H b o (v.ev e).cells <;> rfl
      · rfl
    all_goals rfl
  case append es bytes s x =>
    show orN (srcF H es (evF x e)) (fun p => iteB (iteB (Nat.beq es 0) true (iteB (Nat.beq bytes 0) true (Bool.not (allL oneF p.2)))) none (appF 0 H es bytes (evF s e) p.1 p.2)) = _
    simp only [evF_eq, srcF_eq, oneF_eq, allL_eq, appF_eq, orN_eq, EOp.run]
    cases srcCells H es (x.ev e) with
    | none => rfl
    | some p =>
      obtain ⟨n, cs⟩ := p
      simp only
      rw [beq_dec, beq_dec]
      by_cases h1 : es = 0
      · simp [h1, iteB]
      · by_cases h2 : bytes = 0
        · simp [h1, h2, iteB]
        · cases h3 : cs.all AV.one <;> simp [h1, h2, h3, iteB]
  case appendT ty es bytes s x =>
    show orN (srcF H es (evF x e)) (fun p => iteB (iteB (Nat.beq es 0) true (iteB (Nat.beq bytes 0) true (Bool.not (allL oneF p.2)))) none (appF ty H es bytes (evF s e) p.1 p.2)) = _
    simp only [evF_eq, srcF_eq, oneF_eq, allL_eq, appF_eq, orN_eq, EOp.run]
    cases srcCells H es (x.ev e) with
    | none => rfl
    | some p =>
      obtain ⟨n, cs⟩ := p
      simp only
      rw [beq_dec, beq_dec]
      by_cases h1 : es = 0
      · simp [h1, iteB]
      · by_cases h2 : bytes = 0
        · simp [h1, h2, iteB]
        · cases h3 : cs.all AV.one <;> simp [h1, h2, h3, iteB]
  case call f as => show cl (.fn f) (mapF e as) H = _; rw [mapF_eq]; rfl
  case callv f as =>
    show (match evF f e with | .fn (.func g) first captured => cl (.fn g) (appL (appL first (mapF e as)) captured) H | .yld b => cl (.yld b) (mapF e as) H | _ => none) = _
    simp only [evF_eq, mapF_eq, appL_eq]; rfl
  all_goals rfl

/-! ### Regions -/
noncomputable def boolIs (v : AV) (b : Bool) : Bool := ifBool v (fun c => iteB b c (Bool.not c)) false
theorem boolIs_eq (v : AV) (b : Bool) : boolIs v b = (match v with | .bool c => c == b | _ => false) := by
  unfold boolIs
  rw [ifBool_eq]
  cases v
  case bool c => cases c <;> cases b <;> rfl
  all_goals rfl
noncomputable def wantF (e : Env) (g : Option (Nat × Bool)) : Bool := Option.rec (motive := fun _ => Bool) true (fun p => boolIs (getE e p.1) p.2) g
theorem wantF_eq (e : Env) (g : Option (Nat × Bool)) : wantF e g = want e g := by
  cases g with
  | none => rfl
  | some p =>
    show boolIs (getE e p.1) p.2 = _
    rw [getE_eq, boolIs_eq]; rfl
noncomputable def echoF (H : AHeap) (e : Env) (l : List Echo) : Bool := List.rec (motive := fun _ => Bool) true (fun x xs _ => echoOk H e (x :: xs)) l
theorem echoF_eq (H : AHeap) (e : Env) (l : List Echo) : echoF H e l = echoOk H e l := by cases l <;> rfl
noncomputable def oR (d : Option Nat) (ec : List Echo) (cl : CallH) (e : Env) (H : AHeap) (x : ROp) : Option (Env × AHeap) := orN (runR x H e) (fun v => some (putE e d v, H))
noncomputable def oA (d : Option Nat) (ec : List Echo) (cl : CallH) (e : Env) (H : AHeap) (x : LOp) : Option (Env × AHeap) := orN (runL x e) (fun p => some (putE e d (p.2.val H.next), allocF H p.1))
noncomputable def oE (d : Option Nat) (ec : List Echo) (cl : CallH) (e : Env) (H : AHeap) (x : EOp) : Option (Env × AHeap) := orN (runE x cl H e) (fun p => iteB (echoF p.2 e ec) (some (putE e d p.1, p.2)) none)
noncomputable def oOp (op : AOp) (d : Option Nat) (ec : List Echo) (cl : CallH) (e : Env) (H : AHeap) : Option (Env × AHeap) := AOp.rec (motive := fun _ => Option (Env × AHeap)) (oR d ec cl e H) (oA d ec cl e H) (oE d ec cl e H) op
noncomputable def runO (cl : CallH) (o : AOper) (e : Env) (H : AHeap) : Option (Env × AHeap) := iteB (wantF e o.guard) (oOp o.op o.dst o.echo cl e H) (some (putE e o.dst .undef, H))
theorem runO_eq (cl : CallH) (o : AOper) (e : Env) (H : AHeap) : runO cl o e H = o.run cl e H := by
  unfold runO AOper.run
  rw [wantF_eq, iteB_eq]
  split
  · cases o.op with
    | r x =>
      show orN (runR x H e) (fun v => some (putE e o.dst v, H)) = _
      simp only [runR_eq, putE_eq, orN_eq]; cases x.run H e <;> rfl
    | a x =>
      show orN (runL x e) (fun p => some (putE e o.dst (p.2.val H.next), allocF H p.1)) = _
      simp only [runL_eq, putE_eq, allocF_eq, orN_eq]
      cases x.run e <;> rfl
    | e x =>
      show orN (runE x cl H e) (fun p => iteB (echoF p.2 e o.echo) (some (putE e o.dst p.1, p.2)) none) = _
      simp only [runE_eq, putE_eq, echoF_eq, iteB_eq, orN_eq]
      cases x.run cl H e <;> rfl
  · rw [putE_eq]
noncomputable def opsS (cl : CallH) (o : AOper) (ih : Env → AHeap → Option (Env × AHeap)) (e : Env) (H : AHeap) : Option (Env × AHeap) := orN (runO cl o e H) (fun p => ih p.1 p.2)
noncomputable def runOpsF (cl : CallH) (l : List AOper) : Env → AHeap → Option (Env × AHeap) := List.rec (motive := fun _ => Env → AHeap → Option (Env × AHeap)) (fun e H => some (e, H)) (fun o _ ih => opsS cl o ih) l
theorem runOpsF_eq (cl : CallH) (l : List AOper) : ∀ e H, runOpsF cl l e H = runOps cl l e H := by
  induction l with
  | nil => intro e H; rfl
  | cons o l ih =>
    intro e H
    show orN (runO cl o e H) (fun p => runOpsF cl l p.1 p.2) = _
    simp only [ih, runO_eq, orN_eq, runOps]
    cases o.run cl e H <;> rfl

/-! ### Code -/
noncomputable def onEx (x : AEx) (n : Out) (k : Nat → Out) (r : Out) : Out := AEx.rec (motive := fun _ => Out) n k r x
noncomputable def cSkip (e : Env) (H : AHeap) : Out := some (.normal, e, H)
noncomputable def cOps (cl : CallH) (l : List AOper) (e : Env) (H : AHeap) : Out := orN (runOpsF cl l e H) (fun p => some (.normal, p.1, p.2))
noncomputable def thenF (g : Env → AHeap → Out) (r : AEx × Env × AHeap) : Out := onEx r.1 (g r.2.1 r.2.2) (fun _ => some r) (some r)
noncomputable def cSeq (f g : Env → AHeap → Out) (e : Env) (H : AHeap) : Out := orN (f e H) (thenF g)
noncomputable def cCond (c : Opd) (f g : Env → AHeap → Out) (e : Env) (H : AHeap) : Out := ifBool (evF c e) (fun t => iteB t (f e H) (g e H)) none
noncomputable def blkF (id : Nat) (r : AEx × Env × AHeap) : Out := onEx r.1 (some r) (fun i => iteB (Nat.beq i id) (some (.normal, r.2)) (some r)) (some r)
noncomputable def cBlock (id : Nat) (f : Env → AHeap → Out) (e : Env) (H : AHeap) : Out := orN (f e H) (blkF id)
noncomputable def itS (f ih : Env → AHeap → Out) (e : Env) (H : AHeap) : Out := orN (f e H) (thenF ih)
noncomputable def itF (f : Env → AHeap → Out) (n : Nat) : Env → AHeap → Out := Nat.rec (motive := fun _ => Env → AHeap → Out) (fun _ _ => none) (fun _ ih => itS f ih) n
def ifLoop (o : Option AObj) (f : ALoop → Out) : Out := match o with | some (.loop R) => f R | _ => none
noncomputable def cRange2 (b : Nat) (e : Env) (p : AV × AHeap) : Out := ifLoop (getH p.2 b) (fun R => iteB (Nat.beq R.st 1) none (some (R.pend, e, setHF p.2 b (.loop { R with st := 3 }))))
noncomputable def cRange (cl : CallH) (g : Opd) (N : Nat) (ps : List Nat) (as bd : ACode) (e : Env) (H : AHeap) : Out :=
  match evF g e with
  | .fn (.func f) first cap => orN (cl (.fn f) (appL (appL first [.yld H.next]) cap) (allocF H (.loop ⟨0, .normal, N, e, ps, as, bd⟩))) (cRange2 H.next e)
  | _ => none
noncomputable def cExit (id : Nat) (e : Env) (H : AHeap) : Out := some (.exit id, e, H)
noncomputable def cRet (e : Env) (H : AHeap) : Out := some (.ret, e, H)
noncomputable def cFail (e : Env) (H : AHeap) : Out := none
noncomputable def runC (cl : CallH) (fuel : Nat) (c : ACode) : Env → AHeap → Out := ACode.rec (motive := fun _ => Env → AHeap → Out) cSkip (cOps cl) (fun _ _ f g => cSeq f g) (fun c _ _ f g => cCond c f g) (fun id _ f => cBlock id f) (fun _ f => itF f fuel) (fun g N ps a b _ _ => cRange cl g N ps a b) cExit cRet cFail c
theorem itF_eq {f g : Env → AHeap → Out} (h : ∀ e H, f e H = g e H) : ∀ n e H, itF f n e H = iter g n e H
  | 0, e, H => rfl
  | n + 1, e, H => by
    show orN (f e H) (thenF (itF f n)) = _
    rw [h, orN_eq, iter]
    cases g e H with
    | none => rfl
    | some r =>
      obtain ⟨x, e', H'⟩ := r
      cases x with
      | normal => exact itF_eq h n e' H'
      | exit i => rfl
      | ret => rfl
theorem runC_eq (cl : CallH) (fuel : Nat) (c : ACode) : ∀ e H, runC cl fuel c e H = c.run cl fuel e H := by
  induction c with
  | skip => intro e H; rfl
  | ops l =>
    intro e H
    show orN (runOpsF cl l e H) (fun p => some (AEx.normal, p.1, p.2)) = _
    rw [runOpsF_eq, orN_eq, ACode.run]
    cases runOps cl l e H <;> rfl
  | seq a b iha ihb =>
    intro e H
    show orN (runC cl fuel a e H) (thenF (runC cl fuel b)) = _
    rw [iha, orN_eq, ACode.run]
    cases a.run cl fuel e H with
    | none => rfl
    | some r =>
      obtain ⟨x, e', H'⟩ := r
      cases x with
      | normal => exact ihb e' H'
      | exit i => rfl
      | ret => rfl
  | cond c a b iha ihb =>
    intro e H
    show ifBool (evF c e) (fun t => iteB t (runC cl fuel a e H) (runC cl fuel b e H)) none = _
    simp only [evF_eq, iha, ihb, ACode.run, ifBool_eq]
    generalize c.ev e = w
    cases w
    case bool t => cases t <;> rfl
    all_goals rfl
  | block id c ih =>
    intro e H
    show orN (runC cl fuel c e H) (blkF id) = _
    rw [ih, orN_eq, ACode.run]
    cases c.run cl fuel e H with
    | none => rfl
    | some r =>
      obtain ⟨x, e', H'⟩ := r
      cases x with
      | normal => rfl
      | exit i => show iteB (Nat.beq i id) _ _ = _; rw [beq_dec, iteB_dec]
      | ret => rfl
  | loop c ih => intro e H; exact itF_eq ih fuel e H
  | rangeF g N ps a b _ _ =>
    intro e H
    show cRange cl g N ps a b e H = _
    unfold cRange
    simp only [evF_eq, appL_eq, allocF_eq, ACode.run]
    generalize g.ev e = w
    cases w
    case fn f first cap =>
      cases f
      case func f =>
        simp only
        rw [orN_eq]
        cases cl (.fn f) (first ++ [AV.yld H.next] ++ cap) (H.alloc (.loop ⟨0, .normal, N, e, ps, a, b⟩)) with
        | none => rfl
        | some p =>
          obtain ⟨v, H'⟩ := p
          simp only [cRange2, getH_eq, setHF_eq, beq_dec, iteB_dec]
          unfold ifLoop
          cases H'.get H.next with
          | none => rfl
          | some o => cases o <;> rfl
      all_goals rfl
    all_goals rfl
  | exit id => intro e H; rfl
  | ret => intro e H; rfl
  | fail => intro e H; rfl

/-! ### Calls -/
noncomputable def rvF (r : ARes) : Env → AHeap → Option AV := ARes.rec (motive := fun _ => Env → AHeap → Option AV) (fun i e _ => some (getE e i)) (fun i sz e H => rLoad sz (.t i) H e) r
noncomputable def rvsF (e : Env) (H : AHeap) (l : List ARes) : Option (List AV) := List.rec (motive := fun _ => Option (List AV)) (some []) (fun r _ ih => orN (rvF r e H) (fun v => orN ih (fun vs => some (v :: vs)))) l
theorem rvsF_eq (e : Env) (H : AHeap) (l : List ARes) : rvsF e H l = resVals e H l := by
  induction l with
  | nil => rfl
  | cons r l ih =>
    show orN (rvF r e H) (fun v => orN (rvsF e H l) (fun vs => some (v :: vs))) = _
    have : rvF r e H = r.val e H := by
      cases r with
      | t i => show some (getE e i) = _; rw [getE_eq]; rfl
      | cell i sz => show rLoad sz (.t i) H e = _; exact runR_eq (.load sz (.t i)) H e
    rw [ih, this, orN_eq, resVals]
    cases r.val e H with
    | none => rfl
    | some v => simp only [orN_eq]; cases resVals e H l <;> rfl
noncomputable def oneOf (vs : List AV) : Option AV := List.rec (motive := fun _ => Option AV) (some (.tup vs)) (fun v l _ => List.rec (motive := fun _ => Option AV) (some v) (fun _ _ _ => some (.tup vs)) l) vs
noncomputable def resF (e : Env) (H : AHeap) (l : List ARes) : Option AV := orN (rvsF e H l) oneOf
theorem resF_eq (e : Env) (H : AHeap) (l : List ARes) : resF e H l = resVal e H l := by
  unfold resF resVal
  rw [rvsF_eq, orN_eq]
  cases resVals e H l with
  | none => rfl
  | some vs => cases vs with
    | nil => rfl
    | cons v vs => cases vs <;> rfl
noncomputable def endS (res : List ARes) (e : Env) (H : AHeap) : Option (AV × AHeap) := orN (resF e H res) (fun v => some (v, H))
noncomputable def endF (res : List ARes) (r : AEx × Env × AHeap) : Option (AV × AHeap) := AEx.rec (motive := fun _ => Option (AV × AHeap)) (endS res r.2.1 r.2.2) (fun _ => none) (endS res r.2.1 r.2.2) r.1
noncomputable def bodyF (ih : CallH) (n : Nat) (args : List AV) (H : AHeap) (F : AFunc) : Option (AV × AHeap) := iteB (Nat.ble (lenL args) F.ntmps) (orN (runC ih n F.body (initF args 0 .nil) H) (endF F.res)) none
noncomputable def fnF (P : Prog) (ih : CallH) (n : Nat) (f : FuncId) (args : List AV) (H : AHeap) : Option (AV × AHeap) := Option.rec (motive := fun _ => Option (AV × AHeap)) (Option.rec (motive := fun _ => Option (AV × AHeap)) (orN (P.orh f args H) (fun v => some (v, H))) (fun F => bodyF ih n args H F) (P.fns f)) (fun v => iteB (hasTabs H P.tabs) (some (v, H)) none) (P.orc f args)
noncomputable def stepY (P : Prog) (ih : CallH) (n b : Nat) (args : List AV) (H : AHeap) : Option (AV × AHeap) :=
  match getH H b with
  | some (.loop R) =>
    iteB (iteB (Nat.beq R.st 0) (Nat.beq (lenL args) (lenL R.ps)) false) (
      match runC ih n R.assign (putAll R.ps args R.env) H with
      | some (.normal, e, H1) =>
        (match getH H1 b with
        | some (.loop R1) =>
          iteB (Nat.beq R1.st 0) (
          match runC ih n R.body e (setHF H1 b (.loop { R1 with st := 1 })) with
          | some (x, _, H2) =>
            (match getH H2 b with
            | some (.loop R2) => some (.bool (decide (x = .normal)), setHF H2 b (.loop { R2 with st := if x = .normal then 0 else 2, pend := x }))
            | _ => none)
          | none => none) none
        | _ => none)
      | _ => none) none
  | _ => none
noncomputable def stepC (P : Prog) (ih : CallH) (n : Nat) (c : CFn) (args : List AV) (H : AHeap) : Option (AV × AHeap) := CFn.rec (motive := fun _ => Option (AV × AHeap)) (fun f => fnF P ih n f args H) (fun b => stepY P ih n b args H) c
noncomputable def call (P : Prog) (n : Nat) : CallH := Nat.rec (motive := fun _ => CallH) (fun _ _ _ => none) (fun n ih => stepC P ih n) n
theorem call_eq (P : Prog) : ∀ n, call P n = callF P n
  | 0 => by funext c args H; cases c <;> rfl
  | n + 1 => by
    have ih := call_eq P n
    funext c args H
    show stepC P (call P n) n c args H = _
    rw [ih]
    cases c with
    | fn f =>
      show fnF P (callF P n) n f args H = _
      unfold fnF
      simp only [callF]
      cases P.orc f args with
      | some v =>
        show iteB (hasTabs H P.tabs) (some (v, H)) none = _
        cases hasTabs H P.tabs <;> rfl
      | none =>
        cases P.fns f with
        | none => show orN (P.orh f args H) (fun v => some (v, H)) = _; rw [orN_eq]; cases P.orh f args H <;> rfl
        | some F =>
          show bodyF (callF P n) n args H F = _
          unfold bodyF
          simp only [lenL_eq, ble_dec, iteB_dec, initF_eq, runC_eq]
          by_cases h : args.length ≤ F.ntmps
          · rw [if_pos h, if_neg (by omega), orN_eq]
            cases F.body.run (callF P n) n (Env.init 0 args .nil) H with
            | none => rfl
            | some r =>
              obtain ⟨x, e', H'⟩ := r
              cases x with
              | normal => show endS F.res e' H' = (match resVal e' H' F.res with | some v => some (v, H') | none => none); unfold endS; rw [resF_eq, orN_eq]; cases resVal e' H' F.res <;> rfl
              | exit i => rfl
              | ret => show endS F.res e' H' = (match resVal e' H' F.res with | some v => some (v, H') | none => none); unfold endS; rw [resF_eq, orN_eq]; cases resVal e' H' F.res <;> rfl
          · rw [if_neg h, if_pos (by omega)]
    | yld b =>
      show stepY P (callF P n) n b args H = _
      unfold stepY
      simp only [callF, getH_eq, setHF_eq, lenL_eq, beq_dec, runC_eq]
      cases H.get b with
      | none => rfl
      | some o =>
        cases o with
        | row B => rfl
        | map es => rfl
        | itr s p => rfl
        | loop R =>
          simp only
          rw [iteB_dec]
          by_cases h1 : R.st = 0
          · rw [if_pos h1, iteB_dec]
            by_cases h2 : args.length = R.ps.length
            · rw [if_pos h2, if_neg (by simp [h1, h2])]
              cases R.assign.run (callF P n) n (putAll R.ps args R.env) H with
              | none => rfl
              | some r =>
                obtain ⟨x, e, H1⟩ := r
                cases x with
                | exit i => rfl
                | ret => rfl
                | normal =>
                  simp only
                  cases H1.get b with
                  | none => rfl
                  | some o1 =>
                    cases o1 with
                    | row B => rfl
                    | map es => rfl
                    | itr s p => rfl
                    | loop R1 =>
                      simp only
                      rw [iteB_dec]
                      by_cases h3 : R1.st = 0
                      · rw [if_pos h3, if_neg (by simp [h3])]
                        cases R.body.run (callF P n) n e (H1.set b (.loop { R1 with st := 1 })) with
                        | none => rfl
                        | some r2 =>
                          obtain ⟨x, e2, H2⟩ := r2
                          simp only
                          cases H2.get b with
                          | none => rfl
                          | some o2 => cases o2 <;> rfl
                      · rw [if_neg h3, if_pos h3]
            · rw [if_neg h2, if_pos (by simp [h2])]
          · rw [if_neg h1, if_pos (by simp [h1])]; rfl
end Fast
end Go.Proofs.YtdkpmlhbofgfdaaGreatDoor.AM
