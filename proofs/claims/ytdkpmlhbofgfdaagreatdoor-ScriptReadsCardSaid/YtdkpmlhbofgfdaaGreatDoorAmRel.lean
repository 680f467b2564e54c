/-
  When a world of the model stands for a memory of the abstract machine: the relation, and how it goes on behind a new block, a write, an append.
-/
import Derived.Test.YtdkpmlhbofgfdaaGreatDoorAmBase
set_option linter.unusedSimpArgs false
set_option linter.unusedVariables false
namespace Go.Proofs.YtdkpmlhbofgfdaaGreatDoor.AM
open Go Go.RowKit

/-- Where an abstract block lies: the block, its first cell, how many cells from there on, the size of an element if it may grow (else 0). -/
structure Loc where
  blk : Nat
  off : Nat
  room : Nat
  es : Nat
abbrev Inj := Nat → Option Loc
def Inj.le (m m' : Inj) : Prop := ∀ b L, m b = some L → m' b = some L
def Inj.upd (m : Inj) (b : Nat) (L : Loc) : Inj := fun c => if c = b then some L else m c
theorem Inj.le_refl (m : Inj) : m.le m := fun _ _ h => h
theorem Inj.le_trans {a b c : Inj} (h : a.le b) (k : b.le c) : a.le c := fun _ _ e => k _ _ (h _ _ e)
theorem Inj.le_upd {m : Inj} {b : Nat} {L : Loc} (h : m b = none) : m.le (m.upd b L) := by
  intro c L' e
  unfold Inj.upd
  split
  · rename_i hc; subst hc; rw [h] at e; cases e
  · exact e
theorem Inj.upd_same (m : Inj) (b : Nat) (L : Loc) : m.upd b L b = some L := by simp [Inj.upd]

inductive VR (m : Inj) : AV → Value → Prop
  | bool (b : Bool) : VR m (.bool b) (.bool b)
  | int (k : IntKind) (n : Int) : VR m (.int k n) (.int k n)
  | str (s : ByteArray) : VR m (.str s.data.toList) (.string s)
  | nilp : VR m .nilp (.pointer none)
  | ptr {b o : Nat} {L : Loc} (h : m b = some L) : VR m (.ptr b o) (.pointer (some ⟨L.blk, L.off + o, none⟩))
  | nils : VR m .nils (.slice none 0 0)
  | slc {b o len cap cap' : Nat} {a : Addr} {L : Loc} (h : m b = some L) (hl : len ≤ cap) (hc : cap = cap' ∨ (cap < cap' ∧ 0 < L.es ∧ o + cap' * L.es ≤ L.room))
      (ha : 0 < cap' → a = ⟨L.blk, L.off + o, none⟩) : VR m (.slc b o len cap) (.slice (some a) len cap')
  | nilm : VR m .nilm (.map none)
  | map {b : Nat} {L : Loc} (h : m b = some L) : VR m (.map b) (.map (some L.blk))
  | nilFn : VR m .nilFn .nilFunc
  | fn {f : Fn} {x y : List AV} {x' y' : Array Value} (hx : x.length = x'.size) (hxs : ∀ (i : Nat) (v : AV) (v' : Value), x[i]? = some v → x'[i]? = some v' → VR m v v')
      (hy : y.length = y'.size) (hys : ∀ (i : Nat) (v : AV) (v' : Value), y[i]? = some v → y'[i]? = some v' → VR m v v') : VR m (.fn f x y) (.func f x' y')
  | yld {b : Nat} {L : Loc} (h : m b = some L) : VR m (.yld b) (.func (.yield L.blk) #[] #[])
  | nilIface : VR m .nilIface .nilIface
  | iface {t : TypeId} {v : AV} {v' : Value} (h : VR m v v') : VR m (.iface t v) (.iface t v')
  | agg {x : List AV} {x' : Array Value} (hx : x.length = x'.size) (hxs : ∀ (i : Nat) (v : AV) (v' : Value), x[i]? = some v → x'[i]? = some v' → VR m v v') : VR m (.agg x) (.agg x')
  | tup {x : List AV} {x' : Array Value} (hx : x.length = x'.size) (hxs : ∀ (i : Nat) (v : AV) (v' : Value), x[i]? = some v → x'[i]? = some v' → VR m v v') : VR m (.tup x) (.tuple x')

/-- the same of rows -/
def LR (m : Inj) (x : List AV) (x' : List Value) : Prop := x.length = x'.length ∧ ∀ (i : Nat) (v : AV) (v' : Value), x[i]? = some v → x'[i]? = some v' → VR m v v'

theorem VR.mono {m m' : Inj} (h : m.le m') : ∀ {v : AV} {c : Value}, VR m v c → VR m' v c := by
  intro v c hv
  induction hv with
  | bool b => exact .bool b
  | int k n => exact .int k n
  | str s => exact .str s
  | nilp => exact .nilp
  | ptr hb => exact .ptr (h _ _ hb)
  | nils => exact .nils
  | slc hb hl hc ha => exact .slc (h _ _ hb) hl hc ha
  | nilm => exact .nilm
  | map hb => exact .map (h _ _ hb)
  | nilFn => exact .nilFn
  | fn hx _ hy _ ihx ihy => exact .fn hx ihx hy ihy
  | yld hb => exact .yld (h _ _ hb)
  | nilIface => exact .nilIface
  | iface _ ih => exact .iface ih
  | agg hx _ ih => exact .agg hx ih
  | tup hx _ ih => exact .tup hx ih
theorem LR.mono {m m' : Inj} (h : m.le m') {x : List AV} {x' : List Value} (hx : LR m x x') : LR m' x x' := ⟨hx.1, fun i v v' a b => (hx.2 i v v' a b).mono h⟩
theorem VR.undef (m : Inj) : VR m .undef undef := .tup rfl (fun i v v' h => by simp at h)
theorem LR.nil (m : Inj) : LR m [] [] := ⟨rfl, fun i v v' h => by simp at h⟩
theorem LR.cons {m : Inj} {v : AV} {v' : Value} {x : List AV} {x' : List Value} (h : VR m v v') (hx : LR m x x') : LR m (v :: x) (v' :: x') := by
  refine ⟨by simp [hx.1], fun i u u' a b => ?_⟩
  cases i with
  | zero => simp at a b; subst a; subst b; exact h
  | succ i => simp at a b; exact hx.2 i u u' a b
theorem LR.cons_inv {m : Inj} {v : AV} {x : List AV} {x' : List Value} (h : LR m (v :: x) x') : ∃ v' y', x' = v' :: y' ∧ VR m v v' ∧ LR m x y' := by
  cases x' with
  | nil => have := h.1; simp at this
  | cons v' y' => exact ⟨v', y', rfl, h.2 0 v v' rfl rfl, by have := h.1; simpa using this, fun i u u' a b => h.2 (i + 1) u u' (by simpa using a) (by simpa using b)⟩
theorem LR.nil_inv {m : Inj} {x' : List Value} (h : LR m [] x') : x' = [] := by
  have := h.1
  cases x' with
  | nil => rfl
  | cons a b => simp at this
theorem LR.append {m : Inj} {x y : List AV} {x' y' : List Value} (h : LR m x x') (k : LR m y y') : LR m (x ++ y) (x' ++ y') := by
  induction x generalizing x' with
  | nil => rw [h.nil_inv]; exact k
  | cons v x ih =>
    obtain ⟨v', z', rfl, hv, hz⟩ := h.cons_inv
    exact .cons hv (ih hz)
theorem LR.get {m : Inj} {x : List AV} {x' : List Value} (h : LR m x x') {i : Nat} {v : AV} (hv : x[i]? = some v) : ∃ v', x'[i]? = some v' ∧ VR m v v' := by
  have hi : i < x.length := (List.getElem?_eq_some_iff.1 hv).1
  have hi' : i < x'.length := by rw [← h.1]; exact hi
  exact ⟨x'[i], by simp [hi'], h.2 i v _ hv (by simp [hi'])⟩
theorem LR.drop {m : Inj} {x : List AV} {x' : List Value} (h : LR m x x') (n : Nat) : LR m (x.drop n) (x'.drop n) :=
  ⟨by simp [h.1], fun i v v' a b => h.2 (n + i) v v' (by simpa using a) (by simpa using b)⟩
theorem LR.take {m : Inj} {x : List AV} {x' : List Value} (h : LR m x x') (n : Nat) : LR m (x.take n) (x'.take n) :=
  ⟨by simp [h.1], fun i v v' a b => by
    have h1 : i < n := by
      have := (List.getElem?_eq_some_iff.1 a).1
      simp at this; omega
    rw [List.getElem?_take_of_lt h1] at a b
    exact h.2 i v v' a b⟩
theorem LR.set {m : Inj} {x : List AV} {x' : List Value} (h : LR m x x') (n : Nat) {v : AV} {v' : Value} (hv : VR m v v') : LR m (x.set n v) (x'.set n v') :=
  ⟨by simp [h.1], fun i u u' a b => by
    rw [List.getElem?_set] at a b
    split at a
    · rename_i e; subst e
      split at a
      · simp only [if_true] at b
        split at b
        · injection a with a; injection b with b; subst a; subst b; exact hv
        · cases b
      · cases a
    · rename_i e; rw [if_neg e] at b; exact h.2 i u u' a b⟩
theorem LR.getD {m : Inj} {x : List AV} {x' : List Value} (h : LR m x x') (i : Nat) : VR m (x.getD i .undef) (x'.getD i undef) := by
  by_cases hi : i < x.length
  · obtain ⟨v', h1, h2⟩ := h.get (i := i) (v := x[i]) (by simp [hi])
    simp only [List.getD, h1, List.getElem?_eq_getElem hi]
    exact h2
  · have : ¬ i < x'.length := by rw [← h.1]; exact hi
    simp only [List.getD, List.getElem?_eq_none (Nat.le_of_not_lt hi), List.getElem?_eq_none (Nat.le_of_not_lt this)]
    exact VR.undef m
theorem VR.agg' {m : Inj} {x : List AV} {x' : Array Value} (h : LR m x x'.toList) : VR m (.agg x) (.agg x') :=
  .agg (by simpa using h.1) (fun i v v' a b => h.2 i v v' a (by simpa using b))
theorem VR.tup' {m : Inj} {x : List AV} {x' : Array Value} (h : LR m x x'.toList) : VR m (.tup x) (.tuple x') :=
  .tup (by simpa using h.1) (fun i v v' a b => h.2 i v v' a (by simpa using b))
theorem VR.agg_inv {m : Inj} {x : List AV} {c : Value} (h : VR m (.agg x) c) : ∃ x' : Array Value, c = .agg x' ∧ LR m x x'.toList := by
  cases h with
  | agg hx hxs => exact ⟨_, rfl, by simpa using hx, fun i v v' a b => hxs i v v' a (by simpa using b)⟩
theorem VR.tup_inv {m : Inj} {x : List AV} {c : Value} (h : VR m (.tup x) c) : ∃ x' : Array Value, c = .tuple x' ∧ LR m x x'.toList := by
  cases h with
  | tup hx hxs => exact ⟨_, rfl, by simpa using hx, fun i v v' a b => hxs i v v' a (by simpa using b)⟩
theorem VR.one {m : Inj} {v : AV} {c : Value} (h : VR m v c) (ho : v.one = true) : c.oneCell' = true := by
  cases h <;> first | rfl | (simp [AV.one] at ho)
theorem VR.cells {m : Inj} {v : AV} {c : Value} (h : VR m v c) : LR m v.cells c.cells.toList := by
  cases h with
  | agg hx hxs => exact ⟨by simpa [AV.cells, Value.cells] using hx, fun i v v' a b => hxs i v v' a (by simpa [Value.cells] using b)⟩
  | _ => refine LR.cons ?_ (LR.nil m); constructor <;> assumption
theorem LR.over {m : Inj} {x : List AV} {x' : List Value} (h : LR m x x') : ∀ {y : List AV} {y' : List Value} (o : Nat), LR m y y' → LR m (over x o y) (y'.zipIdx.foldl (fun cs (c, j) => cs.set (o + j) c) x') := by
  intro y
  induction y generalizing x x' with
  | nil => intro y' o hy; rw [hy.nil_inv]; exact h
  | cons v y ih =>
    intro y' o hy
    obtain ⟨v', z', rfl, hv, hz⟩ := hy.cons_inv
    have h1 := ih (h.set o hv) (o + 1) hz
    have e : ∀ (l : List Value) (k : Nat) (w : List Value), (l.zipIdx k).foldl (fun cs (p : Value × Nat) => cs.set (o + 1 + p.2) p.1) w = (l.zipIdx (k + 1)).foldl (fun cs (p : Value × Nat) => cs.set (o + p.2) p.1) w := by
      intro l
      induction l with
      | nil => intro k w; rfl
      | cons a l ih =>
        intro k w
        simp only [List.zipIdx_cons, List.foldl_cons]
        rw [ih, show o + 1 + k = o + (k + 1) from by omega]
    show LR m (AM.over (x.set o v) (o + 1) y) _
    simp only [List.zipIdx_cons, List.foldl_cons, Nat.add_zero, Nat.zero_add]
    rw [← e z' 0]
    exact h1

/-- a record: of a loop, or of a walk through a text -/
def isRec : AObj → Bool
  | .loop _ | .itr _ _ => true
  | _ => false
/-- A block of the model that the machine holds and may write. -/
def owned (H : AHeap) (b : Nat) : Prop := (∃ B, H.get b = some (.row B) ∧ B.live = true ∧ B.ro = false) ∨ (∃ es, H.get b = some (.map es)) ∨ ∃ o, H.get b = some o ∧ isRec o = true
def stOf : Nat → LoopState
  | 0 => .ready
  | 1 => .busy
  | 2 => .done
  | _ => .exhausted
def jumpOf : AEx → Option Code
  | .normal => none
  | .exit id => some (.exit id)
  | .ret => some .ret
/-- the record of a loop -/
structure LpR (P : Program) (gl : List Nat) (m : Inj) (R : ALoop) (r : Loop) : Prop where
  st : r.state = stOf R.st
  pend : r.pending = jumpOf R.pend
  size : r.tmps.size = R.N
  tmps : ∀ x, VR m (Env.get R.env x) (r.tmps.getD x undef)
  ps : r.params.toList = R.ps
  lt : ∀ p ∈ R.ps, p < R.N
  assign : ccode P gl R.N r.assign = some R.assign
  body : ccode P gl R.N r.body = some R.body
theorem LpR.mono {P : Program} {gl : List Nat} {m m' : Inj} {R : ALoop} {r : Loop} (h : m.le m') (k : LpR P gl m R r) : LpR P gl m' R r :=
  ⟨k.st, k.pend, k.size, fun x => (k.tmps x).mono h, k.ps, k.lt, k.assign, k.body⟩
def RecR (P : Program) (gl : List Nat) (m : Inj) (L : Loc) : AObj → Obj → Prop
  | .loop R, .loop r => LpR P gl m R r
  | .itr s pos, .stringIter s' pos' => s'.data.toList = s ∧ pos' = pos ∧ L.off = 0
  | _, _ => False
theorem RecR.mono {P : Program} {gl : List Nat} {m m' : Inj} {L : Loc} {o : AObj} {r : Obj} (h : m.le m') (k : RecR P gl m L o r) : RecR P gl m' L o r := by
  cases o <;> cases r <;> first | exact k.elim | exact LpR.mono h k | exact k
theorem RecR.cells {P : Program} {gl : List Nat} {m : Inj} {L : Loc} {o : AObj} {a : Array Value} {t : TypeId} {f : Nat × Nat} (k : RecR P gl m L o (.cells a t f)) : False := by
  cases o <;> exact k
/-- no cell is frozen -/
def FzOk (n lo hi : Nat) : Prop := lo ≤ hi ∧ ∀ i, i < n → ¬ (lo ≤ i ∧ i < hi)
theorem FzOk.zero (n : Nat) : FzOk n 0 0 := ⟨Nat.le_refl _, fun i hi => by omega⟩
/-- a row of elements of a type, from its begin on -/
def TyAt (W : World) (L : Loc) (t n : Nat) : Prop := L.off = 0 ∧ ∃ arr fz, W.heap[L.blk]? = some (.cells arr t fz) ∧ n ≤ arr.size
structure SR (P : Program) (gl : List Nat) (base : Nat) (m : Inj) (H : AHeap) (W : World) : Prop where
  le : base ≤ W.heap.size
  dom : ∀ b L, m b = some L → b < H.next
  fresh : ∀ b, H.next ≤ b → H.get b = none
  es : ∀ b L B, m b = some L → H.get b = some (.row B) → L.es = B.es
  cell : ∀ b L B, m b = some L → H.get b = some (.row B) → B.live = true → ∀ (i : Nat) (v : AV), B.cells[i]? = some v → ∃ c, W.cell? ⟨L.blk, L.off + i, none⟩ = some c ∧ VR m v c
  ro : ∀ b L B, m b = some L → H.get b = some (.row B) → B.live = true → B.ro = true → L.blk < base ∨ B.cells = []
  rw : ∀ b L B, m b = some L → H.get b = some (.row B) → B.live = true → B.ro = false → base ≤ L.blk ∧ ∃ arr el lo hi, W.heap[L.blk]? = some (.cells arr el (lo, hi)) ∧ L.off + L.room = arr.size ∧
      B.cells.length ≤ L.room ∧ FzOk arr.size lo hi
  mp : ∀ b L es, m b = some L → H.get b = some (.map es) → base ≤ L.blk ∧ ∃ arr clock, W.heap[L.blk]? = some (.map arr clock) ∧ es.length = arr.size ∧
      ∀ (i : Nat) (k v : AV) (E : MapEntry), es[i]? = some (k, v) → arr[i]? = some E → VR m k E.key ∧ VR m v E.val
  lp : ∀ b L o, m b = some L → H.get b = some o → isRec o = true → base ≤ L.blk ∧ ∃ r, W.heap[L.blk]? = some r ∧ RecR P gl m L o r
  inj : ∀ b b' L L', m b = some L → m b' = some L' → owned H b → owned H b' → b ≠ b' → L.blk ≠ L'.blk
  ty : ∀ b L B, m b = some L → H.get b = some (.row B) → B.ty ≠ 0 → TyAt W L B.ty B.cells.length

/-- W' is W but for block g. -/
structure Wr (W W' : World) (g : Nat) (o : Obj) : Prop where
  os : W'.os = W.os
  tape : W'.tape = W.tape
  output : W'.output = W.output
  size : W'.heap.size = W.heap.size
  same : ∀ k, k ≠ g → W'.heap[k]? = W.heap[k]?
  at_ : W'.heap[g]? = some o
theorem Wr.below {W W' : World} {g : Nat} {o : Obj} (h : Wr W W' g o) {B : Nat} (hg : B ≤ g) : Below B W W' :=
  ⟨h.os, h.tape, h.output, Nat.le_of_eq h.size.symm, fun k hk => h.same k (by omega)⟩
theorem cell_of (W : World) (g i : Nat) (arr : Array Value) (el : TypeId) (fz : Nat × Nat) (h : W.heap[g]? = some (.cells arr el fz)) : W.cell? ⟨g, i, none⟩ = arr[i]? := by
  simp [World.cell?, h]
theorem cell_block {W W' : World} {a : Addr} (h : W'.heap[a.block]? = W.heap[a.block]?) : W'.cell? a = W.cell? a := by simp [World.cell?, h]

theorem TyAt.wr {W W' : World} {g : Nat} {o : Obj} {L : Loc} {t n : Nat} (hw : Wr W W' g o) (ho : ∀ a t f, W.heap[g]? = some (.cells a t f) → ∃ a' f', o = .cells a' t f' ∧ a'.size = a.size) (h : TyAt W L t n) : TyAt W' L t n := by
  obtain ⟨h0, a, f, h1, h2⟩ := h
  refine ⟨h0, ?_⟩
  by_cases hg : L.blk = g
  · rw [hg] at h1
    obtain ⟨a', f', rfl, h3⟩ := ho a t f h1
    exact ⟨a', f', by rw [hg]; exact hw.at_, by rw [h3]; exact h2⟩
  · exact ⟨a, f, by rw [hw.same _ hg]; exact h1, h2⟩
theorem TyAt.ext {W W' : World} {L : Loc} {t n : Nat} (hk : ∀ (k : Nat) (o : Obj), W.heap[k]? = some o → W'.heap[k]? = some o) (h : TyAt W L t n) : TyAt W' L t n := by
  obtain ⟨h0, a, f, h1, h2⟩ := h
  exact ⟨h0, a, f, hk _ _ h1, h2⟩
theorem cells_obj {W : World} {g : Nat} {arr : Array Value} {el : TypeId} {fz : Nat × Nat} (ha : W.heap[g]? = some (.cells arr el fz)) {arr' : Array Value} {fz' : Nat × Nat} (hs : arr'.size = arr.size) : ∀ a t f, W.heap[g]? = some (.cells a t f) → ∃ a' f', Obj.cells arr' el fz' = .cells a' t f' ∧ a'.size = a.size := fun a t f h => by
  rw [ha] at h; injection h with h; injection h with h1 h _; subst h; subst h1; exact ⟨_, _, rfl, hs⟩
variable {P : Program} {gl : List Nat} {base : Nat} {m : Inj} {H : AHeap} {W : World}

/-- nothing of the heap has turned (draws) -/
theorem SR.heap {W' : World} (h : SR P gl base m H W) (hh : W'.heap = W.heap) : SR P gl base m H W' := by
  have hc : ∀ a, W'.cell? a = W.cell? a := fun a => cell_block (by rw [hh])
  exact { le := by rw [hh]; exact h.le, dom := h.dom, fresh := h.fresh, es := h.es, cell := fun b L B hb hB hl i v hv => by rw [hc]; exact h.cell b L B hb hB hl i v hv, ro := h.ro,
          rw := fun b L B hb hB hl hr => by rw [hh]; exact h.rw b L B hb hB hl hr, mp := fun b L es hb hB => by rw [hh]; exact h.mp b L es hb hB, lp := fun b L R hb hB ho => by rw [hh]; exact h.lp b L R hb hB ho, inj := h.inj, ty := fun b L B hb hB h0 => (h.ty b L B hb hB h0).ext fun k o hk => by rw [hh]; exact hk }
/-- a block that nobody has laid yet -/
theorem SR.ext (h : SR P gl base m H W) (o : AObj) : SR P gl base m (H.alloc o) W := by
  have hne : ∀ b L, m b = some L → b ≠ H.next := fun b L hb => Nat.ne_of_lt (h.dom b L hb)
  have hg : ∀ b L, m b = some L → (H.alloc o).get b = H.get b := fun b L hb => by rw [AHeap.get_alloc, if_neg (hne b L hb)]
  have how : ∀ b L, m b = some L → owned (H.alloc o) b → owned H b := fun b L hb hx => by unfold owned at hx; rw [hg b L hb] at hx; exact hx
  exact { le := h.le, dom := fun b L hb => Nat.lt_succ_of_lt (h.dom b L hb),
          fresh := fun b hb => by rw [AHeap.next_alloc] at hb; rw [AHeap.get_alloc, if_neg (by omega)]; exact h.fresh b (by omega),
          es := fun b L B hb hB => h.es b L B hb (by rw [← hg b L hb]; exact hB),
          cell := fun b L B hb hB => h.cell b L B hb (by rw [← hg b L hb]; exact hB),
          ro := fun b L B hb hB => h.ro b L B hb (by rw [← hg b L hb]; exact hB),
          rw := fun b L B hb hB => h.rw b L B hb (by rw [← hg b L hb]; exact hB),
          mp := fun b L es hb hB => h.mp b L es hb (by rw [← hg b L hb]; exact hB),
          lp := fun b L R hb hB ho => h.lp b L R hb (by rw [← hg b L hb]; exact hB) ho,
          inj := fun b b' L L' hb hb' ho ho' hn => h.inj b b' L L' hb hb' (how b L hb ho) (how b' L' hb' ho') hn,
          ty := fun b L B hb hB => h.ty b L B hb (by rw [← hg b L hb]; exact hB) }
/-- cells of a block of the machine's own are written -/
theorem SR.write (h : SR P gl base m H W) {b : Nat} {L : Loc} {B : Blk} (hb : m b = some L) (hB : H.get b = some (.row B)) (hl : B.live = true) (hr : B.ro = false)
    {arr arr' : Array Value} {el : TypeId} {fz : Nat × Nat} (ha : W.heap[L.blk]? = some (.cells arr el fz)) (hs : arr'.size = arr.size) {W' : World} (hw : Wr W W' L.blk (.cells arr' el fz))
    (cs : List AV) (hcs : cs.length = B.cells.length) (hv : ∀ (i : Nat) (v : AV), cs[i]? = some v → ∃ c, arr'[L.off + i]? = some c ∧ VR m v c) : SR P gl base m (H.set b (.row { B with cells := cs })) W' := by
  have hg : ∀ c, c ≠ b → (H.set b (.row { B with cells := cs })).get c = H.get c := fun c hc => AHeap.get_set_ne _ _ _ _ hc
  have hgb : (H.set b (.row { B with cells := cs })).get b = some (.row { B with cells := cs }) := AHeap.get_set_same _ _ _
  have hob : owned H b := .inl ⟨B, hB, hl, hr⟩
  have how : ∀ c, owned (H.set b (.row { B with cells := cs })) c → owned H c := fun c hx => by
    by_cases hc : c = b
    · subst hc; exact hob
    · unfold owned at hx; rw [hg c hc] at hx; exact hx
  have hblk : ∀ c L', m c = some L' → c ≠ b → owned H c → L'.blk ≠ L.blk := fun c L' hc hn ho => h.inj c b L' L hc hb ho hob hn
  obtain ⟨hbase, arr0, el0, lo, hi, h0, hroom, hlen, hfz⟩ := h.rw b L B hb hB hl hr
  rw [ha] at h0
  injection h0 with h0
  injection h0 with h1 h2 h3
  subst h1; subst h2; subst h3
  have hbl : ∀ c L' B', m c = some L' → c ≠ b → H.get c = some (.row B') → B'.live = true → B'.cells ≠ [] → L'.blk ≠ L.blk := fun c L' B' hc hn hB' hl' hne => by
    cases hro : B'.ro with
    | false => exact hblk c L' hc hn (.inl ⟨B', hB', hl', hro⟩)
    | true => have := (h.ro c L' B' hc hB' hl' hro).resolve_right hne; omega
  refine { le := by rw [hw.size]; exact h.le, dom := h.dom, fresh := fun c hc => ?_, es := fun c L' B' hc hB' => ?_, cell := fun c L' B' hc hB' hl' i v hi' => ?_, ro := fun c L' B' hc hB' hl' hro => ?_, rw := fun c L' B' hc hB' hl' hro => ?_,
           mp := fun c L' es hc hB' => ?_, lp := fun c L' R hc hB' hrec => ?_, inj := fun c c' L1 L2 h1 h2 o1 o2 => h.inj c c' L1 L2 h1 h2 (how c o1) (how c' o2),
           ty := fun c L' B' hc hB' h0 => by
             have k : TyAt W L' B'.ty B'.cells.length := by
               by_cases hcb : c = b
               · subst hcb; rw [hgb] at hB'; injection hB' with hB'; injection hB' with hB'; subst hB'; simp only [hcs]; exact h.ty c L' B hc hB h0
               · exact h.ty c L' B' hc (by rw [← hg c hcb]; exact hB') h0
             exact k.wr hw (cells_obj ha hs) }
  · rw [hg c (by have := h.dom b L hb; rw [AHeap.next_set] at hc; omega)]; exact h.fresh c hc
  · by_cases hcb : c = b
    · subst hcb; rw [hgb] at hB'; injection hB' with hB'; injection hB' with hB'; subst hB'; rw [hb] at hc; injection hc with hc; subst hc; exact h.es c L B hb hB
    · exact h.es c L' B' hc (by rw [← hg c hcb]; exact hB')
  · by_cases hcb : c = b
    · subst hcb; rw [hgb] at hB'; injection hB' with hB'; injection hB' with hB'; subst hB'; rw [hb] at hc; injection hc with hc; subst hc
      rw [cell_of W' L.blk _ arr' el (lo, hi) hw.at_]
      exact hv i v hi'
    · rw [hg c hcb] at hB'
      rw [cell_block (W := W) (hw.same L'.blk (hbl c L' B' hc hcb hB' hl' (fun e => by rw [e] at hi'; simp at hi')))]
      exact h.cell c L' B' hc hB' hl' i v hi'
  · by_cases hcb : c = b
    · subst hcb; rw [hgb] at hB'; injection hB' with hB'; injection hB' with hB'; subst hB'; simp [hr] at hro
    · exact h.ro c L' B' hc (by rw [← hg c hcb]; exact hB') hl' hro
  · by_cases hcb : c = b
    · subst hcb; rw [hgb] at hB'; injection hB' with hB'; injection hB' with hB'; subst hB'; rw [hb] at hc; injection hc with hc; subst hc
      exact ⟨hbase, arr', el, lo, hi, hw.at_, by rw [hs]; exact hroom, by simpa [hcs] using hlen, ⟨hfz.1, fun i hi => hfz.2 i (by rw [← hs]; exact hi)⟩⟩
    · rw [hg c hcb] at hB'
      rw [hw.same L'.blk (hblk c L' hc hcb (.inl ⟨B', hB', hl', hro⟩))]
      exact h.rw c L' B' hc hB' hl' hro
  · have hcb : c ≠ b := fun e => by subst e; rw [hgb] at hB'; cases hB'
    rw [hg c hcb] at hB'
    rw [hw.same L'.blk (hblk c L' hc hcb (.inr (.inl ⟨es, hB'⟩)))]
    exact h.mp c L' es hc hB'
  · have hcb : c ≠ b := fun e => by subst e; rw [hgb] at hB'; injection hB' with hB'; subst hB'; cases hrec
    rw [hg c hcb] at hB'
    rw [hw.same L'.blk (hblk c L' hc hcb (.inr (.inr ⟨R, hB', hrec⟩)))]
    exact h.lp c L' R hc hB' hrec
/-- a row is marked behind its end -/
theorem SR.mark (h : SR P gl base m H W) {g : Nat} {arr : Array Value} {el : TypeId} {fz : Nat × Nat} {lo hi : Nat} (ha : W.heap[g]? = some (.cells arr el fz)) {W' : World} (hw : Wr W W' g (.cells arr el (lo, hi))) (hf : FzOk arr.size lo hi) : SR P gl base m H W' := by
  have hc : ∀ a, W'.cell? a = W.cell? a := fun a => by
    by_cases hg : a.block = g
    · subst hg
      simp [World.cell?, ha, hw.at_]
    · exact cell_block (hw.same a.block hg)
  refine { le := by rw [hw.size]; exact h.le, dom := h.dom, fresh := h.fresh, es := h.es, cell := fun b L B hb hB hl i v hv => by rw [hc]; exact h.cell b L B hb hB hl i v hv, ro := h.ro, rw := fun b L B hb hB hl hr => ?_, mp := fun b L es hb hB => ?_, lp := fun b L R hb hB hrec => ?_, inj := h.inj, ty := fun c L' B' hc' hB' h0 => (h.ty c L' B' hc' hB' h0).wr hw (cells_obj ha rfl) }
  · by_cases hg : L.blk = g
    · obtain ⟨hbase, arr0, el0, lo0, hi0, h0, h1, h2, h3⟩ := h.rw b L B hb hB hl hr
      rw [hg, ha] at h0
      injection h0 with h0
      injection h0 with e1 e2 e3
      subst e1; subst e2
      exact ⟨hbase, arr, el, lo, hi, by rw [hg]; exact hw.at_, h1, h2, hf⟩
    · rw [hw.same _ hg]; exact h.rw b L B hb hB hl hr
  · have hg : L.blk ≠ g := fun e => by obtain ⟨_, a', c', h1, _⟩ := h.mp b L es hb hB; rw [e, ha] at h1; cases h1
    rw [hw.same _ hg]; exact h.mp b L es hb hB
  · have hg : L.blk ≠ g := fun e => by obtain ⟨_, r, h1, h2⟩ := h.lp b L R hb hB hrec; rw [e, ha] at h1; injection h1 with h1; subst h1; exact h2.cells
    rw [hw.same _ hg]; exact h.lp b L R hb hB hrec
/-- a map of the machine's own is written -/
theorem SR.writeMap (h : SR P gl base m H W) {b : Nat} {L : Loc} {es0 : List (AV × AV)} (hb : m b = some L) (hB : H.get b = some (.map es0))
    {arr' : Array MapEntry} {clock : Nat} {W' : World} (hw : Wr W W' L.blk (.map arr' clock))
    (es' : List (AV × AV)) (hlen : es'.length = arr'.size) (hv : ∀ (i : Nat) (k v : AV) (E : MapEntry), es'[i]? = some (k, v) → arr'[i]? = some E → VR m k E.key ∧ VR m v E.val) : SR P gl base m (H.set b (.map es')) W' := by
  have hg : ∀ c, c ≠ b → (H.set b (.map es')).get c = H.get c := fun c hc => AHeap.get_set_ne _ _ _ _ hc
  have hgb : (H.set b (.map es')).get b = some (.map es') := AHeap.get_set_same _ _ _
  have hob : owned H b := .inr (.inl ⟨es0, hB⟩)
  have how : ∀ c, owned (H.set b (.map es')) c → owned H c := fun c hx => by
    by_cases hc : c = b
    · subst hc; exact hob
    · unfold owned at hx; rw [hg c hc] at hx; exact hx
  have hblk : ∀ c L', m c = some L' → c ≠ b → owned H c → L'.blk ≠ L.blk := fun c L' hc hn ho => h.inj c b L' L hc hb ho hob hn
  have hbase := (h.mp b L es0 hb hB).1
  have hbl : ∀ c L' B', m c = some L' → c ≠ b → H.get c = some (.row B') → B'.live = true → B'.cells ≠ [] → L'.blk ≠ L.blk := fun c L' B' hc hn hB' hl' hne => by
    cases hro : B'.ro with
    | false => exact hblk c L' hc hn (.inl ⟨B', hB', hl', hro⟩)
    | true => have := (h.ro c L' B' hc hB' hl' hro).resolve_right hne; omega
  have hne : ∀ c B', (H.set b (.map es')).get c = some (.row B') → c ≠ b := fun c B' hc e => by subst e; rw [hgb] at hc; cases hc
  refine { le := by rw [hw.size]; exact h.le, dom := h.dom, fresh := fun c hc => ?_, es := fun c L' B' hc hB' => ?_, cell := fun c L' B' hc hB' hl' i v hi' => ?_, ro := fun c L' B' hc hB' hl' hro => ?_, rw := fun c L' B' hc hB' hl' hro => ?_,
           mp := fun c L' es hc hB' => ?_, lp := fun c L' R hc hB' hrec => ?_, inj := fun c c' L1 L2 h1 h2 o1 o2 => h.inj c c' L1 L2 h1 h2 (how c o1) (how c' o2),
           ty := fun c L' B' hc hB' h0 => by
             have hcb : c ≠ b := fun e => by subst e; rw [hgb] at hB'; cases hB'
             exact (h.ty c L' B' hc (by rw [← hg c hcb]; exact hB') h0).wr hw (fun a t f hx => by obtain ⟨_, a', c', q, _⟩ := h.mp b L es0 hb hB; rw [q] at hx; cases hx) }
  · rw [hg c (by have := h.dom b L hb; rw [AHeap.next_set] at hc; omega)]; exact h.fresh c hc
  · exact h.es c L' B' hc (by rw [← hg c (hne c B' hB')]; exact hB')
  · have hcb := hne c B' hB'
    rw [hg c hcb] at hB'
    rw [cell_block (W := W) (hw.same L'.blk (hbl c L' B' hc hcb hB' hl' (fun e => by rw [e] at hi'; simp at hi')))]
    exact h.cell c L' B' hc hB' hl' i v hi'
  · exact h.ro c L' B' hc (by rw [← hg c (hne c B' hB')]; exact hB') hl' hro
  · have hcb := hne c B' hB'
    rw [hg c hcb] at hB'
    rw [hw.same L'.blk (hblk c L' hc hcb (.inl ⟨B', hB', hl', hro⟩))]
    exact h.rw c L' B' hc hB' hl' hro
  · by_cases hcb : c = b
    · subst hcb; rw [hgb] at hB'; injection hB' with hB'; injection hB' with hB'; subst hB'; rw [hb] at hc; injection hc with hc; subst hc
      exact ⟨hbase, arr', clock, hw.at_, hlen, hv⟩
    · rw [hg c hcb] at hB'
      rw [hw.same L'.blk (hblk c L' hc hcb (.inr (.inl ⟨es, hB'⟩)))]
      exact h.mp c L' es hc hB'
  · have hcb : c ≠ b := fun e => by subst e; rw [hgb] at hB'; injection hB' with hB'; subst hB'; cases hrec
    rw [hg c hcb] at hB'
    rw [hw.same L'.blk (hblk c L' hc hcb (.inr (.inr ⟨R, hB', hrec⟩)))]
    exact h.lp c L' R hc hB' hrec
/-- the old block of an append is given up -/
theorem SR.kill (h : SR P gl base m H W) {b : Nat} {B : Blk} (hB : H.get b = some (.row B)) : SR P gl base m (H.set b (.row { B with live := false })) W := by
  have hg : ∀ c, c ≠ b → (H.set b (.row { B with live := false })).get c = H.get c := fun c hc => AHeap.get_set_ne _ _ _ _ hc
  have hgb : (H.set b (.row { B with live := false })).get b = some (.row { B with live := false }) := AHeap.get_set_same _ _ _
  have hne : ∀ c B', (H.set b (.row { B with live := false })).get c = some (.row B') → B'.live = true → c ≠ b := fun c B' hc hl e => by
    subst e; rw [hgb] at hc; injection hc with hc; injection hc with hc; subst hc; cases hl
  have how : ∀ c, owned (H.set b (.row { B with live := false })) c → owned H c := fun c hx => by
    by_cases hc : c = b
    · subst hc
      rcases hx with ⟨B', h1, h2, _⟩ | ⟨es, h1⟩ | ⟨R, h1, h4⟩
      · exact absurd rfl (hne c B' h1 h2)
      · rw [hgb] at h1; cases h1
      · rw [hgb] at h1; injection h1 with h1; subst h1; cases h4
    · unfold owned at hx; rw [hg c hc] at hx; exact hx
  refine { le := h.le, dom := h.dom, fresh := fun c hc => ?_, es := fun c L' B' hc hB' => ?_, cell := fun c L' B' hc hB' hl' => ?_, ro := fun c L' B' hc hB' hl' => ?_, rw := fun c L' B' hc hB' hl' => ?_,
           mp := fun c L' es hc hB' => ?_, lp := fun c L' R hc hB' hrec => ?_, inj := fun c c' L1 L2 h1 h2 o1 o2 => h.inj c c' L1 L2 h1 h2 (how c o1) (how c' o2),
           ty := fun c L' B' hc hB' h0 => by
             have k : TyAt W L' B'.ty B'.cells.length := by
               by_cases hcb : c = b
               · subst hcb; rw [hgb] at hB'; injection hB' with hB'; injection hB' with hB'; subst hB'; exact h.ty c L' B hc hB h0
               · exact h.ty c L' B' hc (by rw [← hg c hcb]; exact hB') h0
             exact k }
  · by_cases hcb : c = b
    · subst hcb; rw [h.fresh c hc] at hB; cases hB
    · rw [hg c hcb]; exact h.fresh c hc
  · by_cases hcb : c = b
    · subst hcb; rw [hgb] at hB'; injection hB' with hB'; injection hB' with hB'; subst hB'; exact h.es c L' B hc hB
    · exact h.es c L' B' hc (by rw [← hg c hcb]; exact hB')
  · exact h.cell c L' B' hc (by rw [← hg c (hne c B' hB' hl')]; exact hB') hl'
  · exact h.ro c L' B' hc (by rw [← hg c (hne c B' hB' hl')]; exact hB') hl'
  · exact h.rw c L' B' hc (by rw [← hg c (hne c B' hB' hl')]; exact hB') hl'
  · have hcb : c ≠ b := fun e => by subst e; rw [hgb] at hB'; cases hB'
    exact h.mp c L' es hc (by rw [← hg c hcb]; exact hB')
  · have hcb : c ≠ b := fun e => by subst e; rw [hgb] at hB'; injection hB' with hB'; subst hB'; cases hrec
    exact h.lp c L' R hc (by rw [← hg c hcb]; exact hB') hrec
/-- A block that the machine has is given its place: a fresh one of the model's, or one that no block lies in any more. -/
theorem SR.place (h : SR P gl base m H W) {b : Nat} {L : Loc} {B : Blk} (hty : B.ty ≠ 0 → TyAt W L B.ty B.cells.length) (hb : m b = none) (hB : H.get b = some (.row B)) (hro : B.ro = false) (hes : L.es = B.es) (hbase : base ≤ L.blk)
    {arr : Array Value} {el : TypeId} {lo hi : Nat} (ha : W.heap[L.blk]? = some (.cells arr el (lo, hi))) (hroom : L.off + L.room = arr.size) (hlen : B.cells.length ≤ L.room) (hfz : FzOk arr.size lo hi)
    (hv : ∀ (i : Nat) (v : AV), B.cells[i]? = some v → ∃ c, arr[L.off + i]? = some c ∧ VR m v c)
    (hout : ∀ c L', m c = some L' → owned H c → L'.blk ≠ L.blk) : SR P gl base (m.upd b L) H W := by
  have hle := Inj.le_upd (L := L) hb
  have hup : ∀ c L', m.upd b L c = some L' → (c = b ∧ L' = L) ∨ (c ≠ b ∧ m c = some L') := fun c L' hc => by
    unfold Inj.upd at hc
    split at hc
    · rename_i e; injection hc with hc; exact .inl ⟨e, hc.symm⟩
    · rename_i e; exact .inr ⟨e, hc⟩
  have same : ∀ B', H.get b = some (.row B') → B' = B := fun B' h' => by rw [hB] at h'; injection h' with h'; injection h' with h'; exact h'.symm
  refine { le := h.le, dom := fun c L' hc => ?_, fresh := h.fresh, es := fun c L' B' hc hB' => ?_, cell := fun c L' B' hc hB' hl' i v hi' => ?_, ro := fun c L' B' hc hB' hl' hr => ?_, rw := fun c L' B' hc hB' hl' hr => ?_,
           mp := fun c L' es hc hB' => ?_, lp := fun c L' R hc hB' hrec => ?_, inj := fun c c' L1 L2 h1 h2 o1 o2 hn => ?_,
           ty := fun c L' B' hc hB' h0 => by
             rcases hup c L' hc with ⟨rfl, rfl⟩ | ⟨_, h1⟩
             · rw [same B' hB'] at h0 ⊢; exact hty h0
             · exact h.ty c L' B' h1 hB' h0 }
  · rcases hup c L' hc with ⟨rfl, rfl⟩ | ⟨_, h1⟩
    · apply Nat.lt_of_not_le; intro hle'; rw [h.fresh c hle'] at hB; cases hB
    · exact h.dom c L' h1
  · rcases hup c L' hc with ⟨rfl, rfl⟩ | ⟨_, h1⟩
    · rw [same B' hB']; exact hes
    · exact h.es c L' B' h1 hB'
  · rcases hup c L' hc with ⟨rfl, rfl⟩ | ⟨_, h1⟩
    · rw [same B' hB'] at hi'
      obtain ⟨x, h1, h2⟩ := hv i v hi'
      exact ⟨x, by rw [cell_of W _ _ arr el (lo, hi) ha]; exact h1, h2.mono hle⟩
    · obtain ⟨x, h2, h3⟩ := h.cell c L' B' h1 hB' hl' i v hi'
      exact ⟨x, h2, h3.mono hle⟩
  · rcases hup c L' hc with ⟨rfl, rfl⟩ | ⟨_, h1⟩
    · rw [same B' hB', hro] at hr; cases hr
    · exact h.ro c L' B' h1 hB' hl' hr
  · rcases hup c L' hc with ⟨rfl, rfl⟩ | ⟨_, h1⟩
    · rw [same B' hB']; exact ⟨hbase, arr, el, lo, hi, ha, hroom, hlen, hfz⟩
    · exact h.rw c L' B' h1 hB' hl' hr
  · rcases hup c L' hc with ⟨rfl, rfl⟩ | ⟨_, h1⟩
    · rw [hB] at hB'; cases hB'
    · obtain ⟨g1, arr', cl, g2, g3, g4⟩ := h.mp c L' es h1 hB'
      exact ⟨g1, arr', cl, g2, g3, fun i k v E a b => ⟨((g4 i k v E a b).1).mono hle, ((g4 i k v E a b).2).mono hle⟩⟩
  · rcases hup c L' hc with ⟨rfl, rfl⟩ | ⟨_, h1⟩
    · rw [hB] at hB'; injection hB' with hB'; subst hB'; cases hrec
    · obtain ⟨g1, r, g2, g3⟩ := h.lp c L' R h1 hB' hrec
      exact ⟨g1, r, g2, g3.mono hle⟩
  · rcases hup c L1 h1 with ⟨rfl, rfl⟩ | ⟨hc1, h1'⟩ <;> rcases hup c' L2 h2 with ⟨rfl, rfl⟩ | ⟨hc2, h2'⟩
    · exact absurd rfl hn
    · exact fun e => hout c' L2 h2' o2 e.symm
    · exact hout c L1 h1' o1
    · exact h.inj c c' L1 L2 h1' h2' o1 o2 hn
/-- the same of a map -/
theorem SR.placeMap (h : SR P gl base m H W) {b : Nat} {L : Loc} (hb : m b = none) (hB : H.get b = some (.map [])) (hbase : base ≤ L.blk) (ha : W.heap[L.blk]? = some (.map #[] 0))
    (hout : ∀ c L', m c = some L' → owned H c → L'.blk ≠ L.blk) : SR P gl base (m.upd b L) H W := by
  have hle := Inj.le_upd (L := L) hb
  have hup : ∀ c L', m.upd b L c = some L' → (c = b ∧ L' = L) ∨ (c ≠ b ∧ m c = some L') := fun c L' hc => by
    unfold Inj.upd at hc
    split at hc
    · rename_i e; injection hc with hc; exact .inl ⟨e, hc.symm⟩
    · rename_i e; exact .inr ⟨e, hc⟩
  have hno : ∀ B', ¬ H.get b = some (.row B') := fun B' h' => by rw [hB] at h'; cases h'
  refine { le := h.le, dom := fun c L' hc => ?_, fresh := h.fresh, es := fun c L' B' hc hB' => ?_, cell := fun c L' B' hc hB' hl' i v hi' => ?_, ro := fun c L' B' hc hB' hl' hr => ?_, rw := fun c L' B' hc hB' hl' hr => ?_,
           mp := fun c L' es hc hB' => ?_, lp := fun c L' R hc hB' hrec => ?_, inj := fun c c' L1 L2 h1 h2 o1 o2 hn => ?_,
           ty := fun c L' B' hc hB' h0 => by
             rcases hup c L' hc with ⟨rfl, rfl⟩ | ⟨_, h1⟩
             · exact absurd hB' (hno B')
             · exact h.ty c L' B' h1 hB' h0 }
  · rcases hup c L' hc with ⟨rfl, rfl⟩ | ⟨_, h1⟩
    · apply Nat.lt_of_not_le; intro hle'; rw [h.fresh c hle'] at hB; cases hB
    · exact h.dom c L' h1
  · rcases hup c L' hc with ⟨rfl, rfl⟩ | ⟨_, h1⟩
    · exact absurd hB' (hno B')
    · exact h.es c L' B' h1 hB'
  · rcases hup c L' hc with ⟨rfl, rfl⟩ | ⟨_, h1⟩
    · exact absurd hB' (hno B')
    · obtain ⟨x, h2, h3⟩ := h.cell c L' B' h1 hB' hl' i v hi'
      exact ⟨x, h2, h3.mono hle⟩
  · rcases hup c L' hc with ⟨rfl, rfl⟩ | ⟨_, h1⟩
    · exact absurd hB' (hno B')
    · exact h.ro c L' B' h1 hB' hl' hr
  · rcases hup c L' hc with ⟨rfl, rfl⟩ | ⟨_, h1⟩
    · exact absurd hB' (hno B')
    · exact h.rw c L' B' h1 hB' hl' hr
  · rcases hup c L' hc with ⟨rfl, rfl⟩ | ⟨_, h1⟩
    · rw [hB] at hB'; injection hB' with hB'; injection hB' with hB'; subst hB'
      exact ⟨hbase, #[], 0, ha, rfl, fun i k v E a b => by simp at a⟩
    · obtain ⟨g1, arr', cl, g2, g3, g4⟩ := h.mp c L' es h1 hB'
      exact ⟨g1, arr', cl, g2, g3, fun i k v E a b => ⟨((g4 i k v E a b).1).mono hle, ((g4 i k v E a b).2).mono hle⟩⟩
  · rcases hup c L' hc with ⟨rfl, rfl⟩ | ⟨_, h1⟩
    · rw [hB] at hB'; injection hB' with hB'; subst hB'; cases hrec
    · obtain ⟨g1, r, g2, g3⟩ := h.lp c L' R h1 hB' hrec
      exact ⟨g1, r, g2, g3.mono hle⟩
  · rcases hup c L1 h1 with ⟨rfl, rfl⟩ | ⟨hc1, h1'⟩ <;> rcases hup c' L2 h2 with ⟨rfl, rfl⟩ | ⟨hc2, h2'⟩
    · exact absurd rfl hn
    · exact fun e => hout c' L2 h2' o2 e.symm
    · exact hout c L1 h1' o1
    · exact h.inj c c' L1 L2 h1' h2' o1 o2 hn
/-- the model has one block more -/
theorem SR.push (h : SR P gl base m H W) {W' : World} (o : Obj) (hh : W'.heap = W.heap.push o) : SR P gl base m H W' := by
  have hold : ∀ k, k < W.heap.size → W'.heap[k]? = W.heap[k]? := fun k hk => by rw [hh, Array.getElem?_push, if_neg (by omega)]
  have hlt : ∀ (a : Addr) c, W.cell? a = some c → W'.cell? a = some c := fun a c hc => by
    have := World.block_lt_of_cell? _ _ hc
    rw [cell_block (hold a.block this)]; exact hc
  have hlt2 : ∀ k o', W.heap[k]? = some o' → W'.heap[k]? = some o' := fun k o' hk => by
    have : k < W.heap.size := (Array.getElem?_eq_some_iff.1 hk).1
    rw [hold k this]; exact hk
  exact { le := by rw [hh, Array.size_push]; have := h.le; omega, dom := h.dom, fresh := h.fresh, es := h.es,
          cell := fun b L B hb hB hl i v hv => by obtain ⟨c, h1, h2⟩ := h.cell b L B hb hB hl i v hv; exact ⟨c, hlt _ _ h1, h2⟩, ro := h.ro,
          rw := fun b L B hb hB hl hr => by obtain ⟨h1, arr, el, lo, hi, h2, h3⟩ := h.rw b L B hb hB hl hr; exact ⟨h1, arr, el, lo, hi, hlt2 _ _ h2, h3⟩,
          mp := fun b L es hb hB => by obtain ⟨h1, arr, cl, h2, h3⟩ := h.mp b L es hb hB; exact ⟨h1, arr, cl, hlt2 _ _ h2, h3⟩,
          lp := fun b L R hb hB ho => by obtain ⟨h1, r, h2, h3⟩ := h.lp b L R hb hB ho; exact ⟨h1, r, hlt2 _ _ h2, h3⟩, inj := h.inj, ty := fun b L B hb hB h0 => (h.ty b L B hb hB h0).ext hlt2 }
/-- a block of the machine's own lies below the heap's end -/
theorem SR.own_lt (h : SR P gl base m H W) {c : Nat} {L : Loc} (hc : m c = some L) (ho : owned H c) : L.blk < W.heap.size := by
  rcases ho with ⟨B, h1, h2, h3⟩ | ⟨es, h1⟩ | ⟨R, h1, h2⟩
  · obtain ⟨_, arr, el, lo, hi, h4, _⟩ := h.rw c L B hc h1 h2 h3
    exact (Array.getElem?_eq_some_iff.1 h4).1
  · obtain ⟨_, arr, cl, h4, _⟩ := h.mp c L es hc h1
    exact (Array.getElem?_eq_some_iff.1 h4).1
  · obtain ⟨_, r, h4, _⟩ := h.lp c L R hc h1 h2
    exact (Array.getElem?_eq_some_iff.1 h4).1

theorem SR.lpL (h : SR P gl base m H W) {b : Nat} {L : Loc} {R : ALoop} (hb : m b = some L) (hB : H.get b = some (.loop R)) : base ≤ L.blk ∧ ∃ r, W.heap[L.blk]? = some (.loop r) ∧ LpR P gl m R r := by
  obtain ⟨h1, r, h2, h3⟩ := h.lp b L _ hb hB rfl
  cases r <;> first | exact h3.elim | exact ⟨h1, _, h2, h3⟩
theorem SR.lpI (h : SR P gl base m H W) {b : Nat} {L : Loc} {s : List UInt8} {pos : Nat} (hb : m b = some L) (hB : H.get b = some (.itr s pos)) : base ≤ L.blk ∧ L.off = 0 ∧ W.heap[L.blk]? = some (.stringIter ⟨s.toArray⟩ pos) := by
  obtain ⟨h1, r, h2, h3⟩ := h.lp b L _ hb hB rfl
  cases r <;> first | exact h3.elim | skip
  rename_i s' pos'
  obtain ⟨rfl, rfl, h4⟩ := h3
  exact ⟨h1, h4, h2⟩
/-! ### What the machine keeps beside: marks and records -/
/-- no mark is taken, a record stays one -/
structure KD (W W' : World) : Prop where
  df : ∀ k : Nat, W.heap[k]? = some (.deferred (some [])) → W'.heap[k]? = some (.deferred (some []))
  lp : ∀ (k : Nat) (r : Loop), W.heap[k]? = some (.loop r) → ∃ r', W'.heap[k]? = some (.loop r')
theorem KD.refl (W : World) : KD W W := ⟨fun _ h => h, fun _ r h => ⟨r, h⟩⟩
theorem KD.trans {A B C : World} (h : KD A B) (k : KD B C) : KD A C :=
  ⟨fun i hi => k.df i (h.df i hi), fun i r hi => by obtain ⟨r', h1⟩ := h.lp i r hi; exact k.lp i r' h1⟩
theorem KD.below {W W' : World} (h : Below W.heap.size W W') : KD W W' := by
  have hk : ∀ (k : Nat) (o : Obj), W.heap[k]? = some o → W'.heap[k]? = some o := fun k o hk => by
    rw [h.block k (Array.getElem?_eq_some_iff.1 hk).1]; exact hk
  exact ⟨fun i hi => hk i _ hi, fun i r hi => ⟨r, hk i _ hi⟩⟩
theorem KD.push {W W' : World} {o : Obj} (hh : W'.heap = W.heap.push o) : KD W W' := by
  have hk : ∀ (k : Nat) (o' : Obj), W.heap[k]? = some o' → W'.heap[k]? = some o' := fun k o' hk => by
    have : k < W.heap.size := (Array.getElem?_eq_some_iff.1 hk).1
    rw [hh, Array.getElem?_push, if_neg (by omega)]; exact hk
  exact ⟨fun i hi => hk i _ hi, fun i r hi => ⟨r, hk i _ hi⟩⟩
theorem KD.heap {W W' : World} (hh : W'.heap = W.heap) : KD W W' := ⟨fun i hi => by rw [hh]; exact hi, fun i r hi => ⟨r, by rw [hh]; exact hi⟩⟩
theorem KD.cells {W W' : World} {g : Nat} {o : Obj} (hw : Wr W W' g o) {arr : Array Value} {el : TypeId} {fz : Nat × Nat} (h : W.heap[g]? = some (.cells arr el fz)) : KD W W' := by
  have hne : ∀ (k : Nat) (o' : Obj), W.heap[k]? = some o' → (∀ a b c, o' ≠ .cells a b c) → W'.heap[k]? = some o' := fun k o' hk ho => by
    rw [hw.same k (fun e => by subst e; rw [h] at hk; injection hk with hk; exact ho _ _ _ hk.symm)]; exact hk
  exact ⟨fun i hi => hne i _ hi (by simp), fun i r hi => ⟨r, hne i _ hi (by simp)⟩⟩
theorem KD.itr {W W' : World} {g : Nat} {o : Obj} (hw : Wr W W' g o) {s : ByteArray} {p : Nat} (h : W.heap[g]? = some (.stringIter s p)) : KD W W' := by
  have hne : ∀ (k : Nat) (o' : Obj), W.heap[k]? = some o' → (∀ a b, o' ≠ .stringIter a b) → W'.heap[k]? = some o' := fun k o' hk ho => by
    rw [hw.same k (fun e => by subst e; rw [h] at hk; injection hk with hk; exact ho _ _ hk.symm)]; exact hk
  exact ⟨fun i hi => hne i _ hi (by simp), fun i r hi => ⟨r, hne i _ hi (by simp)⟩⟩
theorem KD.map {W W' : World} {g : Nat} {o : Obj} (hw : Wr W W' g o) {arr : Array MapEntry} {cl : Nat} (h : W.heap[g]? = some (.map arr cl)) : KD W W' := by
  have hne : ∀ (k : Nat) (o' : Obj), W.heap[k]? = some o' → (∀ a b, o' ≠ .map a b) → W'.heap[k]? = some o' := fun k o' hk ho => by
    rw [hw.same k (fun e => by subst e; rw [h] at hk; injection hk with hk; exact ho _ _ hk.symm)]; exact hk
  exact ⟨fun i hi => hne i _ hi (by simp), fun i r hi => ⟨r, hne i _ hi (by simp)⟩⟩
/-- what lies below a base is as it was, and so do marks and records -/
structure BK (base : Nat) (W W' : World) : Prop extends Below base W W' where
  kd : KD W W'
theorem BK.refl (base : Nat) (W : World) : BK base W W := ⟨Below.refl _ _, KD.refl _⟩
theorem BK.trans {base : Nat} {A B C : World} (h : BK base A B) (k : BK base B C) : BK base A C := ⟨h.toBelow.trans k.toBelow, h.kd.trans k.kd⟩
theorem Wr.bkc {W W' : World} {g : Nat} {o : Obj} (hw : Wr W W' g o) {base : Nat} (hg : base ≤ g) {arr : Array Value} {el : TypeId} {fz : Nat × Nat} (h : W.heap[g]? = some (.cells arr el fz)) : BK base W W' := ⟨hw.below hg, KD.cells hw h⟩
theorem Wr.bkm {W W' : World} {g : Nat} {o : Obj} (hw : Wr W W' g o) {base : Nat} (hg : base ≤ g) {arr : Array MapEntry} {cl : Nat} (h : W.heap[g]? = some (.map arr cl)) : BK base W W' := ⟨hw.below hg, KD.map hw h⟩
end Go.Proofs.YtdkpmlhbofgfdaaGreatDoor.AM
