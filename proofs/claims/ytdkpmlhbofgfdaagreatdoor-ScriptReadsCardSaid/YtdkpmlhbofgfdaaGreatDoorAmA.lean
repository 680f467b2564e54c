/-
  Operations that make a new block.
-/
import Derived.Test.YtdkpmlhbofgfdaaGreatDoorAmR6
set_option linter.unusedSimpArgs false
set_option linter.unusedVariables false
namespace Go.Proofs.YtdkpmlhbofgfdaaGreatDoor.AM
open Go Go.RowKit

variable {base : Nat} {m : Inj} {H : AHeap} {W : World} {P : Program} {gl : List Nat} {e : Env} {ρ : Operand → Value}

theorem aI {a : AOp} {r : LOp} (h : (pure a : Option AOp) = some (.a r)) : a = .a r := by injection h
/-- the goal of a new block -/
def AGoal (P : Program) (gl : List Nat) (base : Nat) (m : Inj) (A : AHeap) (W : World) (b : Nat) (k : AKind) (s : Sem Value) : Prop :=
  ∃ c W' L, s.run P W = .ok c W' ∧ SR P gl base (m.upd b L) A W' ∧ VR (m.upd b L) (k.val b) c ∧ BK base W W'

/-- the characters of a text, as the model has them -/
def runesV (s : ByteArray) : Nat → Nat → List Value
  | 0, _ => []
  | b + 1, i => if i < s.size then .int .i32 (Int.ofNat (Utf8.decode s i).1) :: runesV s b (i + (Utf8.decode s i).2) else []
theorem runesFrom_toList (s : ByteArray) : ∀ (b i : Nat), (Conv.runesFrom s b i #[]).toList = runesV s b i := by
  have key : ∀ (b i : Nat) (acc : Array Value), (Conv.runesFrom s b i acc).toList = acc.toList ++ runesV s b i := by
    intro b
    induction b with
    | zero => intro i acc; simp [Conv.runesFrom, runesV]
    | succ b ih =>
      intro i acc
      unfold Conv.runesFrom runesV
      split
      · simp only [ih, Array.toList_push, List.append_assoc, List.cons_append, List.nil_append]
      · simp
  intro b i
  have := key b i #[]
  simpa using this
theorem runesLR (m : Inj) (s : ByteArray) : ∀ (b i : Nat), LR m (runesL s b i) (runesV s b i)
  | 0, _ => LR.nil m
  | b + 1, i => by
    unfold runesL runesV
    split
    · exact LR.cons (.int _ _) (runesLR m s b _)
    · exact LR.nil m
theorem push_place {W2 : World} {b : Nat} {B : Blk} {arr : Array Value} {el : TypeId} {lo hi : Nat} (h : SR P gl base m H W) (hty : B.ty = 0 ∨ el = B.ty) (hB : H.get b = some (.row B)) (hb : m b = none) (hro : B.ro = false)
    (hl : LR m B.cells (arr.toList.take B.cells.length)) (hlen : B.cells.length ≤ arr.size) (hfz : FzOk arr.size lo hi) (hh : W2.heap = W.heap.push (.cells arr el (lo, hi))) :
    SR P gl base (m.upd b ⟨W.heap.size, 0, arr.size, B.es⟩) H W2 := by
  have h2 := h.push (W' := W2) _ hh
  refine SR.place (L := ⟨W.heap.size, 0, arr.size, B.es⟩) h2 (fun h0 => ⟨rfl, arr, (lo, hi), by rw [hh, ← hty.resolve_left h0]; simp, hlen⟩) hb hB hro rfl h.le (arr := arr) (el := el) (lo := lo) (hi := hi) (by rw [hh]; simp) (by simp) hlen hfz (fun i v hv => ?_) (fun c L' hc ho => Nat.ne_of_lt (h.own_lt hc ho))
  obtain ⟨c, h3, h4⟩ := hl.get hv
  rw [List.getElem?_take] at h3
  split at h3
  · exact ⟨c, by simpa using h3, h4⟩
  · cases h3
theorem below_push {W2 : World} (hle : base ≤ W.heap.size) {o : Obj} (hh : W2.heap = W.heap.push o) (h1 : W2.os = W.os) (h2 : W2.tape = W.tape) (h3 : W2.output = W.output) : BK base W W2 :=
  ⟨⟨h1, h2, h3, by rw [hh]; simp, fun k hk => by rw [hh, Array.getElem?_push, if_neg (by omega)]⟩, KD.push hh⟩
theorem newRow_goal {b : Nat} {cs : List AV} {arr : Array Value} {el : TypeId} (h : SR P gl base m H W) (hB : H.get b = some (.row { cells := cs })) (hb : m b = none) (hl : LR m cs arr.toList) :
    ∃ L, L.blk = W.heap.size ∧ L.off = 0 ∧ (newRow el arr).run P W = .ok ⟨W.heap.size, 0, none⟩ (W.alloc (.cells arr el)) ∧ SR P gl base (m.upd b L) H (W.alloc (.cells arr el)) ∧ BK base W (W.alloc (.cells arr el)) := by
  refine ⟨⟨W.heap.size, 0, arr.size, 0⟩, rfl, rfl, by simp [newRow], ?_, below_push h.le rfl rfl rfl rfl⟩
  have hle : cs.length = arr.size := by simpa using hl.1
  refine push_place (B := { cells := cs }) (arr := arr) (el := el) (lo := 0) (hi := 0) h (.inl rfl) hB hb rfl ?_ (by simp only; omega) (FzOk.zero _) rfl
  simp only [hle]
  rw [show arr.toList.take arr.size = arr.toList by rw [← Array.length_toList, List.take_length]]
  exact hl
theorem newRow_goalT {b : Nat} {cs : List AV} {arr : Array Value} {el : TypeId} (h : SR P gl base m H W) (hB : H.get b = some (.row { cells := cs, ty := el })) (hb : m b = none) (hl : LR m cs arr.toList) :
    ∃ L, L.blk = W.heap.size ∧ L.off = 0 ∧ (newRow el arr).run P W = .ok ⟨W.heap.size, 0, none⟩ (W.alloc (.cells arr el)) ∧ SR P gl base (m.upd b L) H (W.alloc (.cells arr el)) ∧ BK base W (W.alloc (.cells arr el)) := by
  refine ⟨⟨W.heap.size, 0, arr.size, 0⟩, rfl, rfl, by simp [newRow], ?_, below_push h.le rfl rfl rfl rfl⟩
  have hle : cs.length = arr.size := by simpa using hl.1
  refine push_place (B := { cells := cs, ty := el }) (arr := arr) (el := el) (lo := 0) (hi := 0) h (.inr rfl) hB hb rfl ?_ (by simp only; omega) (FzOk.zero _) rfl
  simp only [hle]
  rw [show arr.toList.take arr.size = arr.toList by rw [← Array.length_toList, List.take_length]]
  exact hl
theorem zeros_lr {z : List AV} {zv : Array Value} (h : LR m z zv.toList) (n : Nat) (hz : n = 0 ∨ 0 < z.length) : LR m (zeros z n) ((Array.range n).map (zv[· % zv.size]!)).toList := by
  have hl : z.length = zv.size := by simpa using h.1
  refine ⟨by simp [zeros], fun i v v' a b => ?_⟩
  have hi : i < n := by have := (List.getElem?_eq_some_iff.1 a).1; simpa [zeros] using this
  simp only [zeros, List.getElem?_map, List.getElem?_range hi, Option.map_some, Option.some.injEq] at a
  simp [hi] at b
  subst a; subst b
  rw [hl]
  have h2 := h.getD (i % zv.size)
  have hz : i % zv.size < zv.size := Nat.mod_lt _ (by omega)
  simpa [List.getD, hz, getElem!_def] using h2
theorem fillS_sim (s : Nat) : ∀ {ps : List (Nat × Operand)} {qs : List (Nat × Opd)}, cpartsS gl ps = some qs → cparts gl (fun i => some (i * s, s)) ps = some (qs.map fun p => (p.1 * s, s, p.2))
  | [], qs, h => by rw [cpartsS] at h; injection h with h; subst h; rfl
  | (i, X) :: ps, qs, h => by
    rw [cpartsS] at h
    split at h
    · rename_i y l h1 h2
      injection h with h; subst h
      rw [cparts, h1, fillS_sim s h2]; rfl
    · cases h
theorem freeze_heap (w : World) (o : Obj) (g n : Nat) (arr : Array Value) (el : TypeId) (hg : w.heap.size = g) (ho : o = .cells arr el (0, 0)) :
    ((w.alloc o).freeze { block := g, off := n } 1).heap = w.heap.push (.cells arr el (n, n + 1)) := by
  subst hg; subst ho
  unfold World.freeze
  rw [if_neg (by omega)]
  apply Array.ext_getElem?
  intro k
  simp only [World.alloc, Array.getElem?_modify, Array.getElem?_push]
  split
  · rename_i hk; subst hk; simp
  · rename_i hk
    rw [if_neg (fun h => hk h.symm), if_neg (fun h => hk h.symm)]
theorem wrap_id {n : Int} (h0 : 0 ≤ n) (h1 : n ≤ 70368744177664) : IntKind.i64.wrap n = n := by
  unfold IntKind.wrap
  simp only [IntKind.bits, IntKind.signed, Bool.true_and, decide_eq_true_eq, ge_iff_le]
  rw [if_neg (by omega)]
  omega
theorem upd_same_row {b : Nat} {L : Loc} : (m.upd b L) b = some L := Inj.upd_same _ _ _

set_option maxHeartbeats 1000000 in
theorem asim0 (h : SR P gl base m H W) {o : Oper} {x : LOp} {obj : AObj} {k : AKind} {b : Nat} (hop : cop0 P gl o.op = some (.a x)) (hX : ∀ X ∈ o.op.operands.toList, OpR gl m e ρ X) (hr : x.run e = some (obj, k)) (hB : H.get b = some obj) (hb : m b = none) :
    ∃ c W' L, (execOp ρ o).run P W = .ok (.value c) W' ∧ SR P gl base (m.upd b L) H W' ∧ VR (m.upd b L) (k.val b) c ∧ BK base W W' := by
  have fin : ∀ (s : Sem Value), (∃ c W' L, s.run P W = .ok c W' ∧ SR P gl base (m.upd b L) H W' ∧ VR (m.upd b L) (k.val b) c ∧ BK base W W') →
      ∃ c W' L, (do pure (Next.value (← s)) : Sem Next).run P W = .ok (.value c) W' ∧ SR P gl base (m.upd b L) H W' ∧ VR (m.upd b L) (k.val b) c ∧ BK base W W' :=
    fun s ⟨c, W', L, h1, h2⟩ => ⟨c, W', L, by simp [h1], h2⟩
  obtain ⟨dst, op, type, pos, after, guard⟩ := o
  simp only at hop hX
  cases op <;> simp only [cop0, reduceCtorEq] at hop <;> simp only [Op.operands] at hX <;> simp only [execOp]
  case move X => obtain ⟨_, _, hop⟩ := bindE hop; have := aI hop; cases this
  case assign X => obtain ⟨_, _, hop⟩ := bindE hop; have := aI hop; cases this
  case pick => obtain ⟨_, _, hop⟩ := bindE hop; obtain ⟨_, _, hop⟩ := bindE hop; obtain ⟨_, _, hop⟩ := bindE hop; have := aI hop; cases this
  case alloc t =>
    obtain ⟨z, hz, hop⟩ := bindE hop
    have := aI hop; injection this with this; subst this
    simp only [LOp.run] at hr
    injection hr with hr; injection hr with hr1 hr2; subst hr1; subst hr2
    obtain ⟨i, zv, hi, hzv, hzl⟩ := zero_inv (m := m) hz
    obtain ⟨L, hL1, hL2, hrun, hsr, hbel⟩ := newRow_goal (P := P) (el := t) h hB hb hzl
    refine fin _ ⟨.pointer (some ⟨W.heap.size, 0, none⟩), _, L, ?_, hsr, ?_, hbel⟩
    · simp only [Instr.alloc, Sem.run_bind, run_zero hi hzv, Result.andThen_ok, newVar, hrun, Sem.run_pure]
    · have := VR.ptr (m := m.upd b L) (o := 0) upd_same_row
      rw [hL1, hL2] at this
      exact this
  case box t X =>
    obtain ⟨y, hy, hop⟩ := bindE hop
    have := aI hop; injection this with this; subst this
    simp only [LOp.run] at hr
    split at hr
    · rename_i hone
      injection hr with hr; injection hr with hr1 hr2; subst hr1; subst hr2
      have hv := hX X (by simp) y hy
      obtain ⟨L, hL1, hL2, hrun, hsr, hbel⟩ := newRow_goal (P := P) (el := t) h hB hb hv.cells
      refine fin _ ⟨.pointer (some ⟨W.heap.size, 0, none⟩), _, L, ?_, hsr, ?_, hbel⟩
      · simp only [Instr.box, Sem.run_bind, Result.andThen_ok, newVar, hrun, Sem.run_pure]
      · have := VR.ptr (m := m.upd b L) (o := 0) upd_same_row
        rw [hL1, hL2] at this
        exact this
    · cases hr
  case build t ps =>
    obtain ⟨_, _, hop⟩ := bindE hop
    split at hop
    · obtain ⟨_, _, hop⟩ := bindE hop; obtain ⟨_, _, hop⟩ := bindE hop; obtain ⟨_, _, hop⟩ := bindE hop; have := aI hop; cases this
    · obtain ⟨_, _, hop⟩ := bindE hop; obtain ⟨_, _, hop⟩ := bindE hop; obtain ⟨_, _, hop⟩ := bindE hop; have := aI hop; cases this
    · cases hop
  case buildSlice t n ps =>
    obtain ⟨U, hU, hop⟩ := bindE hop
    split at hop
    · rename_i el
      obtain ⟨s, hs, hop⟩ := bindE hop
      obtain ⟨z, hz, hop⟩ := bindE hop
      obtain ⟨qs, hqs, hop⟩ := bindE hop
      have := aI hop; injection this with this; subst this
      obtain ⟨inf, hin, hsz⟩ := size_inv hs
      simp only [LOp.run] at hr
      split at hr
      · cases hr
      · rename_i hc
        split at hr
        · rename_i cs hcs
          split at hr
          · injection hr with hr; injection hr with hr1 hr2; subst hr1; subst hr2
            have hc1 : ¬ (n * s > 2 ^ 24) := fun hh => hc (.inl (by omega))
            have hc2 : n * s = 0 ∨ 0 < z.length := Classical.byContradiction fun hh => hc (.inr hh)
            obtain ⟨zv, hzr, hzl⟩ : ∃ zv : Array Value, ((n * s = 0 ∧ zv = #[]) ∨ (¬ n * s = 0 ∧ ∃ i zq, P.info? el = some i ∧ i.zero = some zq ∧ zv = zq.cells)) ∧ LR m z zv.toList := by
              unfold zeroN at hz
              split at hz
              · rename_i h0; injection hz with hz; subst hz; exact ⟨#[], .inl ⟨h0, rfl⟩, LR.nil m⟩
              · rename_i h0
                obtain ⟨i, zv, hi, hzv, hzl⟩ := zero_inv (m := m) hz
                exact ⟨zv.cells, .inr ⟨h0, i, zv, hi, hzv, rfl⟩, hzl⟩
            have hzz := zeros_lr hzl (n * s) hc2
            obtain ⟨ds, h1, h2⟩ := fill_sim (e := e) (ρ := ρ) (fun i => some (i * s, s)) (fillS_sim s hqs) (fun p hp => hX p.2 (by simp only [List.mem_toArray, Array.toList_map, List.mem_map]; exact ⟨p, hp, rfl⟩)) hzz (by simpa [List.map_map, Function.comp_def] using hcs)
            obtain ⟨L, hL1, hL2, hrun, hsr, hbel⟩ := newRow_goal (P := P) (el := el) h hB hb h2
            refine fin _ ⟨.slice (some ⟨W.heap.size, 0, none⟩) n n, _, L, ?_, hsr, ?_, hbel⟩
            · simp only [Instr.buildSlice, Sem.run_bind, run_underlying hU, Result.andThen_ok, run_sizeOf hin, hsz, if_neg hc1, Sem.run_pure]
              rcases hzr with ⟨h0, rfl⟩ | ⟨h0, i, zq, hi, hzq, rfl⟩
              · simp only [if_pos h0, Sem.run_bind, Sem.run_pure, Result.andThen_ok, Array.toList_map]
                rw [h1]
                simp only [Sem.run_bind, hrun, Result.andThen_ok, Sem.run_pure]
              · simp only [if_neg h0, Sem.run_bind, Sem.run_pure, Result.andThen_ok, Array.toList_map, run_zero hi hzq]
                rw [h1]
                simp only [Sem.run_bind, hrun, Result.andThen_ok, Sem.run_pure]
            · refine .slc upd_same_row (Nat.le_refl _) (.inl rfl) (fun _ => ?_)
              rw [hL1, hL2]
          · cases hr
        · cases hr
    · cases hop
  case insert t mm k x =>
    obtain ⟨U, hU, hop⟩ := bindE hop
    split at hop
    · obtain ⟨_, _, hop⟩ := bindE hop; obtain ⟨_, _, hop⟩ := bindE hop; obtain ⟨_, _, hop⟩ := bindE hop; obtain ⟨_, _, hop⟩ := bindE hop; have := aI hop; cases this
    · cases hop
  case load t A => obtain ⟨_, _, hop⟩ := bindE hop; obtain ⟨_, _, hop⟩ := bindE hop; have := aI hop; cases this
  case store t A X => obtain ⟨_, _, hop⟩ := bindE hop; obtain ⟨_, _, hop⟩ := bindE hop; obtain ⟨_, _, hop⟩ := bindE hop; have := aI hop; cases this
  case nilCheck X => obtain ⟨_, _, hop⟩ := bindE hop; have := aI hop; cases this
  case binOp op t X Y yt =>
    unfold cbin at hop
    obtain ⟨_, _, hop⟩ := bindE hop; obtain ⟨_, _, hop⟩ := bindE hop
    split at hop
    all_goals try (have := aI hop; cases this; done)
    all_goals
      obtain ⟨_, _, hop⟩ := bindE hop
      split at hop <;> first
        | (have := aI hop; cases this; done)
        | (cases hop; done)
        | (split at hop <;> first | (have := aI hop; cases this; done) | (cases hop; done))
        | (obtain ⟨_, _, hop⟩ := bindE hop; split at hop <;> first | (have := aI hop; cases this; done) | (cases hop; done))
  case unOp op t X => cases op <;> simp only [reduceCtorEq] at hop <;> (obtain ⟨_, _, hop⟩ := bindE hop; have := aI hop; cases this)
  case convert s d X =>
    unfold cconv at hop
    obtain ⟨y, hy, hop⟩ := bindE hop
    obtain ⟨S, hS, hop⟩ := bindE hop
    obtain ⟨D, hD, hop⟩ := bindE hop
    split at hop
    · have := aI hop; cases this
    · have := aI hop; cases this
    · have := aI hop; cases this
    · rename_i el _
      obtain ⟨E, hE, hop⟩ := bindE hop
      split at hop
      · have := aI hop; injection this with this; subst this
        simp only [LOp.run] at hr
        split at hr
        · rename_i l hl
          injection hr with hr; injection hr with hr1 hr2; subst hr1; subst hr2
          have hv := hX X (by simp) y hy
          rw [hl] at hv
          obtain ⟨st, hst, hsl⟩ := str_inv hv
          rw [hst]
          have hsz := size_of hsl
          generalize hq : (Question.appendCap st.size 0 el).cut (W.tape W.drawn (.appendCap st.size 0 el)) = cap
          have hcap : st.size ≤ cap := by rw [← hq]; simp only [Question.cut]; omega
          let elems : Array Value := st.data.map fun b => .int .u8 b.toNat
          let arr : Array Value := elems ++ Array.replicate (cap - st.size) (.int .u8 0)
          have harr : arr.size = cap := by simp only [arr, elems, Array.size_append, Array.size_map, Array.size_replicate]; simp only [ByteArray.size] at hcap ⊢; omega
          have hlr : LR m (ofBytes l) (arr.toList.take (ofBytes l).length) := by
            subst hsl
            have e1 : (ofBytes st.data.toList).length = elems.toList.length := by simp [ofBytes, elems]
            have e2 : arr.toList.take (ofBytes st.data.toList).length = elems.toList := by
              rw [e1]; simp only [arr, Array.toList_append, List.take_left]
            rw [e2]
            refine ⟨e1, fun i v v' a c => ?_⟩
            simp only [ofBytes, List.getElem?_map, Option.map_eq_some_iff, elems, Array.toList_map] at a c
            obtain ⟨b1, hb1, rfl⟩ := a
            obtain ⟨b2, hb2, rfl⟩ := c
            rw [hb1] at hb2; injection hb2 with hb2; subst hb2
            exact .int _ _
          have hwd : ∃ Wf, (Conv.stringToBytes el st).run P W = .ok (.slice (some ⟨W.heap.size, 0, none⟩) st.size cap) Wf ∧ Wf.heap = W.heap.push (.cells arr el (arr.size, arr.size + 1)) ∧ Wf.os = W.os ∧ Wf.tape = W.tape ∧ Wf.output = W.output := by
            refine ⟨((W.drew.alloc (.cells arr el)).freeze { block := W.heap.size, off := arr.size } 1), ?_, ?_, ?_, ?_, ?_⟩
            · have hshape : (W.drew.alloc (.cells arr el)).shape? W.heap.size = some (el, arr.size) := by
                simp only [World.shape?]
                rw [show (W.drew.alloc (.cells arr el)).heap[W.heap.size]? = some (.cells arr el) from heap_alloc_new W.drew _]
              simp only [Conv.stringToBytes, Sem.run_bind, run_choose, Question.forced, Bool.false_eq_true, if_false, Result.andThen_ok, hq, World.drew_eq]
              simp only [newRow, Sem.run_bind, run_newObj, Result.andThen_ok, Sem.run_pure, World.alloc_eq, World.size_drew, markStringish, run_shape]
              rw [hshape]
              simp only [run_freeze, Result.andThen_ok, Sem.run_pure]
              rfl
            · rw [freeze_heap W.drew _ W.heap.size arr.size arr el (by simp) rfl]; rfl
            all_goals (unfold World.freeze; rw [if_neg (by omega)]; rfl)
          obtain ⟨Wf, hrun, hheap, h1, h2, h3⟩ := hwd
          refine fin _ ⟨.slice (some ⟨W.heap.size, 0, none⟩) st.size cap, Wf, ⟨W.heap.size, 0, arr.size, 1⟩, ?_, push_place (B := { cells := ofBytes l, es := 1 }) h (.inl rfl) hB hb rfl hlr ?_ ?_ hheap, ?_, below_push h.le hheap h1 h2 h3⟩
          · simp only [Go.convert, Sem.run_bind, run_underlying hS, run_underlying hD, Result.andThen_ok, run_underlying hE, hrun]
          · simp only [ofBytes, List.length_map]; omega
          · exact ⟨by omega, fun i hi => by omega⟩
          · simp only [AKind.val, ← hsz]
            refine .slc upd_same_row (Nat.le_refl _) ?_ (fun _ => rfl)
            by_cases hce : st.size = cap
            · exact .inl hce
            · exact .inr ⟨by omega, by simp, by simp [harr]⟩
        · cases hr
      · have := aI hop; injection this with this; subst this
        simp only [LOp.run] at hr
        split at hr
        · rename_i l hl
          injection hr with hr; injection hr with hr1 hr2; subst hr1; subst hr2
          have hv := hX X (by simp) y hy
          rw [hl] at hv
          obtain ⟨st, hst, hsl⟩ := str_inv hv
          rw [hst]
          have hbs : (⟨l.toArray⟩ : ByteArray) = st := by subst hsl; rfl
          have hsz := size_of hsl
          have hro : runesL ⟨l.toArray⟩ l.length 0 = runesL st st.size 0 := by rw [hbs, hsz]
          generalize runesL ⟨l.toArray⟩ l.length 0 = rl at *
          generalize hel : Conv.runesFrom st st.size 0 #[] = elems
          have hlr0 : LR m rl elems.toList := by rw [hro, ← hel, runesFrom_toList]; exact runesLR m st _ _
          have hlen : rl.length = elems.size := by rw [hlr0.1]; simp
          generalize hq : (Question.appendCap elems.size 0 el).cut (W.tape W.drawn (.appendCap elems.size 0 el)) = cap
          have hcap : elems.size ≤ cap := by rw [← hq]; simp only [Question.cut]; omega
          let arr : Array Value := elems ++ Array.replicate (cap - elems.size) (.int .i32 0)
          have harr : arr.size = cap := by simp only [arr, Array.size_append, Array.size_replicate]; omega
          have hlr : LR m rl (arr.toList.take rl.length) := by
            have e2 : arr.toList.take rl.length = elems.toList := by
              rw [hlr0.1]; simp only [arr, Array.toList_append, List.take_left]
            rw [e2]; exact hlr0
          refine fin _ ⟨.slice (some ⟨W.heap.size, 0, none⟩) elems.size cap, W.drew.alloc (.cells arr el), ⟨W.heap.size, 0, arr.size, 1⟩, ?_, push_place (B := { cells := rl, es := 1 }) (lo := 0) (hi := 0) h (.inl rfl) hB hb rfl hlr ?_ (FzOk.zero _) rfl, ?_, below_push h.le rfl rfl rfl rfl⟩
          · simp only [Go.convert, Sem.run_bind, run_underlying hS, run_underlying hD, Result.andThen_ok, run_underlying hE, Conv.stringToRunes, hel, run_choose, Question.forced, Bool.false_eq_true, if_false, hq, World.drew_eq, newRow, run_newObj, Sem.run_pure, World.alloc_eq, World.size_drew]
            rfl
          · simp only; omega
          · simp only [AKind.val, hlen]
            refine .slc upd_same_row (Nat.le_refl _) ?_ (fun _ => rfl)
            by_cases hce : elems.size = cap
            · exact .inl hce
            · exact .inr ⟨by omega, by simp, by simp [harr]⟩
        · cases hr
      · cases hop
    · obtain ⟨E, hE, hop⟩ := bindE hop
      split at hop
      · have := aI hop; cases this
      · cases hop
    · obtain ⟨E, hE, hop⟩ := bindE hop
      split at hop
      · have := aI hop; cases this
      · have := aI hop; cases this
      · cases hop
    · cases hop
  case makeInterface t X =>
    obtain ⟨U, hU, hop⟩ := bindE hop
    split at hop
    · cases hop
    · obtain ⟨_, _, hop⟩ := bindE hop; have := aI hop; cases this
  case makeFunc f as bs => obtain ⟨_, _, hop⟩ := bindE hop; obtain ⟨_, _, hop⟩ := bindE hop; have := aI hop; cases this
  case makeMap t rs =>
    cases rs <;> simp only [reduceCtorEq] at hop
    have := aI hop; injection this with this; subst this
    simp only [LOp.run] at hr
    injection hr with hr; injection hr with hr1 hr2; subst hr1; subst hr2
    have hp := h.push (W' := W.alloc (.map #[] 0)) _ rfl
    refine fin _ ⟨.map (some W.heap.size), W.alloc (.map #[] 0), ⟨W.heap.size, 0, 0, 0⟩, ?_, SR.placeMap (L := ⟨W.heap.size, 0, 0, 0⟩) hp hb hB h.le (heap_alloc_new W _) (fun c L' hc ho => Nat.ne_of_lt (h.own_lt hc ho)), VR.map (L := ⟨W.heap.size, 0, 0, 0⟩) upd_same_row, below_push h.le rfl rfl rfl rfl⟩
    simp [Instr.makeMap]
  case makeSlice t l c =>
    obtain ⟨U, hU, hop⟩ := bindE hop
    split at hop
    · rename_i el
      obtain ⟨s, hs, hop⟩ := bindE hop
      obtain ⟨by_, hby, hop⟩ := bindE hop
      obtain ⟨z, hz, hop⟩ := bindE hop
      obtain ⟨l', hl', hop⟩ := bindE hop
      obtain ⟨c', hc', hop⟩ := bindE hop
      have := aI hop; injection this with this; subst this
      obtain ⟨inf, hin, hsz⟩ := size_inv hs
      have hby' : inf.bytes = by_ := by unfold bytesT at hby; rw [hin] at hby; injection hby
      simp only [LOp.run] at hr
      split at hr
      · rename_i ln cn hle hce
        split at hr
        · rename_i hc
          obtain ⟨g1, g2, g3, g4, g5, g6⟩ := hc
          injection hr with hr; injection hr with hr1 hr2; subst hr1; subst hr2
          have hlv := hX l (by simp) l' hl'
          have hcv := hX c (by simp) c' hc'
          rw [hle] at hlv; rw [hce] at hcv
          obtain ⟨i, zv, hi, hzv, hzl⟩ := zero_inv (m := m) hz
          have hzl' : LR m (if cn.toNat * s = 0 then [] else z) (if cn.toNat * s = 0 then (#[] : Array Value) else zv.cells).toList := by
            split
            · exact LR.nil m
            · exact hzl
          have hzz := zeros_lr hzl' (cn.toNat * s) (by
            by_cases h0 : cn.toNat * s = 0
            · exact .inl h0
            · right; rw [if_neg h0]; exact g5)
          have hze : zeros (if cn.toNat * s = 0 then [] else z) (cn.toNat * s) = zeros z (cn.toNat * s) := by
            split
            · rename_i h0; rw [h0]; rfl
            · rfl
          rw [hze] at hzz
          obtain ⟨L, hL1, hL2, hrun, hsr, hbel⟩ := newRow_goal (P := P) (el := el) h hB hb hzz
          refine fin _ ⟨.slice (some ⟨W.heap.size, 0, none⟩) ln.toNat cn.toNat, _, L, ?_, hsr, ?_, hbel⟩
          · rw [int_inv hlv, int_inv hcv]
            have w1 := wrap_id g1 (by omega)
            have w2 := wrap_id (n := cn) (by omega) g3
            have t1 : ¬ (cn < 0) := by omega
            have t2 : ¬ ((inf.bytes : Int) * cn > 2 ^ 48) := by
              rw [hby']
              have : ((by_ * cn.toNat : Nat) : Int) = (by_ : Int) * cn := by rw [Int.natCast_mul, Int.toNat_of_nonneg (by omega)]
              rw [← this]; omega
            have t3 : ¬ (ln < 0) := by omega
            have t4 : ¬ (ln > cn) := by omega
            have t2' : ¬ (281474976710656 < (inf.bytes : Int) * cn) := by omega
            simp only [Instr.makeSlice, Sem.run_bind, run_underlying hU, Result.andThen_ok, asInt, asIntOf, Sem.run_pure, typeInfo, run_program, hin, w1, w2, run_askRoom, sizeOf, hsz]
            have c1 : (decide (cn < 0) || decide ((inf.bytes : Int) * cn > 2 ^ 48) || decide (ln < 0) || decide (ln > cn)) = false := by
              simp only [Bool.or_eq_false_iff, decide_eq_false_iff_not]
              exact ⟨⟨⟨t1, t2⟩, t3⟩, t4⟩
            simp only [c1, Bool.false_eq_true, if_false, Sem.run_bind, run_askRoom, Result.andThen_ok, run_program, hin, Sem.run_pure, hsz]
            by_cases h0 : cn.toNat * s = 0
            · simp only [if_pos h0] at hrun ⊢
              simp only [Sem.run_bind, Sem.run_pure, Result.andThen_ok, hrun]
            · simp only [if_neg h0] at hrun ⊢
              simp only [Sem.run_bind, Sem.run_pure, Result.andThen_ok, run_zero hi hzv, hrun]
          · refine .slc upd_same_row (by omega) (.inl rfl) (fun _ => ?_)
            rw [hL1, hL2]
        · cases hr
      · cases hr
    · cases hop
  case slice t X lo hi mx =>
    cases mx <;> simp only [reduceCtorEq] at hop
    obtain ⟨_, _, hop⟩ := bindE hop; obtain ⟨_, _, hop⟩ := bindE hop; obtain ⟨_, _, hop⟩ := bindE hop; obtain ⟨_, _, hop⟩ := bindE hop
    split at hop <;> first
      | (obtain ⟨_, _, hop⟩ := bindE hop; have := aI hop; cases this; done)
      | (have := aI hop; cases this; done)
      | (cases hop; done)
  case fieldAddr t X f =>
    obtain ⟨U, hU, hop⟩ := bindE hop
    split at hop
    · obtain ⟨_, _, hop⟩ := bindE hop; obtain ⟨_, _, hop⟩ := bindE hop
      split at hop
      · cases hop
      · obtain ⟨_, _, hop⟩ := bindE hop; have := aI hop; cases this
    · cases hop
  case field t X f =>
    obtain ⟨U, hU, hop⟩ := bindE hop
    split at hop
    · obtain ⟨_, _, hop⟩ := bindE hop; obtain ⟨_, _, hop⟩ := bindE hop; obtain ⟨_, _, hop⟩ := bindE hop; have := aI hop; cases this
    · cases hop
  case indexAddr t X I =>
    obtain ⟨U, hU, hop⟩ := bindE hop
    split at hop
    · obtain ⟨_, _, hop⟩ := bindE hop; obtain ⟨_, _, hop⟩ := bindE hop; obtain ⟨_, _, hop⟩ := bindE hop; have := aI hop; cases this
    · obtain ⟨_, _, hop⟩ := bindE hop; obtain ⟨_, _, hop⟩ := bindE hop; obtain ⟨_, _, hop⟩ := bindE hop; have := aI hop; cases this
    · cases hop
  case index t X I =>
    obtain ⟨U, hU, hop⟩ := bindE hop
    split at hop
    · obtain ⟨_, _, hop⟩ := bindE hop; obtain ⟨_, _, hop⟩ := bindE hop; obtain ⟨_, _, hop⟩ := bindE hop; obtain ⟨_, _, hop⟩ := bindE hop; have := aI hop; cases this
    · obtain ⟨_, _, hop⟩ := bindE hop; obtain ⟨_, _, hop⟩ := bindE hop; have := aI hop; cases this
    · cases hop
  case lookup t X K ok =>
    obtain ⟨U, hU, hop⟩ := bindE hop
    split at hop
    · obtain ⟨_, _, hop⟩ := bindE hop; obtain ⟨_, _, hop⟩ := bindE hop; obtain ⟨_, _, hop⟩ := bindE hop; obtain ⟨_, _, hop⟩ := bindE hop; obtain ⟨_, _, hop⟩ := bindE hop; have := aI hop; cases this
    · cases hop
  case mapUpdate t mm k x =>
    obtain ⟨U, hU, hop⟩ := bindE hop
    split at hop
    · obtain ⟨_, _, hop⟩ := bindE hop; obtain ⟨_, _, hop⟩ := bindE hop; obtain ⟨_, _, hop⟩ := bindE hop; obtain ⟨_, _, hop⟩ := bindE hop; have := aI hop; cases this
    · cases hop
  case extract X i => obtain ⟨_, _, hop⟩ := bindE hop; have := aI hop; cases this
  case call c =>
    unfold ccall at hop
    obtain ⟨as, has, hop⟩ := bindE hop
    split at hop
    · have := aI hop; cases this
    · obtain ⟨_, _, hop⟩ := bindE hop; have := aI hop; cases this
    · cases hop
    · obtain ⟨t0, ht0, hop⟩ := bindE hop
      split at hop
      · obtain ⟨U, hU, hop⟩ := bindE hop
        split at hop
        · obtain ⟨_, _, hop⟩ := bindE hop; obtain ⟨_, _, hop⟩ := bindE hop
          split at hop
          all_goals first
            | (obtain ⟨_, _, hop⟩ := bindE hop
               obtain ⟨_, _, hop⟩ := bindE hop
               split at hop
               · obtain ⟨_, _, hop⟩ := bindE hop
                 have := aI hop; cases this
               · cases hop)
            | cases hop
        · cases hop
      · obtain ⟨U, hU, hop⟩ := bindE hop
        split at hop <;> first
          | (have := aI hop; cases this; done)
          | (cases hop; done)
          | (obtain ⟨_, _, hop⟩ := bindE hop; split at hop <;> first | (have := aI hop; cases this; done) | (cases hop; done))
      · obtain ⟨U, hU, hop⟩ := bindE hop
        split at hop
        · obtain ⟨_, _, hop⟩ := bindE hop; have := aI hop; cases this
        · cases hop
      · obtain ⟨U, hU, hop⟩ := bindE hop
        split at hop <;> first
          | (have := aI hop; cases this; done)
          | (cases hop; done)
          | (obtain ⟨_, _, hop⟩ := bindE hop; have := aI hop; cases this; done)
      · have := aI hop; cases this
      · have := aI hop; cases this
      · cases hop
end Go.Proofs.YtdkpmlhbofgfdaaGreatDoor.AM
