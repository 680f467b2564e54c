/-
  Addresses' types: what the model answers where a block's type is known.
-/
import Derived.Test.YtdkpmlhbofgfdaaGreatDoorAmCall
import Derived.Laws.Externs
import Derived.LaidEqlPtr
set_option linter.unusedSimpArgs false
set_option linter.unusedVariables false
namespace Go.Proofs.YtdkpmlhbofgfdaaGreatDoor.AM
open Go Go.RowKit

variable {base : Nat} {m : Inj} {H : AHeap} {W : World} {P : Program} {gl : List Nat} {e : Env} {ρ : Operand → Value}

theorem ext_gen : Extern.allGenericRows.lookup "internal/abi.NoEscape" = none := by kernel_rfl
theorem ext_typed : Extern.allTypedRows.lookup "internal/abi.NoEscape" = none := by kernel_rfl
theorem ext_rows : Extern.allRows.lookup "internal/abi.NoEscape" = some Extern.AbiNoEscape.same := by kernel_rfl
theorem ext_find {F : Func} (h : F.name = "internal/abi.NoEscape") : Extern.find F = some Extern.AbiNoEscape.same := by
  unfold Extern.find
  simp only [h, ext_gen, ext_typed, ext_rows]
  rfl
theorem rowAt_mono (fits : TypeId → Bool) (d : Nat) (t : TypeId) (c c' off n : Nat) (h : c ≤ c') (hr : rowAt P fits d t c off n = true) : rowAt P fits d t c' off n = true := by
  cases d with
  | zero => simp [rowAt] at hr
  | succ d =>
    unfold rowAt at hr ⊢
    simp only at hr ⊢
    split at hr
    · cases hr
    · rename_i hs
      rw [if_neg hs]
      simp only [Bool.or_eq_true, Bool.and_eq_true, decide_eq_true_eq] at hr ⊢
      rcases hr with hr | hr
      · exact .inl ⟨⟨hr.1.1, by omega⟩, hr.2⟩
      · exact .inr ⟨by omega, hr.2⟩
theorem liesAt_mono (d : Nat) (t : TypeId) (c c' off : Nat) (h : c ≤ c') : ∀ (u : TypeId) (n : Nat), liesAt P d t c off u n = true → liesAt P d t c' off u n = true := by
  induction d with
  | zero => intro u n hr; simp [liesAt] at hr
  | succ d ih =>
    intro u n hr
    unfold liesAt at hr ⊢
    simp only [Bool.or_eq_true] at hr ⊢
    rcases hr with hr | hr
    · exact .inl (rowAt_mono _ _ _ _ _ _ _ h hr)
    · right
      split at hr
      · exact ih _ _ hr
      · cases hr
theorem liesTbl_inv {u t : TypeId} {x n o : Nat} (h : (x, n, o) ∈ liesTbl P u t) : x = t ∧ liesAt P P.depth t (n / P.cellsOf t) o u 1 = true := by
  unfold liesTbl at h
  split at h
  · rw [List.mem_map] at h
    obtain ⟨o', h1, h2⟩ := h
    injection h2 with h2 h3; injection h3 with h3 h4
    subst h2; subst h3; subst h4
    rw [List.mem_filter] at h1
    exact ⟨rfl, h1.2⟩
  · simp at h
theorem tyAt_shape {L : Loc} {t n : Nat} (h : TyAt W L t n) : L.off = 0 ∧ ∃ c, n ≤ c ∧ W.shape? L.blk = some (t, c) := by
  obtain ⟨h0, arr, fz, h1, h2⟩ := h
  exact ⟨h0, arr.size, h2, by simp [World.shape?, h1]⟩

theorem sim_toUns {s d t : TypeId} {X : Operand} {x : Opd} {v : AV} (h : SR P gl base m H W) (hx : copd gl X = some x) (hX : OpR gl m e ρ X) (hs : P.underlying s = some (.pointer t)) (hd : P.underlying d = some .unsafePointer)
    {sz : Nat} (ht : sizeT P t = some sz) (hsz : sz ≠ 0) (hr : (ROp.toUns x).run H e = some v) : ∃ c, (Go.convert s d (ρ X)).run P W = .ok c W ∧ VR m v c := by
  simp only [ROp.run] at hr
  obtain ⟨j, hj, hj2⟩ := size_inv ht
  split at hr
  · rename_i b o hv
    split at hr
    · rename_i B hB
      split at hr
      · rename_i hc
        injection hr with hr; subst hr
        have hvr := hX x hx
        rw [hv] at hvr
        obtain ⟨L, h1, h2⟩ := ptr_inv hvr
        obtain ⟨h0, c, hn, hsh⟩ := tyAt_shape (h.ty b L B h1 hB hc.1)
        refine ⟨_, ?_, hvr⟩
        rw [h2]
        have hlt : L.off + o < c := by omega
        simp [Go.convert, run_underlying hs, run_underlying hd, Conv.unsafePointer, Conv.seenAt, viewAt, cellsIn, hsh, sizeOf, typeInfo, hj, hj2, hsz]
        intro hge
        omega
      · cases hr
    · cases hr
  · cases hr
theorem sim_fromUns {s d u : TypeId} {X : Operand} {x : Opd} {v : AV} {tl : List Nat} (h : SR P gl base m H W) (hx : copd gl X = some x) (hX : OpR gl m e ρ X) (hs : P.underlying s = some .unsafePointer) (hd : P.underlying d = some (.pointer u))
    {sz : Nat} (hu : sizeT P u = some sz) (hr : (ROp.fromUns (tl.flatMap (liesTbl P u)) x).run H e = some v) : ∃ c, (Go.convert s d (ρ X)).run P W = .ok c W ∧ VR m v c := by
  simp only [ROp.run] at hr
  obtain ⟨j, hj, hj2⟩ := size_inv hu
  split at hr
  · rename_i b o hv
    split at hr
    · rename_i B hB
      split at hr
      · rename_i hc
        injection hr with hr; subst hr
        have hvr := hX x hx
        rw [hv] at hvr
        obtain ⟨L, h1, h2⟩ := ptr_inv hvr
        obtain ⟨h0, c, hn, hsh⟩ := tyAt_shape (h.ty b L B h1 hB hc.1)
        obtain ⟨t, _, ht⟩ := List.mem_flatMap.1 hc.2
        obtain ⟨rfl, hl⟩ := liesTbl_inv ht
        have hl2 := liesAt_mono (P := P) _ _ _ (c / P.cellsOf B.ty) o (Nat.div_le_div_right hn) _ _ hl
        refine ⟨_, ?_, hvr⟩
        rw [h2]
        have ho : L.off + o = o := by omega
        simp [Go.convert, run_underlying hs, run_underlying hd, Conv.unsafePointer, Conv.seenAt, viewAt, hsh, variablesAt, ho, hl2, sizeOf, typeInfo, hj]
      · cases hr
    · cases hr
  · cases hr
theorem sim_pteq {g : Bool} {t u : TypeId} {X Y : Operand} {x y : Opd} {v : AV} {j : TypeInfo} (hx : copd gl X = some x) (hy : copd gl Y = some y) (hX : OpR gl m e ρ X) (hY : OpR gl m e ρ Y) (hu : P.underlying t = some (.pointer u)) (hj : P.info? u = some j)
    (hr : (ROp.pteq g x y).run H e = some v) : ∃ c, (do eqGuard (if g then .neq else .eql) t X Y (ρ X) (ρ Y); Go.binOp (if g then .neq else .eql) t (ρ X) (ρ Y) : Sem Value).run P W = .ok c W ∧ VR m v c := by
  simp only [ROp.run] at hr
  have hxv := hX x hx
  have hyv := hY y hy
  split at hr
  · rename_i b o b' o' hx' hy'
    split at hr
    · rename_i hc
      obtain ⟨rfl, rfl⟩ := hc
      injection hr with hr; subst hr
      rw [hx'] at hxv; rw [hy'] at hyv
      obtain ⟨L, h1, h2⟩ := ptr_inv hxv
      obtain ⟨L', h3, h4⟩ := ptr_inv hyv
      rw [h1] at h3; injection h3 with h3; subst h3
      rw [h2, h4]
      refine ⟨_, ?_, .bool _⟩
      have hgd : (eqGuard (if g then .neq else .eql) t X Y (.pointer (some ⟨L.blk, L.off + o, none⟩)) (.pointer (some ⟨L.blk, L.off + o, none⟩))).run P W = .ok () W := guard_ok P W _ t X Y _ _ (by simp) (by simp)
      simp only [Sem.run_bind, hgd, Result.andThen_ok]
      refine eql_run P W g t _ _ _ (by simp) (by simp) (by simp) (by simp) ?_
      rw [(eqDeep t _ _).choose_spec]
      simp [Op.equalIn, run_underlying hu, sizeOf, typeInfo, hj, run_sameAddr_same]
    · cases hr
  · split at hr
    · rename_i r hn
      injection hr with hr; subst hr
      exact ⟨_, sim_nileq P W g t X Y hxv hyv hn hu (.inl ⟨rfl, _, rfl⟩), .bool _⟩
    · cases hr
theorem sim_sldata {ts : Array TypeId} {ty : TypeId} {X : Operand} {x : Opd} {v : AV} (hx : copd gl X = some x) (hX : OpR gl m e ρ X) (hr : (ROp.sldata x).run H e = some v) : ∃ c, (Builtin.unsafeSliceData_ ts ty #[ρ X]).run P W = .ok c W ∧ VR m v c := by
  simp only [ROp.run] at hr
  have hxv := hX x hx
  split at hr
  · rename_i hv
    injection hr with hr; subst hr
    rw [hv] at hxv
    generalize ρ X = c at hxv
    cases hxv
    exact ⟨_, rfl, .nilp⟩
  · rename_i b o len cap hv
    split at hr
    · rename_i hl
      injection hr with hr; subst hr
      rw [hv] at hxv
      obtain ⟨L, a, cap', h1, h2, h3, h4, h5⟩ := slc_inv hxv
      have hcc : 0 < cap' := by rcases h4 with h4 | h4 <;> omega
      rw [h2, h5 hcc]
      refine ⟨.pointer (some ⟨L.blk, L.off + o, none⟩), ?_, .ptr h1⟩
      obtain ⟨k, rfl⟩ : ∃ k, cap' = k + 1 := ⟨cap' - 1, by omega⟩
      rfl
    · cases hr
  · cases hr
theorem csp_on {op : Op} {a : AOp} (h : csp P gl op = some a) : gl.contains tyMode = true := by
  unfold csp at h
  cases hc : gl.contains tyMode with
  | true => rfl
  | false => rw [hc] at h; cases h

set_option maxHeartbeats 1000000 in
theorem csp_rsim (h : SR P gl base m H W) {o : Oper} {r : ROp} {v : AV} (hop : csp P gl o.op = some (.r r)) (hX : ∀ X ∈ o.op.operands.toList, OpR gl m e ρ X) (hr : r.run H e = some v) :
    ∃ c, (execOp ρ o).run P W = .ok (.value c) W ∧ VR m v c := by
  have fin : ∀ (s : Sem Value), (∃ cv, s.run P W = .ok cv W ∧ VR m v cv) → ∃ cv, (do pure (Next.value (← s)) : Sem Next).run P W = .ok (.value cv) W ∧ VR m v cv := fun s ⟨cv, h1, h2⟩ => ⟨cv, val_run h1, h2⟩
  have hon := csp_on hop
  obtain ⟨dst, op, type, pos, after, guard⟩ := o
  simp only at hop hX
  simp only [csp, hon, Bool.not_true, Bool.false_eq_true, if_false] at hop
  split at hop
  · -- alloc
    split at hop
    · cases hop
    · rw [Option.map_eq_some_iff] at hop; obtain ⟨_, _, hop⟩ := hop; cases hop
  · split at hop
    · cases hop
    · rw [Option.map_eq_some_iff] at hop; obtain ⟨_, _, hop⟩ := hop; cases hop
  · rename_i t X Y yt
    simp only [Op.operands] at hX
    split at hop
    · rename_i u hu
      split at hop
      · cases hop
      · rename_i hj
        obtain ⟨j, hj⟩ : ∃ j, P.info? u = some j := by cases hq : P.info? u with | none => simp [hq] at hj | some j => exact ⟨j, rfl⟩
        split at hop
        · rename_i a b ha hb
          injection hop with hop; injection hop with hop; subst hop
          exact fin _ (sim_pteq (g := false) ha hb (hX X (by simp)) (hX Y (by simp)) hu hj hr)
        · cases hop
    · cases hop
  · rename_i t X Y yt
    simp only [Op.operands] at hX
    split at hop
    · rename_i u hu
      split at hop
      · cases hop
      · rename_i hj
        obtain ⟨j, hj⟩ : ∃ j, P.info? u = some j := by cases hq : P.info? u with | none => simp [hq] at hj | some j => exact ⟨j, rfl⟩
        split at hop
        · rename_i a b ha hb
          injection hop with hop; injection hop with hop; subst hop
          exact fin _ (sim_pteq (g := true) ha hb (hX X (by simp)) (hX Y (by simp)) hu hj hr)
        · cases hop
    · cases hop
  · rename_i s d X
    simp only [Op.operands] at hX
    split at hop
    · rename_i a t ha hs hd
      split at hop
      · cases hop
      · rename_i hz
        injection hop with hop; injection hop with hop; subst hop
        cases hq : sizeT P t with
        | none => rw [hq] at hz; exact absurd rfl hz
        | some sz => rw [hq] at hz; exact fin _ (sim_toUns h ha (hX X (by simp)) hs hd hq hz hr)
    · rename_i a u ha hs hd
      split at hop
      · cases hop
      · rename_i hz
        injection hop with hop; injection hop with hop; subst hop
        cases hq : sizeT P u with
        | none => rw [hq] at hz; exact absurd rfl hz
        | some sz => exact fin _ (sim_fromUns h ha (hX X (by simp)) hs hd hq hr)
    · cases hop
  · rename_i c
    have hXa : ∀ X ∈ c.args.toList, OpR gl m e ρ X := fun X hx => hX X (by simp only [Op.operands, Call.operands, Array.toList_append, List.mem_append]; exact .inr hx)
    have harg : ∀ {X : Operand}, c.args.toList = [X] → c.args.map ρ = #[ρ X] := fun hx => by apply Array.ext'; rw [Array.toList_map, hx]; rfl
    split at hop
    · rename_i f X hcal hargs
      split at hop
      · rename_i F hF
        split at hop
        · rename_i hc
          rw [Option.map_eq_some_iff] at hop
          obtain ⟨a, ha, hop⟩ := hop
          injection hop with hop; subst hop
          simp only [Bool.and_eq_true, beq_iff_eq] at hc
          obtain ⟨⟨h1, h2⟩, h3⟩ := hc
          simp only [ROp.run] at hr; injection hr with hr; subst hr
          refine ⟨ρ X, ?_, hXa X (by rw [hargs]; simp) a ha⟩
          have hn : Extern.findNext F = none := by cases hq : Extern.findNext F with | none => rfl | some j => rw [hq] at h3; cases h3
          have he := run_callFunc_extern (P := P) hF (by rw [h2]; rfl) h1 hn (ext_find h2) #[ρ X] W
          have hf := hX (.func f) (by simp only [Op.operands, Call.operands, hcal]; simp) _ rfl
          generalize hρ : ρ (.func f) = fv at hf
          cases hf with
          | fn k1 k3 k2 k4 =>
            rename_i x' y'
            obtain rfl : x' = #[] := Array.eq_empty_of_size_eq_zero k1.symm
            obtain rfl : y' = #[] := Array.eq_empty_of_size_eq_zero k2.symm
            simp only [execOp, resolve, hcal, hρ, Deferred.ofValue, invoke, harg hargs, Sem.run_bind, Sem.run_pure, Result.andThen_ok]
            exact he
        · cases hop
      · cases hop
    · rename_i X hcal hargs
      rw [Option.map_eq_some_iff] at hop
      obtain ⟨a, ha, hop⟩ := hop
      injection hop with hop; subst hop
      simp only [execOp]
      rw [builtin_run hcal, harg hargs]
      exact fin _ (sim_sldata ha (hXa X (by rw [hargs]; simp)) hr)
    · rw [Option.map_eq_some_iff] at hop; obtain ⟨_, _, hop⟩ := hop; cases hop
    · rw [Option.map_eq_some_iff] at hop; obtain ⟨_, _, hop⟩ := hop; cases hop
    · rw [Option.map_eq_some_iff] at hop; obtain ⟨_, _, hop⟩ := hop; cases hop
    · cases hop
  · cases hop
theorem sim_rng {t : TypeId} {X : Operand} {a : Opd} {obj : AObj} {k : AKind} {b : Nat} (h : SR P gl base m H W) (hU : P.underlying t = some .string) (ha : copd gl X = some a) (hX : OpR gl m e ρ X) (hr : (LOp.rng a).run e = some (obj, k)) (hB : H.get b = some obj) (hb : m b = none) :
    ∃ c W' L, (Instr.range t (ρ X)).run P W = .ok c W' ∧ SR P gl base (m.upd b L) H W' ∧ VR (m.upd b L) (k.val b) c ∧ BK base W W' := by
  simp only [LOp.run] at hr
  have hxv := hX a ha
  split at hr
  · rename_i s hs
    injection hr with hr; injection hr with hr1 hr2; subst hr1; subst hr2
    rw [hs] at hxv
    generalize hρ : ρ X = x at hxv
    cases hxv with
    | str s' =>
      have hp := h.push (W' := W.alloc (.stringIter s' 0)) _ rfl
      refine ⟨.pointer (some ⟨W.heap.size, 0, none⟩), W.alloc (.stringIter s' 0), ⟨W.heap.size, 0, 0, 0⟩, ?_, SR.placeRec (L := ⟨W.heap.size, 0, 0, 0⟩) hp rfl hb hB h.le (heap_alloc_new W _) ⟨rfl, rfl, rfl⟩ (fun c L' hc ho => Nat.ne_of_lt (h.own_lt hc ho)), VR.ptr (m := m.upd b _) (o := 0) upd_same_row, below_push h.le rfl rfl rfl rfl⟩
      simp only [Instr.range, Sem.run_bind, run_underlying hU, Result.andThen_ok, run_newObj, Sem.run_pure, World.alloc_eq]
  · cases hr
theorem sim_nxt {X : Operand} {a : Opd} {v : AV} {H' : AHeap} {cl : CallH} {ty : TypeId} (h : SR P gl base m H W) (ha : copd gl X = some a) (hX : OpR gl m e ρ X) (hr : (EOp.nxt a).run cl H e = some (v, H')) :
    ∃ c W' m', (Instr.next (ρ X) true ty).run P W = .ok c W' ∧ Post P gl base m H W m' H' W' ∧ VR m' v c := by
  simp only [EOp.run] at hr
  have hxv := hX a ha
  split at hr
  · rename_i b o hs
    split at hr
    · cases hr
    · rename_i ho
      obtain rfl : o = 0 := Decidable.of_not_not ho
      rw [hs] at hxv
      generalize hρ : ρ X = x at hxv
      cases hxv with
      | ptr hb =>
        rename_i L
        split at hr
        · rename_i s pos hB
          obtain ⟨hbase, hoff, hW⟩ := h.lpI hb hB
          have hg : (getObj L.blk).run P W = .ok (.stringIter ⟨s.toArray⟩ pos) W := by simp [getObj, Sem.run, hW]
          have hsz : (⟨s.toArray⟩ : ByteArray).size = s.length := by simp [ByteArray.size]
          split at hr
          · rename_i hlt
            injection hr with hr; injection hr with hr1 hr2; subst hr1; subst hr2
            have hlt2 : L.blk < W.heap.size := (Array.getElem?_eq_some_iff.1 hW).1
            generalize hd : Utf8.decode ⟨s.toArray⟩ pos = cw at *
            obtain ⟨c, w⟩ := cw
            have hw : Wr W { W with heap := W.heap.setIfInBounds L.blk (.stringIter ⟨s.toArray⟩ (pos + w)) } L.blk (.stringIter ⟨s.toArray⟩ (pos + w)) := ⟨rfl, rfl, rfl, by simp, fun k hk => Array.getElem?_setIfInBounds_ne (by omega), by simp [hlt2]⟩
            have hset : (setObj L.blk (.stringIter ⟨s.toArray⟩ (pos + w))).run P W = .ok () { W with heap := W.heap.setIfInBounds L.blk (.stringIter ⟨s.toArray⟩ (pos + w)) } := by simp [setObj, Sem.run, hW]
            refine ⟨.tuple #[.bool true, .int .i64 pos, .int .i32 c], _, m, ?_, ⟨Inj.le_refl _, h.writeRec rfl rfl hb hB hw ⟨rfl, rfl, hoff⟩, ⟨hw.below hbase, KD.itr hw hW⟩, Nat.le_refl _, fun c hc hmc => ⟨hmc, AHeap.get_set_ne _ _ _ _ (fun e => by subst e; rw [hb] at hmc; cases hmc)⟩⟩, ?_⟩
            · simp only [Instr.next, hoff, Nat.add_zero, Sem.run_bind, hg, Result.andThen_ok, hsz, if_pos hlt, hd, hset, Sem.run_pure, goInt]
            · exact .tup' (.cons (.bool _) (.cons (.int _ _) (.cons (.int _ _) (.nil _))))
          · rename_i hlt
            injection hr with hr; injection hr with hr1 hr2; subst hr1; subst hr2
            refine ⟨.tuple #[.bool false], W, m, ?_, Post.refl h, .tup' (.cons (.bool _) (.nil _))⟩
            simp only [Instr.next, hoff, Nat.add_zero, Sem.run_bind, hg, Result.andThen_ok, hsz, if_neg hlt, Sem.run_pure]
        · cases hr
  · cases hr
theorem sim_allocT {t : TypeId} {z : List AV} {obj : AObj} {k : AKind} {b : Nat} (h : SR P gl base m H W) (hz : zeroT P t = some z) (ht : t ≠ 0) (hr : (LOp.allocT t z).run e = some (obj, k)) (hB : H.get b = some obj) (hb : m b = none) :
    ∃ c W' L, (Instr.alloc t true (.tuple #[])).run P W = .ok c W' ∧ SR P gl base (m.upd b L) H W' ∧ VR (m.upd b L) (k.val b) c ∧ BK base W W' := by
  simp only [LOp.run] at hr
  injection hr with hr; injection hr with hr1 hr2; subst hr1; subst hr2
  obtain ⟨i, zv, hi, hzv, hzl⟩ := zero_inv (m := m) hz
  have hle : z.length = zv.cells.size := by simpa using hzl.1
  refine ⟨.pointer (some ⟨W.heap.size, 0, none⟩), W.alloc (.cells zv.cells t), ⟨W.heap.size, 0, zv.cells.size, 0⟩, ?_, ?_, ?_, below_push h.le rfl rfl rfl rfl⟩
  · simp only [Instr.alloc, Sem.run_bind, run_zero hi hzv, Result.andThen_ok, newVar, newRow, run_newObj, Sem.run_pure, World.alloc_eq]
  · refine push_place (B := { cells := z, ty := t }) (arr := zv.cells) (el := t) (lo := 0) (hi := 0) h (.inr rfl) hB hb rfl ?_ (by simp only; omega) (FzOk.zero _) rfl
    simp only [hle]
    rw [show zv.cells.toList.take zv.cells.size = zv.cells.toList by rw [← Array.length_toList, List.take_length]]
    exact hzl
  · exact VR.ptr (m := m.upd b _) (o := 0) upd_same_row
theorem sim_boxT {t : TypeId} {X : Operand} {a : Opd} {obj : AObj} {k : AKind} {b : Nat} (h : SR P gl base m H W) (ha : copd gl X = some a) (hX : OpR gl m e ρ X) (hr : (LOp.boxT t a).run e = some (obj, k)) (hB : H.get b = some obj) (hb : m b = none) :
    ∃ c W' L, (Instr.box t (ρ X)).run P W = .ok c W' ∧ SR P gl base (m.upd b L) H W' ∧ VR (m.upd b L) (k.val b) c ∧ BK base W W' := by
  simp only [LOp.run] at hr
  split at hr
  · rename_i hone
    injection hr with hr; injection hr with hr1 hr2; subst hr1; subst hr2
    have hv := hX a ha
    obtain ⟨L, hL1, hL2, hrun, hsr, hbel⟩ := newRow_goalT (P := P) (el := t) h hB hb hv.cells
    refine ⟨.pointer (some ⟨W.heap.size, 0, none⟩), _, L, ?_, hsr, ?_, hbel⟩
    · simp only [Instr.box, Sem.run_bind, Result.andThen_ok, newVar, hrun, Sem.run_pure]
    · have := VR.ptr (m := m.upd b L) (o := 0) upd_same_row
      rw [hL1, hL2] at this
      exact this
  · cases hr
theorem csp_asim (h : SR P gl base m H W) {o : Oper} {x : LOp} {obj : AObj} {k : AKind} {b : Nat} (hop : csp P gl o.op = some (.a x)) (hX : ∀ X ∈ o.op.operands.toList, OpR gl m e ρ X) (hr : x.run e = some (obj, k)) (hB : H.get b = some obj) (hb : m b = none) :
    ∃ c W' L, (execOp ρ o).run P W = .ok (.value c) W' ∧ SR P gl base (m.upd b L) H W' ∧ VR (m.upd b L) (k.val b) c ∧ BK base W W' := by
  have fin : ∀ (s : Sem Value), (∃ c W' L, s.run P W = .ok c W' ∧ SR P gl base (m.upd b L) H W' ∧ VR (m.upd b L) (k.val b) c ∧ BK base W W') →
      ∃ c W' L, (do pure (Next.value (← s)) : Sem Next).run P W = .ok (.value c) W' ∧ SR P gl base (m.upd b L) H W' ∧ VR (m.upd b L) (k.val b) c ∧ BK base W W' :=
    fun s ⟨c, W', L, h1, h2⟩ => ⟨c, W', L, by simp [h1], h2⟩
  have hon := csp_on hop
  obtain ⟨dst, op, type, pos, after, guard⟩ := o
  simp only at hop hX
  simp only [csp, hon, Bool.not_true, Bool.false_eq_true, if_false] at hop
  split at hop
  · split at hop
    · cases hop
    · rename_i t hc
      rw [Option.map_eq_some_iff] at hop; obtain ⟨z, hz, hop⟩ := hop
      injection hop with hop; subst hop
      exact fin _ (sim_allocT h hz (fun e => hc (.inl e)) hr hB hb)
  · rename_i t X
    simp only [Op.operands] at hX
    split at hop
    · cases hop
    · rw [Option.map_eq_some_iff] at hop; obtain ⟨a, ha, hop⟩ := hop
      injection hop with hop; subst hop
      exact fin _ (sim_boxT h ha (hX X (by simp)) hr hB hb)
  · exfalso; repeat' (first | cases hop | split at hop)
  · exfalso; repeat' (first | cases hop | split at hop)
  · exfalso; repeat' (first | cases hop | split at hop)
  · exfalso
    split at hop
    · split at hop
      · split at hop
        · rw [Option.map_eq_some_iff] at hop; obtain ⟨_, _, hop⟩ := hop; cases hop
        · cases hop
      · cases hop
    · rw [Option.map_eq_some_iff] at hop; obtain ⟨_, _, hop⟩ := hop; cases hop
    · rw [Option.map_eq_some_iff] at hop; obtain ⟨_, _, hop⟩ := hop; cases hop
    · rw [Option.map_eq_some_iff] at hop; obtain ⟨_, _, hop⟩ := hop; cases hop
    · rw [Option.map_eq_some_iff] at hop; obtain ⟨_, _, hop⟩ := hop; cases hop
    · cases hop
  · cases hop

/-- bytes, read where they lie -/
theorem bytes_cells : ∀ {cs : List AV} {l : List UInt8}, bytesOf cs = some l → cs.length = l.length ∧ ∀ (j : Nat) (x : UInt8), l[j]? = some x → ∃ n : Int, cs[j]? = some (.int .u8 n) ∧ x = UInt8.ofNat n.toNat
  | [], l, h => by rw [bytesOf] at h; injection h with h; subst h; exact ⟨rfl, fun j x hx => by simp at hx⟩
  | c :: cs, l, h => by
    unfold bytesOf at h
    split at h
    · rename_i heq; cases heq
    · rename_i n r heq
      injection heq with e1 e2; subst e1; subst e2
      split at h
      · rename_i l' hl
        injection h with h; subst h
        obtain ⟨h1, h2⟩ := bytes_cells hl
        refine ⟨by simp [h1], fun j x hx => ?_⟩
        cases j with
        | zero => simp at hx; exact ⟨n, by simp, hx.symm⟩
        | succ j => exact h2 j x (by simpa using hx)
      · cases h
    · cases h
theorem run_bytes : ∀ (l : List UInt8) (a : Addr) (acc : ByteArray), (∀ j x, l[j]? = some x → ∃ n : Int, W.cell? (a.add j) = some (.int .u8 n) ∧ x = UInt8.ofNat n.toNat) →
    (loadBytes a acc l.length).run P W = .ok ⟨acc.data ++ l.toArray⟩ W
  | [], a, acc, _ => by simp [loadBytes]
  | x :: l, a, acc, h => by
    obtain ⟨n, h0, hx⟩ := h 0 x rfl
    have h0' : W.cell? a = some (.int .u8 n) := by simpa [Addr.add] using h0
    have ih := run_bytes l (a.add 1) (acc.push x) (fun j y hy => by
      have := h (j + 1) y (by simpa using hy)
      have e : (a.add 1).add j = a.add (j + 1) := by
        unfold Addr.add
        by_cases hj : j = 0
        · subst hj; simp
        · simp [hj]; omega
      rw [e]; exact this)
    have hx' : n.toNat.toUInt8 = x := hx.symm
    simp only [List.length_cons, loadBytes, Sem.run_bind, run_load, h0', Result.andThen, hx']
    rw [ih]
    congr 1
    apply ByteArray.ext
    simp [ByteArray.push]
theorem lies_bytes {t : TypeId} (hc : P.cellsOf t = 1) (count n : Nat) (hn : n ≤ count) : liesAt P P.depth t count 0 t n = true := by
  have hd : P.depth = (2 * (P.types.size + Made.depth) + 1) + 1 := rfl
  rw [hd]
  simp only [liesAt, Bool.or_eq_true]
  left
  rw [hd]
  simp [rowAt, hc, hn, sameLayout]

theorem sim_strUns {pt it ty el : TypeId} {X N : Operand} {x n : Opd} {v : AV} {H' : AHeap} {cl : CallH} (h : SR P gl base m H W) (hx : copd gl X = some x) (hn : copd gl N = some n) (hX : OpR gl m e ρ X) (hN : OpR gl m e ρ N)
    (hp : P.underlying pt = some (.pointer el)) (hc1 : P.cellsOf el = 1) (hr : (EOp.strUns el x n).run cl H e = some (v, H')) :
    ∃ c W' m', (Builtin.unsafeString_ #[pt, it] ty #[ρ X, ρ N]).run P W = .ok c W' ∧ Post P gl base m H W m' H' W' ∧ VR m' v c := by
  simp only [EOp.run] at hr
  have hxv := hX x hx
  have hnv := hN n hn
  have hmax : IntKind.i64.max = 9223372036854775807 := rfl
  split at hr
  · rename_i i hxe hne
    split at hr
    · rename_i h0
      subst h0
      injection hr with hr; injection hr with h1 h2; subst h1; subst h2
      rw [hxe] at hxv; rw [hne] at hnv
      rw [int_inv hnv]
      generalize ρ X = c at hxv
      cases hxv
      refine ⟨.string .empty, W, m, ?_, Post.refl h, .ofStr rfl⟩
      have hdef : Builtin.unsafeString_ #[pt, it] ty #[.pointer none, .int .i64 0] =
        (do
          let n ← asInt (.int .i64 0)
          if n < 0 then runtimePanic (.error "unsafe.String: len out of range")
          if n > IntKind.i64.max then unsupported (.unsafePointer "String: a length above the largest int")
          if n = 0 then pure (.string .empty)
          else runtimePanic (.error "unsafe.String: ptr is nil and len is not zero")) := rfl
      rw [hdef]
      simp [asInt, asIntOf, hmax]
    · cases hr
  · rename_i b o i hxe hne
    split at hr
    · cases hr
    · rename_i hc
      obtain ⟨rfl, ⟨hi, hi63⟩, hel⟩ := Classical.not_not.1 hc
      split at hr
      · rename_i B hB
        split at hr
        · cases hr
        · rename_i hc2
          obtain ⟨hro, hty⟩ := Classical.not_not.1 hc2
          split at hr
          · rename_i cs hcs
            split at hr
            · rename_i l hl
              injection hr with hr; injection hr with h1 h2; subst h1; subst h2
              rw [hxe] at hxv; rw [hne] at hnv
              obtain ⟨L, k1, k2⟩ := ptr_inv hxv
              obtain ⟨g1, g2⟩ := row_inv hB
              have hlc : cs.length = i.toNat := (cut_some hcs).2.1
              obtain ⟨b1, b2⟩ := bytes_cells hl
              obtain ⟨hbase, arr, elm, lo, hi', harr, hrm, hlen2, hfz⟩ := h.rw b L B k1 g1 g2 hro
              obtain ⟨t0, c0, t1, t2⟩ := tyAt_shape (h.ty b L B k1 g1 (by rw [hty]; exact hel))
              rw [hty] at t2
              have hle : cs.length ≤ B.cells.length := by
                unfold cut at hcs
                split at hcs
                · injection hcs with hcs; subst hcs; simp only [List.length_take, List.length_drop]; omega
                · cases hcs
              obtain ⟨cs', q1, q2, q3⟩ := loads P h k1 hB hcs
              have hcell : ∀ (j : Nat) (x : UInt8), l[j]? = some x → ∃ n : Int, W.cell? ((⟨L.blk, 0, none⟩ : Addr).add j) = some (.int .u8 n) ∧ x = UInt8.ofNat n.toNat := by
                intro j y hy
                obtain ⟨nn, z1, z2⟩ := b2 j y hy
                obtain ⟨c, z3, z4⟩ := q2.get z1
                refine ⟨nn, ?_, z2⟩
                have := q3 j c z3
                rw [int_inv z4] at this
                have e : (⟨L.blk, 0, none⟩ : Addr).add j = ⟨L.blk, L.off + 0 + j, none⟩ := by
                  unfold Addr.add
                  by_cases hj : j = 0
                  · subst hj; simp [t0]
                  · simp [hj, t0]
                rw [e]; exact this
              have hll : l.length = i.toNat := by rw [← hlc, b1]
              have hlb := run_bytes (P := P) (W := W) l ⟨L.blk, 0, none⟩ .empty hcell
              rw [hll] at hlb
              have hlies := lies_bytes (P := P) hc1 (c0 / P.cellsOf el) i.toNat (by rw [hc1, Nat.div_one]; omega)
              let W' := W.freeze ⟨L.blk, 0, none⟩ i.toNat
              obtain ⟨lo', hi2, hw⟩ : ∃ lo' hi2, Wr W W' L.blk (.cells arr elm (lo', hi2)) := by
                refine ⟨if lo == hi' then 0 else min lo 0, if lo == hi' then 0 + i.toNat else max hi' (0 + i.toNat), ⟨by simp only [W', World.freeze]; rw [if_neg (by omega)], by simp only [W', World.freeze]; rw [if_neg (by omega)], by simp only [W', World.freeze]; rw [if_neg (by omega)], ?_, fun k hk => ?_, ?_⟩⟩
                · simp only [W', World.freeze]; rw [if_neg (by omega)]; simp
                · simp only [W', World.freeze]
                  rw [if_neg (by omega), Array.getElem?_modify, if_neg (fun e => hk e.symm)]
                · simp only [W', World.freeze]
                  rw [if_neg (by omega), Array.getElem?_modify, if_pos rfl, harr]
                  by_cases e : lo = hi'
                  · simp [e]
                  · simp [e]
              have hk := h.kill g1
              have hout : ∀ c L', m c = some L' → owned (H.set b (.row { B with live := false })) c → L'.blk ≠ L.blk := by
                intro c L' hc ho
                have hcb : c ≠ b := by
                  intro e; subst e
                  rcases ho with ⟨B', x1, x2, _⟩ | ⟨es', x1⟩ | ⟨R', x1, x3⟩
                  · rw [AHeap.get_set_same] at x1; injection x1 with x1; injection x1 with x1; subst x1; cases x2
                  · rw [AHeap.get_set_same] at x1; cases x1
                  · rw [AHeap.get_set_same] at x1; injection x1 with x1; subst x1; cases x3
                have ho' : owned H c := by
                  unfold owned at ho; rw [AHeap.get_set_ne _ _ _ _ hcb] at ho; exact ho
                exact h.inj c b L' L hc k1 ho' (.inl ⟨B, g1, g2, hro⟩) hcb
              have sr1 := hk.wrOther hw hbase (cells_obj harr rfl) hout
              refine ⟨.string ⟨l.toArray⟩, W', m, ?_, ⟨Inj.le_refl _, sr1, hw.bkc hbase harr, Nat.le_refl _, fun c hc hmc => ⟨hmc, ?_⟩⟩, .ofStr (by simp)⟩
              · rw [int_inv hnv, k2]
                have hoo : L.off + 0 = 0 := by omega
                rw [hoo]
                have hneg : ¬ i < 0 := by omega
                have h63' : ¬ 9223372036854775807 < i := by omega
                have hi0 : ¬ i = 0 := by omega
                have hdef : Builtin.unsafeString_ #[pt, it] ty #[.pointer (some ⟨L.blk, 0, none⟩), .int .i64 i] =
                  (do
                    let n ← asInt (.int .i64 i)
                    if n < 0 then runtimePanic (.error "unsafe.String: len out of range")
                    if n > IntKind.i64.max then unsupported (.unsafePointer "String: a length above the largest int")
                    if n = 0 then pure (.string .empty)
                    else if ← variablesAt ⟨L.blk, 0, none⟩ (← elemOf pt) n.toNat then do
                      let s ← loadBytes ⟨L.blk, 0, none⟩ .empty n.toNat
                      freeze ⟨L.blk, 0, none⟩ n.toNat
                      pure (.string s)
                    else unsupported (.unsafePointer "String: not so many bytes at ptr")) := rfl
                rw [hdef]
                simp [asInt, asIntOf, hmax, h63', hneg, hi0, variablesAt, t2, elemOf, run_underlying hp, hlies, hlb, W']
              · have hcb : c ≠ b := by intro e; subst e; rw [k1] at hmc; cases hmc
                rw [AHeap.get_set_ne _ _ _ _ hcb]
            · cases hr
          · cases hr
      · cases hr
  · cases hr
theorem sim_mapDel {ts : Array TypeId} {ty t kt el : TypeId} {M K : Operand} {mm k : Opd} {kk : Nat} {v : AV} {H' : AHeap} {cl : CallH} (h : SR P gl base m H W) (ht : ts[0]? = some t) (hU : P.underlying t = some (.map kt el)) (hkk : keyKindT P kt = some kk)
    (hm : copd gl M = some mm) (hk : copd gl K = some k) (hM : OpR gl m e ρ M) (hK : OpR gl m e ρ K) (hr : (EOp.mapDel kk mm k).run cl H e = some (v, H')) :
    ∃ c W' m', (Builtin.delete_ ts ty #[ρ M, ρ K]).run P W = .ok c W' ∧ Post P gl base m H W m' H' W' ∧ VR m' v c := by
  simp only [EOp.run] at hr
  have hmv := hM mm hm
  have hkv := hK k hk
  split at hr
  · rename_i b hme
    rw [hme] at hmv
    split at hr
    · rename_i es hes
      split at hr
      · cases hr
      · rename_i hkind
        have hkind : isKind kk (k.ev e) = true := by simpa using hkind
        obtain ⟨D, hD, hf⟩ := kind_fits hkk hkind
        generalize hρ : ρ M = c at hmv
        cases hmv with
        | map hb =>
          rename_i L
          obtain ⟨hbase, arr, clk, h1, h2, h3⟩ := h.mp _ _ _ hb hes
          have hck : (Instr.checkKey arr.isEmpty 10000 kt (ρ K)).run P W = .ok () W := key_ok _ kt hD hf hkv 9999
          have hg : (getObj L.blk).run P W = .ok (.map arr clk) W := by simp [getObj, Sem.run, h1]
          have hfs : ∀ r, findKey (k.ev e) es 0 = some r → _ := fun r hr => find_sim (D := D) hkv hf (es := es) (xs := arr.toList) (i := 0) (r := r) (by simpa using h2) (fun j a b E p q => h3 j a b E p (by simpa using q)) hr
          split at hr
          · cases hr
          · rename_i i w hfk
            injection hr with hr; injection hr with hr1 hr2; subst hr1; subst hr2
            rcases hfs _ hfk with ⟨h5, _⟩ | ⟨j, v', c, h5, _, h6, h7, E, h8, h9⟩
            · cases h5
            · injection h5 with h5; injection h5 with h5 h5'; subst h5; subst h5'
              have hE : arr[i]? = some E := by simpa using h8
              have hlt : i < arr.size := (Array.getElem?_eq_some_iff.1 hE).1
              obtain ⟨W', k1, k2⟩ := wr_setObj (P := P) (arr' := arr.eraseIdxIfInBounds i) (cl' := clk) h1
              have hel : (arr.eraseIdxIfInBounds i).toList = arr.toList.eraseIdx i := by unfold Array.eraseIdxIfInBounds; rw [dif_pos hlt]; simp
              have hlen : (es.eraseIdx i).length = (arr.eraseIdxIfInBounds i).size := by rw [← Array.length_toList, hel, List.length_eraseIdx, List.length_eraseIdx, h2, Array.length_toList]
              refine ⟨.tuple #[], W', m, ?_, ⟨Inj.le_refl _, h.writeMap hb hes k2 (es.eraseIdx i) hlen (fun i2 a b E2 p q => ?_), k2.bkm hbase h1, Nat.le_refl _, fun c hc hmc => ⟨hmc, AHeap.get_set_ne _ _ _ _ (fun e => by subst e; rw [hb] at hmc; cases hmc)⟩⟩, VR.undef m⟩
              · have hfk2 := run_findKey (P := P) (W := W) hD h6
                simp only [Builtin.delete_, ht, List.getElem?_toArray, List.getElem?_cons_zero, List.getElem?_cons_succ, Sem.run_bind, run_underlying hU, Result.andThen_ok, hg, hck, hfk2, Sem.run_pure, k1]
              · rw [← Array.getElem?_toList, hel, List.getElem?_eraseIdx] at q
                rw [List.getElem?_eraseIdx] at p
                by_cases hi2 : i2 < i
                · rw [if_pos hi2] at p q
                  exact h3 i2 a b E2 p (by simpa using q)
                · rw [if_neg hi2] at p q
                  exact h3 (i2 + 1) a b E2 p (by simpa using q)
          · rename_i hfk
            injection hr with hr; injection hr with hr1 hr2; subst hr1; subst hr2
            rcases hfs _ hfk with ⟨_, h6⟩ | ⟨j, v', c, h5, _⟩
            · obtain ⟨W', k1, k2⟩ := wr_setObj (P := P) (arr' := arr) (cl' := clk) h1
              refine ⟨.tuple #[], W', m, ?_, ⟨Inj.le_refl _, h.writeMap hb hes k2 es h2 h3, k2.bkm hbase h1, Nat.le_refl _, fun c hc hmc => ⟨hmc, AHeap.get_set_ne _ _ _ _ (fun e => by subst e; rw [hb] at hmc; cases hmc)⟩⟩, VR.undef m⟩
              have hfk2 := run_findKey (P := P) (W := W) hD h6
              simp only [Builtin.delete_, ht, List.getElem?_toArray, List.getElem?_cons_zero, List.getElem?_cons_succ, Sem.run_bind, run_underlying hU, Result.andThen_ok, hg, hck, hfk2, Sem.run_pure, k1]
            · cases h5
    · cases hr
  · rename_i hme
    rw [hme] at hmv
    split at hr
    · rename_i hkind
      injection hr with hr; injection hr with hr1 hr2; subst hr1; subst hr2
      obtain ⟨D, hD, hf⟩ := kind_fits hkk hkind
      have hck : (Instr.checkKey true 10000 kt (ρ K)).run P W = .ok () W := key_ok _ kt hD hf hkv 9999
      generalize hρ : ρ M = c at hmv
      cases hmv
      refine ⟨.tuple #[], W, m, ?_, Post.refl h, VR.undef m⟩
      simp only [Builtin.delete_, ht, List.getElem?_toArray, List.getElem?_cons_zero, List.getElem?_cons_succ, Sem.run_bind, run_underlying hU, Result.andThen_ok, hck, Sem.run_pure]
    · cases hr
  · cases hr
set_option maxHeartbeats 1000000 in
theorem csp_esim {cl : CallH} (h : SR P gl base m H W) {o : Oper} {x : EOp} {v : AV} {H' : AHeap} (hop : csp P gl o.op = some (.e x)) (hX : ∀ X ∈ o.op.operands.toList, OpR gl m e ρ X) (hr : x.run cl H e = some (v, H')) :
    ∃ c W' m', ((execOp ρ o).run P W = .ok (.value c) W' ∨ ((execOp ρ o).run P W = .ok .skip W' ∧ c = undef)) ∧ Post P gl base m H W m' H' W' ∧ VR m' v c := by
  have finV : ∀ (s : Sem Value), (∃ c W' m', s.run P W = .ok c W' ∧ Post P gl base m H W m' H' W' ∧ VR m' v c) →
      ∃ c W' m', ((do pure (Next.value (← s)) : Sem Next).run P W = .ok (.value c) W' ∨ ((do pure (Next.value (← s)) : Sem Next).run P W = .ok .skip W' ∧ c = undef)) ∧ Post P gl base m H W m' H' W' ∧ VR m' v c :=
    fun s ⟨c, W', m', h1, h2⟩ => ⟨c, W', m', .inl (by simp [h1]), h2⟩
  have hon := csp_on hop
  obtain ⟨dst, op, type, pos, after, guard⟩ := o
  simp only at hop hX
  simp only [csp, hon, Bool.not_true, Bool.false_eq_true, if_false] at hop
  split at hop
  · exfalso
    split at hop
    · cases hop
    · rw [Option.map_eq_some_iff] at hop; obtain ⟨_, _, hop⟩ := hop; cases hop
  · exfalso
    split at hop
    · cases hop
    · rw [Option.map_eq_some_iff] at hop; obtain ⟨_, _, hop⟩ := hop; cases hop
  · exfalso; repeat' (first | cases hop | split at hop)
  · exfalso; repeat' (first | cases hop | split at hop)
  · exfalso; repeat' (first | cases hop | split at hop)
  · rename_i c
    have hXa : ∀ X ∈ c.args.toList, OpR gl m e ρ X := fun X hx => hX X (by simp only [Op.operands, Call.operands, Array.toList_append, List.mem_append]; exact .inr hx)
    have harg2 : ∀ {X Y : Operand}, c.args.toList = [X, Y] → c.args.map ρ = #[ρ X, ρ Y] := fun hx => by apply Array.ext'; rw [Array.toList_map, hx]; rfl
    split at hop
    · exfalso
      split at hop
      · split at hop
        · rw [Option.map_eq_some_iff] at hop; obtain ⟨_, _, hop⟩ := hop; cases hop
        · cases hop
      · cases hop
    · exfalso
      rw [Option.map_eq_some_iff] at hop; obtain ⟨_, _, hop⟩ := hop; cases hop
    · rename_i pt it X N hcal hts hargs
      rw [Option.map_eq_some_iff] at hop
      obtain ⟨x', hs, hop⟩ := hop
      injection hop with hop; subst hop
      unfold cspStr at hs
      split at hs
      · rename_i el a b hp ha hb
        split at hs
        · rename_i hc1
          injection hs with hs; subst hs
          simp only [execOp]
          rw [builtin_run hcal, harg2 hargs]
          have hts' : c.argTypes = #[pt, it] := by apply Array.ext'; rw [hts]
          rw [hts']
          exact finV _ (sim_strUns h ha hb (hXa X (by rw [hargs]; simp)) (hXa N (by rw [hargs]; simp)) hp hc1 hr)
        · cases hs
      · cases hs
    · rename_i t0 t1 X Y hcal hts hargs
      rw [Option.map_eq_some_iff] at hop
      obtain ⟨x', hs, hop⟩ := hop
      injection hop with hop; subst hop
      unfold cspApp at hs
      split at hs
      · rename_i el U1 a b hU hU1 ha hb
        split at hs
        · rename_i hss
          unfold cspEl at hs
          split at hs
          · rename_i z k by_ hz hk hby hel
            split at hs
            · rename_i hzk
              injection hs with hs; subst hs
              simp only [execOp]
              rw [builtin_run hcal, harg2 hargs]
              have hts' : c.argTypes = #[t0, t1] := by apply Array.ext'; rw [hts]
              rw [hts']
              refine finV _ ?_
              have hxv := hXa X (by rw [hargs]; simp) _ ha
              have hyv := hXa Y (by rw [hargs]; simp) _ hb
              obtain ⟨inf, hin, hsz⟩ := size_inv hk
              have hby' : inf.bytes = by_ := by unfold bytesT at hby; rw [hin] at hby; injection hby
              obtain ⟨i2, zv, hi2, hzv, hzl⟩ := zero_inv (m := m) hz
              rw [hin] at hi2; injection hi2 with hi2; subst hi2
              simp only [EOp.run] at hr
              split at hr
              · rename_i n cs hsc
                split at hr
                · cases hr
                · rename_i hcond
                  obtain ⟨cs', k1, k2, k3, k4⟩ := srcCells_sim (P := P) h hyv hsc
                  have g1 : k ≠ 0 := fun hh => hcond (.inl hh)
                  have g2 : by_ ≠ 0 := fun hh => hcond (.inr (.inl hh))
                  have g3 : cs.all AV.one = true := by
                    cases hq : cs.all AV.one with
                    | true => rfl
                    | false => exact absurd (.inr (.inr (by simp [hq]))) hcond
                  refine append_sim h (t0 := t0) (t1 := t1) (by simp) (by simp) hU hU1 (fun kk hkk => by subst hkk; simp [isSS] at hss) hin hsz hby' hzv ?_ g1 g2 g3 hxv k1 k2 k3 (fun W2 hW2 => ?_) (.inr rfl) hr
                  · have := hzl.1; simp at this; omega
                  · have := k4 n (Nat.le_refl _) W2 hW2
                    rw [← k2, List.take_length] at this
                    exact this
              · cases hr
            · cases hs
          · cases hs
        · cases hs
      · cases hs
    · rename_i t0 t1 X Y hcal hts hargs
      rw [Option.map_eq_some_iff] at hop
      obtain ⟨x', hs, hop⟩ := hop
      injection hop with hop; subst hop
      unfold cspDel at hs
      split at hs
      · rename_i kt el a b hU ha hb
        rw [Option.map_eq_some_iff] at hs
        obtain ⟨kk, hkk, hs⟩ := hs
        subst hs
        simp only [execOp]
        rw [builtin_run hcal, harg2 hargs]
        have hts' : c.argTypes = #[t0, t1] := by apply Array.ext'; rw [hts]
        rw [hts']
        exact finV _ (sim_mapDel h (by simp) hU hkk ha hb (hXa X (by rw [hargs]; simp)) (hXa Y (by rw [hargs]; simp)) hr)
      · cases hs
    · cases hop
  · cases hop
theorem csp_calls {op : Op} {x : EOp} (hop : csp P gl op = some (.e x)) : x.calls = false := by
  have hon := csp_on hop
  simp only [csp, hon, Bool.not_true, Bool.false_eq_true, if_false] at hop
  split at hop
  · exfalso
    split at hop
    · cases hop
    · rw [Option.map_eq_some_iff] at hop; obtain ⟨_, _, hop⟩ := hop; cases hop
  · exfalso
    split at hop
    · cases hop
    · rw [Option.map_eq_some_iff] at hop; obtain ⟨_, _, hop⟩ := hop; cases hop
  · exfalso; repeat' (first | cases hop | split at hop)
  · exfalso; repeat' (first | cases hop | split at hop)
  · exfalso; repeat' (first | cases hop | split at hop)
  · rename_i c
    split at hop
    · exfalso
      split at hop
      · split at hop
        · rw [Option.map_eq_some_iff] at hop; obtain ⟨_, _, hop⟩ := hop; cases hop
        · cases hop
      · cases hop
    · exfalso
      rw [Option.map_eq_some_iff] at hop; obtain ⟨_, _, hop⟩ := hop; cases hop
    · rw [Option.map_eq_some_iff] at hop
      obtain ⟨x', hs, hop⟩ := hop
      injection hop with hop; subst hop
      unfold cspStr at hs
      split at hs
      · split at hs
        · injection hs with hs; subst hs; rfl
        · cases hs
      · cases hs
    · rw [Option.map_eq_some_iff] at hop
      obtain ⟨x', hs, hop⟩ := hop
      injection hop with hop; subst hop
      unfold cspApp at hs
      split at hs
      · split at hs
        · unfold cspEl at hs
          split at hs
          · split at hs
            · injection hs with hs; subst hs; rfl
            · cases hs
          · cases hs
        · cases hs
      · cases hs
    · rw [Option.map_eq_some_iff] at hop
      obtain ⟨x', hs, hop⟩ := hop
      injection hop with hop; subst hop
      unfold cspDel at hs
      split at hs
      · rw [Option.map_eq_some_iff] at hs
        obtain ⟨kk, hkk, hs⟩ := hs
        subst hs; rfl
      · cases hs
    · cases hop
  · cases hop

/-! ### Walks through texts -/
theorem crng_r {op : Op} {r : ROp} (hop : crng P gl op = some (.r r)) : False := by
  unfold crng at hop
  split at hop
  · cases hop
  · split at hop
    · split at hop <;> cases hop
    · rw [Option.map_eq_some_iff] at hop; obtain ⟨_, _, hop⟩ := hop; cases hop
    · cases hop
theorem crng_asim (h : SR P gl base m H W) {o : Oper} {x : LOp} {obj : AObj} {k : AKind} {b : Nat} (hop : crng P gl o.op = some (.a x)) (hX : ∀ X ∈ o.op.operands.toList, OpR gl m e ρ X) (hr : x.run e = some (obj, k)) (hB : H.get b = some obj) (hb : m b = none) :
    ∃ c W' L, (execOp ρ o).run P W = .ok (.value c) W' ∧ SR P gl base (m.upd b L) H W' ∧ VR (m.upd b L) (k.val b) c ∧ BK base W W' := by
  obtain ⟨dst, op, type, pos, after, guard⟩ := o
  simp only at hop hX
  unfold crng at hop
  split at hop
  · cases hop
  · split at hop
    · rename_i t X
      simp only [Op.operands] at hX
      split at hop
      · rename_i a hU ha
        injection hop with hop; injection hop with hop; subst hop
        obtain ⟨c, W', L, h1, h2⟩ := sim_rng h hU ha (hX X (by simp)) hr hB hb
        exact ⟨c, W', L, by simp [execOp, h1], h2⟩
      · cases hop
    · rw [Option.map_eq_some_iff] at hop; obtain ⟨_, _, hop⟩ := hop; cases hop
    · cases hop
theorem crng_esim {cl : CallH} (h : SR P gl base m H W) {o : Oper} {x : EOp} {v : AV} {H' : AHeap} (hop : crng P gl o.op = some (.e x)) (hX : ∀ X ∈ o.op.operands.toList, OpR gl m e ρ X) (hr : x.run cl H e = some (v, H')) :
    ∃ c W' m', ((execOp ρ o).run P W = .ok (.value c) W' ∨ ((execOp ρ o).run P W = .ok .skip W' ∧ c = undef)) ∧ Post P gl base m H W m' H' W' ∧ VR m' v c := by
  obtain ⟨dst, op, type, pos, after, guard⟩ := o
  simp only at hop hX
  unfold crng at hop
  split at hop
  · cases hop
  · split at hop
    · split at hop <;> cases hop
    · rename_i X
      simp only [Op.operands] at hX
      rw [Option.map_eq_some_iff] at hop
      obtain ⟨a, ha, hop⟩ := hop
      injection hop with hop; subst hop
      obtain ⟨c, W', m', h1, h2⟩ := sim_nxt (ty := type) h ha (hX X (by simp)) hr
      exact ⟨c, W', m', .inl (by simp [execOp, h1]), h2⟩
    · cases hop
theorem crng_calls {op : Op} {x : EOp} (hop : crng P gl op = some (.e x)) : x.calls = false := by
  unfold crng at hop
  split at hop
  · cases hop
  · split at hop
    · split at hop <;> cases hop
    · rw [Option.map_eq_some_iff] at hop
      obtain ⟨a, ha, hop⟩ := hop
      injection hop with hop; subst hop; rfl
    · cases hop
/-! ### Both together -/
theorem rsim (h : SR P gl base m H W) {o : Oper} {r : ROp} {v : AV} (hop : cop P gl o.op = some (.r r)) (hX : ∀ X ∈ o.op.operands.toList, OpR gl m e ρ X) (hr : r.run H e = some v) :
    ∃ c, (execOp ρ o).run P W = .ok (.value c) W ∧ VR m v c := by
  unfold cop at hop
  split at hop
  · rename_i a ha; injection hop with hop; subst hop; exact (crng_r ha).elim
  · split at hop
    · rename_i a ha; injection hop with hop; subst hop; exact csp_rsim h ha hX hr
    · exact rsim0 h hop hX hr
theorem asim (h : SR P gl base m H W) {o : Oper} {x : LOp} {obj : AObj} {k : AKind} {b : Nat} (hop : cop P gl o.op = some (.a x)) (hX : ∀ X ∈ o.op.operands.toList, OpR gl m e ρ X) (hr : x.run e = some (obj, k)) (hB : H.get b = some obj) (hb : m b = none) :
    ∃ c W' L, (execOp ρ o).run P W = .ok (.value c) W' ∧ SR P gl base (m.upd b L) H W' ∧ VR (m.upd b L) (k.val b) c ∧ BK base W W' := by
  unfold cop at hop
  split at hop
  · rename_i a ha; injection hop with hop; subst hop; exact crng_asim h ha hX hr hB hb
  · split at hop
    · rename_i a ha; injection hop with hop; subst hop; exact csp_asim h ha hX hr hB hb
    · exact asim0 h hop hX hr hB hb
theorem esim {cl : CallH} (h : SR P gl base m H W) {o : Oper} {x : EOp} {v : AV} {H' : AHeap} (hop : cop P gl o.op = some (.e x)) (hX : ∀ X ∈ o.op.operands.toList, OpR gl m e ρ X) (hnc : x.calls = false) (hr : x.run cl H e = some (v, H')) :
    ∃ c W' m', ((execOp ρ o).run P W = .ok (.value c) W' ∨ ((execOp ρ o).run P W = .ok .skip W' ∧ c = undef)) ∧ Post P gl base m H W m' H' W' ∧ VR m' v c := by
  unfold cop at hop
  split at hop
  · rename_i a ha; injection hop with hop; subst hop; exact crng_esim h ha hX hr
  · split at hop
    · rename_i a ha; injection hop with hop; subst hop; exact csp_esim h ha hX hr
    · exact esim0 h hop hX hnc hr
theorem cop_call {op : Op} {x : EOp} (hop : cop P gl op = some (.e x)) (hcx : x.calls = true) : ∃ c, op = .call c ∧ ccall P gl c = some (.e x) ∧ ∀ b, c.callee ≠ .builtin b := by
  unfold cop at hop
  split at hop
  · rename_i a ha; injection hop with hop; subst hop
    rw [crng_calls ha] at hcx; cases hcx
  · split at hop
    · rename_i a ha; injection hop with hop; subst hop
      rw [csp_calls ha] at hcx; cases hcx
    · exact cop0_call hop hcx
end Go.Proofs.YtdkpmlhbofgfdaaGreatDoor.AM
