/-
  Operations that write, all but calls.
-/
import Derived.Test.YtcfjjeipdacbcaaDoorAmE2
set_option linter.unusedSimpArgs false
set_option linter.unusedVariables false
namespace Go.Proofs.YtcfjjeipdacbcaaDoor.AM
open Go Go.RowKit

variable {base : Nat} {m : Inj} {H : AHeap} {W : World} {P : Program} {gl : List Nat} {e : Env} {ρ : Operand → Value}

theorem eI {a : AOp} {r : EOp} (h : (pure a : Option AOp) = some (.e r)) : a = .e r := by injection h
/-- what an operation that writes does -/
def EGoal (P : Program) (base : Nat) (m : Inj) (H : AHeap) (W : World) (v : AV) (H' : AHeap) (s : Sem Next) : Prop :=
  ∃ c W' m', (s.run P W = .ok (.value c) W' ∨ (s.run P W = .ok .skip W' ∧ c = undef)) ∧ Post P gl base m H W m' H' W' ∧ VR m' v c

theorem sim_store {t : TypeId} {A X : Operand} {a x : Opd} {n : Nat} {v : AV} {H' : AHeap} {cl : CallH} (h : SR P gl base m H W) (ha : copd gl A = some a) (hx : copd gl X = some x) (hA : OpR gl m e ρ A) (hX : OpR gl m e ρ X) (hn : sizeT P t = some n)
    (hr : (EOp.store n a x).run cl H e = some (v, H')) : ∃ W' m', (Instr.storeAt t (ρ A) (ρ X)).run P W = .ok () W' ∧ Post P gl base m H W m' H' W' ∧ v = .undef := by
  simp only [EOp.run] at hr
  split at hr
  · rename_i b o hae
    split at hr
    · rename_i hl
      split at hr
      · rename_i H2 hst
        injection hr with hr; injection hr with hr1 hr2; subst hr1; subst hr2
        have hav := hA a ha
        rw [hae] at hav
        obtain ⟨L, h1, h2⟩ := ptr_inv hav
        have hxv := hX x hx
        obtain ⟨W', k1, k2, k3, k4, k5⟩ := h.store P h1 hst hxv.cells
        obtain ⟨inf, hin, hsz⟩ := size_inv hn
        refine ⟨W', m, ?_, ⟨Inj.le_refl _, k2, k3, by omega, fun c hc hm => ⟨hm, k5 c (fun e => by subst e; rw [h1] at hm; cases hm)⟩⟩, rfl⟩
        rw [h2]
        have hs : (ρ X).cells.size = inf.size := by rw [hsz, ← hl]; exact (cells_len hxv).symm
        simp only [Instr.storeAt, Instr.sureAddr, Sem.run_bind, Sem.run_pure, Result.andThen_ok, storeVar, run_sizeOf hin, hs, ne_eq, not_true_eq_false, if_false]
        exact k1
      · cases hr
    · cases hr
  · cases hr
def srcLike : AV → Bool
  | .nils | .str _ | .slc _ _ _ _ => true
  | _ => false
theorem first_zero (P : Program) (W : World) (es : Nat) {x : AV} {c : Value} (hx : VR m x c) (hk : srcLike x = true) : (∃ n, (Builtin.lenOf c).run P W = .ok n W) ∧ (Builtin.firstCells es 0 c).run P W = .ok #[] W := by
  cases x <;> simp only [srcLike, reduceCtorEq] at hk
  · obtain ⟨s, rfl, _⟩ := str_inv hx
    exact ⟨⟨s.size, by simp [Builtin.lenOf]⟩, by simp [Builtin.firstCells]⟩
  · cases hx
    exact ⟨⟨0, rfl⟩, rfl⟩
  · obtain ⟨L, a, cap', g1, g2, g3, g4, g5⟩ := slc_inv hx
    rw [g2]
    exact ⟨⟨_, rfl⟩, by simp [Builtin.firstCells, loadCells, loadCellsFrom]⟩
theorem sim_copy {ts : Array TypeId} {t0 ty el : TypeId} {D S : Operand} {d s : Opd} {es : Nat} {v : AV} {H' : AHeap} {cl : CallH} (h : SR P gl base m H W) (hd : copd gl D = some d) (hs : copd gl S = some s) (hD : OpR gl m e ρ D) (hS : OpR gl m e ρ S)
    (ht0 : ts[0]? = some t0) (hU : P.underlying t0 = some (.slice el)) (hn : sizeT P el = some es) (hr : (EOp.copy es d s).run cl H e = some (v, H')) :
    ∃ c W' m', (Builtin.copy_ ts ty #[ρ D, ρ S]).run P W = .ok c W' ∧ Post P gl base m H W m' H' W' ∧ VR m' v c := by
  obtain ⟨inf, hin, hsz⟩ := size_inv hn
  simp only [EOp.run] at hr
  have hdv := hD d hd
  have hsv := hS s hs
  have common : ∀ (bs : Option Addr) (dl dc n : Nat) (cells : List Value), (Builtin.lenOf (ρ S)).run P W = .ok n W → (Builtin.firstCells es (Nat.min n dl) (ρ S)).run P W = .ok cells.toArray W → ∀ W', (match bs with | some a => (storeCells a cells).run P W = .ok () W' | none => W' = W) →
      (Builtin.copy_ ts ty #[.slice bs dl dc, ρ S]).run P W = .ok (goInt (Nat.min n dl : Nat)) W' := by
    intro bs dl dc n cells h1 h2 W' h3
    cases bs with
    | none => simp only at h3; subst h3; simp only [Builtin.copy_, List.getElem?_toArray, ht0, List.getElem?_cons_zero, List.getElem?_cons_succ, Sem.run_bind, run_underlying hU, Result.andThen_ok, h1, run_sizeOf hin, hsz, h2, Sem.run_pure]
    | some a => simp only at h3; simp only [Builtin.copy_, List.getElem?_toArray, ht0, List.getElem?_cons_zero, List.getElem?_cons_succ, Sem.run_bind, run_underlying hU, Result.andThen_ok, h1, run_sizeOf hin, hsz, h2, Sem.run_pure, h3]
  split at hr
  · rename_i hde
    rw [hde] at hdv
    generalize ρ D = dv at hdv
    cases hdv
    have hk : srcLike (s.ev e) = true ∧ v = .int .i64 0 ∧ H' = H := by
      generalize s.ev e = q at hr
      cases q <;> first | (injection hr with hr; injection hr with hr1 hr2; exact ⟨rfl, hr1.symm, hr2.symm⟩) | cases hr
    obtain ⟨hk1, rfl, rfl⟩ := hk
    obtain ⟨⟨n, h1⟩, h2⟩ := first_zero P W es hsv hk1
    refine ⟨goInt (Nat.min n 0 : Nat), W, m, common none 0 0 n [] h1 (by rw [show Nat.min n 0 = 0 from Nat.min_zero n]; exact h2) W rfl, Post.refl h, ?_⟩
    rw [show Nat.min n 0 = 0 from Nat.min_zero n]
    exact .int _ _
  · rename_i b o len cap hde
    rw [hde] at hdv
    obtain ⟨L, a, cap', g1, g2, g3, g4, g5⟩ := slc_inv hdv
    rw [g2]
    split at hr
    · rename_i n cs hsc
      obtain ⟨cs', k1, k2, k3, k4⟩ := srcCells_sim (P := P) h hsv hsc
      have hmin : Nat.min n len = min n len := rfl
      split at hr
      · rename_i h0
        injection hr with hr; injection hr with hr1 hr2; subst hr1; subst hr2
        refine ⟨goInt (Nat.min n len : Nat), W, m, common (some a) len cap' n [] (k1 W) (by have := k4 0 (Nat.zero_le _) W (fun _ => rfl); rw [hmin, h0]; simpa using this) W rfl, Post.refl h, ?_⟩
        rw [hmin, h0]; exact .int _ _
      · rename_i h0
        split at hr
        · rename_i H2 hst
          injection hr with hr; injection hr with hr1 hr2; subst hr1; subst hr2
          obtain ⟨W', q1, q2, q3, q4, q5⟩ := h.store P g1 hst (k3.take (min n len * es))
          have hpos : 0 < cap' := by rcases g4 with g4 | g4 <;> omega
          refine ⟨goInt (Nat.min n len : Nat), W', m, common (some a) len cap' n _ (k1 W) (k4 (min n len) (Nat.min_le_left _ _) W (fun _ => rfl)) W' (by rw [g5 hpos]; exact q1), ⟨Inj.le_refl _, q2, q3, by omega, fun c hc hm => ⟨hm, q5 c (fun e => by subst e; rw [g1] at hm; cases hm)⟩⟩, ?_⟩
          rw [hmin]; exact .int _ _
        · cases hr
    · cases hr
  · cases hr
theorem wr_setObj {r : Nat} {arr arr' : Array MapEntry} {cl cl' : Nat} (h : W.heap[r]? = some (.map arr cl)) :
    ∃ W', (setObj r (.map arr' cl')).run P W = .ok () W' ∧ Wr W W' r (.map arr' cl') := by
  have hlt : r < W.heap.size := (Array.getElem?_eq_some_iff.1 h).1
  refine ⟨{ W with heap := W.heap.setIfInBounds r (.map arr' cl') }, by simp [setObj, Sem.run, h], ⟨rfl, rfl, rfl, by simp, fun k hk => ?_, by simp [hlt]⟩⟩
  exact Array.getElem?_setIfInBounds_ne (by omega)
theorem sim_clear {ts : Array TypeId} {t0 ty : TypeId} {U : TypeDesc} {S : Operand} {s : Opd} {z : List AV} {v : AV} {H' : AHeap} {cl : CallH} (h : SR P gl base m H W) (hs : copd gl S = some s) (hS : OpR gl m e ρ S)
    (ht0 : ts[0]? = some t0) (hU : P.underlying t0 = some U) (hz : (∃ el, U = .slice el ∧ zeroT P el = some z) ∨ z = []) (hr : (EOp.clear z s).run cl H e = some (v, H')) :
    ∃ c W' m', (Builtin.clear_ ts ty #[ρ S]).run P W = .ok c W' ∧ Post P gl base m H W m' H' W' ∧ VR m' v c := by
  simp only [EOp.run] at hr
  have hsv := hS s hs
  split at hr
  · rename_i hse; rw [hse] at hsv; injection hr with hr; injection hr with hr1 hr2; subst hr1; subst hr2
    generalize ρ S = c at hsv; cases hsv
    exact ⟨.tuple #[], W, m, by simp [Builtin.clear_, ht0, run_underlying hU], Post.refl h, VR.undef m⟩
  · rename_i hse; rw [hse] at hsv; injection hr with hr; injection hr with hr1 hr2; subst hr1; subst hr2
    generalize ρ S = c at hsv; cases hsv
    exact ⟨.tuple #[], W, m, by simp [Builtin.clear_, ht0, run_underlying hU], Post.refl h, VR.undef m⟩
  · rename_i b hse
    rw [hse] at hsv
    split at hr
    · rename_i es hes
      injection hr with hr; injection hr with hr1 hr2; subst hr1; subst hr2
      generalize ρ S = c at hsv
      cases hsv with
      | map hb =>
        obtain ⟨hbase, arr, clk, h1, h2, h3⟩ := h.mp _ _ _ hb hes
        obtain ⟨W', k1, k2⟩ := wr_setObj (P := P) (arr' := #[]) (cl' := clk) h1
        refine ⟨.tuple #[], W', m, ?_, ⟨Inj.le_refl _, h.writeMap hb hes k2 [] rfl (fun i k v E a b => by simp at a), k2.bkm hbase h1, Nat.le_refl _, fun c hc hm => ⟨hm, AHeap.get_set_ne _ _ _ _ (fun e => by subst e; rw [hb] at hm; cases hm)⟩⟩, VR.undef m⟩
        have hg : ∀ r, (getObj r).run P W = (match W.heap[r]? with | some (.cells _ _ _) => .halt (.stuck "getObj: a row of cells") W | some o => .ok o W | none => .halt (.stuck "getObj: no such block") W) := by
          intro r; simp only [getObj, Sem.run]; rfl
        cases U <;> simp [Builtin.clear_, ht0, run_underlying hU, hg, h1, k1]
    · cases hr
  · rename_i b o len cap hse
    rw [hse] at hsv
    obtain ⟨L, a, cap', g1, g2, g3, g4, g5⟩ := slc_inv hsv
    rw [g2]
    split at hr
    · rename_i h0
      subst h0
      injection hr with hr; injection hr with hr1 hr2; subst hr1; subst hr2
      exact ⟨.tuple #[], W, m, by simp [Builtin.clear_, ht0, run_underlying hU], Post.refl h, VR.undef m⟩
    · rename_i h0
      split at hr
      · cases hr
      · rename_i hz0
        split at hr
        · rename_i H2 hst
          injection hr with hr; injection hr with hr1 hr2; subst hr1; subst hr2
          rcases hz with ⟨el, rfl, hz⟩ | rfl
          · obtain ⟨i, zv, hi, hzv, hzl⟩ := zero_inv (m := m) hz
            have hlz : z.length = zv.cells.size := by simpa using hzl.1
            have hzz := zeros_lr hzl (len * z.length) (by omega)
            obtain ⟨W', q1, q2, q3, q4, q5⟩ := h.store P g1 hst hzz
            have hpos : 0 < cap' := by rcases g4 with g4 | g4 <;> omega
            refine ⟨.tuple #[], W', m, ?_, ⟨Inj.le_refl _, q2, q3, by omega, fun c hc hm => ⟨hm, q5 c (fun e => by subst e; rw [g1] at hm; cases hm)⟩⟩, VR.undef m⟩
            have e1 : (Builtin.zeroCells zv.cells len).toList = ((Array.range (len * z.length)).map (zv.cells[· % zv.cells.size]!)).toList := by rw [hlz]; rfl
            have q1' : (storeCells a (Builtin.zeroCells zv.cells len).toList).run P W = .ok () W' := by rw [e1, g5 hpos]; exact q1
            simp only [Builtin.clear_, List.getElem?_toArray, ht0, List.getElem?_cons_zero, Sem.run_bind, run_underlying hU, Result.andThen_ok]
            cases len with
            | zero => omega
            | succ l => simp only [Sem.run_bind, run_zero hi hzv, Result.andThen_ok, q1', Sem.run_pure]
          · simp at hz0
        · cases hr
  · cases hr
theorem sameBits_of {D : TypeDesc} {q : AV} {a b : Value} (ha : VR m q a) (hb : VR m q b) (hf : kindFits D q) : Instr.sameBits 10000 a b = true := by
  cases q <;> cases D <;> simp only [kindFits] at hf
  · rw [bool_inv ha, bool_inv hb]; simp [Instr.sameBits]
  · rw [int_inv ha, int_inv hb]; simp [Instr.sameBits]
  · obtain ⟨s, rfl, h1⟩ := str_inv ha
    obtain ⟨s', rfl, h2⟩ := str_inv hb
    have : s = s' := by
      obtain ⟨⟨l⟩⟩ := s
      obtain ⟨⟨l'⟩⟩ := s'
      simp only at h1 h2
      rw [h1, h2]
    subst this
    simp [Instr.sameBits, beq_toListBytes]
theorem sim_mapUpd {t kt el : TypeId} {M K X : Operand} {mm k x : Opd} {kk : Nat} {v : AV} {H' : AHeap} {cl : CallH} (h : SR P gl base m H W) (hU : P.underlying t = some (.map kt el)) (hkk : keyKindT P kt = some kk)
    (hm : copd gl M = some mm) (hk : copd gl K = some k) (hx : copd gl X = some x) (hM : OpR gl m e ρ M) (hK : OpR gl m e ρ K) (hX : OpR gl m e ρ X) (hr : (EOp.mapUpd kk mm k x).run cl H e = some (v, H')) :
    ∃ W' m', (Instr.mapUpdate t (ρ M) (ρ K) (ρ X)).run P W = .ok () W' ∧ Post P gl base m H W m' H' W' ∧ v = .undef := by
  simp only [EOp.run] at hr
  have hmv := hM mm hm
  have hkv := hK k hk
  have hxv := hX x hx
  split at hr
  · rename_i b hme
    rw [hme] at hmv
    split at hr
    · rename_i es hes
      split at hr
      · cases hr
      · rename_i hkind
        have hkind : isKind kk (k.ev e) = true := by simpa using hkind
        obtain ⟨D, hD, hf⟩ := kind_fits hkk hkind
        generalize hρ : ρ M = c at hmv
        cases hmv with
        | map hb =>
          rename_i L
          obtain ⟨hbase, arr, clk, h1, h2, h3⟩ := h.mp _ _ _ hb hes
          have hck : (Instr.checkKey false 10000 kt (ρ K)).run P W = .ok () W := key_ok _ kt hD hf hkv 9999
          have hg : (getObj L.blk).run P W = .ok (.map arr clk) W := by simp [getObj, Sem.run, h1]
          have hfs : ∀ r, findKey (k.ev e) es 0 = some r → _ := fun r hr => find_sim (D := D) hkv hf (es := es) (xs := arr.toList) (i := 0) (r := r) (by simpa using h2) (fun j a b E p q => h3 j a b E p (by simpa using q)) hr
          split at hr
          · cases hr
          · rename_i i w hfk
            injection hr with hr; injection hr with hr1 hr2; subst hr1; subst hr2
            rcases hfs _ hfk with ⟨h5, _⟩ | ⟨j, v', c, h5, _, h6, h7, E, h8, h9⟩
            · cases h5
            · injection h5 with h5; injection h5 with h5 h5'; subst h5; subst h5'
              have hE : arr[i]? = some E := by simpa using h8
              obtain ⟨W', k1, k2⟩ := wr_setObj (P := P) (arr' := arr.modify i fun e => { e with key := ρ K, val := ρ X }) (cl' := clk) h1
              have hsame : Instr.sameBits 10000 E.key (ρ K) = true := sameBits_of h9 hkv hf
              refine ⟨W', m, ?_, ⟨Inj.le_refl _, h.writeMap hb hes k2 (es.set i (k.ev e, x.ev e)) (by simpa using h2) (fun i2 a b E2 p q => ?_), k2.bkm hbase h1, Nat.le_refl _, fun c hc hmc => ⟨hmc, AHeap.get_set_ne _ _ _ _ (fun e => by subst e; rw [hb] at hmc; cases hmc)⟩⟩, rfl⟩
              · have hfk2 := run_findKey (P := P) (W := W) hD h6
                simp only [Instr.mapUpdate, Sem.run_bind, run_underlying hU, Result.andThen_ok, hg, hck, hfk2, Instr.keyThatStays, hE, Option.map_some, Option.getD_some, hsame, if_true, Sem.run_pure, k1]
              · rw [List.getElem?_set] at p
                rw [Array.getElem?_modify] at q
                by_cases hi2 : i = i2
                · subst hi2
                  simp only [if_true] at p q
                  split at p
                  · injection p with p; injection p with p1 p2; subst p1; subst p2
                    rw [hE] at q; injection q with q; subst q
                    exact ⟨hkv, hxv⟩
                  · cases p
                · rw [if_neg hi2] at p q
                  exact h3 i2 a b E2 p q
          · rename_i hfk
            injection hr with hr; injection hr with hr1 hr2; subst hr1; subst hr2
            rcases hfs _ hfk with ⟨_, h6⟩ | ⟨j, v', c, h5, _⟩
            · obtain ⟨W', k1, k2⟩ := wr_setObj (P := P) (arr' := arr.push { key := ρ K, val := ρ X, born := clk }) (cl' := clk + 1) h1
              refine ⟨W', m, ?_, ⟨Inj.le_refl _, h.writeMap hb hes k2 (es ++ [(k.ev e, x.ev e)]) (by simp [h2]) (fun i2 a b E2 p q => ?_), k2.bkm hbase h1, Nat.le_refl _, fun c hc hmc => ⟨hmc, AHeap.get_set_ne _ _ _ _ (fun e => by subst e; rw [hb] at hmc; cases hmc)⟩⟩, rfl⟩
              · have hfk2 := run_findKey (P := P) (W := W) hD h6
                simp only [Instr.mapUpdate, Sem.run_bind, run_underlying hU, Result.andThen_ok, hg, hck, hfk2, k1]
              · rw [Array.getElem?_push] at q
                by_cases hi2 : i2 = arr.size
                · rw [if_pos hi2] at q
                  injection q with q; subst q
                  rw [hi2, ← h2, List.getElem?_append_right (Nat.le_refl _)] at p
                  simp at p
                  obtain ⟨rfl, rfl⟩ := p
                  exact ⟨hkv, hxv⟩
                · rw [if_neg hi2] at q
                  have hlt : i2 < arr.size := (Array.getElem?_eq_some_iff.1 q).1
                  rw [List.getElem?_append_left (by omega)] at p
                  exact h3 i2 a b E2 p q
            · cases h5
    · cases hr
  · cases hr
end Go.Proofs.YtcfjjeipdacbcaaDoor.AM
