/-
  Operations that make no memory and write none: what the model answers where the abstract machine answers, in one theorem.
-/
import Derived.Test.YtcfjjeipdacbcaaDoorAmR5
import Derived.Laws.Tables
set_option linter.unusedSimpArgs false
set_option linter.unusedVariables false
namespace Go.Proofs.YtcfjjeipdacbcaaDoor.AM
open Go Go.RowKit

variable {base : Nat} {m : Inj} {H : AHeap} {W : World} {P : Program} {gl : List Nat} {e : Env} {ρ : Operand → Value}

theorem sim_lookup {t kt el : TypeId} {X K : Operand} {x k : Opd} {kk : Nat} {z : List AV} {zg ok : Bool} {v : AV} (h : SR P gl base m H W) (hU : P.underlying t = some (.map kt el)) (hkk : keyKindT P kt = some kk)
    (hz : zeroT P el = some z) (hzg : zeroAgg P el = some zg) (hx : copd gl X = some x) (hk : copd gl K = some k) (hX : OpR gl m e ρ X) (hK : OpR gl m e ρ K) (hr : (ROp.lookup kk z zg x k ok).run H e = some v) :
    ∃ c, (Instr.lookup t (ρ X) (ρ K) ok).run P W = .ok c W ∧ VR m v c := by
  simp only [ROp.run] at hr
  split at hr
  · cases hr
  · rename_i hkind
    have hkind : isKind kk (k.ev e) = true := by simpa using hkind
    obtain ⟨D, hD, hf⟩ := kind_fits hkk hkind
    have hxv := hX x hx
    have hkv := hK k hk
    obtain ⟨i, zv, hi, hzv, hzl⟩ := zero_inv (m := m) hz
    have hzvr : VR m (if zg then .agg z else z.headD .undef) zv := by
      unfold zeroAgg at hzg
      rw [hi] at hzg
      simp only [Option.bind_some, hzv, Option.map_some, Option.some.injEq] at hzg
      cases zv <;> simp only at hzg <;> subst hzg <;> first
        | (exact VR.agg' hzl)
        | (simp only [Bool.false_eq_true, if_false]
           have h0 : LR m z [_] := hzl
           have := h0.getD 0
           cases z with
           | nil => have := h0.1; simp at this
           | cons a l => simpa using this)
    have hes : ∃ (es : List (AV × AV)) (xs : List MapEntry), mapOf H (x.ev e) = some es ∧ es.length = xs.length ∧
        (∀ (j : Nat) (a b : AV) (E : MapEntry), es[j]? = some (a, b) → xs[j]? = some E → VR m a E.key ∧ VR m b E.val) ∧
        ((ρ X = .map none ∧ xs = []) ∨ ∃ r cl, ρ X = .map (some r) ∧ W.heap[r]? = some (.map xs.toArray cl)) := by
      generalize x.ev e = a at hr hxv
      generalize ρ X = c at hxv
      split at hr
      · cases hr
      · rename_i es hes
        unfold mapOf at hes
        split at hes
        · injection hes with hes; subst hes
          cases hxv
          exact ⟨[], [], rfl, rfl, fun j a b E hh => by simp at hh, .inl ⟨rfl, rfl⟩⟩
        · rename_i b
          split at hes
          · rename_i es' hH
            injection hes with hes; subst hes
            cases hxv with
            | map hb =>
              obtain ⟨_, arr, cl, h1, h2, h3⟩ := h.mp _ _ _ hb hH
              exact ⟨es', arr.toList, by simp [mapOf, hH], by simpa using h2, fun j a b E p q => h3 j a b E p (by simpa using q), .inr ⟨_, cl, rfl, by simpa using h1⟩⟩
          · cases hes
        · cases hes
    obtain ⟨es, xs, g1, g2, g3, g4⟩ := hes
    rw [g1] at hr
    simp only at hr
    split at hr
    · cases hr
    · rename_i r hfk
      have key : ∃ w f cw, hit (if zg then AV.agg z else z.headD .undef) r = (w, f) ∧ VR m w cw ∧
          ((Instr.findKey kt (ρ K) xs).run P W = .ok (if f then some (match r with | some (j, _) => j | none => 0, cw) else none) W) ∧ (f = false → cw = zv) := by
        rcases find_sim hkv hf g2 g3 hfk with ⟨rfl, h5⟩ | ⟨j, w, cw, rfl, _, h5, h6, _⟩
        · exact ⟨_, _, zv, rfl, hzvr, by simpa using run_findKey hD h5, fun _ => rfl⟩
        · exact ⟨_, _, cw, rfl, h6, by simpa using run_findKey hD h5, fun hh => by cases hh⟩
      obtain ⟨w, f, cw, k1, k2, k3, k4⟩ := key
      have hr' : v = (if ok then .tup [w, .bool f] else w) := by
        rw [k1] at hr; injection hr with hr; exact hr.symm
      refine ⟨if ok then .tuple #[cw, .bool f] else cw, ?_, ?_⟩
      · have hck : (Instr.checkKey (xs.toArray).isEmpty 10000 kt (ρ K)).run P W = .ok () W := key_ok _ kt hD hf hkv 9999
        rcases g4 with ⟨hρ, rfl⟩ | ⟨r', cl, hρ, hheap⟩
        · rw [hρ]
          simp only [Instr.lookup, Sem.run_bind, run_underlying hU, Result.andThen_ok, Sem.run_pure]
          have hck' : (Instr.checkKey (#[] : Array MapEntry).isEmpty 10000 kt (ρ K)).run P W = .ok () W := hck
          rw [hck']
          simp only [Result.andThen_ok, Sem.run_bind]
          rw [k3]
          cases f
          · simp [run_zero hi hzv, k4 rfl]
          · simp
        · rw [hρ]
          simp only [Instr.lookup, Sem.run_bind, run_underlying hU, Result.andThen_ok, Sem.run_pure, getObj, Sem.run, hheap]
          rw [hck]
          simp only [Result.andThen_ok, Sem.run_bind]
          first | rw [k3] | rw [show xs.toArray.toList = xs by simp, k3]
          cases f
          · simp [run_zero hi hzv, k4 rfl]
          · simp
      · rw [hr']
        cases ok
        · exact k2
        · exact VR.tup' (.cons k2 (.cons (.bool f) (.nil m)))
theorem rI {a : AOp} {r : ROp} (h : (pure a : Option AOp) = some (.r r)) : a = .r r := by injection h

set_option maxHeartbeats 1000000 in
theorem rsim (h : SR P gl base m H W) {o : Oper} {r : ROp} {v : AV} (hop : cop P gl o.op = some (.r r)) (hX : ∀ X ∈ o.op.operands.toList, OpR gl m e ρ X) (hr : r.run H e = some v) :
    ∃ c, (execOp ρ o).run P W = .ok (.value c) W ∧ VR m v c := by
  have fin : ∀ (s : Sem Value), (∃ cv, s.run P W = .ok cv W ∧ VR m v cv) → ∃ cv, (do pure (Next.value (← s)) : Sem Next).run P W = .ok (.value cv) W ∧ VR m v cv := fun s ⟨cv, h1, h2⟩ => ⟨cv, val_run h1, h2⟩
  obtain ⟨dst, op, type, pos, after, guard⟩ := o
  simp only at hop hX
  cases op <;> simp only [cop, reduceCtorEq] at hop <;> simp only [Op.operands] at hX <;> simp only [execOp]
  case move X =>
    obtain ⟨x, hx, hop⟩ := bindE hop
    have := rI hop; injection this with this; subst this
    simp only [ROp.run] at hr; injection hr with hr; subst hr
    exact ⟨_, rfl, hX X (by simp) x hx⟩
  case assign X =>
    obtain ⟨x, hx, hop⟩ := bindE hop
    have := rI hop; injection this with this; subst this
    simp only [ROp.run] at hr; injection hr with hr; subst hr
    exact ⟨_, rfl, hX X (by simp) x hx⟩
  case pick C A B =>
    obtain ⟨c, hc, hop⟩ := bindE hop
    obtain ⟨a, ha, hop⟩ := bindE hop
    obtain ⟨b, hb, hop⟩ := bindE hop
    have := rI hop; injection this with this; subst this
    simp only [ROp.run] at hr
    split at hr
    · rename_i t ht
      injection hr with hr; subst hr
      have hcv := hX C (by simp) c hc
      rw [ht] at hcv
      rw [bool_inv hcv]
      refine ⟨if t then ρ A else ρ B, by simp [asBool], ?_⟩
      cases t
      · exact hX B (by simp) b hb
      · exact hX A (by simp) a ha
    · cases hr
  case alloc t => obtain ⟨_, _, hop⟩ := bindE hop; have := rI hop; cases this
  case box t X => obtain ⟨_, _, hop⟩ := bindE hop; have := rI hop; cases this
  case build t ps =>
    obtain ⟨U, hU, hop⟩ := bindE hop
    split at hop
    · rename_i fs
      obtain ⟨pl, hpl, hop⟩ := bindE hop
      obtain ⟨z, hz, hop⟩ := bindE hop
      obtain ⟨qs, hqs, hop⟩ := bindE hop
      have := rI hop; injection this with this; subst this
      simp only [ROp.run] at hr
      split at hr
      · rename_i cs hcs
        injection hr with hr; subst hr
        obtain ⟨i, zv, hi, hzv, hzl⟩ := zero_inv (m := m) hz
        obtain ⟨ds, h1, h2⟩ := fill_sim (fun i => pl[i]?) hqs (fun p hp => hX p.2 (by simp only [List.mem_toArray, Array.toList_map, List.mem_map]; exact ⟨p, hp, rfl⟩)) hzl hcs
        refine fin _ ⟨.agg ds, ?_, VR.agg' h2⟩
        have h3 := run_places (P := P) W _ _ hpl
        simp [Instr.build, run_zero hi hzv, run_underlying hU, Array.mapM_eq_mapM_toList, h3, h1]
      · cases hr
    · obtain ⟨s, hs, hop⟩ := bindE hop
      obtain ⟨z, hz, hop⟩ := bindE hop
      obtain ⟨qs, hqs, hop⟩ := bindE hop
      have := rI hop; injection this with this; subst this
      simp only [ROp.run] at hr
      split at hr
      · rename_i cs hcs
        injection hr with hr; subst hr
        obtain ⟨i, zv, hi, hzv, hzl⟩ := zero_inv (m := m) hz
        obtain ⟨inf, hin, hsz⟩ := size_inv hs
        obtain ⟨ds, h1, h2⟩ := fill_sim (fun i => some (i * s, s)) hqs (fun p hp => hX p.2 (by simp only [List.mem_toArray, Array.toList_map, List.mem_map]; exact ⟨p, hp, rfl⟩)) hzl hcs
        refine fin _ ⟨.agg ds, ?_, VR.agg' h2⟩
        simp only [Instr.build, Sem.run_bind, run_zero hi hzv, run_underlying hU, Result.andThen_ok, run_sizeOf hin, hsz, Array.toList_map]
        rw [h1]
        rfl
      · cases hr
    · cases hop
  case buildSlice t n ps =>
    obtain ⟨U, hU, hop⟩ := bindE hop
    split at hop
    · obtain ⟨_, _, hop⟩ := bindE hop
      obtain ⟨_, _, hop⟩ := bindE hop
      obtain ⟨_, _, hop⟩ := bindE hop
      have := rI hop; cases this
    · cases hop
  case insert t mm k x =>
    obtain ⟨U, hU, hop⟩ := bindE hop
    split at hop
    · obtain ⟨_, _, hop⟩ := bindE hop
      obtain ⟨_, _, hop⟩ := bindE hop
      obtain ⟨_, _, hop⟩ := bindE hop
      obtain ⟨_, _, hop⟩ := bindE hop
      have := rI hop; cases this
    · cases hop
  case load t A =>
    obtain ⟨sz, hz, hop⟩ := bindE hop
    obtain ⟨a, ha, hop⟩ := bindE hop
    have := rI hop; injection this with this; subst this
    exact fin _ (sim_load h ha (hX A (by simp)) hz hr)
  case store t A X =>
    obtain ⟨_, _, hop⟩ := bindE hop
    obtain ⟨_, _, hop⟩ := bindE hop
    obtain ⟨_, _, hop⟩ := bindE hop
    have := rI hop; cases this
  case nilCheck X =>
    obtain ⟨x, hx, hop⟩ := bindE hop
    have := rI hop; injection this with this; subst this
    have hxv := hX X (by simp) x hx
    simp only [ROp.run] at hr
    split at hr
    · rename_i hxe; injection hr with hr; subst hr; rw [hxe] at hxv
      have hxv' := hxv
      obtain ⟨L, h1, h2⟩ := ptr_inv hxv
      exact ⟨_, by rw [h2]; rfl, by rw [← h2]; exact hxv'⟩
    · rename_i hxe; injection hr with hr; subst hr; rw [hxe] at hxv
      generalize ρ X = c at hxv
      have hxv' := hxv
      cases hxv with
      | fn => exact ⟨_, rfl, hxv'⟩
    · rename_i hxe; injection hr with hr; subst hr; rw [hxe] at hxv
      generalize ρ X = c at hxv
      have hxv' := hxv
      cases hxv with
      | yld => exact ⟨_, rfl, hxv'⟩
    · rename_i hxe; injection hr with hr; subst hr; rw [hxe] at hxv
      generalize ρ X = c at hxv
      have hxv' := hxv
      cases hxv with
      | iface => exact ⟨_, rfl, hxv'⟩
    · cases hr
  case binOp op t X Y yt =>
    refine fin _ ?_
    exact cbin_sim (yt := yt) hop (hX X (by simp)) (hX Y (by simp)) hr
  case unOp op t X =>
    cases op <;> simp only [reduceCtorEq] at hop
    · obtain ⟨x, hx, hop⟩ := bindE hop
      have := rI hop; injection this with this; subst this
      have hxv := hX X (by simp) x hx
      simp only [ROp.run] at hr
      split at hr
      · rename_i k n hxe
        injection hr with hr; subst hr
        rw [hxe] at hxv
        rw [int_inv hxv]
        exact fin _ ⟨_, by simp only [Op.unary, Op.intArith]; rfl, .int _ _⟩
      · cases hr
    · obtain ⟨x, hx, hop⟩ := bindE hop
      have := rI hop; injection this with this; subst this
      have hxv := hX X (by simp) x hx
      simp only [ROp.run] at hr
      split at hr
      · rename_i b hxe
        injection hr with hr; subst hr
        rw [hxe] at hxv
        rw [bool_inv hxv]
        exact fin _ ⟨_, by simp only [Op.unary]; rfl, .bool _⟩
      · cases hr
  case convert s d X => exact fin _ (cconv_sim h hop (hX X (by simp)) hr)
  case makeInterface t X =>
    obtain ⟨U, hU, hop⟩ := bindE hop
    split at hop
    · cases hop
    · rename_i hni
      obtain ⟨x, hx, hop⟩ := bindE hop
      have := rI hop; injection this with this; subst this
      simp only [ROp.run] at hr; injection hr with hr; subst hr
      refine fin _ ⟨.iface t (ρ X), ?_, .iface (hX X (by simp) x hx)⟩
      simp only [Instr.makeInterface, Sem.run_bind, run_underlying hU, Result.andThen_ok]
      cases U <;> first | rfl | exact absurd rfl (hni _)
  case makeFunc f as bs =>
    obtain ⟨xs, hxs, hop⟩ := bindE hop
    obtain ⟨ys, hys, hop⟩ := bindE hop
    have := rI hop; injection this with this; subst this
    simp only [ROp.run] at hr; injection hr with hr; subst hr
    have h1 : LR m (xs.map (·.ev e)) (as.toList.map ρ) := copds_lr hxs (fun X hx => hX X (by simp at hx ⊢; exact .inl hx))
    have h2 : LR m (ys.map (·.ev e)) (bs.toList.map ρ) := copds_lr hys (fun X hx => hX X (by simp at hx ⊢; exact .inr hx))
    refine fin _ ⟨.func f (as.map ρ) (bs.map ρ), rfl, .fn ?_ ?_ ?_ ?_⟩
    · simpa using h1.1
    · intro i u u' a b; exact h1.2 i u u' a (by rw [← Array.toList_map, Array.getElem?_toList]; exact b)
    · simpa using h2.1
    · intro i u u' a b; exact h2.2 i u u' a (by rw [← Array.toList_map, Array.getElem?_toList]; exact b)
  case makeMap t rs => cases rs <;> simp only [reduceCtorEq] at hop; have := rI hop; cases this
  case makeSlice t l c =>
    obtain ⟨U, hU, hop⟩ := bindE hop
    split at hop
    · obtain ⟨_, _, hop⟩ := bindE hop
      obtain ⟨_, _, hop⟩ := bindE hop
      obtain ⟨_, _, hop⟩ := bindE hop
      obtain ⟨_, _, hop⟩ := bindE hop
      obtain ⟨_, _, hop⟩ := bindE hop
      have := rI hop; cases this
    · cases hop
  case slice t X lo hi mx =>
    cases mx <;> simp only [reduceCtorEq] at hop
    obtain ⟨x, hx, hop⟩ := bindE hop
    obtain ⟨lo', hlo, hop⟩ := bindE hop
    obtain ⟨hi', hhi, hop⟩ := bindE hop
    obtain ⟨U, hU, hop⟩ := bindE hop
    have hL : ∀ Y, lo = some Y → OpR gl m e ρ Y := fun Y hy => hX Y (by subst hy; simp)
    have hH : ∀ Y, hi = some Y → OpR gl m e ρ Y := fun Y hy => hX Y (by subst hy; simp)
    split at hop
    · obtain ⟨s, hs, hop⟩ := bindE hop
      have := rI hop; injection this with this; subst this
      exact fin _ (sim_slA hx (hX X (by simp)) hlo hhi hL hH hU hs hr)
    · have := rI hop; injection this with this; subst this
      exact fin _ (sim_slStr hx (hX X (by simp)) hlo hhi hL hH hU hr)
    · obtain ⟨s, hs, hop⟩ := bindE hop
      have := rI hop; injection this with this; subst this
      exact fin _ (sim_slS h hx (hX X (by simp)) hlo hhi hL hH hU hs hr)
    · cases hop
  case fieldAddr t X f =>
    obtain ⟨U, hU, hop⟩ := bindE hop
    split at hop
    · obtain ⟨g, hg, hop⟩ := bindE hop
      obtain ⟨s, hs, hop⟩ := bindE hop
      split at hop
      · cases hop
      · rename_i hs0
        obtain ⟨x, hx, hop⟩ := bindE hop
        have := rI hop; injection this with this; subst this
        exact fin _ (sim_fieldAddr hx (hX X (by simp)) hU hg hs hs0 hr)
    · cases hop
  case field t X f =>
    obtain ⟨U, hU, hop⟩ := bindE hop
    split at hop
    · obtain ⟨g, hg, hop⟩ := bindE hop
      obtain ⟨s, hs, hop⟩ := bindE hop
      obtain ⟨x, hx, hop⟩ := bindE hop
      have := rI hop; injection this with this; subst this
      exact fin _ (sim_field hx (hX X (by simp)) hU hg hs hr)
    · cases hop
  case indexAddr t X I =>
    obtain ⟨U, hU, hop⟩ := bindE hop
    split at hop
    · obtain ⟨s, hs, hop⟩ := bindE hop
      obtain ⟨x, hx, hop⟩ := bindE hop
      obtain ⟨i, hi, hop⟩ := bindE hop
      have := rI hop; injection this with this; subst this
      exact fin _ (sim_indexA hx hi (hX X (by simp)) (hX I (by simp)) hU hs hr)
    · obtain ⟨s, hs, hop⟩ := bindE hop
      obtain ⟨x, hx, hop⟩ := bindE hop
      obtain ⟨i, hi, hop⟩ := bindE hop
      have := rI hop; injection this with this; subst this
      exact fin _ (sim_index h hx hi (hX X (by simp)) (hX I (by simp)) hU hs hr)
    · cases hop
  case index t X I =>
    obtain ⟨U, hU, hop⟩ := bindE hop
    split at hop
    · obtain ⟨s, hs, hop⟩ := bindE hop
      obtain ⟨z, hz, hop⟩ := bindE hop
      obtain ⟨x, hx, hop⟩ := bindE hop
      obtain ⟨i, hi, hop⟩ := bindE hop
      have := rI hop; injection this with this; subst this
      exact fin _ (sim_indexArr hx hi (hX X (by simp)) (hX I (by simp)) hU hs hz hr)
    · obtain ⟨x, hx, hop⟩ := bindE hop
      obtain ⟨i, hi, hop⟩ := bindE hop
      have := rI hop; injection this with this; subst this
      exact fin _ (sim_indexStr hx hi (hX X (by simp)) (hX I (by simp)) hU hr)
    · cases hop
  case lookup t X K ok =>
    obtain ⟨U, hU, hop⟩ := bindE hop
    split at hop
    · rename_i kt el
      obtain ⟨kk, hkk, hop⟩ := bindE hop
      obtain ⟨z, hz, hop⟩ := bindE hop
      obtain ⟨zg, hzg, hop⟩ := bindE hop
      obtain ⟨x, hx, hop⟩ := bindE hop
      obtain ⟨k, hk, hop⟩ := bindE hop
      have := rI hop; injection this with this; subst this
      exact fin _ (sim_lookup h hU hkk hz hzg hx hk (hX X (by simp)) (hX K (by simp)) hr)
    · cases hop
  case mapUpdate t mm k x =>
    obtain ⟨U, hU, hop⟩ := bindE hop
    split at hop
    · obtain ⟨_, _, hop⟩ := bindE hop
      obtain ⟨_, _, hop⟩ := bindE hop
      obtain ⟨_, _, hop⟩ := bindE hop
      obtain ⟨_, _, hop⟩ := bindE hop
      have := rI hop; cases this
    · cases hop
  case extract X i =>
    obtain ⟨x, hx, hop⟩ := bindE hop
    have := rI hop; injection this with this; subst this
    have hxv := hX X (by simp) x hx
    simp only [ROp.run] at hr
    split at hr
    · rename_i vs hxe
      rw [hxe] at hxv
      obtain ⟨cs, h1, h2⟩ := hxv.tup_inv
      obtain ⟨c, h3, h4⟩ := h2.get hr
      refine fin _ ⟨c, ?_, h4⟩
      rw [h1]
      have h3' : cs[i]? = some c := by simpa using h3
      simp [Instr.extract, h3']
    · cases hr
  case call c => exact ccall_sim h hop (fun X hx => hX X (by simp only [Call.operands, Array.toList_append, List.mem_append]; exact .inr hx)) hr
end Go.Proofs.YtcfjjeipdacbcaaDoor.AM
