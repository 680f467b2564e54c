/-
  append.
-/
import Derived.Test.YtcfjjeipdacbcaaDoorAmE
set_option linter.unusedSimpArgs false
set_option linter.unusedVariables false
namespace Go.Proofs.YtcfjjeipdacbcaaDoor.AM
open Go Go.RowKit

variable {base : Nat} {m : Inj} {H : AHeap} {W : World} {P : Program} {gl : List Nat} {e : Env} {ρ : Operand → Value}

theorem Post.kill {m' : Inj} {H' : AHeap} {W' : World} {b : Nat} {B : Blk} {L : Loc} (hb : m b = some L) (hB : H.get b = some (.row B)) (h : Post P gl base m (H.set b (.row { B with live := false })) W m' H' W') : Post P gl base m H W m' H' W' :=
  ⟨h.le, h.sr, h.below, h.next, fun c hc hm => by
    obtain ⟨h1, h2⟩ := h.rest c hc hm
    exact ⟨h1, by rw [h2, AHeap.get_set_ne]; intro e; subst e; rw [hb] at hm; cases hm⟩⟩
set_option maxHeartbeats 1000000 in
theorem append_sim (h : SR P gl base m H W) {es bytes n : Nat} {s v : AV} {new : List AV} {sc xc : Value} {H' : AHeap} {t0 t1 ty el : TypeId} {ts : Array TypeId} {U1 : TypeDesc} {inf : TypeInfo} {zv : Value} {new' : List Value}
    (ht0 : ts[0]? = some t0) (ht1 : ts[1]? = some t1) (hU : P.underlying t0 = some (.slice el)) (hU1 : P.underlying t1 = some U1) (hnz : ∀ k, U1 ≠ .int k) (hi : P.info? el = some inf) (hsz : inf.size = es) (hby : inf.bytes = bytes) (hzv : inf.zero = some zv) (hzs : zv.cells.size = es)
    (hes : es ≠ 0) (hbn : bytes ≠ 0) (hone : new.all AV.one = true)
    (hs : VR m s sc) (hlen : ∀ W2, (Builtin.lenOf xc).run P W2 = .ok n W2) (hnl : new'.length = n * es) (hnew : LR m new new') (hfc : ∀ W2 : World, (∀ a, W2.cell? a = W.cell? a) → (Builtin.firstCells es n xc).run P W2 = .ok new'.toArray W2)
    (hr : appendA H es bytes s n new = some (v, H')) :
    ∃ c W' m', (Builtin.append_ ts ty #[sc, xc]).run P W = .ok c W' ∧ Post P gl base m H W m' H' W' ∧ VR m' v c := by
  have hmatch : (match U1 with | .int _ => true | _ => false) = false := by cases U1 <;> first | rfl | exact absurd rfl (hnz _)
  have hnewlen : new.length = n * es := by rw [hnew.1, hnl]
  -- a new array, whatever was there
  have grow : ∀ (H0 : AHeap) (base0 : Option Addr) (sLen sCap : Nat) (old : List AV) (old' : List Value), SR P gl base m H0 W → sc = .slice base0 sLen sCap → old.length = sLen * es → LR m old old' →
      ((Builtin.firstCells es sLen sc).run P W.drew = .ok old'.toArray W.drew) → sCap < sLen + n → (sLen + n) * bytes ≤ 70368744177664 → sLen + n ≤ 70368744177664 →
      ∃ c W' m', (Builtin.append_ ts ty #[sc, xc]).run P W = .ok c W' ∧ Post P gl base m H0 W m' (H0.alloc (.row { cells := old ++ new, es := es })) W' ∧ VR m' (.slc H0.next 0 (sLen + n) (sLen + n)) c := by
    intro H0 base0 sLen sCap old old' hsr hsc hol hold hfo hgt hb1 hb2
    generalize hq : (Question.appendCap (sLen + n) sCap el).cut (W.tape W.drawn (.appendCap (sLen + n) sCap el)) = cap'
    have hcap : sLen + n ≤ cap' := by rw [← hq]; simp only [Question.cut]; omega
    have hfit := growslice_fits (need := sLen + n) (old := sCap) (bytes := bytes) hgt (by omega)
    let arr : Array Value := old'.toArray ++ new'.toArray ++ Builtin.zeroCells zv.cells (cap' - (sLen + n))
    have hol' : old'.length = sLen * es := by rw [← hold.1, hol]
    have harr : arr.size = cap' * es := by
      simp only [arr, Array.size_append, List.size_toArray, zeroCells_size, hzs, hol', hnl]
      rw [← Nat.add_mul, ← Nat.add_mul]
      congr 1; omega
    have hcl : (old ++ new).length = (sLen + n) * es := by rw [List.length_append, hol, hnewlen, Nat.add_mul]
    obtain ⟨m', hp, hv⟩ := grow_place (H := H0) (W2 := W.drew.alloc (.cells arr el)) (cs := old ++ new) (es := es) (n := sLen + n) (cap' := cap') (arr := arr) (el := el) hsr rfl (by omega) hcl (by
      have e1 : arr.toList.take (old ++ new).length = old' ++ new' := by
        rw [hcl]
        simp only [arr, Array.toList_append]
        rw [List.take_append_of_le_length (by simp [hol', hnl, Nat.add_mul])]
        rw [List.take_of_length_le (by simp [hol', hnl, Nat.add_mul])]
      rw [e1]
      exact hold.append hnew) harr hcap rfl rfl rfl
    refine ⟨_, _, m', ?_, hp, hv⟩
    have c1 : ¬ (sLen + n ≤ sCap) := by omega
    have c2 : ¬ (((sLen + n : Nat) : Int) > IntKind.i64.max ∧ (False ∨ inf.bytes = 0)) := by rw [hby]; simp [hbn]
    have c3 : ¬ (Builtin.nextslicecap (sLen + n) sCap * inf.bytes > 2 ^ 48) := by rw [hby]; omega
    subst hsc
    simp only [Builtin.append_, List.getElem?_toArray, ht0, Sem.run_bind, run_underlying hU, Result.andThen_ok, run_sizeOf hi, hsz, Sem.run_pure, ht1, run_underlying hU1, Bool.false_eq_true, if_false, hlen, hmatch,
      List.getElem?_cons_zero, List.getElem?_cons_succ]
    have hti : ∀ W2 : World, (typeInfo el).run P W2 = .ok inf W2 := fun W2 => by simp [typeInfo, hi]
    have hfn := hfc W.drew (fun a => rfl)
    have hz2 : ∀ W2 : World, (zeroValue el).run P W2 = .ok zv W2 := fun W2 => run_zero hi hzv
    simp only [if_neg c1, if_neg c2, if_neg c3, Sem.run_bind, hti, Result.andThen_ok, run_choose, Question.forced, Bool.false_eq_true, if_false, hq, World.drew_eq, run_askRoom, hfo, Bool.not_false, if_true, hfn, hz2, newRow, run_newObj, Sem.run_pure, World.alloc_eq]
    rfl
  unfold appendA at hr
  split at hr
  · -- nil
    cases hs
    split at hr
    · rename_i h0
      subst h0
      injection hr with hr; injection hr with hr1 hr2; subst hr1; subst hr2
      have hn0 : new' = [] := List.length_eq_zero_iff.1 (by simpa using hnl)
      subst hn0
      refine ⟨.slice none 0 0, W, m, ?_, Post.refl h, .nils⟩
      simp only [Builtin.append_, List.getElem?_toArray, ht0, Sem.run_bind, run_underlying hU, Result.andThen_ok, run_sizeOf hi, hsz, Sem.run_pure, ht1, run_underlying hU1, Bool.false_eq_true, if_false, hlen, hmatch,
        List.getElem?_cons_zero, List.getElem?_cons_succ, Nat.le_refl, Nat.add_zero, if_true, Bool.not_false, hfc W (fun _ => rfl)]
    · rename_i h0
      split at hr
      · rename_i hb
        injection hr with hr; injection hr with hr1 hr2; subst hr1; subst hr2
        obtain ⟨c, W', m', h1, h2, h3⟩ := grow H none 0 0 [] [] h rfl (by simp) (LR.nil m) (by simp [Builtin.firstCells]) (by omega) (by rw [Nat.zero_add]; exact hb.1) (by omega)
        rw [Nat.zero_add] at h3
        exact ⟨c, W', m', h1, h2, h3⟩
      · cases hr
  · rename_i b o len cap
    obtain ⟨L, a, cap', g1, g2, g3, g4, g5⟩ := slc_inv hs
    subst g2
    split at hr
    · -- it fits
      rename_i hfit
      have hcc : cap ≤ cap' := by rcases g4 with g4 | g4 <;> omega
      split at hr
      · rename_i h0
        subst h0
        injection hr with hr; injection hr with hr1 hr2; subst hr1; subst hr2
        have hn0 : new' = [] := List.length_eq_zero_iff.1 (by simpa using hnl)
        subst hn0
        refine ⟨.slice (some a) len cap', W, m, ?_, Post.refl h, hs⟩
        have c1 : len ≤ cap' := by omega
        simp only [Builtin.append_, List.getElem?_toArray, ht0, Sem.run_bind, run_underlying hU, Result.andThen_ok, run_sizeOf hi, hsz, Sem.run_pure, ht1, run_underlying hU1, Bool.false_eq_true, if_false, hlen, hmatch,
          List.getElem?_cons_zero, List.getElem?_cons_succ, Nat.add_zero, if_pos c1, if_true, Bool.not_false, hfc W (fun _ => rfl)]
        rfl
      · rename_i h0
        split at hr
        · rename_i H2 hst
          injection hr with hr; injection hr with hr1 hr2; subst hr1; subst hr2
          have hpos : 0 < cap' := by omega
          have ha := g5 hpos
          obtain ⟨W', k1, k2, k3, k4, k5⟩ := h.store P g1 hst hnew
          refine ⟨.slice (some a) (len + n) cap', W', m, ?_, ⟨Inj.le_refl _, k2, k3, by omega, fun c hc hm => ⟨hm, k5 c (fun e => by subst e; rw [g1] at hm; cases hm)⟩⟩, .slc g1 hfit g4 g5⟩
          have c1 : len + n ≤ cap' := by omega
          have k1' : (storeCells (a.add (len * es)) new').run P W = .ok () W' := by rw [ha, addr_add, Nat.add_assoc]; exact k1
          simp only [Builtin.append_, List.getElem?_toArray, ht0, Sem.run_bind, run_underlying hU, Result.andThen_ok, run_sizeOf hi, hsz, Sem.run_pure, ht1, run_underlying hU1, Bool.false_eq_true, if_false, hlen, hmatch,
            List.getElem?_cons_zero, List.getElem?_cons_succ, if_pos c1, if_true, Bool.not_false, hfc W (fun _ => rfl), k1']
        · cases hr
    · rename_i hnf
      split at hr
      · cases hr
      · rename_i hbd
        have hbd := Classical.not_not.1 hbd
        split at hr
        · cases hr
        · rename_i B hB
          split at hr
          · cases hr
          · rename_i old hold
            obtain ⟨b1, b2⟩ := row_inv hB
            obtain ⟨old', k1, k2, k3⟩ := loads P h g1 hB hold
            have hol : old.length = len * es := (cut_some hold).2.1
            have hol' : old'.length = len * es := by rw [← k2.1, hol]
            have hfo : (Builtin.firstCells es len (.slice (some a) len cap')).run P W.drew = .ok old'.toArray W.drew := by
              by_cases hl0 : len = 0
              · subst hl0
                have : old' = [] := List.length_eq_zero_iff.1 (by simpa using hol')
                subst this
                simp [Builtin.firstCells, loadCells, loadCellsFrom]
              · have hpos : 0 < cap' := by rcases g4 with g4 | g4 <;> omega
                have ha := g5 hpos
                have := run_loadCells_list (P := P) W.drew a old' (fun j v hj => by rw [ha, addr_add]; exact k3 j v hj)
                rw [hol'] at this
                simpa [Builtin.firstCells] using this
            split at hr
            · -- never grown: a new array
              rename_i he0
              injection hr with hr; injection hr with hr1 hr2; subst hr1; subst hr2
              have hcc : cap = cap' := by
                rcases g4 with g4 | g4
                · exact g4
                · have := h.es b L B g1 b1; omega
              exact grow H (some a) len cap' old old' h rfl hol k2 hfo (by omega) hbd.1 hbd.2
            · split at hr
              · rename_i he1
                obtain ⟨he1, hro⟩ := he1
                injection hr with hr; injection hr with hr1 hr2; subst hr1; subst hr2
                have hk := h.kill b1
                by_cases hroom : cap' < len + n
                · obtain ⟨c, W', m', h1, h2, h3⟩ := grow _ (some a) len cap' old old' hk rfl hol k2 hfo hroom hbd.1 hbd.2
                  exact ⟨c, W', m', h1, h2.kill g1 b1, h3⟩
                · -- in place, behind what the machine knew
                  have hcl : cap < cap' ∧ 0 < L.es ∧ o + cap' * L.es ≤ L.room := by
                    rcases g4 with g4 | g4
                    · omega
                    · exact g4
                  obtain ⟨q1, q2, q3⟩ := hcl
                  have hLes := h.es b L B g1 b1
                  rw [hLes, he1] at q3
                  have ha := g5 (by omega)
                  obtain ⟨hbase, arr, elm, lo, hi', harr, hrm, hlen2, hfz⟩ := h.rw b L B g1 b1 b2 hro
                  have hle2 : (len + n) * es ≤ cap' * es := Nat.mul_le_mul_right _ (by omega)
                  rw [Nat.add_mul] at hle2
                  obtain ⟨W', arr', s1, s2, s3, s4⟩ := run_stores P L.blk (L.off + o + len * es) elm lo hi' new' 0 arr W harr hfz (by omega) (fun v hv => by
                    obtain ⟨i, hi'', e⟩ := List.mem_iff_getElem.1 hv
                    have hi2 : i < new.length := by rw [hnewlen]; omega
                    have := hnew.2 i new[i] v (by simp [hi2]) (by rw [← e]; simp)
                    exact this.one (by simp at hone; exact hone _ (List.getElem_mem hi2)))
                  let L2 : Loc := ⟨L.blk, L.off + o, L.room - o, es⟩
                  let H1 := H.set b (.row { B with live := false })
                  let B2 : Blk := { cells := old ++ new, es := es }
                  have hm : m H.next = none := by
                    cases hm : m H.next with
                    | none => rfl
                    | some L => exact absurd (h.dom _ _ hm) (Nat.lt_irrefl _)
                  have hout : ∀ c L', m c = some L' → owned H1 c → L'.blk ≠ L.blk := by
                    intro c L' hc ho
                    have hcb : c ≠ b := by
                      intro e; subst e
                      rcases ho with ⟨B', x1, x2, _⟩ | ⟨es', x1⟩ | ⟨R', x1⟩
                      · rw [AHeap.get_set_same] at x1; injection x1 with x1; injection x1 with x1; subst x1; cases x2
                      · rw [AHeap.get_set_same] at x1; cases x1
                      · rw [AHeap.get_set_same] at x1; cases x1
                    have ho' : owned H c := by
                      unfold owned at ho; rw [AHeap.get_set_ne _ _ _ _ hcb] at ho; exact ho
                    exact h.inj c b L' L hc g1 ho' (.inl ⟨B, b1, b2, hro⟩) hcb
                  have sr1 : SR P gl base m H1 W' := hk.wrOther s2 hbase hout
                  have sr2 : SR P gl base m (H1.alloc (.row B2)) W' := sr1.ext _
                  have hB2 : (H1.alloc (.row B2)).get H.next = some (.row B2) := by rw [AHeap.get_alloc]; exact if_pos rfl
                  have hb2len : B2.cells.length = (len + n) * es := by simp only [B2, List.length_append, hol, hnewlen, Nat.add_mul]
                  have sr3 : SR P gl base (m.upd H.next L2) (H1.alloc (.row B2)) W' := by
                    refine sr2.place (L := L2) hm hB2 rfl rfl hbase (arr := arr') (el := elm) (lo := lo) (hi := hi') s2.at_ (by simp only [L2]; rw [s3]; omega) (by rw [hb2len]; simp only [L2]; rw [Nat.add_mul]; omega) (fun i hi2 => hfz i (by rw [← s3]; exact hi2)) (fun i v hv => ?_) (fun c L' hc ho => ?_)
                    · simp only [B2] at hv
                      have hi2 : i < (old ++ new).length := (List.getElem?_eq_some_iff.1 hv).1
                      obtain ⟨cv, z1, z2⟩ := (k2.append hnew).get hv
                      refine ⟨cv, ?_, z2⟩
                      simp only [L2]
                      rw [s4]
                      by_cases hio : i < len * es
                      · rw [if_neg (by omega)]
                        rw [List.getElem?_append_left (by omega)] at z1
                        have := k3 i cv z1
                        rw [cell_of W L.blk _ arr elm _ harr] at this
                        exact this
                      · rw [List.getElem?_append_right (by omega)] at z1
                        have hlt : i - old'.length < new'.length := (List.getElem?_eq_some_iff.1 z1).1
                        rw [if_pos (by omega), ← z1]
                        congr 1; omega
                    · refine hout c L' hc ?_
                      have hcn : c ≠ H.next := by intro e; subst e; rw [hm] at hc; cases hc
                      unfold owned at ho ⊢
                      rw [AHeap.get_alloc, if_neg (show ¬ c = H1.next from hcn)] at ho
                      exact ho
                  refine ⟨.slice (some a) (len + n) cap', W', m.upd H.next L2, ?_, ⟨Inj.le_upd hm, sr3, s2.bkc hbase harr, ?_, fun c hc hmc => ?_⟩, ?_⟩
                  · have c1 : len + n ≤ cap' := by omega
                    have k1' : (storeCells (a.add (len * es)) new').run P W = .ok () W' := by rw [ha, addr_add]; exact s1
                    simp only [Builtin.append_, List.getElem?_toArray, ht0, Sem.run_bind, run_underlying hU, Result.andThen_ok, run_sizeOf hi, hsz, Sem.run_pure, ht1, run_underlying hU1, Bool.false_eq_true, if_false, hlen, hmatch,
                      List.getElem?_cons_zero, List.getElem?_cons_succ, if_pos c1, if_true, Bool.not_false, hfc W (fun _ => rfl), k1']
                  · show H.next ≤ H.next + 1; omega
                  · have hcn : c ≠ H.next := by omega
                    have hcb : c ≠ b := by intro e; subst e; rw [g1] at hmc; cases hmc
                    refine ⟨by unfold Inj.upd; rw [if_neg hcn]; exact hmc, ?_⟩
                    rw [AHeap.get_alloc, if_neg (show ¬ c = (H.set b (.row { B with live := false })).next from hcn), AHeap.get_set_ne _ _ _ _ hcb]
                  · refine .slc (Inj.upd_same _ _ _) (Nat.le_refl _) ?_ (fun _ => by simp only [L2]; rw [ha]; rfl)
                    by_cases hce : len + n = cap'
                    · exact .inl hce
                    · refine .inr ⟨by omega, by simp only [L2]; omega, by simp only [L2]; omega⟩
              · cases hr
  · cases hr
end Go.Proofs.YtcfjjeipdacbcaaDoor.AM
