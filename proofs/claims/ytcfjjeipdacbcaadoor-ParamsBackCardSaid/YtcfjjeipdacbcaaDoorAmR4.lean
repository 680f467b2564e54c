/-
  Operations that make no memory and write none: each of them.
-/
import Derived.Test.YtcfjjeipdacbcaaDoorAmR3
set_option linter.unusedSimpArgs false
set_option linter.unusedVariables false
namespace Go.Proofs.YtcfjjeipdacbcaaDoor.AM
open Go Go.RowKit

variable {base : Nat} {m : Inj} {H : AHeap} {W : World} {P : Program} {gl : List Nat} {e : Env} {ρ : Operand → Value}

theorem ptr_inv {b o : Nat} {c : Value} (h : VR m (.ptr b o) c) : ∃ L, m b = some L ∧ c = .pointer (some ⟨L.blk, L.off + o, none⟩) := by cases h with | ptr hb => exact ⟨_, hb, rfl⟩
theorem slc_inv {b o len cap : Nat} {c : Value} (h : VR m (.slc b o len cap) c) : ∃ L a cap', m b = some L ∧ c = .slice (some a) len cap' ∧ len ≤ cap ∧ (cap = cap' ∨ (cap < cap' ∧ 0 < L.es ∧ o + cap' * L.es ≤ L.room)) ∧ (0 < cap' → a = ⟨L.blk, L.off + o, none⟩) := by
  cases h with | slc hb hl hc ha => exact ⟨_, _, _, hb, rfl, hl, hc, ha⟩

theorem sim_move {ty : TypeId} {d : Option Nat} {X : Operand} {x : Opd} {pos : String} {af : Array Edge} {g : Option (Nat × Bool)} {v : AV} (hx : copd gl X = some x) (hX : OpR gl m e ρ X) (hr : (ROp.mv x).run H e = some v) :
    VR m v (ρ X) := by
  simp only [ROp.run] at hr; injection hr with hr; subst hr; exact hX x hx

theorem sim_index {t : TypeId} {X I : Operand} {x i : Opd} {es : Nat} {el : TypeId} {v : AV} (h : SR P gl base m H W) (hx : copd gl X = some x) (hi : copd gl I = some i) (hX : OpR gl m e ρ X) (hI : OpR gl m e ρ I)
    (hu : P.underlying t = some (.slice el)) (hs : sizeT P el = some es) (hr : (ROp.idxS es x i).run H e = some v) : ∃ c, (Instr.indexAt t (ρ X) (ρ I)).run P W = .ok c W ∧ VR m v c := by
  simp only [ROp.run] at hr
  split at hr
  · rename_i b o len cap hxe
    split at hr
    · rename_i k hk
      injection hr with hr; subst hr
      have hxv := hX x hx
      rw [hxe] at hxv
      obtain ⟨L, a, cap', h1, h2, h3, h4, h5⟩ := slc_inv hxv
      obtain ⟨kd, n, g1, g2, g3, g4⟩ := inIndex_inv hk (hI i hi)
      obtain ⟨inf, hin, hsz⟩ := size_inv hs
      refine ⟨.pointer (some (a.add (k * es))), ?_, ?_⟩
      · rw [g1, h2]
        simp [Instr.indexAt, asIntOf, run_underlying hu, g2, g3, g4, run_sizeOf hin, hsz]
      · rw [h5 (by omega), addr_add, Nat.add_assoc]
        exact .ptr h1
    · cases hr
  · cases hr
theorem sim_indexA {t : TypeId} {X I : Operand} {x i : Opd} {n es : Nat} {el : TypeId} {v : AV} (hx : copd gl X = some x) (hi : copd gl I = some i) (hX : OpR gl m e ρ X) (hI : OpR gl m e ρ I)
    (hu : P.underlying t = some (.array n el)) (hs : sizeT P el = some es) (hr : (ROp.idxA n es x i).run H e = some v) : ∃ c, (Instr.indexAt t (ρ X) (ρ I)).run P W = .ok c W ∧ VR m v c := by
  simp only [ROp.run] at hr
  split at hr
  · rename_i b o hxe
    split at hr
    · rename_i k hk
      injection hr with hr; subst hr
      have hxv := hX x hx
      rw [hxe] at hxv
      obtain ⟨L, h1, h2⟩ := ptr_inv hxv
      obtain ⟨kd, q, g1, g2, g3, g4⟩ := inIndex_inv hk (hI i hi)
      obtain ⟨inf, hin, hsz⟩ := size_inv hs
      refine ⟨.pointer (some ((⟨L.blk, L.off + o, none⟩ : Addr).add (k * es))), ?_, ?_⟩
      · rw [g1, h2]
        simp [Instr.indexAt, asIntOf, run_underlying hu, g2, g3, g4, run_sizeOf hin, hsz, Instr.sureAddr]
      · rw [addr_add, Nat.add_assoc]
        exact .ptr h1
    · cases hr
  · cases hr
theorem sim_field {t : TypeId} {X : Operand} {x : Opd} {fs : Array Field} {f : Nat} {g : Field} {sz : Option Nat} {v : AV} (hx : copd gl X = some x) (hX : OpR gl m e ρ X)
    (hu : P.underlying t = some (.struct fs)) (hf : fs[f]? = some g) (hs : szT P g.type = some sz) (hr : (ROp.field g.offset sz x).run H e = some v) : ∃ c, (Instr.field t (ρ X) f).run P W = .ok c W ∧ VR m v c := by
  simp only [ROp.run] at hr
  split at hr
  · rename_i cs hxe
    have hxv := hX x hx
    rw [hxe] at hxv
    obtain ⟨cs', h1, h2⟩ := hxv.agg_inv
    obtain ⟨c, h3, h4⟩ := sub_sim (W := W) hs h2 hr
    exact ⟨c, by rw [h1]; simp [Instr.field, run_underlying hu, hf, asAgg, h3], h4⟩
  · cases hr
theorem sim_fieldAddr {t : TypeId} {X : Operand} {x : Opd} {fs : Array Field} {f s : Nat} {g : Field} {v : AV} (hx : copd gl X = some x) (hX : OpR gl m e ρ X)
    (hu : P.underlying t = some (.struct fs)) (hf : fs[f]? = some g) (hs : sizeT P g.type = some s) (hs0 : s ≠ 0) (hr : (ROp.fieldAddr g.offset x).run H e = some v) : ∃ c, (Instr.fieldAt t (ρ X) f).run P W = .ok c W ∧ VR m v c := by
  simp only [ROp.run] at hr
  split at hr
  · rename_i b o hxe
    injection hr with hr; subst hr
    have hxv := hX x hx
    rw [hxe] at hxv
    obtain ⟨L, h1, h2⟩ := ptr_inv hxv
    obtain ⟨inf, hin, hsz⟩ := size_inv hs
    refine ⟨.pointer (some ⟨L.blk, L.off + (o + g.offset), none⟩), ?_, .ptr h1⟩
    rw [h2]
    have : ¬ inf.size = 0 := by omega
    simp [Instr.fieldAt, run_underlying hu, hf, Instr.sureAddr, fieldPlace, run_sizeOf hin, this, addr_add, Nat.add_assoc]
  · cases hr
theorem sim_indexArr {t : TypeId} {X I : Operand} {x i : Opd} {n es : Nat} {el : TypeId} {sz : Option Nat} {v : AV} (hx : copd gl X = some x) (hi : copd gl I = some i) (hX : OpR gl m e ρ X) (hI : OpR gl m e ρ I)
    (hu : P.underlying t = some (.array n el)) (hs : sizeT P el = some es) (hz : szT P el = some sz) (hr : (ROp.idxArr n es sz x i).run H e = some v) : ∃ c, (Instr.index t (ρ X) (ρ I)).run P W = .ok c W ∧ VR m v c := by
  simp only [ROp.run] at hr
  split at hr
  · rename_i cs hxe
    split at hr
    · rename_i k hk
      have hxv := hX x hx
      rw [hxe] at hxv
      obtain ⟨cs', h1, h2⟩ := hxv.agg_inv
      obtain ⟨kd, q, g1, g2, g3, g4⟩ := inIndex_inv hk (hI i hi)
      obtain ⟨inf, hin, hsz⟩ := size_inv hs
      obtain ⟨c, h3, h4⟩ := sub_sim (W := W) hz h2 hr
      refine ⟨c, ?_, h4⟩
      rw [g1, h1]
      simp [Instr.index, asIntOf, run_underlying hu, g2, g3, g4, run_sizeOf hin, hsz, h3]
    · cases hr
  · cases hr
theorem sim_indexStr {t : TypeId} {X I : Operand} {x i : Opd} {v : AV} (hx : copd gl X = some x) (hi : copd gl I = some i) (hX : OpR gl m e ρ X) (hI : OpR gl m e ρ I)
    (hu : P.underlying t = some .string) (hr : (ROp.idxStr x i).run H e = some v) : ∃ c, (Instr.index t (ρ X) (ρ I)).run P W = .ok c W ∧ VR m v c := by
  simp only [ROp.run] at hr
  split at hr
  · rename_i s hxe
    split at hr
    · rename_i k hk
      split at hr
      · rename_i b hb
        injection hr with hr; subst hr
        have hxv := hX x hx
        rw [hxe] at hxv
        obtain ⟨s', h1, h2⟩ := str_inv hxv
        obtain ⟨kd, q, g1, g2, g3, g4⟩ := inIndex_inv hk (hI i hi)
        refine ⟨_, ?_, .int _ _⟩
        rw [g1, h1]
        have hget : s'[k]? = some b := by
          subst h2
          have hlt : k < s'.size := by
            rw [size_of (s := s') rfl]
            exact (List.getElem?_eq_some_iff.1 hb).1
          rw [getElem?_pos s' k hlt]
          congr 1
          exact (List.getElem?_eq_some_iff.1 hb).2
        simp [Instr.index, asIntOf, run_underlying hu, g2, g4, hget]
      · cases hr
    · cases hr
  · cases hr
theorem sim_slStr {t : TypeId} {X : Operand} {x : Opd} {lo hi : Option Operand} {lo' hi' : Option Opd} {v : AV} (hx : copd gl X = some x) (hX : OpR gl m e ρ X) (hlo : copdO gl lo = some lo') (hhi : copdO gl hi = some hi')
    (hL : ∀ X, lo = some X → OpR gl m e ρ X) (hH : ∀ X, hi = some X → OpR gl m e ρ X) (hu : P.underlying t = some .string) (hr : (ROp.slStr x lo' hi').run H e = some v) :
    ∃ c, (Instr.sliceAt t (ρ X) (lo.map ρ) (hi.map ρ) none).run P W = .ok c W ∧ VR m v c := by
  simp only [ROp.run] at hr
  split at hr
  · rename_i s hxe
    split at hr
    · rename_i l hh hb
      injection hr with hr; subst hr
      have hxv := hX x hx
      rw [hxe] at hxv
      obtain ⟨s', h1, h2⟩ := str_inv hxv
      have hsz := size_of h2
      rw [← hsz] at hb
      obtain ⟨g1, g2, g3⟩ := bounds_sim (W := W) (P := P) false hb hlo hhi hL hH (Nat.le_refl _) (Nat.le_refl _)
      refine ⟨.string (s'.extract l hh), ?_, .ofStr ?_⟩
      · rw [h1]
        simp [Instr.sliceAt, Instr.slice, run_underlying hu, g1]
      · subst h2
        show (s'.extract l hh).data.toList = _
        rw [ByteArray.data_extract]
        simp [List.extract_eq_take_drop, List.drop_take]
    · cases hr
  · cases hr
theorem sim_slS {t el : TypeId} {X : Operand} {x : Opd} {es : Nat} {lo hi : Option Operand} {lo' hi' : Option Opd} {v : AV} (h : SR P gl base m H W) (hx : copd gl X = some x) (hX : OpR gl m e ρ X) (hlo : copdO gl lo = some lo') (hhi : copdO gl hi = some hi')
    (hL : ∀ X, lo = some X → OpR gl m e ρ X) (hH : ∀ X, hi = some X → OpR gl m e ρ X) (hu : P.underlying t = some (.slice el)) (hs : sizeT P el = some es) (hr : (ROp.slS es x lo' hi').run H e = some v) :
    ∃ c, (Instr.sliceAt t (ρ X) (lo.map ρ) (hi.map ρ) none).run P W = .ok c W ∧ VR m v c := by
  obtain ⟨inf, hin, hsz⟩ := size_inv hs
  simp only [ROp.run] at hr
  split at hr
  · rename_i hxe
    split at hr
    · rename_i p hb
      obtain ⟨l, hh⟩ := p
      injection hr with hr; subst hr
      have hxv := hX x hx
      rw [hxe] at hxv
      obtain ⟨g1, g2, g3⟩ := bounds_sim (W := W) (P := P) true hb hlo hhi hL hH (Nat.le_refl _) (Nat.le_refl _)
      have hl0 : l = 0 := by omega
      have hh0 : hh = 0 := by omega
      subst hl0; subst hh0
      generalize ρ X = c at hxv
      cases hxv
      refine ⟨_, ?_, .nils⟩
      simp [Instr.sliceAt, Instr.slice, run_underlying hu, g1, run_sizeOf hin]
    · cases hr
  · rename_i b o len cap hxe
    split at hr
    · rename_i l hh hb
      split at hr
      · rename_i B hB
        split at hr
        · rename_i hes
          injection hr with hr; subst hr
          have hxv := hX x hx
          rw [hxe] at hxv
          obtain ⟨L, a, cap', h1, h2, h3, h4, h5⟩ := slc_inv hxv
          have hcc : cap ≤ cap' := by rcases h4 with h4 | h4 <;> omega
          obtain ⟨g1, g2, g3⟩ := bounds_sim (W := W) (P := P) true hb hlo hhi hL hH hcc h3
          have hLes := h.es b L B h1 hB
          refine ⟨.slice (some (if cap' = l then a else a.add (l * es))) (hh - l) (cap' - l), ?_, ?_⟩
          · rw [h2]
            simp [Instr.sliceAt, Instr.slice, run_underlying hu, g1, run_sizeOf hin, hsz]
            split <;> rfl
          · refine .slc h1 (by omega) ?_ (fun hpos => ?_)
            · rcases h4 with h4 | ⟨h41, h42, h43⟩
              · exact .inl (by omega)
              · refine .inr ⟨by omega, h42, ?_⟩
                rcases hes with hes | hes
                · omega
                · rw [← hes, ← hLes, Nat.add_assoc, ← Nat.add_mul]
                  rw [show l + (cap' - l) = cap' by omega]
                  exact h43
            · rw [if_neg (by omega), h5 (by omega), addr_add, Nat.add_assoc]
        · cases hr
      · cases hr
    · cases hr
  · cases hr
theorem sim_slA {t el : TypeId} {X : Operand} {x : Opd} {n es : Nat} {lo hi : Option Operand} {lo' hi' : Option Opd} {v : AV} (hx : copd gl X = some x) (hX : OpR gl m e ρ X) (hlo : copdO gl lo = some lo') (hhi : copdO gl hi = some hi')
    (hL : ∀ X, lo = some X → OpR gl m e ρ X) (hH : ∀ X, hi = some X → OpR gl m e ρ X) (hu : P.underlying t = some (.array n el)) (hs : sizeT P el = some es) (hr : (ROp.slA n es x lo' hi').run H e = some v) :
    ∃ c, (Instr.sliceAt t (ρ X) (lo.map ρ) (hi.map ρ) none).run P W = .ok c W ∧ VR m v c := by
  obtain ⟨inf, hin, hsz⟩ := size_inv hs
  simp only [ROp.run] at hr
  split at hr
  · rename_i b o hxe
    split at hr
    · rename_i l hh hb
      injection hr with hr; subst hr
      have hxv := hX x hx
      rw [hxe] at hxv
      obtain ⟨L, h1, h2⟩ := ptr_inv hxv
      obtain ⟨g1, g2, g3⟩ := bounds_sim (W := W) (P := P) false hb hlo hhi hL hH (Nat.le_refl _) (Nat.le_refl _)
      refine ⟨.slice (some (if n = l then ⟨L.blk, L.off + o, none⟩ else (⟨L.blk, L.off + o, none⟩ : Addr).add (l * es))) (hh - l) (n - l), ?_, ?_⟩
      · rw [h2]
        simp [Instr.sliceAt, run_underlying hu, g1, run_sizeOf hin, hsz, Instr.sureAddr]
      · refine .slc h1 (by omega) (.inl rfl) (fun hpos => ?_)
        rw [if_neg (by omega), addr_add, Nat.add_assoc]
    · cases hr
  · cases hr
theorem sim_load {t : TypeId} {A : Operand} {a : Opd} {sz : Option Nat} {v : AV} (h : SR P gl base m H W) (ha : copd gl A = some a) (hA : OpR gl m e ρ A) (hz : szT P t = some sz) (hr : (ROp.load sz a).run H e = some v) :
    ∃ c, (Instr.loadAt t (ρ A)).run P W = .ok c W ∧ VR m v c := by
  simp only [ROp.run] at hr
  split at hr
  · rename_i b o hae
    split at hr
    · rename_i B hB
      have hav := hA a ha
      rw [hae] at hav
      obtain ⟨L, h1, h2⟩ := ptr_inv hav
      rw [h2]
      obtain ⟨i, hi, (⟨rfl, hag⟩ | ⟨rfl, hag⟩)⟩ := szT_cases (W := W) hz
      · simp only at hr
        split at hr
        · rename_i cs hcs
          injection hr with hr; subst hr
          obtain ⟨cs', g1, g2, _⟩ := loads P h h1 hB hcs
          exact ⟨.agg cs'.toArray, by simp [Instr.loadAt, Instr.sureAddr, loadVar, hag, run_sizeOf hi, g1], VR.agg' (by simpa using g2)⟩
        · cases hr
      · simp only at hr
        obtain ⟨g1, g2⟩ := row_inv hB
        obtain ⟨c, h3, h4⟩ := h.cell b L B h1 g1 g2 o v hr
        exact ⟨c, by simp [Instr.loadAt, Instr.sureAddr, loadVar, hag, h3], h4⟩
    · cases hr
  · cases hr
theorem sim_strOfBytes {src dst el : TypeId} {X : Operand} {x : Opd} {v : AV} (h : SR P gl base m H W) (hx : copd gl X = some x) (hX : OpR gl m e ρ X) (hus : P.underlying src = some (.slice el)) (hud : P.underlying dst = some .string) (hue : P.underlying el = some (.int .u8))
    (hr : (ROp.strOfBytes x).run H e = some v) : ∃ c, (Go.convert src dst (ρ X)).run P W = .ok c W ∧ VR m v c := by
  simp only [ROp.run] at hr
  have hxv := hX x hx
  split at hr
  · rename_i hxe
    injection hr with hr; subst hr
    rw [hxe] at hxv
    generalize ρ X = c at hxv
    cases hxv
    exact ⟨.string .empty, by simp [Go.convert, run_underlying hus, run_underlying hud, run_underlying hue, Conv.bytesToString], .ofStr rfl⟩
  · rename_i b o len cap hxe
    split at hr
    · rename_i B hB
      split at hr
      · rename_i cs hcs
        split at hr
        · rename_i l hl
          injection hr with hr; subst hr
          rw [hxe] at hxv
          obtain ⟨L, a, cap', h1, h2, h3, h4, h5⟩ := slc_inv hxv
          rw [h2]
          by_cases hlen : len = 0
          · subst hlen
            have hcs0 : cs = [] := List.length_eq_zero_iff.1 (cut_some hcs).2.1
            subst hcs0
            rw [bytesOf] at hl; injection hl with hl; subst hl
            refine ⟨.string .empty, ?_, .ofStr rfl⟩
            simp [Go.convert, run_underlying hus, run_underlying hud, run_underlying hue, Conv.bytesToString, loadCells, loadCellsFrom]
          · have hcc : cap ≤ cap' := by rcases h4 with h4 | h4 <;> omega
            rw [h5 (by omega)]
            obtain ⟨cs', g1, g2, _⟩ := loads P h h1 hB hcs
            obtain ⟨s, g3, g4⟩ := bytes_sim (P := P) (W := W) .empty g2 hl
            refine ⟨.string s, ?_, .ofStr (by rw [g4]; simp)⟩
            simp only [Go.convert, run_underlying hus, run_underlying hud, run_underlying hue, Conv.bytesToString, Sem.run_bind, Result.andThen_ok, g1]
            rw [← Array.forIn_toList]
            rw [show (cs'.toArray).toList = cs' by simp]
            refine (congrArg (fun r => Result.andThen r _) g3).trans ?_
            rfl
        · cases hr
      · cases hr
    · cases hr
  · cases hr
end Go.Proofs.YtcfjjeipdacbcaaDoor.AM
