/-
  Operations that make no memory and write none, all of them.
-/
import Derived.Test.YtcfjjeipdacbcaaDoorAmR2
set_option linter.unusedSimpArgs false
set_option linter.unusedVariables false
namespace Go.Proofs.YtcfjjeipdacbcaaDoor.AM
open Go Go.RowKit

variable {base : Nat} {m : Inj} {H : AHeap} {W : World} {P : Program} {gl : List Nat} {e : Env} {ρ : Operand → Value}

theorem cells_len {v : AV} {c : Value} (h : VR m v c) : v.cells.length = c.cells.size := by simpa using h.cells.1
theorem fill_sim (place : Nat → Option (Nat × Nat)) : ∀ {ps : List (Nat × Operand)} {qs : List (Nat × Nat × Opd)} {cs cs2 : List AV} {ds : Array Value}, cparts gl place ps = some qs → (∀ p ∈ ps, OpR gl m e ρ p.2) →
    LR m cs ds.toList → buildIn cs (qs.map fun p => (p.1, p.2.1, p.2.2.ev e)) = some cs2 → ∃ ds2 : Array Value, Instr.fill place ds (ps.map fun p => (p.1, ρ p.2)) = some ds2 ∧ LR m cs2 ds2.toList
  | [], qs, cs, cs2, ds, h, _, hl, hb => by
    rw [cparts] at h; injection h with h; subst h
    simp only [List.map_nil, buildIn] at hb
    injection hb with hb; subst hb
    exact ⟨ds, rfl, hl⟩
  | (i, X) :: ps, qs, cs, cs2, ds, h, hX, hl, hb => by
    rw [cparts] at h
    split at h
    · rename_i o s y l h1 h2 h3
      injection h with h; subst h
      simp only [List.map_cons, buildIn] at hb
      split at hb
      · rename_i hc
        obtain ⟨hc1, hc2⟩ := hc
        have hv : VR m (y.ev e) (ρ X) := hX (i, X) (by simp) y h2
        have hlen := cells_len hv
        have hds : cs.length = ds.size := by simpa using hl.1
        simp only [List.map_cons, Instr.fill, h1]
        have hno : ¬ ((ρ X).cells.size ≠ s ∨ o + (ρ X).cells.size > ds.size) := by
          intro hh
          rcases hh with hh | hh
          · exact hh (by omega)
          · omega
        have e1 : (decide ((ρ X).cells.size ≠ s) || decide (o + (ρ X).cells.size > ds.size)) = false := by
          simp only [Bool.or_eq_false_iff, decide_eq_false_iff_not]
          exact ⟨fun hh => hno (.inl hh), fun hh => hno (.inr hh)⟩
        simp only [e1, Bool.false_eq_true, if_false]
        refine fill_sim place h3 (fun p hp => hX p (by simp [hp])) ?_ hb
        have := hl.over (o := o) hv.cells
        have e2 : ((ρ X).cells.zipIdx.foldl (fun cs (x : Value × Nat) => cs.setIfInBounds (o + x.2) x.1) ds).toList = (ρ X).cells.toList.zipIdx.foldl (fun cs (x : Value × Nat) => cs.set (o + x.2) x.1) ds.toList := by
          rw [← Array.foldl_toList, Array.toList_zipIdx]
          generalize (ρ X).cells.toList.zipIdx = l
          clear hb this hno e1 hds hl
          induction l generalizing ds with
          | nil => rfl
          | cons a l ih => simp only [List.foldl_cons]; rw [ih]; simp
        rw [e2]
        exact this
      · cases hb
    · cases h
theorem cparts_mem {place : Nat → Option (Nat × Nat)} {ps : List (Nat × Operand)} {o : Oper} (h : ∀ X ∈ (ps.map (·.2)), OpR gl m e ρ X) : ∀ p ∈ ps, OpR gl m e ρ p.2 := fun p hp => h p.2 (List.mem_map_of_mem hp)
theorem ofScalar_vr {v : Value} {a : AV} (h : AV.ofScalar v = some a) : VR m a v := by
  unfold AV.ofScalar at h
  split at h <;> cases h <;> constructor
theorem ofScalars_lr : ∀ {vs : List Value} {as : List AV}, ofScalars vs = some as → LR m as vs
  | [], as, h => by rw [ofScalars] at h; injection h with h; subst h; exact LR.nil m
  | v :: vs, as, h => by
    rw [ofScalars] at h
    split at h
    · rename_i a ha
      split at h
      · rename_i bs hb
        injection h with h; subst h
        exact LR.cons (ofScalar_vr ha) (ofScalars_lr hb)
      · cases h
    · cases h
theorem ofConst_vr {v : Value} {a : AV} (h : AV.ofConst v = some a) : VR m a v := by
  unfold AV.ofConst at h
  split at h
  · rename_i cs
    rw [Option.map_eq_some_iff] at h
    obtain ⟨l, h1, rfl⟩ := h
    exact VR.agg' (ofScalars_lr h1)
  · rename_i vs
    rw [Option.map_eq_some_iff] at h
    obtain ⟨l, h1, rfl⟩ := h
    exact VR.tup' (ofScalars_lr h1)
  · exact ofScalar_vr h
theorem zero_inv {t : TypeId} {z : List AV} (h : zeroT P t = some z) : ∃ i v, P.info? t = some i ∧ i.zero = some v ∧ LR m z v.cells.toList := by
  unfold zeroT at h
  rw [Option.bind_eq_some_iff] at h
  obtain ⟨v, h1, h2⟩ := h
  rw [Option.bind_eq_some_iff] at h1
  obtain ⟨i, h3, h4⟩ := h1
  exact ⟨i, v, h3, h4, ofScalars_lr h2⟩
theorem run_zero {t : TypeId} {i : TypeInfo} {v : Value} (hi : P.info? t = some i) (hv : i.zero = some v) : (zeroValue t).run P W = .ok v W := by simp [zeroValue, typeInfo, hi, hv]
theorem size_inv {t : TypeId} {s : Nat} (h : sizeT P t = some s) : ∃ i, P.info? t = some i ∧ i.size = s := by
  unfold sizeT at h
  rw [Option.map_eq_some_iff] at h
  exact h
theorem min2_sim {x y v : AV} {c d : Value} (hx : VR m x c) (hy : VR m y d) (h : mnmx2 false x y = some v) : ∃ r, (Builtin.min2 c d).run P W = .ok r W ∧ VR m v r := by
  unfold mnmx2 at h
  split at h
  · rename_i k a j b
    split at h
    · rename_i hk; subst hk
      injection h with h; subst h
      rw [int_inv hx, int_inv hy]
      exact ⟨_, rfl, .int _ _⟩
    · cases h
  · cases h
theorem max2_sim {x y v : AV} {c d : Value} (hx : VR m x c) (hy : VR m y d) (h : mnmx2 true x y = some v) : ∃ r, (Builtin.max2 c d).run P W = .ok r W ∧ VR m v r := by
  unfold mnmx2 at h
  split at h
  · rename_i k a j b
    split at h
    · rename_i hk; subst hk
      injection h with h; subst h
      rw [int_inv hx, int_inv hy]
      exact ⟨_, rfl, .int _ _⟩
    · cases h
  · cases h
theorem mnmxL_sim (b : Bool) : ∀ {xs : List AV} {cs : List Value} {x v : AV} {c : Value}, VR m x c → LR m xs cs → mnmxL b x xs = some v → ∃ r, (cs.foldlM (if b then Builtin.max2 else Builtin.min2) c).run P W = .ok r W ∧ VR m v r
  | [], cs, x, v, c, hx, hl, h => by
    rw [hl.nil_inv]; simp only [mnmxL] at h; injection h with h; subst h; exact ⟨c, rfl, hx⟩
  | y :: xs, cs, x, v, c, hx, hl, h => by
    obtain ⟨d, ds, rfl, hd, hl'⟩ := hl.cons_inv
    simp only [mnmxL] at h
    split at h
    · rename_i u hu
      have : ∃ r, ((if b then Builtin.max2 else Builtin.min2) c d).run P W = .ok r W ∧ VR m u r := by
        cases b
        · exact min2_sim hx hd hu
        · exact max2_sim hx hd hu
      obtain ⟨r, h1, h2⟩ := this
      obtain ⟨r', h3, h4⟩ := mnmxL_sim b h2 hl' h
      exact ⟨r', by simp only [List.foldlM_cons, Sem.run_bind, h1, Result.andThen_ok]; exact h3, h4⟩
    · cases h
theorem bytes_sim : ∀ {cs : List AV} {ds : List Value} {l : List UInt8} (acc : ByteArray), LR m cs ds → bytesOf cs = some l →
    ∃ s : ByteArray, (forIn (m := Sem) ds acc (fun c (s : ByteArray) => (match c with
      | .int .u8 n => pure (ForInStep.yield (s.push (UInt8.ofNat n.toNat)))
      | _ => do
        stuck "bytesToString: byte expected"
        pure (ForInStep.yield s) : Sem (ForInStep ByteArray)))).run P W = .ok s W ∧ s.data.toList = acc.data.toList ++ l
  | [], ds, l, acc, hl, h => by
    rw [hl.nil_inv]; rw [bytesOf] at h; injection h with h; subst h; exact ⟨acc, rfl, by simp⟩
  | c :: cs, ds, l, acc, hl, h => by
    obtain ⟨d, ds', rfl, hd, hl'⟩ := hl.cons_inv
    unfold bytesOf at h
    split at h
    · rename_i h1; cases h1
    · rename_i n r h1
      injection h1 with h1 h1'; subst h1; subst h1'
      rw [int_inv hd]
      split at h
      · rename_i l' hl''
        injection h with h; subst h
        obtain ⟨s, h2, h3⟩ := bytes_sim (acc.push (UInt8.ofNat n.toNat)) hl' hl''
        refine ⟨s, ?_, by rw [h3]; simp⟩
        simp only [List.forIn_cons, Sem.run_bind, Sem.run_pure, Result.andThen_ok]
        exact h2
      · cases h
    · cases h
/-- which kind of type a key is of -/
def kindFits : TypeDesc → AV → Prop
  | .int _, .int _ _ | .string, .str _ | .bool, .bool _ => True
  | _, _ => False
theorem kind_fits {t : TypeId} {kk : Nat} {k : AV} (ht : keyKindT P t = some kk) (hk : isKind kk k = true) : ∃ D, P.underlying t = some D ∧ kindFits D k := by
  unfold keyKindT at ht
  split at ht
  · rename_i hu; injection ht with ht; subst ht; refine ⟨_, hu, ?_⟩; cases k <;> simp [isKind] at hk; trivial
  · rename_i hu; injection ht with ht; subst ht; refine ⟨_, hu, ?_⟩; cases k <;> simp [isKind] at hk; trivial
  · rename_i hu; injection ht with ht; subst ht; refine ⟨_, hu, ?_⟩; cases k <;> simp [isKind] at hk; trivial
  · cases ht
/-- a map's keys: plain numbers, strings, bools -/
theorem key_ok {D : TypeDesc} {k : AV} {c : Value} (b : Bool) (t : TypeId) (hu : P.underlying t = some D) (hk : kindFits D k) (hv : VR m k c) (n : Nat) : (Instr.checkKey b (n + 1) t c).run P W = .ok () W := by
  cases D <;> cases k <;> simp only [kindFits] at hk <;> cases hv <;> simp [Instr.checkKey, run_underlying hu]
theorem find_sim {D : TypeDesc} {k : AV} {kc : Value} (hk : VR m k kc) (hf : kindFits D k) : ∀ {es : List (AV × AV)} {xs : List MapEntry} {i : Nat} {r : Option (Nat × AV)}, es.length = xs.length →
    (∀ (j : Nat) (a b : AV) (E : MapEntry), es[j]? = some (a, b) → xs[j]? = some E → VR m a E.key ∧ VR m b E.val) → findKey k es i = some r →
    (r = none ∧ Instr.findNow D kc xs i = some none) ∨ ∃ j v c, r = some (j, v) ∧ i ≤ j ∧ Instr.findNow D kc xs i = some (some (j, c)) ∧ VR m v c ∧ (∃ E, xs[j - i]? = some E ∧ VR m k E.key)
  | [], xs, i, r, hl, _, h => by
    rw [findKey] at h; injection h with h; subst h
    have : xs = [] := List.length_eq_zero_iff.1 (by simpa using hl.symm)
    subst this
    exact .inl ⟨rfl, rfl⟩
  | (a, b) :: es, xs, i, r, hl, hE, h => by
    match xs, hl with
    | E :: xs, hl =>
    have hl' : es.length = xs.length := by simpa using hl
    obtain ⟨ha, hb⟩ := hE 0 a b E rfl rfl
    have hE' : ∀ (j : Nat) (a b : AV) (E : MapEntry), es[j]? = some (a, b) → xs[j]? = some E → VR m a E.key ∧ VR m b E.val := fun j a b E' h1 h2 => hE (j + 1) a b E' (by simpa using h1) (by simpa using h2)
    rw [findKey] at h
    have same : ∀ q, keyEq k a = some q → Instr.sameNow D kc E.key = some q ∧ (q = true → k = a) := by
      intro q hq
      unfold keyEq at hq
      split at hq
      · rename_i kd x jd y
        split at hq
        · rename_i he; subst he
          injection hq with hq; subst hq
          rw [int_inv hk, int_inv ha]
          cases D <;> simp only [kindFits] at hf
          exact ⟨by simp [Instr.sameNow], fun hh => by have := eq_of_beq hh; rw [this]⟩
        · cases hq
      · injection hq with hq; subst hq
        rename_i x y
        obtain ⟨s, rfl, hs⟩ := str_inv hk
        obtain ⟨s', hs1, hs2⟩ := str_inv ha
        rw [hs1]
        cases D <;> simp only [kindFits] at hf
        refine ⟨?_, fun hh => by have := eq_of_beq hh; rw [this]⟩
        simp only [Instr.sameNow, beq_toListBytes, ByteArray.toList_eq, hs, hs2]
      · injection hq with hq; subst hq
        rw [bool_inv hk, bool_inv ha]
        cases D <;> simp only [kindFits] at hf
        exact ⟨by simp [Instr.sameNow], fun hh => by have := eq_of_beq hh; rw [this]⟩
      · cases hq
    split at h
    · rename_i hq
      injection h with h; subst h
      obtain ⟨h1, h2⟩ := same true hq
      refine .inr ⟨i, b, E.val, rfl, Nat.le_refl _, by simp [Instr.findNow, h1], hb, E, by simp, by rw [h2 rfl]; exact ha⟩
    · rename_i hq
      obtain ⟨h1, _⟩ := same false hq
      rcases find_sim hk hf hl' hE' h with ⟨h2, h3⟩ | ⟨j, v, c, h2, h3, h4, h5, E', h6, h7⟩
      · exact .inl ⟨h2, by simp [Instr.findNow, h1, h3]⟩
      · refine .inr ⟨j, v, c, h2, by omega, by simp [Instr.findNow, h1, h4], h5, E', ?_, h7⟩
        rw [show j - i = (j - (i + 1)) + 1 by omega]; simpa using h6
    · cases h
theorem run_findKey {kt : TypeId} {D : TypeDesc} (hu : P.underlying kt = some D) {kc : Value} {xs : List MapEntry} {r : Option (Nat × Value)} (h : Instr.findNow D kc xs 0 = some r) : (Instr.findKey kt kc xs).run P W = .ok r W := by
  simp [Instr.findKey, run_underlying hu, h]
end Go.Proofs.YtcfjjeipdacbcaaDoor.AM
