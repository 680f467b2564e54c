/-
  == of structs that are made of plain numbers, bools and strings.
-/
import Derived.Test.YtdkpmlhbofgfdaaGreatDoorAmVal
set_option linter.unusedSimpArgs false
set_option linter.unusedVariables false
namespace Go.Proofs.YtdkpmlhbofgfdaaGreatDoor.AM
open Go Go.RowKit

variable {m : Inj} {W : World} {P : Program}

theorem cellsEq_append : ∀ (k1 : List Nat) (x1 y1 : List AV) (k2 : List Nat) (x2 y2 : List AV) (b : Bool), k1.length = x1.length → x1.length = y1.length → cellsEq (k1 ++ k2) (x1 ++ x2) (y1 ++ y2) = some b →
    (cellsEq k1 x1 y1 = some true ∧ cellsEq k2 x2 y2 = some b) ∨ (cellsEq k1 x1 y1 = some false ∧ b = false)
  | [], [], [], k2, x2, y2, b, _, _, h => .inl ⟨rfl, h⟩
  | _ :: _, [], _, _, _, _, _, h, _, _ => by simp at h
  | [], _ :: _, _, _, _, _, _, h, _, _ => by simp at h
  | _, [], _ :: _, _, _, _, _, _, h, _ => by simp at h
  | _, _ :: _, [], _, _, _, _, _, h, _ => by simp at h
  | k :: k1, a :: x1, c :: y1, k2, x2, y2, b, hk, hl, h => by
    have hl' : x1.length = y1.length := by simpa using hl
    have hk' : k1.length = x1.length := by simpa using hk
    simp only [List.cons_append] at h
    have ih := cellsEq_append k1 x1 y1 k2 x2 y2 b hk' hl'
    generalize cellsEq k2 x2 y2 = C at ih ⊢
    unfold cellsEq at h ⊢
    split at h
    · rename_i h1 _ _; cases h1
    · rename_i e1 e2 e3
      injection e1 with e1 e1'; injection e2 with e2 e2'; injection e3 with e3 e3'
      subst e1; subst e2; subst e3; subst e1'; subst e2'; subst e3'
      split at h
      · rename_i he
        simp only [he, if_true]
        exact ih h
      · rename_i he
        simp only [he, if_false]
        injection h with h
        exact .inr ⟨by simp, h.symm⟩
    · rename_i e1 e2 e3
      injection e1 with e1 e1'; injection e2 with e2 e2'; injection e3 with e3 e3'
      subst e1; subst e2; subst e3; subst e1'; subst e2'; subst e3'
      split at h
      · rename_i hkk
        simp only [hkk, if_true]
        split at h
        · rename_i he
          simp only [he, if_true]
          exact ih h
        · rename_i he
          simp only [he, if_false]
          injection h with h
          exact .inr ⟨by simp, h.symm⟩
      · cases h
    · rename_i e1 e2 e3
      injection e1 with e1 e1'; injection e2 with e2 e2'; injection e3 with e3 e3'
      subst e1; subst e2; subst e3; subst e1'; subst e2'; subst e3'
      split at h
      · rename_i he
        simp only [he, if_true]
        exact ih h
      · rename_i he
        simp only [he, if_false]
        injection h with h
        exact .inr ⟨by simp, h.symm⟩
    · cases h

theorem run_part_agg (P : Program) (W : World) {t : TypeId} {fs : Array Field} (ht : P.underlying t = some (.struct fs)) (cs : Array Value) (off : Nat) (hi : ∃ i, P.info? t = some i) :
    (part t cs off).run P W = .ok (.agg (cs.extract off (off + P.cellsOf t))) W := by
  obtain ⟨i, hi⟩ := hi
  simp [part, isAgg, run_underlying ht, sizeOf, typeInfo, hi, Program.cellsOf]
theorem run_part_one (P : Program) (W : World) {t : TypeId} {D : TypeDesc} (ht : P.underlying t = some D) (hD : D = .bool ∨ (∃ k, D = .int k) ∨ D = .string) (cs : Array Value) (off : Nat) {v : Value} (hv : cs[off]? = some v) :
    (part t cs off).run P W = .ok v W := by
  rcases hD with rfl | ⟨k, rfl⟩ | rfl <;> simp [part, isAgg, run_underlying ht, hv]
theorem info_of_underlying {t : TypeId} {D : TypeDesc} (h : P.underlying t = some D) : ∃ i, P.info? t = some i := by
  unfold Program.underlying at h
  cases hi : P.info? t with
  | none => simp [hi] at h
  | some i => exact ⟨i, rfl⟩

/-- the fields one behind the other, from a place on -/
def packedFrom (P : Program) (n : Nat) : Nat → List Field → Option Nat
  | o, [] => some o
  | o, f :: fs => if f.offset = o ∧ packedT P n f.type = true then packedFrom P n (o + P.cellsOf f.type) fs else none
theorem packed_fold (P : Program) (n : Nat) : ∀ (fs : List Field) (o e : Nat) (q : Bool), fs.foldl (fun (s : Nat × Bool) f => (s.1 + P.cellsOf f.type, s.2 && f.offset == s.1 && packedT P n f.type)) (o, q) = (e, true) →
    q = true ∧ packedFrom P n o fs = some e
  | [], o, e, q, h => by simp at h; exact ⟨h.2, by rw [packedFrom, h.1]⟩
  | f :: fs, o, e, q, h => by
    simp only [List.foldl_cons] at h
    obtain ⟨h1, h2⟩ := packed_fold P n fs _ _ _ h
    simp only [Bool.and_eq_true, beq_iff_eq] at h1
    exact ⟨h1.1.1, by rw [packedFrom, if_pos ⟨h1.1.2, h1.2⟩]; exact h2⟩

theorem packedFrom_le (P : Program) (n : Nat) : ∀ (fs : List Field) (o e : Nat), packedFrom P n o fs = some e → o ≤ e
  | [], o, e, h => by simp [packedFrom] at h; omega
  | f :: fs, o, e, h => by
    rw [packedFrom] at h
    split at h
    · have := packedFrom_le P n fs _ _ h; omega
    · cases h

theorem flat_len (P : Program) : ∀ (n : Nat) (t : TypeId) (ks : List Nat), flatT P n t = some ks → packedT P n t = true → ks.length = P.cellsOf t := by
  intro n
  induction n with
  | zero => intro t ks h; simp [flatT] at h
  | succ n ih =>
    intro t ks hf hp
    rw [flatT] at hf
    rw [packedT] at hp
    split at hf
    · rename_i hD; rw [hD] at hp; injection hf with hf; subst hf; simpa using (by simpa using hp : P.cellsOf t = 1).symm
    · rename_i hD; rw [hD] at hp; injection hf with hf; subst hf; simpa using (by simpa using hp : P.cellsOf t = 1).symm
    · rename_i hD; rw [hD] at hp; injection hf with hf; subst hf; simpa using (by simpa using hp : P.cellsOf t = 1).symm
    · rename_i fs hD
      rw [hD] at hp
      split at hf
      · cases hf
      · have hp' := packed_fold P n fs.toList 0 (P.cellsOf t) true (by simpa using hp)
        have key : ∀ (l : List Field) (o e : Nat) (ks : List Nat), packedFrom P n o l = some e → flatFields (flatT P n) l = some ks → o + ks.length = e := by
          intro l
          induction l with
          | nil => intro o e ks h1 h2; simp only [packedFrom, flatFields, Option.some.injEq] at h1 h2; subst h2; simpa using h1
          | cons f l ihl =>
            intro o e ks h1 h2
            rw [packedFrom] at h1
            rw [flatFields] at h2
            split at h1
            · rename_i hc
              split at h2
              · cases h2
              · split at h2
                · rename_i a b ha hb
                  injection h2 with h2
                  subst h2
                  have := ihl _ _ _ h1 hb
                  have := ih f.type a ha hc.2
                  simp only [List.length_append]
                  omega
                · cases h2
            · cases h1
        have := key fs.toList 0 _ ks hp'.2 hf
        omega
    · cases hf

theorem sim_flat (P : Program) (W : World) : ∀ (n : Nat) (t : TypeId) (ks : List Nat), flatT P n t = some ks → packedT P n t = true → ∀ (d : Nat), n ≤ d → ∀ (x y : List AV) (xs ys : List Value) (b : Bool), LR m x xs → LR m y ys →
    x.length = P.cellsOf t → y.length = P.cellsOf t → cellsEq ks x y = some b →
    (∃ fs, P.underlying t = some (.struct fs) ∧ (Op.equalIn d t (.agg xs.toArray) (.agg ys.toArray)).run P W = .ok b W) ∨
    (∃ D u v, P.underlying t = some D ∧ (D = .bool ∨ (∃ k, D = .int k) ∨ D = .string) ∧ xs = [u] ∧ ys = [v] ∧ (Op.equalIn d t u v).run P W = .ok b W) := by
  intro n
  induction n with
  | zero => intro t ks h; simp [flatT] at h
  | succ n ih =>
    intro t ks hf hp d hd x y xs ys b hx hy hlx hly hb
    obtain ⟨d, rfl⟩ : ∃ k, d = k + 1 := ⟨d - 1, by omega⟩
    rw [flatT] at hf
    rw [packedT] at hp
    have scalar : ∀ D, P.underlying t = some D → P.cellsOf t = 1 → ∃ x0 y0 u v, x = [x0] ∧ y = [y0] ∧ xs = [u] ∧ ys = [v] ∧ VR m x0 u ∧ VR m y0 v := by
      intro D hD h1
      rw [h1] at hlx hly
      match x, hlx with
      | [x0], _ =>
      match y, hly with
      | [y0], _ =>
      obtain ⟨u, zs, rfl, hu, hz⟩ := hx.cons_inv
      obtain rfl := hz.nil_inv
      obtain ⟨v, zs, rfl, hv, hz⟩ := hy.cons_inv
      obtain rfl := hz.nil_inv
      exact ⟨x0, y0, u, v, rfl, rfl, rfl, rfl, hu, hv⟩
    split at hf
    · rename_i hD
      rw [hD] at hp
      injection hf with hf; subst hf
      obtain ⟨x0, y0, u, v, rfl, rfl, rfl, rfl, hu, hv⟩ := scalar _ hD (by simpa using hp)
      refine .inr ⟨_, u, v, hD, .inl rfl, rfl, rfl, ?_⟩
      cases x0 <;> cases y0 <;> simp only [cellsEq, reduceCtorEq] at hb
      cases hu; cases hv
      rw [run_equalIn_bool' W d t _ _ hD]
      split at hb <;> injection hb with hb <;> subst hb <;> simp [*]
    · rename_i k hD
      rw [hD] at hp
      injection hf with hf; subst hf
      obtain ⟨x0, y0, u, v, rfl, rfl, rfl, rfl, hu, hv⟩ := scalar _ hD (by simpa using hp)
      refine .inr ⟨_, u, v, hD, .inr (.inl ⟨k, rfl⟩), rfl, rfl, ?_⟩
      cases x0 <;> cases y0 <;> simp only [cellsEq, reduceCtorEq] at hb
      cases hu; cases hv
      split at hb
      · rename_i hkk
        subst hkk
        rw [run_equalIn_int W d t _ _ _ _ hD]
        split at hb <;> injection hb with hb <;> subst hb <;> simp [*]
      · cases hb
    · rename_i hD
      rw [hD] at hp
      injection hf with hf; subst hf
      obtain ⟨x0, y0, u, v, rfl, rfl, rfl, rfl, hu, hv⟩ := scalar _ hD (by simpa using hp)
      refine .inr ⟨_, u, v, hD, .inr (.inr rfl), rfl, rfl, ?_⟩
      cases x0 <;> cases y0 <;> simp only [cellsEq, reduceCtorEq] at hb
      obtain ⟨s, rfl, rfl⟩ := str_inv hu
      obtain ⟨s', rfl, rfl⟩ := str_inv hv
      rw [run_equalIn_string W d t _ _ hD, ByteArray.toList_eq, ByteArray.toList_eq]
      split at hb
      · rename_i he; injection hb with hb; subst hb; rw [he]; simp
      · rename_i he; injection hb with hb; subst hb; rw [beq_eq_false_iff_ne.2 he]
    · rename_i fs hD
      rw [hD] at hp
      split at hf
      · cases hf
      · rename_i hst
        have hst : P.stoodInHeld t = false := by simpa using hst
        have hp' := packed_fold P n fs.toList 0 (P.cellsOf t) true (by simpa using hp)
        refine .inl ⟨fs, hD, ?_⟩
        have hfo : P.fieldsOf t = fs := by unfold Program.fieldsOf; rw [hD]
        rw [run_equalIn_struct W d t _ _ (by rw [hfo]; exact hD) hst, hfo]
        have key : ∀ (l : List Field) (o : Nat) (ks : List Nat), flatFields (flatT P n) l = some ks → packedFrom P n o l = some (P.cellsOf t) → ∀ b, cellsEq ks (x.drop o) (y.drop o) = some b → (Op.eqFields d xs.toArray ys.toArray l).run P W = .ok b W := by
          intro l
          induction l with
          | nil =>
            intro o ks hk ho b hb
            rw [packedFrom] at ho
            injection ho with ho
            rw [flatFields] at hk
            injection hk with hk
            subst hk
            rw [List.drop_eq_nil_of_le (by omega), List.drop_eq_nil_of_le (by omega)] at hb
            simp only [cellsEq] at hb
            injection hb with hb
            subst hb
            simp [Op.eqFields]
          | cons f l ihl =>
            intro o ks hk ho b hb
            rw [packedFrom] at ho
            rw [flatFields] at hk
            split at ho
            · rename_i hfo'
              obtain ⟨hoff, hpk⟩ := hfo'
              split at hk
              · cases hk
              · rename_i hname
                have hname : ¬ f.name = "_" := by simpa using hname
                split at hk
                · rename_i k1 k2 hflat hk2
                  injection hk with hk
                  subst hk
                  have hend := packedFrom_le P n l _ _ ho
                  have e1 : x.drop o = (x.drop o).take (P.cellsOf f.type) ++ x.drop (o + P.cellsOf f.type) := by
                    conv => lhs; rw [← List.take_append_drop (P.cellsOf f.type) (x.drop o)]
                    rw [List.drop_drop]
                  have e2 : y.drop o = (y.drop o).take (P.cellsOf f.type) ++ y.drop (o + P.cellsOf f.type) := by
                    conv => lhs; rw [← List.take_append_drop (P.cellsOf f.type) (y.drop o)]
                    rw [List.drop_drop]
                  have hlx2 : ((x.drop o).take (P.cellsOf f.type)).length = P.cellsOf f.type := by simp; omega
                  have hly2 : ((y.drop o).take (P.cellsOf f.type)).length = P.cellsOf f.type := by simp; omega
                  rw [e1, e2] at hb
                  have hrest := ihl (o + P.cellsOf f.type) k2 hk2 ho
                  have hc := cellsEq_append _ _ _ _ _ _ b (by rw [hlx2]; exact flat_len P n _ _ hflat hpk) (by rw [hlx2, hly2]) hb
                  have hfield : ∀ b', cellsEq k1 ((x.drop o).take (P.cellsOf f.type)) ((y.drop o).take (P.cellsOf f.type)) = some b' →
                      ∃ u v, (part f.type xs.toArray f.offset).run P W = .ok u W ∧ (part f.type ys.toArray f.offset).run P W = .ok v W ∧ (Op.equalIn d f.type u v).run P W = .ok b' W := by
                    intro b' hb'
                    rcases ih f.type k1 hflat hpk d (by omega) _ _ _ _ b' ((hx.drop o).take _) ((hy.drop o).take _) hlx2 hly2 hb' with ⟨gs, hg, hrun⟩ | ⟨D, u, v, hD', hk, hxu, hyv, hrun⟩
                    · refine ⟨_, _, run_part_agg P W hg _ _ (info_of_underlying hg), run_part_agg P W hg _ _ (info_of_underlying hg), ?_⟩
                      rw [hoff]
                      have ex : ∀ zs : List Value, (zs.toArray.extract o (o + P.cellsOf f.type)) = ((zs.drop o).take (P.cellsOf f.type)).toArray := by
                        intro zs
                        apply Array.ext'
                        simp [List.extract_eq_take_drop]
                      rw [ex, ex]
                      exact hrun
                    · have gx : xs.toArray[f.offset]? = some u := by
                        have h0 : ((xs.drop o).take (P.cellsOf f.type))[0]? = some u := by rw [hxu]; rfl
                        rw [List.getElem?_take] at h0
                        split at h0
                        · rw [hoff]; simpa using h0
                        · cases h0
                      have gy : ys.toArray[f.offset]? = some v := by
                        have h0 : ((ys.drop o).take (P.cellsOf f.type))[0]? = some v := by rw [hyv]; rfl
                        rw [List.getElem?_take] at h0
                        split at h0
                        · rw [hoff]; simpa using h0
                        · cases h0
                      exact ⟨u, v, run_part_one P W hD' hk _ _ gx, run_part_one P W hD' hk _ _ gy, hrun⟩
                  rcases hc with ⟨h1, h2⟩ | ⟨h1, rfl⟩
                  · obtain ⟨u, v, r1, r2, r3⟩ := hfield true h1
                    simp only [Op.eqFields, hname, ne_eq, not_false_eq_true, if_true, Sem.run_bind, r1, r2, r3, Result.andThen_ok, Bool.not_true, Bool.false_eq_true, if_false]
                    exact hrest b h2
                  · obtain ⟨u, v, r1, r2, r3⟩ := hfield false h1
                    simp only [Op.eqFields, hname, ne_eq, not_false_eq_true, if_true, Sem.run_bind, r1, r2, r3, Result.andThen_ok, Bool.not_false, if_true, Sem.run_pure]
                · cases hk
            · cases ho
        exact key fs.toList 0 ks hf hp'.2 b (by simpa using hb)
    · cases hf
end Go.Proofs.YtdkpmlhbofgfdaaGreatDoor.AM
