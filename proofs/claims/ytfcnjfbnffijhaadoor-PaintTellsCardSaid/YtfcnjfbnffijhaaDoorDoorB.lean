/-
  A table of rows of numbers, as a row's condition lays it; answers that are known of a list of calls.
-/
import Derived.Test.YtfcnjfbnffijhaaDoorDoorA
set_option linter.unusedVariables false
set_option linter.unusedSimpArgs false
namespace Go.Proofs.YtfcnjfbnffijhaaDoor.AM
open Go Go.RowKit
def tabData2 {H : Type} (k : IntKind) (zss : List (List Int)) : DataW H := .agg (zss.map fun zs => Lib.tabData k zs)
theorem flat_at {α β : Type} {f : α → β} {m : Nat} : ∀ {zss : List (List α)}, (∀ zs ∈ zss, zs.length = m) → ∀ (q r : Nat), r < m → (zss.flatMap fun zs => zs.map f)[q * m + r]? = (zss[q]?).bind fun zs => (zs[r]?).map f
  | [], _, q, r, _ => by simp
  | z :: zss, h, q, r, hr => by
    have hz : (z.map f).length = m := by simp [h z (by simp)]
    rw [List.flatMap_cons]
    cases q with
    | zero =>
      rw [Nat.zero_mul, Nat.zero_add, List.getElem?_append_left (by omega)]
      simp
    | succ q =>
      rw [List.getElem?_append_right (by rw [hz, Nat.succ_mul]; omega), hz, show (q + 1) * m + r - m = q * m + r by rw [Nat.succ_mul]; omega, flat_at (fun zs hzs => h zs (by simp [hzs])) q r hr]
      simp
theorem cells_of_tab2 {H : Type} {enc : TypeId × Value → H} {P : Program} {w : World} {base : Nat} {sp : Nat → Bool} {held : Bool} {fuel : Nat} {t e e2 : TypeId} {n m : Nat} {k : IntKind} {cs : List Value} {zss : List (List Int)} {p : List MemPlace}
    (ht : P.underlying t = some (.array n e)) (he : P.underlying e = some (.array m e2)) (he2 : P.underlying e2 = some (.int k)) (hce2 : P.cellsOf e2 = 1) (hce : P.cellsOf e = m) (hct : P.cellsOf t = n * m) (hm0 : 0 < m) (hlen : ∀ zs ∈ zss, zs.length = m)
    (h : DataW.trod enc P w base sp held fuel t cs = some (tabData2 k zss, p)) : cs = zss.flatMap fun zs => zs.map fun z => Value.int k z := by
  cases fuel with
  | zero => simp [DataW.trod] at h
  | succ fuel =>
    simp only [DataW.trod, ht, hce, hct] at h
    split at h
    · rename_i hl
      obtain ⟨xs, hm, hx⟩ := Option.map_eq_some_iff.1 h
      have hxs : xs.map (·.1) = zss.map fun zs => (Lib.tabData k zs : DataW H) := by
        have := congrArg Prod.fst hx
        simpa [tabData2] using this
      have hxl : xs.length = n := by simpa using Lib.mapM_length hm
      have hzl : zss.length = n := by
        have := congrArg List.length hxs
        simp at this
        omega
      have hfl : (zss.flatMap fun zs => zs.map fun z => Value.int k z).length = n * m := by
        rw [← hzl]
        clear hxs hzl hm hx h hl hxl
        induction zss with
        | nil => simp
        | cons z zss ih =>
          have h1 := ih (fun zs hzs => hlen zs (by simp [hzs]))
          have h2 := hlen z (by simp)
          rw [List.flatMap_cons, List.length_append, h1, List.length_map, h2, List.length_cons, Nat.succ_mul]; omega
      apply List.ext_getElem?
      intro i
      by_cases hi : i < n * m
      · obtain ⟨q, r, hqr, hr, hq⟩ : ∃ q r, i = q * m + r ∧ r < m ∧ q < n := by
          refine ⟨i / m, i % m, ?_, Nat.mod_lt _ hm0, ?_⟩
          · rw [Nat.mul_comm]; exact (Nat.div_add_mod i m).symm
          · exact Nat.div_lt_of_lt_mul (by rw [Nat.mul_comm]; exact hi)
        obtain ⟨b, hb, hf⟩ := Lib.mapM_at hm q q (by simp [hq])
        obtain ⟨zs, hzs⟩ : ∃ zs, zss[q]? = some zs := ⟨_, List.getElem?_eq_getElem (by omega)⟩
        have h2 : (xs.map (·.1))[q]? = some b.1 := by simp [hb]
        rw [hxs] at h2
        simp only [List.getElem?_map, hzs, Option.map_some, Option.some.injEq] at h2
        have hc := Lib.cells_of_tab (k := k) (zs := zs) (p := b.2) he he2 hce2 hce (by rw [hf]; exact congrArg some (Prod.ext h2.symm rfl))
        rw [hqr, flat_at hlen q r hr, hzs]
        have h3 := congrArg (·[r]?) hc
        simp only [List.getElem?_take, if_pos hr, List.getElem?_drop, List.getElem?_map] at h3
        rw [h3]
        rfl
      · rw [List.getElem?_eq_none (by omega), List.getElem?_eq_none (by omega)]
    · cases h
theorem vars_tab2 {P : Program} {W : World} {name : String} {k : IntKind} {zss : List (List Int)} {zs : List Int} {rest : List (String × DataW Unit)} {g : Nat} {t e e2 : TypeId} {n m : Nat} {ps : List MemPlace}
    (hg : P.globalNamed name = some g) (hty : (P.globals[g]?).map (·.type) = some t) (ht : P.underlying t = some (.array n e)) (he : P.underlying e = some (.array m e2)) (he2 : P.underlying e2 = some (.int k)) (hce2 : P.cellsOf e2 = 1) (hce : P.cellsOf e = m) (hct : P.cellsOf t = n * m) (hm0 : 0 < m) (hlen : ∀ zs ∈ zss, zs.length = m)
    (hz : zss.flatten = zs) (h : DataW.LaidVars P W ((name, tabData2 k zss) :: rest) ps) : Lib.TabIs P W name k zs ∧ ∃ q, DataW.LaidVars P W rest q := by
  obtain ⟨g', t', cs, fuel, p, q, hg', ht', hvar, hd, hr, _⟩ := h
  obtain rfl := Option.some.inj (hg.symm.trans hg')
  obtain rfl := Option.some.inj (hty.symm.trans ht')
  refine ⟨?_, q, hr⟩
  unfold Lib.TabIs
  have hc := cells_of_tab2 ht he he2 hce2 hce hct hm0 hlen hd
  have e : (zss.flatMap fun zs => zs.map fun z => Value.int k z) = zs.map fun z => Value.int k z := by rw [← hz, List.map_flatten, List.flatMap_def]
  rw [hvar, ← e, ← hc]
theorem vars_skip {P : Program} {W : World} {name : String} {d : DataW Unit} {rest : List (String × DataW Unit)} {ps : List MemPlace} (h : DataW.LaidVars P W ((name, d) :: rest) ps) : ∃ q, DataW.LaidVars P W rest q := by
  obtain ⟨_, _, _, _, _, q, _, _, _, _, hr, _⟩ := h
  exact ⟨q, hr⟩
/-! ### Answers of a list of calls -/
def argsEq : List AV → List AV → Bool
  | [], [] => true
  | x :: xs, y :: ys => AV.same x y && argsEq xs ys
  | _, _ => false
theorem sameL_eq' : ∀ {x y : List AV}, AV.sameL x y = true → x = y
  | [], [], _ => rfl
  | x :: xs, y :: ys, h => by
    simp only [AV.sameL, Bool.and_eq_true] at h
    rw [same1_eq h.1, sameL_eq' h.2]
  | [], _ :: _, h => by cases h
  | _ :: _, [], h => by cases h
theorem same_eq' {x y : AV} (h : AV.same x y = true) : x = y := by
  unfold AV.same at h
  split at h
  · rw [sameL_eq' h]
  · rw [sameL_eq' h]
  · exact same1_eq h
theorem argsEq_eq : ∀ {x y : List AV}, argsEq x y = true → x = y
  | [], [], _ => rfl
  | x :: xs, y :: ys, h => by
    simp only [argsEq, Bool.and_eq_true] at h
    rw [same_eq' h.1, argsEq_eq h.2]
  | [], _ :: _, h => by cases h
  | _ :: _, [], h => by cases h
def orcGo (f : FuncId) (args : List AV) : List (Nat × List AV × AV) → Option AV
  | [] => none
  | x :: l => bif Nat.beq f x.1 && argsEq args x.2.1 then some x.2.2 else orcGo f args l
theorem orcGo_mem {f : FuncId} {args : List AV} {v : AV} : ∀ {l : List (Nat × List AV × AV)}, orcGo f args l = some v → (f, args, v) ∈ l
  | [], h => by cases h
  | x :: l, h => by
    unfold orcGo at h
    cases hc : Nat.beq f x.1 && argsEq args x.2.1 with
    | false => rw [hc] at h; exact List.mem_cons_of_mem _ (orcGo_mem h)
    | true =>
      rw [hc] at h
      simp only [Bool.and_eq_true] at hc
      obtain rfl := Option.some.inj h
      rw [Nat.eq_of_beq_eq_true hc.1, argsEq_eq hc.2]
      exact List.mem_cons_self ..
def isVal (v : AV) : Option (AV × AHeap) → Bool
  | some (w, _) => AV.same w v
  | none => false
theorem isVal_some {v : AV} {r : Option (AV × AHeap)} (h : isVal v r = true) : ∃ H', r = some (v, H') := by
  unfold isVal at h
  split at h
  · rw [same_eq' h]; exact ⟨_, rfl⟩
  · cases h
end Go.Proofs.YtfcnjfbnffijhaaDoor.AM
