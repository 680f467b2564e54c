/-
  Acts, the table, the configuration, the script: walked; the plain law of what stands behind.
-/
import Derived.Test.YtdkpmlhbofgfdaaGreatDoorSzX2
set_option linter.unusedVariables false
set_option linter.unusedSimpArgs false
namespace Go.Proofs.YtdkpmlhbofgfdaaGreatDoor.AM
open Go
def argA (name : List UInt8) (lm : Nat) (f : UInt8) (s : List UInt8) : Arg :=
  if f = 108 then .num true (min ((hd s % lm : Nat) : Int) 63) else if f = 110 then .num false (numP name (hd s)) else if f = 112 then .pane ⟨((hd s % lm : Nat) : Int), ((hd s.tail % lm : Nat) : Int), ((hd s.tail.tail % 4 : Nat) : Int)⟩ else .text (rdW (1 + hd s % 6) s.tail)
def argR (f : UInt8) (s : List UInt8) : List UInt8 := if f = 108 then s.tail else if f = 110 then s.tail else if f = 112 then s.tail.tail.tail else s.tail.drop (1 + hd s % 6)
def argS (name : List UInt8) (lm : Nat) (st : List Arg × List UInt8) (f : UInt8) : List Arg × List UInt8 := (st.1 ++ [argA name lm f st.2], argR f st.2)
def argsP (name : List UInt8) (lm : Nat) (form s : List UInt8) : List Arg × List UInt8 := form.foldl (argS name lm) ([], s)
def cmdI (s : List UInt8) : Nat := hd s % 53
def cmdX (lm : Nat) (s : List UInt8) : List Arg × List UInt8 := argsP (nm (cmdI s)) lm (fm (cmdI s)) s.tail
def cmdS (lm : Nat) (s : List UInt8) : List UInt8 := lineW (nm (cmdI s)) (cmdX lm s).1
def cmdR (lm : Nat) (s : List UInt8) : List UInt8 := (cmdX lm s).2
def forms9 : List (List UInt8) := [[], [108], [108, 110], [110], [110, 116], [112], [116], [110, 110], [108, 110, 108]]
theorem forms_in : ((List.range 53).all fun i => forms9.contains (fm i)) = true := by decide +kernel
theorem form_in {i : Nat} (h : i < 53) : fm i ∈ forms9 := by
  have := List.all_eq_true.1 forms_in i (List.mem_range.2 h)
  simpa using this
theorem forms_f : ((List.range 53).all fun i => (fm i).all fun f => f == 108 || f == 110 || f == 112 || f == 116) = true := by decide +kernel
theorem form_f {i : Nat} (h : i < 53) {f : UInt8} (hf : f ∈ fm i) : f = 108 ∨ f = 110 ∨ f = 112 ∨ f = 116 := by
  have := List.all_eq_true.1 (List.all_eq_true.1 forms_f i (List.mem_range.2 h)) f hf
  simp only [Bool.or_eq_true, beq_iff_eq] at this
  rcases this with ((h | h) | h) | h
  · exact .inl h
  · exact .inr (.inl h)
  · exact .inr (.inr (.inl h))
  · exact .inr (.inr (.inr h))
theorem numP_b (name : List UInt8) (b : Nat) : -4 ≤ numP name b ∧ numP name b < 256 := by
  unfold numP
  cases (decide (name = bindS) || decide (name = unbindS))
  · cases decide (name = moveS)
    · simp only [cond_false]; omega
    · simp only [cond_false, cond_true]; omega
  · simp only [cond_true]; omega
theorem argA_ok (name : List UInt8) {lm : Nat} (h0 : 0 < lm) (h1 : lm ≤ 256) {f : UInt8} (hf : f = 108 ∨ f = 110 ∨ f = 112 ∨ f = 116) (s : List UInt8) : (argA name lm f s).ok ∧ (argA name lm f s).f = f := by
  have hm := Nat.mod_lt (hd s) h0
  have hm2 := Nat.mod_lt (hd s.tail) h0
  rcases hf with rfl | rfl | rfl | rfl
  · exact ⟨by simp only [argA, if_true, Arg.ok]; omega, rfl⟩
  · have := numP_b name (hd s)
    exact ⟨⟨this.1, this.2, fun h => by cases h⟩, rfl⟩
  · refine ⟨⟨rfl, fun n hn => ?_⟩, rfl⟩
    simp only [T3.l, List.mem_cons, List.not_mem_nil, or_false] at hn
    rcases hn with rfl | rfl | rfl <;> omega
  · refine ⟨⟨fun c hc => ?_, by rw [rdW_len]; omega, by rw [rdW_len]; omega⟩, rfl⟩
    simp only [rdW, List.mem_map] at hc
    obtain ⟨i, _, rfl⟩ := hc
    rw [UInt8.toNat_ofNat']; omega
theorem argsP_f (name : List UInt8) {lm : Nat} (h0 : 0 < lm) (h1 : lm ≤ 256) (form : List UInt8) (hf : ∀ f ∈ form, f = 108 ∨ f = 110 ∨ f = 112 ∨ f = 116) (s : List UInt8) : (argsP name lm form s).1.map Arg.f = form := by
  have : ∀ (l : List UInt8) (st : List Arg × List UInt8), (∀ f ∈ l, f = 108 ∨ f = 110 ∨ f = 112 ∨ f = 116) → (l.foldl (argS name lm) st).1.map Arg.f = st.1.map Arg.f ++ l := by
    intro l
    induction l with
    | nil => intro st _; simp
    | cons f l ih =>
      intro st h
      rw [List.foldl_cons, ih _ (fun g hg => h g (List.mem_cons_of_mem _ hg))]
      simp [argS, (argA_ok name h0 h1 (h f (List.mem_cons_self ..)) st.2).2]
  unfold argsP
  simpa using this form ([], s) hf
theorem argsP_each (name : List UInt8) {lm : Nat} (h0 : 0 < lm) (h1 : lm ≤ 256) (form : List UInt8) (hf : ∀ f ∈ form, f = 108 ∨ f = 110 ∨ f = 112 ∨ f = 116) (s : List UInt8) : ∀ a ∈ (argsP name lm form s).1, a.ok := by
  have : ∀ (l : List UInt8) (st : List Arg × List UInt8), (∀ f ∈ l, f = 108 ∨ f = 110 ∨ f = 112 ∨ f = 116) → (∀ a ∈ st.1, a.ok) → ∀ a ∈ (l.foldl (argS name lm) st).1, a.ok := by
    intro l
    induction l with
    | nil => intro st _ h; exact h
    | cons f l ih =>
      intro st h hs
      rw [List.foldl_cons]
      refine ih _ (fun g hg => h g (List.mem_cons_of_mem _ hg)) fun a ha => ?_
      rcases List.mem_append.1 ha with ha | ha
      · exact hs a ha
      · rw [List.mem_singleton] at ha; subst ha
        exact (argA_ok name h0 h1 (h f (List.mem_cons_self ..)) st.2).1
  exact this form ([], s) hf (fun a ha => by simp at ha)
/-- lists of one of the nine forms -/
theorem argsOK_of {xs : List Arg} (he : ∀ a ∈ xs, a.ok) (hf : xs.map Arg.f ∈ forms9) : ArgsOK xs := by
  have ff : ∀ a : Arg, (a.f = 116 → ∃ t, a = .text t) ∧ (a.f = 112 → ∃ p, a = .pane p) ∧ ((a.f = 108 ∨ a.f = 110) → ∃ l n, a = .num l n) := by
    intro a
    cases a with
    | num l n => cases l <;> simp [Arg.f]
    | pane p => simp [Arg.f]
    | text t => simp [Arg.f]
  simp only [forms9, List.mem_cons, List.not_mem_nil, or_false] at hf
  match xs, he, hf with
  | [], he, _ => exact ⟨he, fun p hp => by simp at hp, fun t ht => by simp at ht, fun i t h => by simp at h, by simp⟩
  | [a], he, hf =>
    have h1 : a.f = 108 ∨ a.f = 110 ∨ a.f = 112 ∨ a.f = 116 := by simpa using hf
    refine ⟨he, fun p hp => ?_, fun t ht => ?_, fun i t h => ?_, by simp⟩
    · rw [List.mem_singleton] at hp; subst hp; rfl
    · rw [List.mem_singleton] at ht; subst ht; rfl
    · have := (List.getElem?_eq_some_iff.1 h).1; simp at this ⊢; omega
  | [a, b], he, hf =>
    have h1 : (a.f = 108 ∨ a.f = 110) ∧ (b.f = 110 ∨ b.f = 116) := by
      simp at hf
      rcases hf with ⟨h, h'⟩ | ⟨h, h'⟩ | ⟨h, h'⟩ <;> simp [h, h']
    obtain ⟨l, n, rfl⟩ := (ff a).2.2 h1.1
    have hb : (∃ m, b = .num false m) ∨ ∃ t, b = .text t := by
      rcases h1.2 with h | h
      · obtain ⟨l', m, rfl⟩ := (ff b).2.2 (.inr h)
        cases l' with
        | true => simp [Arg.f] at h
        | false => exact .inl ⟨m, rfl⟩
      · exact .inr ((ff b).1 h)
    rcases hb with ⟨m, rfl⟩ | ⟨t, rfl⟩
    · refine ⟨he, fun p hp => by simp at hp, fun t ht => by simp at ht, fun i t h => ?_, by simp⟩
      match i, h with
      | 0, h => simp at h
      | 1, h => simp at h
    · refine ⟨he, fun p hp => by simp at hp, fun u hu => ?_, fun i u h => ?_, by simp⟩
      · simp at hu; subst hu; rfl
      · match i, h with
        | 0, h => simp at h
        | 1, h => rfl
  | [a, b, c], he, hf =>
    have h1 : a.f = 108 ∧ b.f = 110 ∧ c.f = 108 := by simpa using hf
    obtain ⟨l, n, rfl⟩ := (ff a).2.2 (.inl h1.1)
    obtain ⟨l', n', rfl⟩ := (ff b).2.2 (.inr h1.2.1)
    obtain ⟨l'', n'', rfl⟩ := (ff c).2.2 (.inl h1.2.2)
    refine ⟨he, fun p hp => by simp at hp, fun t ht => by simp at ht, fun i t h => ?_, by simp⟩
    match i, h with
    | 0, h => simp at h
    | 1, h => simp at h
    | 2, h => simp at h
  | _ :: _ :: _ :: _ :: _, _, hf => simp at hf
theorem cmd_args {lm : Nat} (h0 : 0 < lm) (h1 : lm ≤ 256) (s : List UInt8) : ArgsOK (cmdX lm s).1 ∧ fm (cmdI s) = (cmdX lm s).1.map Arg.f := by
  have hi : cmdI s < 53 := Nat.mod_lt _ (by omega)
  have hf := fun f (h : f ∈ fm (cmdI s)) => form_f hi h
  have h2 := argsP_f (nm (cmdI s)) h0 h1 _ hf s.tail
  refine ⟨argsOK_of (argsP_each (nm (cmdI s)) h0 h1 _ hf s.tail) ?_, h2.symm⟩
  show (argsP (nm (cmdI s)) lm (fm (cmdI s)) s.tail).1.map Arg.f ∈ forms9
  rw [h2]; exact form_in hi
theorem cmd_len {lm : Nat} (h0 : 0 < lm) (h1 : lm ≤ 256) (s : List UInt8) : (cmdS lm s).length ≤ 63 := by
  have hi : cmdI s < 53 := Nat.mod_lt _ (by omega)
  have hx := (cmd_args h0 h1 s).1
  have := line_len hi hx 3
  rw [List.take_of_length_le (by rw [List.length_map]; exact hx.len)] at this
  exact this
theorem same_self {v : AV} (h : v.one = true) (hn : v = .nils ∨ ∃ b o n c, v = .slc b o n c) : AV.same v v = true := by
  rcases hn with rfl | ⟨b, o, n, c, rfl⟩
  · rfl
  · simp [AV.same, AV.same1]
theorem Grow.isv {k base n : Nat} {H : AHeap} {v : AV} {cs : List AV} {rest : List Cel} (h : Grow k base H v cs n rest) : AV.same v v = true := by
  rcases h with ⟨_, ⟨_, rfl, _⟩ | ⟨_, b, rfl, _⟩⟩
  · rfl
  · simp [AV.same, AV.same1]
section
variable {Q : Prog} (sq : ScQ Q) {H : AHeap}
include sq
set_option maxHeartbeats 4000000 in
theorem command_spec {rb lm lim : Nat} {s : List UInt8} {lv : AV} (hl : Lab rb lm lim H lv) (hm : 0 < lm) (hm2 : lm ≤ 256) (h : Rdr rb H s) (hf : Fr H) (ht : hasTabs H Q.tabs = true) :
    FnTo Q 19 [.ptr rb 0, lv] H (fun r H' => r = .str (cmdS lm s) ∧ Ax rb H H' ∧ Rdr rb H' (cmdR lm s)) := by
  refine fn_wp (sq.ho 19 rfl _) sq.q19 (by simp [A19]) ?_
  obtain ⟨hxs, hform⟩ := cmd_args hm hm2 s
  have hi : cmdI s < 53 := Nat.mod_lt _ (by omega)
  have hfx : ∀ f ∈ fm (cmdI s), f = 108 ∨ f = 110 ∨ f = 112 ∨ f = 116 := fun f hh => form_f hi hh
  have h0 : 0 < H.next := by have := h.lt; omega
  have hlim := hl.2.1
  obtain ⟨H1, s1, g1, k1⟩ := (Hp.nil H hf).make [.ptr rb 0] 1
  have n1 : H1.next = H.next + 1 := by rw [← s1]; rfl
  have bxp : boxV (.ptr rb 0) = some (.row ⟨[.ptr rb 0], 0, false, true, 0⟩, .ptr) := rfl
  obtain ⟨b2, hb2⟩ : ∃ b2, H.next = b2 := ⟨_, rfl⟩
  have l10 := g1.load (List.mem_cons_self ..) (o := 0) (v := .ptr rb 0) rfl
  simp only [A19, run_box, bxp, val_ptr, s1, SX, reduceCtorEq, Nat.reduceEqDiff, ↓reduceIte, Int.reduceEq, Int.reduceLT, Int.reduceLE, Nat.reduceAdd]
  refine (names_spec sq g1.fr).mono ?_
  rintro vn H2 ⟨gn, kn⟩
  have gr2 := gn.hp.gr kn
  have g2 := g1.keep gr2.keep gr2.next gr2.fr
  have l20 := g2.load (List.mem_cons_self ..) (o := 0) (v := .ptr rb 0) rfl
  have ln := gn.len H2
  have r2 : Rdr rb H2 s := (h.keep h.lt k1 (by omega)).gr gr2
  simp only [l20, ln, SX, reduceCtorEq, Nat.reduceEqDiff, ↓reduceIte, Int.reduceEq, Int.reduceLT, Int.reduceLE, Nat.reduceAdd]
  refine (below_spec sq (m := 53) (by omega) r2 gr2.fr).mono ?_
  rintro _ H3 ⟨rfl, a3, r3⟩
  have gn3 := gn.ax (by have := h.lt; omega) a3
  have g3 := g2.ax h.lt a3
  obtain ⟨bn, ix, _, ldn⟩ := gn3.rowAt namesL_len rfl (namesL_at hi) .i64
  have ldn := ldn 0 _ rfl
  rw [Nat.add_zero] at ldn
  have ix' : idxSV 1 vn (.int .i64 ((hd s % 53 : Nat) : Int)) = some (.ptr bn (cmdI s * 1)) := ix
  have bv : buildV [.str [], .nils, .int .i64 0, .int .i64 0, .int .i64 0, .str []] [(0, 1, .str (nm (cmdI s)))] = some (.agg (cmdL (nm (cmdI s)) .nils 0 0 0 [])) := rfl
  obtain ⟨H4, s4, g4, k4⟩ := g3.make [.str [], .nils, .int .i64 0, .int .i64 0, .int .i64 0, .str []] 6
  have n4 : H4.next = H3.next + 1 := by rw [← s4]; rfl
  obtain ⟨b6, hb6⟩ : ∃ b6, H3.next = b6 := ⟨_, rfl⟩
  rw [hb6] at g4
  obtain ⟨H5, s5, g5, k5, n5⟩ := g4.storeN (n := 6) (new := cmdL (nm (cmdI s)) .nils 0 0 0 []) rfl rfl rfl
  have l5 := g5.load (List.mem_cons_self ..) (o := 0) (v := .str (nm (cmdI s))) rfl
  have a02 : Ax rb H H2 := ((Ax.refl hf).keepT k1 (by omega) g1.fr).trans (gr2.ax rb)
  have a03 := a02.trans a3
  have a35 : Ax rb H3 H5 := (Ax.refl a3.fr).keepT (by
    obtain ⟨Ha, sa, ga, ka⟩ := (Hp.nil H3 a3.fr).make [.str [], .nils, .int .i64 0, .int .i64 0, .int .i64 0, .str []] 6
    rw [s4] at sa; subst sa
    obtain ⟨Hb, sb, gb, kb, _⟩ := ga.storeN (n := 6) (new := cmdL (nm (cmdI s)) .nils 0 0 0 []) rfl rfl rfl
    rw [hb6, s5] at sb
    obtain rfl : H5 = Hb := (Prod.mk.inj (Option.some.inj sb)).2
    exact ka.trans kb) (by omega) g5.fr
  have a05 := a03.trans a35
  have rlt := h.lt
  have r5 : Rdr rb H5 s.tail := r3.keep h.lt (k4.trans k5) (by omega)
  simp only [ix', ldn, run_build, bv, run_allocL, val_ptr, s4, hb6, wp_store, s5, run_mkFn, l5, SX, reduceCtorEq, Nat.reduceEqDiff, ↓reduceIte, Int.reduceEq, Int.reduceLT, Int.reduceLE, Nat.reduceAdd]
  refine (form_spec sq hi g5.fr).mono ?_
  rintro _ H6 ⟨rfl, gr6⟩
  have g6 := g5.keep gr6.keep gr6.next gr6.fr
  have a06 := a05.trans (gr6.ax rb)
  have r6 := r5.gr gr6
  simp only [ext20, ext21, A19_rest, SX, reduceCtorEq, Nat.reduceEqDiff, ↓reduceIte, Int.reduceEq, Int.reduceLT, Int.reduceLE, Nat.reduceAdd]
  obtain ⟨I, hI⟩ : ∃ I : Nat → Env → AHeap → Prop, ∀ m e H', I m e H' ↔ (∃ j v st, m = (fm (cmdI s)).length - j ∧ j ≤ (fm (cmdI s)).length ∧ st = ((fm (cmdI s)).take j).foldl (argS (nm (cmdI s)) lm) ([], s.tail) ∧ Grow 1 H.next H' v (intsV (numsOf st.1)) (numsOf st.1).length [⟨b6, 6, cmdL (nm (cmdI s)) v (paneOf st.1).x (paneOf st.1).y (paneOf st.1).z (textOf st.1)⟩, ⟨H.next, 1, [.ptr rb 0]⟩] ∧ Ax rb H H' ∧ Rdr rb H' st.2 ∧
      Env.get e 1 = lv ∧ Env.get e 2 = .ptr H.next 0 ∧ Env.get e 6 = .ptr b6 0 ∧ Env.get e 7 = .fn (.func 26) [] [.ptr b6 0, .ptr H.next 0] ∧ Env.get e 8 = .str (fm (cmdI s)) ∧ Env.get e 30 = .int .i64 ((fm (cmdI s)).length : Int) ∧ Env.get e 31 = .int .i64 (j : Int)) := ⟨_, fun _ _ _ => Iff.rfl⟩
  have hfl : (fm (cmdI s)).length ≤ 3 := by rw [hform, List.length_map]; exact hxs.len
  refine loop_by I (fm (cmdI s)).length ?_ ?_
  · exact (hI _ _ _).2 ⟨0, .nils, ([], s.tail), rfl, by omega, rfl, Grow.nil 1 g6, a06, r6, (by first | (simp only [SG, reduceCtorEq, Nat.reduceEqDiff, ↓reduceIte] <;> rfl) | rfl), (by first | (simp only [SG, reduceCtorEq, Nat.reduceEqDiff, ↓reduceIte] <;> rfl) | rfl), (by first | (simp only [SG, reduceCtorEq, Nat.reduceEqDiff, ↓reduceIte] <;> rfl) | rfl), (by first | (simp only [SG, reduceCtorEq, Nat.reduceEqDiff, ↓reduceIte] <;> rfl) | rfl), (by first | (simp only [SG, reduceCtorEq, Nat.reduceEqDiff, ↓reduceIte] <;> rfl) | rfl), (by first | (simp only [SG, reduceCtorEq, Nat.reduceEqDiff, ↓reduceIte] <;> rfl) | rfl), (by first | (simp only [SG, reduceCtorEq, Nat.reduceEqDiff, ↓reduceIte] <;> rfl) | rfl)⟩
  · intro m' e H7 hinv
    obtain ⟨j, v, st, rfl, hj, hst, g7, a7, r7, e1, e2, e6, e7, e8, e30, e31⟩ := (hI _ _ _).1 hinv
    by_cases d : (j : Int) < ((fm (cmdI s)).length : Int)
    · obtain ⟨f, hfj⟩ : ∃ f, (fm (cmdI s))[j]? = some f := ⟨_, List.getElem?_eq_getElem (by omega)⟩
      have ff := hfx f (List.mem_of_getElem? hfj)
      have hst2 : argS (nm (cmdI s)) lm st f = ((fm (cmdI s)).take (j + 1)).foldl (argS (nm (cmdI s)) lm) ([], s.tail) := by
        rw [take_snoc hfj, List.foldl_append, ← hst]; rfl
      have hl7 : Lab rb lm lim H7 lv := hl.ax a7
      have w1 : IntKind.wrap .i64 ((j : Int) + 1) = ((j + 1 : Nat) : Int) := wrapNat (n := j + 1) (by omega)
      have hnl : (numsOf st.1).length ≤ 100 := by
        have h1 : ∀ l : List Arg, (numsOf l).length ≤ l.length := by
          intro l
          induction l with
          | nil => simp [numsOf]
          | cons a l ih =>
            have e : numsOf (a :: l) = a.nums ++ numsOf l := by simp [numsOf]
            rw [e, List.length_append, List.length_cons]
            cases a <;> simp [Arg.nums] <;> omega
        have h2 : ∀ (l : List UInt8) (st : List Arg × List UInt8), (l.foldl (argS (nm (cmdI s)) lm) st).1.length = st.1.length + l.length := by
          intro l
          induction l with
          | nil => intro st; simp
          | cons x l ih => intro st; rw [List.foldl_cons, ih]; simp [argS]; omega
        have h3 := h1 st.1
        have h4 := h2 ((fm (cmdI s)).take j) ([], s.tail)
        rw [← hst, List.length_take] at h4
        simp at h4; omega
      have last : ∀ (H8 : AHeap) (v2 : AV), Grow 1 H.next H8 v2 (intsV (numsOf st.1 ++ (argA (nm (cmdI s)) lm f st.2).nums)) ((numsOf st.1).length + (argA (nm (cmdI s)) lm f st.2).nums.length) [⟨b6, 6, cmdL (nm (cmdI s)) v2 ((argA (nm (cmdI s)) lm f st.2).pan (paneOf st.1)).x ((argA (nm (cmdI s)) lm f st.2).pan (paneOf st.1)).y ((argA (nm (cmdI s)) lm f st.2).pan (paneOf st.1)).z ((argA (nm (cmdI s)) lm f st.2).txt (textOf st.1))⟩, ⟨H.next, 1, [.ptr rb 0]⟩] →
          Ax rb H H8 → Rdr rb H8 (argR f st.2) → ∀ e', Env.get e' 1 = lv → Env.get e' 2 = .ptr H.next 0 → Env.get e' 6 = .ptr b6 0 → Env.get e' 7 = .fn (.func 26) [] [.ptr b6 0, .ptr H.next 0] → Env.get e' 8 = .str (fm (cmdI s)) → Env.get e' 30 = .int .i64 ((fm (cmdI s)).length : Int) → Env.get e' 31 = .int .i64 ((j + 1 : Nat) : Int) → ∃ m', m' < (fm (cmdI s)).length - j ∧ I m' e' H8 := by
        intro H8 v2 g8 a8 r8 e' q1 q2 q6 q7 q8 q30 q31
        refine ⟨(fm (cmdI s)).length - (j + 1), by omega, (hI _ _ _).2 ⟨j + 1, v2, _, rfl, by omega, hst2, ?_, a8, r8, q1, q2, q6, q7, q8, q30, q31⟩⟩
        simp only [argS, numsOf_snoc, paneOf_snoc, textOf_snoc, List.length_append]
        exact g8
      have nx7 := a7.next
      have l71 := g7.hp.load (List.mem_cons_self ..) (o := 1) (v := v) rfl
      have mB : (⟨H.next, 1, [.ptr rb 0]⟩ : Cel) ∈ [(⟨b6, 6, cmdL (nm (cmdI s)) v (paneOf st.1).x (paneOf st.1).y (paneOf st.1).z (textOf st.1)⟩ : Cel), ⟨H.next, 1, [.ptr rb 0]⟩] := by simp
      have l72 := g7.hp.load mB (o := 0) (v := .ptr rb 0) rfl
      rcases ff with rfl | rfl | rfl | rfl
      · have is : idxStrV (.str (fm (cmdI s))) (.int .i64 (j : Int)) = some (.int .u8 108) := idxStr_at hfj .i64
        simp only [A19_lp, A19_sw, e1, e2, e6, e7, e8, e30, e31, d, is, l71, wp_callv, SX, reduceCtorEq, Nat.reduceEqDiff, ↓reduceIte, Int.reduceEq, Int.reduceLT, Int.reduceLE, Nat.reduceAdd]
        refine lab_spec sq hl7 hm r7 a7.fr fun H8 a8 r8 => ?_
        have g8 := g7.ax h.lt a8
        have l81 := g8.hp.load (List.mem_cons_self ..) (o := 1) (v := v) rfl
        have mn := mnmxV2min .i64 ((hd st.2 % lm : Nat) : Int) 63
        obtain ⟨H9, H10, v10, s9, s10, g10, k10, nr10, nn10⟩ := g8.push (r := [.int .i64 (min ((hd st.2 % lm : Nat) : Int) 63)]) rfl rfl (by omega) (bytes := 8) (by omega) (by omega)
        obtain ⟨H11, s11, g11, k11, nr11, nn11⟩ := g10.store1 (o := 1) g10.one (by simp [cmdL])
        have ec : (cmdL (nm (cmdI s)) v (paneOf st.1).x (paneOf st.1).y (paneOf st.1).z (textOf st.1)).set 1 v10 = cmdL (nm (cmdI s)) v10 (paneOf st.1).x (paneOf st.1).y (paneOf st.1).z (textOf st.1) := rfl
        rw [ec] at g11
        have ei : intsV (numsOf st.1) ++ [.int .i64 (min ((hd st.2 % lm : Nat) : Int) 63)] = intsV (numsOf st.1 ++ [min ((hd st.2 % lm : Nat) : Int) 63]) := by simp [intsV]
        rw [ei] at g11
        have a8' := a7.trans a8
        have na8 := a8'.next
        have na8b := a8.next
        refine ⟨by simp only [echoOk, e6, l81, SX, reduceCtorEq, Nat.reduceEqDiff, ↓reduceIte, Int.reduceEq, Int.reduceLT, Int.reduceLE, Nat.reduceAdd]; rw [g8.isv]; rfl, ?_⟩
        simp only [e1, e2, e6, e7, e8, e30, e31, run_mnmx, mn, s9, wp_append, s10, wp_store, s11, w1, SX, reduceCtorEq, Nat.reduceEqDiff, ↓reduceIte, Int.reduceEq, Int.reduceLT, Int.reduceLE, Nat.reduceAdd]
        exact last H11 v10 g11 (a8'.keepT (k10.trans k11) (by omega) g11.hp.fr) (r8.keep h.lt (k10.trans k11) (by omega)) _ (by simp only [SG, reduceCtorEq, Nat.reduceEqDiff, ↓reduceIte, e1] <;> rfl) (by simp only [SG, reduceCtorEq, Nat.reduceEqDiff, ↓reduceIte, e2] <;> rfl) (by simp only [SG, reduceCtorEq, Nat.reduceEqDiff, ↓reduceIte, e6] <;> rfl) (by simp only [SG, reduceCtorEq, Nat.reduceEqDiff, ↓reduceIte, e7] <;> rfl) (by simp only [SG, reduceCtorEq, Nat.reduceEqDiff, ↓reduceIte, e8] <;> rfl) (by simp only [SG, reduceCtorEq, Nat.reduceEqDiff, ↓reduceIte, e30] <;> rfl) (by first | (simp only [SG, reduceCtorEq, Nat.reduceEqDiff, ↓reduceIte] <;> rfl) | rfl)
      · have is : idxStrV (.str (fm (cmdI s))) (.int .i64 (j : Int)) = some (.int .u8 110) := idxStr_at hfj .i64
        have l70 := g7.hp.load (List.mem_cons_self ..) (o := 0) (v := .str (nm (cmdI s))) rfl
        simp only [A19_lp, A19_sw, e1, e2, e6, e7, e8, e30, e31, d, is, l71, wp_callv, callvW_fn, List.nil_append, SX, reduceCtorEq, Nat.reduceEqDiff, ↓reduceIte, Int.reduceEq, Int.reduceLT, Int.reduceLE, Nat.reduceAdd]
        refine (num_spec sq r7 a7.fr l70 l72).mono ?_
        rintro _ H8 ⟨rfl, a8, r8⟩
        have g8 := g7.ax h.lt a8
        have l81 := g8.hp.load (List.mem_cons_self ..) (o := 1) (v := v) rfl
        obtain ⟨H9, H10, v10, s9, s10, g10, k10, nr10, nn10⟩ := g8.push (r := [.int .i64 (numP (nm (cmdI s)) (hd st.2))]) rfl rfl (by omega) (bytes := 8) (by omega) (by omega)
        obtain ⟨H11, s11, g11, k11, nr11, nn11⟩ := g10.store1 (o := 1) g10.one (by simp [cmdL])
        have ec : (cmdL (nm (cmdI s)) v (paneOf st.1).x (paneOf st.1).y (paneOf st.1).z (textOf st.1)).set 1 v10 = cmdL (nm (cmdI s)) v10 (paneOf st.1).x (paneOf st.1).y (paneOf st.1).z (textOf st.1) := rfl
        rw [ec] at g11
        have ei : intsV (numsOf st.1) ++ [.int .i64 (numP (nm (cmdI s)) (hd st.2))] = intsV (numsOf st.1 ++ [numP (nm (cmdI s)) (hd st.2)]) := by simp [intsV]
        rw [ei] at g11
        have a8' := a7.trans a8
        have na8 := a8'.next
        have na8b := a8.next
        refine ⟨by simp only [echoOk, e6, l81, SX, reduceCtorEq, Nat.reduceEqDiff, ↓reduceIte, Int.reduceEq, Int.reduceLT, Int.reduceLE, Nat.reduceAdd]; rw [g8.isv]; rfl, ?_⟩
        simp only [e1, e2, e6, e7, e8, e30, e31, s9, wp_append, s10, wp_store, s11, w1, SX, reduceCtorEq, Nat.reduceEqDiff, ↓reduceIte, Int.reduceEq, Int.reduceLT, Int.reduceLE, Nat.reduceAdd]
        exact last H11 v10 g11 (a8'.keepT (k10.trans k11) (by omega) g11.hp.fr) (r8.keep h.lt (k10.trans k11) (by omega)) _ (by simp only [SG, reduceCtorEq, Nat.reduceEqDiff, ↓reduceIte, e1] <;> rfl) (by simp only [SG, reduceCtorEq, Nat.reduceEqDiff, ↓reduceIte, e2] <;> rfl) (by simp only [SG, reduceCtorEq, Nat.reduceEqDiff, ↓reduceIte, e6] <;> rfl) (by simp only [SG, reduceCtorEq, Nat.reduceEqDiff, ↓reduceIte, e7] <;> rfl) (by simp only [SG, reduceCtorEq, Nat.reduceEqDiff, ↓reduceIte, e8] <;> rfl) (by simp only [SG, reduceCtorEq, Nat.reduceEqDiff, ↓reduceIte, e30] <;> rfl) (by first | (simp only [SG, reduceCtorEq, Nat.reduceEqDiff, ↓reduceIte] <;> rfl) | rfl)
      · have is : idxStrV (.str (fm (cmdI s))) (.int .i64 (j : Int)) = some (.int .u8 112) := idxStr_at hfj .i64
        simp only [A19_lp, A19_sw, e1, e2, e6, e7, e8, e30, e31, d, is, l72, SX, reduceCtorEq, Nat.reduceEqDiff, ↓reduceIte, Int.reduceEq, Int.reduceLT, Int.reduceLE, Nat.reduceAdd]
        refine (pane_spec sq hl7 hm r7 a7.fr).mono ?_
        rintro _ H8 ⟨rfl, a8, r8⟩
        have g8 := g7.ax h.lt a8
        obtain ⟨H9, s9, g9, k9, nr9, nn9⟩ := Grow.storeO (a := [.str (nm (cmdI s)), v]) (x := [.int .i64 (paneOf st.1).x, .int .i64 (paneOf st.1).y, .int .i64 (paneOf st.1).z]) (c := [.str (textOf st.1)]) (new := [.int .i64 ((hd st.2 % lm : Nat) : Int), .int .i64 ((hd st.2.tail % lm : Nat) : Int), .int .i64 ((hd st.2.tail.tail % 4 : Nat) : Int)]) (o := 2) (m := 3) g8 rfl rfl rfl rfl
        have a8' := a7.trans a8
        have na8 := a8'.next
        simp only [e1, e2, e6, e7, e8, e30, e31, wp_store, s9, w1, SX, reduceCtorEq, Nat.reduceEqDiff, ↓reduceIte, Int.reduceEq, Int.reduceLT, Int.reduceLE, Nat.reduceAdd]
        refine last H9 v ?_ (a8'.keepT k9 (by omega) g9.hp.fr) (r8.keep h.lt k9 (by omega)) _ (by simp only [SG, reduceCtorEq, Nat.reduceEqDiff, ↓reduceIte, e1] <;> rfl) (by simp only [SG, reduceCtorEq, Nat.reduceEqDiff, ↓reduceIte, e2] <;> rfl) (by simp only [SG, reduceCtorEq, Nat.reduceEqDiff, ↓reduceIte, e6] <;> rfl) (by simp only [SG, reduceCtorEq, Nat.reduceEqDiff, ↓reduceIte, e7] <;> rfl) (by simp only [SG, reduceCtorEq, Nat.reduceEqDiff, ↓reduceIte, e8] <;> rfl) (by simp only [SG, reduceCtorEq, Nat.reduceEqDiff, ↓reduceIte, e30] <;> rfl) (by first | (simp only [SG, reduceCtorEq, Nat.reduceEqDiff, ↓reduceIte] <;> rfl) | rfl)
        simpa [argA, Arg.nums, Arg.pan, Arg.txt, intsV, cmdL] using g9
      · have is : idxStrV (.str (fm (cmdI s))) (.int .i64 (j : Int)) = some (.int .u8 116) := idxStr_at hfj .i64
        simp only [A19_lp, A19_sw, e1, e2, e6, e7, e8, e30, e31, d, is, l72, SX, reduceCtorEq, Nat.reduceEqDiff, ↓reduceIte, Int.reduceEq, Int.reduceLT, Int.reduceLE, Nat.reduceAdd]
        refine (words_spec sq (m := 6) (by omega) (by omega) r7 a7.fr).mono ?_
        rintro _ H8 ⟨rfl, a8, r8⟩
        have g8 := g7.ax h.lt a8
        obtain ⟨H9, s9, g9, k9, nr9, nn9⟩ := g8.store1 (o := 5) (w := .str (rdW (1 + hd st.2 % 6) st.2.tail)) rfl (by simp [cmdL])
        have ec : (cmdL (nm (cmdI s)) v (paneOf st.1).x (paneOf st.1).y (paneOf st.1).z (textOf st.1)).set 5 (.str (rdW (1 + hd st.2 % 6) st.2.tail)) = cmdL (nm (cmdI s)) v (paneOf st.1).x (paneOf st.1).y (paneOf st.1).z (rdW (1 + hd st.2 % 6) st.2.tail) := rfl
        rw [ec] at g9
        have a8' := a7.trans a8
        have na8 := a8'.next
        simp only [e1, e2, e6, e7, e8, e30, e31, wp_store, s9, w1, SX, reduceCtorEq, Nat.reduceEqDiff, ↓reduceIte, Int.reduceEq, Int.reduceLT, Int.reduceLE, Nat.reduceAdd]
        refine last H9 v ?_ (a8'.keepT k9 (by omega) g9.hp.fr) (r8.keep h.lt k9 (by omega)) _ (by simp only [SG, reduceCtorEq, Nat.reduceEqDiff, ↓reduceIte, e1] <;> rfl) (by simp only [SG, reduceCtorEq, Nat.reduceEqDiff, ↓reduceIte, e2] <;> rfl) (by simp only [SG, reduceCtorEq, Nat.reduceEqDiff, ↓reduceIte, e6] <;> rfl) (by simp only [SG, reduceCtorEq, Nat.reduceEqDiff, ↓reduceIte, e7] <;> rfl) (by simp only [SG, reduceCtorEq, Nat.reduceEqDiff, ↓reduceIte, e8] <;> rfl) (by simp only [SG, reduceCtorEq, Nat.reduceEqDiff, ↓reduceIte, e30] <;> rfl) (by first | (simp only [SG, reduceCtorEq, Nat.reduceEqDiff, ↓reduceIte] <;> rfl) | rfl)
        simpa [argA, Arg.nums, Arg.pan, Arg.txt] using g9
    · obtain rfl : j = (fm (cmdI s)).length := by omega
      rw [List.take_length] at hst
      have hst' : st = cmdX lm s := hst
      subst hst'
      have l7 := g7.hp.loadN (List.mem_cons_self ..) (n := 6) rfl
      have ht7 : hasTabs H7 Q.tabs = true := a7.tabs sq.tz h.pos h0 ht
      have nx7 := a7.next
      simp only [A19_lp, A19_tl, e1, e2, e6, e7, e8, e30, e31, d, l7, SX, reduceCtorEq, Nat.reduceEqDiff, ↓reduceIte, Int.reduceEq, Int.reduceLT, Int.reduceLE, Nat.reduceAdd]
      refine (line_spec sq hi hxs hform g7.isS a7.fr (by omega) ht7).mono ?_
      rintro _ H8 ⟨rfl, gr8⟩
      simp only [ext20, ext21, SX, reduceCtorEq, Nat.reduceEqDiff, ↓reduceIte, Int.reduceEq, Int.reduceLT, Int.reduceLE, Nat.reduceAdd]
      exact ⟨rfl, a7.trans (gr8.ax rb), r7.gr gr8⟩
end
structure ActP where
  k : Nat
  c : Int := 0
  p : T3 := ⟨0, 0, 0⟩
  w : Int := 0
  h : Int := 0
  n : Int := 0
  s : List UInt8 := []
def ActP.cs (a : ActP) : List AV := [.int .u8 (a.k : Int), .int .i64 a.c, .int .i64 a.p.x, .int .i64 a.p.y, .int .i64 a.p.z, .int .i64 a.w, .int .i64 a.h, .int .i64 a.n, .str a.s]
def zero9 : List AV := [.int .u8 0, .int .i64 0, .int .i64 0, .int .i64 0, .int .i64 0, .int .i64 0, .int .i64 0, .int .i64 0, .str []]
theorem ActP.ones (a : ActP) : a.cs.all AV.one = true := rfl
/-- an act's rest: b its first byte, lm and cm what labels and clients are below, tl what stands behind a line -/
def actT (b lm c : Nat) (tl s : List UInt8) : ActP × List UInt8 :=
  if b % 16 < 7 then (⟨1, c, ⟨0, 0, 0⟩, 0, 0, 0, frameB 2 (cmdS lm s ++ tl)⟩, cmdR lm s)
  else if b % 16 < 9 then (⟨1, c, ⟨0, 0, 0⟩, 0, 0, 0, frameB 1 (rdN (hd s % 12) s.tail)⟩, s.tail.drop (hd s % 12))
  else if b % 16 < 13 then (⟨2, 0, ⟨((hd s % lm : Nat) : Int), ((hd s.tail % lm : Nat) : Int), ((hd s.tail.tail % 4 : Nat) : Int)⟩, 0, 0, 0, rdN (hd s.tail.tail.tail % 40) s.tail.tail.tail.tail⟩, s.tail.tail.tail.tail.drop (hd s.tail.tail.tail % 40))
  else if b % 16 = 13 then (⟨3, c, ⟨0, 0, 0⟩, ((2 + hd s % 60 : Nat) : Int), ((2 + hd s.tail % 20 : Nat) : Int), 0, []⟩, s.tail.tail)
  else if b % 16 = 15 then (⟨6, 0, ⟨0, 0, 0⟩, 0, 0, ((hd s % lm : Nat) : Int), rdN (hd s.tail % 9) s.tail.tail⟩, s.tail.tail.drop (hd s.tail % 9))
  else if c = 0 then (if hd s % 4 = 0 then (⟨4, 0, ⟨0, 0, 0⟩, 0, 0, 0, []⟩, s.tail) else (⟨5, 0, ⟨0, 0, 0⟩, 0, 0, c, []⟩, s.tail))
  else (⟨5, 0, ⟨0, 0, 0⟩, 0, 0, c, []⟩, s)
def actP (L C : Nat) (s : List UInt8) : ActP × List UInt8 :=
  if 240 ≤ hd s then actT (hd s) 256 (hd s.tail % 256) [33] s.tail.tail else actT (hd s) L (hd s.tail % C) [] s.tail.tail
theorem Hp.at9 {base b : Nat} {H : AHeap} {l : List Cel} (h : Hp base H (⟨b, 9, zero9⟩ :: l)) (a : ActP) : ∃ H', storeE H 9 (.ptr b 0) (.agg a.cs) = some (.undef, H') ∧ loadV H' (some 9) (.ptr b 0) = some (.agg a.cs) ∧ Keep base H H' ∧ Fr H' ∧ H'.next = H.next := by
  obtain ⟨H', s1, g1, k1, n1⟩ := h.storeN (n := 9) (new := a.cs) rfl rfl a.ones
  exact ⟨H', s1, g1.loadN (List.mem_cons_self ..) rfl, k1, g1.fr, n1⟩
section
variable {Q : Prog} (sq : ScQ Q) {H : AHeap}
include sq
set_option maxHeartbeats 8000000 in
theorem actT_spec {rb lm lim base b6 b3 b cm : Nat} {s tl : List UInt8} {lv : AV} {rest : List Cel} {e : Env} (hb : b < 256) (hl : Lab rb lm lim H lv) (hm : 0 < lm) (hm2 : lm ≤ 256) (hcm : 0 < cm) (hcm2 : cm ≤ 256) (htl : tl.length ≤ 1) (h : Rdr rb H s) (hr : rb < base) (ht : hasTabs H Q.tabs = true)
    (hp : Hp base H (⟨b6, 9, zero9⟩ :: rest)) (hb3 : (⟨b3, 1, [.ptr rb 0]⟩ : Cel) ∈ rest) (e2 : Env.get e 2 = .int .i64 (cm : Int)) (e3 : Env.get e 3 = .ptr b3 0) (e6 : Env.get e 6 = .ptr b6 0) (e7 : Env.get e 7 = .int .i64 (b : Int)) (e8 : Env.get e 8 = lv) (e9 : Env.get e 9 = .str tl) {K : AV → AHeap → Prop}
    (hK : ∀ H', (∀ x, x < base → x ≠ rb → H'.get x = H.get x) → H.next ≤ H'.next → Fr H' → Rdr rb H' (actT b lm (hd s % cm) tl s.tail).2 → K (.agg (actT b lm (hd s % cm) tl s.tail).1.cs) H') :
    ACode.wp Q A10_rest (fnK A10.res K) e H := by
  have hf := hp.fr
  have h0 : 0 < H.next := by have := h.lt; omega
  have l3 := hp.load (List.mem_cons_of_mem _ hb3) (o := 0) (v := .ptr rb 0) rfl
  simp only [A10_rest, e2, e3, l3, SX, reduceCtorEq, Nat.reduceEqDiff, ↓reduceIte, Int.reduceEq, Int.reduceLT, Int.reduceLE, Nat.reduceAdd]
  refine (below_spec sq hcm h hf).mono ?_
  rintro _ H1 ⟨rfl, a1, r1⟩
  obtain ⟨c, hc⟩ : ∃ c, hd s % cm = c := ⟨_, rfl⟩
  have hcl : c < 256 := by rw [← hc]; exact Nat.lt_of_lt_of_le (Nat.mod_lt _ hcm) hcm2
  rw [hc] at hK ⊢
  generalize s.tail = t at r1 hK
  have hp1 := hp.ax hr a1
  have hl1 := hl.ax a1
  have f1 := a1.fr
  have n1 := a1.next
  have ht1 := a1.tabs sq.tz h.pos h0 ht
  have l31 := hp1.load (List.mem_cons_of_mem _ hb3) (o := 0) (v := .ptr rb 0) rfl
  have rm := remN (a := b) (m := 16) (by omega)
  have rm' : binV .rem (.int .i64 (b : Int)) (.int .i64 16) = some (.int .i64 ((b % 16 : Nat) : Int)) := rm
  obtain ⟨k, hk⟩ : ∃ k, b % 16 = k := ⟨_, rfl⟩
  rw [hk] at rm'
  have hk16 : k < 16 := by rw [← hk]; exact Nat.mod_lt _ (by omega)
  simp only [e3, e6, e7, e8, e9, A10_sw, rm', SX, reduceCtorEq, Nat.reduceEqDiff, ↓reduceIte, Int.reduceEq, Int.reduceLT, Int.reduceLE, Nat.reduceAdd]
  have fin : ∀ (a : ActP) (t' : List UInt8), (actT b lm c tl t).1 = a → (actT b lm c tl t).2 = t' → ∀ H2, Ax rb H1 H2 → Rdr rb H2 t' → ∃ H', storeE H2 9 (.ptr b6 0) (.agg a.cs) = some (.undef, H') ∧ loadV H' (some 9) (.ptr b6 0) = some (.agg a.cs) ∧ K (.agg a.cs) H' := by
    intro a t' h1 h2 H2 a2 r2
    obtain ⟨H', s1, l1, k1, f1', nn⟩ := (hp1.ax hr a2).at9 a
    subst h1 h2
    have na := a2.next
    refine ⟨H', s1, l1, hK H' (fun x hx hxr => ?_) (by omega) f1' (r2.keep hr k1 (by omega))⟩
    have hbn := hp.bn
    rw [k1 x hx, a2.keep x (by omega) hxr, a1.keep x (by omega) hxr]
  by_cases c7 : k < 7
  · have d7 : (k : Int) < 7 := by omega
    simp only [e3, e6, e7, e8, e9, d7, l31, SX, reduceCtorEq, Nat.reduceEqDiff, ↓reduceIte, Int.reduceEq, Int.reduceLT, Int.reduceLE, Nat.reduceAdd]
    refine (command_spec sq hl1 hm hm2 r1 f1 ht1).mono ?_
    rintro _ H2 ⟨rfl, a2, r2⟩
    have cl := cmd_len hm hm2 t
    have ad := bin_adds (cmdS lm t) tl (by omega)
    simp only [e9, ad, SX, reduceCtorEq, Nat.reduceEqDiff, ↓reduceIte, Int.reduceEq, Int.reduceLT, Int.reduceLE, Nat.reduceAdd]
    refine (frame_spec sq (k := 2) (s := cmdS lm t ++ tl) (by omega) (by rw [List.length_append]; omega) a2.fr).mono ?_
    rintro _ H3 ⟨rfl, gr3⟩
    obtain ⟨H4, s4, l4, k4⟩ := fin ⟨1, c, ⟨0, 0, 0⟩, 0, 0, 0, frameB 2 (cmdS lm t ++ tl)⟩ (cmdR lm t) (by unfold actT; rw [hk, if_pos c7]) (by unfold actT; rw [hk, if_pos c7]) H3 (a2.trans (gr3.ax rb)) (r2.gr gr3)
    have bv : buildV zero9 [(0, 1, .int .u8 1), (1, 1, .int .i64 (c : Int)), (8, 1, .str (frameB 2 (cmdS lm t ++ tl)))] = some (.agg (ActP.cs ⟨1, c, ⟨0, 0, 0⟩, 0, 0, 0, frameB 2 (cmdS lm t ++ tl)⟩)) := rfl
    unfold zero9 at bv
    simp only [e6, run_build, bv, wp_store, s4, A10, resCell, l4, SX, reduceCtorEq, Nat.reduceEqDiff, ↓reduceIte, Int.reduceEq, Int.reduceLT, Int.reduceLE, Nat.reduceAdd]
    exact k4
  by_cases c9 : k < 9
  · have d7 : ¬ (k : Int) < 7 := by omega
    have d9 : (k : Int) < 9 := by omega
    simp only [e3, e6, e7, e8, e9, d7, d9, l31, SX, reduceCtorEq, Nat.reduceEqDiff, ↓reduceIte, Int.reduceEq, Int.reduceLT, Int.reduceLE, Nat.reduceAdd]
    refine (text_spec sq (m := 12) (by omega) (by omega) r1 f1).mono ?_
    rintro _ H2 ⟨rfl, a2, r2⟩
    simp only [SX, reduceCtorEq, Nat.reduceEqDiff, ↓reduceIte, Int.reduceEq, Int.reduceLT, Int.reduceLE, Nat.reduceAdd]
    refine (frame_spec sq (k := 1) (s := rdN (hd t % 12) t.tail) (by omega) (by rw [rdN_len]; omega) a2.fr).mono ?_
    rintro _ H3 ⟨rfl, gr3⟩
    obtain ⟨H4, s4, l4, k4⟩ := fin ⟨1, c, ⟨0, 0, 0⟩, 0, 0, 0, frameB 1 (rdN (hd t % 12) t.tail)⟩ (t.tail.drop (hd t % 12)) (by unfold actT; rw [hk, if_neg c7, if_pos c9]) (by unfold actT; rw [hk, if_neg c7, if_pos c9]) H3 (a2.trans (gr3.ax rb)) (r2.gr gr3)
    have bv : buildV zero9 [(0, 1, .int .u8 1), (1, 1, .int .i64 (c : Int)), (8, 1, .str (frameB 1 (rdN (hd t % 12) t.tail)))] = some (.agg (ActP.cs ⟨1, c, ⟨0, 0, 0⟩, 0, 0, 0, frameB 1 (rdN (hd t % 12) t.tail)⟩)) := rfl
    unfold zero9 at bv
    simp only [e6, run_build, bv, wp_store, s4, A10, resCell, l4, SX, reduceCtorEq, Nat.reduceEqDiff, ↓reduceIte, Int.reduceEq, Int.reduceLT, Int.reduceLE, Nat.reduceAdd]
    exact k4
  by_cases c13 : k < 13
  · have d7 : ¬ (k : Int) < 7 := by omega
    have d9 : ¬ (k : Int) < 9 := by omega
    have d13 : (k : Int) < 13 := by omega
    simp only [e3, e6, e7, e8, e9, d7, d9, d13, l31, SX, reduceCtorEq, Nat.reduceEqDiff, ↓reduceIte, Int.reduceEq, Int.reduceLT, Int.reduceLE, Nat.reduceAdd]
    refine (pane_spec sq hl1 hm r1 f1).mono ?_
    rintro _ H2 ⟨rfl, a2, r2⟩
    have hp2 := hp1.ax hr a2
    obtain ⟨H3, s3, g3, k3⟩ := hp2.make [.int .i64 0, .int .i64 0, .int .i64 0] 3
    have n3 : H3.next = H2.next + 1 := by rw [← s3]; rfl
    obtain ⟨b12, hb12⟩ : ∃ b12, H2.next = b12 := ⟨_, rfl⟩
    obtain ⟨H4, s4, g4, k4, n4⟩ := g3.storeN (n := 3) (new := [.int .i64 ((hd t % lm : Nat) : Int), .int .i64 ((hd t.tail % lm : Nat) : Int), .int .i64 ((hd t.tail.tail % 4 : Nat) : Int)]) rfl rfl rfl
    have l4 := g4.loadN (List.mem_cons_self ..) (n := 3) rfl
    have l43 := g4.load (List.mem_cons_of_mem _ (List.mem_cons_of_mem _ hb3)) (o := 0) (v := .ptr rb 0) rfl
    have a24 : Ax rb H2 H4 := (Ax.refl a2.fr).keepT (by
      obtain ⟨Ha, sa, ga, ka⟩ := (Hp.nil H2 a2.fr).make [.int .i64 0, .int .i64 0, .int .i64 0] 3
      rw [s3] at sa; subst sa
      obtain ⟨Hb, sb, gb, kb, _⟩ := ga.storeN (n := 3) (new := [.int .i64 ((hd t % lm : Nat) : Int), .int .i64 ((hd t.tail % lm : Nat) : Int), .int .i64 ((hd t.tail.tail % 4 : Nat) : Int)]) rfl rfl rfl
      rw [s4] at sb
      obtain rfl : H4 = Hb := (Prod.mk.inj (Option.some.inj sb)).2
      exact ka.trans kb) (by omega) g4.fr
    have r4 : Rdr rb H4 t.tail.tail.tail := r2.keep hr (k3.trans k4) (by omega)
    simp only [e3, run_allocL, val_ptr, s3, wp_store, s4, l4, l43, SX, reduceCtorEq, Nat.reduceEqDiff, ↓reduceIte, Int.reduceEq, Int.reduceLT, Int.reduceLE, Nat.reduceAdd]
    refine (text_spec sq (m := 40) (by omega) (by omega) r4 g4.fr).mono ?_
    rintro _ H5 ⟨rfl, a5, r5⟩
    have g5 := g4.ax hr a5
    have l5 := g5.loadN (List.mem_cons_self ..) (n := 3) rfl
    obtain ⟨H6, s6, l6, k6⟩ := fin ⟨2, 0, ⟨((hd t % lm : Nat) : Int), ((hd t.tail % lm : Nat) : Int), ((hd t.tail.tail % 4 : Nat) : Int)⟩, 0, 0, 0, rdN (hd t.tail.tail.tail % 40) t.tail.tail.tail.tail⟩ (t.tail.tail.tail.tail.drop (hd t.tail.tail.tail % 40)) (by unfold actT; rw [hk, if_neg c7, if_neg c9, if_pos c13]) (by unfold actT; rw [hk, if_neg c7, if_neg c9, if_pos c13]) H5 ((a2.trans a24).trans a5) r5
    have bv : buildV zero9 [(0, 1, .int .u8 2), (2, 3, .agg [.int .i64 ((hd t % lm : Nat) : Int), .int .i64 ((hd t.tail % lm : Nat) : Int), .int .i64 ((hd t.tail.tail % 4 : Nat) : Int)]), (8, 1, .str (rdN (hd t.tail.tail.tail % 40) t.tail.tail.tail.tail))] = some (.agg (ActP.cs ⟨2, 0, ⟨((hd t % lm : Nat) : Int), ((hd t.tail % lm : Nat) : Int), ((hd t.tail.tail % 4 : Nat) : Int)⟩, 0, 0, 0, rdN (hd t.tail.tail.tail % 40) t.tail.tail.tail.tail⟩)) := rfl
    unfold zero9 at bv
    refine ⟨by simp only [echoOk, l5, SX, reduceCtorEq, Nat.reduceEqDiff, ↓reduceIte, Int.reduceEq, Int.reduceLT, Int.reduceLE, Nat.reduceAdd]; simp [AV.same, AV.sameL, AV.same1], ?_⟩
    simp only [e6, run_build, bv, wp_store, s6, A10, resCell, l6, SX, reduceCtorEq, Nat.reduceEqDiff, ↓reduceIte, Int.reduceEq, Int.reduceLT, Int.reduceLE, Nat.reduceAdd]
    exact k6
  have d7 : ¬ (k : Int) < 7 := by omega
  have d9 : ¬ (k : Int) < 9 := by omega
  have d13 : ¬ (k : Int) < 13 := by omega
  by_cases ce : k = 13
  · have de : (k : Int) = 13 := by omega
    simp only [e3, e6, e7, e8, e9, d7, d9, d13, de, l31, SX, reduceCtorEq, Nat.reduceEqDiff, ↓reduceIte, Int.reduceEq, Int.reduceLT, Int.reduceLE, Nat.reduceAdd]
    refine (below_spec sq (m := 60) (by omega) r1 f1).mono ?_
    rintro _ H2 ⟨rfl, a2, r2⟩
    have w2 : IntKind.wrap .i64 (2 + ((hd t % 60 : Nat) : Int)) = ((2 + hd t % 60 : Nat) : Int) := by rw [wrapI64 (by omega) (by omega)]; omega
    have bv : buildV zero9 [(0, 1, .int .u8 3), (1, 1, .int .i64 (c : Int)), (5, 1, .int .i64 ((2 + hd t % 60 : Nat) : Int))] = some (.agg (ActP.cs ⟨3, c, ⟨0, 0, 0⟩, ((2 + hd t % 60 : Nat) : Int), 0, 0, []⟩)) := rfl
    have hp2 := hp1.ax hr a2
    obtain ⟨H3, s3, g3, k3⟩ := hp2.make zero9 9
    have n3 : H3.next = H2.next + 1 := by rw [← s3]; rfl
    obtain ⟨H4, s4, g4, k4, n4⟩ := g3.storeN (n := 9) (new := ActP.cs ⟨3, c, ⟨0, 0, 0⟩, ((2 + hd t % 60 : Nat) : Int), 0, 0, []⟩) rfl rfl rfl
    have l43 := g4.load (List.mem_cons_of_mem _ (List.mem_cons_of_mem _ hb3)) (o := 0) (v := .ptr rb 0) rfl
    have a24 : Ax rb H2 H4 := (Ax.refl a2.fr).keepT (by
      obtain ⟨Ha, sa, ga, ka⟩ := (Hp.nil H2 a2.fr).make zero9 9
      rw [s3] at sa; subst sa
      obtain ⟨Hb, sb, gb, kb, _⟩ := ga.storeN (n := 9) (new := ActP.cs ⟨3, c, ⟨0, 0, 0⟩, ((2 + hd t % 60 : Nat) : Int), 0, 0, []⟩) rfl rfl rfl
      rw [s4] at sb
      obtain rfl : H4 = Hb := (Prod.mk.inj (Option.some.inj sb)).2
      exact ka.trans kb) (by omega) g4.fr
    have r4 : Rdr rb H4 t.tail := r2.keep hr (k3.trans k4) (by omega)
    unfold zero9 at bv s3
    simp only [e3, w2, run_build, bv, run_allocL, val_ptr, s3, wp_store, s4, l43, SX, reduceCtorEq, Nat.reduceEqDiff, ↓reduceIte, Int.reduceEq, Int.reduceLT, Int.reduceLE, Nat.reduceAdd]
    refine (below_spec sq (m := 20) (by omega) r4 g4.fr).mono ?_
    rintro _ H5 ⟨rfl, a5, r5⟩
    have g5 := g4.ax hr a5
    have w5 : IntKind.wrap .i64 (2 + ((hd t.tail % 20 : Nat) : Int)) = ((2 + hd t.tail % 20 : Nat) : Int) := by rw [wrapI64 (by omega) (by omega)]; omega
    obtain ⟨H6, s6, g6, k6, n6⟩ := g5.store (o := 6) (v := .int .i64 ((2 + hd t.tail % 20 : Nat) : Int)) rfl (by simp [ActP.cs])
    have l6 := g6.loadN (List.mem_cons_self ..) (n := 9) rfl
    have ec : (ActP.cs ⟨3, c, ⟨0, 0, 0⟩, ((2 + hd t % 60 : Nat) : Int), 0, 0, []⟩).set 6 (.int .i64 ((2 + hd t.tail % 20 : Nat) : Int)) = ActP.cs ⟨3, c, ⟨0, 0, 0⟩, ((2 + hd t % 60 : Nat) : Int), ((2 + hd t.tail % 20 : Nat) : Int), 0, []⟩ := rfl
    rw [ec] at l6
    have na2 := a2.next
    have k56 : Keep H1.next H5 H6 := fun x hx => store_other s6 (by omega)
    obtain ⟨H7, s7, l7, k7⟩ := fin ⟨3, c, ⟨0, 0, 0⟩, ((2 + hd t % 60 : Nat) : Int), ((2 + hd t.tail % 20 : Nat) : Int), 0, []⟩ t.tail.tail (by unfold actT; rw [hk, if_neg c7, if_neg c9, if_neg c13, if_pos ce]) (by unfold actT; rw [hk, if_neg c7, if_neg c9, if_neg c13, if_pos ce]) H6 (((a2.trans a24).trans a5).keepT k56 (by have := a24.next; have := a5.next; omega) g6.fr) (r5.keep hr k6 (by omega))
    simp only [e6, w5, wp_store, s6, l6, s7, A10, resCell, l7, SX, reduceCtorEq, Nat.reduceEqDiff, ↓reduceIte, Int.reduceEq, Int.reduceLT, Int.reduceLE, Nat.reduceAdd]
    exact k7
  have de : ¬ (k : Int) = 13 := by omega
  by_cases cf : k = 15
  · have df : (k : Int) = 15 := by omega
    simp only [e3, e6, e7, e8, e9, d7, d9, d13, de, df, l31, wp_callv, SX, reduceCtorEq, Nat.reduceEqDiff, ↓reduceIte, Int.reduceEq, Int.reduceLT, Int.reduceLE, Nat.reduceAdd]
    refine lab_spec sq hl1 hm r1 f1 fun H2 a2 r2 => ?_
    have bv : buildV zero9 [(0, 1, .int .u8 6), (7, 1, .int .i64 ((hd t % lm : Nat) : Int))] = some (.agg (ActP.cs ⟨6, 0, ⟨0, 0, 0⟩, 0, 0, ((hd t % lm : Nat) : Int), []⟩)) := rfl
    have hp2 := hp1.ax hr a2
    obtain ⟨H3, s3, g3, k3⟩ := hp2.make zero9 9
    have n3 : H3.next = H2.next + 1 := by rw [← s3]; rfl
    obtain ⟨H4, s4, g4, k4, n4⟩ := g3.storeN (n := 9) (new := ActP.cs ⟨6, 0, ⟨0, 0, 0⟩, 0, 0, ((hd t % lm : Nat) : Int), []⟩) rfl rfl rfl
    have l43 := g4.load (List.mem_cons_of_mem _ (List.mem_cons_of_mem _ hb3)) (o := 0) (v := .ptr rb 0) rfl
    have a24 : Ax rb H2 H4 := (Ax.refl a2.fr).keepT (by
      obtain ⟨Ha, sa, ga, ka⟩ := (Hp.nil H2 a2.fr).make zero9 9
      rw [s3] at sa; subst sa
      obtain ⟨Hb, sb, gb, kb, _⟩ := ga.storeN (n := 9) (new := ActP.cs ⟨6, 0, ⟨0, 0, 0⟩, 0, 0, ((hd t % lm : Nat) : Int), []⟩) rfl rfl rfl
      rw [s4] at sb
      obtain rfl : H4 = Hb := (Prod.mk.inj (Option.some.inj sb)).2
      exact ka.trans kb) (by omega) g4.fr
    have r4 : Rdr rb H4 t.tail := r2.keep hr (k3.trans k4) (by omega)
    unfold zero9 at bv s3
    simp only [e3, run_build, bv, run_allocL, val_ptr, s3, wp_store, s4, l43, SX, reduceCtorEq, Nat.reduceEqDiff, ↓reduceIte, Int.reduceEq, Int.reduceLT, Int.reduceLE, Nat.reduceAdd]
    refine (text_spec sq (m := 9) (by omega) (by omega) r4 g4.fr).mono ?_
    rintro _ H5 ⟨rfl, a5, r5⟩
    have g5 := g4.ax hr a5
    obtain ⟨H6, s6, g6, k6, n6⟩ := g5.store (o := 8) (v := .str (rdN (hd t.tail % 9) t.tail.tail)) rfl (by simp [ActP.cs])
    have l6 := g6.loadN (List.mem_cons_self ..) (n := 9) rfl
    have ec : (ActP.cs ⟨6, 0, ⟨0, 0, 0⟩, 0, 0, ((hd t % lm : Nat) : Int), []⟩).set 8 (.str (rdN (hd t.tail % 9) t.tail.tail)) = ActP.cs ⟨6, 0, ⟨0, 0, 0⟩, 0, 0, ((hd t % lm : Nat) : Int), rdN (hd t.tail % 9) t.tail.tail⟩ := rfl
    rw [ec] at l6
    have na2 := a2.next
    have k56 : Keep H1.next H5 H6 := fun x hx => store_other s6 (by omega)
    obtain ⟨H7, s7, l7, k7⟩ := fin ⟨6, 0, ⟨0, 0, 0⟩, 0, 0, ((hd t % lm : Nat) : Int), rdN (hd t.tail % 9) t.tail.tail⟩ (t.tail.tail.drop (hd t.tail % 9)) (by unfold actT; rw [hk, if_neg c7, if_neg c9, if_neg c13, if_neg ce, if_pos cf]) (by unfold actT; rw [hk, if_neg c7, if_neg c9, if_neg c13, if_neg ce, if_pos cf]) H6 (((a2.trans a24).trans a5).keepT k56 (by have := a24.next; have := a5.next; omega) g6.fr) (r5.keep hr k6 (by omega))
    simp only [e6, wp_store, s6, l6, s7, A10, resCell, l7, SX, reduceCtorEq, Nat.reduceEqDiff, ↓reduceIte, Int.reduceEq, Int.reduceLT, Int.reduceLE, Nat.reduceAdd]
    exact k7
  have df : ¬ (k : Int) = 15 := by omega
  have bv4 : buildV zero9 [(0, 1, .int .u8 4)] = some (.agg (ActP.cs ⟨4, 0, ⟨0, 0, 0⟩, 0, 0, 0, []⟩)) := rfl
  have bv5 : buildV zero9 [(0, 1, .int .u8 5), (7, 1, .int .i64 (c : Int))] = some (.agg (ActP.cs ⟨5, 0, ⟨0, 0, 0⟩, 0, 0, c, []⟩)) := rfl
  unfold zero9 at bv4 bv5
  by_cases c0 : c = 0
  · have d0 : (c : Int) = 0 := by omega
    simp only [e3, e6, e7, e8, e9, d7, d9, d13, de, df, d0, l31, SX, reduceCtorEq, Nat.reduceEqDiff, ↓reduceIte, Int.reduceEq, Int.reduceLT, Int.reduceLE, Nat.reduceAdd]
    refine (below_spec sq (m := 4) (by omega) r1 f1).mono ?_
    rintro _ H2 ⟨rfl, a2, r2⟩
    by_cases c4 : hd t % 4 = 0
    · have d4 : ((hd t % 4 : Nat) : Int) = 0 := by omega
      obtain ⟨H7, s7, l7, k7⟩ := fin ⟨4, 0, ⟨0, 0, 0⟩, 0, 0, 0, []⟩ t.tail (by unfold actT; rw [hk, if_neg c7, if_neg c9, if_neg c13, if_neg ce, if_neg cf, if_pos c0, if_pos c4]) (by unfold actT; rw [hk, if_neg c7, if_neg c9, if_neg c13, if_neg ce, if_neg cf, if_pos c0, if_pos c4]) H2 a2 r2
      simp only [e6, d4, run_build, bv4, wp_store, s7, A10, resCell, l7, SX, reduceCtorEq, Nat.reduceEqDiff, ↓reduceIte, Int.reduceEq, Int.reduceLT, Int.reduceLE, Nat.reduceAdd]
      exact k7
    · have d4 : ((hd t % 4 : Nat) : Int) = 0 ↔ False := ⟨fun hh => c4 (by omega), False.elim⟩
      obtain ⟨H7, s7, l7, k7⟩ := fin ⟨5, 0, ⟨0, 0, 0⟩, 0, 0, c, []⟩ t.tail (by unfold actT; rw [hk, if_neg c7, if_neg c9, if_neg c13, if_neg ce, if_neg cf, if_pos c0, if_neg c4]) (by unfold actT; rw [hk, if_neg c7, if_neg c9, if_neg c13, if_neg ce, if_neg cf, if_pos c0, if_neg c4]) H2 a2 r2
      rw [d0] at bv5 s7 l7 k7
      simp only [e6, d4, run_build, bv5, wp_store, s7, A10, resCell, l7, SX, reduceCtorEq, Nat.reduceEqDiff, ↓reduceIte, Int.reduceEq, Int.reduceLT, Int.reduceLE, Nat.reduceAdd]
      exact k7
  · have d0 : (c : Int) = 0 ↔ False := ⟨fun hh => c0 (by omega), False.elim⟩
    obtain ⟨H7, s7, l7, k7⟩ := fin ⟨5, 0, ⟨0, 0, 0⟩, 0, 0, c, []⟩ t (by unfold actT; rw [hk, if_neg c7, if_neg c9, if_neg c13, if_neg ce, if_neg cf, if_neg c0]) (by unfold actT; rw [hk, if_neg c7, if_neg c9, if_neg c13, if_neg ce, if_neg cf, if_neg c0]) H1 (Ax.refl f1) r1
    simp only [e3, e6, e7, e8, e9, d7, d9, d13, de, df, d0, l31, wantV_undef, run_build, bv5, wp_store, s7, A10, resCell, l7, SX, reduceCtorEq, Nat.reduceEqDiff, ↓reduceIte, Int.reduceEq, Int.reduceLT, Int.reduceLE, Nat.reduceAdd]
    exact k7
set_option maxHeartbeats 2000000 in
theorem act_spec {rb L C : Nat} {s : List UInt8} (hL : 0 < L) (hL2 : L ≤ 256) (hC : 0 < C) (hC2 : C ≤ 256) (h : Rdr rb H s) (hf : Fr H) (ht : hasTabs H Q.tabs = true) :
    FnTo Q 10 [.ptr rb 0, .int .i64 (L : Int), .int .i64 (C : Int)] H (fun r H' => r = .agg (actP L C s).1.cs ∧ Ax rb H H' ∧ Rdr rb H' (actP L C s).2) := by
  refine fn_wp (sq.ho 10 rfl _) sq.q10 (by simp [A10]) ?_
  have h0 : 0 < H.next := by have := h.lt; omega
  have rlt := h.lt
  have bxp : boxV (.ptr rb 0) = some (.row ⟨[.ptr rb 0], 0, false, true, 0⟩, .ptr) := rfl
  have bxi : boxV (.int .i64 (L : Int)) = some (.row ⟨[.int .i64 (L : Int)], 0, false, true, 0⟩, .ptr) := rfl
  obtain ⟨H1, s1, g1, k1⟩ := (Hp.nil H hf).make [.ptr rb 0] 1
  have n1 : H1.next = H.next + 1 := by rw [← s1]; rfl
  obtain ⟨H2, s2, g2, k2⟩ := g1.make [.int .i64 (L : Int)] 1
  have n2 : H2.next = H1.next + 1 := by rw [← s2]; rfl
  obtain ⟨b4, hb4⟩ : ∃ b4, H1.next = b4 := ⟨_, rfl⟩
  rw [hb4] at g2
  obtain ⟨H3, s3, g3, k3⟩ := g2.make zero9 9
  have n3 : H3.next = H2.next + 1 := by rw [← s3]; rfl
  obtain ⟨b6, hb6⟩ : ∃ b6, H2.next = b6 := ⟨_, rfl⟩
  rw [hb6] at g3
  have k13 := (k1.trans k2).trans k3
  have r3 : Rdr rb H3 s := h.keep h.lt k13 (by omega)
  have l3 := g3.load (b := H.next) (k := 1) (cs := [.ptr rb 0]) (by simp) (o := 0) (v := .ptr rb 0) rfl
  unfold zero9 at s3
  simp only [A10, run_box, bxp, bxi, val_ptr, s1, hb4, s2, run_allocL, s3, hb6, l3, SX, reduceCtorEq, Nat.reduceEqDiff, ↓reduceIte, Int.reduceEq, Int.reduceLT, Int.reduceLE, Nat.reduceAdd]
  refine (byte_spec sq r3 g3.fr).mono ?_
  rintro _ H4 ⟨rfl, a4, r4⟩
  have g4 := g3.ax h.lt a4
  have n4 := a4.next
  have ht4 : hasTabs H4 Q.tabs = true := a4.tabs sq.tz h.pos (by omega) (k13.tabs sq.tz h0 ht)
  have l43 := g4.load (b := H.next) (k := 1) (cs := [.ptr rb 0]) (by simp) (o := 0) (v := .ptr rb 0) rfl
  have l44 := g4.load (b := b4) (k := 1) (cs := [.int .i64 (L : Int)]) (by simp) (o := 0) (v := .int .i64 (L : Int)) rfl
  have fin : ∀ (r : ActP × List UInt8), actP L C s = r → ∀ H', (∀ x, x < H.next → x ≠ rb → H'.get x = H4.get x) → H4.next ≤ H'.next → Fr H' → Rdr rb H' r.2 → (AV.agg r.1.cs = .agg (actP L C s).1.cs ∧ Ax rb H H' ∧ Rdr rb H' (actP L C s).2) := by
    rintro r rfl H' q1 q2 q3 q4
    refine ⟨rfl, ⟨fun x hx hxr => ?_, by omega, q3⟩, q4⟩
    rw [q1 x hx hxr, a4.keep x (by omega) hxr, k13 x hx]
  by_cases cw : 240 ≤ hd s
  · have dw : (240 : Int) ≤ (hd s : Int) := by omega
    have lab : Lab rb 256 H4.next H4 (.fn (.func 18) [] [.ptr H.next 0]) := ⟨by omega, Nat.le_refl _, .inr ⟨rfl, H.next, rfl, by omega, by omega, l43⟩⟩
    simp only [run_mkFn, dw, SX, reduceCtorEq, Nat.reduceEqDiff, ↓reduceIte, Int.reduceEq, Int.reduceLT, Int.reduceLE, Nat.reduceAdd]
    refine actT_spec sq (b := hd s) (lm := 256) (cm := 256) (tl := [33]) (hd_lt s) lab (by omega) (by omega) (by omega) (by omega) (by simp) r4 h.lt ht4 g4 (b3 := H.next) (by simp) (by first | (simp only [SG, reduceCtorEq, Nat.reduceEqDiff, ↓reduceIte] <;> rfl) | rfl) (by first | (simp only [SG, reduceCtorEq, Nat.reduceEqDiff, ↓reduceIte] <;> rfl) | rfl) (by first | (simp only [SG, reduceCtorEq, Nat.reduceEqDiff, ↓reduceIte] <;> rfl) | rfl) (by first | (simp only [SG, reduceCtorEq, Nat.reduceEqDiff, ↓reduceIte] <;> rfl) | rfl) (by first | (simp only [SG, reduceCtorEq, Nat.reduceEqDiff, ↓reduceIte] <;> rfl) | rfl) (by first | (simp only [SG, reduceCtorEq, Nat.reduceEqDiff, ↓reduceIte] <;> rfl) | rfl) ?_
    refine fin _ ?_
    unfold actP; rw [if_pos cw]
  · have dw : ¬ (240 : Int) ≤ (hd s : Int) := by omega
    have lab : Lab rb L H4.next H4 (.fn (.func 17) [] [.ptr H.next 0, .ptr b4 0]) := ⟨by omega, Nat.le_refl _, .inl ⟨H.next, b4, rfl, by omega, by omega, by omega, by omega, l43, l44⟩⟩
    simp only [run_mkFn, dw, SX, reduceCtorEq, Nat.reduceEqDiff, ↓reduceIte, Int.reduceEq, Int.reduceLT, Int.reduceLE, Nat.reduceAdd]
    refine actT_spec sq (b := hd s) (lm := L) (cm := C) (tl := []) (hd_lt s) lab hL hL2 hC hC2 (by simp) r4 h.lt ht4 g4 (b3 := H.next) (by simp) (by first | (simp only [SG, reduceCtorEq, Nat.reduceEqDiff, ↓reduceIte] <;> rfl) | rfl) (by first | (simp only [SG, reduceCtorEq, Nat.reduceEqDiff, ↓reduceIte] <;> rfl) | rfl) (by first | (simp only [SG, reduceCtorEq, Nat.reduceEqDiff, ↓reduceIte] <;> rfl) | rfl) (by first | (simp only [SG, reduceCtorEq, Nat.reduceEqDiff, ↓reduceIte] <;> rfl) | rfl) (by first | (simp only [SG, reduceCtorEq, Nat.reduceEqDiff, ↓reduceIte] <;> rfl) | rfl) (by first | (simp only [SG, reduceCtorEq, Nat.reduceEqDiff, ↓reduceIte] <;> rfl) | rfl) ?_
    refine fin _ ?_
    unfold actP; rw [if_neg cw]
end
def andNI (x y : Nat) : Int := IntKind.wrap .i64 (((BitVec.ofInt 64 (x : Int) &&& ~~~ BitVec.ofInt 64 (y : Int)).toNat : Nat) : Int)
theorem bin_andNot (x y : Nat) : binV .andNot (.int .i64 (x : Int)) (.int .i64 (y : Int)) = some (.int .i64 (andNI x y)) := rfl
def tabB (r a b : Nat) : Bool := decide (((a % r : Nat) : Int) ≤ ((b % r : Nat) : Int)) && decide (andNI (a / r) (b / r) = 0)
def tabR (r n a : Nat) : List AV := (List.range n).map fun b => .bool (tabB r a b)
/-- rows that were made within bounds -/
def RowsO (k lo hi : Nat) (H : AHeap) (v : AV) (ls : List (List AV)) : Prop :=
  (∀ r ∈ ls, r.length = k) ∧ ((v = .nils ∧ ls = []) ∨ ∃ b es ty, v = .slc b 0 ls.length ls.length ∧ lo ≤ b ∧ b < hi ∧ H.get b = some (.row ⟨ls.flatten, es, false, true, ty⟩))
def TabO (lo hi : Nat) (H : AHeap) (v : AV) (r n : Nat) : Prop :=
  ∃ b es ty tv, v = .slc b 0 n n ∧ lo ≤ b ∧ b < hi ∧ H.get b = some (.row ⟨tv, es, false, true, ty⟩) ∧ tv.length = n ∧ ∀ a, a < n → ∃ ba es' ty', tv[a]? = some (.slc ba 0 n n) ∧ lo ≤ ba ∧ ba < hi ∧ H.get ba = some (.row ⟨tabR r n a, es', false, true, ty'⟩)
section
variable {k lo hi : Nat} {H H' : AHeap} {v : AV} {ls : List (List AV)}
theorem RowsO.of (h : RowsO k lo hi H v ls) (hg : ∀ x, lo ≤ x → x < hi → H'.get x = H.get x) : RowsO k lo hi H' v ls := by
  obtain ⟨h0, h | ⟨b, es, ty, h1, h2, h3, h4⟩⟩ := h
  · exact ⟨h0, .inl h⟩
  · exact ⟨h0, .inr ⟨b, es, ty, h1, h2, h3, by rw [hg b h2 h3]; exact h4⟩⟩
theorem RowsO.wide {lo' hi' : Nat} (h : RowsO k lo hi H v ls) (h1 : lo' ≤ lo) (h2 : hi ≤ hi') : RowsO k lo' hi' H v ls := by
  obtain ⟨h0, h | ⟨b, es, ty, e1, e2, e3, e4⟩⟩ := h
  · exact ⟨h0, .inl h⟩
  · exact ⟨h0, .inr ⟨b, es, ty, e1, by omega, by omega, e4⟩⟩
theorem RowsO.len (h : RowsO k lo hi H v ls) (H2 : AHeap) : lngV H2 1 v = some (.int .i64 (ls.length : Int)) := by
  obtain ⟨h0, ⟨rfl, rfl⟩ | ⟨b, es, ty, rfl, _⟩⟩ := h <;> rfl
theorem RowsO.one (h : RowsO k lo hi H v ls) : v.one = true := by
  obtain ⟨h0, ⟨rfl, rfl⟩ | ⟨b, es, ty, rfl, _⟩⟩ := h <;> rfl
theorem RowsO.at (h : RowsO k lo hi H v ls) {i : Nat} {r : List AV} (hr : ls[i]? = some r) (kd : IntKind) : ∃ b, idxSV k v (.int kd (i : Int)) = some (.ptr b (i * k)) ∧ loadV H (some k) (.ptr b (i * k)) = some (.agg r) ∧ ∀ j x, r[j]? = some x → loadV H none (.ptr b (i * k + j)) = some x := by
  have hi' := (List.getElem?_eq_some_iff.1 hr).1
  obtain ⟨h0, ⟨rfl, rfl⟩ | ⟨b, es, ty, rfl, _, _, hg⟩⟩ := h
  · simp at hi'
  · have hrow : H.row b = some ⟨ls.flatten, es, false, true, ty⟩ := by simp only [AHeap.row, hg, if_true]
    obtain ⟨f1, f2⟩ := flat_split h0 hr
    have hk := h0 r (List.mem_of_getElem? hr)
    refine ⟨b, idxSV_k hi', ?_, fun j x hj => ?_⟩
    · simp only [loadV, ROp.run, Opd.ev, hrow, AM.cut]
      rw [f1, if_pos (by simp only [List.length_append, f2]; omega), ← f2]
      simp [hk]
    · have hjl := (List.getElem?_eq_some_iff.1 hj).1
      simp only [loadV, ROp.run, Opd.ev, hrow]
      rw [f1, List.getElem?_append_right (by omega), f2, Nat.add_sub_cancel_left, List.getElem?_append_left hjl, hj]
theorem Grow.rowsO {base n : Nat} {rest : List Cel} (h : Grow k base H v ls.flatten n rest) (hk : ∀ r ∈ ls, r.length = k) (hn : ls.length = n) : RowsO k base H.next H v ls := by
  subst hn
  obtain ⟨h0, ⟨h1, h2, h⟩ | ⟨h1, b, rfl, h⟩⟩ := h
  · exact ⟨hk, .inl ⟨h2, List.eq_nil_of_length_eq_zero h1⟩⟩
  · obtain ⟨es, ty, g1, _⟩ := h.has _ (List.mem_cons_self ..)
    exact ⟨hk, .inr ⟨b, es, ty, rfl, h.lo _ (List.mem_cons_self ..), h.lt (List.mem_cons_self ..), g1⟩⟩
theorem TabO.of {r n : Nat} (h : TabO lo hi H v r n) (hg : ∀ x, lo ≤ x → x < hi → H'.get x = H.get x) : TabO lo hi H' v r n := by
  obtain ⟨b, es, ty, tv, h1, h2, h3, h4, h5, h6⟩ := h
  refine ⟨b, es, ty, tv, h1, h2, h3, by rw [hg b h2 h3]; exact h4, h5, fun a ha => ?_⟩
  obtain ⟨ba, es', ty', q1, q2, q3, q4⟩ := h6 a ha
  exact ⟨ba, es', ty', q1, q2, q3, by rw [hg ba q2 q3]; exact q4⟩
theorem TabO.wide {r n lo' hi' : Nat} (h : TabO lo hi H v r n) (w1 : lo' ≤ lo) (w2 : hi ≤ hi') : TabO lo' hi' H v r n := by
  obtain ⟨b, es, ty, tv, h1, h2, h3, h4, h5, h6⟩ := h
  refine ⟨b, es, ty, tv, h1, by omega, by omega, h4, h5, fun a ha => ?_⟩
  obtain ⟨ba, es', ty', q1, q2, q3, q4⟩ := h6 a ha
  exact ⟨ba, es', ty', q1, by omega, by omega, q4⟩
theorem TabO.len {r n : Nat} (h : TabO lo hi H v r n) (H2 : AHeap) : lngV H2 1 v = some (.int .i64 (n : Int)) := by
  obtain ⟨b, es, ty, tv, rfl, _⟩ := h
  rfl
theorem TabO.one {r n : Nat} (h : TabO lo hi H v r n) : v.one = true := by
  obtain ⟨b, es, ty, tv, rfl, _⟩ := h
  rfl
end
theorem tabR_succ (r j a : Nat) : tabR r (j + 1) a = tabR r j a ++ [.bool (tabB r a j)] := by simp [tabR, List.range_succ]
section
variable {Q : Prog} (sq : ScQ Q) {H : AHeap}
include sq
set_option maxHeartbeats 4000000 in
theorem table_spec {r t : Nat} (hr : 0 < r) (hr2 : r ≤ 3) (ht : t ≤ 2) (hf : Fr H) : FnTo Q 15 [.int .i64 (r : Int), .int .i64 (t : Int)] H (fun v H' => TabO H.next H'.next H' v r (r * 2 ^ t) ∧ Gr H H') := by
  refine fn_wp (sq.ho 15 rfl _) sq.q15 (by simp [A15]) ?_
  have pw : 2 ^ t ≤ 4 ∧ 1 ≤ 2 ^ t := by
    have : t = 0 ∨ t = 1 ∨ t = 2 := by omega
    rcases this with rfl | rfl | rfl <;> simp
  obtain ⟨n, hn⟩ : ∃ n, r * 2 ^ t = n := ⟨_, rfl⟩
  have hn1 : n ≤ 12 := by
    rw [← hn]; exact Nat.mul_le_mul hr2 pw.1
  have hn0 : 0 < n := by rw [← hn]; exact Nat.mul_pos hr (by omega)
  have sh : binV .shl (.int .i64 (r : Int)) (.int .i64 (t : Int)) = some (.int .i64 (n : Int)) := by rw [shlN (by omega) (by omega), hn]
  have mk := mkV_one n (by omega) (bs := 24) (by omega) (z := .nils) rfl
  obtain ⟨H1, s1, g1, k1⟩ := (Hp.nil H hf).make (List.replicate n .nils) 1
  obtain ⟨bt, hbt⟩ : ∃ bt, H.next = bt := ⟨_, rfl⟩
  simp only [A15, sh, run_mk, mk, s1, val_slc, SX, reduceCtorEq, Nat.reduceEqDiff, ↓reduceIte, Int.reduceEq, Int.reduceLT, Int.reduceLE, Nat.reduceAdd]
  rw [hn]
  obtain ⟨I, hI⟩ : ∃ I : Nat → Env → AHeap → Prop, ∀ m e H', I m e H' ↔ (∃ i tv L, m = n - i ∧ i ≤ n ∧ tv.length = n ∧ Hp H.next H' (⟨H.next, 1, tv⟩ :: L) ∧ Keep H.next H H' ∧ (∀ a, a < i → ∃ ba, tv[a]? = some (.slc ba 0 n n) ∧ (⟨ba, 1, tabR r n a⟩ : Cel) ∈ L) ∧ (∀ a, i ≤ a → a < n → tv[a]? = some .nils) ∧
      Env.get e 0 = .int .i64 (r : Int) ∧ Env.get e 5 = .int .i64 (n : Int) ∧ Env.get e 6 = .slc H.next 0 n n ∧ Env.get e 14 = .int .i64 (n : Int) ∧ Env.get e 15 = .int .i64 (i : Int)) := ⟨_, fun _ _ _ => Iff.rfl⟩
  refine loop_by I n ?_ ?_
  · exact (hI _ _ _).2 ⟨0, _, [], rfl, by omega, by simp, g1, k1, fun a ha => by omega, fun a _ ha => by simp [ha], (by first | (simp only [SG, reduceCtorEq, Nat.reduceEqDiff, ↓reduceIte] <;> rfl) | rfl), (by first | (simp only [SG, reduceCtorEq, Nat.reduceEqDiff, ↓reduceIte] <;> rfl) | rfl), (by first | (simp only [SG, reduceCtorEq, Nat.reduceEqDiff, ↓reduceIte] <;> rfl) | rfl), (by first | (simp only [SG, reduceCtorEq, Nat.reduceEqDiff, ↓reduceIte] <;> rfl) | rfl), (by first | (simp only [SG, reduceCtorEq, Nat.reduceEqDiff, ↓reduceIte] <;> rfl) | rfl)⟩
  · intro m' e H2 hinv
    obtain ⟨i, tv, L, rfl, hi, htv, g2, k2, hd, hu, e0, e5, e6, e14, e15⟩ := (hI _ _ _).1 hinv
    by_cases d : (i : Int) < (n : Int)
    · have hin : i < n := by omega
      have w1 : IntKind.wrap .i64 ((i : Int) + 1) = ((i + 1 : Nat) : Int) := wrapNat (n := i + 1) (by omega)
      simp only [A15_l1, e0, e5, e6, e14, e15, d, SX, reduceCtorEq, Nat.reduceEqDiff, ↓reduceIte, Int.reduceEq, Int.reduceLT, Int.reduceLE, Nat.reduceAdd]
      obtain ⟨J, hJ⟩ : ∃ J : Nat → Env → AHeap → Prop, ∀ m e H', J m e H' ↔ (∃ j v tv', m = n - j ∧ j ≤ n ∧ tv'.length = n ∧ Grow 1 H.next H' v (tabR r j i) j (⟨H.next, 1, tv'⟩ :: L) ∧ Keep H.next H H' ∧ tv'[i]? = some v ∧ (∀ a, a ≠ i → tv'[a]? = tv[a]?) ∧
          Env.get e 0 = .int .i64 (r : Int) ∧ Env.get e 5 = .int .i64 (n : Int) ∧ Env.get e 6 = .slc H.next 0 n n ∧ Env.get e 7 = .int .i64 (i : Int) ∧ Env.get e 14 = .int .i64 (n : Int) ∧ Env.get e 15 = .int .i64 (i : Int) ∧ Env.get e 18 = .int .i64 (n : Int) ∧ Env.get e 19 = .int .i64 (j : Int)) := ⟨_, fun _ _ _ => Iff.rfl⟩
      refine loop_by J n ?_ ?_
      · exact (hJ _ _ _).2 ⟨0, .nils, tv, rfl, by omega, htv, Grow.nil 1 g2, k2, hu i (Nat.le_refl _) hin, fun _ _ => rfl, (by simp only [SG, reduceCtorEq, Nat.reduceEqDiff, ↓reduceIte, e0] <;> rfl), (by simp only [SG, reduceCtorEq, Nat.reduceEqDiff, ↓reduceIte, e5] <;> rfl), (by simp only [SG, reduceCtorEq, Nat.reduceEqDiff, ↓reduceIte, e6] <;> rfl), (by first | (simp only [SG, reduceCtorEq, Nat.reduceEqDiff, ↓reduceIte] <;> rfl) | rfl), (by simp only [SG, reduceCtorEq, Nat.reduceEqDiff, ↓reduceIte, e14] <;> rfl), (by simp only [SG, reduceCtorEq, Nat.reduceEqDiff, ↓reduceIte, e15] <;> rfl), (by first | (simp only [SG, reduceCtorEq, Nat.reduceEqDiff, ↓reduceIte] <;> rfl) | rfl), (by first | (simp only [SG, reduceCtorEq, Nat.reduceEqDiff, ↓reduceIte] <;> rfl) | rfl)⟩
      · intro m'' e' H3 hinv'
        obtain ⟨j, v, tv', rfl, hj, htv', g3, k3, hv, ho, f0, f5, f6, f7, f14, f15, f18, f19⟩ := (hJ _ _ _).1 hinv'
        by_cases dj : (j : Int) < (n : Int)
        · have ix := idxSV_k (b := H.next) (n := n) (cap := n) (k := 1) (kd := .i64) hin
          rw [Nat.mul_one] at ix
          have ld := g3.hp.load (List.mem_cons_self ..) hv
          have rm1 := remN (a := i) hr
          have rm2 := remN (a := j) hr
          have qu1 := quoN (a := i) hr (by omega)
          have qu2 := quoN (a := j) hr (by omega)
          have an := bin_andNot (i / r) (j / r)
          have w2 : IntKind.wrap .i64 ((j : Int) + 1) = ((j + 1 : Nat) : Int) := wrapNat (n := j + 1) (by omega)
          obtain ⟨H4, H5, v5, s4, s5, g5, k5, nr5, nn5⟩ := g3.push (r := [.bool (tabB r i j)]) rfl rfl (by omega) (bytes := 1) (by omega) (by omega)
          obtain ⟨H6, s6, g6, k6, nr6, nn6⟩ := g5.store1 (o := i) g5.one (by omega)
          have bsv : bs1V (.bool (tabB r i j)) = some (.row ⟨[.bool (tabB r i j)], 0, false, true, 0⟩, .slc 1 1) := rfl
          have next : ∀ e'', Env.get e'' 0 = .int .i64 (r : Int) → Env.get e'' 5 = .int .i64 (n : Int) → Env.get e'' 6 = .slc H.next 0 n n → Env.get e'' 7 = .int .i64 (i : Int) → Env.get e'' 14 = .int .i64 (n : Int) → Env.get e'' 15 = .int .i64 (i : Int) → Env.get e'' 18 = .int .i64 (n : Int) → Env.get e'' 19 = .int .i64 ((j + 1 : Nat) : Int) → ∃ m', m' < n - j ∧ J m' e'' H6 := by
            intro e'' a0 a5 a6 a7 a14 a15 a18 a19
            refine ⟨n - (j + 1), by omega, (hJ _ _ _).2 ⟨j + 1, v5, tv'.set i v5, rfl, by omega, by simp [htv'], by rw [tabR_succ]; exact g6, (k3.trans k5).trans k6, by rw [List.getElem?_set_self (by omega)], fun a ha => by rw [List.getElem?_set_ne (fun hh => ha hh.symm)]; exact ho a ha, a0, a5, a6, a7, a14, a15, a18, a19⟩⟩
          by_cases c1 : ((i % r : Nat) : Int) ≤ ((j % r : Nat) : Int)
          · have tb : tabB r i j = decide (andNI (i / r) (j / r) = 0) := by unfold tabB; rw [decide_eq_true c1]; rfl
            rw [tb] at bsv s4
            have dc := decide_eq_true c1
            simp only [A15_l2, f0, f5, f6, f7, f14, f15, f18, f19, dj, ix, ld, rm1, rm2, c1, qu1, qu2, an, bsv, s4, wp_append, s5, wp_store, s6, w2, SX, reduceCtorEq, Nat.reduceEqDiff, ↓reduceIte, Int.reduceEq, Int.reduceLT, Int.reduceLE, Nat.reduceAdd]
            exact next _ (by simp only [SG, reduceCtorEq, Nat.reduceEqDiff, ↓reduceIte, f0] <;> rfl) (by simp only [SG, reduceCtorEq, Nat.reduceEqDiff, ↓reduceIte, f5] <;> rfl) (by simp only [SG, reduceCtorEq, Nat.reduceEqDiff, ↓reduceIte, f6] <;> rfl) (by simp only [SG, reduceCtorEq, Nat.reduceEqDiff, ↓reduceIte, f7] <;> rfl) (by simp only [SG, reduceCtorEq, Nat.reduceEqDiff, ↓reduceIte, f14] <;> rfl) (by simp only [SG, reduceCtorEq, Nat.reduceEqDiff, ↓reduceIte, f15] <;> rfl) (by simp only [SG, reduceCtorEq, Nat.reduceEqDiff, ↓reduceIte, f18] <;> rfl) (by first | (simp only [SG, reduceCtorEq, Nat.reduceEqDiff, ↓reduceIte] <;> rfl) | rfl)
          · have tb : tabB r i j = false := by unfold tabB; rw [decide_eq_false c1]; rfl
            rw [tb] at bsv s4
            simp only [A15_l2, f0, f5, f6, f7, f14, f15, f18, f19, dj, ix, ld, rm1, rm2, c1, wantV_undef, bsv, s4, wp_append, s5, wp_store, s6, w2, SX, reduceCtorEq, Nat.reduceEqDiff, ↓reduceIte, Int.reduceEq, Int.reduceLT, Int.reduceLE, Nat.reduceAdd]
            exact next _ (by simp only [SG, reduceCtorEq, Nat.reduceEqDiff, ↓reduceIte, f0] <;> rfl) (by simp only [SG, reduceCtorEq, Nat.reduceEqDiff, ↓reduceIte, f5] <;> rfl) (by simp only [SG, reduceCtorEq, Nat.reduceEqDiff, ↓reduceIte, f6] <;> rfl) (by simp only [SG, reduceCtorEq, Nat.reduceEqDiff, ↓reduceIte, f7] <;> rfl) (by simp only [SG, reduceCtorEq, Nat.reduceEqDiff, ↓reduceIte, f14] <;> rfl) (by simp only [SG, reduceCtorEq, Nat.reduceEqDiff, ↓reduceIte, f15] <;> rfl) (by simp only [SG, reduceCtorEq, Nat.reduceEqDiff, ↓reduceIte, f18] <;> rfl) (by first | (simp only [SG, reduceCtorEq, Nat.reduceEqDiff, ↓reduceIte] <;> rfl) | rfl)
        · obtain rfl : j = n := by omega
          obtain ⟨h0', ⟨hz, _⟩ | ⟨_, ba, rfl, gh⟩⟩ := g3
          · omega
          · simp only [A15_l2, f0, f5, f6, f7, f14, f15, f18, f19, dj, w1, SX, reduceCtorEq, Nat.reduceEqDiff, ↓reduceIte, Int.reduceEq, Int.reduceLT, Int.reduceLE, Nat.reduceAdd]
            refine ⟨j - (i + 1), by omega, (hI _ _ _).2 ⟨i + 1, tv', ⟨ba, 1, tabR r j i⟩ :: L, rfl, by omega, htv', gh.swap, k3, fun a ha => ?_, fun a ha ha' => ?_, (by simp only [SG, reduceCtorEq, Nat.reduceEqDiff, ↓reduceIte, f0] <;> rfl), (by simp only [SG, reduceCtorEq, Nat.reduceEqDiff, ↓reduceIte, f5] <;> rfl), (by simp only [SG, reduceCtorEq, Nat.reduceEqDiff, ↓reduceIte, f6] <;> rfl), (by simp only [SG, reduceCtorEq, Nat.reduceEqDiff, ↓reduceIte, f14] <;> rfl), (by first | (simp only [SG, reduceCtorEq, Nat.reduceEqDiff, ↓reduceIte] <;> rfl) | rfl)⟩⟩
            · by_cases hai : a = i
              · subst hai; exact ⟨ba, hv, List.mem_cons_self ..⟩
              · obtain ⟨bb, q1, q2⟩ := hd a (by omega)
                exact ⟨bb, by rw [ho a hai]; exact q1, List.mem_cons_of_mem _ q2⟩
            · rw [ho a (by omega)]; exact hu a (by omega) ha'
    · obtain rfl : i = n := by omega
      simp only [A15_l1, e0, e5, e6, e14, e15, d, SX, reduceCtorEq, Nat.reduceEqDiff, ↓reduceIte, Int.reduceEq, Int.reduceLT, Int.reduceLE, Nat.reduceAdd]
      refine ⟨?_, g2.gr k2⟩
      obtain ⟨es, ty, q1, q2⟩ := g2.has _ (List.mem_cons_self ..)
      refine ⟨H.next, es, ty, tv, rfl, Nat.le_refl _, g2.lt (List.mem_cons_self ..), q1, htv, fun a ha => ?_⟩
      obtain ⟨ba, p1, p2⟩ := hd a ha
      obtain ⟨es', ty', q1', _⟩ := g2.has _ (List.mem_cons_of_mem _ p2)
      exact ⟨ba, es', ty', p1, g2.lo _ (List.mem_cons_of_mem _ p2), g2.lt (List.mem_cons_of_mem _ p2), q1'⟩
end
theorem drop2 (s : List UInt8) : s.drop 2 = s.tail.tail := by
  match s with
  | [] => rfl
  | [_] => rfl
  | _ :: _ :: _ => rfl
theorem drop3 (s : List UInt8) : s.drop 3 = s.tail.tail.tail := by
  match s with
  | [] => rfl
  | [_] => rfl
  | [_, _] => rfl
  | _ :: _ :: _ :: _ => rfl
def clP (l : Nat) (s : List UInt8) : List AV := [.int .i64 ((hd s % l : Nat) : Int), .int .i64 ((2 + hd s.tail % 40 : Nat) : Int), .int .i64 ((2 + hd s.tail.tail % 12 : Nat) : Int)]
def skP (l : Nat) (s : List UInt8) : List AV := [.int .i64 ((hd s % l : Nat) : Int), .int .i64 ((16 * (hd s.tail % 256) : Nat) : Int)]
def clL (l k : Nat) (s : List UInt8) : List (List AV) := (List.range k).map fun i => clP l (s.drop (3 * i))
def skL (l k : Nat) (s : List UInt8) : List (List AV) := (List.range k).map fun i => skP l (s.drop (2 * i))
structure CfgP where
  r : Nat
  t : Nat
  cl : List (List AV)
  sk : List (List AV)
  back : Nat
  rest : List UInt8
def CfgP.n (c : CfgP) : Nat := c.r * 2 ^ c.t
def cfgP (s : List UInt8) : CfgP :=
  let r := 1 + hd s % 3
  let t := hd s.tail % 3
  let s2 := s.tail.tail
  let k := 1 + hd s2 % 4
  let s4 := s2.tail.drop (3 * k)
  let m := hd s4 % 3
  let s6 := s4.tail.drop (2 * m)
  ⟨r, t, clL (r * 2 ^ t) k s2.tail, skL (r * 2 ^ t) m s4.tail, hd s6 % 20, s6.tail⟩
theorem clL_succ (l k : Nat) (s : List UInt8) : (clL l (k + 1) s).flatten = (clL l k s).flatten ++ clP l (s.drop (3 * k)) := by simp [clL, List.range_succ]
theorem skL_succ (l k : Nat) (s : List UInt8) : (skL l (k + 1) s).flatten = (skL l k s).flatten ++ skP l (s.drop (2 * k)) := by simp [skL, List.range_succ]
theorem clL_k (l k : Nat) (s : List UInt8) : ∀ r ∈ clL l k s, r.length = 3 := by
  intro r hr
  obtain ⟨i, _, rfl⟩ := List.mem_map.1 hr
  rfl
theorem skL_k (l k : Nat) (s : List UInt8) : ∀ r ∈ skL l k s, r.length = 2 := by
  intro r hr
  obtain ⟨i, _, rfl⟩ := List.mem_map.1 hr
  rfl
theorem clL_len (l k : Nat) (s : List UInt8) : (clL l k s).length = k := by simp [clL]
theorem skL_len (l k : Nat) (s : List UInt8) : (skL l k s).length = k := by simp [skL]
def bsK (k : Nat) (z : List AV) (v : AV) : Option (AObj × AKind) := LOp.run .nil (.bslice k 1 z [(0, .c v)])
theorem run_bsK (e : Env) (k : Nat) (z : List AV) (x : Opd) : LOp.run e (.bslice k 1 z [(0, x)]) = bsK k z (x.ev e) := rfl
theorem bsK3 (a b c : AV) (ha : a.one = true) (hb : b.one = true) (hc : c.one = true) (x y z : AV) : bsK 3 [x, y, z] (.agg [a, b, c]) = some (.row ⟨[a, b, c], 0, false, true, 0⟩, .slc 1 1) := by
  have : bsK 3 [x, y, z] (.agg [a, b, c]) = if [a, b, c].all AV.one then some (.row ⟨[a, b, c], 0, false, true, 0⟩, .slc 1 1) else none := rfl
  rw [this, if_pos (by simp [ha, hb, hc])]
theorem bsK2 (a b : AV) (ha : a.one = true) (hb : b.one = true) (x y : AV) : bsK 2 [x, y] (.agg [a, b]) = some (.row ⟨[a, b], 0, false, true, 0⟩, .slc 1 1) := by
  have : bsK 2 [x, y] (.agg [a, b]) = if [a, b].all AV.one then some (.row ⟨[a, b], 0, false, true, 0⟩, .slc 1 1) else none := rfl
  rw [this, if_pos (by simp [ha, hb])]
section
variable {Q : Prog} (sq : ScQ Q) {H : AHeap}
include sq
theorem belowK {rb m : Nat} {s : List UInt8} (hm : 0 < m) (h : Rdr rb H s) (hf : Fr H) {K : AV → AHeap → Prop} (hk : ∀ H', Ax rb H H' → Rdr rb H' s.tail → K (.int .i64 ((hd s % m : Nat) : Int)) H') : FnTo Q 14 [.ptr rb 0, .int .i64 (m : Int)] H K :=
  (below_spec sq hm h hf).mono fun v H' ⟨h1, h2, h3⟩ => h1 ▸ hk H' h2 h3
set_option maxHeartbeats 8000000 in
theorem config_spec {rb : Nat} {s : List UInt8} (h : Rdr rb H s) (hf : Fr H) :
    FnTo Q 9 [.ptr rb 0] H (fun r H' => ∃ tv cv sv, r = .agg [tv, cv, sv, .int .i64 ((cfgP s).back : Int)] ∧ TabO H.next H'.next H' tv (cfgP s).r (cfgP s).n ∧ RowsO 3 H.next H'.next H' cv (cfgP s).cl ∧ RowsO 2 H.next H'.next H' sv (cfgP s).sk ∧ Ax rb H H' ∧ Rdr rb H' (cfgP s).rest) := by
  refine fn_wp (sq.ho 9 rfl _) sq.q9 (by simp [A9]) ?_
  have rlt := h.lt
  obtain ⟨H1, s1, g1, k1⟩ := (Hp.nil H hf).make [.nils, .nils, .nils, .int .i64 0] 4
  have n1 : H1.next = H.next + 1 := by rw [← s1]; rfl
  simp only [A9, run_allocL, val_ptr, s1, run_mkFn, wp_callv, callvW_fn, List.cons_append, List.nil_append, List.append_nil, SX, reduceCtorEq, Nat.reduceEqDiff, ↓reduceIte, Int.reduceEq, Int.reduceLT, Int.reduceLE, Nat.reduceAdd]
  refine belowK sq (m := 3) (by omega) (h.keep h.lt k1 (by omega)) g1.fr fun H2 a2 r2 => ?_
  have w1 : IntKind.wrap .i64 (1 + ((hd s % 3 : Nat) : Int)) = ((1 + hd s % 3 : Nat) : Int) := by rw [wrapI64 (by omega) (by omega)]; omega
  simp only [w1, wp_callv, callvW_fn, List.cons_append, List.nil_append, List.append_nil, SX, reduceCtorEq, Nat.reduceEqDiff, ↓reduceIte, Int.reduceEq, Int.reduceLT, Int.reduceLE, Nat.reduceAdd]
  refine belowK sq (m := 3) (by omega) r2 a2.fr fun H3 a3 r3 => ?_
  obtain ⟨r, hr⟩ : ∃ r, 1 + hd s % 3 = r := ⟨_, rfl⟩
  obtain ⟨t, ht⟩ : ∃ t, hd s.tail % 3 = t := ⟨_, rfl⟩
  rw [hr, ht]
  simp only [SX, reduceCtorEq, Nat.reduceEqDiff, ↓reduceIte, Int.reduceEq, Int.reduceLT, Int.reduceLE, Nat.reduceAdd]
  refine (table_spec sq (r := r) (t := t) (by omega) (by omega) (by omega) a3.fr).mono ?_
  rintro tv H4 ⟨tab, gr4⟩
  obtain ⟨l, hl⟩ : ∃ l, r * 2 ^ t = l := ⟨_, rfl⟩
  rw [hl] at tab
  have l0 : 0 < l := by rw [← hl]; exact Nat.mul_pos (by omega) (Nat.pow_pos (by omega))
  have a24 := (a2.trans a3).trans (gr4.ax rb)
  have g4 := g1.ax h.lt a24
  have na := a24.next
  have na3 := (a2.trans a3).next
  have r4 := r3.gr gr4
  have f4 := gr4.fr
  generalize hs2 : s.tail.tail = s2 at r4
  have tln := tab.len
  -- the struct
  have bv : buildV [.nils, .nils, .nils, .int .i64 0] [(0, 1, tv)] = some (.agg [tv, .nils, .nils, .int .i64 0]) := by
    obtain ⟨b, es, ty, tv', rfl, _⟩ := tab; rfl
  obtain ⟨H5, s5, g5, k5⟩ := (Hp.nil H4 f4).make [.nils, .nils, .nils, .int .i64 0] 4
  have n5 : H5.next = H4.next + 1 := by rw [← s5]; rfl
  obtain ⟨H6, s6, g6, k6, n6⟩ := g5.storeN (n := 4) (new := [tv, .nils, .nils, .int .i64 0]) rfl rfl (by simp only [List.all_cons, tab.one, List.all_nil]; rfl)
  have l6 := g6.load (List.mem_cons_self ..) (o := 0) (v := tv) rfl
  have a46 : Ax rb H4 H6 := (Ax.refl f4).keepT (k5.trans k6) (by omega) g6.fr
  have r6 : Rdr rb H6 s2 := r4.keep (by omega : rb < H4.next) (k5.trans k6) (by omega)
  have rb4 : rb < H4.next := by omega
  simp only [run_build, bv, run_allocL, val_ptr, s5, wp_store, s6, l6, tln, A9_rest, wp_callv, callvW_fn, List.cons_append, List.nil_append, List.append_nil, SX, reduceCtorEq, Nat.reduceEqDiff, ↓reduceIte, Int.reduceEq, Int.reduceLT, Int.reduceLE, Nat.reduceAdd]
  refine belowK sq (m := 4) (by omega) r6 g6.fr fun H7 a7 r7 => ?_
  have w7 : IntKind.wrap .i64 (1 + ((hd s2 % 4 : Nat) : Int)) = ((1 + hd s2 % 4 : Nat) : Int) := by rw [wrapI64 (by omega) (by omega)]; omega
  obtain ⟨k, hk⟩ : ∃ k, 1 + hd s2 % 4 = k := ⟨_, rfl⟩
  have hk4 : k ≤ 4 := by omega
  have hk0 : 0 < k := by omega
  generalize hs3 : s2.tail = s3 at r7
  have g7 := g6.ax (by omega) a7
  rw [hk] at w7
  simp only [w7, SX, reduceCtorEq, Nat.reduceEqDiff, ↓reduceIte, Int.reduceEq, Int.reduceLT, Int.reduceLE, Nat.reduceAdd]
  obtain ⟨I, hI⟩ : ∃ I : Nat → Env → AHeap → Prop, ∀ m e H', I m e H' ↔ (∃ i v, m = k - i ∧ i ≤ k ∧ Grow 3 H4.next H' v (clL l i s3).flatten i [⟨H4.next, 4, [tv, v, .nils, .int .i64 0]⟩] ∧ Ax rb H4 H' ∧ Rdr rb H' (s3.drop (3 * i)) ∧
      Env.get e 2 = .ptr H.next 0 ∧ Env.get e 3 = .fn (.func 14) [.ptr rb 0] [] ∧ Env.get e 5 = .ptr H4.next 0 ∧ Env.get e 6 = .int .i64 (l : Int) ∧ Env.get e 24 = .int .i64 (k : Int) ∧ Env.get e 25 = .int .i64 (i : Int)) := ⟨_, fun _ _ _ => Iff.rfl⟩
  refine loop_by I k ?_ ?_
  · exact (hI _ _ _).2 ⟨0, .nils, rfl, by omega, Grow.nil 3 g7, a46.trans a7, r7, (by first | (simp only [SG, reduceCtorEq, Nat.reduceEqDiff, ↓reduceIte] <;> rfl) | rfl), (by first | (simp only [SG, reduceCtorEq, Nat.reduceEqDiff, ↓reduceIte] <;> rfl) | rfl), (by first | (simp only [SG, reduceCtorEq, Nat.reduceEqDiff, ↓reduceIte] <;> rfl) | rfl), (by first | (simp only [SG, reduceCtorEq, Nat.reduceEqDiff, ↓reduceIte] <;> rfl) | rfl), (by first | (simp only [SG, reduceCtorEq, Nat.reduceEqDiff, ↓reduceIte] <;> rfl) | rfl), (by first | (simp only [SG, reduceCtorEq, Nat.reduceEqDiff, ↓reduceIte] <;> rfl) | rfl)⟩
  · intro m' e H8 hinv
    obtain ⟨i, v, rfl, hi, g8, a8, r8, e2, e3, e5, e6, e24, e25⟩ := (hI _ _ _).1 hinv
    by_cases d : (i : Int) < (k : Int)
    · simp only [A9_l1, e2, e3, e5, e6, e24, e25, d, wp_callv, callvW_fn, List.cons_append, List.nil_append, List.append_nil, SX, reduceCtorEq, Nat.reduceEqDiff, ↓reduceIte, Int.reduceEq, Int.reduceLT, Int.reduceLE, Nat.reduceAdd]
      refine belowK sq l0 r8 a8.fr fun H9 a9 r9 => ?_
      generalize hsi : s3.drop (3 * i) = si at r9 ⊢
      have g9 := g8.ax rb4 a9
      obtain ⟨H10, s10, g10, k10, nr10, nn10⟩ := g9.make [.int .i64 0, .int .i64 0, .int .i64 0] 3
      obtain ⟨b7, hb7⟩ : ∃ b7, H9.next = b7 := ⟨_, rfl⟩
      rw [hb7] at g10
      obtain ⟨H11, s11, g11, k11, nr11, nn11⟩ := g10.storeN (m := 3) (new := [.int .i64 ((hd si % l : Nat) : Int), .int .i64 0, .int .i64 0]) rfl rfl rfl
      have bv9 : buildV [.int .i64 0, .int .i64 0, .int .i64 0] [(0, 1, .int .i64 ((hd si % l : Nat) : Int))] = some (.agg [.int .i64 ((hd si % l : Nat) : Int), .int .i64 0, .int .i64 0]) := rfl
      have na9 := a9.next
      have na8 := a8.next
      have r11 := r9.keep rb4 (k10.trans k11) (by omega)
      simp only [run_build, bv9, run_allocL, val_ptr, s10, hb7, wp_store, s11, wp_callv, callvW_fn, e3, List.cons_append, List.nil_append, List.append_nil, SX, reduceCtorEq, Nat.reduceEqDiff, ↓reduceIte, Int.reduceEq, Int.reduceLT, Int.reduceLE, Nat.reduceAdd]
      refine belowK sq (m := 40) (by omega) r11 g11.hp.fr fun H12 a12 r12 => ?_
      have g12 := g11.ax rb4 a12
      have w12 : IntKind.wrap .i64 (2 + ((hd si.tail % 40 : Nat) : Int)) = ((2 + hd si.tail % 40 : Nat) : Int) := by rw [wrapI64 (by omega) (by omega)]; omega
      obtain ⟨H13, s13, g13, k13, nr13, nn13⟩ := g12.store1 (o := 1) (w := .int .i64 ((2 + hd si.tail % 40 : Nat) : Int)) rfl (by simp)
      have na12 := a12.next
      have r13 := r12.keep rb4 k13 (by omega)
      simp only [w12, wp_store, s13, wp_callv, callvW_fn, e3, List.cons_append, List.nil_append, List.append_nil, SX, reduceCtorEq, Nat.reduceEqDiff, ↓reduceIte, Int.reduceEq, Int.reduceLT, Int.reduceLE, Nat.reduceAdd]
      refine belowK sq (m := 12) (by omega) r13 g13.hp.fr fun H14 a14 r14 => ?_
      have g14 := g13.ax rb4 a14
      have w14 : IntKind.wrap .i64 (2 + ((hd si.tail.tail % 12 : Nat) : Int)) = ((2 + hd si.tail.tail % 12 : Nat) : Int) := by rw [wrapI64 (by omega) (by omega)]; omega
      obtain ⟨H15, s15, g15, k15, nr15, nn15⟩ := g14.store1 (o := 2) (w := .int .i64 ((2 + hd si.tail.tail % 12 : Nat) : Int)) rfl (by simp)
      have na14 := a14.next
      have l15 := g15.hp.loadN (List.mem_cons_self ..) (n := 3) rfl
      have l15v := g15.hp.load (List.mem_cons_of_mem _ (List.mem_cons_self ..)) (o := 1) (v := v) rfl
      simp only [List.set_cons_succ, List.set_cons_zero] at l15 g15
      have bs15 := bsK3 (.int .i64 ((hd si % l : Nat) : Int)) (.int .i64 ((2 + hd si.tail % 40 : Nat) : Int)) (.int .i64 ((2 + hd si.tail.tail % 12 : Nat) : Int)) rfl rfl rfl (.int .i64 0) (.int .i64 0) (.int .i64 0)
      obtain ⟨H16, H17, v17, s16, s17, g17, k17, nr17, nn17⟩ := g15.drop.push (r := [.int .i64 ((hd si % l : Nat) : Int), .int .i64 ((2 + hd si.tail % 40 : Nat) : Int), .int .i64 ((2 + hd si.tail.tail % 12 : Nat) : Int)]) rfl rfl (by omega) (bytes := 24) (by omega) (by omega)
      obtain ⟨H18, s18, g18, k18, nr18, nn18⟩ := g17.store1 (o := 1) g17.one (by simp)
      simp only [List.set_cons_succ, List.set_cons_zero] at g18
      have w18 : IntKind.wrap .i64 ((i : Int) + 1) = ((i + 1 : Nat) : Int) := wrapNat (n := i + 1) (by omega)
      have a18 : Ax rb H4 H18 := (((((a8.trans a9).keepT (k10.trans k11) (by omega) g11.hp.fr).trans a12).keepT k13 (by omega) g13.hp.fr).trans a14).keepT ((k15.trans k17).trans k18) (by omega) g18.hp.fr
      have r18 := r14.keep rb4 ((k15.trans k17).trans k18) (by omega)
      simp only [w14, wp_store, s15, l15, l15v, run_bsK, bs15, s16, wp_append, s17, s18, e5, e25, w18, SX, reduceCtorEq, Nat.reduceEqDiff, ↓reduceIte, Int.reduceEq, Int.reduceLT, Int.reduceLE, Nat.reduceAdd]
      refine ⟨k - (i + 1), by omega, (hI _ _ _).2 ⟨i + 1, v17, rfl, by omega, ?_, a18, ?_, (by simp only [SG, reduceCtorEq, Nat.reduceEqDiff, ↓reduceIte, e2] <;> rfl), (by simp only [SG, reduceCtorEq, Nat.reduceEqDiff, ↓reduceIte, e3] <;> rfl), (by simp only [SG, reduceCtorEq, Nat.reduceEqDiff, ↓reduceIte, e5] <;> rfl), (by simp only [SG, reduceCtorEq, Nat.reduceEqDiff, ↓reduceIte, e6] <;> rfl), (by simp only [SG, reduceCtorEq, Nat.reduceEqDiff, ↓reduceIte, e24] <;> rfl), (by first | (simp only [SG, reduceCtorEq, Nat.reduceEqDiff, ↓reduceIte] <;> rfl) | rfl)⟩⟩
      · rw [clL_succ, hsi]; exact g18
      · rw [show 3 * (i + 1) = 3 * i + 3 by omega, ← List.drop_drop, hsi, drop3]
        exact r18
    · obtain rfl : i = k := by omega
      obtain ⟨hcl, ⟨hz, _⟩ | ⟨_, bc, rfl, g9⟩⟩ := g8
      · omega
      simp only [A9_l1, A9_r2, e2, e3, e5, e6, e24, e25, d, wp_callv, callvW_fn, List.cons_append, List.nil_append, List.append_nil, SX, reduceCtorEq, Nat.reduceEqDiff, ↓reduceIte, Int.reduceEq, Int.reduceLT, Int.reduceLE, Nat.reduceAdd]
      refine belowK sq (m := 3) (by omega) r8 a8.fr fun H9 a9 r9 => ?_
      generalize hs4 : s3.drop (3 * i) = s4 at r9 ⊢
      obtain ⟨m, hm⟩ : ∃ m, hd s4 % 3 = m := ⟨_, rfl⟩
      have hm2 : m ≤ 2 := by omega
      rw [hm]
      generalize hs5 : s4.tail = s5 at r9
      have gA := g9.ax rb4 a9
      simp only [SX, reduceCtorEq, Nat.reduceEqDiff, ↓reduceIte, Int.reduceEq, Int.reduceLT, Int.reduceLE, Nat.reduceAdd]
      obtain ⟨J, hJ⟩ : ∃ J : Nat → Env → AHeap → Prop, ∀ q e H', J q e H' ↔ (∃ j v, q = m - j ∧ j ≤ m ∧ Grow 2 H4.next H' v (skL l j s5).flatten j [⟨H4.next, 4, [tv, .slc bc 0 i i, v, .int .i64 0]⟩, ⟨bc, 3, (clL l i s3).flatten⟩] ∧ Ax rb H4 H' ∧ Rdr rb H' (s5.drop (2 * j)) ∧
          Env.get e 2 = .ptr H.next 0 ∧ Env.get e 3 = .fn (.func 14) [.ptr rb 0] [] ∧ Env.get e 5 = .ptr H4.next 0 ∧ Env.get e 6 = .int .i64 (l : Int) ∧ Env.get e 47 = .int .i64 (m : Int) ∧ Env.get e 48 = .int .i64 (j : Int)) := ⟨_, fun _ _ _ => Iff.rfl⟩
      refine loop_by J m ?_ ?_
      · exact (hJ _ _ _).2 ⟨0, .nils, rfl, by omega, Grow.nil 2 gA.swap, a8.trans a9, r9, (by simp only [SG, reduceCtorEq, Nat.reduceEqDiff, ↓reduceIte, e2] <;> rfl), (by simp only [SG, reduceCtorEq, Nat.reduceEqDiff, ↓reduceIte, e3] <;> rfl), (by simp only [SG, reduceCtorEq, Nat.reduceEqDiff, ↓reduceIte, e5] <;> rfl), (by simp only [SG, reduceCtorEq, Nat.reduceEqDiff, ↓reduceIte, e6] <;> rfl), (by first | (simp only [SG, reduceCtorEq, Nat.reduceEqDiff, ↓reduceIte] <;> rfl) | rfl), (by first | (simp only [SG, reduceCtorEq, Nat.reduceEqDiff, ↓reduceIte] <;> rfl) | rfl)⟩
      · intro m'' e' H10 hinv'
        obtain ⟨j, v, rfl, hj, g10, a10, r10, f2, f3, f5, f6, f47, f48⟩ := (hJ _ _ _).1 hinv'
        by_cases dj : (j : Int) < (m : Int)
        · simp only [A9_l2, f2, f3, f5, f6, f47, f48, dj, wp_callv, callvW_fn, List.cons_append, List.nil_append, List.append_nil, SX, reduceCtorEq, Nat.reduceEqDiff, ↓reduceIte, Int.reduceEq, Int.reduceLT, Int.reduceLE, Nat.reduceAdd]
          refine belowK sq l0 r10 a10.fr fun H11 a11 r11 => ?_
          generalize hsj : s5.drop (2 * j) = sj at r11 ⊢
          have g11 := g10.ax rb4 a11
          obtain ⟨H12, s12, g12, k12, nr12, nn12⟩ := g11.make [.int .i64 0, .int .i64 0] 2
          obtain ⟨b8, hb8⟩ : ∃ b8, H11.next = b8 := ⟨_, rfl⟩
          rw [hb8] at g12
          obtain ⟨H13, s13, g13, k13, nr13, nn13⟩ := g12.storeN (m := 2) (new := [.int .i64 ((hd sj % l : Nat) : Int), .int .i64 0]) rfl rfl rfl
          have bv11 : buildV [.int .i64 0, .int .i64 0] [(0, 1, .int .i64 ((hd sj % l : Nat) : Int))] = some (.agg [.int .i64 ((hd sj % l : Nat) : Int), .int .i64 0]) := rfl
          have na11 := a11.next
          have na10 := a10.next
          have r13 := r11.keep rb4 (k12.trans k13) (by omega)
          simp only [run_build, bv11, run_allocL, val_ptr, s12, hb8, wp_store, s13, wp_callv, callvW_fn, f3, List.cons_append, List.nil_append, List.append_nil, SX, reduceCtorEq, Nat.reduceEqDiff, ↓reduceIte, Int.reduceEq, Int.reduceLT, Int.reduceLE, Nat.reduceAdd]
          refine belowK sq (m := 256) (by omega) r13 g13.hp.fr fun H14 a14 r14 => ?_
          have g14 := g13.ax rb4 a14
          have w14 : IntKind.wrap .i64 (16 * ((hd sj.tail % 256 : Nat) : Int)) = ((16 * (hd sj.tail % 256) : Nat) : Int) := by rw [wrapI64 (by omega) (by omega)]; omega
          obtain ⟨H15, s15, g15, k15, nr15, nn15⟩ := g14.store1 (o := 1) (w := .int .i64 ((16 * (hd sj.tail % 256) : Nat) : Int)) rfl (by simp)
          have na14 := a14.next
          have l15 := g15.hp.loadN (List.mem_cons_self ..) (n := 2) rfl
          have l15v := g15.hp.load (List.mem_cons_of_mem _ (List.mem_cons_self ..)) (o := 2) (v := v) rfl
          simp only [List.set_cons_succ, List.set_cons_zero] at l15 g15
          have bs15 := bsK2 (.int .i64 ((hd sj % l : Nat) : Int)) (.int .i64 ((16 * (hd sj.tail % 256) : Nat) : Int)) rfl rfl (.int .i64 0) (.int .i64 0)
          obtain ⟨H16, H17, v17, s16, s17, g17, k17, nr17, nn17⟩ := g15.drop.push (r := [.int .i64 ((hd sj % l : Nat) : Int), .int .i64 ((16 * (hd sj.tail % 256) : Nat) : Int)]) rfl rfl (by omega) (bytes := 16) (by omega) (by omega)
          obtain ⟨H18, s18, g18, k18, nr18, nn18⟩ := g17.store1 (o := 2) g17.one (by simp)
          simp only [List.set_cons_succ, List.set_cons_zero] at g18
          have w18 : IntKind.wrap .i64 ((j : Int) + 1) = ((j + 1 : Nat) : Int) := wrapNat (n := j + 1) (by omega)
          have a18 : Ax rb H4 H18 := (((a10.trans a11).keepT (k12.trans k13) (by omega) g13.hp.fr).trans a14).keepT ((k15.trans k17).trans k18) (by omega) g18.hp.fr
          have r18 := r14.keep rb4 ((k15.trans k17).trans k18) (by omega)
          simp only [w14, wp_store, s15, l15, l15v, run_bsK, bs15, s16, wp_append, s17, s18, f5, f48, w18, SX, reduceCtorEq, Nat.reduceEqDiff, ↓reduceIte, Int.reduceEq, Int.reduceLT, Int.reduceLE, Nat.reduceAdd]
          refine ⟨m - (j + 1), by omega, (hJ _ _ _).2 ⟨j + 1, v17, rfl, by omega, ?_, a18, ?_, (by simp only [SG, reduceCtorEq, Nat.reduceEqDiff, ↓reduceIte, f2] <;> rfl), (by simp only [SG, reduceCtorEq, Nat.reduceEqDiff, ↓reduceIte, f3] <;> rfl), (by simp only [SG, reduceCtorEq, Nat.reduceEqDiff, ↓reduceIte, f5] <;> rfl), (by simp only [SG, reduceCtorEq, Nat.reduceEqDiff, ↓reduceIte, f6] <;> rfl), (by simp only [SG, reduceCtorEq, Nat.reduceEqDiff, ↓reduceIte, f47] <;> rfl), (by first | (simp only [SG, reduceCtorEq, Nat.reduceEqDiff, ↓reduceIte] <;> rfl) | rfl)⟩⟩
          · rw [skL_succ, hsj]; exact g18
          · rw [show 2 * (j + 1) = 2 * j + 2 by omega, ← List.drop_drop, hsj, drop2]
            exact r18
        · obtain rfl : j = m := by omega
          simp only [A9_l2, A9_tl, f2, f3, f5, f6, f47, f48, dj, wp_callv, callvW_fn, List.cons_append, List.nil_append, List.append_nil, SX, reduceCtorEq, Nat.reduceEqDiff, ↓reduceIte, Int.reduceEq, Int.reduceLT, Int.reduceLE, Nat.reduceAdd]
          refine belowK sq (m := 20) (by omega) r10 a10.fr fun H11 a11 r11 => ?_
          generalize hs6 : s5.drop (2 * j) = s6 at r11 ⊢
          have g11 := g10.ax rb4 a11
          obtain ⟨H12, s12, g12, k12, nr12, nn12⟩ := g11.store1 (o := 3) (w := .int .i64 ((hd s6 % 20 : Nat) : Int)) rfl (by simp)
          simp only [List.set_cons_succ, List.set_cons_zero] at g12
          have l12 := g12.hp.loadN (List.mem_cons_self ..) (n := 4) rfl
          have na11 := a11.next
          have na10 := a10.next
          have a12 : Ax rb H4 H12 := (a10.trans a11).keepT k12 (by omega) g12.hp.fr
          have gB := g4.ax h.lt a12
          have on : ([tv, .slc bc 0 i i, v, .int .i64 ((hd s6 % 20 : Nat) : Int)] : List AV).all AV.one = true := by simp only [List.all_cons, tab.one, g10.one, List.all_nil]; rfl
          obtain ⟨H13, s13, g13, k13, nn13⟩ := gB.storeN (n := 4) (new := [tv, .slc bc 0 i i, v, .int .i64 ((hd s6 % 20 : Nat) : Int)]) rfl rfl on
          have l13 := g13.loadN (List.mem_cons_self ..) (n := 4) rfl
          have oth : ∀ x, H.next < x → H13.get x = H12.get x := fun x hx => store_other s13 (by omega)
          simp only [f2, f5, wp_store, s12, l12, s13, A9, resCell, l13, SX, reduceCtorEq, Nat.reduceEqDiff, ↓reduceIte, Int.reduceEq, Int.reduceLT, Int.reduceLE, Nat.reduceAdd]
          have na12 := a12.next
          have ro : RowsO 2 H4.next H12.next H12 v (skL l j s5) := g12.rowsO (skL_k l j s5) (skL_len l j s5)
          have co : RowsO 3 H4.next H12.next H12 (.slc bc 0 i i) (clL l i s3) := by
            have hm : (⟨bc, 3, (clL l i s3).flatten⟩ : Cel) ∈ [(⟨H4.next, 4, [tv, .slc bc 0 i i, v, .int .i64 ((hd s6 % 20 : Nat) : Int)]⟩ : Cel), ⟨bc, 3, (clL l i s3).flatten⟩] := by simp
            obtain ⟨es, ty, q1, _⟩ := g12.hp.has _ hm
            exact ⟨clL_k l i s3, .inr ⟨bc, es, ty, by rw [clL_len], g12.hp.lo _ hm, g12.hp.lt hm, q1⟩⟩
          have ce : cfgP s = ⟨r, t, clL l i s3, skL l j s5, hd s6 % 20, s6.tail⟩ := by
            simp only [cfgP, hr, ht, hl, hs2, hs3, hk, hs4, hm, hs5, hs6]
          rw [ce]
          simp only [CfgP.n, hl]
          have tab' : TabO H3.next H4.next H13 tv r l := tab.of fun x h1 h2 => by
            rw [oth x (by omega), a12.keep x h2 (by omega)]
          refine ⟨tv, .slc bc 0 i i, v, rfl, tab'.wide (by omega) (by omega), (co.of fun x h1 h2 => oth x (by omega)).wide (by omega) (by omega), (ro.of fun x h1 h2 => oth x (by omega)).wide (by omega) (by omega), ?_, ?_⟩
          · have b1 : Ax rb H H4 := ((Ax.refl hf).keepT k1 (by omega) g1.fr).trans a24
            exact (b1.trans a12).keepT k13 (by omega) g13.fr
          · exact r11.keep h.lt ((k12.le (by omega)).trans k13) (by omega)
end
def actsL (L C : Nat) : Nat → List UInt8 → List ActP
  | 0, _ => []
  | n + 1, s => if s = [] then [] else (actP L C s).1 :: actsL L C n (actP L C s).2
def actsP (s : List UInt8) : List ActP := actsL (cfgP s).n (cfgP s).cl.length 200 (cfgP s).rest
/-- bytes as they are handed in -/
def BysA (H : AHeap) (v : AV) (s : List UInt8) : Prop :=
  (v = .nils ∧ s = []) ∨ ∃ b o cap B, v = .slc b o s.length cap ∧ H.get b = some (.row B) ∧ B.live = true ∧ (B.es = 0 ∨ B.es = 1) ∧ s.length ≤ cap ∧ ∀ i x, s[i]? = some x → B.cells[o + i]? = some (.int .u8 x.toNat)
theorem BysA.one {H : AHeap} {v : AV} {s : List UInt8} (h : BysA H v s) : v.one = true := by
  rcases h with ⟨rfl, _⟩ | ⟨b, o, cap, B, rfl, _⟩ <;> rfl
theorem BysA.len {H : AHeap} {v : AV} {s : List UInt8} (h : BysA H v s) (H2 : AHeap) : lngV H2 1 v = some (.int .i64 s.length) := by
  rcases h with ⟨rfl, rfl⟩ | ⟨b, o, cap, B, rfl, _⟩ <;> rfl
theorem BysA.bys {H H' : AHeap} {v : AV} {s : List UInt8} (h : BysA H v s) (hf : Fr H) {rb : Nat} (hr : H.next ≤ rb) (k : Keep H.next H H') : Bys H' rb v s := by
  rcases h with h | ⟨b, o, cap, B, h1, h2, h3⟩
  · exact .inl h
  · have hb : b < H.next := Nat.lt_of_not_le fun hh => by rw [hf b hh] at h2; cases h2
    exact .inr ⟨b, o, cap, B, h1, by omega, by rw [k b hb]; exact h2, h3⟩
theorem BysA.grow {H H' : AHeap} {v : AV} {s : List UInt8} (h : BysA H v s) (hf : Fr H) (g : Gr H H') : BysA H' v s := by
  rcases h with h | ⟨b, o, cap, B, h1, h2, h3⟩
  · exact .inl h
  · exact .inr ⟨b, o, cap, B, h1, g.get hf h2, h3⟩
theorem bsK9 (a : ActP) : bsK 9 zero9 (.agg a.cs) = some (.row ⟨a.cs, 0, false, true, 0⟩, .slc 1 1) := rfl
theorem cs_k (l : List ActP) : ∀ r ∈ l.map ActP.cs, r.length = 9 := by
  intro r hr
  obtain ⟨a, _, rfl⟩ := List.mem_map.1 hr
  rfl
theorem Hp.axN {base rb : Nat} {H H' : AHeap} {l : List Cel} (h : Hp base H l) (hr : ∀ x ∈ l, x.b ≠ rb) (a : Ax rb H H') : Hp base H' l :=
  ⟨fun x hx => by
      obtain ⟨es, ty, h1, h2⟩ := h.has x hx
      exact ⟨es, ty, by rw [a.keep _ (h.lt hx) (hr x hx)]; exact h1, h2⟩, h.nd, h.lo, Nat.le_trans h.bn a.next, a.fr⟩
theorem cfg_b (s : List UInt8) : 0 < (cfgP s).n ∧ (cfgP s).n ≤ 12 ∧ 0 < (cfgP s).cl.length ∧ (cfgP s).cl.length ≤ 4 := by
  simp only [cfgP, CfgP.n, clL_len]
  have h1 : hd s % 3 < 3 := Nat.mod_lt _ (by omega)
  have h2 : hd s.tail % 3 < 3 := Nat.mod_lt _ (by omega)
  have h3 : hd s.tail.tail % 4 < 4 := Nat.mod_lt _ (by omega)
  refine ⟨Nat.mul_pos (by omega) (Nat.pow_pos (by omega)), ?_, by omega, by omega⟩
  have : hd s.tail % 3 = 0 ∨ hd s.tail % 3 = 1 ∨ hd s.tail % 3 = 2 := by omega
  rcases this with h | h | h <;> rw [h] <;> omega
section
variable {Q : Prog} (sq : ScQ Q) {H : AHeap}
include sq
set_option maxHeartbeats 8000000 in
theorem read_spec {v : AV} {s : List UInt8} (h : BysA H v s) (hs : s.length ≤ 100000) (hf : Fr H) (h0 : 0 < H.next) (ht : hasTabs H Q.tabs = true) :
    FnTo Q 6 [v] H (fun r H' => ∃ tv cv sv av, r = .agg [tv, cv, sv, .int .i64 ((cfgP s).back : Int), av] ∧ TabO H.next H'.next H' tv (cfgP s).r (cfgP s).n ∧ RowsO 3 H.next H'.next H' cv (cfgP s).cl ∧ RowsO 2 H.next H'.next H' sv (cfgP s).sk ∧ RowsO 9 H.next H'.next H' av ((actsP s).map ActP.cs) ∧ Gr H H') := by
  refine fn_wp (sq.ho 6 rfl _) sq.q6 (by simp [A6]) ?_
  obtain ⟨H1, s1, g1, k1⟩ := (Hp.nil H hf).make [.nils, .nils, .nils, .int .i64 0, .nils] 5
  have n1 : H1.next = H.next + 1 := by rw [← s1]; rfl
  have bv : buildV [.nils] [(0, 1, v)] = some (.agg [v]) := by
    rcases h with ⟨rfl, _⟩ | ⟨b, o, cap, B, rfl, _⟩ <;> rfl
  have bx : boxV (.agg [v]) = some (.row ⟨[v], 0, false, true, 0⟩, .ptr) := boxV_agg (by simp only [List.all_cons, h.one, List.all_nil]; rfl)
  obtain ⟨H2, s2, g2, k2⟩ := g1.make [v] 1
  have n2 : H2.next = H1.next + 1 := by rw [← s2]; rfl
  obtain ⟨rb, hrb⟩ : ∃ rb, H1.next = rb := ⟨_, rfl⟩
  have k12 := k1.trans k2
  have r2 : Rdr rb H2 s := by
    obtain ⟨es, ty, q1, _⟩ := g2.has _ (List.mem_cons_self ..)
    refine ⟨by omega, by omega, es, ty, v, ?_, h.bys hf (by omega) k12⟩
    rw [← hrb]; exact q1
  simp only [A6, run_allocL, val_ptr, s1, run_build, bv, run_box, bx, s2, hrb, SX, reduceCtorEq, Nat.reduceEqDiff, ↓reduceIte, Int.reduceEq, Int.reduceLT, Int.reduceLE, Nat.reduceAdd]
  refine (config_spec sq r2 g2.fr).mono ?_
  rintro _ H3 ⟨tv, cv, sv, rfl, tab, cl, sk, a3, r3⟩
  have na3 := a3.next
  obtain ⟨cb1, cb2, cb3, cb4⟩ := cfg_b s
  have on : ([tv, cv, sv, .int .i64 ((cfgP s).back : Int), .nils] : List AV).all AV.one = true := by simp only [List.all_cons, tab.one, cl.one, sk.one, List.all_nil]; rfl
  have bv3 : buildV [.nils, .nils, .nils, .int .i64 0, .nils] [(0, 4, .agg [tv, cv, sv, .int .i64 ((cfgP s).back : Int)])] = some (.agg [tv, cv, sv, .int .i64 ((cfgP s).back : Int), .nils]) := rfl
  obtain ⟨H4, s4, g4, k4⟩ := (Hp.nil H3 a3.fr).make [.nils, .nils, .nils, .int .i64 0, .nils] 5
  have n4 : H4.next = H3.next + 1 := by rw [← s4]; rfl
  obtain ⟨H5, s5, g5, k5, n5⟩ := g4.storeN (n := 5) (new := [tv, cv, sv, .int .i64 ((cfgP s).back : Int), .nils]) rfl rfl on
  have rb3 : rb < H3.next := by omega
  have a35 : Ax rb H3 H5 := (Ax.refl a3.fr).keepT (k4.trans k5) (by omega) g5.fr
  have r5 : Rdr rb H5 (cfgP s).rest := r3.keep rb3 (k4.trans k5) (by omega)
  have ht3 : hasTabs H3 Q.tabs = true := a3.tabs sq.tz (by omega) (by omega) (k12.tabs sq.tz h0 ht)
  simp only [run_build, bv3, run_allocL, val_ptr, s4, wp_store, s5, SX, reduceCtorEq, Nat.reduceEqDiff, ↓reduceIte, Int.reduceEq, Int.reduceLT, Int.reduceLE, Nat.reduceAdd]
  generalize hL : (cfgP s).n = L at *
  generalize hC : (cfgP s).cl.length = C at *
  obtain ⟨I, hI⟩ : ∃ I : Nat → Env → AHeap → Prop, ∀ m e H', I m e H' ↔ (∃ (l : List ActP) (s' : List UInt8) (v : AV), m = 200 - l.length ∧ l.length ≤ 200 ∧ l ++ actsL L C (200 - l.length) s' = actsL L C 200 (cfgP s).rest ∧ Grow 9 H3.next H' v (l.map ActP.cs).flatten l.length [⟨H3.next, 5, [tv, cv, sv, .int .i64 ((cfgP s).back : Int), v]⟩] ∧ Ax rb H3 H' ∧ Rdr rb H' s' ∧
      Env.get e 2 = .ptr H.next 0 ∧ Env.get e 3 = .ptr rb 0 ∧ Env.get e 4 = .ptr H3.next 0) := ⟨_, fun _ _ _ => Iff.rfl⟩
  refine loop_by I 200 ?_ ?_
  · exact (hI _ _ _).2 ⟨[], (cfgP s).rest, .nils, rfl, by simp, by simp, Grow.nil 9 g5, a35, r5, (by first | (simp only [SG, reduceCtorEq, Nat.reduceEqDiff, ↓reduceIte] <;> rfl) | rfl), (by first | (simp only [SG, reduceCtorEq, Nat.reduceEqDiff, ↓reduceIte] <;> rfl) | rfl), (by first | (simp only [SG, reduceCtorEq, Nat.reduceEqDiff, ↓reduceIte] <;> rfl) | rfl)⟩
  · intro m e H6 hinv
    obtain ⟨l, s', v, rfl, hl, hacts, g6, a6, r6, e2, e3, e4⟩ := (hI _ _ _).1 hinv
    have na6 := a6.next
    obtain ⟨w, lw, bw⟩ := r6.load
    have lnw := bw.len H6
    have lnv := g6.len H6
    have l64 := g6.hp.load (List.mem_cons_self ..) (o := 4) (v := v) rfl
    have l60 := g6.hp.load (List.mem_cons_self ..) (o := 0) (v := tv) rfl
    have l61 := g6.hp.load (List.mem_cons_self ..) (o := 1) (v := cv) rfl
    have tln := tab.len H6
    have cln := cl.len H6
    rw [hC] at cln
    have ends : (s' = [] ∨ 200 ≤ l.length) → l = actsL L C 200 (cfgP s).rest ∧ ∃ H8, storeE H6 5 (.ptr H.next 0) (.agg [tv, cv, sv, .int .i64 ((cfgP s).back : Int), v]) = some (.undef, H8) ∧ loadV H8 (some 5) (.ptr H.next 0) = some (.agg [tv, cv, sv, .int .i64 ((cfgP s).back : Int), v]) ∧ Fr H8 ∧ H8.next = H6.next ∧ (∀ x, x ≠ H.next → H8.get x = H6.get x) := by
      intro hh
      constructor
      · rw [← hacts]
        rcases hh with rfl | hh
        · cases hz : 200 - l.length <;> simp [actsL]
        · rw [show 200 - l.length = 0 by omega]; simp [actsL]
      · have gB : Hp H.next H6 [⟨H.next, 5, [.nils, .nils, .nils, .int .i64 0, .nils]⟩] := (g2.drop).axN (by intro x hx; rw [List.mem_singleton] at hx; subst hx; simp only; omega) (a3.trans a6)
        have on8 : ([tv, cv, sv, .int .i64 ((cfgP s).back : Int), v] : List AV).all AV.one = true := by simp only [List.all_cons, tab.one, cl.one, sk.one, g6.one, List.all_nil]; rfl
        obtain ⟨H8, s8, g8, k8, n8⟩ := gB.storeN (n := 5) (new := [tv, cv, sv, .int .i64 ((cfgP s).back : Int), v]) rfl rfl on8
        exact ⟨H8, s8, g8.loadN (List.mem_cons_self ..) rfl, g8.fr, n8, fun x hx => store_other s8 hx⟩
    have fin : (s' = [] ∨ 200 ≤ l.length) → ∃ H8, storeE H6 5 (.ptr H.next 0) (.agg [tv, cv, sv, .int .i64 ((cfgP s).back : Int), v]) = some (.undef, H8) ∧ loadV H8 (some 5) (.ptr H.next 0) = some (.agg [tv, cv, sv, .int .i64 ((cfgP s).back : Int), v]) ∧ (TabO H.next H8.next H8 tv (cfgP s).r L ∧ RowsO 3 H.next H8.next H8 cv (cfgP s).cl ∧ RowsO 2 H.next H8.next H8 sv (cfgP s).sk ∧ RowsO 9 H.next H8.next H8 v ((actsP s).map ActP.cs) ∧ Gr H H8) := by
      intro hh
      obtain ⟨he, H8, s8, l8, f8, n8, o8⟩ := ends hh
      have hA : actsP s = l := by rw [he]; unfold actsP; rw [hL, hC]
      have k38 : ∀ x, H2.next ≤ x → x < H3.next → H8.get x = H3.get x := fun x h1 h2 => by rw [o8 x (by omega), a6.keep x h2 (by omega)]
      refine ⟨H8, s8, l8, (tab.of k38).wide (by omega) (by omega), (cl.of k38).wide (by omega) (by omega), (sk.of k38).wide (by omega) (by omega), ?_, ?_⟩
      · rw [hA]
        have := g6.rowsO (cs_k l) (by simp)
        exact (this.of fun x h1 h2 => o8 x (by omega)).wide (by omega) (by omega)
      · refine ⟨fun x hx => ?_, by omega, f8⟩
        rw [o8 x (by omega), a6.keep x (by omega) (by omega), a3.keep x (by omega) (by omega), k12 x hx]
    by_cases c1 : s' = []
    · subst c1
      obtain ⟨H8, s8, l8, p8⟩ := fin (.inl rfl)
      have lnw0 : lngV H6 1 w = some (.int .i64 0) := lnw
      simp only [A6_lp, A6_tl, e2, e3, e4, lw, lnw0, wantV_undef, g6.hp.loadN (List.mem_cons_self ..) (n := 5) rfl, wp_store, s8, resCell, l8, SX, reduceCtorEq, Nat.reduceEqDiff, ↓reduceIte, Int.reduceEq, Int.reduceLT, Int.reduceLE, Nat.reduceAdd]
      exact ⟨tv, cv, sv, v, rfl, p8⟩
    · have d1 : (0 : Int) < (s'.length : Int) := by
        have : 0 < s'.length := List.length_pos_iff.2 c1
        omega
      by_cases c2 : l.length < 200
      · have d2 : (l.length : Int) < 200 := by omega
        have ht6 : hasTabs H6 Q.tabs = true := a6.tabs sq.tz (by omega) (by omega) ht3
        simp only [A6_lp, e2, e3, e4, lw, lnw, d1, l64, lnv, d2, l60, tln, l61, cln, SX, reduceCtorEq, Nat.reduceEqDiff, ↓reduceIte, Int.reduceEq, Int.reduceLT, Int.reduceLE, Nat.reduceAdd]
        refine (act_spec sq (by omega) (by omega) (by omega) (by omega) r6 a6.fr ht6).mono ?_
        rintro _ H7 ⟨rfl, a7, r7⟩
        have na7 := a7.next
        have g7 := g6.ax rb3 a7
        have l74 := g7.hp.load (List.mem_cons_self ..) (o := 4) (v := v) rfl
        have b9 := bsK9 (actP L C s').1
        unfold zero9 at b9
        obtain ⟨H8, H9, v9, s8, s9, g9, k9, nr9, nn9⟩ := g7.push (r := (actP L C s').1.cs) rfl (actP L C s').1.ones (by omega) (bytes := 80) (by omega) (by omega)
        obtain ⟨H10, s10, g10, k10, nr10, nn10⟩ := g9.store1 (o := 4) g9.one (by simp)
        simp only [List.set_cons_succ, List.set_cons_zero] at g10
        refine ⟨by simp only [echoOk, e4, l74, SX, reduceCtorEq, Nat.reduceEqDiff, ↓reduceIte, Int.reduceEq, Int.reduceLT, Int.reduceLE, Nat.reduceAdd]; rw [g7.isv]; rfl, ?_⟩
        simp only [e4, run_bsK, b9, s8, wp_append, s9, wp_store, s10, SX, reduceCtorEq, Nat.reduceEqDiff, ↓reduceIte, Int.reduceEq, Int.reduceLT, Int.reduceLE, Nat.reduceAdd]
        refine ⟨200 - (l.length + 1), by omega, (hI _ _ _).2 ⟨l ++ [(actP L C s').1], (actP L C s').2, v9, by simp, by simp; omega, ?_, ?_, (a6.trans a7).keepT (k9.trans k10) (by omega) g10.hp.fr, r7.keep rb3 (k9.trans k10) (by omega), (by simp only [SG, reduceCtorEq, Nat.reduceEqDiff, ↓reduceIte, e2] <;> rfl), (by simp only [SG, reduceCtorEq, Nat.reduceEqDiff, ↓reduceIte, e3] <;> rfl), (by simp only [SG, reduceCtorEq, Nat.reduceEqDiff, ↓reduceIte, e4] <;> rfl)⟩⟩
        · rw [← hacts, show 200 - l.length = (200 - (l ++ [(actP L C s').1]).length) + 1 by simp; omega]
          simp only [actsL, if_neg c1, List.append_assoc, List.singleton_append]
        · simpa using g10
      · have d2 : ¬ (l.length : Int) < 200 := by omega
        obtain ⟨H8, s8, l8, p8⟩ := fin (.inr (by omega))
        simp only [A6_lp, A6_tl, e2, e3, e4, lw, lnw, d1, l64, lnv, d2, g6.hp.loadN (List.mem_cons_self ..) (n := 5) rfl, wp_store, s8, resCell, l8, SX, reduceCtorEq, Nat.reduceEqDiff, ↓reduceIte, Int.reduceEq, Int.reduceLT, Int.reduceLE, Nat.reduceAdd]
        exact ⟨tv, cv, sv, v, rfl, p8⟩
end
section
variable {s u : List UInt8}
theorem hd_app (h : s ≠ []) : hd (s ++ u) = hd s := by
  cases s with
  | nil => exact absurd rfl h
  | cons c t => rfl
theorem tail_app (h : s ≠ []) : (s ++ u).tail = s.tail ++ u := by
  cases s with
  | nil => exact absurd rfl h
  | cons c t => rfl
theorem ne_tail (h : s.tail ≠ []) : s ≠ [] := fun e => h (by rw [e]; rfl)
theorem ne_drop {k : Nat} (h : s.drop k ≠ []) : s ≠ [] := fun e => h (by rw [e]; simp)
theorem lt_drop {k : Nat} (h : s.drop k ≠ []) : k < s.length := Nat.lt_of_not_le fun hh => h (List.drop_eq_nil_of_le hh)
theorem drop_app {k : Nat} (h : s.drop k ≠ []) : (s ++ u).drop k = s.drop k ++ u := List.drop_append_of_le_length (Nat.le_of_lt (lt_drop h))
theorem at_app {i : Nat} (h : i < s.length) : at0' (s ++ u) i = at0' s i := by
  unfold at0'
  rw [List.getElem?_append_left h]
theorem rdN_app {k : Nat} (h : s.drop k ≠ []) : rdN k (s ++ u) = rdN k s := by
  unfold rdN
  refine List.map_congr_left fun i hi => at_app ?_
  have := lt_drop h
  have := List.mem_range.1 hi
  omega
theorem rdW_app {k : Nat} (h : s.drop k ≠ []) : rdW k (s ++ u) = rdW k s := by
  unfold rdW
  refine List.map_congr_left fun i hi => ?_
  have := lt_drop h
  have := List.mem_range.1 hi
  simp only [at_app (show i < s.length by omega)]
end
theorem argR_nil (f : UInt8) : argR f [] = [] := by
  unfold argR
  split
  · rfl
  · split
    · rfl
    · split
      · rfl
      · simp
theorem argS_app (name : List UInt8) (lm : Nat) (xs : List Arg) (f : UInt8) (s u : List UInt8) (h : argR f s ≠ []) : argS name lm (xs, s ++ u) f = ((argS name lm (xs, s) f).1, argR f s ++ u) := by
  unfold argR at h
  unfold argS argA argR
  split
  · rename_i e; rw [if_pos e] at h
    have h1 := ne_tail h
    simp only [hd_app h1, tail_app h1]
  · rename_i e; rw [if_neg e] at h
    split
    · rename_i e2; rw [if_pos e2] at h
      have h1 := ne_tail h
      simp only [hd_app h1, tail_app h1]
    · rename_i e2; rw [if_neg e2] at h
      split
      · rename_i e3; rw [if_pos e3] at h
        have h3 := ne_tail h
        have h2 := ne_tail h3
        have h1 := ne_tail h2
        simp only [hd_app h1, tail_app h1, hd_app h2, tail_app h2, hd_app h3, tail_app h3]
      · rename_i e3; rw [if_neg e3] at h
        have h2 := ne_drop h
        have h1 := ne_tail h2
        simp only [hd_app h1, tail_app h1, rdW_app h, drop_app h]
theorem args_nil (name : List UInt8) (lm : Nat) : ∀ (form : List UInt8) (xs : List Arg), (form.foldl (argS name lm) (xs, [])).2 = []
  | [], xs => rfl
  | f :: form, xs => by
    rw [List.foldl_cons]
    unfold argS
    simp only [argR_nil]
    exact args_nil name lm form _
theorem args_app (name : List UInt8) (lm : Nat) (u : List UInt8) : ∀ (form : List UInt8) (xs : List Arg) (s : List UInt8), (form.foldl (argS name lm) (xs, s)).2 ≠ [] → form.foldl (argS name lm) (xs, s ++ u) = ((form.foldl (argS name lm) (xs, s)).1, (form.foldl (argS name lm) (xs, s)).2 ++ u)
  | [], xs, s, h => rfl
  | f :: form, xs, s, h => by
    rw [List.foldl_cons] at h ⊢
    have hne : argR f s ≠ [] := by
      intro e
      have e2 : argS name lm (xs, s) f = (xs ++ [argA name lm f s], []) := by unfold argS; simp only [e]
      rw [e2] at h
      exact h (args_nil name lm form _)
    rw [argS_app name lm xs f s u hne, List.foldl_cons]
    exact args_app name lm u form _ _ h
theorem cmd_app (lm : Nat) (s u : List UInt8) (h : cmdR lm s ≠ []) : cmdS lm (s ++ u) = cmdS lm s ∧ cmdR lm (s ++ u) = cmdR lm s ++ u := by
  have hs : s.tail ≠ [] := by
    intro e
    unfold cmdR cmdX argsP at h
    rw [e] at h
    exact h (args_nil _ _ _ _)
  have h1 := ne_tail hs
  have e := args_app (nm (cmdI s)) lm u (fm (cmdI s)) [] s.tail h
  have hi : cmdI (s ++ u) = cmdI s := by unfold cmdI; rw [hd_app h1]
  have hx : cmdX lm (s ++ u) = ((cmdX lm s).1, (cmdX lm s).2 ++ u) := by
    unfold cmdX argsP
    rw [hi, tail_app h1]
    exact e
  unfold cmdS cmdR
  rw [hx, hi]
  exact ⟨rfl, rfl⟩
theorem actT_app (b lm c : Nat) (tl s u : List UInt8) (h : (actT b lm c tl s).2 ≠ []) : actT b lm c tl (s ++ u) = ((actT b lm c tl s).1, (actT b lm c tl s).2 ++ u) := by
  unfold actT at h ⊢
  by_cases c1 : b % 16 < 7
  · simp only [if_pos c1] at h ⊢
    obtain ⟨e1, e2⟩ := cmd_app lm s u h
    rw [e1, e2]
  simp only [if_neg c1] at h ⊢
  by_cases c2 : b % 16 < 9
  · simp only [if_pos c2] at h ⊢
    have h2 := ne_drop h
    have h1 := ne_tail h2
    simp only [hd_app h1, tail_app h1, rdN_app h, drop_app h]
  simp only [if_neg c2] at h ⊢
  by_cases c3 : b % 16 < 13
  · simp only [if_pos c3] at h ⊢
    have h5 := ne_drop h
    have h4 := ne_tail h5
    have h3 := ne_tail h4
    have h2 := ne_tail h3
    have h1 := ne_tail h2
    simp only [hd_app h1, tail_app h1, hd_app h2, tail_app h2, hd_app h3, tail_app h3, hd_app h4, tail_app h4, rdN_app h, drop_app h]
  simp only [if_neg c3] at h ⊢
  by_cases c4 : b % 16 = 13
  · simp only [if_pos c4] at h ⊢
    have h2 := ne_tail h
    have h1 := ne_tail h2
    simp only [hd_app h1, tail_app h1, hd_app h2, tail_app h2]
  simp only [if_neg c4] at h ⊢
  by_cases c5 : b % 16 = 15
  · simp only [if_pos c5] at h ⊢
    have h3 := ne_drop h
    have h2 := ne_tail h3
    have h1 := ne_tail h2
    simp only [hd_app h1, tail_app h1, hd_app h2, tail_app h2, rdN_app h, drop_app h]
  simp only [if_neg c5] at h ⊢
  by_cases c6 : c = 0
  · simp only [if_pos c6] at h ⊢
    have h1 : s.tail ≠ [] := by
      by_cases c7 : hd s % 4 = 0
      · simpa only [if_pos c7] using h
      · simpa only [if_neg c7] using h
    have h0 := ne_tail h1
    rw [hd_app h0, tail_app h0]
    by_cases c7 : hd s % 4 = 0
    · simp only [if_pos c7]
    · simp only [if_neg c7]
  · simp only [if_neg c6]
theorem actT_nil (b lm c : Nat) (tl : List UInt8) : (actT b lm c tl []).2 = [] := by
  unfold actT
  by_cases c1 : b % 16 < 7
  · simp only [if_pos c1]; exact args_nil _ _ _ _
  simp only [if_neg c1]
  by_cases c2 : b % 16 < 9
  · simp only [if_pos c2]; simp
  simp only [if_neg c2]
  by_cases c3 : b % 16 < 13
  · simp only [if_pos c3]; simp
  simp only [if_neg c3]
  by_cases c4 : b % 16 = 13
  · simp only [if_pos c4]; rfl
  simp only [if_neg c4]
  by_cases c5 : b % 16 = 15
  · simp only [if_pos c5]; simp
  simp only [if_neg c5]
  by_cases c6 : c = 0
  · simp only [if_pos c6]
    by_cases c7 : hd [] % 4 = 0
    · simp only [if_pos c7]; rfl
    · simp only [if_neg c7]; rfl
  · simp only [if_neg c6]
theorem actP_app (L C : Nat) (s u : List UInt8) (h : (actP L C s).2 ≠ []) : actP L C (s ++ u) = ((actP L C s).1, (actP L C s).2 ++ u) := by
  have h2 : s.tail.tail ≠ [] := by
    intro e
    unfold actP at h
    rw [e] at h
    split at h
    · exact h (actT_nil _ _ _ _)
    · exact h (actT_nil _ _ _ _)
  have h1 := ne_tail h2
  have h0 := ne_tail h1
  unfold actP at h ⊢
  rw [hd_app h0, tail_app h0, hd_app h1, tail_app h1]
  split
  · rename_i c; rw [if_pos c] at h; exact actT_app _ _ _ _ _ _ h
  · rename_i c; rw [if_neg c] at h; exact actT_app _ _ _ _ _ _ h
/-- acts ahead of the last one are the same, and there are as many at least -/
theorem actsL_app (L C : Nat) (u : List UInt8) : ∀ (n : Nat) (s : List UInt8), (actsL L C n s).length ≤ (actsL L C n (s ++ u)).length ∧ ∀ i, i + 1 < (actsL L C n s).length → (actsL L C n (s ++ u))[i]? = (actsL L C n s)[i]?
  | 0, s => ⟨Nat.le_refl _, fun i h => by simp [actsL] at h⟩
  | n + 1, s => by
    by_cases hs : s = []
    · subst hs
      exact ⟨by simp [actsL], fun i h => by simp [actsL] at h⟩
    · have hsu : ¬ (s ++ u = []) := by simp [hs]
      simp only [actsL, if_neg hs, if_neg hsu]
      by_cases hr : (actP L C s).2 = []
      · have e : actsL L C n (actP L C s).2 = [] := by rw [hr]; cases n <;> simp [actsL]
        rw [e]
        exact ⟨by simp, fun i h => by simp at h⟩
      · rw [actP_app L C s u hr]
        obtain ⟨h1, h2⟩ := actsL_app L C u n (actP L C s).2
        refine ⟨by simpa using h1, fun i h => ?_⟩
        cases i with
        | zero => rfl
        | succ i => simpa using h2 i (by simpa using h)
theorem cfg_app (s u : List UInt8) (h : (cfgP s).rest ≠ []) : cfgP (s ++ u) = { cfgP s with rest := (cfgP s).rest ++ u } := by
  have a6 : (((s.tail.tail.tail.drop (3 * (1 + hd s.tail.tail % 4))).tail).drop (2 * (hd (s.tail.tail.tail.drop (3 * (1 + hd s.tail.tail % 4))) % 3))) ≠ [] := ne_tail h
  have a5 := ne_drop a6
  have a4 := ne_tail a5
  have a3 := ne_drop a4
  have a2 := ne_tail a3
  have a1 := ne_tail a2
  have a0 := ne_tail a1
  have cl : ∀ l, clL l (1 + hd s.tail.tail % 4) (s.tail.tail.tail ++ u) = clL l (1 + hd s.tail.tail % 4) s.tail.tail.tail := by
    intro l
    unfold clL
    refine List.map_congr_left fun i hi => ?_
    have hi := List.mem_range.1 hi
    have hlt := lt_drop a4
    have b2 : (s.tail.tail.tail.drop (3 * i)).tail.tail ≠ [] := by
      rw [← drop2, List.drop_drop]
      intro e
      have := List.drop_eq_nil_iff.1 e
      omega
    have b1 := ne_tail b2
    have b0 := ne_tail b1
    unfold clP
    rw [drop_app b0, hd_app b0, tail_app b0, hd_app b1, tail_app b1, hd_app b2]
  have sk : ∀ l, skL l (hd (s.tail.tail.tail.drop (3 * (1 + hd s.tail.tail % 4))) % 3) ((s.tail.tail.tail.drop (3 * (1 + hd s.tail.tail % 4))).tail ++ u) = skL l (hd (s.tail.tail.tail.drop (3 * (1 + hd s.tail.tail % 4))) % 3) (s.tail.tail.tail.drop (3 * (1 + hd s.tail.tail % 4))).tail := by
    intro l
    generalize hx : (s.tail.tail.tail.drop (3 * (1 + hd s.tail.tail % 4))) = x at *
    unfold skL
    refine List.map_congr_left fun i hi => ?_
    have hi := List.mem_range.1 hi
    have hlt := lt_drop a6
    have b1 : (x.tail.drop (2 * i)).tail ≠ [] := by
      rw [← List.drop_one, List.drop_drop]
      intro e
      have := List.drop_eq_nil_iff.1 e
      omega
    have b0 := ne_tail b1
    unfold skP
    rw [drop_app b0, hd_app b0, tail_app b0, hd_app b1]
  unfold cfgP
  simp only [hd_app a0, tail_app a0, hd_app a1, tail_app a1, hd_app a2, tail_app a2, drop_app a4, hd_app a4, tail_app a4, drop_app a6, hd_app a6, tail_app a6, cl, sk]
theorem cfg_rest (s : List UInt8) (h : 40 ≤ s.length) : (cfgP s).rest ≠ [] := by
  intro e
  have h1 : (cfgP s).rest.length = 0 := by rw [e]; rfl
  unfold cfgP at h1
  simp only [List.length_tail, List.length_drop] at h1
  have m1 := Nat.mod_lt (hd s.tail.tail) (show 0 < 4 by omega)
  have m2 := Nat.mod_lt (hd (s.tail.tail.tail.drop (3 * (1 + hd s.tail.tail % 4)))) (show 0 < 3 by omega)
  omega
end Go.Proofs.YtdkpmlhbofgfdaaGreatDoor.AM
