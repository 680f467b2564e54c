import Derived.Test.YtfbcgjpblomckaaDoorAtT
set_option linter.unusedVariables false
set_option linter.unusedSimpArgs false
namespace Go.Proofs.YtfbcgjpblomckaaDoor.AM
open Go
structure ArQ (Q : Prog) : Prop where
 q48 : Q.fns 48 = some A48
 q72 : Q.fns 72 = some A72
 q73 : Q.fns 73 = some A73
 q74 : Q.fns 74 = some A74
 q75 : Q.fns 75 = some A75
 q88 : Q.fns 88 = some A88
 ho : ∀ f,Nat.beq f 10 = false -> ∀ a,Q.orc f a = Option.none
instance (n : Int) : Decidable (inB n) := inferInstanceAs (Decidable (_ /\ _))
def bitP (n : Int) : Int := if n = 1 then 1 else if n = 2 then 2 else if n = 3 then 4 else if n = 4 then 8 else if n = 5 then 16 else if n = 7 then 32 else if n = 8 then 64 else if n = 9 then 128 else 0
section
variable {Q : Prog} (aq : ArQ Q) {H : AHeap}
include aq
set_option maxRecDepth 100000 in
theorem bit_run {n : Int} (hn : n = 1 \/ n = 2 \/ n = 3 \/ n = 4 \/ n = 5 \/ n = 7 \/ n = 8 \/ n = 9) : FnTo Q 74 [.int .i64 n] H (fun r H' => r = .int .u16 (bitP n) /\ H' = H) := by
 rcases hn with rfl | rfl | rfl | rfl | rfl | rfl | rfl | rfl
 all_goals
  refine ⟨10,_,_,fun k hk => ?_,rfl,rfl⟩
  obtain ⟨m,rfl⟩ : ∃ m,k = m + 10 := ⟨k - 10,by omega⟩
  simp only [callF,aq.ho 74 rfl,aq.q74]
  kernel_rfl
set_option maxHeartbeats 4000000 in
theorem bit_spec (n : Int) : FnTo Q 74 [.int .i64 n] H (fun r H' => r = .int .u16 (bitP n) /\ H' = H) := by
 by_cases hn : n = 1 \/ n = 2 \/ n = 3 \/ n = 4 \/ n = 5 \/ n = 7 \/ n = 8 \/ n = 9
 ·exact bit_run aq hn
 ·refine fn_wp (aq.ho 74 rfl _) aq.q74 (by simp [A74]) ?_
  have d1 : decide (n = 1) = false := by simp only [decide_eq_false_iff_not]; omega
  have d2 : decide (n = 2) = false := by simp only [decide_eq_false_iff_not]; omega
  have d3 : decide (n = 3) = false := by simp only [decide_eq_false_iff_not]; omega
  have d4 : decide (n = 4) = false := by simp only [decide_eq_false_iff_not]; omega
  have d5 : decide (n = 5) = false := by simp only [decide_eq_false_iff_not]; omega
  have d7 : decide (n = 7) = false := by simp only [decide_eq_false_iff_not]; omega
  have d8 : decide (n = 8) = false := by simp only [decide_eq_false_iff_not]; omega
  have d9 : decide (n = 9) = false := by simp only [decide_eq_false_iff_not]; omega
  simp only [A74,d1,d2,d3,d4,d5,d7,d8,d9,SX,reduceCtorEq,Nat.reduceEqDiff,↓reduceIte]
  unfold bitP
  (repeat' split) <;> first | rfl | (exfalso; omega)
theorem part_spec {c : AV} {p : List Int} (hc : IsS IsI H c p) : FnTo Q 72 [c,.int .i64 0] H (fun r H' => r = .int .i64 (fst0 p) /\ H' = H) := by
 refine fn_wp (aq.ho 72 rfl _) aq.q72 (by simp [A72]) ?_
 have lp := hc.len
 cases p with
 | nil =>
  have d0 : decide ((0 : Int) < (([] : List Int).length : Nat)) = false := rfl
  simp only [A72,lp,d0,SX,reduceCtorEq,Nat.reduceEqDiff,↓reduceIte]
  rfl
 | cons a p =>
  have d0 : decide ((0 : Int) < ((a :: p).length : Nat)) = true := by simp only [List.length_cons,decide_eq_true_eq]; omega
  have x0 := hc.at (i := 0) (by omega) (by simp) .i64
  have l0 := hc.int (i := 0) (a := a) rfl
  simp only [A72,lp,d0,x0,l0,SX,reduceCtorEq,Nat.reduceEqDiff,↓reduceIte]
  rfl
theorem fits_spec (n : Int) : FnTo Q 88 [.int .i64 n] H (fun r H' => r = .bool (decide (inB n)) /\ H' = H) := by
 refine fn_wp (aq.ho 88 rfl _) aq.q88 (by simp [A88]) ?_
 by_cases c1 : 0 <= n
 ·have d1 : decide (0 <= n) = true := by simpa using c1
  simp only [A88,d1,SX,reduceCtorEq,Nat.reduceEqDiff,↓reduceIte]
  simp [inB,c1]
 ·have d1 : decide (0 <= n) = false := by simpa using c1
  simp only [A88,d1,SX,reduceCtorEq,Nat.reduceEqDiff,↓reduceIte]
  simp [inB,c1]
set_option maxHeartbeats 4000000 in
theorem shortR_spec (n : Int) (hf : Fr H) : FnTo Q 75 [.int .i64 n] H (fun r H' => r = .tup [.agg [.int .u8 ((shortP n).getD (0,0)).1,.int .u32 ((shortP n).getD (0,0)).2],.bool (shortP n).isSome] /\ Gr H H') := by
 refine fn_wp (aq.ho 75 rfl _) aq.q75 (by simp [A75]) ?_
 obtain ⟨H1,s1,h1,k1⟩ := (Hp.nil H hf).make [.int .u8 0,.int .u32 0] 2
 have b1 : ∀ x : Int,buildV [AV.int .u8 0,.int .u32 0] [(0,1,.int .u8 1),(1,1,.int .u32 x)] = some (.agg [.int .u8 1,.int .u32 x]) := fun x => rfl
 have b0 : buildV [AV.int .u8 0,.int .u32 0] [] = some (.agg [.int .u8 0,.int .u32 0]) := rfl
 have st : ∀ x y : Int,∃ H2,storeE H1 2 (.ptr H.next 0) (.agg [.int .u8 x,.int .u32 y]) = some (.undef,H2) /\ loadV H2 (some 2) (.ptr H.next 0) = some (.agg [.int .u8 x,.int .u32 y]) /\ Gr H H2 := fun x y => by
  obtain ⟨H2,s,h,k,n⟩ := h1.storeN (n := 2) (new := [.int .u8 x,.int .u32 y]) rfl rfl rfl
  exact ⟨H2,s,h.loadN (List.mem_cons_self ..) rfl,h.gr (k1.trans k)⟩
 by_cases c1 : 30 <= n /\ n <= 37
 ·obtain ⟨H2,s2,l2,g2⟩ := st 1 (n - 30)
  have d1 : decide (30 <= n) = true := by simpa using c1.1
  have d2 : decide (n <= 37) = true := by simpa using c1.2
  have w1 : IntKind.wrap .i64 (n - 30) = n - 30 := wrapI64 (by omega) (by omega)
  have w2 : IntKind.wrap .u32 (n - 30) = n - 30 := wrapU32 (by omega) (by omega)
  simp only [A75,run_allocL,s1,d1,d2,w1,w2,run_build,b1,s2,l2,resVal,resVals,ARes.val,SX,reduceCtorEq,Nat.reduceEqDiff,↓reduceIte]
  unfold shortP; rw [if_pos c1]; exact ⟨rfl,g2⟩
 by_cases c2 : 90 <= n /\ n <= 97
 ·obtain ⟨H2,s2,l2,g2⟩ := st 1 (n - 82)
  have d1 : decide (30 <= n) = true := by simp only [decide_eq_true_eq]; omega
  have d2 : decide (n <= 37) = false := by simp only [decide_eq_false_iff_not]; omega
  have d3 : decide (90 <= n) = true := by simpa using c2.1
  have d4 : decide (n <= 97) = true := by simpa using c2.2
  have w1 : IntKind.wrap .i64 (n - 82) = n - 82 := wrapI64 (by omega) (by omega)
  have w2 : IntKind.wrap .u32 (n - 82) = n - 82 := wrapU32 (by omega) (by omega)
  simp only [A75,run_allocL,s1,d1,d2,d3,d4,w1,w2,run_build,b1,s2,l2,resVal,resVals,ARes.val,SX,reduceCtorEq,Nat.reduceEqDiff,↓reduceIte]
  unfold shortP; rw [if_neg c1,if_pos c2]; exact ⟨rfl,g2⟩
 obtain ⟨H2,s2,l2,g2⟩ := st 0 0
 have hr : AV.tup [.agg [.int .u8 0,.int .u32 0],.bool (decide (n = 39))] = .tup [.agg [.int .u8 ((shortP n).getD (0,0)).1,.int .u32 ((shortP n).getD (0,0)).2],.bool (shortP n).isSome] := by
  unfold shortP; rw [if_neg c1,if_neg c2]
  by_cases c3 : n = 39
  ·rw [if_pos c3]; simp [c3]
  ·rw [if_neg c3]; simp [c3]
 by_cases x1 : 30 <= n
 ·have d1 : decide (30 <= n) = true := by simpa using x1
  have d2 : decide (n <= 37) = false := by simp only [decide_eq_false_iff_not]; omega
  by_cases x2 : 90 <= n
  ·have d3 : decide (90 <= n) = true := by simpa using x2
   have d4 : decide (n <= 97) = false := by simp only [decide_eq_false_iff_not]; omega
   simp only [A75,run_allocL,s1,d1,d2,d3,d4,run_build,b0,s2,l2,resVal,resVals,ARes.val,SX,reduceCtorEq,Nat.reduceEqDiff,↓reduceIte]
   exact ⟨hr,g2⟩
  ·have d3 : decide (90 <= n) = false := by simpa using x2
   simp only [A75,run_allocL,s1,d1,d2,d3,run_build,b0,s2,l2,resVal,resVals,ARes.val,SX,reduceCtorEq,Nat.reduceEqDiff,↓reduceIte]
   exact ⟨hr,g2⟩
 ·have d1 : decide (30 <= n) = false := by simpa using x1
  have d3 : decide (90 <= n) = false := by simp only [decide_eq_false_iff_not]; omega
  simp only [A75,run_allocL,s1,d1,d3,run_build,b0,s2,l2,resVal,resVals,ARes.val,SX,reduceCtorEq,Nat.reduceEqDiff,↓reduceIte]
  exact ⟨hr,g2⟩
end
theorem paint5 (n : Int) (t : List Int) : paintP (5 :: n :: t) = if inB n then ⟨1,n,true⟩ else Co.no := by
 have hw : wantN 5 = 2 := rfl
 rw [paintP_cons,hw,if_neg (by simp)]
 have ht : (n :: t).take (2 - 1) = [n] := rfl
 rw [ht]
 by_cases h : inB n
 ·rw [if_pos (by simpa using h),if_pos h]
  have : acc8 [n] = n := by simp [acc8]
  rw [this]; rfl
 ·rw [if_neg (fun hh => h (hh n (by simp))),if_neg h]
theorem paint2 (r g b : Int) (t : List Int) : paintP (2 :: r :: g :: b :: t) = if inB r /\ inB g /\ inB b then ⟨2,65536 * r + 256 * g + b,true⟩ else Co.no := by
 have hw : wantN 2 = 4 := rfl
 rw [paintP_cons,hw,if_neg (by simp)]
 have ht : (r :: g :: b :: t).take (4 - 1) = [r,g,b] := rfl
 rw [ht]
 by_cases h : inB r /\ inB g /\ inB b
 ·have hall : ∀ x ∈ [r,g,b],inB x := by
   intro x hx
   simp only [List.mem_cons,List.not_mem_nil,or_false] at hx
   rcases hx with rfl | rfl | rfl
   ·exact h.1
   ·exact h.2.1
   ·exact h.2.2
  rw [if_pos hall,if_pos h]
  have : acc8 [r,g,b] = 65536 * r + 256 * g + b := by simp [acc8]; omega
  rw [this]; rfl
 ·rw [if_neg (fun hh => h ⟨hh r (by simp),hh g (by simp),hh b (by simp)⟩),if_neg h]
theorem paintS {a : Int} {t : List Int} (h : wantN a = 0 \/ (a :: t).length < wantN a) : paintP (a :: t) = Co.no := by rw [paintP_cons,if_pos h]
section
variable {Q : Prog} (aq : ArQ Q) {H : AHeap}
include aq
set_option maxRecDepth 100000 in
set_option maxHeartbeats 16000000 in
theorem longR_spec {v : AV} {L : List (List Int)} {i : Nat} {p : List Int} {rest : List (List Int)} (hv : IsL H v L) (hL : L.length <= 10000) (hdrop : L.drop i = p :: rest) (hp : p.length <= 10000) (hf : Fr H) : FnTo Q 73 [v,.int .i64 (i : Int)] H (fun r H' => r = .tup [(longP (p :: rest)).1.col,.int .i64 (longP (p :: rest)).2,.bool (longP (p :: rest)).1.ok] /\ Gr H H') := by
 refine fn_wp (aq.ho 73 rfl _) aq.q73 (by simp [A73]) ?_
 obtain ⟨H1,s1,h1,k1⟩ := (Hp.nil H hf).make [.int .u8 0,.int .u32 0] 2
 have g1 : Gr H H1 := h1.gr k1
 have hv1 := hv.grow hf g1
 have lv := hv1.len
 have hlen : L.length = i + 1 + rest.length := by
  have := congrArg List.length hdrop
  simp at this; omega
 have hpi : L[i]? = some p := by
  have := congrArg (·[0]?) hdrop
  simpa using this
 have hri : ∀ (j : Nat) (q : List Int),rest[j]? = some q -> L[i + 1 + j]? = some q := by
  intro j q hq
  have : (L.drop i)[j + 1]? = some q := by rw [hdrop]; simpa using hq
  rw [List.getElem?_drop] at this
  rw [<- this]; congr 1; omega
 have xi := hv1.at (i := (i : Int)) (by omega) (by omega) .i64
 obtain ⟨c,lc,hc⟩ := hv1.get (i := (i : Int)) (a := p) (by simpa using hpi)
 have lp := IsS.len hc
 have st : ∀ x y : Int,∃ H2,storeE H1 2 (.ptr H.next 0) (.agg [.int .u8 x,.int .u32 y]) = some (.undef,H2) /\ loadV H2 (some 2) (.ptr H.next 0) = some (.agg [.int .u8 x,.int .u32 y]) /\ Gr H H2 := fun x y => by
  obtain ⟨H2,s,h,k,n⟩ := h1.storeN (n := 2) (new := [.int .u8 x,.int .u32 y]) rfl rfl rfl
  exact ⟨H2,s,h.loadN (List.mem_cons_self ..) rfl,h.gr (k1.trans k)⟩
 have b0 : buildV [AV.int .u8 0,.int .u32 0] [] = some (.agg [.int .u8 0,.int .u32 0]) := rfl
 have b2 : ∀ k n : Int,buildV [AV.int .u8 0,.int .u32 0] [(0,1,.int .u8 k),(1,1,.int .u32 n)] = some (.agg [.int .u8 k,.int .u32 n]) := fun _ _ => rfl
 obtain ⟨H0,s0,l0',g0⟩ := st 0 0
 have fail : ∀ (tk : Int),longP (p :: rest) = (Co.no,tk) -> AV.tup [.agg [.int .u8 0,.int .u32 0],.int .i64 tk,.bool false] = .tup [(longP (p :: rest)).1.col,.int .i64 (longP (p :: rest)).2,.bool (longP (p :: rest)).1.ok] := fun tk h => by rw [h]; rfl
 have good : ∀ (k n tk : Int),longP (p :: rest) = (⟨k,n,true⟩,tk) -> AV.tup [.agg [.int .u8 k,.int .u32 n],.int .i64 tk,.bool true] = .tup [(longP (p :: rest)).1.col,.int .i64 (longP (p :: rest)).2,.bool (longP (p :: rest)).1.ok] := fun k n tk h => by rw [h]; rfl
 have wu : ∀ x : Int,inB x -> IntKind.wrap .u32 x = x := fun x hx => wrapU32 hx.1 (by have := hx.2; omega)
 have rgb : ∀ r g b : Int,inB r -> inB g -> inB b -> IntKind.wrap .i64 (65536 * r) = 65536 * r /\ IntKind.wrap .i64 (256 * g) = 256 * g /\ IntKind.wrap .i64 (65536 * r + 256 * g) = 65536 * r + 256 * g /\ IntKind.wrap .i64 (65536 * r + 256 * g + b) = 65536 * r + 256 * g + b /\ IntKind.wrap .u32 (65536 * r + 256 * g + b) = 65536 * r + 256 * g + b := by
  intro r g b ⟨r0,r1⟩ ⟨g0,g1⟩ ⟨b0,b1⟩
  exact ⟨wrapI64 (by omega) (by omega),wrapI64 (by omega) (by omega),wrapI64 (by omega) (by omega),wrapI64 (by omega) (by omega),wrapU32 (by omega) (by omega)⟩
 by_cases c1 : 1 < p.length
 ·have d1 : decide ((1 : Int) < p.length) = true := by simp only [decide_eq_true_eq]; omega
  have hlg : longP (p :: rest) = (paintP (partsOf p),0) := by rw [longP_cons,if_pos c1]
  obtain ⟨p0,p1,t,rfl⟩ : ∃ p0 p1 t,p = p0 :: p1 :: t := by
   match p,c1 with
   | p0 :: p1 :: t,_ => exact ⟨p0,p1,t,rfl⟩
  have hparts := partsOf_eq (p := p0 :: p1 :: t) (a := p1) (t := t) rfl
  have x1 := IsS.at hc (i := 1) (by omega) (by simp; omega) .i64
  have l1 := IsS.int hc (i := 1) (a := p1) rfl
  have d5l : ∀ b : Bool,decide (5 < t.length + 2) = b -> decide ((5 : Int) < ((p0 :: p1 :: t).length : Nat)) = b := fun b hb => by rw [<- hb]; simp only [List.length_cons]; congr 1; apply propext; omega
  by_cases a5 : p1 = 5
  ·have e5 : decide (p1 = 5) = true := by simpa using a5
   have e2 : decide (p1 = 2) = false := by simp only [decide_eq_false_iff_not]; omega
   have hpt : partsOf (p0 :: p1 :: t) = 5 :: t := by rw [hparts,if_neg (fun hh => by omega),a5]
   rw [hpt] at hlg
   have second : ∀ e : Env,True := fun _ => trivial
   cases t with
   | nil =>
    have d2 : decide ((2 : Int) < (([p0,p1] : List Int).length : Nat)) = false := rfl
    have d5 : decide ((5 : Int) < (([p0,p1] : List Int).length : Nat)) = false := rfl
    simp only [A73,run_allocL,s1,xi,lc,lp,d1,x1,l1,e5,e2,d2,d5,run_build,b0,s0,l0',resVal,resVals,ARes.val,SX,reduceCtorEq,Nat.reduceEqDiff,↓reduceIte]
    exact ⟨fail 0 (by rw [hlg,paintS (.inr (by simp [wantN]))]),g0⟩
   | cons p2 t =>
    have d2 : decide ((2 : Int) < ((p0 :: p1 :: p2 :: t).length : Nat)) = true := by simp only [decide_eq_true_eq,List.length_cons]; omega
    have x2 := IsS.at hc (i := 2) (by omega) (by simp; omega) .i64
    have l2 := IsS.int hc (i := 2) (a := p2) rfl
    rw [paint5] at hlg
    simp only [A73,run_allocL,s1,xi,lc,lp,d1,x1,l1,e5,d2,x2,l2,SX,reduceCtorEq,Nat.reduceEqDiff,↓reduceIte]
    refine (fits_spec aq p2).mono ?_
    rintro r H2 ⟨rfl,rfl⟩
    by_cases f2 : inB p2
    ·have df : decide (inB p2) = true := decide_eq_true f2
     obtain ⟨H3,s3,l3,g3⟩ := st 1 p2
     rw [if_pos f2] at hlg
     simp only [df,x2,l2,wu p2 f2,run_build,b2,s3,l3,resVal,resVals,ARes.val,SX,reduceCtorEq,Nat.reduceEqDiff,↓reduceIte]
     exact ⟨good 1 p2 0 hlg,g3⟩
    ·have df : decide (inB p2) = false := decide_eq_false f2
     rw [if_neg f2] at hlg
     by_cases z5 : 5 < t.length + 3
     ·have d5 : decide ((5 : Int) < ((p0 :: p1 :: p2 :: t).length : Nat)) = true := by simp only [decide_eq_true_eq,List.length_cons]; omega
      simp only [df,lp,d5,x1,l1,e2,run_build,b0,s0,l0',resVal,resVals,ARes.val,SX,reduceCtorEq,Nat.reduceEqDiff,↓reduceIte]
      exact ⟨fail 0 hlg,g0⟩
     ·have d5 : decide ((5 : Int) < ((p0 :: p1 :: p2 :: t).length : Nat)) = false := by simp only [decide_eq_false_iff_not,List.length_cons]; omega
      simp only [df,lp,d5,x1,l1,e2,run_build,b0,s0,l0',resVal,resVals,ARes.val,SX,reduceCtorEq,Nat.reduceEqDiff,↓reduceIte]
      exact ⟨fail 0 hlg,g0⟩
  have e5 : decide (p1 = 5) = false := by simpa using a5
  by_cases a2 : p1 = 2
  ·have e2 : decide (p1 = 2) = true := by simpa using a2
   by_cases z4 : 4 < t.length + 2
   ·have d4 : decide ((4 : Int) < ((p0 :: p1 :: t).length : Nat)) = true := by simp only [decide_eq_true_eq,List.length_cons]; omega
    by_cases z5 : 5 < t.length + 2
    ·obtain ⟨p2,r,g,b,t',rfl⟩ : ∃ p2 r g b t',t = p2 :: r :: g :: b :: t' := by
      match t,z5 with
      | p2 :: r :: g :: b :: t',_ => exact ⟨_,_,_,_,_,rfl⟩
     have hpt : partsOf (p0 :: p1 :: p2 :: r :: g :: b :: t') = 2 :: r :: g :: b :: t' := by rw [hparts,if_pos ⟨by simp only [List.length_cons]; omega,a2⟩]; rfl
     have d5 : decide ((5 : Int) < ((p0 :: p1 :: p2 :: r :: g :: b :: t').length : Nat)) = true := by simp only [List.length_cons,decide_eq_true_eq]; omega
     rw [hpt,paint2] at hlg
     have wk1 : IntKind.wrap .i64 (3 + 1) = 4 := wrapI64 (by omega) (by omega)
     have wk2 : IntKind.wrap .i64 (3 + 2) = 5 := wrapI64 (by omega) (by omega)
     have y0 := IsS.at hc (i := 3) (by omega) (by simp only [List.length_cons]; omega) .i64
     have m0 := IsS.int hc (i := 3) (a := r) rfl
     have y1 := IsS.at hc (i := 4) (by omega) (by simp only [List.length_cons]; omega) .i64
     have m1 := IsS.int hc (i := 4) (a := g) rfl
     have y2 := IsS.at hc (i := 5) (by omega) (by simp only [List.length_cons]; omega) .i64
     have m2 := IsS.int hc (i := 5) (a := b) rfl
     simp only [A73,run_allocL,s1,xi,lc,lp,d1,x1,l1,e5,e2,d4,d5,y0,m0,SX,reduceCtorEq,Nat.reduceEqDiff,↓reduceIte]
     refine (fits_spec aq r).mono ?_
     rintro _ H2 ⟨rfl,rfl⟩
     by_cases f0 : inB r
     ·have df0 : decide (inB r) = true := decide_eq_true f0
      simp only [df0,wk1,y1,m1,SX,Nat.reduceEqDiff,↓reduceIte]
      refine (fits_spec aq g).mono ?_
      rintro _ H3 ⟨rfl,rfl⟩
      by_cases f1 : inB g
      ·have df1 : decide (inB g) = true := decide_eq_true f1
       simp only [df1,wk2,y2,m2,SX,Nat.reduceEqDiff,↓reduceIte]
       refine (fits_spec aq b).mono ?_
       rintro _ H4 ⟨rfl,rfl⟩
       by_cases f2 : inB b
       ·have df2 : decide (inB b) = true := decide_eq_true f2
        obtain ⟨q1,q2,q3,q4,q5⟩ := rgb r g b f0 f1 f2
        obtain ⟨H5,s5,l5,g5⟩ := st 2 (65536 * r + 256 * g + b)
        rw [if_pos ⟨f0,f1,f2⟩] at hlg
        simp only [df2,wk1,wk2,y0,m0,y1,m1,y2,m2,q1,q2,q3,q4,q5,run_build,b2,s5,l5,resVal,resVals,ARes.val,SX,reduceCtorEq,Nat.reduceEqDiff,↓reduceIte]
        exact ⟨good 2 _ 0 hlg,g5⟩
       ·have df2 : decide (inB b) = false := decide_eq_false f2
        rw [if_neg (fun hh => f2 hh.2.2)] at hlg
        simp only [df2,run_build,b0,s0,l0',resVal,resVals,ARes.val,SX,reduceCtorEq,Nat.reduceEqDiff,↓reduceIte]
        exact ⟨fail 0 hlg,g0⟩
      ·have df1 : decide (inB g) = false := decide_eq_false f1
       rw [if_neg (fun hh => f1 hh.2.1)] at hlg
       simp only [df1,run_build,b0,s0,l0',resVal,resVals,ARes.val,SX,reduceCtorEq,Nat.reduceEqDiff,↓reduceIte]
       exact ⟨fail 0 hlg,g0⟩
     ·have df0 : decide (inB r) = false := decide_eq_false f0
      rw [if_neg (fun hh => f0 hh.1)] at hlg
      simp only [df0,run_build,b0,s0,l0',resVal,resVals,ARes.val,SX,reduceCtorEq,Nat.reduceEqDiff,↓reduceIte]
      exact ⟨fail 0 hlg,g0⟩
    ·obtain ⟨r,g,b,t',rfl⟩ : ∃ r g b t',t = r :: g :: b :: t' := by
      match t,z4 with
      | r :: g :: b :: t',_ => exact ⟨_,_,_,_,rfl⟩
     have hpt : partsOf (p0 :: p1 :: r :: g :: b :: t') = 2 :: r :: g :: b :: t' := by rw [hparts,if_neg (fun hh => by have := hh.1; simp only [List.length_cons] at this z5; omega),a2]
     have d5 : decide ((5 : Int) < ((p0 :: p1 :: r :: g :: b :: t').length : Nat)) = false := decide_eq_false (by simp only [List.length_cons] at z5 ⊢; omega)
     rw [hpt,paint2] at hlg
     have wk1 : IntKind.wrap .i64 (2 + 1) = 3 := wrapI64 (by omega) (by omega)
     have wk2 : IntKind.wrap .i64 (2 + 2) = 4 := wrapI64 (by omega) (by omega)
     have y0 := IsS.at hc (i := 2) (by omega) (by simp only [List.length_cons]; omega) .i64
     have m0 := IsS.int hc (i := 2) (a := r) rfl
     have y1 := IsS.at hc (i := 3) (by omega) (by simp only [List.length_cons]; omega) .i64
     have m1 := IsS.int hc (i := 3) (a := g) rfl
     have y2 := IsS.at hc (i := 4) (by omega) (by simp only [List.length_cons]; omega) .i64
     have m2 := IsS.int hc (i := 4) (a := b) rfl
     simp only [A73,run_allocL,s1,xi,lc,lp,d1,x1,l1,e5,e2,d4,d5,y0,m0,SX,reduceCtorEq,Nat.reduceEqDiff,↓reduceIte]
     refine (fits_spec aq r).mono ?_
     rintro _ H2 ⟨rfl,rfl⟩
     by_cases f0 : inB r
     ·have df0 : decide (inB r) = true := decide_eq_true f0
      simp only [df0,wk1,y1,m1,SX,Nat.reduceEqDiff,↓reduceIte]
      refine (fits_spec aq g).mono ?_
      rintro _ H3 ⟨rfl,rfl⟩
      by_cases f1 : inB g
      ·have df1 : decide (inB g) = true := decide_eq_true f1
       simp only [df1,wk2,y2,m2,SX,Nat.reduceEqDiff,↓reduceIte]
       refine (fits_spec aq b).mono ?_
       rintro _ H4 ⟨rfl,rfl⟩
       by_cases f2 : inB b
       ·have df2 : decide (inB b) = true := decide_eq_true f2
        obtain ⟨q1,q2,q3,q4,q5⟩ := rgb r g b f0 f1 f2
        obtain ⟨H5,s5,l5,g5⟩ := st 2 (65536 * r + 256 * g + b)
        rw [if_pos ⟨f0,f1,f2⟩] at hlg
        simp only [df2,wk1,wk2,y0,m0,y1,m1,y2,m2,q1,q2,q3,q4,q5,run_build,b2,s5,l5,resVal,resVals,ARes.val,SX,reduceCtorEq,Nat.reduceEqDiff,↓reduceIte]
        exact ⟨good 2 _ 0 hlg,g5⟩
       ·have df2 : decide (inB b) = false := decide_eq_false f2
        rw [if_neg (fun hh => f2 hh.2.2)] at hlg
        simp only [df2,run_build,b0,s0,l0',resVal,resVals,ARes.val,SX,reduceCtorEq,Nat.reduceEqDiff,↓reduceIte]
        exact ⟨fail 0 hlg,g0⟩
      ·have df1 : decide (inB g) = false := decide_eq_false f1
       rw [if_neg (fun hh => f1 hh.2.1)] at hlg
       simp only [df1,run_build,b0,s0,l0',resVal,resVals,ARes.val,SX,reduceCtorEq,Nat.reduceEqDiff,↓reduceIte]
       exact ⟨fail 0 hlg,g0⟩
     ·have df0 : decide (inB r) = false := decide_eq_false f0
      rw [if_neg (fun hh => f0 hh.1)] at hlg
      simp only [df0,run_build,b0,s0,l0',resVal,resVals,ARes.val,SX,reduceCtorEq,Nat.reduceEqDiff,↓reduceIte]
      exact ⟨fail 0 hlg,g0⟩
   ·have d4 : decide ((4 : Int) < ((p0 :: p1 :: t).length : Nat)) = false := by simp only [decide_eq_false_iff_not,List.length_cons]; omega
    have d5 : decide ((5 : Int) < ((p0 :: p1 :: t).length : Nat)) = false := by simp only [decide_eq_false_iff_not,List.length_cons]; omega
    have hpt : partsOf (p0 :: p1 :: t) = 2 :: t := by rw [hparts,if_neg (fun hh => by have := hh.1; simp only [List.length_cons] at this; omega),a2]
    rw [hpt,paintS (.inr (by simp [wantN]; omega))] at hlg
    simp only [A73,run_allocL,s1,xi,lc,lp,d1,x1,l1,e5,e2,d4,d5,run_build,b0,s0,l0',resVal,resVals,ARes.val,SX,reduceCtorEq,Nat.reduceEqDiff,↓reduceIte]
    exact ⟨fail 0 hlg,g0⟩
  ·have e2 : decide (p1 = 2) = false := by simpa using a2
   have hpt : partsOf (p0 :: p1 :: t) = p1 :: t := by rw [hparts,if_neg (fun hh => a2 hh.2)]
   rw [hpt,paintS (.inl (by unfold wantN; rw [if_neg a5,if_neg a2]))] at hlg
   by_cases z5 : 5 < t.length + 2
   ·have d5 : decide ((5 : Int) < ((p0 :: p1 :: t).length : Nat)) = true := by simp only [decide_eq_true_eq,List.length_cons]; omega
    simp only [A73,run_allocL,s1,xi,lc,lp,d1,x1,l1,e5,e2,d5,run_build,b0,s0,l0',resVal,resVals,ARes.val,SX,reduceCtorEq,Nat.reduceEqDiff,↓reduceIte]
    exact ⟨fail 0 hlg,g0⟩
   ·have d5 : decide ((5 : Int) < ((p0 :: p1 :: t).length : Nat)) = false := by simp only [decide_eq_false_iff_not,List.length_cons]; omega
    simp only [A73,run_allocL,s1,xi,lc,lp,d1,x1,l1,e5,e2,d5,run_build,b0,s0,l0',resVal,resVals,ARes.val,SX,reduceCtorEq,Nat.reduceEqDiff,↓reduceIte]
    exact ⟨fail 0 hlg,g0⟩
 ·have d1 : decide ((1 : Int) < p.length) = false := by simp only [decide_eq_false_iff_not]; omega
  obtain ⟨n,hn⟩ : ∃ n,rest.length = n := ⟨_,rfl⟩
  have hlg : longP (p :: rest) = (paintP (rest.map fst0),min (takenOf (rest.map fst0)) (n : Int)) := by rw [longP_cons,if_neg c1,List.length_map,hn]
  have ws : IntKind.wrap .i64 ((L.length : Int) - (i : Int)) = ((1 + n : Nat) : Int) := by rw [wrapI64 (by omega) (by omega)]; omega
  have ws1 : IntKind.wrap .i64 (((1 + n : Nat) : Int) - 1) = (n : Int) := by rw [wrapI64 (by omega) (by omega)]; omega
  have wi1 : IntKind.wrap .i64 ((i : Int) + 1) = ((i + 1 : Nat) : Int) := by rw [wrapI64 (by omega) (by omega)]; rfl
  have wi2 : IntKind.wrap .i64 ((i : Int) + 2) = ((i + 2 : Nat) : Int) := by rw [wrapI64 (by omega) (by omega)]; rfl
  have wi3 : IntKind.wrap .i64 ((i : Int) + 3) = ((i + 3 : Nat) : Int) := by rw [wrapI64 (by omega) (by omega)]; rfl
  have wi4 : IntKind.wrap .i64 ((i : Int) + 4) = ((i + 4 : Nat) : Int) := by rw [wrapI64 (by omega) (by omega)]; rfl
  have rd : ∀ (m : Nat) (q : List Int),L[m]? = some q -> ∃ a cq,idxSV 1 v (.int .i64 (m : Int)) = some a /\ loadV H1 none a = some cq /\ IsS IsI H1 cq q := by
   intro m q hq
   have hm : m < L.length := (List.getElem?_eq_some_iff.1 hq).1
   obtain ⟨cq,l1,l2⟩ := hv1.get (i := (m : Int)) (a := q) (by rw [Int.toNat_natCast]; exact hq)
   exact ⟨_,cq,hv1.at (i := (m : Int)) (by omega) (by omega) .i64,l1,l2⟩
  cases rest with
  | nil =>
   have hn0 : n = 0 := hn.symm
   have d0 : decide ((n : Int) = 0) = true := by simp only [decide_eq_true_eq]; omega
   simp only [A73,run_allocL,s1,xi,lc,lp,d1,lv,ws,ws1,d0,run_build,b0,s0,l0',resVal,resVals,ARes.val,SX,reduceCtorEq,Nat.reduceEqDiff,↓reduceIte]
   exact ⟨fail 0 (by rw [hlg,hn0]; rfl),g0⟩
  | cons q0 rest' =>
   have hn1 : rest'.length + 1 = n := hn
   have d0 : decide ((n : Int) = 0) = false := by simp only [decide_eq_false_iff_not]; omega
   obtain ⟨a0,k0,y0,m0,hk0⟩ := rd (i + 1) q0 (hri 0 q0 rfl)
   have hlg : longP (p :: q0 :: rest') = (paintP (fst0 q0 :: rest'.map fst0),min (takenOf (fst0 q0 :: rest'.map fst0)) (n : Int)) := hlg
   simp only [A73,run_allocL,s1,xi,lc,lp,d1,lv,ws,ws1,d0,wi1,y0,m0,SX,reduceCtorEq,Nat.reduceEqDiff,↓reduceIte]
   refine (part_spec aq hk0).mono ?_
   rintro _ H2 ⟨rfl,rfl⟩
   by_cases a5 : fst0 q0 = 5
   ·have e5 : decide (fst0 q0 = 5) = true := decide_eq_true a5
    have t5 : takenOf (5 :: rest'.map fst0) = 2 := rfl
    rw [a5,t5] at hlg
    by_cases z2 : n < 2
    ·have d2 : decide ((n : Int) < 2) = true := by simp only [decide_eq_true_eq]; omega
     rw [paintS (.inr (by simp [wantN]; omega)),Int.min_eq_right (by omega)] at hlg
     simp only [e5,d2,run_build,b0,s0,l0',resVal,resVals,ARes.val,SX,reduceCtorEq,Nat.reduceEqDiff,↓reduceIte]
     exact ⟨fail n hlg,g0⟩
    ·have d2 : decide ((n : Int) < 2) = false := by simp only [decide_eq_false_iff_not]; omega
     cases rest' with
     | nil => exact absurd hn1 (by simp; omega)
     | cons q1 rest2 =>
      obtain ⟨a1,k1',y1,m1,hk1⟩ := rd (i + 2) q1 (hri 1 q1 rfl)
      have hlg : longP (p :: q0 :: q1 :: rest2) = (paintP (5 :: fst0 q1 :: rest2.map fst0),min 2 (n : Int)) := hlg
      rw [paint5,Int.min_eq_left (by omega)] at hlg
      obtain ⟨H3,s3,l3,g3⟩ := st 1 (fst0 q1)
      simp only [e5,d2,wi2,y1,m1,SX,reduceCtorEq,Nat.reduceEqDiff,↓reduceIte]
      refine (part_spec aq hk1).mono ?_
      rintro _ H2 ⟨rfl,rfl⟩
      simp only [SX,↓reduceIte]
      refine (fits_spec aq (fst0 q1)).mono ?_
      rintro _ H2 ⟨rfl,rfl⟩
      by_cases f1 : inB (fst0 q1)
      ·have df1 : decide (inB (fst0 q1)) = true := decide_eq_true f1
       rw [if_pos f1] at hlg
       simp only [df1,wu _ f1,b2,s3,l3,run_build,resVal,resVals,ARes.val,SX,reduceCtorEq,Nat.reduceEqDiff,↓reduceIte]
       exact ⟨good 1 _ 2 hlg,g3⟩
      ·have df1 : decide (inB (fst0 q1)) = false := decide_eq_false f1
       rw [if_neg f1] at hlg
       simp only [df1,run_build,b0,s0,l0',resVal,resVals,ARes.val,SX,reduceCtorEq,Nat.reduceEqDiff,↓reduceIte]
       exact ⟨fail 2 hlg,g0⟩
   have e5 : decide (fst0 q0 = 5) = false := decide_eq_false a5
   by_cases a2 : fst0 q0 = 2
   ·have e2 : decide (fst0 q0 = 2) = true := decide_eq_true a2
    have t2 : takenOf (2 :: rest'.map fst0) = 4 := rfl
    rw [a2,t2] at hlg
    by_cases z4 : n < 4
    ·have d4 : decide ((n : Int) < 4) = true := by simp only [decide_eq_true_eq]; omega
     rw [paintS (.inr (by simp [wantN]; omega)),Int.min_eq_right (by omega)] at hlg
     simp only [e5,e2,d4,run_build,b0,s0,l0',resVal,resVals,ARes.val,SX,reduceCtorEq,Nat.reduceEqDiff,↓reduceIte]
     exact ⟨fail n hlg,g0⟩
    ·have d4 : decide ((n : Int) < 4) = false := by simp only [decide_eq_false_iff_not]; omega
     obtain ⟨q1,q2,q3,rest4,rfl⟩ : ∃ q1 q2 q3 rest4,rest' = q1 :: q2 :: q3 :: rest4 := by
      have z3 : 3 <= rest'.length := by omega
      match rest',z3 with
      | q1 :: q2 :: q3 :: rest4,_ => exact ⟨_,_,_,_,rfl⟩
     obtain ⟨a1,k1',y1,m1,hk1⟩ := rd (i + 2) q1 (hri 1 q1 rfl)
     obtain ⟨a2',k2',y2,m2,hk2⟩ := rd (i + 3) q2 (hri 2 q2 rfl)
     obtain ⟨a3,k3',y3,m3,hk3⟩ := rd (i + 4) q3 (hri 3 q3 rfl)
     have hlg : longP (p :: q0 :: q1 :: q2 :: q3 :: rest4) = (paintP (2 :: fst0 q1 :: fst0 q2 :: fst0 q3 :: rest4.map fst0),min 4 (n : Int)) := hlg
     rw [paint2,Int.min_eq_left (by omega)] at hlg
     obtain ⟨r,hr⟩ : ∃ r,fst0 q1 = r := ⟨_,rfl⟩
     obtain ⟨g,hg⟩ : ∃ g,fst0 q2 = g := ⟨_,rfl⟩
     obtain ⟨b,hb⟩ : ∃ b,fst0 q3 = b := ⟨_,rfl⟩
     rw [hr,hg,hb] at hlg
     obtain ⟨H3,s3,l3,g3⟩ := st 2 (65536 * r + 256 * g + b)
     simp only [e5,e2,d4,wi2,wi3,wi4,y1,m1,y2,m2,y3,m3,SX,reduceCtorEq,Nat.reduceEqDiff,↓reduceIte]
     refine (part_spec aq hk1).mono ?_
     rintro _ H2 ⟨rfl,rfl⟩
     refine ⟨by simp only [echoOk,SX,Nat.reduceEqDiff,↓reduceIte,m2,m3]; simp [hk2.same,hk3.same],?_⟩
     simp only [SX,Nat.reduceEqDiff,↓reduceIte]
     refine (part_spec aq hk2).mono ?_
     rintro _ H2 ⟨rfl,rfl⟩
     refine ⟨by simp only [echoOk,SX,Nat.reduceEqDiff,↓reduceIte,m3]; simp [hk3.same],?_⟩
     simp only [SX,Nat.reduceEqDiff,↓reduceIte]
     refine (part_spec aq hk3).mono ?_
     rintro _ H2 ⟨rfl,rfl⟩
     simp only [hr,hg,hb,SX,Nat.reduceEqDiff,↓reduceIte]
     refine (fits_spec aq r).mono ?_
     rintro _ H2 ⟨rfl,rfl⟩
     by_cases f0 : inB r
     ·have df0 : decide (inB r) = true := decide_eq_true f0
      simp only [df0,SX,Nat.reduceEqDiff,↓reduceIte]
      refine (fits_spec aq g).mono ?_
      rintro _ H2 ⟨rfl,rfl⟩
      by_cases f1 : inB g
      ·have df1 : decide (inB g) = true := decide_eq_true f1
       simp only [df1,SX,Nat.reduceEqDiff,↓reduceIte]
       refine (fits_spec aq b).mono ?_
       rintro _ H2 ⟨rfl,rfl⟩
       by_cases f2 : inB b
       ·have df2 : decide (inB b) = true := decide_eq_true f2
        obtain ⟨u1,u2,u3,u4,u5⟩ := rgb r g b f0 f1 f2
        rw [if_pos ⟨f0,f1,f2⟩] at hlg
        simp only [df2,u1,u2,u3,u4,u5,b2,s3,l3,run_build,resVal,resVals,ARes.val,SX,reduceCtorEq,Nat.reduceEqDiff,↓reduceIte]
        exact ⟨good 2 _ 4 hlg,g3⟩
       ·have df2 : decide (inB b) = false := decide_eq_false f2
        rw [if_neg (fun hh => f2 hh.2.2)] at hlg
        simp only [df2,run_build,b0,s0,l0',resVal,resVals,ARes.val,SX,reduceCtorEq,Nat.reduceEqDiff,↓reduceIte]
        exact ⟨fail 4 hlg,g0⟩
      ·have df1 : decide (inB g) = false := decide_eq_false f1
       rw [if_neg (fun hh => f1 hh.2.1)] at hlg
       simp only [df1,run_build,b0,s0,l0',resVal,resVals,ARes.val,SX,reduceCtorEq,Nat.reduceEqDiff,↓reduceIte]
       exact ⟨fail 4 hlg,g0⟩
     ·have df0 : decide (inB r) = false := decide_eq_false f0
      rw [if_neg (fun hh => f0 hh.1)] at hlg
      simp only [df0,run_build,b0,s0,l0',resVal,resVals,ARes.val,SX,reduceCtorEq,Nat.reduceEqDiff,↓reduceIte]
      exact ⟨fail 4 hlg,g0⟩
   ·have e2 : decide (fst0 q0 = 2) = false := decide_eq_false a2
    rw [paintS (.inl (by unfold wantN; rw [if_neg a5,if_neg a2])),takenOf_cons,if_neg a5,if_neg a2,Int.min_eq_left (by omega)] at hlg
    simp only [e5,e2,run_build,b0,s0,l0',resVal,resVals,ARes.val,SX,reduceCtorEq,Nat.reduceEqDiff,↓reduceIte]
    exact ⟨fail 1 hlg,g0⟩
end
def fl2 (fl m : Int) : Int := if m = 22 then notU (orU fl (bitP m)) 1 else orU fl (bitP m)
def flR (fl m : Int) : Int := if 21 < m /\ m < 30 then notU (fl2 fl m) (bitP (m - 20)) else fl2 fl m
def restA (a : At) (m : Int) : At := shortB (shortA { a with fl := flR a.fl m } m) (IntKind.wrap .i64 (m - 10))
theorem shortB_none {a : At} {n : Int} (h : shortP n = none) : shortB a n = a := by unfold shortB; rw [h]; rfl
theorem shortB_some {a : At} {n c d : Int} (h : shortP n = some (c,d)) : shortB a n = { a with bk := c,bn := d } := by unfold shortB; rw [h]; rfl
theorem shortA_none {a : At} {n : Int} (h : shortP n = none) : shortA a n = a := by unfold shortA; rw [h]; rfl
theorem shortA_some {a : At} {n c d : Int} (h : shortP n = some (c,d)) : shortA a n = { a with fk := c,fn := d } := by unfold shortA; rw [h]; rfl
theorem gn : (none : Option (Int × Int)).getD (0,0) = (0,0) := rfl
theorem gs (x : Int × Int) : (some x).getD (0,0) = x := rfl
theorem isn : (none : Option (Int × Int)).isSome = false := rfl
theorem iss (x : Int × Int) : (some x).isSome = true := rfl
section
variable {Q : Prog} (aq : ArQ Q) {base p : Nat} {a : At} {m : Int} {l : List Cel} {H : AHeap} {e : Env} {K : PostC}
include aq
def Same4 (e e' : Env) : Prop := Env.get e' 1 = Env.get e 1 /\ Env.get e' 2 = Env.get e 2 /\ Env.get e' 4 = Env.get e 4 /\ Env.get e' 5 = Env.get e 5
theorem sh2_wp {q : Nat} {x y : Int} (h : Hp base H (⟨q,2,[.int .u8 x,.int .u32 y]⟩ :: ⟨p,5,a.cs⟩ :: l)) (e2 : Env.get e 2 = .ptr p 0) (e6 : Env.get e 6 = .int .i64 m) (e10 : Env.get e 10 = .ptr q 0)
  (hK : ∀ e' H',Keep base H H' -> Hp base H' (⟨p,5,(shortB a (IntKind.wrap .i64 (m - 10))).cs⟩ :: l) -> Same4 e e' -> K .normal e' H') : ACode.wp Q A48_sh2 K e H := by
 simp only [A48_sh2,e6,SX,↓reduceIte]
 refine (shortR_spec aq _ h.fr).mono ?_
 rintro _ H1 ⟨rfl,g1⟩
 have h1 := h.keep g1.keep g1.next g1.fr
 have k1 : Keep base H H1 := g1.keep.le h.bn
 cases hs : shortP (IntKind.wrap .i64 (m - 10)) with
 | none =>
  obtain ⟨H2,s2,h2,k2,n2⟩ := h1.storeN (n := 2) (new := [.int .u8 0,.int .u32 0]) rfl rfl rfl
  simp only [e10,gn,isn,ex0,ex1,s2,SX,reduceCtorEq,Nat.reduceEqDiff,↓reduceIte]
  refine hK _ _ (k1.trans k2) (by rw [shortB_none hs]; exact h2.drop) ?_
  simp only [Same4,e2,SX,reduceCtorEq,Nat.reduceEqDiff,↓reduceIte,and_self]
 | some cd =>
  obtain ⟨c,d⟩ := cd
  obtain ⟨H2,s2,h2,k2,n2⟩ := h1.storeN (n := 2) (new := [.int .u8 c,.int .u32 d]) rfl rfl rfl
  have l2 : loadV H2 (some 2) (.ptr q 0) = some (.agg [.int .u8 c,.int .u32 d]) := h2.loadN (List.mem_cons_self ..) rfl
  obtain ⟨H3,s3,h3,k3,n3⟩ := (h2.drop).storeO (a := [.int .u16 a.fl,.int .u8 a.fk,.int .u32 a.fn]) (x := [.int .u8 a.bk,.int .u32 a.bn]) (c := []) (o := 3) (n := 2) rfl rfl rfl (new := [.int .u8 c,.int .u32 d]) rfl rfl
  simp only [e2,e10,gs,iss,ex0,ex1,s2,l2,s3,SX,reduceCtorEq,Nat.reduceEqDiff,↓reduceIte]
  refine hK _ _ ((k1.trans k2).trans k3) (by rw [shortB_some hs]; exact h3) ?_
  simp only [Same4,e2,SX,reduceCtorEq,Nat.reduceEqDiff,↓reduceIte,and_self]
theorem shorts_wp (h : Hp base H (⟨p,5,a.cs⟩ :: l)) (e2 : Env.get e 2 = .ptr p 0) (e6 : Env.get e 6 = .int .i64 m)
  (hK : ∀ e' H',Keep base H H' -> Hp base H' (⟨p,5,(shortB (shortA a m) (IntKind.wrap .i64 (m - 10))).cs⟩ :: l) -> Same4 e e' -> K .normal e' H') : ACode.wp Q A48_shorts K e H := by
 simp only [A48_shorts,e6,SX,↓reduceIte]
 refine (shortR_spec aq _ h.fr).mono ?_
 rintro _ H1 ⟨rfl,g1⟩
 have h1 := h.keep g1.keep g1.next g1.fr
 have k1 : Keep base H H1 := g1.keep.le h.bn
 obtain ⟨H2,s2,h2,k2⟩ := h1.make [.int .u8 0,.int .u32 0] 2
 cases hs : shortP m with
 | none =>
  obtain ⟨H3,s3,h3,k3,n3⟩ := h2.storeN (n := 2) (new := [.int .u8 0,.int .u32 0]) rfl rfl rfl
  simp only [gn,isn,ex0,ex1,run_allocL,s2,s3,SX,reduceCtorEq,Nat.reduceEqDiff,↓reduceIte]
  refine sh2_wp aq (m := m) h3 (by simp only [e2,SX,reduceCtorEq,Nat.reduceEqDiff,↓reduceIte]) (by simp only [e6,SX,reduceCtorEq,Nat.reduceEqDiff,↓reduceIte]) (by simp only [SX,reduceCtorEq,Nat.reduceEqDiff,↓reduceIte]) ?_
  intro e' H' k' h' se
  refine hK e' H' (((k1.trans k2).trans k3).trans k') (by rw [shortA_none hs]; exact h') ?_
  simpa only [Same4,e2,SX,reduceCtorEq,Nat.reduceEqDiff,↓reduceIte,Int.reduceEq,Int.reduceLT,Int.reduceLE,Nat.reduceAdd] using se
 | some cd =>
  obtain ⟨c,d⟩ := cd
  obtain ⟨H3,s3,h3,k3,n3⟩ := h2.storeN (n := 2) (new := [.int .u8 c,.int .u32 d]) rfl rfl rfl
  have l3 : loadV H3 (some 2) (.ptr H1.next 0) = some (.agg [.int .u8 c,.int .u32 d]) := h3.loadN (List.mem_cons_self ..) rfl
  obtain ⟨H4,s4,h4,k4,n4⟩ := (h3.perm (List.Perm.swap _ _ _)).storeO (a := [.int .u16 a.fl]) (x := [.int .u8 a.fk,.int .u32 a.fn]) (c := [.int .u8 a.bk,.int .u32 a.bn]) (o := 1) (n := 2) rfl rfl rfl (new := [.int .u8 c,.int .u32 d]) rfl rfl
  have h5 : Hp base H4 (⟨H1.next,2,[.int .u8 c,.int .u32 d]⟩ :: ⟨p,5,({ a with fk := c,fn := d } : At).cs⟩ :: l) := h4.perm (List.Perm.swap _ _ _)
  simp only [e2,gs,iss,ex0,ex1,run_allocL,s2,s3,l3,s4,SX,reduceCtorEq,Nat.reduceEqDiff,↓reduceIte]
  refine sh2_wp aq (m := m) h5 (by simp only [e2,SX,reduceCtorEq,Nat.reduceEqDiff,↓reduceIte]) (by simp only [e6,SX,reduceCtorEq,Nat.reduceEqDiff,↓reduceIte]) (by simp only [SX,reduceCtorEq,Nat.reduceEqDiff,↓reduceIte]) ?_
  intro e' H' k' h' se
  refine hK e' H' ((((k1.trans k2).trans k3).trans k4).trans k') (by rw [shortA_some hs]; exact h') ?_
  simpa only [Same4,e2,SX,reduceCtorEq,Nat.reduceEqDiff,↓reduceIte,Int.reduceEq,Int.reduceLT,Int.reduceLE,Nat.reduceAdd] using se
theorem rest_wp (h : Hp base H (⟨p,5,a.cs⟩ :: l)) (e2 : Env.get e 2 = .ptr p 0) (e6 : Env.get e 6 = .int .i64 m)
  (hK : ∀ e' H',Keep base H H' -> Hp base H' (⟨p,5,(restA a m).cs⟩ :: l) -> Same4 e e' -> K .normal e' H') : ACode.wp Q A48_rest K e H := by
 have l0 := h.load (List.mem_cons_self ..) (o := 0) (v := .int .u16 a.fl) rfl
 obtain ⟨H1,s1,h1,k1,n1⟩ := h.store (o := 0) (v := .int .u16 (orU a.fl (bitP m))) rfl (by simp [At.cs])
 have h1 : Hp base H1 (⟨p,5,({ a with fl := orU a.fl (bitP m) } : At).cs⟩ :: l) := h1
 have l1 := h1.load (List.mem_cons_self ..) (o := 0) (v := .int .u16 (orU a.fl (bitP m))) rfl
 have fin : ∀ (H3 : AHeap) (e3 : Env),Keep base H H3 -> Hp base H3 (⟨p,5,({ a with fl := flR a.fl m } : At).cs⟩ :: l) -> Env.get e3 2 = .ptr p 0 -> Env.get e3 6 = .int .i64 m -> Same4 e e3 -> ACode.wp Q A48_shorts K e3 H3 := by
  intro H3 e3 k3 h3 f2 f6 se
  refine shorts_wp aq h3 f2 f6 ?_
  intro e' H' k' h' se'
  exact hK e' H' (k3.trans k') h' ⟨se'.1.trans se.1,se'.2.1.trans se.2.1,se'.2.2.1.trans se.2.2.1,se'.2.2.2.trans se.2.2.2⟩
 by_cases c22 : m = 22
 ·subst c22
  obtain ⟨H2,s2,h2,k2,n2⟩ := h1.store (o := 0) (v := .int .u16 (notU (orU a.fl (bitP 22)) 1)) rfl (by simp [At.cs])
  have h2 : Hp base H2 (⟨p,5,({ a with fl := notU (orU a.fl (bitP 22)) 1 } : At).cs⟩ :: l) := h2
  have l2 := h2.load (List.mem_cons_self ..) (o := 0) (v := .int .u16 (notU (orU a.fl (bitP 22)) 1)) rfl
  obtain ⟨H3,s3,h3,k3,n3⟩ := h2.store (o := 0) (v := .int .u16 (notU (notU (orU a.fl (bitP 22)) 1) (bitP 2))) rfl (by simp [At.cs])
  have w2 : IntKind.wrap .i64 (22 - 20) = 2 := wrapI64 (by omega) (by omega)
  simp only [A48_rest,e2,e6,l0,SX,Nat.reduceEqDiff,↓reduceIte]
  refine (bit_spec aq 22).mono ?_
  rintro _ Hx ⟨rfl,rfl⟩
  refine ⟨by simp only [echoOk,l0,SX,Nat.reduceEqDiff,↓reduceIte]; simp [AV.same,AV.same1],?_⟩
  simp only [e2,e6,bin_orU,bin_notU,s1,l1,s2,l2,w2,SX,reduceCtorEq,Nat.reduceEqDiff,↓reduceIte,Int.reduceLT]
  refine (bit_spec aq 2).mono ?_
  rintro _ Hx ⟨rfl,rfl⟩
  refine ⟨by simp only [echoOk,l2,SX,Nat.reduceEqDiff,↓reduceIte]; simp [AV.same,AV.same1],?_⟩
  simp only [e2,bin_notU,s3,SX,reduceCtorEq,Nat.reduceEqDiff,↓reduceIte]
  refine fin _ _ ((k1.trans k2).trans k3) h3 (by simp only [e2,SX,reduceCtorEq,Nat.reduceEqDiff,↓reduceIte]) (by simp only [e6,SX,reduceCtorEq,Nat.reduceEqDiff,↓reduceIte]) ?_
  simp only [Same4,e2,SX,reduceCtorEq,Nat.reduceEqDiff,↓reduceIte,and_self]
 have d22 : decide (m = 22) = false := decide_eq_false c22
 have f2 : fl2 a.fl m = orU a.fl (bitP m) := by unfold fl2; rw [if_neg c22]
 by_cases c21 : 21 < m
 ·have d21 : decide (21 < m) = true := decide_eq_true c21
  by_cases c30 : m < 30
  ·have d30 : decide (m < 30) = true := decide_eq_true c30
   have w2 : IntKind.wrap .i64 (m - 20) = m - 20 := wrapI64 (by omega) (by omega)
   obtain ⟨H3,s3,h3,k3,n3⟩ := h1.store (o := 0) (v := .int .u16 (notU (orU a.fl (bitP m)) (bitP (m - 20)))) rfl (by simp [At.cs])
   have hfl : flR a.fl m = notU (orU a.fl (bitP m)) (bitP (m - 20)) := by unfold flR; rw [if_pos ⟨c21,c30⟩,f2]
   rw [hfl] at fin
   simp only [A48_rest,e2,e6,l0,SX,Nat.reduceEqDiff,↓reduceIte]
   refine (bit_spec aq m).mono ?_
   rintro _ Hx ⟨rfl,rfl⟩
   refine ⟨by simp only [echoOk,l0,SX,Nat.reduceEqDiff,↓reduceIte]; simp [AV.same,AV.same1],?_⟩
   simp only [e2,e6,bin_orU,s1,l1,d22,d21,d30,w2,SX,reduceCtorEq,Nat.reduceEqDiff,↓reduceIte]
   refine (bit_spec aq (m - 20)).mono ?_
   rintro _ Hx ⟨rfl,rfl⟩
   refine ⟨by simp only [echoOk,l1,SX,Nat.reduceEqDiff,↓reduceIte]; simp [AV.same,AV.same1],?_⟩
   simp only [e2,bin_notU,s3,SX,reduceCtorEq,Nat.reduceEqDiff,↓reduceIte]
   refine fin _ _ (k1.trans k3) h3 (by simp only [e2,SX,reduceCtorEq,Nat.reduceEqDiff,↓reduceIte]) (by simp only [e6,SX,reduceCtorEq,Nat.reduceEqDiff,↓reduceIte]) ?_
   simp only [Same4,e2,SX,reduceCtorEq,Nat.reduceEqDiff,↓reduceIte,and_self]
  ·have d30 : decide (m < 30) = false := decide_eq_false c30
   have hfl : flR a.fl m = orU a.fl (bitP m) := by unfold flR; rw [if_neg (fun hh => c30 hh.2),f2]
   rw [hfl] at fin
   simp only [A48_rest,e2,e6,l0,SX,Nat.reduceEqDiff,↓reduceIte]
   refine (bit_spec aq m).mono ?_
   rintro _ Hx ⟨rfl,rfl⟩
   refine ⟨by simp only [echoOk,l0,SX,Nat.reduceEqDiff,↓reduceIte]; simp [AV.same,AV.same1],?_⟩
   simp only [e2,e6,bin_orU,s1,d22,d21,d30,SX,reduceCtorEq,Nat.reduceEqDiff,↓reduceIte]
   refine fin _ _ k1 h1 (by simp only [e2,SX,reduceCtorEq,Nat.reduceEqDiff,↓reduceIte]) (by simp only [e6,SX,reduceCtorEq,Nat.reduceEqDiff,↓reduceIte]) ?_
   simp only [Same4,e2,SX,reduceCtorEq,Nat.reduceEqDiff,↓reduceIte,and_self]
 ·have d21 : decide (21 < m) = false := decide_eq_false c21
  have hfl : flR a.fl m = orU a.fl (bitP m) := by unfold flR; rw [if_neg (fun hh => c21 hh.1),f2]
  rw [hfl] at fin
  simp only [A48_rest,e2,e6,l0,SX,Nat.reduceEqDiff,↓reduceIte]
  refine (bit_spec aq m).mono ?_
  rintro _ Hx ⟨rfl,rfl⟩
  refine ⟨by simp only [echoOk,l0,SX,Nat.reduceEqDiff,↓reduceIte]; simp [AV.same,AV.same1],?_⟩
  simp only [e2,e6,bin_orU,s1,d22,d21,SX,reduceCtorEq,Nat.reduceEqDiff,↓reduceIte]
  refine fin _ _ k1 h1 (by simp only [e2,SX,reduceCtorEq,Nat.reduceEqDiff,↓reduceIte]) (by simp only [e6,SX,reduceCtorEq,Nat.reduceEqDiff,↓reduceIte]) ?_
  simp only [Same4,e2,SX,reduceCtorEq,Nat.reduceEqDiff,↓reduceIte,and_self]
end
def longStep (a : At) (p : List Int) (rest : List (List Int)) : At × Nat :=
 (if (longP (p :: rest)).1.ok = true /\ fst0 p = 38 then { a with fk := (longP (p :: rest)).1.k,fn := (longP (p :: rest)).1.n } else if (longP (p :: rest)).1.ok = true then { a with bk := (longP (p :: rest)).1.k,bn := (longP (p :: rest)).1.n } else a,(longP (p :: rest)).2.toNat)
def stepR (a : At) (p : List Int) (rest : List (List Int)) : At × Nat :=
 if fst0 p = 38 \/ fst0 p = 48 then longStep a p rest
 else (restA (if fst0 p = 0 then At.zero else a) (if fst0 p = 4 /\ offOf p = true then 24 else fst0 p),0)
def applyRF : Nat -> At -> List (List Int) -> At
 | 0,a,_ => a
 | _ + 1,a,[] => a
 | f + 1,a,p :: rest => applyRF f (stepR a p rest).1 (rest.drop (stepR a p rest).2)
def applyRP (a : At) (L : List (List Int)) : At := if L = [] then At.zero else applyRF L.length a L
theorem applyRF_nil (f : Nat) (a : At) : applyRF f a [] = a := by cases f <;> rfl
section
variable {Q : Prog} (aq : ArQ Q) {H : AHeap}
include aq
set_option maxHeartbeats 16000000 in
theorem applyR_spec {a : At} {v : AV} {L : List (List Int)} (hv : IsL H v L) (hL : L.length <= 10000) (hp : ∀ p ∈ L,p.length <= 10000) (hf : Fr H) : FnTo Q 48 [a.val,v] H (fun r H' => r = (applyRP a L).val /\ Gr H H') := by
 refine fn_wp (aq.ho 48 rfl _) aq.q48 (by simp [A48]) ?_
 obtain ⟨H1,s1,h1,k1⟩ := (Hp.nil H hf).make a.cs 5
 obtain ⟨H2,s2,h2,k2⟩ := h1.make At.zero.cs 5
 have g2 : Gr H H2 := h2.gr (k1.trans k2)
 have hv2 := hv.grow hf g2
 have lv2 := hv2.len
 cases L with
 | nil =>
  obtain ⟨H3,s3,h3,k3,n3⟩ := h2.storeN (n := 5) (new := At.zero.cs) rfl rfl rfl
  have s3 : storeE H2 5 (.ptr H1.next 0) (.agg At.zero.cs) = some (.undef,H3) := s3
  have l3 : loadV H3 (some 5) (.ptr H1.next 0) = some At.zero.val := h3.loadN (List.mem_cons_self ..) rfl
  have d0 : decide ((([] : List (List Int)).length : Int) = 0) = true := rfl
  simp only [A48,box_at,z5l,run_box,run_allocL,s1,s2,lv2,d0,run_build0,s3,l3,resVal,resVals,ARes.val,SX,reduceCtorEq,Nat.reduceEqDiff,↓reduceIte]
  exact ⟨rfl,h3.gr ((k1.trans k2).trans k3)⟩
 | cons p0 L0 =>
 obtain ⟨L,hLe⟩ : ∃ L,p0 :: L0 = L := ⟨_,rfl⟩
 have hne : L ≠ [] := by rw [<- hLe]; simp
 rw [hLe] at hv hL hp hv2 lv2 ⊢
 have hres : applyRP a L = applyRF L.length a L := by unfold applyRP; rw [if_neg hne]
 have d0 : decide ((L.length : Int) = 0) = false := by
  simp only [decide_eq_false_iff_not]; intro hh
  exact hne (List.eq_nil_of_length_eq_zero (by omega))
 simp only [A48,box_at,z5l,run_box,run_allocL,s1,s2,lv2,d0,SX,Nat.reduceEqDiff,↓reduceIte]
 obtain ⟨I,hI⟩ : ∃ I : Nat -> Env -> AHeap -> Prop,∀ m e H',I m e H' ↔ (Keep H.next H H' /\ ∃ (i f : Nat) (a' : At),m = L.length - i /\ i <= L.length /\ L.length - i <= f /\ applyRF f a' (L.drop i) = applyRF L.length a L /\ Hp H.next H' (⟨H.next,5,a'.cs⟩ :: [⟨H1.next,5,At.zero.cs⟩]) /\ Env.get e 1 = v /\ Env.get e 2 = .ptr H.next 0 /\ Env.get e 4 = .ptr H1.next 0 /\ Env.get e 5 = .int .i64 i) := ⟨_,fun _ _ _ => Iff.rfl⟩
 refine loop_by I L.length ?_ ?_
 ·refine (hI _ _ _).2 ⟨k1.trans k2,0,L.length,a,rfl,by omega,by omega,rfl,h2.perm (List.Perm.swap _ _ _),?_⟩
  simp only [SX,Nat.reduceEqDiff,↓reduceIte]; rfl
 ·intro m e H4 hinv
  obtain ⟨k4,i,f,a',rfl,hi,hf4,hap,h4,e1,e2,e4,e5⟩ := (hI _ _ _).1 hinv
  have g4 : Gr H H4 := h4.gr k4
  have hv4 := hv.grow hf g4
  have lv4 := hv4.len
  by_cases d : (i : Int) < L.length
  ·obtain ⟨p,hpi⟩ : ∃ p,L[i]? = some p := ⟨_,List.getElem?_eq_getElem (by omega)⟩
   obtain ⟨rest,hrest⟩ : ∃ rest,L.drop (i + 1) = rest := ⟨_,rfl⟩
   have hdrop : L.drop i = p :: rest := by
    rw [List.drop_eq_getElem_cons (by omega),(List.getElem?_eq_some_iff.1 hpi).2,hrest]
   have hrl : rest.length = L.length - (i + 1) := by rw [<- hrest]; simp
   have hpl : p.length <= 10000 := hp p (List.mem_of_getElem? hpi)
   obtain ⟨f',rfl⟩ : ∃ f',f = f' + 1 := ⟨f - 1,by omega⟩
   rw [hdrop,applyRF] at hap
   obtain ⟨n,hn⟩ : ∃ n,fst0 p = n := ⟨_,rfl⟩
   have xi := hv4.at (i := (i : Int)) (by omega) (by omega) .i64
   obtain ⟨c,lc,hc⟩ := hv4.get (i := (i : Int)) (a := p) (by simpa using hpi)
   have lp := IsS.len hc
   have next : ∀ (e' : Env) (H' : AHeap) (a2 : At) (tk : Nat),stepR a' p rest = (a2,tk) -> tk <= rest.length -> Keep H.next H H' -> Hp H.next H' (⟨H.next,5,a2.cs⟩ :: [⟨H1.next,5,At.zero.cs⟩]) -> (Env.get e' 1 = v /\ Env.get e' 2 = .ptr H.next 0 /\ Env.get e' 4 = .ptr H1.next 0 /\ Env.get e' 5 = .int .i64 ((i + tk + 1 : Nat) : Int)) -> ∃ m',m' < L.length - i /\ I m' e' H' := by
    intro e' H' a2 tk hs htk kk hh he
    rw [hs] at hap
    refine ⟨L.length - (i + tk + 1),by omega,(hI _ _ _).2 ⟨kk,i + tk + 1,f',a2,rfl,by omega,by omega,?_,hh,he⟩⟩
    rw [<- hap,<- hrest,List.drop_drop]
    congr 2; omega
   have w0 : IntKind.wrap .i64 ((i : Int) + 1) = ((i + 0 + 1 : Nat) : Int) := by rw [wrapI64 (by omega) (by omega)]; rfl
   simp only [e1,e5,lv4,d,xi,lc,SX,Nat.reduceEqDiff,↓reduceIte]
   refine (part_spec aq hc).mono ?_
   rintro _ Hx ⟨rfl,hx⟩
   replace hx := hx.symm
   subst hx
   rw [hn]
   by_cases c0 : n = 0
   ·subst c0
    obtain ⟨H5,s5,h5,k5,n5⟩ := h4.storeN (n := 5) (new := At.zero.cs) rfl rfl rfl
    have s5 : storeE H4 5 (.ptr H.next 0) (.agg At.zero.cs) = some (.undef,H5) := s5
    simp only [e2,run_build0,s5,SX,reduceCtorEq,Nat.reduceEqDiff,↓reduceIte,Int.reduceEq]
    refine rest_wp aq (a := At.zero) (m := 0) h5 (by simp only [e2,SX,reduceCtorEq,Nat.reduceEqDiff,↓reduceIte]) (by simp only [SX,reduceCtorEq,Nat.reduceEqDiff,↓reduceIte]) ?_
    intro e' H6 k6 h6 se
    simp only [Same4,e1,e2,e4,e5,SX,reduceCtorEq,Nat.reduceEqDiff,↓reduceIte] at se
    obtain ⟨f1,f2,f4,f5⟩ := se
    simp only [f5,w0,SX,↓reduceIte]
    refine next _ H6 (restA At.zero 0) 0 (by unfold stepR; rw [hn]; rfl) (by omega) ((k4.trans k5).trans k6) h6 ?_
    simp only [f1,f2,f4,and_self,SX,Nat.reduceEqDiff,↓reduceIte]
   have c0' : decide (n = 0) = false := decide_eq_false c0
   by_cases c1 : n = 38 \/ n = 48
   ·have tk := long_tk p rest
    have hst : stepR a' p rest = longStep a' p rest := by unfold stepR; rw [hn,if_pos c1]
    unfold longStep at hst
    rw [hn] at hst
    have hc1 : ∀ (K : AV -> AHeap -> Prop),(∀ H',Gr H4 H' -> K (.tup [(longP (p :: rest)).1.col,.int .i64 (longP (p :: rest)).2,.bool (longP (p :: rest)).1.ok]) H') -> FnTo Q 73 [v,.int .i64 (i : Int)] H4 K := by
     intro K hK
     refine (longR_spec aq hv4 hL hdrop hpl h4.fr).mono ?_
     rintro r H' ⟨rfl,g⟩
     exact hK H' g
    obtain ⟨co,hco⟩ : ∃ co,(longP (p :: rest)).1 = co := ⟨_,rfl⟩
    obtain ⟨tkn,htk⟩ : ∃ t : Nat,(longP (p :: rest)).2 = t := ⟨(longP (p :: rest)).2.toNat,by omega⟩
    rw [hco,htk] at hst hc1
    rw [htk] at tk
    have wt : IntKind.wrap .i64 ((i : Int) + tkn) = ((i + tkn : Nat) : Int) := by rw [wrapI64 (by omega) (by omega)]; rfl
    have w1 : IntKind.wrap .i64 (((i + tkn : Nat) : Int) + 1) = ((i + tkn + 1 : Nat) : Int) := by rw [wrapI64 (by omega) (by omega)]; rfl
    have tail : ∀ H5,Gr H4 H5 -> ∃ H6,H5.alloc (.row ⟨[.int .u8 0,.int .u32 0],0,false,true,0⟩) = H6 /\ ∃ H7,storeE H6 2 (.ptr H5.next 0) co.col = some (.undef,H7) /\ loadV H7 (some 2) (.ptr H5.next 0) = some co.col /\ Keep H.next H H7 /\ Hp H.next H7 (⟨H.next,5,a'.cs⟩ :: [⟨H1.next,5,At.zero.cs⟩]) ∧
      (∃ H8,storeE H7 2 (.ptr H.next 1) co.col = some (.undef,H8) /\ Keep H.next H H8 /\ Hp H.next H8 (⟨H.next,5,({ a' with fk := co.k,fn := co.n } : At).cs⟩ :: [⟨H1.next,5,At.zero.cs⟩])) ∧
      (∃ H8,storeE H7 2 (.ptr H.next 3) co.col = some (.undef,H8) /\ Keep H.next H H8 /\ Hp H.next H8 (⟨H.next,5,({ a' with bk := co.k,bn := co.n } : At).cs⟩ :: [⟨H1.next,5,At.zero.cs⟩])) := by
     intro H5 g5
     have h5 := h4.keep g5.keep g5.next g5.fr
     have k5 : Keep H.next H H5 := k4.trans (g5.keep.le g4.next)
     obtain ⟨H6,s6,h6,k6⟩ := h5.make [.int .u8 0,.int .u32 0] 2
     obtain ⟨H7,s7,h7,k7,n7⟩ := h6.storeN (n := 2) (new := [.int .u8 co.k,.int .u32 co.n]) rfl rfl rfl
     obtain ⟨H8,s8,h8,k8,n8⟩ := (h7.drop).storeO (a := [.int .u16 a'.fl]) (x := [.int .u8 a'.fk,.int .u32 a'.fn]) (c := [.int .u8 a'.bk,.int .u32 a'.bn]) (o := 1) (n := 2) rfl rfl rfl (new := [.int .u8 co.k,.int .u32 co.n]) rfl rfl
     obtain ⟨H9,s9,h9,k9,n9⟩ := (h7.drop).storeO (a := [.int .u16 a'.fl,.int .u8 a'.fk,.int .u32 a'.fn]) (x := [.int .u8 a'.bk,.int .u32 a'.bn]) (c := []) (o := 3) (n := 2) rfl rfl rfl (new := [.int .u8 co.k,.int .u32 co.n]) rfl rfl
     exact ⟨H6,s6,H7,s7,h7.loadN (List.mem_cons_self ..) rfl,(k5.trans k6).trans k7,h7.drop,⟨H8,s8,((k5.trans k6).trans k7).trans k8,h8⟩,⟨H9,s9,((k5.trans k6).trans k7).trans k9,h9⟩⟩
    by_cases c38 : n = 38
    ·have c38' : decide (n = 38) = true := decide_eq_true c38
     have c48' : decide (n = 48) = false := decide_eq_false (by omega)
     simp only [e1,e5,c0',c38',SX,Nat.reduceEqDiff,↓reduceIte]
     refine hc1 _ ?_
     intro H5 g5
     obtain ⟨H6,s6,H7,s7,l7,k7,h7,⟨H8,s8,k8,h8⟩,_⟩ := tail H5 g5
     cases hok : co.ok with
     | true =>
      simp only [e2,e5,ex30,ex31,ex32,c38',c48',run_allocL,s6,s7,l7,s8,wt,w1,SX,reduceCtorEq,Nat.reduceEqDiff,↓reduceIte]
      refine next _ H8 _ tkn (by rw [hst,if_pos ⟨hok,c38⟩]; rfl) (by omega) k8 h8 ?_
      simp only [e1,e2,e4,and_self,SX,reduceCtorEq,Nat.reduceEqDiff,↓reduceIte]
     | false =>
      simp only [e5,ex30,ex31,ex32,run_allocL,s6,s7,wt,w1,SX,reduceCtorEq,Nat.reduceEqDiff,↓reduceIte]
      refine next _ H7 _ tkn (by rw [hst,if_neg (by simp [hok]),if_neg (by simp [hok])]; rfl) (by omega) k7 h7 ?_
      simp only [e1,e2,e4,and_self,SX,reduceCtorEq,Nat.reduceEqDiff,↓reduceIte]
    ·have c38' : decide (n = 38) = false := decide_eq_false c38
     have c48' : decide (n = 48) = true := decide_eq_true (c1.resolve_left c38)
     simp only [e1,e5,c0',c38',c48',SX,Nat.reduceEqDiff,↓reduceIte]
     refine hc1 _ ?_
     intro H5 g5
     obtain ⟨H6,s6,H7,s7,l7,k7,h7,_,⟨H8,s8,k8,h8⟩⟩ := tail H5 g5
     cases hok : co.ok with
     | true =>
      simp only [e2,e5,ex30,ex31,ex32,c38',c48',run_allocL,s6,s7,l7,s8,wt,w1,SX,reduceCtorEq,Nat.reduceEqDiff,↓reduceIte]
      refine next _ H8 _ tkn (by rw [hst,if_neg (fun hh => c38 hh.2),if_pos hok]; rfl) (by omega) k8 h8 ?_
      simp only [e1,e2,e4,and_self,SX,reduceCtorEq,Nat.reduceEqDiff,↓reduceIte]
     | false =>
      simp only [e5,ex30,ex31,ex32,run_allocL,s6,s7,wt,w1,SX,reduceCtorEq,Nat.reduceEqDiff,↓reduceIte]
      refine next _ H7 _ tkn (by rw [hst,if_neg (by simp [hok]),if_neg (by simp [hok])]; rfl) (by omega) k7 h7 ?_
      simp only [e1,e2,e4,and_self,SX,reduceCtorEq,Nat.reduceEqDiff,↓reduceIte]
   ·have c38' : decide (n = 38) = false := decide_eq_false (fun h => c1 (.inl h))
    have c48' : decide (n = 48) = false := decide_eq_false (fun h => c1 (.inr h))
    have fin : ∀ (m : Int) (e' : Env),m = (if n = 4 /\ offOf p = true then 24 else n) -> Env.get e' 1 = v -> Env.get e' 2 = .ptr H.next 0 -> Env.get e' 4 = .ptr H1.next 0 -> Env.get e' 5 = .int .i64 i -> Env.get e' 6 = .int .i64 m -> ∀ {K : PostC},(∀ e'' H6,Keep H.next H H6 -> Hp H.next H6 (⟨H.next,5,(restA a' m).cs⟩ :: [⟨H1.next,5,At.zero.cs⟩]) -> Env.get e'' 1 = v -> Env.get e'' 2 = .ptr H.next 0 -> Env.get e'' 4 = .ptr H1.next 0 -> Env.get e'' 5 = .int .i64 i -> K .normal e'' H6) -> ACode.wp Q A48_rest K e' H4 := by
     intro m e' hm f1 f2 f4 f5 f6 K hK
     refine rest_wp aq (a := a') (m := m) h4 f2 f6 ?_
     intro e'' H6 k6 h6 se
     obtain ⟨q1,q2,q4,q5⟩ := se
     exact hK e'' H6 (k4.trans k6) h6 (q1.trans f1) (q2.trans f2) (q4.trans f4) (q5.trans f5)
    have hst : ∀ m,m = (if n = 4 /\ offOf p = true then 24 else n) -> stepR a' p rest = (restA a' m,0) := by
     intro m hm
     unfold stepR; rw [hn,if_neg c1,if_neg c0,hm]
    by_cases c4 : n = 4
    ·have c4' : decide (n = 4) = true := decide_eq_true c4
     by_cases cl : 1 < p.length
     ·obtain ⟨x,y,t,rfl⟩ : ∃ x y t,p = x :: y :: t := by
       match p,cl with
       | x :: y :: t,_ => exact ⟨x,y,t,rfl⟩
      have dl : decide ((1 : Int) < ((x :: y :: t).length : Nat)) = true := by simp only [decide_eq_true_eq]; simp; omega
      have x1 := IsS.at hc (i := 1) (by omega) (by simp; omega) .i64
      have l1 := IsS.int hc (i := 1) (a := y) rfl
      by_cases cy : y = 0
      ·have dy : decide (y = 0) = true := decide_eq_true cy
       have hm : (24 : Int) = (if n = 4 /\ offOf (x :: y :: t) = true then 24 else n) := by rw [if_pos ⟨c4,by simp [offOf,cy]⟩]
       simp only [e1,e5,c0',c38',c48',c4',xi,lc,lp,dl,x1,l1,dy,SX,Nat.reduceEqDiff,↓reduceIte]
       refine fin 24 _ hm (by simp only [e1,SX,Nat.reduceEqDiff,↓reduceIte]) (by simp only [e2,SX,Nat.reduceEqDiff,↓reduceIte]) (by simp only [e4,SX,Nat.reduceEqDiff,↓reduceIte]) (by simp only [e5,SX,Nat.reduceEqDiff,↓reduceIte]) (by simp only [SX,↓reduceIte]) ?_
       intro e' H6 k6 h6 f1 f2 f4 f5
       simp only [f5,w0,SX,↓reduceIte]
       refine next _ H6 _ 0 (hst 24 hm) (by omega) k6 h6 ?_
       simp only [f1,f2,f4,and_self,SX,Nat.reduceEqDiff,↓reduceIte]
      ·have dy : decide (y = 0) = false := decide_eq_false cy
       have hm : n = (if n = 4 /\ offOf (x :: y :: t) = true then 24 else n) := by rw [if_neg (fun hh => by have := hh.2; simp [offOf,cy] at this)]
       simp only [e1,e5,c0',c38',c48',c4',xi,lc,lp,dl,x1,l1,dy,SX,Nat.reduceEqDiff,↓reduceIte]
       refine fin n _ hm (by simp only [e1,SX,Nat.reduceEqDiff,↓reduceIte]) (by simp only [e2,SX,Nat.reduceEqDiff,↓reduceIte]) (by simp only [e4,SX,Nat.reduceEqDiff,↓reduceIte]) (by simp only [e5,SX,Nat.reduceEqDiff,↓reduceIte]) (by simp only [SX,Nat.reduceEqDiff,↓reduceIte]) ?_
       intro e' H6 k6 h6 f1 f2 f4 f5
       simp only [f5,w0,SX,↓reduceIte]
       refine next _ H6 _ 0 (hst n hm) (by omega) k6 h6 ?_
       simp only [f1,f2,f4,and_self,SX,Nat.reduceEqDiff,↓reduceIte]
     ·have dl : decide ((1 : Int) < (p.length : Nat)) = false := by simp only [decide_eq_false_iff_not]; omega
      have hm : n = (if n = 4 /\ offOf p = true then 24 else n) := by rw [if_neg (fun hh => by have := hh.2; simp only [offOf,decide_eq_true_eq] at this; exact cl this.1)]
      simp only [e1,e5,c0',c38',c48',c4',xi,lc,lp,dl,SX,Nat.reduceEqDiff,↓reduceIte]
      refine fin n _ hm (by simp only [e1,SX,Nat.reduceEqDiff,↓reduceIte]) (by simp only [e2,SX,Nat.reduceEqDiff,↓reduceIte]) (by simp only [e4,SX,Nat.reduceEqDiff,↓reduceIte]) (by simp only [e5,SX,Nat.reduceEqDiff,↓reduceIte]) (by simp only [SX,Nat.reduceEqDiff,↓reduceIte]) ?_
      intro e' H6 k6 h6 f1 f2 f4 f5
      simp only [f5,w0,SX,↓reduceIte]
      refine next _ H6 _ 0 (hst n hm) (by omega) k6 h6 ?_
      simp only [f1,f2,f4,and_self,SX,Nat.reduceEqDiff,↓reduceIte]
    ·have c4' : decide (n = 4) = false := decide_eq_false c4
     have hm : n = (if n = 4 /\ offOf p = true then 24 else n) := by rw [if_neg (fun hh => c4 hh.1)]
     simp only [c0',c38',c48',c4',SX,Nat.reduceEqDiff,↓reduceIte]
     refine fin n _ hm (by simp only [e1,SX,Nat.reduceEqDiff,↓reduceIte]) (by simp only [e2,SX,Nat.reduceEqDiff,↓reduceIte]) (by simp only [e4,SX,Nat.reduceEqDiff,↓reduceIte]) (by simp only [e5,SX,Nat.reduceEqDiff,↓reduceIte]) (by simp only [SX,Nat.reduceEqDiff,↓reduceIte]) ?_
     intro e' H6 k6 h6 f1 f2 f4 f5
     simp only [f5,w0,SX,↓reduceIte]
     refine next _ H6 _ 0 (hst n hm) (by omega) k6 h6 ?_
     simp only [f1,f2,f4,and_self,SX,Nat.reduceEqDiff,↓reduceIte]
  ·have hil : i = L.length := by omega
   rw [hil,List.drop_length,applyRF_nil] at hap
   have ld : loadV H4 (some 5) (.ptr H.next 0) = some a'.val := h4.loadN (List.mem_cons_self ..) rfl
   have h4' : Hp H.next H4 (⟨H1.next,5,At.zero.cs⟩ :: ⟨H.next,5,a'.cs⟩ :: []) := h4.perm (List.Perm.swap _ _ _)
   obtain ⟨H5,s5,h5,k5,n5⟩ := h4'.storeN (n := 5) (new := a'.cs) rfl rfl rfl
   have s5 : storeE H4 5 (.ptr H1.next 0) a'.val = some (.undef,H5) := s5
   have l5 : loadV H5 (some 5) (.ptr H1.next 0) = some a'.val := h5.loadN (List.mem_cons_self ..) rfl
   simp only [e1,e2,e4,e5,lv4,d,ld,s5,l5,resVal,resVals,ARes.val,SX,reduceCtorEq,Nat.reduceEqDiff,↓reduceIte]
   rw [hres,<- hap]
   exact ⟨rfl,h5.gr (k4.trans k5)⟩
end
theorem wrapU16 {x : Int} (h0 : 0 <= x) (h1 : x < 65536) : IntKind.wrap .u16 x = x := by
 have hb : (2 ^ IntKind.u16.bits : Int) = 65536 := rfl
 have hs : IntKind.u16.signed = false := rfl
 simp only [IntKind.wrap,hb,hs]
 simp
 omega
theorem orU_eq (a b : Int) : orU a b = ((BitVec.ofInt 16 a ||| BitVec.ofInt 16 b).toNat : Int) := wrapU16 (by omega) (by have := (BitVec.ofInt 16 a ||| BitVec.ofInt 16 b).isLt; omega)
theorem notU_eq (a b : Int) : notU a b = ((BitVec.ofInt 16 a &&& ~~~BitVec.ofInt 16 b).toNat : Int) := wrapU16 (by omega) (by have := (BitVec.ofInt 16 a &&& ~~~BitVec.ofInt 16 b).isLt; omega)
theorem orU_ok (a b : Int) : FlOk (orU a b) := by rw [orU_eq]; exact ⟨by omega,by have := (BitVec.ofInt 16 a ||| BitVec.ofInt 16 b).isLt; omega⟩
theorem notU_ok (a b : Int) : FlOk (notU a b) := by rw [notU_eq]; exact ⟨by omega,by have := (BitVec.ofInt 16 a &&& ~~~BitVec.ofInt 16 b).isLt; omega⟩
theorem of_id {a : Int} (h : FlOk a) : ((BitVec.ofInt 16 a).toNat : Int) = a := by
 obtain ⟨h0,h1⟩ := h
 rw [BitVec.toNat_ofInt]
 omega
theorem of_nat (y : BitVec 16) : BitVec.ofInt 16 ((y.toNat : Nat) : Int) = y := by
 apply BitVec.eq_of_toNat_eq
 rw [BitVec.toNat_ofInt]
 have := y.isLt
 omega
theorem or0 {fl : Int} (h : FlOk fl) : orU fl 0 = fl := by
 rw [orU_eq]
 have : BitVec.ofInt 16 0 = 0#16 := rfl
 rw [this,BitVec.or_zero,of_id h]
theorem not0 {fl : Int} (h : FlOk fl) : notU fl 0 = fl := by
 rw [notU_eq]
 have : ~~~(BitVec.ofInt 16 0) = BitVec.allOnes 16 := rfl
 rw [this,BitVec.and_allOnes,of_id h]
theorem not21 (fl : Int) : notU (notU fl 2) 1 = notU (notU fl 1) 2 := by
 rw [notU_eq fl 2,notU_eq fl 1,notU_eq,notU_eq,of_nat,of_nat,BitVec.and_assoc,BitVec.and_assoc,BitVec.and_comm (~~~BitVec.ofInt 16 2)]
theorem p1 : pow2 1 = 2 := rfl
theorem p2 : pow2 2 = 4 := rfl
theorem p3 : pow2 3 = 8 := rfl
theorem p4 : pow2 4 = 16 := rfl
theorem p5 : pow2 5 = 32 := rfl
theorem p6 : pow2 6 = 64 := rfl
theorem p7 : pow2 7 = 128 := rfl
theorem flagP_other {fl n : Int} {off : Bool} (h : ¬ (n = 1 \/ n = 2 \/ n = 3 \/ n = 4 \/ n = 5 \/ n = 7 \/ n = 8 \/ n = 9)) (h2 : ¬ (n = 22 \/ n = 23 \/ n = 24 \/ n = 25 \/ n = 27 \/ n = 28 \/ n = 29)) : flagP fl n off = (fl,false) := by
 unfold flagP zflags
 simp only [flagL]
 rw [if_neg (by rintro (⟨h,_⟩ | ⟨h,_⟩) <;> omega),if_neg (by omega),if_neg (by rintro (⟨h,_⟩ | ⟨h,_⟩) <;> omega),if_neg (by omega),if_neg (by rintro (⟨h,_⟩ | ⟨h,_⟩) <;> omega),if_neg (by omega),if_neg (by rintro (⟨h,_⟩ | ⟨h,_⟩) <;> omega),if_neg (by omega),if_neg (by rintro (⟨h,_⟩ | ⟨h,_⟩) <;> omega),if_neg (by omega),if_neg (by rintro (⟨h,_⟩ | ⟨h,_⟩) <;> omega),if_neg (by omega),if_neg (by rintro (⟨h,_⟩ | ⟨h,_⟩) <;> omega),if_neg (by omega),if_neg (by rintro (⟨h,_⟩ | ⟨h,_⟩) <;> omega),if_neg (by omega)]
theorem bit_other {n : Int} (h : ¬ (n = 1 \/ n = 2 \/ n = 3 \/ n = 4 \/ n = 5 \/ n = 7 \/ n = 8 \/ n = 9)) : bitP n = 0 := by
 unfold bitP
 rw [if_neg (by omega),if_neg (by omega),if_neg (by omega),if_neg (by omega),if_neg (by omega),if_neg (by omega),if_neg (by omega),if_neg (by omega)]
def mOf (n : Int) (off : Bool) : Int := if n = 4 /\ off = true then 24 else n
set_option maxRecDepth 10000 in
theorem flag_core {fl n : Int} {off : Bool} (h : FlOk fl) : (flagP fl n off = (flR fl (mOf n off),true) /\ shortP (mOf n off) = none /\ shortP (IntKind.wrap .i64 (mOf n off - 10)) = none) \/ (flagP fl n off = (flR fl (mOf n off),false) /\ mOf n off = n) := by
 by_cases c : n = 1 \/ n = 2 \/ n = 3 \/ n = 4 \/ n = 5 \/ n = 7 \/ n = 8 \/ n = 9
 ·refine .inl ?_
  rcases c with rfl | rfl | rfl | rfl | rfl | rfl | rfl | rfl
  case inr.inr.inr.inl =>
   cases off with
   | true =>
    have hm : mOf 4 true = 24 := rfl
    rw [hm]
    refine ⟨?_,rfl,rfl⟩
    have hb : bitP 24 = 0 := rfl
    have : flR fl 24 = notU fl 8 := by unfold flR fl2; rw [if_pos (by omega),if_neg (by omega),hb,or0 h]; rfl
    rw [this]
    simp [flagP,zflags,flagL,fin22,p3]
   | false =>
    have hm : mOf 4 false = 4 := rfl
    rw [hm]
    refine ⟨?_,rfl,rfl⟩
    simp [flagP,zflags,flagL,fin22,flR,fl2,bitP,p3]
  all_goals
   refine ⟨?_,rfl,rfl⟩
   simp [flagP,zflags,flagL,fin22,mOf,flR,fl2,bitP,p0,p1,p2,p4,p5,p6,p7]
 ·have c4 : n ≠ 4 := by omega
  have hm : mOf n off = n := by unfold mOf; rw [if_neg (fun hh => c4 hh.1)]
  have hb := bit_other c
  rw [hm]
  by_cases c2 : n = 22 \/ n = 23 \/ n = 24 \/ n = 25 \/ n = 27 \/ n = 28 \/ n = 29
  ·refine .inl ⟨?_,?_,?_⟩
   ·have hR : flR fl n = notU (if n = 22 then notU fl 1 else fl) (bitP (n - 20)) := by
     unfold flR fl2; rw [if_pos (by omega),hb,or0 h]
    rw [hR]
    rcases c2 with rfl | rfl | rfl | rfl | rfl | rfl | rfl
    ·simp [flagP,zflags,flagL,fin22,bitP,p1,not21]
    all_goals simp [flagP,zflags,flagL,fin22,bitP,p2,p3,p4,p5,p6,p7]
   ·rcases c2 with rfl | rfl | rfl | rfl | rfl | rfl | rfl <;> rfl
   ·rcases c2 with rfl | rfl | rfl | rfl | rfl | rfl | rfl <;> rfl
  ·refine .inr ⟨?_,rfl⟩
   rw [flagP_other c c2]
   have : flR fl n = fl := by
    unfold flR fl2
    rw [hb,or0 h,if_neg (show ¬ n = 22 by omega)]
    split
    ·rw [bit_other (by omega),not0 h]
    ·rfl
   rw [this]
theorem step_eq {a : At} (h : FlOk a.fl) (p : List Int) (rest : List (List Int)) : stepR a p rest = stepA a p rest := by
 unfold stepR stepA longStep
 by_cases c1 : fst0 p = 38 \/ fst0 p = 48
 ·rw [if_pos c1,if_neg (show ¬ fst0 p = 0 by omega),if_pos c1]
 rw [if_neg c1]
 by_cases c0 : fst0 p = 0
 ·rw [if_pos c0,if_pos c0,if_neg (by omega),c0]; rfl
 rw [if_neg c0,if_neg c0,if_neg c1]
 have hm : (if fst0 p = 4 /\ offOf p = true then 24 else fst0 p) = mOf (fst0 p) (offOf p) := rfl
 rw [hm]
 rcases flag_core (n := fst0 p) (off := offOf p) h with ⟨h1,h2,h3⟩ | ⟨h1,h2⟩
 ·rw [h1,if_pos rfl]
  unfold restA
  rw [shortA_none h2,shortB_none h3]
 ·rw [h1,if_neg (by simp)]
  unfold restA
  rw [h2]
theorem flagL_ok {fl n : Int} {off : Bool} (h : FlOk fl) : ∀ (zs : List Int) (i : Nat),FlOk (flagL fl n off zs i).1
 | [],_ => h
 | k :: zs,i => by
  have f22 : ∀ x : Int,FlOk x -> FlOk (fin22 n x) := fun x hx => by
   unfold fin22; split
   ·exact notU_ok _ _
   ·exact hx
  unfold flagL
  split
  ·exact f22 _ (notU_ok _ _)
  ·split
   ·exact f22 _ (orU_ok _ _)
   ·exact flagL_ok h zs (i + 1)
theorem stepA_ok {a : At} (h : FlOk a.fl) (p : List Int) (rest : List (List Int)) : FlOk (stepA a p rest).1.fl := by
 unfold stepA
 have hf := flagL_ok (n := fst0 p) (off := offOf p) h zflags 0
 repeat' split
 all_goals first | exact h | exact hf | exact ⟨by decide,by decide⟩
theorem applyRF_eq : ∀ (f : Nat) {a : At} (h : FlOk a.fl) (L : List (List Int)),applyRF f a L = applyF f a L
 | 0,a,_,_ => rfl
 | f + 1,a,h,[] => rfl
 | f + 1,a,h,p :: rest => by
  unfold applyRF applyF
  rw [step_eq h]
  exact applyRF_eq f (stepA_ok h p rest) _
theorem applyRP_eq {a : At} (h : FlOk a.fl) (L : List (List Int)) : applyRP a L = applyP a L := by
 unfold applyRP applyP
 rw [applyRF_eq _ h]
end Go.Proofs.YtfbcgjpblomckaaDoor.AM
