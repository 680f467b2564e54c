import Derived.Test.YtfbcgjpblomckaaDoorAtT
set_option linter.unusedVariables false
set_option linter.unusedSimpArgs false
namespace Go.Proofs.YtfbcgjpblomckaaDoor.AM
open Go
theorem wrapNat {n : Nat} (h : n < 9223372036854775808) : IntKind.wrap .i64 (n : Int) = n := wrapI64 (by omega) (by omega)
theorem Hp.srcOne {base : Nat} {H : AHeap} {l : List Cel} (h : Hp base H l) {N k : Nat} {v : AV} (hx : (⟨N,k,[v]⟩ : Cel) ∈ l) (c : Nat) : srcCells H 1 (.slc N 0 1 c) = some (1,[v]) :=
 h.src (k := 1) (pre := []) (post := []) (ys := [v]) hx rfl rfl (by omega)
structure Ce where
 r : Int
 w : Int
 a : At
def Ce.cs (c : Ce) : List AV := .int .i32 c.r :: .int .u8 c.w :: c.a.cs
def blankC (a : At) : Ce := ⟨32,0,a⟩
def rowV (l : List Ce) : List AV := l.flatMap Ce.cs
def partsP (l : List Ce) (x : Nat) : List Ce :=
 match l[x]? with
 | some c => if 0 < x /\ c.w = 2 then (l.set (x - 1) (blankC (l.getD (x - 1) (blankC At.zero)).a)).set x (blankC c.a) else l
 | none => l
def writeP (l : List Ce) (x : Nat) (r : Int) (wide : Bool) (a : At) : List Ce :=
 if wide = true then ((partsP (partsP l x) (x + 2)).set x ⟨r,1,a⟩).set (x + 1) ⟨r,2,a⟩ else (partsP (partsP l x) (x + 1)).set x ⟨r,0,a⟩
theorem parts_len (l : List Ce) (x : Nat) : (partsP l x).length = l.length := by
 unfold partsP
 split
 ·split <;> simp
 ·rfl
theorem write_len (l : List Ce) (x : Nat) (r : Int) (wide : Bool) (a : At) : (writeP l x r wide a).length = l.length := by
 unfold writeP
 split <;> simp [parts_len]
def WholeL (l : List Ce) : Prop := ∀ (i : Nat) (c : Ce),l[i]? = some c -> c.w = 0 \/ (c.w = 1 /\ ∃ d,l[i + 1]? = some d /\ d.w = 2) \/ (c.w = 2 /\ ∃ (j : Nat) (d : Ce),i = j + 1 /\ l[j]? = some d /\ d.w = 1)
theorem whole_blank (n : Nat) (a : At) : WholeL (List.replicate n (blankC a)) := by
 intro i c h
 rw [List.getElem?_replicate] at h
 split at h
 ·obtain rfl := Option.some.inj h; exact .inl rfl
 ·cases h
theorem parts_whole {l : List Ce} (h : WholeL l) (x : Nat) : WholeL (partsP l x) /\ ∀ c,(partsP l x)[x]? = some c -> 0 < x -> c.w ≠ 2 := by
 unfold partsP
 cases hx : l[x]? with
 | none => exact ⟨h,fun c hc => by rw [hx] at hc; cases hc⟩
 | some c0 =>
  simp only
  by_cases hc : 0 < x /\ c0.w = 2
  ·rw [if_pos hc]
   obtain ⟨x0,w2⟩ := hc
   obtain ⟨y,rfl⟩ : ∃ y,x = y + 1 := ⟨x - 1,by omega⟩
   have hlt : y + 1 < l.length := (List.getElem?_eq_some_iff.1 hx).1
   have e1 : y + 1 - 1 = y := by omega
   rw [e1]
   generalize hb1 : blankC (l.getD y (blankC At.zero)).a = b1
   generalize hb2 : blankC c0.a = b2
   have w1 : b1.w = 0 := by rw [<- hb1]; rfl
   have w0 : b2.w = 0 := by rw [<- hb2]; rfl
   have get : ∀ i,((l.set y b1).set (y + 1) b2)[i]? = if i = y + 1 then some b2 else if i = y then some b1 else l[i]? := by
    intro i
    rw [List.getElem?_set,List.getElem?_set]
    by_cases c1 : i = y + 1
    ·subst c1; simp [hlt]
    ·rw [if_neg (fun e => c1 e.symm),if_neg c1]
     by_cases c2 : i = y
     ·subst c2; simp; omega
     ·rw [if_neg (fun e => c2 e.symm),if_neg c2]
   refine ⟨fun i c hi => ?_,fun c hc _ => ?_⟩
   ·rw [get] at hi
    by_cases c1 : i = y + 1
    ·rw [if_pos c1] at hi; obtain rfl := Option.some.inj hi; exact .inl w0
    rw [if_neg c1] at hi
    by_cases c2 : i = y
    ·rw [if_pos c2] at hi; obtain rfl := Option.some.inj hi; exact .inl w1
    rw [if_neg c2] at hi
    rcases h i c hi with g | ⟨g,d,g1,g2⟩ | ⟨g,j,d,rfl,g1,g2⟩
    ·exact .inl g
    ·refine .inr (.inl ⟨g,d,?_,g2⟩)
     rw [get]
     by_cases c3 : i + 1 = y + 1
     ·omega
     rw [if_neg c3]
     by_cases c4 : i + 1 = y
     ·exfalso
      rw [c4] at g1
      rcases h (y + 1) c0 hx with q | ⟨q,_⟩ | ⟨_,j,d',e,q1,q2⟩
      ·omega
      ·omega
      ·obtain rfl : j = y := by omega
       rw [g1] at q1; obtain rfl := Option.some.inj q1; omega
     ·rw [if_neg c4]; exact g1
    ·refine .inr (.inr ⟨g,j,d,rfl,?_,g2⟩)
     rw [get]
     by_cases c3 : j = y + 1
     ·exfalso
      subst c3
      rw [g1] at hx; obtain rfl := Option.some.inj hx; omega
     rw [if_neg c3,if_neg (by omega)]; exact g1
   ·rw [get,if_pos rfl] at hc
    obtain rfl := Option.some.inj hc
    omega
  ·rw [if_neg hc]
   refine ⟨h,fun c hc' x0 => ?_⟩
   rw [hx] at hc'; obtain rfl := Option.some.inj hc'
   exact fun e => hc ⟨x0,e⟩
theorem parts_keep {l : List Ce} (h : WholeL l) {x y : Nat} (hy : y < x) {c : Ce} (hc : (partsP l x)[y]? = some c) (hw : c.w = 2) : ∃ d,l[y]? = some d /\ d.w = 2 := by
 unfold partsP at hc
 cases hx : l[x]? with
 | none => rw [hx] at hc; exact ⟨c,hc,hw⟩
 | some c0 =>
  rw [hx] at hc
  simp only at hc
  split at hc
  ·rw [List.getElem?_set,List.getElem?_set] at hc
   rw [if_neg (by omega)] at hc
   by_cases c2 : x - 1 = y
   ·rw [if_pos c2] at hc
    split at hc
    ·obtain rfl := Option.some.inj hc; cases hw
    ·cases hc
   ·rw [if_neg c2] at hc; exact ⟨c,hc,hw⟩
  ·exact ⟨c,hc,hw⟩
theorem write_whole {l : List Ce} (h : WholeL l) (x : Nat) (r : Int) (wide : Bool) (a : At) (hx : x + (if wide = true then 2 else 1) <= l.length) : WholeL (writeP l x r wide a) := by
 obtain ⟨h1,p1⟩ := parts_whole h x
 obtain ⟨n,hn⟩ : ∃ n : Nat,(if wide = true then 2 else 1) = n := ⟨_,rfl⟩
 rw [hn] at hx
 have hn0 : 0 < n := by rw [<- hn]; split <;> omega
 obtain ⟨h2,p2⟩ := parts_whole h1 (x + n)
 generalize hL : partsP (partsP l x) (x + n) = L at h2 p2
 have hlen : L.length = l.length := by rw [<- hL,parts_len,parts_len]
 have q1 : ∀ c,L[x]? = some c -> 0 < x -> c.w ≠ 2 := fun c hc x0 hw => by
  rw [<- hL] at hc
  obtain ⟨d,hd,hdw⟩ := parts_keep h1 (by omega) hc hw
  exact p1 d hd x0 hdw
 have q2 : ∀ c,L[x + n]? = some c -> c.w ≠ 2 := fun c hc => p2 c hc (by omega)
 have other : ∀ (L' : List Ce),(∀ i,(i < x \/ x + n <= i) -> L'[i]? = L[i]?) -> ∀ (i : Nat) (c : Ce),(i < x \/ x + n <= i) -> L'[i]? = some c -> c.w = 0 \/ (c.w = 1 /\ ∃ d,L'[i + 1]? = some d /\ d.w = 2) \/ (c.w = 2 /\ ∃ (j : Nat) (d : Ce),i = j + 1 /\ L'[j]? = some d /\ d.w = 1) := by
  intro L' hs i c hi hc
  rw [hs i hi] at hc
  rcases h2 i c hc with g | ⟨g,d,g1,g2⟩ | ⟨g,j,d,rfl,g1,g2⟩
  ·exact .inl g
  ·by_cases hi1 : i + 1 < x \/ x + n <= i + 1
   ·exact .inr (.inl ⟨g,d,by rw [hs _ hi1]; exact g1,g2⟩)
   ·exfalso
    obtain rfl : x = i + 1 := by omega
    exact q1 d g1 (by omega) g2
  ·by_cases hj : j < x \/ x + n <= j
   ·exact .inr (.inr ⟨g,j,d,rfl,by rw [hs _ hj]; exact g1,g2⟩)
   ·exfalso
    have e : j + 1 = x + n := by omega
    rw [e] at hc
    exact q2 c hc g
 unfold writeP
 cases wide with
 | false =>
  obtain rfl : n = 1 := by rw [<- hn]; rfl
  rw [if_neg (by simp),hL]
  intro i c hc
  by_cases c1 : i = x
  ·subst c1
   rw [List.getElem?_set,if_pos rfl,if_pos (by omega)] at hc
   obtain rfl := Option.some.inj hc
   exact .inl rfl
  ·exact other _ (fun j hj => by rw [List.getElem?_set,if_neg (by omega)]) i c (by omega) hc
 | true =>
  obtain rfl : n = 2 := by rw [<- hn]; rfl
  rw [if_pos rfl,hL]
  have get : ∀ i,((L.set x ⟨r,1,a⟩).set (x + 1) ⟨r,2,a⟩)[i]? = if i = x + 1 then some ⟨r,2,a⟩ else if i = x then some ⟨r,1,a⟩ else L[i]? := by
   intro i
   rw [List.getElem?_set,List.getElem?_set]
   by_cases c1 : i = x + 1
   ·subst c1; simp; omega
   ·rw [if_neg (fun e => c1 e.symm),if_neg c1]
    by_cases c2 : i = x
    ·subst c2; simp; omega
    ·rw [if_neg (fun e => c2 e.symm),if_neg c2]
  intro i c hc
  by_cases c1 : i = x + 1
  ·subst c1
   rw [get,if_pos rfl] at hc
   obtain rfl := Option.some.inj hc
   exact .inr (.inr ⟨rfl,x,⟨r,1,a⟩,rfl,by rw [get,if_neg (by omega),if_pos rfl],rfl⟩)
  by_cases c2 : i = x
  ·subst c2
   rw [get,if_neg (by omega),if_pos rfl] at hc
   obtain rfl := Option.some.inj hc
   exact .inr (.inl ⟨rfl,⟨r,2,a⟩,by rw [get,if_pos rfl],rfl⟩)
  ·exact other _ (fun j hj => by rw [get,if_neg (by omega),if_neg (by omega)]) i c (by omega) hc
def ofB (mid : Nat) : Int := if IntKind.wrap .i64 (((BitVec.ofInt 64 ((33948543 : Int).fdiv (2 ^ (min mid 64))) &&& BitVec.ofInt 64 1).toNat : Nat) : Int) = 1 then 0 else 2
def ofF : Nat -> Int -> Nat -> Nat -> Int
 | 0,_,_,_ => 1
 | f + 1,r,lo,hi =>
  if lo < hi then
   (if r < zbounds.getD (2 * ((lo + hi) / 2)) 0 then ofF f r lo ((lo + hi) / 2)
   else if zbounds.getD (2 * ((lo + hi) / 2) + 1) 0 < r then ofF f r ((lo + hi) / 2 + 1) hi
   else ofB ((lo + hi) / 2))
  else 1
def ofP (r : Int) : Int := ofF 26 r 0 26
theorem ofB_in (m : Nat) : ofB m = 0 \/ ofB m = 2 := by unfold ofB; split <;> simp
theorem ofF_in : ∀ (f : Nat) (r : Int) (lo hi : Nat),ofF f r lo hi = 0 \/ ofF f r lo hi = 1 \/ ofF f r lo hi = 2
 | 0,_,_,_ => .inr (.inl rfl)
 | f + 1,r,lo,hi => by
  unfold ofF
  split
  ·split
   ·exact ofF_in f r _ _
   ·split
    ·exact ofF_in f r _ _
    ·rcases ofB_in ((lo + hi) / 2) with h | h
     ·exact .inl h
     ·exact .inr (.inr h)
  ·exact .inr (.inl rfl)
theorem ofF_end (f : Nat) (r : Int) {lo hi : Nat} (h : ¬ lo < hi) : ofF f r lo hi = 1 := by
 cases f with
 | zero => rfl
 | succ f => unfold ofF; rw [if_neg h]
theorem zb_len : zbounds.length = 52 := rfl
theorem tb_at {H : AHeap} (h : hasTabs H TT = true) {i : Nat} (hi : i < 52) : loadV H none (.ptr 0 i) = some (.int .i32 (zbounds.getD i 0)) := by
 have h1 := List.all_eq_true.1 h ⟨0,.i32,zbounds⟩ (by simp [TT])
 split at h1
 ·rename_i B hB
  simp only [Bool.and_eq_true] at h1
  have hc := sameL_eq1 h1.2
  have hr : H.row 0 = some B := by simp only [AHeap.row,hB,h1.1,if_true]
  have hz : zbounds[i]? = some zbounds[i] := List.getElem?_eq_getElem (by rw [zb_len]; exact hi)
  simp only [loadV,ROp.run,Opd.ev,hr,hc,Tb.cs,List.getElem?_map,hz]
  rw [List.getD_eq_getElem?_getD,hz]; rfl
 ·cases h1
theorem ixA {n es : Nat} {b o i : Nat} (h : i < n) (k : IntKind) : idxAV n es (.ptr b o) (.int k (i : Int)) = some (.ptr b (o + i * es)) := by
 simp only [idxAV,ROp.run,Opd.ev,inIndex,if_pos (show 0 <= (i : Int) /\ (i : Int) < (n : Int) by omega),Int.toNat_natCast]
section
variable {Q : Prog} (aq : AtQ Q) {H : AHeap}
include aq
set_option maxHeartbeats 4000000 in
theorem of_spec (q65 : Q.fns 65 = some A65) (ht : hasTabs H TT = true) (r : Int) : FnTo Q 65 [.int .i32 r] H (fun v H' => v = .int .i64 (ofP r) /\ H' = H) := by
 refine fn_wp (aq.ho 65 rfl _) q65 (by simp [A65]) ?_
 simp only [A65,SX,↓reduceIte]
 obtain ⟨I,hI⟩ : ∃ I : Nat -> Env -> AHeap -> Prop,∀ m e H',I m e H' ↔ (H' = H /\ ∃ f lo hi : Nat,m = hi - lo /\ hi <= 26 /\ hi - lo <= f /\ ofF f r lo hi = ofP r /\ Env.get e 0 = .int .i32 r /\ Env.get e 3 = .int .i64 lo /\ Env.get e 4 = .int .i64 hi) := ⟨_,fun _ _ _ => Iff.rfl⟩
 refine loop_by I 26 ?_ ?_
 ·exact (hI _ _ _).2 ⟨rfl,26,0,26,rfl,by omega,by omega,rfl,(by first | (simp only [SG,reduceCtorEq,↓reduceIte] <;> rfl) | rfl),(by first | (simp only [SG,Nat.reduceEqDiff,↓reduceIte] <;> rfl) | rfl),(by first | (simp only [SG,↓reduceIte] <;> rfl) | rfl)⟩
 ·intro m e H' hinv
  obtain ⟨hx,f,lo,hi,rfl,h26,hf,hof,e0,e3,e4⟩ := (hI _ _ _).1 hinv
  subst hx
  by_cases c : lo < hi
  ·have d : decide ((lo : Int) < (hi : Int)) = true := decide_eq_true (by omega)
   obtain ⟨f,rfl⟩ : ∃ g,f = g + 1 := ⟨f - 1,by omega⟩
   unfold ofF at hof
   rw [if_pos c] at hof
   obtain ⟨mid,hm⟩ : ∃ mid,(lo + hi) / 2 = mid := ⟨_,rfl⟩
   have hm1 : lo <= mid /\ mid < hi := by omega
   have w1 : IntKind.wrap .i64 ((lo : Int) + (hi : Int)) = ((lo + hi : Nat) : Int) := by rw [wrapI64 (by omega) (by omega)]; rfl
   have q1 : binV .quo (.int .i64 ((lo + hi : Nat) : Int)) (.int .i64 2) = some (.int .i64 (mid : Int)) := by
    have e : binV .quo (.int .i64 ((lo + hi : Nat) : Int)) (.int .i64 2) = some (.int .i64 (IntKind.wrap .i64 (((lo + hi : Nat) : Int).tdiv 2))) := by simp [binV,intBin]
    have e2 : (((lo + hi : Nat) : Int)).tdiv 2 = (((lo + hi) / 2 : Nat) : Int) := rfl
    rw [e,e2,hm,wrapI64 (by omega) (by omega)]
   rw [hm] at hof
   have i1 : idxAV 26 2 (.ptr 0 0) (.int .i64 (mid : Int)) = some (.ptr 0 (0 + mid * 2)) := ixA (by omega) _
   have i2 : idxAV 2 1 (.ptr 0 (0 + mid * 2)) (.int .i64 0) = some (.ptr 0 (0 + mid * 2 + 0 * 1)) := ixA (i := 0) (by omega) _
   have i3 : idxAV 2 1 (.ptr 0 (0 + mid * 2)) (.int .i64 1) = some (.ptr 0 (0 + mid * 2 + 1 * 1)) := ixA (i := 1) (by omega) _
   have n1 : 0 + mid * 2 + 0 * 1 = 2 * mid := by omega
   have n2 : 0 + mid * 2 + 1 * 1 = 2 * mid + 1 := by omega
   rw [n1] at i2
   rw [n2] at i3
   rw [Nat.zero_add] at i1 i2 i3
   have l1 := tb_at ht (i := 2 * mid) (by omega)
   have l2 := tb_at ht (i := 2 * mid + 1) (by omega)
   by_cases c1 : r < zbounds.getD (2 * mid) 0
   ·have d1 : decide (r < zbounds.getD (2 * mid) 0) = true := decide_eq_true c1
    rw [if_pos c1] at hof
    simp only [e0,e3,e4,d,w1,q1,i1,i2,l1,d1,SX,reduceCtorEq,Nat.reduceEqDiff,↓reduceIte]
    refine ⟨mid - lo,by omega,(hI _ _ _).2 ⟨rfl,f,lo,mid,rfl,by omega,by omega,hof,(by simp only [SG,reduceCtorEq,↓reduceIte,e0] <;> rfl),(by simp only [SG,Nat.reduceEqDiff,↓reduceIte,e3] <;> rfl),(by first | (simp only [SG,↓reduceIte] <;> rfl) | rfl)⟩⟩
   ·have d1 : decide (r < zbounds.getD (2 * mid) 0) = false := decide_eq_false c1
    rw [if_neg c1] at hof
    by_cases c2 : zbounds.getD (2 * mid + 1) 0 < r
    ·have d2 : decide (zbounds.getD (2 * mid + 1) 0 < r) = true := decide_eq_true c2
     rw [if_pos c2] at hof
     have w2 : IntKind.wrap .i64 ((mid : Int) + 1) = ((mid + 1 : Nat) : Int) := by rw [wrapI64 (by omega) (by omega)]; rfl
     simp only [e0,e3,e4,d,w1,q1,i1,i2,i3,l1,l2,d1,d2,w2,SX,reduceCtorEq,Nat.reduceEqDiff,↓reduceIte]
     refine ⟨hi - (mid + 1),by omega,(hI _ _ _).2 ⟨rfl,f,mid + 1,hi,rfl,by omega,by omega,hof,(by simp only [SG,reduceCtorEq,↓reduceIte,e0] <;> rfl),(by first | (simp only [SG,↓reduceIte] <;> rfl) | rfl),(by simp only [SG,Nat.reduceEqDiff,↓reduceIte,e4] <;> rfl)⟩⟩
    ·have d2 : decide (zbounds.getD (2 * mid + 1) 0 < r) = false := decide_eq_false c2
     rw [if_neg c2] at hof
     have sh : binV .shr (.int .i64 33948543) (.int .i64 (mid : Int)) = some (.int .i64 ((33948543 : Int).fdiv (2 ^ (min mid 64)))) := by
      simp only [binV,shiftBin,Int.toNat_natCast]
      rw [if_neg (by omega)]; rfl
     have an : ∀ a b : Int,binV .and (.int .i64 a) (.int .i64 b) = some (.int .i64 (IntKind.wrap .i64 (((BitVec.ofInt 64 a &&& BitVec.ofInt 64 b).toNat : Nat) : Int))) := fun a b => rfl
     unfold ofB at hof
     by_cases c3 : IntKind.wrap .i64 (((BitVec.ofInt 64 ((33948543 : Int).fdiv (2 ^ (min mid 64))) &&& BitVec.ofInt 64 1).toNat : Nat) : Int) = 1
     ·have d3 : decide (IntKind.wrap .i64 (((BitVec.ofInt 64 ((33948543 : Int).fdiv (2 ^ (min mid 64))) &&& BitVec.ofInt 64 1).toNat : Nat) : Int) = 1) = true := decide_eq_true c3
      rw [if_pos c3] at hof
      have hof := hof.symm
      simp only [e0,e3,e4,d,w1,q1,i1,i2,i3,l1,l2,d1,d2,sh,an,d3,hof,SX,reduceCtorEq,Nat.reduceEqDiff,↓reduceIte]
     ·have d3 : decide (IntKind.wrap .i64 (((BitVec.ofInt 64 ((33948543 : Int).fdiv (2 ^ (min mid 64))) &&& BitVec.ofInt 64 1).toNat : Nat) : Int) = 1) = false := decide_eq_false c3
      rw [if_neg c3] at hof
      have hof := hof.symm
      simp only [e0,e3,e4,d,w1,q1,i1,i2,i3,l1,l2,d1,d2,sh,an,d3,hof,SX,reduceCtorEq,Nat.reduceEqDiff,↓reduceIte]
  ·have d : decide ((lo : Int) < (hi : Int)) = false := decide_eq_false (by omega)
   rw [ofF_end f r c] at hof
   have hof := hof.symm
   simp only [e3,e4,d,hof,SX,Nat.reduceEqDiff,↓reduceIte]
end
theorem resCell (e : Env) (H : AHeap) (i n : Nat) : resVal e H [.cell i (some n)] = loadV H (some n) (Env.get e i) := by
 simp only [resVal,resVals,ARes.val]
 show (match (match loadV H (some n) (Env.get e i) with | some v => some [v] | none => none) with | some [v] => some v | some vs => some (.tup vs) | none => none) = _
 cases loadV H (some n) (Env.get e i) <;> rfl
def mkV (es bs : Nat) (z : List AV) (l c : AV) : Option (AObj × AKind) := LOp.run .nil (.mkslice es bs z (.c l) (.c c))
theorem run_mk (e : Env) (es bs : Nat) (z : List AV) (l c : Opd) : LOp.run e (.mkslice es bs z l c) = mkV es bs z (l.ev e) (c.ev e) := rfl
def Ce.at (c : Ce) : List AV := c.a.cs
theorem rowV_len (l : List Ce) : (rowV l).length = 7 * l.length := by
 induction l with
 | nil => rfl
 | cons c l ih =>
  have : rowV (c :: l) = c.cs ++ rowV l := by simp [rowV]
  rw [this,List.length_append,ih]
  simp [Ce.cs,At.cs]; omega
theorem rowV_app (a b : List Ce) : rowV (a ++ b) = rowV a ++ rowV b := List.flatMap_append ..
theorem rowV_one (c : Ce) : rowV [c] = c.cs := by simp [rowV]
theorem rowV_split {l : List Ce} {i : Nat} {c : Ce} (h : l[i]? = some c) : rowV l = rowV (l.take i) ++ (c.cs ++ rowV (l.drop (i + 1))) := by
 obtain ⟨h1,h2⟩ := List.getElem?_eq_some_iff.1 h
 have : l = l.take i ++ (c :: l.drop (i + 1)) := by rw [<- h2,<- List.drop_eq_getElem_cons h1,List.take_append_drop]
 conv => lhs; rw [this]
 rw [rowV_app]
 simp [rowV]
theorem rowV_ones (l : List Ce) : (rowV l).all AV.one = true := by
 induction l with
 | nil => rfl
 | cons c l ih =>
  have : rowV (c :: l) = c.cs ++ rowV l := by simp [rowV]
  rw [this,List.all_append,ih]
  rfl
def RowS (H : AHeap) (v : AV) (l : List Ce) : Prop := (v = .nils /\ l = []) \/ ∃ b o cap B,v = .slc b o l.length cap /\ l.length <= cap /\ H.get b = some (.row B) /\ B.live = true /\ (B.es = 0 \/ B.es = 7) /\ ∃ pre post,B.cells = pre ++ (rowV l ++ post) /\ pre.length = o
section
variable {H : AHeap} {v : AV} {l : List Ce}
theorem part_load {b p : Nat} {B : Blk} {a x c : List AV} (hB : H.get b = some (.row B)) (hl : B.live = true) (hc : B.cells = a ++ (x ++ c)) (hp : a.length = p) : loadV H (some x.length) (.ptr b p) = some (.agg x) := by
 have hr : H.row b = some B := by simp only [AHeap.row,hB,hl,if_true]
 simp only [loadV,ROp.run,Opd.ev,hr,hc,AM.cut]
 rw [if_pos (by simp; omega)]
 simp [<- hp]
theorem part_one {b p : Nat} {B : Blk} {a x c : List AV} (hB : H.get b = some (.row B)) (hl : B.live = true) (hc : B.cells = a ++ (x ++ c)) (hp : a.length = p) {j : Nat} {y : AV} (hy : x[j]? = some y) : loadV H none (.ptr b (p + j)) = some y := by
 have hr : H.row b = some B := by simp only [AHeap.row,hB,hl,if_true]
 have hj := (List.getElem?_eq_some_iff.1 hy).1
 simp only [loadV,ROp.run,Opd.ev,hr,hc]
 rw [List.getElem?_append_right (by omega),<- hp,Nat.add_sub_cancel_left,List.getElem?_append_left hj,hy]
theorem RowS.len (h : RowS H v l) (H2 : AHeap) : lngV H2 1 v = some (.int .i64 l.length) := by
 rcases h with ⟨rfl,rfl⟩ | ⟨b,o,cap,B,rfl,_⟩ <;> rfl
theorem RowS.grow {H' : AHeap} (h : RowS H v l) (hf : Fr H) (g : Gr H H') : RowS H' v l := by
 rcases h with h | ⟨b,o,cap,B,h1,h2,h3,h4⟩
 ·exact .inl h
 ·exact .inr ⟨b,o,cap,B,h1,h2,g.get hf h3,h4⟩
theorem RowS.cell (h : RowS H v l) {i : Nat} {c : Ce} (hc : l[i]? = some c) (kd : IntKind) : ∃ b p,idxSV 7 v (.int kd i) = some (.ptr b p) /\ loadV H (some 7) (.ptr b p) = some (.agg c.cs) /\ loadV H none (.ptr b p) = some (.int .i32 c.r) /\ loadV H none (.ptr b (p + 1)) = some (.int .u8 c.w) /\ loadV H (some 5) (.ptr b (p + 2)) = some (.agg c.at) := by
 have hi := (List.getElem?_eq_some_iff.1 hc).1
 rcases h with ⟨rfl,rfl⟩ | ⟨b,o,cap,B,rfl,h2,h3,h4,h5,pre,post,h6,h7⟩
 ·simp at hi
 ·have e : B.cells = (pre ++ rowV (l.take i)) ++ (c.cs ++ (rowV (l.drop (i + 1)) ++ post)) := by rw [h6,rowV_split hc]; simp
  have hl : (pre ++ rowV (l.take i)).length = o + i * 7 := by
   rw [List.length_append,rowV_len,List.length_take,h7,Nat.min_eq_left (by omega)]; omega
  have e2 : B.cells = (pre ++ rowV (l.take i) ++ ([AV.int .i32 c.r,AV.int .u8 c.w] : List AV)) ++ (c.at ++ (rowV (l.drop (i + 1)) ++ post)) := by rw [e]; simp [Ce.cs,Ce.at]
  have hl2 : (pre ++ rowV (l.take i) ++ ([AV.int .i32 c.r,AV.int .u8 c.w] : List AV)).length = o + i * 7 + 2 := by rw [List.length_append,hl]; rfl
  refine ⟨b,o + i * 7,?_,part_load h3 h4 e hl,part_one h3 h4 e hl (j := 0) rfl,part_one h3 h4 e hl (j := 1) rfl,part_load h3 h4 e2 hl2⟩
  simp only [idxSV,ROp.run,Opd.ev,inIndex,if_pos (show 0 <= (i : Int) /\ (i : Int) < (l.length : Int) by omega),Int.toNat_natCast]
def slcOf (v : AV) (m n : Nat) : AV := match v with | .slc b o len cap => .slc b (o + m * 7) (n - m) (cap - m) | x => x
theorem RowS.slice (h : RowS H v l) {m n : Nat} (hm : m <= n) (hn : n <= l.length) : slSV H 7 v (some (.int .i64 m)) (some (.int .i64 n)) = some (slcOf v m n) /\ RowS H (slcOf v m n) ((l.take n).drop m) := by
 rcases h with ⟨rfl,rfl⟩ | ⟨b,o,cap,B,rfl,h2,h3,h4,h5,pre,post,h6,h7⟩
 ·simp only [List.length_nil,Nat.le_zero] at hn
  subst hn
  obtain rfl : m = 0 := by omega
  exact ⟨rfl,.inl ⟨rfl,by simp⟩⟩
 ·refine ⟨?_,.inr ⟨b,o + m * 7,cap - m,B,?_,?_,h3,h4,h5,pre ++ rowV (l.take m),rowV (l.drop n) ++ post,?_,?_⟩⟩
  ·simp only [slSV,ROp.run,Opd.ev,Option.map_some,bounds,bound,if_pos (show 0 <= (n : Int) /\ (n : Int) <= (cap : Int) by omega),Int.toNat_natCast,if_pos (show 0 <= (m : Int) /\ (m : Int) <= (n : Int) by omega),h3,if_pos h5,slcOf]
  ·simp [slcOf,List.length_drop,List.length_take,Nat.min_eq_left hn]
  ·simp [List.length_drop,List.length_take]; omega
  ·have : l = l.take m ++ ((l.take n).drop m ++ l.drop n) := by
    have e1 : l.take m ++ (l.take n).drop m = l.take n := by
     have := List.take_append_drop m (l.take n)
     rw [List.take_take,Nat.min_eq_left hm] at this
     exact this
    rw [<- List.append_assoc,e1,List.take_append_drop]
   rw [h6]
   conv => lhs; rw [this]
   simp [rowV_app]
  ·rw [List.length_append,rowV_len,List.length_take,h7,Nat.min_eq_left (by omega)]; omega
end
theorem Hp.rowS {base : Nat} {H : AHeap} {L : List Cel} (h : Hp base H L) {b : Nat} {l : List Ce} {cap : Nat} (hx : (⟨b,7,rowV l⟩ : Cel) ∈ L) (hc : l.length <= cap) : RowS H (.slc b 0 l.length cap) l := by
 obtain ⟨es,ty,h1,h2⟩ := h.has _ hx
 exact .inr ⟨b,0,cap,_,rfl,hc,h1,rfl,h2,[],[],by simp,rfl⟩
structure RwQ (Q : Prog) : Prop where
 ho : ∀ f,Nat.beq f 10 = false -> ∀ a,Q.orc f a = Option.none
 q20 : Q.fns 20 = some A20
 q49 : Q.fns 49 = some A49
 q76 : Q.fns 76 = some A76
 q89 : Q.fns 89 = some A89
def ws (l : List Ce) : List Int := l.map (·.w)
theorem boxV_agg {x : List AV} (h : x.all AV.one = true) : boxV (.agg x) = some (.row ⟨x,0,false,true,0⟩,.ptr) := by
 simp [boxV,AV.cells,h]
section
variable {Q : Prog} (pq : RwQ Q) {H : AHeap}
include pq
set_option maxHeartbeats 2000000 in
theorem blank_spec (hf : Fr H) {a : List AV} (ha : a.length = 5) (h1 : a.all AV.one = true) : FnTo Q 89 [.agg a] H (fun r H' => r = .agg (.int .i32 32 :: .int .u8 0 :: a) /\ Gr H H') := by
 refine fn_wp (pq.ho 89 rfl _) pq.q89 (by simp [A89]) ?_
 obtain ⟨H1,s1,g1,k1⟩ := (Hp.nil H hf).make a 5
 obtain ⟨H2,s2,g2,k2⟩ := g1.make [.int .i32 0,.int .u8 0,.int .u16 0,.int .u8 0,.int .u32 0,.int .u8 0,.int .u32 0] 7
 have n1 : H1.next = H.next + 1 := by rw [<- s1]; rfl
 have l1 := g2.loadN (b := H.next) (k := 5) (cs := a) (by simp) ha
 obtain ⟨H3,s3,g3,k3,_⟩ := g2.storeN (n := 7) (new := .int .i32 32 :: .int .u8 0 :: a) rfl (by simp [ha]) (by simp [AV.one,h1])
 have l3 := g3.loadN (List.mem_cons_self ..) (n := 7) (by simp [ha])
 have bd : buildV [.int .i32 0,.int .u8 0,.int .u16 0,.int .u8 0,.int .u32 0,.int .u8 0,.int .u32 0] [(0,1,.int .i32 32),(2,5,.agg a)] = some (.agg (.int .i32 32 :: .int .u8 0 :: a)) := by
  match a,ha with
  | [a0,a1,a2,a3,a4],_ => rfl
 simp only [A89,boxV_agg h1,s1,run_allocL,s2,l1,run_build,bd,s3,l3,SX,reduceCtorEq,Nat.reduceEqDiff,↓reduceIte]
 exact g3.gr (k1.trans (k2.trans k3))
set_option maxHeartbeats 4000000 in
theorem fill_spec {base b n : Nat} {cs : List AV} {L : List Cel} {c : Ce} (h : Hp base H (⟨b,7,cs⟩ :: L)) (hn : cs.length = 7 * n) (hn2 : n <= 1000000) (hc : c.r = 32 /\ c.w = 0) : FnTo Q 76 [.slc b 0 n n,.agg c.at] H (fun _ H' => Hp base H' (⟨b,7,rowV (List.replicate n c)⟩ :: L) /\ Keep base H H') := by
 refine fn_wp (pq.ho 76 rfl _) pq.q76 (by simp [A76]) ?_
 have ha : c.at.all AV.one = true := rfl
 obtain ⟨H1,s1,g1,k1⟩ := h.make c.at 5
 obtain ⟨t,ht⟩ : ∃ t,H.next = t := ⟨_,rfl⟩
 rw [ht] at g1
 simp only [A76,boxV_agg ha,s1,ht,SX,reduceCtorEq,↓reduceIte]
 obtain ⟨I,hI⟩ : ∃ I : Nat -> Env -> AHeap -> Prop,∀ m e H',I m e H' ↔ (∃ (i : Nat) (rest : List AV),m = n - i /\ i <= n /\ rest.length = 7 * (n - i) /\ Hp base H' (⟨b,7,rowV (List.replicate i c) ++ rest⟩ :: ⟨t,5,c.at⟩ :: L) /\ Keep base H H' /\ Env.get e 0 = .slc b 0 n n /\ Env.get e 3 = .ptr t 0 /\ Env.get e 6 = .int .i64 n /\ Env.get e 7 = .int .i64 i) := ⟨_,fun _ _ _ => Iff.rfl⟩
 refine loop_by I n ?_ ?_
 ·exact (hI _ _ _).2 ⟨0,cs,rfl,by omega,by omega,by simpa [rowV] using g1.swap,k1,(by first | (simp only [SG,reduceCtorEq,↓reduceIte] <;> rfl) | rfl),(by first | (simp only [SG,Nat.reduceEqDiff,↓reduceIte] <;> rfl) | rfl),(by first | (simp only [SG,Nat.reduceEqDiff,↓reduceIte] <;> rfl) | rfl),(by first | (simp only [SG,↓reduceIte] <;> rfl) | rfl)⟩
 ·intro m e H2 hinv
  obtain ⟨i,rest,rfl,hi,hr,g2,k2,e0,e3,e6,e7⟩ := (hI _ _ _).1 hinv
  by_cases d : (i : Int) < n
  ·have l3 := g2.loadN (b := t) (k := 5) (cs := c.at) (by simp) (n := 5) rfl
   have w1 : IntKind.wrap .i64 ((i : Int) + 1) = ((i + 1 : Nat) : Int) := wrapNat (n := i + 1) (by omega)
   simp only [e0,e3,e6,e7,d,l3,SX,reduceCtorEq,Nat.reduceEqDiff,↓reduceIte]
   refine (blank_spec pq g2.fr (a := c.at) rfl ha).mono ?_
   rintro _ H3 ⟨rfl,g3⟩
   have hcs : (AV.int .i32 32 :: AV.int .u8 0 :: c.at) = c.cs := by unfold Ce.cs Ce.at; rw [hc.1,hc.2]
   have ix : idxSV 7 (.slc b 0 n n) (.int .i64 i) = some (.ptr b (i * 7)) := by
    simp only [idxSV,ROp.run,Opd.ev,inIndex,if_pos (show 0 <= (i : Int) /\ (i : Int) < (n : Int) by omega),Int.toNat_natCast,Nat.zero_add]
   have g4 := g2.keep g3.keep g3.next g3.fr
   obtain ⟨x,c',e1,e2⟩ : ∃ x c',rest = x ++ c' /\ x.length = 7 := ⟨rest.take 7,rest.drop 7,(List.take_append_drop 7 rest).symm,by rw [List.length_take]; omega⟩
   obtain ⟨H5,s5,g5,k5,_⟩ := g4.storeO (a := rowV (List.replicate i c)) (x := x) (c := c') (o := i * 7) (by rw [e1]) (by rw [rowV_len,List.length_replicate]; omega) (n := 7) (new := c.cs) e2 rfl rfl
   simp only [hcs,e7,ix,s5,w1,SX,reduceCtorEq,Nat.reduceEqDiff,↓reduceIte]
   have hb := g2.bn
   refine ⟨n - (i + 1),by omega,(hI _ _ _).2 ⟨i + 1,c',rfl,by omega,by rw [e1,List.length_append,e2] at hr; omega,?_,k2.trans ((g3.keep.le hb).trans k5),(by simp only [SG,reduceCtorEq,↓reduceIte,e0] <;> rfl),(by simp only [SG,reduceCtorEq,Nat.reduceEqDiff,↓reduceIte,e3] <;> rfl),(by simp only [SG,reduceCtorEq,Nat.reduceEqDiff,↓reduceIte,e6] <;> rfl),(by first | (simp only [SG,↓reduceIte] <;> rfl) | rfl)⟩⟩
   rw [List.replicate_succ',rowV_app,rowV_one,List.append_assoc]
   exact g5
  ·obtain rfl : i = n := by omega
   have hr0 : rest = [] := List.length_eq_zero_iff.1 (by omega)
   rw [hr0,List.append_nil] at g2
   simp only [e6,e7,d,SX,↓reduceIte]
   exact ⟨g2.swap.drop,k2⟩
set_option maxHeartbeats 2000000 in
theorem rowBlank_spec (hf : Fr H) {w : Int} {c : Ce} (hc : c.r = 32 /\ c.w = 0) : FnTo Q 49 [.int .i64 w,.agg c.at] H (fun r H' => Keep H.next H H' /\ ((¬ (1 <= w /\ w <= 400) /\ r = .nils /\ Hp H.next H' []) \/ (1 <= w /\ w <= 400 /\ ∃ b,r = .slc b 0 w.toNat w.toNat /\ Hp H.next H' [⟨b,7,rowV (List.replicate w.toNat c)⟩]))) := by
 refine fn_wp (pq.ho 49 rfl _) pq.q49 (by simp [A49]) ?_
 have ha : c.at.all AV.one = true := rfl
 obtain ⟨H1,s1,g1,k1⟩ := (Hp.nil H hf).make c.at 5
 by_cases c1 : w < 1
 ·have d1 := decide_eq_true c1
  simp only [A49,boxV_agg ha,s1,d1,SX,reduceCtorEq,Nat.reduceEqDiff,↓reduceIte]
  exact ⟨k1,.inl ⟨by omega,g1.drop⟩⟩
 ·have d1 := decide_eq_false c1
  by_cases c2 : 400 < w
  ·have d2 := decide_eq_true c2
   simp only [A49,boxV_agg ha,s1,d1,d2,SX,reduceCtorEq,Nat.reduceEqDiff,↓reduceIte]
   exact ⟨k1,.inl ⟨by omega,g1.drop⟩⟩
  ·have d2 := decide_eq_false c2
   obtain ⟨n,rfl⟩ : ∃ n : Nat,w = n := ⟨w.toNat,by omega⟩
   have mk : mkV 7 28 [.int .i32 0,.int .u8 0,.int .u16 0,.int .u8 0,.int .u32 0,.int .u8 0,.int .u32 0] (.int .i64 n) (.int .i64 n) = some (.row ⟨zeros [.int .i32 0,.int .u8 0,.int .u16 0,.int .u8 0,.int .u32 0,.int .u8 0,.int .u32 0] (n * 7),0,false,true,0⟩,.slc n n) := by
    simp only [mkV,LOp.run,Opd.ev,Int.toNat_natCast]
    rw [if_pos ⟨by omega,by omega,by omega,by omega,by simp,rfl⟩]
   obtain ⟨zs,hzs⟩ : ∃ zs,zeros [.int .i32 0,.int .u8 0,.int .u16 0,.int .u8 0,.int .u32 0,.int .u8 0,.int .u32 0] (n * 7) = zs := ⟨_,rfl⟩
   have hzl : zs.length = 7 * n := by rw [<- hzs]; simp [zeros]; omega
   rw [hzs] at mk
   obtain ⟨H2,s2,g2,k2⟩ := g1.make zs 7
   have l1 := g2.loadN (b := H.next) (k := 5) (cs := c.at) (by simp) (n := 5) rfl
   obtain ⟨t,ht⟩ : ∃ t,H1.next = t := ⟨_,rfl⟩
   rw [ht] at g2
   simp only [A49,boxV_agg ha,s1,d1,d2,run_mk,mk,s2,ht,l1,SX,reduceCtorEq,Nat.reduceEqDiff,↓reduceIte]
   refine (fill_spec pq g2 hzl (by omega) hc).mono ?_
   rintro _ H3 ⟨g3,k3⟩
   simp only [SX,reduceCtorEq,Nat.reduceEqDiff,↓reduceIte]
   exact ⟨k1.trans (k2.trans k3),.inr ⟨by omega,by omega,t,rfl,g3.sub (by simp)⟩⟩
end
end Go.Proofs.YtfbcgjpblomckaaDoor.AM
