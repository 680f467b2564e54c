import Derived.Test.YtfbcgjpblomckaaDoorEvT
set_option linter.unusedVariables false
set_option linter.unusedSimpArgs false
namespace Go.Proofs.YtfbcgjpblomckaaDoor.AM.EvN.Rf
open Go
structure NxF (st a n : Int) : Prop where
 ten : n = 10 -> st = 10 \/ ((st = 7 \/ st = 8 \/ st = 9) /\ a = 7)
 mid : (n = 8 \/ n = 9) -> st = 7 \/ st = 8 \/ st = 9
 put : a = 8 -> n = st /\ (st = 10 \/ st = 12)
 grd : st = 0 -> (n = 0 /\ (a = 0 \/ a = 1 \/ a = 2)) \/ n = 1
 act : 0 <= a /\ a <= 8
theorem nxF_mk {st a n x y : Int} (hx : x = a) (hy : y = n) (h : (a = 2 /\ n = 0) \/ (a = 0 /\ n = 1)) : NxF st x y := by
 subst hx hy
 constructor <;> omega
theorem nxF_escape (c : Int) : NxF 1 (nEscape c).1 (nEscape c).2 := by
 have : ((nEscape c).1 = 2 \/ (nEscape c).1 = 3 \/ (nEscape c).1 = 0 \/ (nEscape c).1 = 5) /\ ((nEscape c).2 = 1 \/ (nEscape c).2 = 2 \/ (nEscape c).2 = 7 \/ (nEscape c).2 = 3 \/ (nEscape c).2 = 12 \/ (nEscape c).2 = 13 \/ (nEscape c).2 = 0) := by
  unfold nEscape
  (repeat' split) <;> simp
 constructor <;> omega
theorem nxF_inter (c : Int) : NxF 2 (nInter c).1 (nInter c).2 := by
 have : ((nInter c).1 = 2 \/ (nInter c).1 = 3 \/ (nInter c).1 = 0 \/ (nInter c).1 = 5) /\ ((nInter c).2 = 2 \/ (nInter c).2 = 0) := by
  unfold nInter
  (repeat' split) <;> simp
 constructor <;> omega
theorem nxF_let (c : Int) : NxF 6 (nLet c).1 (nLet c).2 := by
 have : ((nLet c).1 = 2 \/ (nLet c).1 = 0) /\ ((nLet c).2 = 6 \/ (nLet c).2 = 0) := by
  unfold nLet
  (repeat' split) <;> simp
 constructor <;> omega
theorem nxF_ground (c : Int) {st : Int} : NxF st (nGround c).1 (nGround c).2 := by
 have : ((nGround c).1 = 2 \/ (nGround c).1 = 0 \/ (nGround c).1 = 1) /\ (nGround c).2 = 0 := by
  unfold nGround
  (repeat' split) <;> simp
 constructor <;> omega
theorem nxF_text (c : Int) {st : Int} (h : st = 10 \/ st = 11 \/ st = 12 \/ st = 13) : NxF st (nText st c).1 (nText st c).2 := by
 have : ((nText st c).1 = 0 /\ ((nText st c).2 = st \/ (nText st c).2 = 0)) \/ ((nText st c).1 = 8 /\ (nText st c).2 = st /\ (st = 10 \/ st = 12)) := by
  unfold nText
  (repeat' split) <;> simp <;> omega
 constructor <;> omega
theorem nxF_csi (c : Int) {st : Int} (h : st = 3 \/ st = 4 \/ st = 5) : NxF st (nSeq c st 5 4 6 6).1 (nSeq c st 5 4 6 6).2 := by
 have : ((nSeq c st 5 4 6 6).1 = 2 \/ (nSeq c st 5 4 6 6).1 = 0 \/ (nSeq c st 5 4 6 6).1 = 3 \/ (nSeq c st 5 4 6 6).1 = 4 \/ (nSeq c st 5 4 6 6).1 = 6) /\ ((nSeq c st 5 4 6 6).2 = st \/ (nSeq c st 5 4 6 6).2 = 5 \/ (nSeq c st 5 4 6 6).2 = 4 \/ (nSeq c st 5 4 6 6).2 = 6 \/ (nSeq c st 5 4 6 6).2 = 0) := by
  unfold nSeq
  simp only [if_true]
  (repeat' split) <;> simp
 constructor <;> omega
theorem nxF_dcs (c : Int) {st : Int} (h : st = 7 \/ st = 8 \/ st = 9) : NxF st (nSeq c st 9 8 11 7).1 (nSeq c st 9 8 11 7).2 := by
 have : (((nSeq c st 9 8 11 7).1 = 0 \/ (nSeq c st 9 8 11 7).1 = 3 \/ (nSeq c st 9 8 11 7).1 = 4) /\ ((nSeq c st 9 8 11 7).2 = st \/ (nSeq c st 9 8 11 7).2 = 9 \/ (nSeq c st 9 8 11 7).2 = 8 \/ (nSeq c st 9 8 11 7).2 = 11)) \/ ((nSeq c st 9 8 11 7).1 = 7 /\ (nSeq c st 9 8 11 7).2 = 10) := by
  unfold nSeq
  rw [if_neg (show ¬ (7 : Int) = 6 by omega),if_neg (show ¬ (7 : Int) = 6 by omega)]
  (repeat' split) <;> simp
 constructor <;> omega
theorem nxF {st : Int} (c : Int) (h : 0 <= st /\ st <= 13) : NxF st (nx st c).1 (nx st c).2 := by
 unfold nx
 by_cases c1 : c = 24
 ·rw [if_pos c1]; exact nxF_mk rfl rfl (by omega)
 rw [if_neg c1]
 by_cases c2 : c = 26
 ·rw [if_pos c2]; exact nxF_mk rfl rfl (by omega)
 rw [if_neg c2]
 by_cases c3 : c = 27
 ·rw [if_pos c3]; exact nxF_mk rfl rfl (by omega)
 rw [if_neg c3]
 by_cases s1 : st = 1
 ·rw [if_pos s1,s1]; exact nxF_escape c
 rw [if_neg s1]
 by_cases s2 : st = 2
 ·rw [if_pos s2,s2]; exact nxF_inter c
 rw [if_neg s2]
 by_cases s3 : st = 3 \/ st = 4 \/ st = 5
 ·rw [if_pos s3]; exact nxF_csi c s3
 rw [if_neg s3]
 by_cases s4 : st = 6
 ·rw [if_pos s4,s4]; exact nxF_let c
 rw [if_neg s4]
 by_cases s5 : st = 7 \/ st = 8 \/ st = 9
 ·rw [if_pos s5]; exact nxF_dcs c s5
 rw [if_neg s5]
 by_cases s6 : st = 10 \/ st = 11 \/ st = 12 \/ st = 13
 ·rw [if_pos s6]; exact nxF_text c s6
 rw [if_neg s6]
 exact nxF_ground c
structure RS where
 all : List (List Int)
 one : List Int
 n : Int
 any : Bool
 parts : Nat
def RS.sep (c : Int) (any : Bool) (r : RS) : RS :=
 let one := if r.parts <= 8 then r.one ++ [r.n] else r.one
 if c = 59 then ⟨if any = true /\ r.all.length < 16 then r.all ++ [one] else r.all,[],0,any,1⟩ else ⟨r.all,one,0,any,r.parts + 1⟩
def RS.step (c : Int) (fin : Bool) (r : RS) : RS :=
 if c < 48 \/ 59 < c then r else
 let any := if fin = true then r.any else true
 if c <= 57 then ⟨r.all,r.one,if r.parts <= 8 then min (10 * r.n + (c - 48)) 9999 else r.n,any,r.parts⟩ else r.sep c any
def RS.none : RS := ⟨[],[],0,false,1⟩
def RS.feed (r : RS) (t : List UInt8) : RS := t.foldl (fun r b => r.step (b.toNat : Int) false) r
def refAll (t : List UInt8) : List (List Int) := ((RS.none.feed t).step 59 true).all
def Side (s : PS) (r : RS) : Prop :=
 (r.any = false /\ s = PS.none /\ r = RS.none) ∨
 (r.any = true /\ s.ov = true /\ r.all.length = 16 /\ s.L = r.all /\ 1 <= r.parts) ∨
 (r.any = true /\ s.ov = false /\ r.all.length < 16 /\ ((s.fu = false /\ r.parts <= 8 /\ r.one.length + 1 = r.parts /\ s.L = r.all ++ [r.one ++ [r.n]]) \/ (s.fu = true /\ 8 < r.parts /\ r.one.length = 8 /\ s.L = r.all ++ [r.one])))
theorem side_step {c : Int} {s : PS} {r : RS} (h : Side s r) (hc : 48 <= c /\ c <= 59) : Side (s.byte c) (r.step c false) := by
 have hb : s.byte c = if s.ov = true then s else PS.step c (if s.L.length = 0 then s.begins else s) := by
  unfold PS.byte
  by_cases ho : s.ov = true
  ·rw [if_pos (.inl ho),if_pos ho]
  ·rw [if_neg (by simp [ho]; omega),if_neg ho]
 have hr : r.step c false = if c <= 57 then ⟨r.all,r.one,if r.parts <= 8 then min (10 * r.n + (c - 48)) 9999 else r.n,true,r.parts⟩ else r.sep c true := by
  unfold RS.step
  rw [if_neg (by omega)]
  rfl
 have main : ∀ (s : PS) (r : RS),s.ov = false -> r.all.length < 16 -> ((s.fu = false /\ r.parts <= 8 /\ r.one.length + 1 = r.parts /\ s.L = r.all ++ [r.one ++ [r.n]]) \/ (s.fu = true /\ 8 < r.parts /\ r.one.length = 8 /\ s.L = r.all ++ [r.one])) ->
   Side (PS.step c s) (if c <= 57 then ⟨r.all,r.one,if r.parts <= 8 then min (10 * r.n + (c - 48)) 9999 else r.n,true,r.parts⟩ else r.sep c true) := by
  intro s r ho hlen hcase
  obtain ⟨cur,hL⟩ : ∃ cur,s.L = r.all ++ [cur] := by
   rcases hcase with ⟨_,_,_,h⟩ | ⟨_,_,_,h⟩ <;> exact ⟨_,h⟩
  have hstep : PS.step c s = s.last c r.all cur := by unfold PS.step; rw [hL]; simp
  rw [hstep]
  unfold PS.last
  by_cases h59 : c = 59
  ·rw [if_pos h59,if_neg (show ¬ c <= 57 by omega)]
   have hcur : (if r.parts <= 8 then r.one ++ [r.n] else r.one) = cur := by
    rcases hcase with ⟨_,h1,_,h⟩ | ⟨_,h1,_,h⟩
    ·rw [if_pos h1]; rw [hL] at h; simpa using h.symm
    ·rw [if_neg (by omega)]; rw [hL] at h; simpa using h.symm
   have hs : r.sep c true = ⟨r.all ++ [cur],[],0,true,1⟩ := by
    unfold RS.sep
    simp only [hcur,if_pos h59,hlen,and_self,if_true]
   rw [hs]
   unfold PS.begins
   by_cases h16 : s.L.length = 16
   ·rw [if_pos h16]
    refine .inr (.inl ⟨rfl,rfl,?_,hL,by simp⟩)
    rw [hL] at h16; exact h16
   ·rw [if_neg h16]
    rw [hL] at h16 ⊢
    refine .inr (.inr ⟨rfl,rfl,?_,.inl ⟨rfl,by simp,by simp,rfl⟩⟩)
    simp at h16 ⊢; omega
  ·rw [if_neg h59]
   rcases hcase with ⟨hfu,hp,hone,h⟩ | ⟨hfu,hp,hone,h⟩
   ·rw [hL] at h
    have hcur : cur = r.one ++ [r.n] := by simpa using h
    rw [if_neg (by simp [hfu])]
    by_cases h58 : c = 58
    ·have hs : r.sep c true = ⟨r.all,r.one ++ [r.n],0,true,r.parts + 1⟩ := by unfold RS.sep; simp only [if_pos hp,if_neg h59]
     rw [if_pos h58,if_neg (show ¬ c <= 57 by omega),hs]
     by_cases h8 : cur.length = 8
     ·rw [if_pos h8]
      have : r.one.length = 7 := by rw [hcur] at h8; simpa using h8
      exact .inr (.inr ⟨rfl,ho,hlen,.inr ⟨rfl,by simp; omega,by simp; omega,by rw [<- hcur]; exact hL⟩⟩)
     ·rw [if_neg h8]
      have : r.one.length ≠ 7 := by rw [hcur] at h8; simpa using h8
      exact .inr (.inr ⟨rfl,ho,hlen,.inl ⟨hfu,by simp; omega,by simp; omega,by simp [hcur]⟩⟩)
    ·rw [if_neg h58,if_pos (show c <= 57 by omega),if_pos hp]
     refine .inr (.inr ⟨rfl,ho,hlen,.inl ⟨hfu,hp,hone,?_⟩⟩)
     simp [hcur]
   ·rw [hL] at h
    have hcur : cur = r.one := by simpa using h
    rw [if_pos hfu]
    by_cases h58 : c = 58
    ·have hs : r.sep c true = ⟨r.all,r.one,0,true,r.parts + 1⟩ := by unfold RS.sep; simp only [if_neg (by omega : ¬ r.parts <= 8),if_neg h59]
     rw [if_neg (show ¬ c <= 57 by omega),hs]
     exact .inr (.inr ⟨rfl,ho,hlen,.inr ⟨hfu,by simp; omega,hone,by rw [<- hcur]; exact hL⟩⟩)
    ·rw [if_pos (show c <= 57 by omega),if_neg (show ¬ r.parts <= 8 by omega)]
     exact .inr (.inr ⟨rfl,ho,hlen,.inr ⟨hfu,hp,hone,by rw [<- hcur]; exact hL⟩⟩)
 rw [hb,hr]
 rcases h with ⟨ha,rfl,rfl⟩ | ⟨ha,ho,hlen,hL,hp⟩ | ⟨ha,ho,hlen,hcase⟩
 ·rw [if_neg (by simp [PS.none]),if_pos (by simp [PS.none])]
  have : PS.none.begins = ⟨[[0]],false,false⟩ := rfl
  rw [this]
  exact main ⟨[[0]],false,false⟩ RS.none rfl (by simp [RS.none]) (.inl ⟨rfl,by simp [RS.none],by simp [RS.none],rfl⟩)
 ·rw [if_pos ho]
  refine .inr (.inl ?_)
  by_cases h57 : c <= 57
  ·rw [if_pos h57]; exact ⟨rfl,ho,hlen,hL,hp⟩
  ·rw [if_neg h57]
   unfold RS.sep
   by_cases h59 : c = 59
   ·simp only [if_pos h59,hlen,Nat.lt_irrefl,and_false,if_false]; exact ⟨trivial,ho,trivial,hL,by simp⟩
   ·simp only [if_neg h59]; exact ⟨trivial,ho,hlen,hL,by omega⟩
 ·rw [if_neg (by simp [ho])]
  have hne : ¬ s.L.length = 0 := by rcases hcase with ⟨_,_,_,h⟩ | ⟨_,_,_,h⟩ <;> rw [h] <;> simp
  rw [if_neg hne]
  exact main s r ho hlen hcase
theorem side_feed : ∀ (t : List UInt8) {s : PS} {r : RS},Side s r -> Side (s.feed t) (r.feed t)
 | [],s,r,h => h
 | b :: t,s,r,h => by
  refine side_feed t (s := s.byte (b.toNat : Int)) (r := r.step (b.toNat : Int) false) ?_
  by_cases hc : 48 <= (b.toNat : Int) /\ (b.toNat : Int) <= 59
  ·exact side_step h hc
  ·have h1 : s.byte (b.toNat : Int) = s := by unfold PS.byte; rw [if_pos (by omega)]
   have h2 : r.step (b.toNat : Int) false = r := by unfold RS.step; rw [if_pos (by omega)]
   rw [h1,h2]; exact h
theorem ref_eq (t : List UInt8) : refAll t = (PS.none.feed t).L := by
 have h := side_feed t (s := PS.none) (r := RS.none) (.inl ⟨rfl,rfl,rfl⟩)
 unfold refAll
 generalize PS.none.feed t = s at h ⊢
 generalize RS.none.feed t = r at h ⊢
 have hs : r.step 59 true = r.sep 59 r.any := by
  unfold RS.step
  rw [if_neg (by omega)]
  simp
 rw [hs]
 unfold RS.sep
 simp only [if_true]
 rcases h with ⟨ha,rfl,rfl⟩ | ⟨ha,ho,hlen,hL,hp⟩ | ⟨ha,ho,hlen,hcase⟩
 ·rfl
 ·simp only [hlen,Nat.lt_irrefl,and_false,if_false]; exact hL.symm
 ·simp only [ha,hlen,and_self,if_true]
  rcases hcase with ⟨_,h1,_,h⟩ | ⟨_,h1,_,h⟩
  ·rw [if_pos h1,h]
  ·rw [if_neg (by omega),h]
structure RS.Ok (r : RS) (k : Nat) : Prop where
 n0 : 0 <= r.n
 n1 : r.n <= 9999
 p0 : 1 <= r.parts
 p1 : r.parts <= k + 1
 o8 : r.one.length <= 8
 op : r.parts <= 8 -> r.one.length + 1 <= r.parts
 a16 : r.all.length <= 16
theorem RS.Ok.step {r : RS} {k : Nat} (h : r.Ok k) (c : Int) (fin : Bool) : (r.step c fin).Ok (k + 1) := by
 have h1 := h.n0; have h2 := h.n1; have h3 := h.p0; have h4 := h.p1; have h5 := h.o8; have h6 := h.op; have h7 := h.a16
 unfold RS.step
 split
 ·exact ⟨h1,h2,h3,by omega,h5,h6,h7⟩
 ·rename_i hc
  simp only []
  generalize (if fin = true then r.any else true) = any
  split
  ·refine ⟨?_,?_,h3,by simp only; omega,h5,h6,h7⟩
   ·simp only; split <;> omega
   ·simp only; split <;> omega
  ·unfold RS.sep
   simp only []
   split
   ·refine ⟨by simp,by simp,by simp,by simp,by simp,by simp,?_⟩
    simp only
    by_cases hh : any = true /\ r.all.length < 16
    ·rw [if_pos hh]; simp; omega
    ·rw [if_neg hh]; exact h7
   ·refine ⟨by simp,by simp,by simp,by simp only; omega,?_,?_,h7⟩
    ·simp only; split
     ·rename_i hp; have := h6 hp; simp; omega
     ·exact h5
    ·intro hp
     simp only at hp ⊢
     rw [if_pos (by omega)]
     have := h6 (by omega)
     simp; omega
def RL (base : Nat) (H : AHeap) (va vo : AV) (r : RS) : Prop :=
 ∃ (M : List (Nat × List Int)) (ob : Nat) (l : List Cel),M.map (·.2) = r.all /\ vo = .slc ob 0 r.one.length r.one.length /\ Hp base H (⟨ob,1,ints r.one⟩ :: l) ∧
  ((M = [] /\ va = .nils /\ l = []) \/ ∃ b,M ≠ [] /\ va = .slc b 0 M.length M.length /\ l = ⟨b,1,heads M⟩ :: inner M)
theorem RL.len {base : Nat} {H : AHeap} {va vo : AV} {r : RS} (h : RL base H va vo r) : lngV H 1 va = some (.int .i64 r.all.length) := by
 obtain ⟨M,ob,l,hM,_,_,hc⟩ := h
 rw [<- hM]
 rcases hc with ⟨rfl,rfl,_⟩ | ⟨b,_,rfl,_⟩
 ·rfl
 ·simp [lngV_slc]
theorem RL.number {base : Nat} {H : AHeap} {va vo : AV} {r : RS} (h : RL base H va vo r) (ho : r.one.length <= 8) (x : Int) (any : Bool) (n : Int) (parts : Nat) :
  ∃ H1 H2 w,H.alloc (.row ⟨[.int .i64 x],0,false,true,0⟩) = H1 /\ appendE H1 1 8 vo (.slc H.next 0 1 1) = some (w,H2) /\ RL base H2 va w ⟨r.all,r.one ++ [x],n,any,parts⟩ /\ Keep base H H2 := by
 obtain ⟨M,ob,l,hM,rfl,hp,hc⟩ := h
 obtain ⟨H1,s1,h1,k1⟩ := hp.make [.int .i64 x] 1
 obtain ⟨B,r1,c1⟩ := h1.rowOf (cs := [.int .i64 x]) (List.mem_cons_self ..)
 obtain ⟨H2,s2,h2,k2⟩ := (h1.swap).append1 (bytes := 8) (o2 := 0) (c2 := 1) (v := .int .i64 x) (n := r.one.length) (by simp) r1 (by rw [c1]; rfl) rfl (by omega) (by omega)
 have e : ints (r.one ++ [x]) = ints r.one ++ [.int .i64 x] := by simp
 refine ⟨H1,H2,_,s1,s2,⟨M,H1.next,l,hM,by simp,?_,hc⟩,k1.trans k2⟩
 simp only [e]
 exact h2.swap.drop
theorem RL.list {base : Nat} {H : AHeap} {va vo : AV} {r : RS} (h : RL base H va vo r) (ha : r.all.length <= 16) (any : Bool) (n : Int) (parts : Nat) :
  ∃ H1 H2 H3 w,H.alloc (.row ⟨[vo],0,false,true,0⟩) = H1 /\ bs1V vo = some (.row ⟨[vo],0,false,true,0⟩,.slc 1 1) /\ appendE H1 1 24 va (.slc H.next 0 1 1) = some (w,H2) /\ H2.alloc (.row ⟨[],0,false,true,0⟩) = H3 /\ RL base H3 w (.slc H2.next 0 0 0) ⟨r.all ++ [r.one],[],n,any,parts⟩ /\ Keep base H H3 := by
 obtain ⟨M,ob,l,hM,rfl,hp,hc⟩ := h
 have hl : M.length = r.all.length := by rw [<- hM]; simp
 obtain ⟨H1,s1,h1,k1⟩ := hp.make [.slc ob 0 r.one.length r.one.length] 1
 obtain ⟨w,H2,s2,h2,k2⟩ := LL.push (H := H1) (base := base) (v := va) (M := M) (ib := ob) (m := r.one.length) (tb := H.next) (l := r.one) (by
    rcases hc with ⟨q1,q2,rfl⟩ | ⟨b,q1,q2,rfl⟩
    ·exact .inl ⟨q1,q2,h1⟩
    ·exact .inr ⟨b,q1,q2,h1⟩) rfl (by omega)
 obtain ⟨H3,s3,h3,k3⟩ : ∃ H3,H2.alloc (.row ⟨[],0,false,true,0⟩) = H3 /\ RL base H3 w (.slc H2.next 0 0 0) ⟨r.all ++ [r.one],[],n,any,parts⟩ /\ Keep base H2 H3 := by
  rcases h2 with ⟨q1,q2,q3⟩ | ⟨b,q1,q2,q3⟩
  ·simp at q1
  ·obtain ⟨H3,s3,h3,k3⟩ := q3.make [] 1
   exact ⟨H3,s3,⟨_,H2.next,_,by simp [hM],rfl,h3,.inr ⟨b,q1,q2,rfl⟩⟩,k3⟩
 exact ⟨H1,H2,H3,w,s1,rfl,s2,s3,h3,k1.trans (k2.trans k3)⟩
theorem RL.fresh {base : Nat} {H : AHeap} {va vo : AV} {r : RS} (h : RL base H va vo r) (any : Bool) (n : Int) (parts : Nat) :
  ∃ H3,H.alloc (.row ⟨[],0,false,true,0⟩) = H3 /\ RL base H3 va (.slc H.next 0 0 0) ⟨r.all,[],n,any,parts⟩ /\ Keep base H H3 := by
 obtain ⟨M,ob,l,hM,rfl,hp,hc⟩ := h
 obtain ⟨H3,s3,h3,k3⟩ := hp.drop.make [] 1
 exact ⟨H3,s3,⟨M,H.next,l,hM,rfl,h3,hc⟩,k3⟩
theorem RL.set {base : Nat} {H : AHeap} {va vo : AV} {r : RS} (h : RL base H va vo r) (any : Bool) (n : Int) (parts : Nat) : RL base H va vo ⟨r.all,r.one,n,any,parts⟩ := h
def RS.upto (t : List UInt8) (k : Nat) : RS := if k <= t.length then RS.none.feed (t.take k) else (RS.none.feed t).step 59 true
theorem RS.upto_lt {t : List UInt8} {k : Nat} (h : k < t.length) : RS.upto t (k + 1) = (RS.upto t k).step (t[k].toNat : Int) false := by
 unfold RS.upto
 rw [if_pos (by omega),if_pos (by omega)]
 unfold RS.feed
 rw [List.take_succ_eq_append_getElem h,List.foldl_append]
 rfl
theorem RS.upto_end {t : List UInt8} : RS.upto t (t.length + 1) = (RS.upto t t.length).step 59 true := by
 unfold RS.upto
 rw [if_neg (by omega),if_pos (by omega),List.take_length]
set_option maxHeartbeats 8000000 in
theorem refall_spec {Q : Prog} (hq : Q.fns 44 = some A44) (ho : ∀ a,Q.orc 44 a = Option.none) {H : AHeap} (hf : ∀ b,H.next <= b -> H.get b = Option.none) {t : List UInt8} (ht : t.length <= 100000) :
  FnTo Q 44 [.str t] H (fun r H' => Keep H.next H H' /\ ∃ M,LL H.next H' r M /\ M.map (·.2) = refAll t) := by
 refine fn_wp (ho _) hq (by simp [A44]) ?_
 obtain ⟨H1,s1,h1,k1⟩ := (Hp.nil H hf).make [] 1
 simp only [A44,s1,SX,↓reduceIte]
 obtain ⟨I,hI⟩ : ∃ I : Nat -> Env -> AHeap -> Prop,∀ m e H',I m e H' ↔ (Keep H.next H H' /\ ∃ (k : Nat) (r : RS) (va vo : AV),m = t.length + 1 - k /\ k <= t.length + 1 /\ r = RS.upto t k /\ r.Ok k /\ RL H.next H' va vo r ∧
   Env.get e 0 = .str t /\ Env.get e 3 = va /\ Env.get e 4 = vo /\ Env.get e 5 = .int .i64 r.n /\ Env.get e 6 = .bool r.any /\ Env.get e 7 = .int .i64 r.parts /\ Env.get e 8 = .int .i64 k) := ⟨_,fun _ _ _ => Iff.rfl⟩
 refine loop_by I (t.length + 1) ?_ ?_
 ·refine (hI _ _ _).2 ⟨k1,0,RS.none,.nils,.slc H.next 0 0 0,rfl,by omega,?_,⟨by simp [RS.none],by simp [RS.none],by simp [RS.none],by simp [RS.none],by simp [RS.none],by simp [RS.none],by simp [RS.none]⟩,⟨[],H.next,[],rfl,rfl,h1,.inl ⟨rfl,rfl,rfl⟩⟩,?_⟩
  ·simp [RS.upto,RS.feed]
  ·simp only [SX,reduceCtorEq,Nat.reduceEqDiff,↓reduceIte]
   exact ⟨rfl,rfl,rfl,rfl⟩
 ·intro m e H' hinv
  obtain ⟨hk,k,r,va,vo,rfl,hkl,hr,hok,hrl,e0,e3,e4,e5,e6,e7,e8⟩ := (hI _ _ _).1 hinv
  have q1 := hok.n0; have q2 := hok.n1; have q3 := hok.p0; have q4 := hok.p1; have q5 := hok.o8; have q6 := hok.op; have q7 := hok.a16
  have la := hrl.len
  by_cases hle : (k : Int) <= t.length
  ·have hw : IntKind.wrap .i64 ((k : Int) + 1) = ((k + 1 : Nat) : Int) := by rw [wrapI64 (by omega) (by omega)]; rfl
   have hwp : IntKind.wrap .i64 ((r.parts : Int) + 1) = ((r.parts + 1 : Nat) : Int) := by rw [wrapI64 (by omega) (by omega)]; rfl
   have next : ∀ (c : Int) (fin : Bool) (e' : Env) (H2 : AHeap) (va' vo' : AV) (r' : RS),RS.upto t (k + 1) = r.step c fin -> r.step c fin = r' -> Keep H.next H H2 -> RL H.next H2 va' vo' r' ->
     (Env.get e' 0 = .str t /\ Env.get e' 3 = va' /\ Env.get e' 4 = vo' /\ Env.get e' 5 = .int .i64 r'.n /\ Env.get e' 6 = .bool r'.any /\ Env.get e' 7 = .int .i64 r'.parts /\ Env.get e' 8 = .int .i64 ((k + 1 : Nat) : Int)) -> ∃ m',m' < t.length + 1 - k /\ I m' e' H2 := by
    intro c fin e' H2 va' vo' r' h1 h2 h3 h4 h5
    refine ⟨t.length + 1 - (k + 1),by omega,(hI _ _ _).2 ⟨h3,k + 1,r',va',vo',rfl,by omega,?_,?_,h4,h5⟩⟩
    ·rw [h1,h2]
    ·rw [<- h2]; exact hok.step c fin
   by_cases hlt : (k : Int) < t.length
   ·have h3 : k < t.length := by omega
    obtain ⟨c,hc⟩ : ∃ c : Int,c = (t[k].toNat : Int) := ⟨_,rfl⟩
    have hix := idxStr_at (List.getElem?_eq_getElem h3) .i64
    have hup := RS.upto_lt h3
    rw [<- hr,<- hc] at hup
    rw [<- hc] at hix
    have hc0 : 0 <= c /\ c <= 255 := by have := t[k].toNat_lt; omega
    by_cases c1 : c < 48
    ·simp only [e0,e8,hle,hlt,hix,c1,hw,SX,reduceCtorEq,Nat.reduceEqDiff,↓reduceIte]
     refine next c false _ _ va vo r hup (by unfold RS.step; rw [if_pos (.inl c1)]) hk hrl ?_
     simp only [e0,e3,e4,e5,e6,e7,SX,reduceCtorEq,Nat.reduceEqDiff,↓reduceIte]
    by_cases c2 : 59 < c
    ·simp only [e0,e8,hle,hlt,hix,c1,c2,hw,SX,reduceCtorEq,Nat.reduceEqDiff,↓reduceIte]
     refine next c false _ _ va vo r hup (by unfold RS.step; rw [if_pos (.inr c2)]) hk hrl ?_
     simp only [e0,e3,e4,e5,e6,e7,SX,reduceCtorEq,Nat.reduceEqDiff,↓reduceIte]
    have st : r.step c false = if c <= 57 then ⟨r.all,r.one,if r.parts <= 8 then min (10 * r.n + (c - 48)) 9999 else r.n,true,r.parts⟩ else r.sep c true := by
     unfold RS.step
     rw [if_neg (by omega)]
     rfl
    by_cases c3 : c <= 57
    ·rw [if_pos c3] at st
     by_cases p8 : (r.parts : Int) <= 8
     ·rw [if_pos (show r.parts <= 8 by omega)] at st
      have w1 : IntKind.wrap .i64 (10 * r.n) = 10 * r.n := wrapI64 (by omega) (by omega)
      have w2 : IntKind.wrap .i64 c = c := wrapI64 (by omega) (by omega)
      have w3 : IntKind.wrap .i64 (10 * r.n + c) = 10 * r.n + c := wrapI64 (by omega) (by omega)
      have w4 : IntKind.wrap .i64 (10 * r.n + c - 48) = 10 * r.n + c - 48 := wrapI64 (by omega) (by omega)
      by_cases big : 9999 < 10 * r.n + c - 48
      ·simp only [e0,e5,e7,e8,hle,hlt,hix,c1,c2,c3,p8,w1,w2,w3,w4,big,hw,SX,reduceCtorEq,Nat.reduceEqDiff,↓reduceIte]
       refine next c false _ _ va vo _ hup (st.trans (by rw [show min (10 * r.n + (c - 48)) 9999 = 9999 by omega])) hk (hrl.set true 9999 r.parts) ?_
       simp only [e0,e3,e4,e7,SX,reduceCtorEq,Nat.reduceEqDiff,↓reduceIte]
      ·simp only [e0,e5,e7,e8,hle,hlt,hix,c1,c2,c3,p8,w1,w2,w3,w4,big,hw,SX,reduceCtorEq,Nat.reduceEqDiff,↓reduceIte]
       refine next c false _ _ va vo _ hup (st.trans (by rw [show min (10 * r.n + (c - 48)) 9999 = 10 * r.n + c - 48 by omega])) hk (hrl.set true (10 * r.n + c - 48) r.parts) ?_
       simp only [e0,e3,e4,e7,SX,reduceCtorEq,Nat.reduceEqDiff,↓reduceIte]
     ·rw [if_neg (show ¬ r.parts <= 8 by omega)] at st
      simp only [e0,e7,e8,hle,hlt,hix,c1,c2,c3,p8,hw,SX,reduceCtorEq,Nat.reduceEqDiff,↓reduceIte]
      refine next c false _ _ va vo _ hup st hk (hrl.set true r.n r.parts) ?_
      simp only [e0,e3,e4,e5,e7,SX,reduceCtorEq,Nat.reduceEqDiff,↓reduceIte]
    ·rw [if_neg c3] at st
     by_cases c4 : c = 59
     ·subst c4
      by_cases p8 : (r.parts : Int) <= 8
      ·obtain ⟨H2,H3,w,s2,s3,hrl2,k2⟩ := hrl.number q5 r.n true 0 (r.parts + 1)
       have la2 := hrl2.len
       by_cases l16 : (r.all.length : Int) < 16
       ·obtain ⟨H4,H5,H6,w2,s4,sb,s5,s6,hrl3,k3⟩ := hrl2.list q7 true 0 1
        have st2 : r.sep 59 true = ⟨r.all ++ [r.one ++ [r.n]],[],0,true,1⟩ := by unfold RS.sep; simp only [if_pos (show r.parts <= 8 by omega),if_true,true_and,if_pos (show r.all.length < 16 by omega)]
        simp only [e0,e3,e4,e5,e7,e8,hle,hlt,hix,p8,s2,s3,la2,l16,sb,s4,s5,s6,hwp,hw,SX,reduceCtorEq,Nat.reduceEqDiff,↓reduceIte,Int.reduceLT,Int.reduceLE]
        refine next 59 false _ _ w2 _ _ hup (st.trans st2) (hk.trans (k2.trans k3)) hrl3 ?_
        simp only [e0,SX,reduceCtorEq,Nat.reduceEqDiff,↓reduceIte]
        rfl
       ·obtain ⟨H4,s4,hrl3,k3⟩ := hrl2.fresh true 0 1
        have st2 : r.sep 59 true = ⟨r.all,[],0,true,1⟩ := by unfold RS.sep; simp only [if_true,true_and,if_neg (show ¬ r.all.length < 16 by omega)]
        simp only [e0,e3,e4,e5,e7,e8,hle,hlt,hix,p8,s2,s3,la2,l16,s4,hwp,hw,SX,reduceCtorEq,Nat.reduceEqDiff,↓reduceIte,Int.reduceLT,Int.reduceLE]
        refine next 59 false _ _ va _ _ hup (st.trans st2) (hk.trans (k2.trans k3)) hrl3 ?_
        simp only [e0,e3,SX,reduceCtorEq,Nat.reduceEqDiff,↓reduceIte]
        rfl
      ·by_cases l16 : (r.all.length : Int) < 16
       ·obtain ⟨H4,H5,H6,w2,s4,sb,s5,s6,hrl3,k3⟩ := hrl.list q7 true 0 1
        have st2 : r.sep 59 true = ⟨r.all ++ [r.one],[],0,true,1⟩ := by unfold RS.sep; simp only [if_neg (show ¬ r.parts <= 8 by omega),if_true,true_and,if_pos (show r.all.length < 16 by omega)]
        simp only [e0,e3,e4,e7,e8,hle,hlt,hix,p8,la,l16,sb,s4,s5,s6,hwp,hw,SX,reduceCtorEq,Nat.reduceEqDiff,↓reduceIte,Int.reduceLT,Int.reduceLE]
        refine next 59 false _ _ w2 _ _ hup (st.trans st2) (hk.trans k3) hrl3 ?_
        simp only [e0,SX,reduceCtorEq,Nat.reduceEqDiff,↓reduceIte]
        rfl
       ·obtain ⟨H4,s4,hrl3,k3⟩ := hrl.fresh true 0 1
        have st2 : r.sep 59 true = ⟨r.all,[],0,true,1⟩ := by unfold RS.sep; simp only [if_true,true_and,if_neg (show ¬ r.all.length < 16 by omega)]
        simp only [e0,e3,e7,e8,hle,hlt,hix,p8,la,l16,s4,hwp,hw,SX,reduceCtorEq,Nat.reduceEqDiff,↓reduceIte,Int.reduceLT,Int.reduceLE]
        refine next 59 false _ _ va _ _ hup (st.trans st2) (hk.trans k3) hrl3 ?_
        simp only [e0,e3,SX,reduceCtorEq,Nat.reduceEqDiff,↓reduceIte]
        rfl
     ·by_cases p8 : (r.parts : Int) <= 8
      ·obtain ⟨H2,H3,w,s2,s3,hrl2,k2⟩ := hrl.number q5 r.n true 0 (r.parts + 1)
       have st2 : r.sep c true = ⟨r.all,r.one ++ [r.n],0,true,r.parts + 1⟩ := by unfold RS.sep; simp only [if_pos (show r.parts <= 8 by omega),if_neg c4]
       simp only [e0,e4,e5,e7,e8,hle,hlt,hix,c1,c2,c3,c4,p8,s2,s3,hwp,hw,SX,reduceCtorEq,Nat.reduceEqDiff,↓reduceIte]
       refine next c false _ _ va w _ hup (st.trans st2) (hk.trans k2) hrl2 ?_
       simp only [e0,e3,SX,reduceCtorEq,Nat.reduceEqDiff,↓reduceIte]
      ·have st2 : r.sep c true = ⟨r.all,r.one,0,true,r.parts + 1⟩ := by unfold RS.sep; simp only [if_neg (show ¬ r.parts <= 8 by omega),if_neg c4]
       simp only [e0,e7,e8,hle,hlt,hix,c1,c2,c3,c4,p8,hwp,hw,SX,reduceCtorEq,Nat.reduceEqDiff,↓reduceIte]
       refine next c false _ _ va vo _ hup (st.trans st2) hk (hrl.set true 0 (r.parts + 1)) ?_
       simp only [e0,e3,e4,SX,reduceCtorEq,Nat.reduceEqDiff,↓reduceIte]
   ·have hke : k = t.length := by omega
    have hup : RS.upto t (k + 1) = r.step 59 true := by rw [hr,hke]; exact RS.upto_end
    have st : r.step 59 true = r.sep 59 r.any := by
     unfold RS.step
     rw [if_neg (by omega)]
     simp
    cases hany : r.any with
    | true =>
     rw [hany] at st e6
     by_cases p8 : (r.parts : Int) <= 8
     ·obtain ⟨H2,H3,w,s2,s3,hrl2,k2⟩ := hrl.number q5 r.n true 0 (r.parts + 1)
      have la2 := hrl2.len
      by_cases l16 : (r.all.length : Int) < 16
      ·obtain ⟨H4,H5,H6,w2,s4,sb,s5,s6,hrl3,k3⟩ := hrl2.list q7 true 0 1
       have st2 : r.sep 59 true = ⟨r.all ++ [r.one ++ [r.n]],[],0,true,1⟩ := by unfold RS.sep; simp only [if_pos (show r.parts <= 8 by omega),if_true,true_and,if_pos (show r.all.length < 16 by omega)]
       simp only [e0,e3,e4,e5,e6,e7,e8,hle,hlt,p8,s2,s3,la2,l16,sb,s4,s5,s6,hwp,hw,SX,reduceCtorEq,Nat.reduceEqDiff,↓reduceIte,Int.reduceLT,Int.reduceLE]
       refine next 59 true _ _ w2 _ _ hup (st.trans st2) (hk.trans (k2.trans k3)) hrl3 ?_
       simp only [e0,e6,SX,reduceCtorEq,Nat.reduceEqDiff,↓reduceIte]
       rfl
      ·obtain ⟨H4,s4,hrl3,k3⟩ := hrl2.fresh true 0 1
       have st2 : r.sep 59 true = ⟨r.all,[],0,true,1⟩ := by unfold RS.sep; simp only [if_true,true_and,if_neg (show ¬ r.all.length < 16 by omega)]
       simp only [e0,e3,e4,e5,e6,e7,e8,hle,hlt,p8,s2,s3,la2,l16,s4,hwp,hw,SX,reduceCtorEq,Nat.reduceEqDiff,↓reduceIte,Int.reduceLT,Int.reduceLE]
       refine next 59 true _ _ va _ _ hup (st.trans st2) (hk.trans (k2.trans k3)) hrl3 ?_
       simp only [e0,e3,e6,SX,reduceCtorEq,Nat.reduceEqDiff,↓reduceIte]
       rfl
     ·by_cases l16 : (r.all.length : Int) < 16
      ·obtain ⟨H4,H5,H6,w2,s4,sb,s5,s6,hrl3,k3⟩ := hrl.list q7 true 0 1
       have st2 : r.sep 59 true = ⟨r.all ++ [r.one],[],0,true,1⟩ := by unfold RS.sep; simp only [if_neg (show ¬ r.parts <= 8 by omega),if_true,true_and,if_pos (show r.all.length < 16 by omega)]
       simp only [e0,e3,e4,e6,e7,e8,hle,hlt,p8,la,l16,sb,s4,s5,s6,hwp,hw,SX,reduceCtorEq,Nat.reduceEqDiff,↓reduceIte,Int.reduceLT,Int.reduceLE]
       refine next 59 true _ _ w2 _ _ hup (st.trans st2) (hk.trans k3) hrl3 ?_
       simp only [e0,e6,SX,reduceCtorEq,Nat.reduceEqDiff,↓reduceIte]
       rfl
      ·obtain ⟨H4,s4,hrl3,k3⟩ := hrl.fresh true 0 1
       have st2 : r.sep 59 true = ⟨r.all,[],0,true,1⟩ := by unfold RS.sep; simp only [if_true,true_and,if_neg (show ¬ r.all.length < 16 by omega)]
       simp only [e0,e3,e6,e7,e8,hle,hlt,p8,la,l16,s4,hwp,hw,SX,reduceCtorEq,Nat.reduceEqDiff,↓reduceIte,Int.reduceLT,Int.reduceLE]
       refine next 59 true _ _ va _ _ hup (st.trans st2) (hk.trans k3) hrl3 ?_
       simp only [e0,e3,e6,SX,reduceCtorEq,Nat.reduceEqDiff,↓reduceIte]
       rfl
    | false =>
     rw [hany] at st e6
     by_cases p8 : (r.parts : Int) <= 8
     ·obtain ⟨H2,H3,w,s2,s3,hrl2,k2⟩ := hrl.number q5 r.n false 0 (r.parts + 1)
      obtain ⟨H4,s4,hrl3,k3⟩ := hrl2.fresh false 0 1
      have st2 : r.sep 59 false = ⟨r.all,[],0,false,1⟩ := by unfold RS.sep; simp only [if_true,Bool.false_eq_true,false_and,if_false]
      simp only [e0,e4,e5,e6,e7,e8,hle,hlt,p8,s2,s3,s4,hwp,hw,SX,reduceCtorEq,Nat.reduceEqDiff,↓reduceIte,Int.reduceLT,Int.reduceLE]
      refine next 59 true _ _ va _ _ hup (st.trans st2) (hk.trans (k2.trans k3)) hrl3 ?_
      simp only [e0,e3,e6,SX,reduceCtorEq,Nat.reduceEqDiff,↓reduceIte]
      rfl
     ·obtain ⟨H4,s4,hrl3,k3⟩ := hrl.fresh false 0 1
      have st2 : r.sep 59 false = ⟨r.all,[],0,false,1⟩ := by unfold RS.sep; simp only [if_true,Bool.false_eq_true,false_and,if_false]
      simp only [e0,e6,e7,e8,hle,hlt,p8,s4,hwp,hw,SX,reduceCtorEq,Nat.reduceEqDiff,↓reduceIte,Int.reduceLT,Int.reduceLE]
      refine next 59 true _ _ va _ _ hup (st.trans st2) (hk.trans k3) hrl3 ?_
      simp only [e0,e3,e6,SX,reduceCtorEq,Nat.reduceEqDiff,↓reduceIte]
      rfl
  ·obtain rfl : k = t.length + 1 := by omega
   simp only [e0,e3,e8,hle,SX,reduceCtorEq,Nat.reduceEqDiff,↓reduceIte]
   have hall : r.all = refAll t := by rw [hr]; unfold RS.upto refAll; rw [if_neg (by omega)]
   obtain ⟨M,ob,l,hM,hv,hp,hc⟩ := hrl
   rw [<- hall]
   refine ⟨hk,M,?_,hM⟩
   rcases hc with ⟨rfl,rfl,rfl⟩ | ⟨b,hb,rfl,rfl⟩
   ·exact .inl ⟨rfl,rfl,hp.drop⟩
   ·exact .inr ⟨b,hb,rfl,hp.drop⟩
end Go.Proofs.YtfbcgjpblomckaaDoor.AM.EvN.Rf
