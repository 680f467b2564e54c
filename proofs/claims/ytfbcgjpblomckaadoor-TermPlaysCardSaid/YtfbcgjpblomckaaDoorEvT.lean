import Derived.Test.YtfbcgjpblomckaaDoorAtT
set_option linter.unusedVariables false
set_option linter.unusedSimpArgs false
namespace Go.Proofs.YtfbcgjpblomckaaDoor.AM.EvN
open Go
theorem row_lt {H : AHeap} (hf : Fr H) {b : Nat} {B : Blk} (h : H.row b = some B) : b < H.next := Nat.lt_of_not_le fun hh => by
 have := hf b hh
 simp [AHeap.row,this] at h
theorem _root_.Go.Proofs.YtfbcgjpblomckaaDoor.AM.IsSl.grow {α : Type} {R : AHeap -> α -> AV -> Prop} {H H' : AHeap} {v : AV} {l : List α} (hR : ∀ x c,R H x c -> R H' x c) (h : IsSl R H v l) (hf : Fr H) (g : Gr H H') : IsSl R H' v l := by
 rcases h with h | ⟨b,o,cap,B,h1,h2,h3⟩
 ·exact .inl h
 ·refine .inr ⟨b,o,cap,B,h1,by rw [g.keep.row (row_lt hf h2)]; exact h2,fun i x hx => ?_⟩
  obtain ⟨c,k1,k2⟩ := h3 i x hx
  exact ⟨c,k1,hR _ _ k2⟩
structure Ev where
 k : Int
 r : Int
 f : Int
 m : List UInt8
 v : AV
 t : List UInt8
 L : List (List Int)
def Ev.cs (a : Ev) : List AV := [.int .i64 a.k,.int .i32 a.r,.int .u8 a.f,.str a.m,a.v,.str a.t]
def Ev.val (a : Ev) : AV := .agg a.cs
def Ev.ok (H : AHeap) (a : Ev) : Prop := IsSl IsInts H a.v a.L
structure InE (H : AHeap) (p : Nat) (a : Ev) : Prop where
 l0 : loadV H Option.none (.ptr p 0) = some (.int .i64 a.k)
 l1 : loadV H Option.none (.ptr p 1) = some (.int .i32 a.r)
 l2 : loadV H Option.none (.ptr p 2) = some (.int .u8 a.f)
 l3 : loadV H Option.none (.ptr p 3) = some (.str a.m)
 l4 : loadV H Option.none (.ptr p 4) = some a.v
 l5 : loadV H Option.none (.ptr p 5) = some (.str a.t)
 all : loadV H (some 6) (.ptr p 0) = some a.val
theorem InE.grow {H H' : AHeap} {p : Nat} {a : Ev} (k : InE H p a) (hg : Gr H H') (hp : p < H.next) : InE H' p a := by
 have hl : ∀ (sz : Option Nat) (o : Nat),loadV H' sz (.ptr p o) = loadV H sz (.ptr p o) := fun sz o => by
  simp only [loadV,ROp.run,Opd.ev,hg.keep.row hp]
 exact ⟨by rw [hl]; exact k.l0,by rw [hl]; exact k.l1,by rw [hl]; exact k.l2,by rw [hl]; exact k.l3,by rw [hl]; exact k.l4,by rw [hl]; exact k.l5,by rw [hl]; exact k.all⟩
theorem bin_eqls (a b : List UInt8) : binV .eql (.str a) (.str b) = some (.bool (decide (a = b))) := by
 simp only [binV,strBin]
 by_cases h : a = b <;> simp [h]
theorem perm_in {α : Type} (x : α) (a l : List α) : (x :: (a ++ l)).Perm (a ++ [x] ++ l) := by
 simpa using (List.perm_middle (a := x) (l₁ := a) (l₂ := l)).symm
theorem _root_.Go.Proofs.YtfbcgjpblomckaaDoor.AM.Hp.join {base : Nat} {H H' : AHeap} {l l' : List Cel} (h : Hp base H l) (g : Gr H H') (h' : Hp H.next H' l') : Hp base H' (l' ++ l) := by
 have h2 := h.keep g.keep g.next g.fr
 refine ⟨fun x hx => ?_,?_,fun x hx => ?_,h2.bn,h2.fr⟩
 ·rcases List.mem_append.1 hx with hx | hx
  ·exact h'.has x hx
  ·exact h2.has x hx
 ·rw [List.map_append,List.nodup_append]
  refine ⟨h'.nd,h.nd,?_⟩
  intro a ha c hc hac
  obtain ⟨x,hx,rfl⟩ := List.mem_map.1 ha
  obtain ⟨y,hy,rfl⟩ := List.mem_map.1 hc
  have := h'.lo x hx
  have := h.lt hy
  omega
 ·rcases List.mem_append.1 hx with hx | hx
  ·exact Nat.le_trans h.bn (h'.lo x hx)
  ·exact h.lo x hx
structure Rst where
 c0 : AV
 c1 : AV
 c2 : AV
 c3 : AV
 c4 : AV
 c5 : AV
 c9 : AV
 c10 : AV
 c11 : AV
 c12 : AV
 c13 : AV
 c14 : AV
abbrev Rst.cs (r : Rst) (v a b : AV) : List AV := [r.c0,r.c1,r.c2,r.c3,r.c4,r.c5,v,a,b,r.c9,r.c10,r.c11,r.c12,r.c13,r.c14]
def heads (M : List (Nat × List Int)) : List AV := M.map fun x => .slc x.1 0 x.2.length x.2.length
def inner (M : List (Nat × List Int)) : List Cel := M.map fun x => ⟨x.1,1,ints x.2⟩
def PL (ρ : Rst) (ll : List Cel) (base : Nat) (H : AHeap) (p : Nat) (M : List (Nat × List Int)) (ov fu : Bool) : Prop :=
 (M = [] /\ Hp base H (⟨p,1,ρ.cs .nils (.bool ov) (.bool fu)⟩ :: ll)) \/ ∃ b,M ≠ [] /\ Hp base H (⟨p,1,ρ.cs (.slc b 0 M.length M.length) (.bool ov) (.bool fu)⟩ :: ⟨b,1,heads M⟩ :: (inner M ++ ll))
set_option maxHeartbeats 1000000 in
theorem begins_spec {Q : Prog} (hq : Q.fns 79 = some A79) (ho : ∀ a,Q.orc 79 a = none) {ρ : Rst} {ll : List Cel} {base : Nat} {H : AHeap} {p : Nat} {M : List (Nat × List Int)} {ov fu : Bool} (h : PL ρ ll base H p M ov fu) (hM : M.length <= 16) :
  FnTo Q 79 [.ptr p 6] H (fun r H' => Keep base H H' /\ if M.length = 16 then PL ρ ll base H' p M true false else ∃ nb,PL ρ ll base H' p (M ++ [(nb,[0])]) false false) := by
 refine fn_wp (ho _) hq (by simp [A79]) ?_
 rcases h with ⟨rfl,h⟩ | ⟨b,hne,h⟩
 ·obtain ⟨H1,s1,h1,k1,_⟩ := h.store (o := 8) (v := .bool false) rfl (by simp)
  have l1 := h1.load (o := 6) (List.mem_cons_self ..) rfl
  obtain ⟨H2,s2,h2,k2,_⟩ := h1.store (o := 7) (v := .bool false) rfl (by simp)
  have l2 := h2.load (o := 7) (List.mem_cons_self ..) rfl
  have l3 := h2.load (o := 6) (List.mem_cons_self ..) rfl
  obtain ⟨H3,s3,h3,k3⟩ := h2.make [.int .i64 0] 1
  obtain ⟨H4,s4,h4,k4⟩ := h3.make [.slc H2.next 0 1 1] 1
  obtain ⟨B,r4,c4⟩ := h4.rowOf (cs := [.slc H2.next 0 1 1]) (List.mem_cons_self ..)
  obtain ⟨H5,s5,h5,k5⟩ := h4.append0 (bytes := 24) (o2 := 0) (c2 := 1) (v := .slc H2.next 0 1 1) r4 (by rw [c4]; rfl) rfl (by omega) (by omega)
  have h6 := h5.swap.drop.rot3
  obtain ⟨H7,s7,h7,k7,_⟩ := h6.store (o := 6) (v := .slc H4.next 0 1 1) rfl (by simp)
  simp only [A79,s1,l1,s2,l2,l3,s3,s4,s5,s7,SX,reduceCtorEq,Nat.reduceEqDiff,↓reduceIte,Int.reduceEq,Nat.reduceAdd]
  exact ⟨k1.trans (k2.trans (k3.trans (k4.trans (k5.trans k7)))),H2.next,.inr ⟨H4.next,by simp,h7⟩⟩
 ·have hw : (M.length : Int) = 16 ↔ M.length = 16 := by omega
  obtain ⟨H1,s1,h1,k1,_⟩ := h.store (o := 8) (v := .bool false) rfl (by simp)
  have l1 := h1.load (o := 6) (List.mem_cons_self ..) rfl
  by_cases h16 : M.length = 16
  ·have h16' : (M.length : Int) = 16 := by omega
   obtain ⟨H2,s2,h2,k2,_⟩ := h1.store (o := 7) (v := .bool true) rfl (by simp)
   have l2 := h2.load (o := 7) (List.mem_cons_self ..) rfl
   simp only [A79,s1,l1,s2,l2,h16',SX,reduceCtorEq,Nat.reduceEqDiff,↓reduceIte,Nat.reduceAdd]
   rw [if_pos h16]
   exact ⟨k1.trans k2,.inr ⟨b,hne,h2⟩⟩
  ·have h16' : ¬ (M.length : Int) = 16 := by omega
   obtain ⟨H2,s2,h2,k2,_⟩ := h1.store (o := 7) (v := .bool false) rfl (by simp)
   have l2 := h2.load (o := 7) (List.mem_cons_self ..) rfl
   have l3 := h2.load (o := 6) (List.mem_cons_self ..) rfl
   obtain ⟨H3,s3,h3,k3⟩ := h2.make [.int .i64 0] 1
   obtain ⟨H4,s4,h4,k4⟩ := h3.make [.slc H2.next 0 1 1] 1
   obtain ⟨B,r4,c4⟩ := h4.rowOf (cs := [.slc H2.next 0 1 1]) (List.mem_cons_self ..)
   obtain ⟨H5,s5,h5,k5⟩ := (h4.rot4).append1 (bytes := 24) (o2 := 0) (c2 := 1) (v := .slc H2.next 0 1 1) (n := M.length) (by simp [heads]) r4 (by rw [c4]; rfl) rfl (by omega) (by omega)
   have h6 := h5.swap.drop.rot3
   obtain ⟨H7,s7,h7,k7,_⟩ := h6.store (o := 6) (v := .slc H4.next 0 (M.length + 1) (M.length + 1)) rfl (by simp)
   simp only [A79,s1,l1,s2,l2,l3,s3,s4,s5,s7,h16,h16',SX,reduceCtorEq,Nat.reduceEqDiff,↓reduceIte,Nat.reduceAdd]
   refine ⟨k1.trans (k2.trans (k3.trans (k4.trans (k5.trans k7)))),H2.next,.inr ⟨H4.next,by simp,?_⟩⟩
   have e1 : heads (M ++ [(H2.next,[0])]) = heads M ++ [.slc H2.next 0 1 1] := by simp [heads]
   have e2 : inner (M ++ [(H2.next,[0])]) = inner M ++ [⟨H2.next,1,[.int .i64 0]⟩] := by simp [inner]
   rw [e1,e2,List.length_append]
   exact h7.perm (List.Perm.cons _ (List.Perm.cons _ (perm_in _ (inner M) ll)))
structure PS where
 L : List (List Int)
 ov : Bool
 fu : Bool
def PS.begins (s : PS) : PS := if s.L.length = 16 then ⟨s.L,true,false⟩ else ⟨s.L ++ [[0]],false,false⟩
def PS.last (c : Int) (init : List (List Int)) (l : List Int) (s : PS) : PS :=
 if c = 59 then s.begins else if s.fu = true then s else
 if c = 58 then (if l.length = 8 then ⟨s.L,s.ov,true⟩ else ⟨init ++ [l ++ [0]],s.ov,s.fu⟩)
 else ⟨init ++ [l.set (l.length - 1) (min (10 * l.getD (l.length - 1) 0 + (c - 48)) 9999)],s.ov,s.fu⟩
def PS.step (c : Int) (s : PS) : PS := s.last c s.L.dropLast (s.L.getLastD [])
def PS.byte (c : Int) (s : PS) : PS :=
 if s.ov = true \/ c < 48 \/ 59 < c then s else PS.step c (if s.L.length = 0 then s.begins else s)
structure PS.Good (s : PS) : Prop where
 len : s.L.length <= 16
 el : ∀ l ∈ s.L,1 <= l.length /\ l.length <= 8 /\ ∀ x ∈ l,0 <= x /\ x <= 9999
def PLs (ρ : Rst) (ll : List Cel) (base : Nat) (H : AHeap) (p : Nat) (s : PS) : Prop := ∃ M,PL ρ ll base H p M s.ov s.fu /\ M.map (·.2) = s.L
theorem begins_pls {Q : Prog} (hq : Q.fns 79 = some A79) (ho : ∀ a,Q.orc 79 a = none) {ρ : Rst} {ll : List Cel} {base : Nat} {H : AHeap} {p : Nat} {s : PS} (h : PLs ρ ll base H p s) (hM : s.L.length <= 16) :
  FnTo Q 79 [.ptr p 6] H (fun r H' => Keep base H H' /\ PLs ρ ll base H' p s.begins) := by
 obtain ⟨M,h,e⟩ := h
 have hl : M.length = s.L.length := by rw [<- e]; simp
 refine (begins_spec hq ho h (by omega)).mono ?_
 rintro r H' ⟨hk,hp⟩
 refine ⟨hk,?_⟩
 unfold PS.begins
 by_cases h16 : M.length = 16
 ·rw [if_pos h16] at hp
  rw [if_pos (by omega)]
  exact ⟨M,hp,e⟩
 ·rw [if_neg h16] at hp
  rw [if_neg (by omega)]
  obtain ⟨nb,hp⟩ := hp
  exact ⟨_,hp,by simp [e]⟩
theorem begins_good {s : PS} (h : s.Good) : s.begins.Good := by
 unfold PS.begins
 split
 ·exact ⟨h.len,h.el⟩
 ·rename_i hh
  refine ⟨by have := h.len; simp; omega,fun l hl => ?_⟩
  rcases List.mem_append.1 hl with hl | hl
  ·exact h.el l hl
  ·simp at hl; subst hl; simp
theorem mkPL {ρ : Rst} {ll : List Cel} {base : Nat} {H : AHeap} {p b ib n m : Nat} {init : List (Nat × List Int)} {l : List Int} {ov fu : Bool} (h : Hp base H (⟨p,1,ρ.cs (.slc b 0 n n) (.bool ov) (.bool fu)⟩ :: ⟨b,1,heads init ++ [.slc ib 0 m m]⟩ :: ⟨ib,1,ints l⟩ :: (inner init ++ ll))) (hn : n = init.length + 1) (hm : l.length = m) : PL ρ ll base H p (init ++ [(ib,l)]) ov fu := by
 refine .inr ⟨b,by simp,?_⟩
 have hin : inner (init ++ [(ib,l)]) = inner init ++ [⟨ib,1,ints l⟩] := by simp [inner]
 have hhd : heads (init ++ [(ib,l)]) = heads init ++ [.slc ib 0 l.length l.length] := by simp [heads]
 have hn2 : (init ++ [(ib,l)]).length = n := by rw [hn]; simp
 rw [hin,hhd,hn2,hm]
 exact h.perm (List.Perm.cons _ (List.Perm.cons _ (perm_in _ (inner init) ll)))
abbrev A57r : ACode := sndC (sndC A62.body)
set_option maxHeartbeats 2000000 in
theorem byte_last {Q : Prog} (hq70 : Q.fns 79 = some A79) (ho70 : ∀ a,Q.orc 79 a = none) {ρ : Rst} {ll : List Cel} {base : Nat} {H : AHeap} {p : Nat} {c : Int} (hc : 48 <= c /\ c <= 59) {s : PS} (hg : s.Good) (h : PLs ρ ll base H p s) (hne : s.L ≠ []) {e : Env} (e0 : Env.get e 0 = .ptr p 6) (e1 : Env.get e 1 = .int .u8 c)
  {res : List ARes} (hres : res = []) {K : AV -> AHeap -> Prop} (hK : ∀ r H',Keep base H H' -> PLs ρ ll base H' p (PS.step c s) -> K r H') : ACode.wp Q A57r (fnK res K) e H := by
 subst hres
 obtain ⟨M,hp,eM⟩ := h
 rcases hp with ⟨rfl,_⟩ | ⟨b,hMne,hp⟩
 ·exact absurd (by rw [<- eM]; rfl) hne
 obtain ⟨init,⟨ib,l⟩,rfl⟩ : ∃ init x,M = init ++ [x] := ⟨M.dropLast,M.getLast hMne,(List.dropLast_concat_getLast hMne).symm⟩
 have hL : s.L = init.map (·.2) ++ [l] := by rw [<- eM]; simp
 have hin : inner (init ++ [(ib,l)]) = inner init ++ [⟨ib,1,ints l⟩] := by simp [inner]
 have hhd : heads (init ++ [(ib,l)]) = heads init ++ [.slc ib 0 l.length l.length] := by simp [heads]
 rw [hin] at hp
 have hl8 := hg.el l (by rw [hL]; simp)
 have hlen := hg.len
 have hlen' : init.length + 1 <= 16 := by rw [hL] at hlen; simpa using hlen
 obtain ⟨n,hn⟩ : ∃ n,n = init.length + 1 := ⟨_,rfl⟩
 have hn2 : (init ++ [(ib,l)]).length = n := by rw [hn]; simp
 obtain ⟨m,hm⟩ : ∃ m,l.length = m := ⟨_,rfl⟩
 rw [hhd,hn2,hm] at hp
 have hp : Hp base H (⟨p,1,ρ.cs (.slc b 0 n n) (.bool s.ov) (.bool s.fu)⟩ :: ⟨b,1,heads init ++ [.slc ib 0 m m]⟩ :: ⟨ib,1,ints l⟩ :: (inner init ++ ll)) :=
  hp.perm (List.Perm.cons _ (List.Perm.cons _ (perm_in _ (inner init) ll).symm))
 have hpls : PLs ρ ll base H p s := ⟨_,mkPL hp hn hm,eM⟩
 have hstep : PS.step c s = s.last c (init.map (·.2)) l := by unfold PS.step; rw [hL]; simp
 have w1 : IntKind.wrap .i64 ((n : Int) - 1) = (init.length : Int) := by rw [wrapI64 (by omega) (by omega)]; omega
 have x1 : idxSV 1 (.slc b 0 n n) (.int .i64 (init.length : Int)) = some (.ptr b (0 + init.length)) := idxSV_slc (by omega)
 have l0 := hp.load (o := 6) (List.mem_cons_self ..) rfl
 have l2 := hp.load (o := 8) (List.mem_cons_self ..) rfl
 have lb := hp.load (b := b) (o := init.length) (v := .slc ib 0 m m) (List.mem_cons_of_mem _ (List.mem_cons_self ..)) (by simp [heads])
 have w2 : IntKind.wrap .i64 ((m : Int) - 1) = ((m - 1 : Nat) : Int) := by rw [wrapI64 (by omega) (by omega)]; omega
 by_cases h59 : c = 59
 ·subst h59
  simp only [A57r,A62,sndC,e0,e1,l0,lb,w1,w2,x1,SX,reduceCtorEq,Nat.reduceEqDiff,↓reduceIte]
  refine (begins_pls hq70 ho70 hpls hg.len).mono ?_
  rintro r H' ⟨hk,hq⟩
  simp only [SX]
  refine hK _ _ hk ?_
  rw [hstep]; exact hq
 by_cases hfu : s.fu = true
 ·simp only [A57r,A62,sndC,e0,e1,l0,l2,lb,w1,w2,x1,h59,hfu,SX,reduceCtorEq,Nat.reduceEqDiff,↓reduceIte,Nat.reduceAdd]
  refine hK _ _ (Keep.refl _ _) ?_
  rw [hstep]
  unfold PS.last
  rw [if_neg h59,if_pos hfu]
  exact hpls
 have hfu' : s.fu = false := by simpa using hfu
 have hmap : ∀ (i' : Nat) (l' : List Int),(init ++ [(i',l')]).map (·.2) = init.map (·.2) ++ [l'] := by intro i' l'; simp
 by_cases h58 : c = 58
 ·subst h58
  by_cases h8 : m = 8
  ·have h8' : (((m - 1 : Nat) : Int) + 1 = 8) := by omega
   have w3 : IntKind.wrap .i64 (((m - 1 : Nat) : Int) + 1) = 8 := by rw [wrapI64 (by omega) (by omega)]; omega
   obtain ⟨H1,s1,h1,k1,_⟩ := hp.store (o := 8) (v := .bool true) rfl (by simp)
   simp only [A57r,A62,sndC,e0,e1,l0,l2,lb,w1,w2,w3,x1,hfu',s1,SX,reduceCtorEq,Nat.reduceEqDiff,↓reduceIte,Int.reduceEq,Nat.reduceAdd]
   refine hK _ _ k1 ?_
   rw [hstep]
   unfold PS.last
   rw [if_neg (by omega),if_neg hfu,if_pos rfl,if_pos (by omega)]
   exact ⟨_,mkPL h1 hn hm,eM⟩
  ·have w3 : IntKind.wrap .i64 (((m - 1 : Nat) : Int) + 1) = (m : Int) := by rw [wrapI64 (by omega) (by omega)]; omega
   have h8' : ¬ (m : Int) = 8 := by omega
   obtain ⟨H1,s1,h1,k1⟩ := hp.make [.int .i64 0] 1
   obtain ⟨B,r1,c1⟩ := h1.rowOf (cs := [.int .i64 0]) (List.mem_cons_self ..)
   obtain ⟨H2,s2,h2,k2⟩ := (h1.rot4).append1 (bytes := 8) (o2 := 0) (c2 := 1) (v := .int .i64 0) (n := m) (by simp [hm]) r1 (by rw [c1]; rfl) rfl (by omega) (by omega)
   have h3 := h2.swap.drop.rot3
   obtain ⟨H3,s3,h4,k3,_⟩ := h3.store (o := init.length) (v := .slc H1.next 0 (m + 1) (m + 1)) rfl (by simp [heads])
   have h5 : Hp base H3 (⟨b,1,heads init ++ [.slc H1.next 0 (m + 1) (m + 1)]⟩ :: ⟨H1.next,1,ints (l ++ [0])⟩ :: ⟨p,1,ρ.cs (.slc b 0 n n) (.bool s.ov) (.bool s.fu)⟩ :: (inner init ++ ll)) := by
    have e1 : (heads init ++ [AV.slc ib 0 m m]).set init.length (.slc H1.next 0 (m + 1) (m + 1)) = heads init ++ [.slc H1.next 0 (m + 1) (m + 1)] := by simp [heads]
    have e2 : ints (l ++ [0]) = ints l ++ [.int .i64 0] := by simp
    rw [e1] at h4
    rw [e2]; exact h4
   simp only [A57r,A62,sndC,e0,e1,l0,l2,lb,w1,w2,w3,x1,hfu',h8',s1,s2,s3,SX,reduceCtorEq,Nat.reduceEqDiff,↓reduceIte,Int.reduceEq,Nat.reduceAdd]
   refine hK _ _ (k1.trans (k2.trans k3)) ?_
   rw [hstep]
   unfold PS.last
   rw [if_neg (by omega),if_neg hfu,if_pos rfl,if_neg (by omega)]
   exact ⟨_,mkPL h5.rot3 hn (by simp [hm]),by rw [hmap]⟩
 ·have h58' : ¬ c = 58 := h58
  obtain ⟨x,hx⟩ : ∃ x,l.getD (m - 1) 0 = x := ⟨_,rfl⟩
  have hxm : l[m - 1]? = some x := by
   rw [List.getD_eq_getElem?_getD,List.getElem?_eq_getElem (by omega)] at hx
   rw [List.getElem?_eq_getElem (by omega),<- hx]; rfl
  have hxr := hl8.2.2 x (List.mem_of_getElem? hxm)
  have lx := hp.load (b := ib) (o := m - 1) (v := .int .i64 x) (List.mem_cons_of_mem _ (List.mem_cons_of_mem _ (List.mem_cons_self ..))) (by simp [hxm])
  have x2 : idxSV 1 (.slc ib 0 m m) (.int .i64 ((m - 1 : Nat) : Int)) = some (.ptr ib (0 + (m - 1))) := idxSV_slc (by omega)
  have w4 : IntKind.wrap .i64 (10 * x) = 10 * x := wrapI64 (by omega) (by omega)
  have w5 : IntKind.wrap .u8 (c - 48) = c - 48 := by simp [IntKind.wrap,IntKind.signed,IntKind.bits]; omega
  have w6 : IntKind.wrap .i64 (c - 48) = c - 48 := wrapI64 (by omega) (by omega)
  have w7 : IntKind.wrap .i64 (10 * x + (c - 48)) = 10 * x + (c - 48) := wrapI64 (by omega) (by omega)
  obtain ⟨H1,s1,h1,k1,_⟩ := (hp.rot3).store (o := m - 1) (v := .int .i64 (min (10 * x + (c - 48)) 9999)) rfl (by simp; omega)
  have h2 : Hp base H1 (⟨ib,1,ints (l.set (m - 1) (min (10 * x + (c - 48)) 9999))⟩ :: ⟨p,1,ρ.cs (.slc b 0 n n) (.bool s.ov) (.bool s.fu)⟩ :: ⟨b,1,heads init ++ [.slc ib 0 m m]⟩ :: (inner init ++ ll)) := by
   have e1 : (ints l).set (m - 1) (.int .i64 (min (10 * x + (c - 48)) 9999)) = ints (l.set (m - 1) (min (10 * x + (c - 48)) 9999)) := by simp [List.map_set]
   rw [e1] at h1; exact h1
  simp only [A57r,A62,sndC,e0,e1,l0,l2,lb,w1,w2,x1,hfu',h59,h58',lx,x2,w4,w5,w6,w7,s1,SX,reduceCtorEq,Nat.reduceEqDiff,↓reduceIte,Nat.reduceAdd]
  refine hK _ _ k1 ?_
  rw [hstep]
  unfold PS.last
  rw [if_neg h59,if_neg hfu,if_neg h58]
  exact ⟨_,mkPL h2.rot3.rot3 hn (by simp [hm]),by rw [hmap,hm,hx]⟩
theorem pls_ov {ρ : Rst} {ll : List Cel} {base : Nat} {H : AHeap} {p : Nat} {s : PS} (h : PLs ρ ll base H p s) : loadV H none (.ptr p 7) = some (.bool s.ov) := by
 obtain ⟨M,h,e⟩ := h
 rcases h with ⟨rfl,h⟩ | ⟨b,hne,h⟩ <;> exact h.load (o := 7) (List.mem_cons_self ..) rfl
theorem pls_len {ρ : Rst} {ll : List Cel} {base : Nat} {H : AHeap} {p : Nat} {s : PS} (h : PLs ρ ll base H p s) : ∃ sv,loadV H none (.ptr p 6) = some sv /\ lngV H 1 sv = some (.int .i64 s.L.length) := by
 obtain ⟨M,h,e⟩ := h
 have hl : s.L.length = M.length := by rw [<- e]; simp
 rw [hl]
 rcases h with ⟨rfl,h⟩ | ⟨b,hne,h⟩
 ·exact ⟨_,h.load (o := 6) (List.mem_cons_self ..) rfl,rfl⟩
 ·exact ⟨_,h.load (o := 6) (List.mem_cons_self ..) rfl,rfl⟩
set_option maxHeartbeats 2000000 in
theorem byte_spec {Q : Prog} (hq : Q.fns 62 = some A62) (ho : ∀ a,Q.orc 62 a = none) (hq70 : Q.fns 79 = some A79) (ho70 : ∀ a,Q.orc 79 a = none) {ρ : Rst} {ll : List Cel} {base : Nat} {H : AHeap} {p : Nat} {c : Int} {s : PS} (hg : s.Good) (h : PLs ρ ll base H p s) :
  FnTo Q 62 [.ptr p 6,.int .u8 c] H (fun r H' => Keep base H H' /\ PLs ρ ll base H' p (s.byte c)) := by
 refine fn_wp (ho _) hq (by simp [A62]) ?_
 have l1 := pls_ov h
 obtain ⟨sv,l0,ln⟩ := pls_len h
 by_cases hov : s.ov = true
 ·rw [hov] at l1
  simp only [A62,l1,SX,reduceCtorEq,Nat.reduceEqDiff,↓reduceIte,Nat.reduceAdd]
  exact ⟨Keep.refl _ _,by unfold PS.byte; rw [if_pos (.inl hov)]; exact h⟩
 have hov' : s.ov = false := by simpa using hov
 rw [hov'] at l1
 by_cases h48 : c < 48
 ·simp only [A62,l1,h48,SX,reduceCtorEq,Nat.reduceEqDiff,↓reduceIte,Nat.reduceAdd]
  exact ⟨Keep.refl _ _,by unfold PS.byte; rw [if_pos (.inr (.inl h48))]; exact h⟩
 by_cases h59 : 59 < c
 ·simp only [A62,l1,h48,h59,SX,reduceCtorEq,Nat.reduceEqDiff,↓reduceIte,Nat.reduceAdd]
  exact ⟨Keep.refl _ _,by unfold PS.byte; rw [if_pos (.inr (.inr h59))]; exact h⟩
 have hb : s.byte c = PS.step c (if s.L.length = 0 then s.begins else s) := by unfold PS.byte; rw [if_neg (by simp [hov']; omega)]
 rw [hb]
 obtain ⟨s1,hs1⟩ : ∃ s1,(if s.L.length = 0 then s.begins else s) = s1 := ⟨_,rfl⟩
 rw [hs1]
 have hg1 : s1.Good := by
  rw [<- hs1]
  split
  ·exact begins_good hg
  ·exact hg
 have hne1 : s1.L ≠ [] := by
  rw [<- hs1]
  split
  ·rename_i h0
   unfold PS.begins
   rw [if_neg (by omega)]
   simp
  ·rename_i h0
   intro hh; rw [hh] at h0; simp at h0
 obtain ⟨K,hK⟩ : ∃ K : AV -> AHeap -> Prop,K = fun r H' => Keep base H H' /\ PLs ρ ll base H' p (PS.step c s1) := ⟨_,rfl⟩
 rw [<- hK]
 have key : ∀ (e : Env) (H' : AHeap),Keep base H H' -> PLs ρ ll base H' p s1 -> Env.get e 0 = .ptr p 6 -> Env.get e 1 = .int .u8 c -> ACode.wp Q (sndC (sndC A62.body)) (fnK A62.res K) e H' := by
  intro e H' hk hp e0 e1
  refine byte_last hq70 ho70 (by omega) hg1 hp hne1 e0 e1 rfl ?_
  intro r H2 hk2 hp2
  rw [hK]
  exact ⟨hk.trans hk2,hp2⟩
 have second : ∀ (e : Env),Env.get e 0 = .ptr p 6 -> Env.get e 1 = .int .u8 c -> ACode.wp Q (sndC A62.body) (fnK A62.res K) e H := by
  intro e e0 e1
  rw [wp_parts (sndC A62.body) rfl]
  generalize ACode.wp Q (sndC (sndC A62.body)) (fnK A62.res K) = kr at key ⊢
  by_cases h0 : s.L.length = 0
  ·have h0' : (s.L.length : Int) = 0 := by omega
   rw [if_pos h0] at hs1
   simp only [A62,sndC,fstC,e0,l0,ln,h0',SX,reduceCtorEq,↓reduceIte]
   refine (begins_pls hq70 ho70 h hg.len).mono ?_
   rintro r H' ⟨hk,hp⟩
   simp only [SX]
   refine key _ _ hk (hs1 ▸ hp) ?_ ?_ <;> simp only [e0,e1,SX,reduceCtorEq,Nat.reduceEqDiff,↓reduceIte]
  ·have h0' : ¬ (s.L.length : Int) = 0 := by omega
   rw [if_neg h0] at hs1
   simp only [A62,sndC,fstC,e0,l0,ln,h0',SX,↓reduceIte]
   refine key _ _ (Keep.refl _ _) (hs1 ▸ h) ?_ ?_ <;> simp only [e0,e1,SX,reduceCtorEq,Nat.reduceEqDiff,↓reduceIte]
 rw [wp_parts A62.body rfl]
 generalize ACode.wp Q (sndC A62.body) (fnK A62.res K) = kr at second ⊢
 simp only [A62,fstC,l1,h48,h59,SX,reduceCtorEq,Nat.reduceEqDiff,↓reduceIte,Nat.reduceAdd]
 refine second _ ?_ ?_ <;> simp only [SX,reduceCtorEq,Nat.reduceEqDiff,↓reduceIte]
theorem last_good {c : Int} (hc : 48 <= c /\ c <= 59) {s : PS} (h : s.Good) {init : List (List Int)} {l : List Int} (e : s.L = init ++ [l]) : (s.last c init l).Good := by
 have hlen := h.len
 rw [e] at hlen
 have hi : ∀ x ∈ init,_ := fun x hx => h.el x (by rw [e]; simp [hx])
 have hl := h.el l (by rw [e]; simp)
 unfold PS.last
 split
 ·exact begins_good h
 ·split
  ·exact h
  ·split
   ·split
    ·exact ⟨h.len,h.el⟩
    ·refine ⟨by simpa using hlen,fun x hx => ?_⟩
     rcases List.mem_append.1 hx with hx | hx
     ·exact hi x hx
     ·simp at hx; subst hx
      refine ⟨by simp,by simp; omega,fun y hy => ?_⟩
      rcases List.mem_append.1 hy with hy | hy
      ·exact hl.2.2 y hy
      ·simp at hy; omega
   ·refine ⟨by simpa using hlen,fun x hx => ?_⟩
    rcases List.mem_append.1 hx with hx | hx
    ·exact hi x hx
    ·simp at hx; subst hx
     refine ⟨by simpa using hl.1,by simpa using hl.2.1,fun y hy => ?_⟩
     rcases List.mem_or_eq_of_mem_set hy with hy | rfl
     ·exact hl.2.2 y hy
     ·have : 0 <= l[l.length - 1]?.getD 0 := by
       rw [List.getElem?_eq_getElem (by omega)]
       exact (hl.2.2 _ (List.getElem_mem _)).1
      omega
theorem byte_good {c : Int} {s : PS} (h : s.Good) : (s.byte c).Good := by
 unfold PS.byte
 split
 ·exact h
 ·rename_i hc
  obtain ⟨s1,hs1⟩ : ∃ s1,(if s.L.length = 0 then s.begins else s) = s1 := ⟨_,rfl⟩
  rw [hs1]
  have hg1 : s1.Good := by
   rw [<- hs1]
   split
   ·exact begins_good h
   ·exact h
  have hne1 : s1.L ≠ [] := by
   rw [<- hs1]
   split
   ·rename_i h0
    unfold PS.begins
    rw [if_neg (by omega)]
    simp
   ·rename_i h0
    intro hh; rw [hh] at h0; simp at h0
  unfold PS.step
  refine last_good (by simp only [not_or,Int.not_lt] at hc; omega) hg1 ?_
  rw [List.getLastD_eq_getLast?,List.getLast?_eq_some_getLast hne1]
  exact (List.dropLast_concat_getLast hne1).symm
def PS.none : PS := ⟨[],false,false⟩
theorem none_good : PS.none.Good := ⟨by simp [PS.none],fun l hl => by simp [PS.none] at hl⟩
def PS.feed (s : PS) (t : List UInt8) : PS := t.foldl (fun s b => s.byte (b.toNat : Int)) s
set_option maxHeartbeats 2000000 in
theorem clone_spec {Q : Prog} (hq : Q.fns 77 = some A77) (ho : ∀ a,Q.orc 77 a = Option.none) {base : Nat} {H : AHeap} {l : List Cel} (h : Hp base H l) {b m c : Nat} {x : List Int} {B : Blk} (hB : H.row b = some B) (hc : B.cells = ints x) (hm : x.length = m) (h0 : 0 < m) (hs : m <= 1000000) :
  FnTo Q 77 [.slc b 0 m c] H (fun r H' => r = .slc (H.next + 1) 0 m m /\ Hp base H' (⟨H.next + 1,1,ints x⟩ :: l) /\ Keep base H H') := by
 refine fn_wp (ho _) hq (by simp [A77]) ?_
 obtain ⟨H1,s1,h1,k1⟩ := h.make [] 1
 have hb : b ≠ H.next := by
  intro hh
  have := h.fr b (by omega)
  simp [AHeap.row,this] at hB
 have hB1 : H1.row b = some B := by
  rw [<- s1]
  unfold AHeap.row at hB ⊢
  rw [AHeap.get_alloc,if_neg hb]
  exact hB
 have hn1 : H1.next = H.next + 1 := by rw [<- s1]; rfl
 obtain ⟨H2,s2,h2,k2⟩ := h1.clone (bytes := 8) (c2 := c) hB1 hc (by simpa using hm) (by simp [AV.one]) h0 (by omega) (by omega)
 rw [hn1] at s2 h2
 simp only [A77,s1,s2,SX,reduceCtorEq,Nat.reduceEqDiff,↓reduceIte]
 exact ⟨h2,k1.trans k2⟩
def LL (base : Nat) (H : AHeap) (v : AV) (M : List (Nat × List Int)) : Prop :=
 (M = [] /\ v = .nils /\ Hp base H []) \/ ∃ b,M ≠ [] /\ v = .slc b 0 M.length M.length /\ Hp base H (⟨b,1,heads M⟩ :: inner M)
theorem LL.hp {base : Nat} {H : AHeap} {v : AV} {M : List (Nat × List Int)} (h : LL base H v M) : Hp base H [] := by
 rcases h with ⟨_,_,h⟩ | ⟨b,_,_,h⟩
 ·exact h
 ·exact h.sub (List.nil_sublist _)
theorem LL.push {base : Nat} {H : AHeap} {v : AV} {M : List (Nat × List Int)} {ib m tb : Nat} {l : List Int} (hv : (M = [] /\ v = .nils /\ Hp base H [⟨tb,1,[.slc ib 0 m m]⟩,⟨ib,1,ints l⟩]) \/ ∃ b,M ≠ [] /\ v = .slc b 0 M.length M.length /\ Hp base H (⟨tb,1,[.slc ib 0 m m]⟩ :: ⟨ib,1,ints l⟩ :: ⟨b,1,heads M⟩ :: inner M)) (hm : l.length = m) (hs : M.length <= 100000) :
  ∃ w H',appendE H 1 24 v (.slc tb 0 1 1) = some (w,H') /\ LL base H' w (M ++ [(ib,l)]) /\ Keep base H H' := by
 have hhd : heads (M ++ [(ib,l)]) = heads M ++ [.slc ib 0 m m] := by simp [heads,hm]
 have hin : inner (M ++ [(ib,l)]) = inner M ++ [⟨ib,1,ints l⟩] := by simp [inner]
 rcases hv with ⟨rfl,rfl,h⟩ | ⟨b,hne,rfl,h⟩
 ·obtain ⟨B,r4,c4⟩ := h.rowOf (cs := [.slc ib 0 m m]) (List.mem_cons_self ..)
  obtain ⟨H5,s5,h5,k5⟩ := h.append0 (bytes := 24) (o2 := 0) (c2 := 1) (v := .slc ib 0 m m) r4 (by rw [c4]; rfl) rfl (by omega) (by omega)
  refine ⟨_,H5,s5,.inr ⟨H.next,by simp,rfl,?_⟩,k5⟩
  rw [hhd,hin]
  exact h5.swap.drop
 ·obtain ⟨B,r4,c4⟩ := h.rowOf (cs := [.slc ib 0 m m]) (List.mem_cons_self ..)
  obtain ⟨H5,s5,h5,k5⟩ := (h.rot3).append1 (bytes := 24) (o2 := 0) (c2 := 1) (v := .slc ib 0 m m) (n := M.length) (by simp [heads]) r4 (by rw [c4]; rfl) rfl (by omega) (by omega)
  refine ⟨_,H5,s5,.inr ⟨H.next,by simp,by simp,?_⟩,k5⟩
  rw [hhd,hin]
  exact h5.swap.drop.perm (List.Perm.cons _ (List.perm_append_comm (l₁ := [_]) (l₂ := inner M)))
set_option maxHeartbeats 2000000 in
theorem all_spec {Q : Prog} {ρ : Rst} {ll : List Cel} (hq : Q.fns 60 = some A60) (ho : ∀ a,Q.orc 60 a = Option.none) (hq68 : Q.fns 77 = some A77) (ho68 : ∀ a,Q.orc 77 a = Option.none) {base : Nat} {H : AHeap} {p : Nat} {s : PS} (hg : s.Good) (h : PLs ρ ll base H p s) :
  FnTo Q 60 [.ptr p 6] H (fun r H' => Keep H.next H H' /\ ∃ M,LL H.next H' r M /\ M.map (·.2) = s.L) := by
 refine fn_wp (ho _) hq (by simp [A60]) ?_
 obtain ⟨M,hp,eM⟩ := h
 have hML : M.length = s.L.length := by rw [<- eM]; simp
 have hlen := hg.len
 obtain ⟨sv,l0,ln,hsv⟩ : ∃ sv,loadV H none (.ptr p 6) = some sv /\ lngV H 1 sv = some (.int .i64 M.length) /\ (M ≠ [] -> ∃ b,sv = .slc b 0 M.length M.length /\ Hp base H (⟨p,1,ρ.cs (.slc b 0 M.length M.length) (.bool s.ov) (.bool s.fu)⟩ :: ⟨b,1,heads M⟩ :: (inner M ++ ll))) := by
  rcases hp with ⟨rfl,hp⟩ | ⟨b,hne,hp⟩
  ·exact ⟨_,hp.load (o := 6) (List.mem_cons_self ..) rfl,rfl,fun h => absurd rfl h⟩
  ·exact ⟨_,hp.load (o := 6) (List.mem_cons_self ..) rfl,rfl,fun _ => ⟨b,rfl,hp⟩⟩
 have hf : ∀ b,H.next <= b -> H.get b = Option.none := by
  rcases hp with ⟨rfl,hp⟩ | ⟨b,hne,hp⟩ <;> exact hp.fr
 simp only [A60,l0,ln,SX,reduceCtorEq,↓reduceIte]
 obtain ⟨I,hI⟩ : ∃ I : Nat -> Env -> AHeap -> Prop,∀ m e H',I m e H' ↔ (Keep H.next H H' /\ ∃ (k : Nat) (v : AV) (M' : List (Nat × List Int)),m = M.length - k /\ k <= M.length /\ Env.get e 3 = v /\ Env.get e 11 = sv /\ Env.get e 12 = .int .i64 M.length /\ Env.get e 13 = .int .i64 k /\ LL H.next H' v M' /\ M'.map (·.2) = s.L.take k) := ⟨_,fun _ _ _ => Iff.rfl⟩
 refine loop_by I M.length ?_ ?_
 ·refine (hI _ _ _).2 ⟨Keep.refl _ _,0,.nils,[],rfl,by omega,?_⟩
  simp only [SX,Nat.reduceEqDiff,↓reduceIte]
  exact ⟨rfl,.inl ⟨rfl,rfl,Hp.nil H hf⟩,rfl⟩
 ·intro m e H' hinv
  obtain ⟨hk,k,v,M',rfl,hkl,e3,e11,e12,e13,hv,hM'⟩ := (hI _ _ _).1 hinv
  by_cases h2 : (k : Int) < M.length
  ·have h3 : k < M.length := by omega
   obtain ⟨b,rfl,hb⟩ := hsv (by intro hh; rw [hh] at h3; simp at h3)
   have hb' := hb.keep hk hv.hp.bn hv.hp.fr
   obtain ⟨⟨ib,l⟩,hx⟩ : ∃ x,M[k]? = some x := ⟨_,List.getElem?_eq_getElem h3⟩
   have hll : s.L[k]? = some l := by rw [<- eM]; simp [hx]
   have hl8 := hg.el l (List.mem_of_getElem? hll)
   obtain ⟨m,hm⟩ : ∃ m,l.length = m := ⟨_,rfl⟩
   have x1 : idxSV 1 (.slc b 0 M.length M.length) (.int .i64 (k : Int)) = some (.ptr b (0 + k)) := idxSV_slc h3
   have lb := hb'.load (b := b) (o := k) (v := .slc ib 0 m m) (List.mem_cons_of_mem _ (List.mem_cons_self ..)) (by simp [heads,hx,hm])
   have hibm : (⟨ib,1,ints l⟩ : Cel) ∈ inner M := List.mem_map.2 ⟨(ib,l),List.mem_of_getElem? hx,rfl⟩
   obtain ⟨B,rB,cB⟩ := hb'.rowOf (List.mem_cons_of_mem _ (List.mem_cons_of_mem _ (List.mem_append_left ll hibm)))
   have hw : IntKind.wrap .i64 ((k : Int) + 1) = ((k + 1 : Nat) : Int) := by rw [wrapI64 (by omega) (by omega)]; rfl
   have hM'l : M'.length = k := by
    have : (M'.map (·.2)).length = (s.L.take k).length := by rw [hM']
    simp at this; omega
   simp only [e3,e11,e12,e13,h2,x1,lb,SX,Nat.reduceEqDiff,↓reduceIte]
   obtain ⟨l0,hl0,hcase⟩ : ∃ l0,Hp H.next H' l0 /\ ((M' = [] /\ v = .nils /\ l0 = []) \/ ∃ b,M' ≠ [] /\ v = .slc b 0 M'.length M'.length /\ l0 = ⟨b,1,heads M'⟩ :: inner M') := by
    rcases hv with ⟨h1,h2,h3⟩ | ⟨b,h1,h2,h3⟩
    ·exact ⟨_,h3,.inl ⟨h1,h2,rfl⟩⟩
    ·exact ⟨_,h3,.inr ⟨b,h1,h2,rfl⟩⟩
   refine (clone_spec hq68 ho68 hl0 rB cB hm (by omega) (by omega)).mono ?_
   rintro r H2 ⟨rfl,h2',k2⟩
   obtain ⟨H3,s3,h3',k3⟩ := h2'.make [.slc (H'.next + 1) 0 m m] 1
   obtain ⟨w,H4,s4,h4,k4⟩ := LL.push (H := H3) (base := H.next) (v := v) (M := M') (ib := H'.next + 1) (m := m) (tb := H2.next) (l := l) (by
    rcases hcase with ⟨q1,q2,rfl⟩ | ⟨b,q1,q2,rfl⟩
    ·exact .inl ⟨q1,q2,h3'⟩
    ·exact .inr ⟨b,q1,q2,h3'⟩) hm (by omega)
   simp only [e13,hw,s3,s4,SX,Nat.reduceEqDiff,↓reduceIte]
   refine ⟨M.length - (k + 1),by omega,(hI _ _ _).2 ⟨hk.trans (k2.trans (k3.trans k4)),k + 1,w,M' ++ [(H'.next + 1,l)],rfl,by omega,?_⟩⟩
   simp only [e11,e12,SX,Nat.reduceEqDiff,↓reduceIte]
   refine ⟨h4,?_⟩
   rw [List.map_append,hM',List.take_succ_eq_append_getElem (by omega)]
   congr 1
   rw [List.getElem?_eq_getElem (by omega)] at hll
   simp only [Option.some.injEq] at hll
   rw [hll]; rfl
  ·obtain rfl : k = M.length := by omega
   simp only [e3,e12,e13,h2,SX,Nat.reduceEqDiff,↓reduceIte]
   refine ⟨hk,M',hv,?_⟩
   rw [hM',hML,List.take_length]
theorem wrapU8 {x : Int} (h0 : 0 <= x) (h1 : x <= 255) : IntKind.wrap .u8 x = x := by
 simp [IntKind.wrap,IntKind.signed,IntKind.bits]; omega
theorem and_u8 (m : Int) (hm : m = 63 \/ m = 31 \/ m = 15 \/ m = 7) {b : Int} (h0 : 0 <= b) (h1 : b <= 255) : binV .and (.int .u8 b) (.int .u8 m) = some (.int .u8 (b % (m + 1))) := by
 have key : ∀ n : Fin 256,∀ m : Fin 64,(m.val = 63 \/ m.val = 31 \/ m.val = 15 \/ m.val = 7) -> (BitVec.ofInt 8 (n.val : Int) &&& BitVec.ofInt 8 (m.val : Int)).toNat = n.val % (m.val + 1) := by decide +kernel
 obtain ⟨n,rfl⟩ : ∃ n : Nat,b = n := ⟨b.toNat,by omega⟩
 obtain ⟨k,rfl⟩ : ∃ k : Nat,m = k := ⟨m.toNat,by omega⟩
 have := key ⟨n,by omega⟩ ⟨k,by omega⟩ (by simp only; omega)
 have e : binV .and (.int .u8 (n : Int)) (.int .u8 (k : Int)) = some (.int .u8 (IntKind.wrap .u8 (((BitVec.ofInt 8 (n : Int) &&& BitVec.ofInt 8 (k : Int)).toNat : Nat) : Int))) := rfl
 have hlt : n % (k + 1) < 256 := Nat.lt_of_le_of_lt (Nat.mod_le _ _) (by omega)
 rw [e,this,wrapU8 (by omega) (by omega)]
 simp
theorem shl_i32 {x : Int} (k : IntKind) : binV .shl (.int .i32 x) (.int k 6) = some (.int .i32 (IntKind.wrap .i32 (x * 64))) := rfl
theorem wrapI32 {x : Int} (h0 : -2147483648 <= x) (h1 : x <= 2147483647) : IntKind.wrap .i32 x = x := by
 simp only [IntKind.wrap,IntKind.signed,IntKind.bits]
 simp only [Nat.reduceSub,Int.reducePow]
 simp
 omega
theorem or_i32 {x y : Int} (h0 : 0 <= x) (h1 : x < 33554432) (h2 : 0 <= y) (h3 : y < 64) : binV .or (.int .i32 (x * 64)) (.int .i32 y) = some (.int .i32 (x * 64 + y)) := by
 obtain ⟨n,rfl⟩ : ∃ n : Nat,x = n := ⟨x.toNat,by omega⟩
 obtain ⟨k,rfl⟩ : ∃ k : Nat,y = k := ⟨y.toNat,by omega⟩
 have e1 : (BitVec.ofInt 32 ((n : Int) * 64)).toNat = n * 64 := by
  rw [show (n : Int) * 64 = ((n * 64 : Nat) : Int) by omega,BitVec.ofInt_natCast,BitVec.toNat_ofNat]
  exact Nat.mod_eq_of_lt (by omega)
 have e2 : (BitVec.ofInt 32 (k : Int)).toNat = k := by
  rw [BitVec.ofInt_natCast,BitVec.toNat_ofNat]
  exact Nat.mod_eq_of_lt (by omega)
 have e3 : (n * 64) ||| k = n * 64 + k := by
  have := Nat.two_pow_add_eq_or_of_lt (b := k) (i := 6) (by omega) n
  rw [Nat.mul_comm n 64]
  exact this.symm
 have e : binV .or (.int .i32 ((n : Int) * 64)) (.int .i32 (k : Int)) = some (.int .i32 (IntKind.wrap .i32 (((BitVec.ofInt 32 ((n : Int) * 64) ||| BitVec.ofInt 32 (k : Int)).toNat : Nat) : Int))) := rfl
 rw [e,BitVec.toNat_or,e1,e2,e3,wrapI32 (by omega) (by omega)]
 simp
theorem wrapI32u8 {b : Int} (h0 : 0 <= b) (h1 : b <= 255) : IntKind.wrap .i32 b = b := wrapI32 (by omega) (by omega)
structure DSt where
 kept : Int
 left : Int
 lo : Int
 hi : Int
 x : Int
def DSt.zero : DSt := ⟨0,0,0,0,0⟩
def DSt.cs (d : DSt) : List AV := [.int .i64 d.kept,.int .i64 d.left,.int .u8 d.lo,.int .u8 d.hi,.int .i32 d.x]
def begD (b : Int) : Int × Int × Int × Int :=
 if b < 128 then (0,0,0,b) else if b < 194 \/ 244 < b then (-1,0,0,0) else if b < 224 then (1,128,191,b % 32) else if b = 224 then (2,160,191,0)
 else if b = 237 then (2,128,159,b % 16) else if b < 240 then (2,128,191,b % 16) else if b = 240 then (3,144,191,0) else if b = 244 then (3,128,143,b % 8) else (3,128,191,b % 8)
def DSt.first (d : DSt) (b : Int) : List Int × DSt :=
 if (begD b).1 < 0 then ([65533],d) else if (begD b).1 = 0 then ([(begD b).2.2.2],d) else ([],⟨1,(begD b).1,(begD b).2.1,(begD b).2.2.1,(begD b).2.2.2⟩)
def DSt.byte (d : DSt) (b : Int) : List Int × DSt :=
 if 0 < d.kept /\ d.lo <= b /\ b <= d.hi then (if d.left = 1 then ([d.x * 64 + b % 64],DSt.zero) else ([],⟨d.kept + 1,d.left - 1,128,191,d.x * 64 + b % 64⟩))
 else if 0 < d.kept then (65533 :: (DSt.zero.first b).1,(DSt.zero.first b).2) else d.first b
structure DSt.Good (d : DSt) : Prop where
 z : d.kept <= 0 -> d = DSt.zero
 l : 0 < d.kept -> 1 <= d.left /\ d.left <= 3 /\ d.kept <= 4 - d.left /\ 0 <= d.x /\ (d.left = 3 -> d.x < 8) /\ (d.left = 2 -> d.x < 512) /\ (d.left = 1 -> d.x < 32768)
theorem zero_good : DSt.zero.Good := ⟨fun _ => rfl,fun h => by simp [DSt.zero] at h⟩
theorem begD_good {b : Int} (h0 : 0 <= b) (h1 : b <= 255) : (begD b).1 <= 3 /\ 0 <= (begD b).2.2.2 /\ (begD b).2.2.2 <= 255 /\ ((begD b).1 = 3 -> (begD b).2.2.2 < 8) /\ ((begD b).1 = 2 -> (begD b).2.2.2 < 16) /\ ((begD b).1 = 1 -> (begD b).2.2.2 < 32) := by
 unfold begD
 repeat' split
 all_goals simp only
 all_goals omega
theorem first_good {d : DSt} (h : d = DSt.zero) {b : Int} (h0 : 0 <= b) (h1 : b <= 255) : (d.first b).2.Good := by
 have hb := begD_good h0 h1
 unfold DSt.first
 split
 ·rw [h]; exact zero_good
 ·split
  ·rw [h]; exact zero_good
  ·refine ⟨fun hh => ?_,fun _ => ?_⟩
   ·simp at hh
   ·simp only; omega
theorem byteD_good {d : DSt} (h : d.Good) {b : Int} (h0 : 0 <= b) (h1 : b <= 255) : (d.byte b).2.Good := by
 unfold DSt.byte
 split
 ·rename_i hc
  have hl := h.l hc.1
  split
  ·exact zero_good
  ·refine ⟨fun hh => ?_,fun _ => ?_⟩
   ·simp only at hh; omega
   ·simp only; omega
 ·split
  ·exact first_good rfl h0 h1
  ·exact first_good (h.z (by omega)) h0 h1
theorem ex40 (a b c d : AV) : extractV 0 (.tup [a,b,c,d]) = some a := rfl
theorem ex41 (a b c d : AV) : extractV 1 (.tup [a,b,c,d]) = some b := rfl
theorem ex42 (a b c d : AV) : extractV 2 (.tup [a,b,c,d]) = some c := rfl
theorem ex43 (a b c d : AV) : extractV 3 (.tup [a,b,c,d]) = some d := rfl
def bld5V (z : List AV) (a b c d e : AV) : Option AV := ROp.run ⟨0,.nil⟩ .nil (.build z [(0,1,.c a),(1,1,.c b),(2,1,.c c),(3,1,.c d),(4,1,.c e)])
theorem bld5 (H : AHeap) (en : Env) (z : List AV) (a b c d e : Opd) : ROp.run H en (.build z [(0,1,a),(1,1,b),(2,1,c),(3,1,d),(4,1,e)]) = bld5V z (a.ev en) (b.ev en) (c.ev en) (d.ev en) (e.ev en) := rfl
theorem bld5V_int (z0 z1 z2 z3 z4 : AV) (k0 k1 k2 k3 k4 : IntKind) (a b c d e : Int) : bld5V [z0,z1,z2,z3,z4] (.int k0 a) (.int k1 b) (.int k2 c) (.int k3 d) (.int k4 e) = some (.agg [.int k0 a,.int k1 b,.int k2 c,.int k3 d,.int k4 e]) := rfl
def arr2 (l : List Int) : AV := .agg [.int .i32 (l.getD 0 0),.int .i32 (l.getD 1 0)]
section
variable {Q : Prog} (ho : ∀ f,Nat.beq f 10 = false -> ∀ a,Q.orc f a = Option.none) {base : Nat} {H : AHeap} {p : Nat} {d : DSt} {R : List AV} {l : List Cel}
include ho
set_option maxHeartbeats 2000000 in
theorem begD_spec (q74 : Q.fns 90 = some A90) {b : Int} (h0 : 0 <= b) (h1 : b <= 255) : FnTo Q 90 [.int .u8 b] H (fun r H' => r = .tup [.int .i64 (begD b).1,.int .u8 (begD b).2.1,.int .u8 (begD b).2.2.1,.int .i32 (begD b).2.2.2] /\ H' = H) := by
 refine fn_wp (ho 90 rfl _) q74 (by simp [A90]) ?_
 have wb := wrapI32u8 h0 h1
 have m31 := and_u8 31 (by omega) h0 h1
 have m15 := and_u8 15 (by omega) h0 h1
 have m7 := and_u8 7 (by omega) h0 h1
 simp only [Int.reduceAdd] at m31 m15 m7
 have w31 : IntKind.wrap .i32 (b % 32) = b % 32 := wrapI32 (by omega) (by omega)
 have w15 : IntKind.wrap .i32 (b % 16) = b % 16 := wrapI32 (by omega) (by omega)
 have w7 : IntKind.wrap .i32 (b % 8) = b % 8 := wrapI32 (by omega) (by omega)
 have fin : ∀ x : Int × Int × Int × Int,x = begD b -> (AV.tup [.int .i64 x.1,.int .u8 x.2.1,.int .u8 x.2.2.1,.int .i32 x.2.2.2] = .tup [.int .i64 (begD b).1,.int .u8 (begD b).2.1,.int .u8 (begD b).2.2.1,.int .i32 (begD b).2.2.2]) := by
  intro x hx; rw [hx]
 by_cases c1 : b < 128
 ·simp only [A90,c1,wb,resVal,resVals,ARes.val,SX,reduceCtorEq,Nat.reduceEqDiff,↓reduceIte]
  exact fin (0,0,0,b) (by unfold begD; rw [if_pos c1])
 by_cases c2 : b < 194
 ·simp only [A90,c1,c2,resVal,resVals,ARes.val,SX,reduceCtorEq,Nat.reduceEqDiff,↓reduceIte]
  exact fin (-1,0,0,0) (by unfold begD; rw [if_neg c1,if_pos (.inl c2)])
 by_cases c3 : 244 < b
 ·simp only [A90,c1,c2,c3,resVal,resVals,ARes.val,SX,reduceCtorEq,Nat.reduceEqDiff,↓reduceIte]
  exact fin (-1,0,0,0) (by unfold begD; rw [if_neg c1,if_pos (.inr c3)])
 by_cases c4 : b < 224
 ·simp only [A90,c1,c2,c3,c4,m31,w31,resVal,resVals,ARes.val,SX,reduceCtorEq,Nat.reduceEqDiff,↓reduceIte]
  exact fin (1,128,191,b % 32) (by unfold begD; rw [if_neg c1,if_neg (by omega),if_pos c4])
 by_cases c5 : b = 224
 ·simp only [A90,c5,resVal,resVals,ARes.val,SX,reduceCtorEq,Nat.reduceEqDiff,↓reduceIte,Int.reduceLT]
  subst c5
  exact fin (2,160,191,0) (by decide)
 by_cases c6 : b = 237
 ·have c6' : decide (b = 237) = true := by simpa using c6
  simp only [A90,c1,c2,c3,c4,c5,c6',m15,w15,resVal,resVals,ARes.val,SX,reduceCtorEq,Nat.reduceEqDiff,↓reduceIte]
  exact fin (2,128,159,b % 16) (by rw [c6]; decide)
 by_cases c7 : b < 240
 ·simp only [A90,c1,c2,c3,c4,c5,c6,c7,m15,w15,resVal,resVals,ARes.val,SX,reduceCtorEq,Nat.reduceEqDiff,↓reduceIte]
  exact fin (2,128,191,b % 16) (by unfold begD; rw [if_neg c1,if_neg (by omega),if_neg c4,if_neg c5,if_neg c6,if_pos c7])
 by_cases c8 : b = 240
 ·simp only [A90,c8,resVal,resVals,ARes.val,SX,reduceCtorEq,Nat.reduceEqDiff,↓reduceIte,Int.reduceEq,Int.reduceLT]
  subst c8
  exact fin (3,144,191,0) (by decide)
 by_cases c9 : b = 244
 ·have c9' : decide (b = 244) = true := by simpa using c9
  simp only [A90,c1,c2,c3,c4,c5,c6,c7,c8,c9',m7,w7,resVal,resVals,ARes.val,SX,reduceCtorEq,Nat.reduceEqDiff,↓reduceIte]
  exact fin (3,128,143,b % 8) (by rw [c9]; decide)
 ·simp only [A90,c1,c2,c3,c4,c5,c6,c7,c8,c9,m7,w7,resVal,resVals,ARes.val,SX,reduceCtorEq,Nat.reduceEqDiff,↓reduceIte]
  exact fin (3,128,191,b % 8) (by unfold begD; rw [if_neg c1,if_neg (by omega),if_neg c4,if_neg c5,if_neg c6,if_neg c7,if_neg c8,if_neg c9])
set_option maxHeartbeats 2000000 in
theorem first_spec (q69 : Q.fns 78 = some A78) (q74 : Q.fns 90 = some A90) {b : Int} (h0 : 0 <= b) (h1 : b <= 255) (h : Hp base H (⟨p,1,d.cs ++ R⟩ :: l)) :
  FnTo Q 78 [.ptr p 0,.int .u8 b] H (fun r H' => r = .tup [.int .i32 ((d.first b).1.getD 0 0),.bool (decide ((d.first b).1 ≠ []))] /\ Hp base H' (⟨p,1,(d.first b).2.cs ++ R⟩ :: l) /\ Keep base H H') := by
 refine fn_wp (ho 78 rfl _) q69 (by simp [A78]) ?_
 simp only [A78,SX,Nat.reduceEqDiff,↓reduceIte]
 refine (begD_spec ho q74 h0 h1).mono ?_
 rintro r H' ⟨rfl,rfl⟩
 simp only [ex40,ex41,ex42,ex43,SX,Nat.reduceEqDiff,↓reduceIte]
 by_cases c1 : (begD b).1 < 0
 ·have e : d.first b = ([65533],d) := by unfold DSt.first; rw [if_pos c1]
  simp only [c1,resVal,resVals,ARes.val,SX,Nat.reduceEqDiff,↓reduceIte]
  rw [e]
  exact ⟨rfl,h,Keep.refl _ _⟩
 by_cases c2 : (begD b).1 = 0
 ·have c2' : decide ((begD b).1 = 0) = true := by simpa using c2
  have e : d.first b = ([(begD b).2.2.2],d) := by unfold DSt.first; rw [if_neg c1,if_pos c2]
  simp only [c1,c2',resVal,resVals,ARes.val,SX,Nat.reduceEqDiff,↓reduceIte]
  rw [e]
  exact ⟨rfl,h,Keep.refl _ _⟩
 ·have e : d.first b = ([],⟨1,(begD b).1,(begD b).2.1,(begD b).2.2.1,(begD b).2.2.2⟩) := by unfold DSt.first; rw [if_neg c1,if_neg c2]
  obtain ⟨H1,s1,g1,k1,n1⟩ := h.storeO (a := []) (x := d.cs) (c := R) (o := 0) (n := 5) rfl rfl rfl (new := [.int .i64 1,.int .i64 (begD b).1,.int .u8 (begD b).2.1,.int .u8 (begD b).2.2.1,.int .i32 (begD b).2.2.2]) rfl rfl
  simp only [c1,c2,bld5,bld5V_int,s1,resVal,resVals,ARes.val,SX,reduceCtorEq,Nat.reduceEqDiff,↓reduceIte]
  rw [e]
  exact ⟨rfl,g1,k1⟩
def DSt.other (d : DSt) (b : Int) : List Int × DSt := if 0 < d.kept then (65533 :: (DSt.zero.first b).1,(DSt.zero.first b).2) else d.first b
omit ho in
theorem first_len (d : DSt) (b : Int) : (d.first b).1 = [] \/ ∃ x,(d.first b).1 = [x] := by
 unfold DSt.first
 split
 ·exact .inr ⟨_,rfl⟩
 ·split
  ·exact .inr ⟨_,rfl⟩
  ·exact .inl rfl
set_option maxHeartbeats 4000000 in
theorem rest56 (q69 : Q.fns 78 = some A78) (q74 : Q.fns 90 = some A90) {b : Int} (h0 : 0 <= b) (h1 : b <= 255) {q : Nat} (h : Hp base H (⟨q,1,[.int .i32 0,.int .i32 0]⟩ :: ⟨p,1,d.cs ++ R⟩ :: l)) {e : Env} (e0 : Env.get e 0 = .ptr p 0) (e1 : Env.get e 1 = .int .u8 b) (e4 : Env.get e 4 = .ptr q 0) (e5 : Env.get e 5 = .int .i64 0)
  {K : AV -> AHeap -> Prop} (hk : ∀ H',Hp base H' (⟨p,1,(d.other b).2.cs ++ R⟩ :: l) -> Keep base H H' -> K (.tup [arr2 (d.other b).1,.int .i64 (d.other b).1.length]) H') : ACode.wp Q A61_rest (fnK A61.res K) e H := by
 have res : A61.res = [.cell 4 (some 2),.t 5] := rfl
 rw [res]
 have l0 := h.load (b := p) (k := 1) (cs := d.cs ++ R) (List.mem_cons_of_mem _ (List.mem_cons_self ..)) (o := 0) rfl
 have xi0 : ∀ q,idxAV 2 1 (.ptr q 0) (.int .i64 0) = some (.ptr q 0) := fun _ => rfl
 have xi1 : ∀ q,idxAV 2 1 (.ptr q 0) (.int .i64 1) = some (.ptr q 1) := fun _ => rfl
 have wa : IntKind.wrap .i64 1 = 1 := by decide
 have wb : IntKind.wrap .i64 2 = 2 := by decide
 have stop : ∀ (x y : Int) (H2 : AHeap),∀ d2 : DSt,Hp base H2 (⟨q,1,[.int .i32 x,.int .i32 y]⟩ :: ⟨p,1,d2.cs ++ R⟩ :: l) -> ∃ H',loadV H2 (some 2) (.ptr q 0) = some (.agg [.int .i32 x,.int .i32 y]) /\ storeE H2 2 (.ptr q 0) (.agg [.int .i32 x,.int .i32 y]) = some (.undef,H') /\ loadV H' (some 2) (.ptr q 0) = some (.agg [.int .i32 x,.int .i32 y]) /\ Hp base H' (⟨p,1,d2.cs ++ R⟩ :: l) /\ Keep base H2 H' := by
  intro x y H2 d2 h2
  obtain ⟨H',s,g,k,n⟩ := h2.storeN (n := 2) (new := [.int .i32 x,.int .i32 y]) rfl rfl rfl
  exact ⟨H',h2.loadN (List.mem_cons_self ..) rfl,s,g.loadN (List.mem_cons_self ..) rfl,g.drop,k⟩
 by_cases c1 : 0 < d.kept
 ·have e : d.other b = (65533 :: (DSt.zero.first b).1,(DSt.zero.first b).2) := by unfold DSt.other; rw [if_pos c1]
  rw [e] at hk
  obtain ⟨H1,s1,g1,k1,n1⟩ := (h.swap).storeO (a := []) (x := d.cs) (c := R) (o := 0) (n := 5) rfl rfl rfl (new := DSt.zero.cs) rfl rfl
  obtain ⟨H2,s2,g2,k2,n2⟩ := (Hp.swap g1).store (o := 0) (v := .int .i32 65533) rfl (by simp)
  have s1 : storeE H 5 (.ptr p 0) (.agg [.int .i64 0,.int .i64 0,.int .u8 0,.int .u8 0,.int .i32 0]) = some (.undef,H1) := s1
  simp only [A61_rest,e0,e1,e4,l0,c1,run_build0,s1,xi0,s2,SX,reduceCtorEq,Nat.reduceEqDiff,↓reduceIte]
  refine (first_spec ho (d := DSt.zero) q69 q74 h0 h1 (g2.swap)).mono ?_
  rintro r H3 ⟨rfl,g3,k3⟩
  simp only [ex0,ex1,SX,Nat.reduceEqDiff,↓reduceIte]
  rcases first_len DSt.zero b with hf | ⟨x,hf⟩
  ·rw [hf] at hk ⊢
   obtain ⟨H',l4,s4,l5,g4,k4⟩ := stop 65533 0 H3 _ g3.swap
   have hd : decide (([] : List Int) ≠ []) = false := rfl
   simp only [hd,e4,l4,s4,l5,resVal,resVals,ARes.val,SX,reduceCtorEq,Nat.reduceEqDiff,↓reduceIte]
   exact hk H' g4 (((k1.trans k2).trans k3).trans k4)
  ·rw [hf] at hk ⊢
   obtain ⟨H4,s4,g4,k4,n4⟩ := (Hp.swap g3).store (o := 1) (v := .int .i32 x) rfl (by simp)
   obtain ⟨H',l4,s5,l5,g5,k5⟩ := stop 65533 x H4 _ g4
   have hd : decide (([x] : List Int) ≠ []) = true := rfl
   have hx : ([x] : List Int).getD 0 0 = x := rfl
   simp only [hd,hx,e4,xi1,s4,wb,l4,s5,l5,resVal,resVals,ARes.val,Int.reduceAdd,SX,reduceCtorEq,Nat.reduceEqDiff,↓reduceIte]
   exact hk H' g5 ((((k1.trans k2).trans k3).trans k4).trans k5)
 ·have e : d.other b = d.first b := by unfold DSt.other; rw [if_neg c1]
  rw [e] at hk
  simp only [A61_rest,e0,e1,l0,c1,SX,reduceCtorEq,Nat.reduceEqDiff,↓reduceIte]
  refine (first_spec ho (d := d) q69 q74 h0 h1 (h.swap)).mono ?_
  rintro r H3 ⟨rfl,g3,k3⟩
  simp only [ex0,ex1,SX,Nat.reduceEqDiff,↓reduceIte]
  rcases first_len d b with hf | ⟨x,hf⟩
  ·rw [hf] at hk ⊢
   obtain ⟨H',l4,s4,l5,g4,k4⟩ := stop 0 0 H3 _ g3.swap
   have hd : decide (([] : List Int) ≠ []) = false := rfl
   simp only [hd,e4,e5,l4,s4,l5,resVal,resVals,ARes.val,SX,reduceCtorEq,Nat.reduceEqDiff,↓reduceIte]
   exact hk H' g4 (k3.trans k4)
  ·rw [hf] at hk ⊢
   obtain ⟨H4,s4,g4,k4,n4⟩ := (Hp.swap g3).store (o := 0) (v := .int .i32 x) rfl (by simp)
   obtain ⟨H',l4,s5,l5,g5,k5⟩ := stop x 0 H4 _ g4
   have hd : decide (([x] : List Int) ≠ []) = true := rfl
   have hx : ([x] : List Int).getD 0 0 = x := rfl
   simp only [hd,hx,e4,e5,xi0,s4,wa,l4,s5,l5,resVal,resVals,ARes.val,Int.reduceAdd,SX,reduceCtorEq,Nat.reduceEqDiff,↓reduceIte]
   exact hk H' g5 ((k3.trans k4).trans k5)
set_option maxHeartbeats 4000000 in
theorem byteD_spec (q56 : Q.fns 61 = some A61) (q69 : Q.fns 78 = some A78) (q74 : Q.fns 90 = some A90) {b : Int} (h0 : 0 <= b) (h1 : b <= 255) (hg : d.Good) (h : Hp base H (⟨p,1,d.cs ++ R⟩ :: l)) :
  FnTo Q 61 [.ptr p 0,.int .u8 b] H (fun r H' => r = .tup [arr2 (d.byte b).1,.int .i64 (d.byte b).1.length] /\ Hp base H' (⟨p,1,(d.byte b).2.cs ++ R⟩ :: l) /\ Keep base H H') := by
 refine fn_wp (ho 61 rfl _) q56 (by simp [A61]) ?_
 obtain ⟨H1,s1,g1,k1⟩ := h.make [.int .i32 0,.int .i32 0] 1
 have m0 := g1.load (b := p) (k := 1) (cs := d.cs ++ R) (List.mem_cons_of_mem _ (List.mem_cons_self ..)) (o := 0) rfl
 have m1 := g1.load (b := p) (k := 1) (cs := d.cs ++ R) (List.mem_cons_of_mem _ (List.mem_cons_self ..)) (o := 1) rfl
 have m2 := g1.load (b := p) (k := 1) (cs := d.cs ++ R) (List.mem_cons_of_mem _ (List.mem_cons_self ..)) (o := 2) rfl
 have m3 := g1.load (b := p) (k := 1) (cs := d.cs ++ R) (List.mem_cons_of_mem _ (List.mem_cons_self ..)) (o := 3) rfl
 have m4 := g1.load (b := p) (k := 1) (cs := d.cs ++ R) (List.mem_cons_of_mem _ (List.mem_cons_self ..)) (o := 4) rfl
 have hbb : 0 <= b % 64 /\ b % 64 < 64 := by omega
 have m63 := and_u8 63 (by omega) h0 h1
 simp only [Int.reduceAdd] at m63
 have w63 : IntKind.wrap .i32 (b % 64) = b % 64 := wrapI32 (by omega) (by omega)
 have rest : ¬ (0 < d.kept /\ d.lo <= b /\ b <= d.hi) -> ∀ (e : Env),Env.get e 0 = .ptr p 0 -> Env.get e 1 = .int .u8 b -> Env.get e 4 = .ptr H.next 0 -> Env.get e 5 = .int .i64 0 -> ACode.wp Q A61_rest (fnK A61.res fun r H' => r = .tup [arr2 (d.byte b).1,.int .i64 (d.byte b).1.length] /\ Hp base H' (⟨p,1,(d.byte b).2.cs ++ R⟩ :: l) /\ Keep base H H') e H1 := by
  intro hh e e0 e1 e4 e5
  refine rest56 ho q69 q74 h0 h1 g1 e0 e1 e4 e5 ?_
  intro H' g' k'
  have e : d.byte b = d.other b := by unfold DSt.byte DSt.other; rw [if_neg hh]
  rw [e]
  exact ⟨rfl,g',k1.trans k'⟩
 have res : A61.res = [.cell 4 (some 2),.t 5] := rfl
 rw [res] at rest
 by_cases c1 : 0 < d.kept
 ·obtain ⟨q1,q2,q3,q4,q5,q6,q7⟩ := hg.l c1
  have hx64 : d.x < 33554432 := by omega
  have w2 : IntKind.wrap .i32 (d.x * 64) = d.x * 64 := wrapI32 (by omega) (by omega)
  have w3 : IntKind.wrap .i64 (d.kept + 1) = d.kept + 1 := wrapI64 (by omega) (by omega)
  have w4 : IntKind.wrap .i64 (d.left - 1) = d.left - 1 := wrapI64 (by omega) (by omega)
  have bo := or_i32 q4 hx64 hbb.1 hbb.2
  by_cases c2 : d.lo <= b
  ·by_cases c3 : b <= d.hi
   ·obtain ⟨H2,s2,g2,k2,n2⟩ := (g1.swap).storeO (a := []) (x := d.cs) (c := R) (o := 0) (n := 5) rfl rfl rfl (new := DSt.cs ⟨d.kept + 1,d.left - 1,128,191,d.x * 64 + b % 64⟩) rfl rfl
    have s2 : storeE H1 5 (.ptr p 0) (.agg [.int .i64 (d.kept + 1),.int .i64 (d.left - 1),.int .u8 128,.int .u8 191,.int .i32 (d.x * 64 + b % 64)]) = some (.undef,H2) := s2
    have n1 := g2.load (b := p) (k := 1) (List.mem_cons_self ..) (o := 1) (v := .int .i64 (d.left - 1)) rfl
    have n4 := g2.load (b := p) (k := 1) (List.mem_cons_self ..) (o := 4) (v := .int .i32 (d.x * 64 + b % 64)) rfl
    by_cases c4 : d.left = 1
    ·have hb : d.byte b = ([d.x * 64 + b % 64],DSt.zero) := by unfold DSt.byte; rw [if_pos ⟨c1,c2,c3⟩,if_pos c4]
     have c4' : decide (d.left - 1 = 0) = true := by simp; omega
     have xi0 : ∀ q,idxAV 2 1 (.ptr q 0) (.int .i64 0) = some (.ptr q 0) := fun _ => rfl
     obtain ⟨H3,s3,g3,k3,n3⟩ := (Hp.swap g2).store (o := 0) (v := .int .i32 (d.x * 64 + b % 64)) rfl (by simp)
     obtain ⟨H4,s4,g4,k4,n4'⟩ := (Hp.swap g3).storeO (a := []) (x := DSt.cs ⟨d.kept + 1,d.left - 1,128,191,d.x * 64 + b % 64⟩) (c := R) (o := 0) (n := 5) rfl rfl rfl (new := DSt.zero.cs) rfl rfl
     have s4 : storeE H3 5 (.ptr p 0) (.agg [.int .i64 0,.int .i64 0,.int .u8 0,.int .u8 0,.int .i32 0]) = some (.undef,H4) := s4
     obtain ⟨H5,s5,g5,k5,n5⟩ := (Hp.swap g4).storeN (n := 2) (new := [.int .i32 (d.x * 64 + b % 64),.int .i32 0]) rfl rfl rfl
     have l4 := (Hp.swap g4).loadN (b := H.next) (k := 1) (cs := [.int .i32 (d.x * 64 + b % 64),.int .i32 0]) (List.mem_cons_self ..) (n := 2) rfl
     have l5 := g5.loadN (List.mem_cons_self ..) (n := 2) rfl
     simp only [A61,run_allocL,s1,m0,m1,m2,m3,m4,c1,c2,c3,w3,w4,shl_i32,w2,m63,w63,bo,bld5,bld5V_int,s2,n1,n4,c4',xi0,s3,run_build0,s4,l4,s5,l5,resVal,resVals,ARes.val,SX,reduceCtorEq,Nat.reduceEqDiff,↓reduceIte]
     rw [hb]
     exact ⟨rfl,g5.drop,((((k1.trans k2).trans k3).trans k4).trans k5)⟩
    ·have hb : d.byte b = ([],⟨d.kept + 1,d.left - 1,128,191,d.x * 64 + b % 64⟩) := by unfold DSt.byte; rw [if_pos ⟨c1,c2,c3⟩,if_neg c4]
     have c4' : decide (d.left - 1 = 0) = false := by simp; omega
     obtain ⟨H5,s5,g5,k5,n5⟩ := (Hp.swap g2).storeN (n := 2) (new := [.int .i32 0,.int .i32 0]) rfl rfl rfl
     have l4 := (Hp.swap g2).loadN (b := H.next) (k := 1) (cs := [.int .i32 0,.int .i32 0]) (List.mem_cons_self ..) (n := 2) rfl
     have l5 := g5.loadN (List.mem_cons_self ..) (n := 2) rfl
     simp only [A61,run_allocL,s1,m0,m1,m2,m3,m4,c1,c2,c3,w3,w4,shl_i32,w2,m63,w63,bo,bld5,bld5V_int,s2,n1,c4',l4,s5,l5,resVal,resVals,ARes.val,SX,reduceCtorEq,Nat.reduceEqDiff,↓reduceIte]
     rw [hb]
     exact ⟨rfl,g5.drop,((k1.trans k2).trans k5)⟩
   ·simp only [A61,run_allocL,s1,m0,m2,m3,c1,c2,c3,SX,reduceCtorEq,Nat.reduceEqDiff,↓reduceIte]
    refine rest (fun h => c3 h.2.2) _ ?_ ?_ ?_ ?_ <;> simp only [SX,reduceCtorEq,Nat.reduceEqDiff,↓reduceIte]
  ·simp only [A61,run_allocL,s1,m0,m2,c1,c2,SX,reduceCtorEq,Nat.reduceEqDiff,↓reduceIte]
   refine rest (fun h => c2 h.2.1) _ ?_ ?_ ?_ ?_ <;> simp only [SX,reduceCtorEq,Nat.reduceEqDiff,↓reduceIte]
 ·simp only [A61,run_allocL,s1,m0,c1,SX,reduceCtorEq,Nat.reduceEqDiff,↓reduceIte]
  refine rest (fun h => c1 h.1) _ ?_ ?_ ?_ ?_ <;> simp only [SX,reduceCtorEq,Nat.reduceEqDiff,↓reduceIte]
set_option maxHeartbeats 2000000 in
theorem waitsD_spec (q33 : Q.fns 50 = some A50) (h : Hp base H (⟨p,1,d.cs ++ R⟩ :: l)) : FnTo Q 50 [.ptr p 0] H (fun r H' => r = .int .i64 d.kept /\ H' = H) := by
 refine fn_wp (ho 50 rfl _) q33 (by simp [A50]) ?_
 have l0 := h.load (b := p) (k := 1) (cs := d.cs ++ R) (List.mem_cons_self ..) (o := 0) rfl
 simp only [A50,l0,SX,reduceCtorEq,↓reduceIte]
def DSt.ends (d : DSt) : DSt := if d.kept = 0 then d else DSt.zero
set_option maxHeartbeats 2000000 in
theorem endD_spec (q33 : Q.fns 50 = some A50) (q40 : Q.fns 57 = some A57) (h : Hp base H (⟨p,1,d.cs ++ R⟩ :: l)) :
  FnTo Q 57 [.ptr p 0] H (fun r H' => r = .tup [.int .i32 (if d.kept = 0 then 0 else 65533),.bool (decide (d.kept ≠ 0))] /\ Hp base H' (⟨p,1,d.ends.cs ++ R⟩ :: l) /\ Keep base H H') := by
 refine fn_wp (ho 57 rfl _) q40 (by simp [A57]) ?_
 simp only [A57,SX,reduceCtorEq,↓reduceIte]
 refine (waitsD_spec ho q33 h).mono ?_
 rintro r H' ⟨rfl,rfl⟩
 by_cases c : d.kept = 0
 ·have c' : decide (d.kept = 0) = true := by simpa using c
  simp only [c',resVal,resVals,ARes.val,SX,Nat.reduceEqDiff,↓reduceIte]
  have : d.ends = d := by unfold DSt.ends; rw [if_pos c]
  rw [this]
  exact ⟨by simp [c],h,Keep.refl _ _⟩
 ·have c' : decide (d.kept = 0) = false := by simpa using c
  obtain ⟨H1,s1,g1,k1,n1⟩ := h.storeO (a := []) (x := d.cs) (c := R) (o := 0) (n := 5) rfl rfl rfl (new := DSt.zero.cs) rfl rfl
  have s1 : storeE H' 5 (.ptr p 0) (.agg [.int .i64 0,.int .i64 0,.int .u8 0,.int .u8 0,.int .i32 0]) = some (.undef,H1) := s1
  simp only [c',run_build0,s1,resVal,resVals,ARes.val,SX,reduceCtorEq,Nat.reduceEqDiff,↓reduceIte]
  have : d.ends = DSt.zero := by unfold DSt.ends; rw [if_neg c]
  rw [this]
  exact ⟨by simp [c],g1,k1⟩
end
noncomputable def decCel : DecidableEq Cel := fun a b => Classical.propDecidable (a = b)
noncomputable def cnt (a : Cel) (l : List Cel) : Nat := @List.count Cel (@instBEqOfDecidableEq _ decCel) a l
noncomputable def one1 (a x : Cel) : Nat := cnt a [x]
theorem cnt_nil (a : Cel) : cnt a [] = 0 := rfl
theorem cnt_append (a : Cel) (l l' : List Cel) : cnt a (l ++ l') = cnt a l + cnt a l' := by
 letI : DecidableEq Cel := decCel
 exact List.count_append
theorem cnt_cons (a x : Cel) (l : List Cel) : cnt a (x :: l) = cnt a l + one1 a x := by
 have := cnt_append a [x] l
 simp only [List.singleton_append] at this
 rw [this]; unfold one1; omega
theorem perm_cnt {l l' : List Cel} (h : ∀ a,cnt a l = cnt a l') : l.Perm l' := by
 letI : DecidableEq Cel := decCel
 exact List.perm_iff_count.2 h
theorem _root_.Go.Proofs.YtfbcgjpblomckaaDoor.AM.Hp.re {base : Nat} {H : AHeap} {l l' : List Cel} (h : Hp base H l) (e : ∀ a,cnt a l = cnt a l') : Hp base H l' := h.perm (perm_cnt e)
structure PEv where
 k : Int
 r : Int
 f : Int
 m : List UInt8
 L : List (List Int)
 t : List UInt8
 deriving DecidableEq
def Ev.pure (a : Ev) : PEv := ⟨a.k,a.r,a.f,a.m,a.L,a.t⟩
abbrev EvC := Ev × List Cel
def PRv (v : AV) (L : List (List Int)) (cl : List Cel) : Prop := (L = [] /\ v = .nils /\ cl = []) \/ ∃ b M,M ≠ [] /\ M.map (·.2) = L /\ v = .slc b 0 M.length M.length /\ cl = ⟨b,1,heads M⟩ :: inner M
def flatV (E : List EvC) : List AV := E.flatMap fun a => a.1.cs
def flatC (E : List EvC) : List Cel := E.flatMap fun a => a.2
def TRv (v : AV) (E : List EvC) (cl : List Cel) : Prop := (E = [] /\ v = .nils /\ cl = []) \/ ∃ b pre,v = .slc b pre.length E.length E.length /\ cl = ⟨b,6,pre ++ flatV E⟩ :: flatC E
def bytesV (t : List UInt8) : List AV := t.map fun c => .int .u8 c.toNat
def XRv (v : AV) (t : List UInt8) (cl : List Cel) : Prop := (t = [] /\ v = .nils /\ cl = []) \/ ∃ b,t ≠ [] /\ v = .slc b 0 t.length t.length /\ cl = [⟨b,1,bytesV t⟩]
structure PSt where
 d : DSt
 st : Int
 ps : PS
 mids : List UInt8
 many : Bool
 fin : Int
 text : List UInt8
 long : Bool
 told : List PEv
def pcs (s : PSt) (lv xv tv : AV) : List AV := s.d.cs ++ [.int .i64 s.st,lv,.bool s.ps.ov,.bool s.ps.fu,.str s.mids,.bool s.many,.int .u8 s.fin,xv,.bool s.long,tv]
structure PC where
 lv : AV
 xv : AV
 tv : AV
 lcl : List Cel
 xcl : List Cel
 tcl : List Cel
 E : List EvC
structure PC.ok (c : PC) (s : PSt) : Prop where
 l : PRv c.lv s.ps.L c.lcl
 x : XRv c.xv s.text c.xcl
 t : TRv c.tv c.E c.tcl
 e : c.E.map (fun a => a.1.pure) = s.told
 ev : ∀ a ∈ c.E,PRv a.1.v a.1.L a.2
def PC.rest (c : PC) (l : List Cel) : List Cel := c.lcl ++ (c.xcl ++ (c.tcl ++ l))
def Par (base : Nat) (H : AHeap) (p : Nat) (s : PSt) (l : List Cel) : Prop := ∃ c : PC,c.ok s /\ Hp base H (⟨p,1,pcs s c.lv c.xv c.tv⟩ :: c.rest l)
theorem PRv.one {v : AV} {L : List (List Int)} {cl : List Cel} (h : PRv v L cl) : v.one = true := by
 rcases h with ⟨_,rfl,_⟩ | ⟨b,M,_,_,rfl,_⟩ <;> rfl
theorem PRv.nil : PRv .nils [] [] := .inl ⟨rfl,rfl,rfl⟩
theorem Par.keep {base : Nat} {H H' : AHeap} {p : Nat} {s : PSt} {l : List Cel} (h : Par base H p s l) (g : Gr H H') : Par base H' p s l := by
 obtain ⟨c,ok,hp⟩ := h
 exact ⟨c,ok,hp.keep g.keep g.next g.fr⟩
theorem Par.fr {base : Nat} {H : AHeap} {p : Nat} {s : PSt} {l : List Cel} (h : Par base H p s l) : Fr H := by
 obtain ⟨c,ok,hp⟩ := h
 exact hp.fr
theorem Par.bn {base : Nat} {H : AHeap} {p : Nat} {s : PSt} {l : List Cel} (h : Par base H p s l) : base <= H.next := by
 obtain ⟨c,ok,hp⟩ := h
 exact hp.bn
theorem Par.open {base : Nat} {H : AHeap} {p : Nat} {s : PSt} {l : List Cel} (h : Par base H p s l) : ∃ r,Hp base H (l ++ r) /\ ∀ H' l',Hp base H' (l' ++ r) -> Par base H' p s l' := by
 obtain ⟨c,ok,hp⟩ := h
 refine ⟨⟨p,1,pcs s c.lv c.xv c.tv⟩ :: (c.lcl ++ (c.xcl ++ c.tcl)),hp.re fun a => ?_,fun H' l' h' => ⟨c,ok,h'.re fun a => ?_⟩⟩
 ·simp only [PC.rest,cnt_cons,cnt_append]; omega
 ·simp only [PC.rest,cnt_cons,cnt_append]; omega
theorem Par.re {base : Nat} {H : AHeap} {p : Nat} {s : PSt} {l l' : List Cel} (h : Par base H p s l) (e : ∀ a,cnt a l = cnt a l') : Par base H p s l' := by
 obtain ⟨r,hp,back⟩ := h.open
 exact back _ _ (hp.re fun a => by simp only [cnt_append,e a])
theorem Par.hp {base : Nat} {H : AHeap} {p : Nat} {s : PSt} {l : List Cel} (h : Par base H p s l) : Hp base H l := by
 obtain ⟨r,hp,back⟩ := h.open
 exact hp.sub (List.sublist_append_left _ _)
theorem Par.make {base : Nat} {H : AHeap} {p : Nat} {s : PSt} {l : List Cel} (h : Par base H p s l) (cs : List AV) (k : Nat) :
  ∃ H',H.alloc (.row ⟨cs,0,false,true,0⟩) = H' /\ Par base H' p s (⟨H.next,k,cs⟩ :: l) /\ Keep base H H' := by
 obtain ⟨r,hp,back⟩ := h.open
 obtain ⟨H',e,g,k⟩ := hp.make cs k
 exact ⟨H',e,back _ _ g,k⟩
theorem Par.drop {base : Nat} {H : AHeap} {p : Nat} {s : PSt} {l : List Cel} {x : Cel} (h : Par base H p s (x :: l)) : Par base H p s l := by
 obtain ⟨r,hp,back⟩ := h.open
 exact back _ _ (Hp.drop (l := l ++ r) hp)
theorem Par.join {base : Nat} {H H' : AHeap} {p : Nat} {s : PSt} {l l' : List Cel} (h : Par base H p s l) (g : Gr H H') (h' : Hp H.next H' l') : Par base H' p s (l' ++ l) := by
 obtain ⟨r,hp,back⟩ := h.open
 refine back _ _ ?_
 rw [List.append_assoc]
 exact hp.join g h'
def zeroE : List AV := [.int .i64 0,.int .i32 0,.int .u8 0,.str [],.nils,.str []]
def bs6V (v : AV) : Option (AObj × AKind) := LOp.run .nil (.bslice 6 1 zeroE [(0,.c v)])
theorem run_bslice6 (e : Env) (x : Opd) : LOp.run e (.bslice 6 1 zeroE [(0,x)]) = bs6V (x.ev e) := rfl
theorem bs6V_ev {a : Ev} (h : a.v.one = true) : bs6V a.val = some (.row ⟨a.cs,0,false,true,0⟩,.slc 1 1) := by
 have h1 : a.val.cells = a.cs := rfl
 have h2 : a.cs.length = 6 := rfl
 have h3 : a.cs.all AV.one = true := by simp only [Ev.cs,List.all_cons,List.all_nil,h]; rfl
 have h4 : zeros zeroE (1 * 6) = zeroE := rfl
 have h5 : over zeroE (0 * 6) a.cs = a.cs := rfl
 simp only [bs6V,LOp.run,h4,List.map_cons,List.map_nil,Opd.ev,buildIn,h1,h2,h5]
 simp [h3,zeroE]
theorem box_evV {a : Ev} (h : a.v.one = true) : boxV a.val = some (.row ⟨a.cs,0,false,true,0⟩,.ptr) := by
 have h3 : a.cs.all AV.one = true := by simp only [Ev.cs,List.all_cons,List.all_nil,h]; rfl
 have h1 : a.val.cells = a.cs := rfl
 simp only [boxV,h1,h3,if_true]
def PSt.tell (s : PSt) (e : PEv) : PSt := { s with told := s.told ++ [e] }
theorem ev_ones {E : List EvC} (h : ∀ a ∈ E,PRv a.1.v a.1.L a.2) : (flatV E).all AV.one = true := by
 induction E with
 | nil => rfl
 | cons a E ih =>
  have h1 := (h a (List.mem_cons_self ..)).one
  have h3 : a.1.cs.all AV.one = true := by simp only [Ev.cs,List.all_cons,List.all_nil,h1]; rfl
  simp only [flatV,List.flatMap_cons,List.all_append,h3,Bool.true_and]
  exact ih fun x hx => h x (List.mem_cons_of_mem _ hx)
theorem flatV_len (E : List EvC) : (flatV E).length = E.length * 6 := by
 induction E with
 | nil => rfl
 | cons a E ih =>
  have : (flatV (a :: E)).length = 6 + (flatV E).length := by simp only [flatV,List.flatMap_cons,List.length_append]; rfl
  rw [this,ih,List.length_cons]; omega
theorem flatV_app (E F : List EvC) : flatV (E ++ F) = flatV E ++ flatV F := List.flatMap_append ..
theorem flatC_app (E F : List EvC) : flatC (E ++ F) = flatC E ++ flatC F := List.flatMap_append ..
theorem flatV_one (a : EvC) : flatV [a] = a.1.cs := by simp [flatV]
theorem flatC_one (a : EvC) : flatC [a] = a.2 := by simp [flatC]
theorem TRv.push {base : Nat} {H : AHeap} {v : AV} {E F : List EvC} {cl l : List Cel} {w : AV} (h : TRv v E cl) (hp : Hp base H (cl ++ l)) (hsrc : srcCells H 6 w = some (F.length,flatV F)) (hF : ∀ a ∈ F,PRv a.1.v a.1.L a.2) (h0 : 0 < F.length) (hs : E.length + F.length <= 10000000) :
  ∃ b H',appendE H 6 72 v w = some (.slc b 0 (E ++ F).length (E ++ F).length,H') /\ Hp base H' (⟨b,6,flatV (E ++ F)⟩ :: (flatC E ++ l)) /\ Keep base H H' := by
 rcases h with ⟨rfl,rfl,rfl⟩ | ⟨b,pre,rfl,rfl⟩
 ·obtain ⟨H',s,g,k⟩ := hp.appendK0 (k := 6) (bytes := 72) (by omega) hsrc h0 (ev_ones hF) (by omega) (by omega)
  exact ⟨_,H',s,g,k⟩
 ·obtain ⟨H',s,g,k⟩ := Hp.appendK (l := flatC E ++ l) hp (k := 6) (bytes := 72) rfl (flatV_len E) (by omega) hsrc h0 (ev_ones hF) (by omega) (by omega)
  refine ⟨_,H',by rw [List.length_append]; exact s,?_,k⟩
  rw [flatV_app]; exact g
section
variable {Q : Prog} (ho : ∀ f,Nat.beq f 10 = false -> ∀ a,Q.orc f a = Option.none) {base : Nat} {H : AHeap} {p : Nat} {s : PSt} {l : List Cel}
include ho
set_option maxHeartbeats 4000000 in
theorem tells_spec (q54 : Q.fns 59 = some A59) {a : EvC} (ha : PRv a.1.v a.1.L a.2) (h : Par base H p s (a.2 ++ l)) (hs : s.told.length <= 1000000) :
  FnTo Q 59 [.ptr p 0,a.1.val] H (fun r H' => Par base H' p (s.tell a.1.pure) l /\ Keep base H H') := by
 refine fn_wp (ho 59 rfl _) q54 (by simp [A59]) ?_
 obtain ⟨c,ok,hp⟩ := h
 have hE : c.E.length = s.told.length := by rw [<- ok.e]; simp
 obtain ⟨H1,s1,g1,k1⟩ := hp.make a.1.cs 6
 have l1 := g1.load (b := p) (k := 1) (cs := pcs s c.lv c.xv c.tv) (by simp) (o := 14) rfl
 have l2 : loadV H1 (some 6) (.ptr H.next 0) = some a.1.val := g1.loadN (b := H.next) (k := 6) (cs := a.1.cs) (by simp) (n := 6) rfl
 obtain ⟨H2,s2,g2,k2⟩ := g1.make a.1.cs 6
 have hz : [AV.int .i64 0,.int .i32 0,.int .u8 0,.str [],.nils,.str []] = zeroE := rfl
 have g2' : Hp base H2 (c.tcl ++ (⟨H1.next,6,[] ++ (a.1.cs ++ [])⟩ :: (⟨p,1,pcs s c.lv c.xv c.tv⟩ :: (c.lcl ++ (c.xcl ++ (a.2 ++ l)))))) := by
  rw [List.append_nil,List.nil_append]
  exact g2.drop.sub (l' := _) (List.Sublist.refl _) |> fun _ => (g2.swap.drop).re fun x => by simp only [PC.rest,cnt_cons,cnt_append]; omega
 have hsrc : srcCells H2 6 (.slc H1.next 0 1 1) = some ([a].length,flatV [a]) := by
  rw [flatV_one]
  exact g2'.src (k' := 6) (pre := []) (post := []) (ys := a.1.cs) (List.mem_append_right _ (List.mem_cons_self ..)) rfl rfl (by omega)
 obtain ⟨b,H3,s3,g3,k3⟩ := ok.t.push g2' hsrc (fun x hx => by simp only [List.mem_singleton] at hx; subst hx; exact ha) (by simp) (by simp; omega)
 have g3' : Hp base H3 (⟨p,1,pcs s c.lv c.xv c.tv⟩ :: ⟨b,6,flatV (c.E ++ [a])⟩ :: (flatC c.E ++ (c.lcl ++ (c.xcl ++ (a.2 ++ l))))) := by
  have := g3.re (l' := ⟨H1.next,6,[] ++ (a.1.cs ++ [])⟩ :: (⟨p,1,pcs s c.lv c.xv c.tv⟩ :: ⟨b,6,flatV (c.E ++ [a])⟩ :: (flatC c.E ++ (c.lcl ++ (c.xcl ++ (a.2 ++ l)))))) (fun x => by simp only [cnt_cons,cnt_append]; omega)
  exact this.drop
 obtain ⟨H4,s4,g4,k4,n4⟩ := g3'.store (o := 14) (v := .slc b 0 (c.E ++ [a]).length (c.E ++ [a]).length) rfl (by simp [pcs,DSt.cs])
 simp only [A59,box_evV ha.one,s1,l1,l2,hz,run_bslice6,bs6V_ev ha.one,s2,s3,s4,SX,reduceCtorEq,Nat.reduceEqDiff,↓reduceIte]
 refine ⟨⟨⟨c.lv,c.xv,.slc b 0 (c.E ++ [a]).length (c.E ++ [a]).length,c.lcl,c.xcl,⟨b,6,flatV (c.E ++ [a])⟩ :: flatC (c.E ++ [a]),c.E ++ [a]⟩,⟨ok.l,ok.x,.inr ⟨b,[],rfl,rfl⟩,?_,?_⟩,?_⟩,((k1.trans k2).trans k3).trans k4⟩
 ·simp only [PSt.tell,List.map_append,ok.e,List.map_cons,List.map_nil]
 ·intro x hx
  rcases List.mem_append.1 hx with hx | hx
  ·exact ok.ev x hx
  ·simp only [List.mem_singleton] at hx; subst hx; exact ha
 ·refine Hp.re (l := ⟨p,1,(pcs s c.lv c.xv c.tv).set 14 (.slc b 0 (c.E ++ [a]).length (c.E ++ [a]).length)⟩ :: ⟨b,6,flatV (c.E ++ [a])⟩ :: (flatC c.E ++ (c.lcl ++ (c.xcl ++ (a.2 ++ l))))) g4 fun x => ?_
  have e1 : (pcs s c.lv c.xv c.tv).set 14 (.slc b 0 (c.E ++ [a]).length (c.E ++ [a]).length) = pcs (s.tell a.1.pure) c.lv c.xv (.slc b 0 (c.E ++ [a]).length (c.E ++ [a]).length) := rfl
  rw [e1,flatC_app,flatC_one]
  simp only [PC.rest,cnt_cons,cnt_append]
  omega
end
structure EvQ (Q : Prog) : Prop where
 q14 : Q.fns 22 = some A22
 q16 : Q.fns 29 = some A29
 q19 : Q.fns 31 = some A31
 q22 : Q.fns 23 = some A23
 q27 : Q.fns 30 = some A30
 q28 : Q.fns 32 = some A32
 q29 : Q.fns 33 = some A33
 q30 : Q.fns 34 = some A34
 q31 : Q.fns 35 = some A35
 q32 : Q.fns 36 = some A36
 q33 : Q.fns 50 = some A50
 q40 : Q.fns 57 = some A57
 q41 : Q.fns 58 = some A58
 q48 : Q.fns 51 = some A51
 q49 : Q.fns 52 = some A52
 q50 : Q.fns 53 = some A53
 q51 : Q.fns 54 = some A54
 q52 : Q.fns 55 = some A55
 q53 : Q.fns 56 = some A56
 q54 : Q.fns 59 = some A59
 q55 : Q.fns 60 = some A60
 q56 : Q.fns 61 = some A61
 q57 : Q.fns 62 = some A62
 q58 : Q.fns 63 = some A63
 q59 : Q.fns 64 = some A64
 q68 : Q.fns 77 = some A77
 q69 : Q.fns 78 = some A78
 q70 : Q.fns 79 = some A79
 q74 : Q.fns 90 = some A90
 ho : ∀ f,Nat.beq f 10 = false -> ∀ a,Q.orc f a = Option.none
def ev0 (k r f : Int) (m t : List UInt8) : EvC := (⟨k,r,f,m,.nils,t,[]⟩,[])
theorem ev0_ok (k r f : Int) (m t : List UInt8) : PRv (ev0 k r f m t).1.v (ev0 k r f m t).1.L (ev0 k r f m t).2 := PRv.nil
theorem ev0_pure (k r f : Int) (m t : List UInt8) : (ev0 k r f m t).1.pure = ⟨k,r,f,m,[],t⟩ := rfl
theorem build_print (r : Int) : buildV zeroE [(0,1,.int .i64 1),(1,1,.int .i32 r)] = some (ev0 1 r 0 [] []).1.val := rfl
theorem build_exec (c : Int) : buildV zeroE [(0,1,.int .i64 2),(2,1,.int .u8 c)] = some (ev0 2 0 c [] []).1.val := rfl
theorem build_esc (c : Int) (m : List UInt8) : buildV zeroE [(0,1,.int .i64 3),(2,1,.int .u8 c),(3,1,.str m)] = some (ev0 3 0 c m []).1.val := rfl
theorem build_osc (t : List UInt8) : buildV zeroE [(0,1,.int .i64 5),(5,1,.str t)] = some (ev0 5 0 0 [] t).1.val := rfl
theorem build_csi (c : Int) (m : List UInt8) {v : AV} {L : List (List Int)} {cl : List Cel} (h : PRv v L cl) : buildV zeroE [(0,1,.int .i64 4),(2,1,.int .u8 c),(3,1,.str m),(4,1,v)] = some (Ev.val ⟨4,0,c,m,v,[],L⟩) := by
 rcases h with ⟨_,rfl,_⟩ | ⟨b,M,_,_,rfl,_⟩ <;> rfl
theorem build_dcs (c : Int) (m t : List UInt8) {v : AV} {L : List (List Int)} {cl : List Cel} (h : PRv v L cl) : buildV zeroE [(0,1,.int .i64 6),(2,1,.int .u8 c),(3,1,.str m),(4,1,v),(5,1,.str t)] = some (Ev.val ⟨6,0,c,m,v,t,L⟩) := by
 rcases h with ⟨_,rfl,_⟩ | ⟨b,M,_,_,rfl,_⟩ <;> rfl
theorem hzE : [AV.int .i64 0,.int .i32 0,.int .u8 0,.str [],.nils,.str []] = zeroE := rfl
def PSt.prints (s : PSt) (xs : List Int) : PSt := { s with told := s.told ++ xs.map fun r => ⟨1,r,0,[],[],[]⟩ }
theorem prints_tell (s : PSt) (xs : List Int) (r : Int) : (s.prints xs).tell ⟨1,r,0,[],[],[]⟩ = s.prints (xs ++ [r]) := by
 simp [PSt.prints,PSt.tell]
theorem prints_nil (s : PSt) : s.prints [] = s := by simp [PSt.prints]
def PSt.endS (s : PSt) : PSt := if s.d.kept = 0 then s else { s with d := DSt.zero,told := s.told ++ [⟨1,65533,0,[],[],[]⟩] }
section
variable {Q : Prog} (eq : EvQ Q) {base : Nat} {H : AHeap} {p : Nat} {s : PSt} {l : List Cel}
include eq
set_option maxHeartbeats 4000000 in
theorem prints_spec {q cap : Nat} {xs : List Int} {post : List AV} (h : Par base H p s (⟨q,1,xs.map (.int .i32) ++ post⟩ :: l)) (hs : s.told.length + xs.length <= 1000000) :
  FnTo Q 58 [.ptr p 0,.slc q 0 xs.length cap] H (fun r H' => Par base H' p (s.prints xs) (⟨q,1,xs.map (.int .i32) ++ post⟩ :: l) /\ Keep base H H') := by
 refine fn_wp (eq.ho 58 rfl _) eq.q41 (by simp [A58]) ?_
 simp only [A58,SX,↓reduceIte]
 obtain ⟨I,hI⟩ : ∃ I : Nat -> Env -> AHeap -> Prop,∀ m e H',I m e H' ↔ (Keep base H H' /\ ∃ i : Nat,m = xs.length - i /\ i <= xs.length /\ Par base H' p (s.prints (xs.take i)) (⟨q,1,xs.map (.int .i32) ++ post⟩ :: l) /\ Env.get e 0 = .ptr p 0 /\ Env.get e 6 = .slc q 0 xs.length cap /\ Env.get e 7 = .int .i64 xs.length /\ Env.get e 8 = .int .i64 i) := ⟨_,fun _ _ _ => Iff.rfl⟩
 refine loop_by I xs.length ?_ ?_
 ·refine (hI _ _ _).2 ⟨Keep.refl _ _,0,rfl,by omega,by rw [List.take_zero,prints_nil]; exact h,?_⟩
  simp only [SX,reduceCtorEq,Nat.reduceEqDiff,↓reduceIte]; rfl
 ·intro m e H1 hinv
  obtain ⟨k1,i,rfl,hi,par,e0,e6,e7,e8⟩ := (hI _ _ _).1 hinv
  by_cases d : (i : Int) < xs.length
  ·obtain ⟨r,hr⟩ : ∃ r,xs[i]? = some r := ⟨_,List.getElem?_eq_getElem (by omega)⟩
   have xi : idxSV 1 (.slc q 0 xs.length cap) (.int .i64 i) = some (.ptr q (0 + i)) := idxSV_slc (by omega)
   have lr := par.hp.load (b := q) (k := 1) (cs := xs.map (.int .i32) ++ post) (List.mem_cons_self ..) (o := i) (v := .int .i32 r) (by rw [List.getElem?_append_left (by simp; omega),List.getElem?_map,hr]; rfl)
   have w1 : IntKind.wrap .i64 ((i : Int) + 1) = ((i + 1 : Nat) : Int) := by rw [wrapI64 (by omega) (by omega)]; rfl
   simp only [e0,e6,e7,e8,d,xi,lr,hzE,run_build,build_print,SX,reduceCtorEq,Nat.reduceEqDiff,↓reduceIte]
   refine (tells_spec eq.ho eq.q54 (ev0_ok 1 r 0 [] []) (l := ⟨q,1,xs.map (.int .i32) ++ post⟩ :: l) par (by simp [PSt.prints]; omega)).mono ?_
   rintro r' H2 ⟨par2,k2⟩
   simp only [e8,w1,SX,Nat.reduceEqDiff,↓reduceIte]
   refine ⟨xs.length - (i + 1),by omega,(hI _ _ _).2 ⟨k1.trans k2,i + 1,rfl,by omega,?_,?_⟩⟩
   ·rw [ev0_pure,prints_tell] at par2
    rw [List.take_add_one,hr]
    exact par2
   ·simp only [e0,e6,e7,SX,reduceCtorEq,Nat.reduceEqDiff,↓reduceIte]
  ·simp only [e7,e8,d,SX,↓reduceIte]
   rw [List.take_of_length_le (by omega)] at par
   exact ⟨par,k1⟩
set_option maxHeartbeats 4000000 in
theorem endS_spec (h : Par base H p s l) (hs : s.told.length <= 900000) :
  FnTo Q 31 [.ptr p 0] H (fun r H' => Par base H' p s.endS l /\ Keep base H H') := by
 refine fn_wp (eq.ho 31 rfl _) eq.q19 (by simp [A31]) ?_
 obtain ⟨c,ok,hp⟩ := h
 simp only [A31,SX,reduceCtorEq,↓reduceIte]
 refine (endD_spec eq.ho (d := s.d) eq.q33 eq.q40 hp).mono ?_
 rintro r H1 ⟨rfl,g1,k1⟩
 by_cases c0 : s.d.kept = 0
 ·have e1 : s.d.ends = s.d := by unfold DSt.ends; rw [if_pos c0]
  have e2 : s.endS = s := by unfold PSt.endS; rw [if_pos c0]
  have hd : decide (s.d.kept ≠ 0) = false := by simp [c0]
  simp only [hd,ex0,ex1,SX,Nat.reduceEqDiff,↓reduceIte]
  rw [e2]
  rw [e1] at g1
  exact ⟨⟨c,ok,g1⟩,k1⟩
 ·have e1 : s.d.ends = DSt.zero := by unfold DSt.ends; rw [if_neg c0]
  have e2 : s.endS = ({ s with d := DSt.zero } : PSt).prints [65533] := by unfold PSt.endS; rw [if_neg c0]; rfl
  have hd : decide (s.d.kept ≠ 0) = true := by simp [c0]
  rw [e1] at g1
  have par1 : Par base H1 p { s with d := DSt.zero } l := ⟨c,⟨ok.l,ok.x,ok.t,ok.e,ok.ev⟩,g1⟩
  obtain ⟨H2,s2,par2,k2⟩ := par1.make [.int .i32 65533] 1
  have hb : bs1V (.int .i32 65533) = some (.row ⟨[.int .i32 65533],0,false,true,0⟩,.slc 1 1) := rfl
  have hif : (if s.d.kept = 0 then (0 : Int) else 65533) = 65533 := if_neg c0
  simp only [hd,hif,ex0,ex1,hb,s2,SX,reduceCtorEq,Nat.reduceEqDiff,↓reduceIte]
  refine (prints_spec eq (xs := [65533]) (post := []) (cap := 1) par2 (by simp; omega)).mono ?_
  rintro r H3 ⟨par3,k3⟩
  simp only [SX]
  rw [e2]
  exact ⟨par3.drop,(k1.trans k2).trans k3⟩
set_option maxHeartbeats 4000000 in
theorem waits_spec (h : Par base H p s l) : FnTo Q 29 [.ptr p 0] H (fun r H' => r = .bool (decide (s.st ≠ 0 \/ 0 < s.d.kept)) /\ H' = H) := by
 refine fn_wp (eq.ho 29 rfl _) eq.q16 (by simp [A29]) ?_
 obtain ⟨c,ok,hp⟩ := h
 have l5 := hp.load (b := p) (k := 1) (cs := pcs s c.lv c.xv c.tv) (List.mem_cons_self ..) (o := 5) rfl
 by_cases c1 : s.st = 0
 ·have c1' : (!decide (s.st = 0)) = false := by simp [c1]
  simp only [A29,l5,c1',SX,reduceCtorEq,Nat.reduceEqDiff,↓reduceIte]
  refine (waitsD_spec eq.ho (d := s.d) eq.q33 hp).mono ?_
  rintro r H' ⟨rfl,rfl⟩
  simp only [SX,Nat.reduceEqDiff,↓reduceIte]
  simp [c1]
 ·have c1' : (!decide (s.st = 0)) = true := by simp [c1]
  simp only [A29,l5,c1',SX,reduceCtorEq,Nat.reduceEqDiff,↓reduceIte]
  simp [c1]
end
def nGround (c : Int) : Int × Int := if c < 32 then (2,0) else if c = 127 then (0,0) else (1,0)
def nEscape (c : Int) : Int × Int :=
 if c < 32 then (2,1) else if c < 48 then (3,2) else if c = 80 then (0,7) else if c = 91 then (0,3) else if c = 93 then (0,12) else if c = 88 then (0,13) else if c = 94 then (0,13) else if c = 95 then (0,13) else if c < 127 then (5,0) else (0,1)
def nInter (c : Int) : Int × Int := if c < 32 then (2,2) else if c < 48 then (3,2) else if c < 127 then (5,0) else (0,2)
def nLet (c : Int) : Int × Int := if c < 32 then (2,6) else if 64 <= c then (if c < 127 then (0,0) else (0,6)) else (0,6)
def nText (st c : Int) : Int × Int :=
 if st = 10 then (if c = 127 then (0,10) else (8,10)) else if st = 12 then (if 32 <= c then (8,12) else if c = 7 then (0,0) else (0,12)) else (0,st)
def nSeq (c on inn param off en : Int) : Int × Int :=
 if c < 32 then (if en = 6 then (2,on) else (0,on)) else if 127 <= c then (0,on) else if c < 48 then (3,inn) else if c < 64 then (if on = inn then (0,off) else if c < 60 then (4,param) else if on = 3 \/ on = 7 then (3,param) else (0,off))
 else if en = 6 then (6,0) else (7,10)
def nx (st c : Int) : Int × Int :=
 if c = 24 then (2,0) else if c = 26 then (2,0) else if c = 27 then (0,1) else
 if st = 1 then nEscape c else if st = 2 then nInter c else if st = 3 \/ st = 4 \/ st = 5 then nSeq c st 5 4 6 6 else if st = 6 then nLet c
 else if st = 7 \/ st = 8 \/ st = 9 then nSeq c st 9 8 11 7 else if st = 10 \/ st = 11 \/ st = 12 \/ st = 13 then nText st c else nGround c
def tup2 (x : Int × Int) : AV := .tup [.int .i64 x.1,.int .i64 x.2]
theorem tup2_eq {a b : Int} {x : Int × Int} (h : (a,b) = x) : AV.tup [.int .i64 a,.int .i64 b] = tup2 x := by rw [<- h]; rfl
theorem ext2 (x : Int × Int) : extractV 0 (tup2 x) = some (.int .i64 x.1) /\ extractV 1 (tup2 x) = some (.int .i64 x.2) := ⟨rfl,rfl⟩
section
variable {Q : Prog} (eq : EvQ Q) {H : AHeap} {c : Int}
include eq
theorem ground_spec : FnTo Q 56 [.int .u8 c] H (fun r H' => r = tup2 (nGround c) /\ H' = H) := by
 refine fn_wp (eq.ho 56 rfl _) eq.q53 (by simp [A56]) ?_
 by_cases c1 : c < 32
 ·simp only [A56,c1,SX,reduceCtorEq,Nat.reduceEqDiff,↓reduceIte]
  exact tup2_eq (by simp [nGround,c1])
 by_cases c2 : c = 127
 ·simp only [A56,c2,SX,reduceCtorEq,Nat.reduceEqDiff,↓reduceIte,Int.reduceLT]
  exact tup2_eq (by simp [nGround])
 ·simp only [A56,c1,c2,SX,reduceCtorEq,Nat.reduceEqDiff,↓reduceIte]
  exact tup2_eq (by simp [nGround,c1,c2])
theorem inter_spec : FnTo Q 52 [.int .u8 c] H (fun r H' => r = tup2 (nInter c) /\ H' = H) := by
 refine fn_wp (eq.ho 52 rfl _) eq.q49 (by simp [A52]) ?_
 by_cases c1 : c < 32
 ·simp only [A52,c1,SX,reduceCtorEq,Nat.reduceEqDiff,↓reduceIte]
  exact tup2_eq (by simp [nInter,c1])
 by_cases c2 : c < 48
 ·simp only [A52,c1,c2,SX,reduceCtorEq,Nat.reduceEqDiff,↓reduceIte]
  exact tup2_eq (by simp [nInter,c1,c2])
 by_cases c3 : c < 127
 ·simp only [A52,c1,c2,c3,SX,reduceCtorEq,Nat.reduceEqDiff,↓reduceIte]
  exact tup2_eq (by simp [nInter,c1,c2,c3])
 ·simp only [A52,c1,c2,c3,SX,reduceCtorEq,Nat.reduceEqDiff,↓reduceIte]
  exact tup2_eq (by simp [nInter,c1,c2,c3])
theorem let_spec : FnTo Q 54 [.int .u8 c] H (fun r H' => r = tup2 (nLet c) /\ H' = H) := by
 refine fn_wp (eq.ho 54 rfl _) eq.q51 (by simp [A54]) ?_
 by_cases c1 : c < 32
 ·simp only [A54,c1,SX,reduceCtorEq,Nat.reduceEqDiff,↓reduceIte]
  exact tup2_eq (by simp [nLet,c1])
 by_cases c2 : 64 <= c
 ·by_cases c3 : c < 127
  ·simp only [A54,c1,c2,c3,SX,reduceCtorEq,Nat.reduceEqDiff,↓reduceIte]
   exact tup2_eq (by simp [nLet,c1,c2,c3])
  ·simp only [A54,c1,c2,c3,SX,reduceCtorEq,Nat.reduceEqDiff,↓reduceIte]
   exact tup2_eq (by simp [nLet,c1,c2,c3])
 ·simp only [A54,c1,c2,SX,reduceCtorEq,Nat.reduceEqDiff,↓reduceIte]
  exact tup2_eq (by simp [nLet,c1,c2])
set_option maxHeartbeats 2000000 in
theorem escape_spec : FnTo Q 51 [.int .u8 c] H (fun r H' => r = tup2 (nEscape c) /\ H' = H) := by
 refine fn_wp (eq.ho 51 rfl _) eq.q48 (by simp [A51]) ?_
 by_cases c1 : c < 32
 ·simp only [A51,c1,SX,reduceCtorEq,Nat.reduceEqDiff,↓reduceIte]
  exact tup2_eq (by simp [nEscape,c1])
 by_cases c2 : c < 48
 ·simp only [A51,c1,c2,SX,reduceCtorEq,Nat.reduceEqDiff,↓reduceIte]
  exact tup2_eq (by simp [nEscape,c1,c2])
 by_cases c3 : c = 80
 ·simp only [A51,c3,SX,reduceCtorEq,Nat.reduceEqDiff,↓reduceIte,Int.reduceLT]
  exact tup2_eq (by simp [nEscape])
 by_cases c4 : c = 91
 ·simp only [A51,c4,SX,reduceCtorEq,Nat.reduceEqDiff,↓reduceIte,Int.reduceEq,Int.reduceLT]
  exact tup2_eq (by simp [nEscape])
 by_cases c5 : c = 93
 ·simp only [A51,c5,SX,reduceCtorEq,Nat.reduceEqDiff,↓reduceIte,Int.reduceEq,Int.reduceLT]
  exact tup2_eq (by simp [nEscape])
 by_cases c6 : c = 88
 ·simp only [A51,c6,SX,reduceCtorEq,Nat.reduceEqDiff,↓reduceIte,Int.reduceEq,Int.reduceLT]
  exact tup2_eq (by simp [nEscape])
 by_cases c7 : c = 94
 ·simp only [A51,c7,SX,reduceCtorEq,Nat.reduceEqDiff,↓reduceIte,Int.reduceEq,Int.reduceLT]
  exact tup2_eq (by simp [nEscape])
 by_cases c8 : c = 95
 ·simp only [A51,c8,SX,reduceCtorEq,Nat.reduceEqDiff,↓reduceIte,Int.reduceEq,Int.reduceLT]
  exact tup2_eq (by simp [nEscape])
 by_cases c9 : c < 127
 ·simp only [A51,c1,c2,c3,c4,c5,c6,c7,c8,c9,SX,reduceCtorEq,Nat.reduceEqDiff,↓reduceIte]
  exact tup2_eq (by simp [nEscape,c1,c2,c3,c4,c5,c6,c7,c8,c9])
 ·simp only [A51,c1,c2,c3,c4,c5,c6,c7,c8,c9,SX,reduceCtorEq,Nat.reduceEqDiff,↓reduceIte]
  exact tup2_eq (by simp [nEscape,c1,c2,c3,c4,c5,c6,c7,c8,c9])
set_option maxHeartbeats 2000000 in
theorem text_spec {st : Int} : FnTo Q 55 [.int .i64 st,.int .u8 c] H (fun r H' => r = tup2 (nText st c) /\ H' = H) := by
 refine fn_wp (eq.ho 55 rfl _) eq.q52 (by simp [A55]) ?_
 by_cases c1 : st = 10
 ·have c1' : decide (st = 12) = false := by simp [c1]
  by_cases c2 : c = 127
  ·simp only [A55,c1,c2,SX,reduceCtorEq,Nat.reduceEqDiff,↓reduceIte,Int.reduceEq]
   exact tup2_eq (by simp [nText])
  ·simp only [A55,c1,c2,SX,reduceCtorEq,Nat.reduceEqDiff,↓reduceIte]
   exact tup2_eq (by simp [nText,c2])
 by_cases c3 : st = 12
 ·by_cases c4 : 32 <= c
  ·simp only [A55,c3,c4,SX,reduceCtorEq,Nat.reduceEqDiff,↓reduceIte,Int.reduceEq]
   exact tup2_eq (by simp [nText,c4])
  ·by_cases c5 : c = 7
   ·simp only [A55,c3,c5,SX,reduceCtorEq,Nat.reduceEqDiff,↓reduceIte,Int.reduceEq,Int.reduceLE]
    exact tup2_eq (by simp [nText])
   ·simp only [A55,c3,c4,c5,SX,reduceCtorEq,Nat.reduceEqDiff,↓reduceIte,Int.reduceEq]
    exact tup2_eq (by simp [nText,c4,c5])
 ·simp only [A55,c1,c3,SX,reduceCtorEq,Nat.reduceEqDiff,↓reduceIte]
  exact tup2_eq (by simp [nText,c1,c3])
set_option maxHeartbeats 4000000 in
theorem seq_spec {on inn param off en : Int} : FnTo Q 53 [.int .u8 c,.int .i64 on,.int .i64 inn,.int .i64 param,.int .i64 off,.int .i64 en] H (fun r H' => r = tup2 (nSeq c on inn param off en) /\ H' = H) := by
 refine fn_wp (eq.ho 53 rfl _) eq.q50 (by simp [A53]) ?_
 have fin : ∀ (a b : Int),(a,b) = nSeq c on inn param off en -> AV.tup [.int .i64 a,.int .i64 b] = tup2 (nSeq c on inn param off en) := fun a b h => tup2_eq h
 obtain ⟨K,hK⟩ : ∃ K : AV -> AHeap -> Prop,K = fun r H' => r = tup2 (nSeq c on inn param off en) /\ H' = H := ⟨_,rfl⟩
 rw [<- hK]
 have hKt : ∀ (a b : Int),(a,b) = nSeq c on inn param off en -> K (.tup [.int .i64 a,.int .i64 b]) H := fun a b h => by rw [hK]; exact ⟨fin a b h,rfl⟩
 have res : A53.res = [.t 12,.t 13] := rfl
 have key : ∀ (e : Env),Env.get e 0 = .int .u8 c -> Env.get e 1 = .int .i64 on -> Env.get e 2 = .int .i64 inn -> Env.get e 3 = .int .i64 param -> Env.get e 4 = .int .i64 off -> Env.get e 5 = .int .i64 en -> Env.get e 14 = .bool (decide (on = 3 \/ on = 7)) -> ACode.wp Q (sndC (sndC A53.body)) (fnK A53.res K) e H := by
  intro e e0 e1 e2 e3 e4 e5 e14
  rw [res]
  by_cases c1 : c < 32
  ·by_cases c2 : en = 6
   ·simp only [A53,sndC,e0,e1,e5,c1,c2,SX,Nat.reduceEqDiff,↓reduceIte]
    exact hKt _ _ (by simp [nSeq,c1,c2])
   ·simp only [A53,sndC,e0,e1,e5,c1,c2,SX,reduceCtorEq,Nat.reduceEqDiff,↓reduceIte]
    exact hKt _ _ (by simp [nSeq,c1,c2])
  by_cases c3 : 127 <= c
  ·simp only [A53,sndC,e0,e1,c1,c3,SX,reduceCtorEq,Nat.reduceEqDiff,↓reduceIte]
   exact hKt _ _ (by simp [nSeq,c1,c3])
  by_cases c4 : c < 48
  ·simp only [A53,sndC,e0,e2,c1,c3,c4,SX,reduceCtorEq,Nat.reduceEqDiff,↓reduceIte]
   exact hKt _ _ (by simp [nSeq,c1,c3,c4])
  by_cases c5 : c < 64
  ·by_cases c6 : on = inn
   ·have c6' : decide (on = inn) = true := by simpa using c6
    simp only [A53,sndC,e0,e1,e2,e4,c1,c3,c4,c5,c6',SX,reduceCtorEq,Nat.reduceEqDiff,↓reduceIte]
    exact hKt _ _ (by simp [nSeq,c1,c3,c4,c5,c6])
   ·by_cases c7 : c < 60
    ·simp only [A53,sndC,e0,e1,e2,e3,c1,c3,c4,c5,c6,c7,SX,reduceCtorEq,Nat.reduceEqDiff,↓reduceIte]
     exact hKt _ _ (by simp [nSeq,c1,c3,c4,c5,c6,c7])
    ·by_cases c8 : on = 3 \/ on = 7
     ·simp only [A53,sndC,e0,e1,e2,e3,e14,c1,c3,c4,c5,c6,c7,c8,SX,reduceCtorEq,Nat.reduceEqDiff,↓reduceIte]
      exact hKt _ _ (by simp [nSeq,c1,c3,c4,c5,c6,c7,c8])
     ·simp only [A53,sndC,e0,e1,e2,e4,e14,c1,c3,c4,c5,c6,c7,c8,SX,reduceCtorEq,Nat.reduceEqDiff,↓reduceIte]
      exact hKt _ _ (by simp [nSeq,c1,c3,c4,c5,c6,c7,c8])
  by_cases c2 : en = 6
  ·have c7 : ¬ c < 60 := by omega
   simp only [A53,sndC,e0,e5,c1,c3,c4,c5,c7,c2,SX,reduceCtorEq,Nat.reduceEqDiff,↓reduceIte]
   exact hKt _ _ (by simp [nSeq,c1,c3,c4,c5,c2])
  ·have c7 : ¬ c < 60 := by omega
   simp only [A53,sndC,e0,e5,c1,c3,c4,c5,c7,c2,SX,reduceCtorEq,Nat.reduceEqDiff,↓reduceIte]
   exact hKt _ _ (by simp [nSeq,c1,c3,c4,c5,c2])
 have second : ∀ (e : Env),Env.get e 0 = .int .u8 c -> Env.get e 1 = .int .i64 on -> Env.get e 2 = .int .i64 inn -> Env.get e 3 = .int .i64 param -> Env.get e 4 = .int .i64 off -> Env.get e 5 = .int .i64 en -> ACode.wp Q (sndC A53.body) (fnK A53.res K) e H := by
  intro e e0 e1 e2 e3 e4 e5
  rw [wp_parts (sndC A53.body) rfl]
  generalize ACode.wp Q (sndC (sndC A53.body)) (fnK A53.res K) = kr at key ⊢
  by_cases d1 : on = 3
  ·have d1' : decide (on = 3) = true := by simpa using d1
   have hd : decide (on = 3 \/ on = 7) = true := by simp [d1]
   rw [hd] at key
   simp only [A53,sndC,fstC,e1,d1',SX,Nat.reduceEqDiff,↓reduceIte]
   refine key _ ?_ ?_ ?_ ?_ ?_ ?_ ?_ <;> simp only [e0,e1,e2,e3,e4,e5,SX,reduceCtorEq,Nat.reduceEqDiff,↓reduceIte]
  ·by_cases d2 : on = 7
   ·have d1' : decide (on = 3) = false := by simpa using d1
    have d2' : decide (on = 7) = true := by simpa using d2
    have hd : decide (on = 3 \/ on = 7) = true := by simp [d2]
    rw [hd] at key
    simp only [A53,sndC,fstC,e1,d1',d2',SX,Nat.reduceEqDiff,↓reduceIte]
    refine key _ ?_ ?_ ?_ ?_ ?_ ?_ ?_ <;> simp only [e0,e1,e2,e3,e4,e5,SX,reduceCtorEq,Nat.reduceEqDiff,↓reduceIte]
   ·have hd : decide (on = 3 \/ on = 7) = false := by simp [d1,d2]
    rw [hd] at key
    simp only [A53,sndC,fstC,e1,d1,d2,SX,Nat.reduceEqDiff,↓reduceIte]
    refine key _ ?_ ?_ ?_ ?_ ?_ ?_ ?_ <;> simp only [e0,e1,e2,e3,e4,e5,SX,reduceCtorEq,Nat.reduceEqDiff,↓reduceIte]
 rw [wp_parts A53.body rfl]
 generalize ACode.wp Q (sndC A53.body) (fnK A53.res K) = kr at second ⊢
 simp only [A53,fstC,SX,↓reduceIte]
 refine second _ ?_ ?_ ?_ ?_ ?_ ?_ <;> simp only [SX,reduceCtorEq,Nat.reduceEqDiff,↓reduceIte]
set_option maxHeartbeats 8000000 in
theorem next_st {st : Int} (hst : 0 <= st /\ st <= 13) : FnTo Q 30 [.int .i64 st,.int .u8 c] H (fun r H' => r = tup2 (nx st c) /\ H' = H) := by
 refine fn_wp (eq.ho 30 rfl _) eq.q27 (by simp [A30]) ?_
 by_cases c1 : c = 24
 ·simp only [A30,c1,SX,Nat.reduceEqDiff,↓reduceIte]
  exact tup2_eq (by simp [nx])
 by_cases c2 : c = 26
 ·simp only [A30,c2,SX,Nat.reduceEqDiff,↓reduceIte,Int.reduceEq]
  exact tup2_eq (by simp [nx])
 by_cases c3 : c = 27
 ·simp only [A30,c3,SX,Nat.reduceEqDiff,↓reduceIte,Int.reduceEq]
  exact tup2_eq (by simp [nx])
 have hn : st = 0 \/ st = 1 \/ st = 2 \/ st = 3 \/ st = 4 \/ st = 5 \/ st = 6 \/ st = 7 \/ st = 8 \/ st = 9 \/ st = 10 \/ st = 11 \/ st = 12 \/ st = 13 := by omega
 rcases hn with rfl | rfl | rfl | rfl | rfl | rfl | rfl | rfl | rfl | rfl | rfl | rfl | rfl | rfl
 ·simp only [A30,c1,c2,c3,SX,reduceCtorEq,Nat.reduceEqDiff,↓reduceIte,Int.reduceEq]
  refine (ground_spec eq).mono ?_
  rintro r H' ⟨rfl,rfl⟩
  simp only [ext2,SX,Nat.reduceEqDiff,↓reduceIte]
  exact tup2_eq (by simp [nx,c1,c2,c3])
 ·simp only [A30,c1,c2,c3,SX,reduceCtorEq,Nat.reduceEqDiff,↓reduceIte]
  refine (escape_spec eq).mono ?_
  rintro r H' ⟨rfl,rfl⟩
  simp only [ext2,SX,Nat.reduceEqDiff,↓reduceIte]
  exact tup2_eq (by simp [nx,c1,c2,c3])
 ·simp only [A30,c1,c2,c3,SX,reduceCtorEq,Nat.reduceEqDiff,↓reduceIte,Int.reduceEq]
  refine (inter_spec eq).mono ?_
  rintro r H' ⟨rfl,rfl⟩
  simp only [ext2,SX,Nat.reduceEqDiff,↓reduceIte]
  exact tup2_eq (by simp [nx,c1,c2,c3])
 ·simp only [A30,c1,c2,c3,SX,reduceCtorEq,Nat.reduceEqDiff,↓reduceIte,Int.reduceEq]
  refine (seq_spec eq).mono ?_
  rintro r H' ⟨rfl,rfl⟩
  simp only [ext2,SX,Nat.reduceEqDiff,↓reduceIte]
  exact tup2_eq (by simp [nx,c1,c2,c3])
 ·simp only [A30,c1,c2,c3,SX,reduceCtorEq,Nat.reduceEqDiff,↓reduceIte,Int.reduceEq]
  refine (seq_spec eq).mono ?_
  rintro r H' ⟨rfl,rfl⟩
  simp only [ext2,SX,Nat.reduceEqDiff,↓reduceIte]
  exact tup2_eq (by simp [nx,c1,c2,c3])
 ·simp only [A30,c1,c2,c3,SX,reduceCtorEq,Nat.reduceEqDiff,↓reduceIte,Int.reduceEq]
  refine (seq_spec eq).mono ?_
  rintro r H' ⟨rfl,rfl⟩
  simp only [ext2,SX,Nat.reduceEqDiff,↓reduceIte]
  exact tup2_eq (by simp [nx,c1,c2,c3])
 ·simp only [A30,c1,c2,c3,SX,reduceCtorEq,Nat.reduceEqDiff,↓reduceIte,Int.reduceEq]
  refine (let_spec eq).mono ?_
  rintro r H' ⟨rfl,rfl⟩
  simp only [ext2,SX,Nat.reduceEqDiff,↓reduceIte]
  exact tup2_eq (by simp [nx,c1,c2,c3])
 ·simp only [A30,c1,c2,c3,SX,reduceCtorEq,Nat.reduceEqDiff,↓reduceIte,Int.reduceEq]
  refine (seq_spec eq).mono ?_
  rintro r H' ⟨rfl,rfl⟩
  simp only [ext2,SX,Nat.reduceEqDiff,↓reduceIte]
  exact tup2_eq (by simp [nx,c1,c2,c3])
 ·simp only [A30,c1,c2,c3,SX,reduceCtorEq,Nat.reduceEqDiff,↓reduceIte,Int.reduceEq]
  refine (seq_spec eq).mono ?_
  rintro r H' ⟨rfl,rfl⟩
  simp only [ext2,SX,Nat.reduceEqDiff,↓reduceIte]
  exact tup2_eq (by simp [nx,c1,c2,c3])
 ·simp only [A30,c1,c2,c3,SX,reduceCtorEq,Nat.reduceEqDiff,↓reduceIte,Int.reduceEq]
  refine (seq_spec eq).mono ?_
  rintro r H' ⟨rfl,rfl⟩
  simp only [ext2,SX,Nat.reduceEqDiff,↓reduceIte]
  exact tup2_eq (by simp [nx,c1,c2,c3])
 ·simp only [A30,c1,c2,c3,SX,reduceCtorEq,Nat.reduceEqDiff,↓reduceIte,Int.reduceEq]
  refine (text_spec eq).mono ?_
  rintro r H' ⟨rfl,rfl⟩
  simp only [ext2,SX,Nat.reduceEqDiff,↓reduceIte]
  exact tup2_eq (by simp [nx,c1,c2,c3])
 ·simp only [A30,c1,c2,c3,SX,reduceCtorEq,Nat.reduceEqDiff,↓reduceIte,Int.reduceEq]
  refine (text_spec eq).mono ?_
  rintro r H' ⟨rfl,rfl⟩
  simp only [ext2,SX,Nat.reduceEqDiff,↓reduceIte]
  exact tup2_eq (by simp [nx,c1,c2,c3])
 ·simp only [A30,c1,c2,c3,SX,reduceCtorEq,Nat.reduceEqDiff,↓reduceIte,Int.reduceEq]
  refine (text_spec eq).mono ?_
  rintro r H' ⟨rfl,rfl⟩
  simp only [ext2,SX,Nat.reduceEqDiff,↓reduceIte]
  exact tup2_eq (by simp [nx,c1,c2,c3])
 ·simp only [A30,c1,c2,c3,SX,reduceCtorEq,Nat.reduceEqDiff,↓reduceIte,Int.reduceEq]
  refine (text_spec eq).mono ?_
  rintro r H' ⟨rfl,rfl⟩
  simp only [ext2,SX,Nat.reduceEqDiff,↓reduceIte]
  exact tup2_eq (by simp [nx,c1,c2,c3])
end
theorem bytesOf_V (t : List UInt8) : bytesOf (bytesV t) = some t := by
 induction t with
 | nil => rfl
 | cons c t ih =>
  have : bytesV (c :: t) = .int .u8 c.toNat :: bytesV t := rfl
  rw [this]
  simp only [bytesOf,ih]
  simp
theorem XRv.push {base : Nat} {H : AHeap} {v : AV} {t : List UInt8} {cl l : List Cel} {tb : Nat} {c : UInt8} (h : XRv v t cl) (hp : Hp base H (cl ++ (⟨tb,1,[.int .u8 c.toNat]⟩ :: l))) (hs : t.length <= 1000000) :
  ∃ w H' cl',appendE H 1 1 v (.slc tb 0 1 1) = some (w,H') /\ XRv w (t ++ [c]) cl' /\ Hp base H' (cl' ++ (⟨tb,1,[.int .u8 c.toNat]⟩ :: l)) /\ Keep base H H' := by
 have hsrc : srcCells H 1 (.slc tb 0 1 1) = some (1,[.int .u8 c.toNat]) := hp.src (k' := 1) (pre := []) (post := []) (ys := [.int .u8 c.toNat]) (List.mem_append_right _ (List.mem_cons_self ..)) rfl rfl (by omega)
 rcases h with ⟨rfl,rfl,rfl⟩ | ⟨b,hne,rfl,rfl⟩
 ·obtain ⟨H',s,g,k⟩ := hp.appendK0 (k := 1) (bytes := 1) (by omega) hsrc (by omega) rfl (by omega) (by omega)
  exact ⟨_,H',[⟨H.next,1,[.int .u8 c.toNat]⟩],s,.inr ⟨H.next,by simp,rfl,rfl⟩,g,k⟩
 ·obtain ⟨H',s,g,k⟩ := Hp.appendK (pre := []) (xs := bytesV t) (l := ⟨tb,1,[.int .u8 c.toNat]⟩ :: l) hp (k := 1) (n := t.length) (bytes := 1) rfl (by simp [bytesV]) (by omega) hsrc (by omega) rfl (by omega) (by omega)
  exact ⟨_,H',[⟨H.next,1,bytesV (t ++ [c])⟩],s,.inr ⟨H.next,by simp,by simp,rfl⟩,by simpa [bytesV] using g,k⟩
theorem XRv.len {v : AV} {t : List UInt8} {cl : List Cel} (h : XRv v t cl) (H : AHeap) : lngV H 1 v = some (.int .i64 t.length) := by
 rcases h with ⟨rfl,rfl,_⟩ | ⟨b,_,rfl,_⟩ <;> rfl
theorem XRv.one {v : AV} {t : List UInt8} {cl : List Cel} (h : XRv v t cl) : v.one = true := by
 rcases h with ⟨_,rfl,_⟩ | ⟨b,_,rfl,_⟩ <;> rfl
theorem XRv.str {base : Nat} {H : AHeap} {v : AV} {t : List UInt8} {cl l : List Cel} (h : XRv v t cl) (hp : Hp base H l) (hsub : ∀ x ∈ cl,x ∈ l) : strOfBytesV H v = some (.str t) := by
 rcases h with ⟨rfl,rfl,_⟩ | ⟨b,hne,rfl,rfl⟩
 ·rfl
 ·obtain ⟨B,r,e⟩ := hp.rowOf (hsub ⟨b,1,bytesV t⟩ (List.mem_singleton.2 rfl))
  have hc : AM.cut B.cells 0 t.length = some (bytesV t) := by
   rw [e]; unfold AM.cut
   rw [if_pos (by simp [bytesV]),List.drop_zero,List.take_of_length_le (by simp [bytesV])]
  simp only [strOfBytesV,ROp.run,Opd.ev,r,hc,bytesOf_V]
theorem same_x {v : AV} {t : List UInt8} {cl : List Cel} (h : XRv v t cl) : AV.same v v = true /\ AV.same1 v v = true := by
 rcases h with ⟨_,rfl,_⟩ | ⟨b,_,rfl,_⟩
 ·exact ⟨rfl,rfl⟩
 ·simp [AV.same,AV.same1]
def rstOf (s : PSt) (xv tv : AV) : Rst := ⟨.int .i64 s.d.kept,.int .i64 s.d.left,.int .u8 s.d.lo,.int .u8 s.d.hi,.int .i32 s.d.x,.int .i64 s.st,.str s.mids,.bool s.many,.int .u8 s.fin,xv,.bool s.long,tv⟩
theorem pls_of {base : Nat} {H : AHeap} {p : Nat} {s : PSt} {c : PC} {l : List Cel} (ok : c.ok s) (hp : Hp base H (⟨p,1,pcs s c.lv c.xv c.tv⟩ :: c.rest l)) : PLs (rstOf s c.xv c.tv) (c.xcl ++ (c.tcl ++ l)) base H p s.ps := by
 rcases ok.l with ⟨h1,h2,h3⟩ | ⟨b,M,h1,h2,h3,h4⟩
 ·refine ⟨[],.inl ⟨rfl,?_⟩,by rw [h1]; rfl⟩
  rw [h2] at hp
  unfold PC.rest at hp
  rw [h3] at hp
  exact hp
 ·refine ⟨M,.inr ⟨b,h1,?_⟩,h2⟩
  rw [h3] at hp
  unfold PC.rest at hp
  rw [h4] at hp
  exact hp
theorem of_pls {ρ : Rst} {ll : List Cel} {base : Nat} {H : AHeap} {p : Nat} {s : PS} (h : PLs ρ ll base H p s) : ∃ lv lcl,PRv lv s.L lcl /\ Hp base H (⟨p,1,ρ.cs lv (.bool s.ov) (.bool s.fu)⟩ :: (lcl ++ ll)) := by
 obtain ⟨M,h,e⟩ := h
 rcases h with ⟨rfl,h⟩ | ⟨b,h1,h⟩
 ·exact ⟨.nils,[],.inl ⟨by rw [<- e]; rfl,rfl,rfl⟩,h⟩
 ·exact ⟨_,_,.inr ⟨b,M,h1,e,rfl,rfl⟩,h⟩
theorem LL.prv {base : Nat} {H : AHeap} {v : AV} {M : List (Nat × List Int)} {L : List (List Int)} (h : LL base H v M) (e : M.map (·.2) = L) : ∃ cl,PRv v L cl /\ Hp base H cl := by
 rcases h with ⟨rfl,rfl,h⟩ | ⟨b,h1,rfl,h⟩
 ·exact ⟨[],.inl ⟨by rw [<- e]; rfl,rfl,rfl⟩,h⟩
 ·exact ⟨_,.inr ⟨b,M,h1,e,rfl,rfl⟩,h⟩
def PSt.putS (s : PSt) (c : UInt8) : PSt := if s.long = true \/ s.text.length = (if s.st = 12 then 1024 else 256) then { s with long := true } else { s with text := s.text ++ [c] }
def PSt.overS (s : PSt) (a : Int) (c : UInt8) : PSt := if s.many = true \/ (a = 5 /\ c = 92 /\ s.mids = []) then s else if a = 5 then s.tell ⟨3,0,c.toNat,s.mids,[],[]⟩ else s.tell ⟨4,0,c.toNat,s.mids,s.ps.L,[]⟩
def PSt.stopS (s : PSt) (c : UInt8) : PSt := if c = 24 \/ c = 26 \/ s.long = true then s else if s.st = 12 then s.tell ⟨5,0,0,[],[],s.text⟩ else if s.many = true then s else s.tell ⟨6,0,s.fin,s.mids,s.ps.L,s.text⟩
def PSt.clrS (s : PSt) : PSt := { s with ps := PS.none,mids := [],many := false,text := [],long := false }
def PSt.midS (s : PSt) (c : UInt8) : PSt := if s.many = true \/ s.mids.length = 2 then { s with many := true } else { s with many := false,mids := s.mids ++ [c] }
def PSt.doesS (s : PSt) (a : Int) (c : UInt8) : PSt :=
 if a = 1 then ({ s with d := (s.d.byte c.toNat).2 } : PSt).prints (s.d.byte c.toNat).1
 else if a = 2 then s.tell ⟨2,0,c.toNat,[],[],[]⟩ else if a = 3 then s.midS c else if a = 4 then { s with ps := s.ps.byte c.toNat } else if a = 5 then s.overS 5 c else if a = 6 then s.overS 6 c
 else if a = 7 then { s with fin := c.toNat } else if a = 8 then s.putS c else s
section
variable {Q : Prog} (eq : EvQ Q) {base : Nat} {H : AHeap} {p : Nat} {s : PSt} {l : List Cel}
include eq
set_option maxHeartbeats 4000000 in
theorem put_spec {c : UInt8} (h : Par base H p s l) (hs : s.text.length <= 1000000) : FnTo Q 64 [.ptr p 0,.int .u8 c.toNat] H (fun r H' => Par base H' p (s.putS c) l /\ Keep base H H') := by
 refine fn_wp (eq.ho 64 rfl _) eq.q59 (by simp [A64]) ?_
 obtain ⟨C,ok,hp⟩ := h
 have l5 := hp.load (b := p) (k := 1) (cs := pcs s C.lv C.xv C.tv) (List.mem_cons_self ..) (o := 5) rfl
 have l12 := hp.load (b := p) (k := 1) (cs := pcs s C.lv C.xv C.tv) (List.mem_cons_self ..) (o := 12) rfl
 have l13 := hp.load (b := p) (k := 1) (cs := pcs s C.lv C.xv C.tv) (List.mem_cons_self ..) (o := 13) rfl
 have ln := ok.x.len H
 obtain ⟨most,hm⟩ : ∃ m : Nat,(if s.st = 12 then 1024 else 256) = m := ⟨_,rfl⟩
 have hput : s.putS c = if s.long = true \/ s.text.length = most then { s with long := true } else { s with text := s.text ++ [c] } := by unfold PSt.putS; rw [hm]
 have fin : ∀ lg : Bool,(lg = true ↔ s.long = true \/ s.text.length = most) -> ∃ H1,storeE H 1 (.ptr p 13) (.bool lg) = some (.undef,H1) /\ loadV H1 Option.none (.ptr p 13) = some (.bool lg) /\ Keep base H H1 ∧
   (lg = true -> Par base H1 p (s.putS c) l) /\ (lg = false -> loadV H1 Option.none (.ptr p 12) = some C.xv /\ ∃ H2 w H3 H4,H1.alloc (.row ⟨[.int .u8 c.toNat],0,false,true,0⟩) = H2 /\ appendE H2 1 1 C.xv (.slc H1.next 0 1 1) = some (w,H3) /\ storeE H3 1 (.ptr p 12) w = some (.undef,H4) /\ Par base H4 p (s.putS c) l /\ Keep base H1 H4) := by
  intro lg hlg
  obtain ⟨H1,s1,g1,k1,n1⟩ := hp.store (o := 13) (v := .bool lg) rfl (by simp [pcs,DSt.cs])
  have g1' : Hp base H1 (⟨p,1,pcs { s with long := lg } C.lv C.xv C.tv⟩ :: C.rest l) := g1
  refine ⟨H1,s1,g1'.load (b := p) (k := 1) (List.mem_cons_self ..) (o := 13) rfl,k1,fun hl => ?_,fun hl => ⟨g1'.load (b := p) (k := 1) (List.mem_cons_self ..) (o := 12) rfl,?_⟩⟩
  ·rw [hput,if_pos (hlg.1 hl)]
   subst hl
   exact ⟨C,⟨ok.l,ok.x,ok.t,ok.e,ok.ev⟩,g1'⟩
  ·subst hl
   have hno : ¬ (s.long = true \/ s.text.length = most) := fun hh => by have := hlg.2 hh; simp at this
   obtain ⟨H2,s2,g2,k2⟩ := g1'.make [.int .u8 c.toNat] 1
   obtain ⟨w,H3,cl',s3,x3,g3,k3⟩ := ok.x.push (c := c) (tb := H1.next) (l := ⟨p,1,pcs { s with long := false } C.lv C.xv C.tv⟩ :: (C.lcl ++ (C.tcl ++ l))) (g2.re fun a => by simp only [PC.rest,cnt_cons,cnt_append]; omega) hs
   obtain ⟨H4,s4,g4,k4,n4⟩ := (g3.re (l' := ⟨p,1,pcs { s with long := false } C.lv C.xv C.tv⟩ :: ⟨H1.next,1,[.int .u8 c.toNat]⟩ :: (C.lcl ++ (cl' ++ (C.tcl ++ l)))) fun a => by simp only [cnt_cons,cnt_append]; omega).store (o := 12) (v := w) x3.one (by simp [pcs,DSt.cs])
   refine ⟨H2,w,H3,H4,s2,s3,s4,?_,(k2.trans k3).trans k4⟩
   rw [hput,if_neg hno]
   have hlf : s.long = false := by cases hh : s.long with | true => exact absurd (.inl hh) hno | false => rfl
   refine ⟨{ C with xv := w,xcl := cl' },⟨ok.l,x3,ok.t,ok.e,ok.ev⟩,?_⟩
   have e : (pcs { s with long := false } C.lv C.xv C.tv).set 12 w = pcs { s with text := s.text ++ [c] } C.lv w C.tv := by
    simp only [pcs,hlf]; rfl
   rw [e] at g4
   exact g4.swap.drop
 have mst : ∀ (K : AV -> AHeap -> Prop),True := fun _ => trivial
 by_cases c1 : s.st = 12
 ·have c1' : decide (s.st = 12) = true := by simpa using c1
  have hm1 : most = 1024 := by rw [<- hm,if_pos c1]
  by_cases c2 : s.long = true
  ·obtain ⟨H1,s1,la,k1,f1,f2⟩ := fin true (by simp [c2])
   rw [c2] at l13
   simp only [A64,l5,c1',l13,s1,la,SX,reduceCtorEq,Nat.reduceEqDiff,↓reduceIte]
   exact ⟨f1 rfl,k1⟩
  ·have c2' : s.long = false := by simpa using c2
   rw [c2'] at l13
   by_cases c3 : s.text.length = most
   ·obtain ⟨H1,s1,la,k1,f1,f2⟩ := fin true (by simp [c3])
    have c3' : decide ((s.text.length : Int) = 1024) = true := by simp; omega
    simp only [A64,l5,c1',l13,l12,ln,c3',s1,la,SX,reduceCtorEq,Nat.reduceEqDiff,↓reduceIte]
    exact ⟨f1 rfl,k1⟩
   ·obtain ⟨H1,s1,la,k1,f1,f2⟩ := fin false (by simp [c3,c2'])
    obtain ⟨lb,H2,w,H3,H4,s2,s3,s4,par,k4⟩ := f2 rfl
    have c3' : decide ((s.text.length : Int) = 1024) = false := by simp; omega
    simp only [A64,l5,c1',l13,l12,ln,c3',s1,la,lb,s2,s3,s4,SX,reduceCtorEq,Nat.reduceEqDiff,↓reduceIte]
    exact ⟨par,k1.trans k4⟩
 ·have c1' : decide (s.st = 12) = false := by simpa using c1
  have hm1 : most = 256 := by rw [<- hm,if_neg c1]
  by_cases c2 : s.long = true
  ·obtain ⟨H1,s1,la,k1,f1,f2⟩ := fin true (by simp [c2])
   rw [c2] at l13
   simp only [A64,l5,c1',l13,s1,la,SX,reduceCtorEq,Nat.reduceEqDiff,↓reduceIte]
   exact ⟨f1 rfl,k1⟩
  ·have c2' : s.long = false := by simpa using c2
   rw [c2'] at l13
   by_cases c3 : s.text.length = most
   ·obtain ⟨H1,s1,la,k1,f1,f2⟩ := fin true (by simp [c3])
    have c3' : decide ((s.text.length : Int) = 256) = true := by simp; omega
    simp only [A64,l5,c1',l13,l12,ln,c3',s1,la,SX,reduceCtorEq,Nat.reduceEqDiff,↓reduceIte]
    exact ⟨f1 rfl,k1⟩
   ·obtain ⟨H1,s1,la,k1,f1,f2⟩ := fin false (by simp [c3,c2'])
    obtain ⟨lb,H2,w,H3,H4,s2,s3,s4,par,k4⟩ := f2 rfl
    have c3' : decide ((s.text.length : Int) = 256) = false := by simp; omega
    simp only [A64,l5,c1',l13,l12,ln,c3',s1,la,lb,s2,s3,s4,SX,reduceCtorEq,Nat.reduceEqDiff,↓reduceIte]
    exact ⟨par,k1.trans k4⟩
set_option maxHeartbeats 4000000 in
theorem over_spec {a : Int} {c : UInt8} (hg : s.ps.Good) (h : Par base H p s l) (hs : s.told.length <= 1000000) : FnTo Q 63 [.ptr p 0,.int .i64 a,.int .u8 c.toNat] H (fun r H' => Par base H' p (s.overS a c) l /\ Keep base H H') := by
 refine fn_wp (eq.ho 63 rfl _) eq.q58 (by simp [A63]) ?_
 have par := h
 obtain ⟨C,ok,hp⟩ := h
 have l9 := hp.load (b := p) (k := 1) (cs := pcs s C.lv C.xv C.tv) (List.mem_cons_self ..) (o := 9) rfl
 have l10 := hp.load (b := p) (k := 1) (cs := pcs s C.lv C.xv C.tv) (List.mem_cons_self ..) (o := 10) rfl
 have h92 : (c = 92) ↔ ((c.toNat : Int) = 92) := by
  constructor
  ·rintro rfl; rfl
  ·intro hh; exact UInt8.toNat_inj.1 (by show c.toNat = 92; omega)
 by_cases c1 : s.many = true
 ·rw [c1] at l10
  simp only [A63,l10,SX,reduceCtorEq,Nat.reduceEqDiff,↓reduceIte]
  have e : s.overS a c = s := by unfold PSt.overS; rw [if_pos (.inl c1)]
  rw [e]
  exact ⟨par,Keep.refl _ _⟩
 have c1' : s.many = false := by simpa using c1
 rw [c1'] at l10
 have esc : a = 5 -> ¬ (c = 92 /\ s.mids = []) -> ∀ K : AV -> AHeap -> Prop,(∀ r H',Par base H' p (s.overS a c) l /\ Keep base H H' -> K r H') -> FnTo Q 59 [.ptr p 0,(ev0 3 0 c.toNat s.mids []).1.val] H K := by
  intro ha hc K hK
  refine (tells_spec eq.ho eq.q54 (ev0_ok 3 0 c.toNat s.mids []) (l := l) par hs).mono ?_
  rintro r H' ⟨h1,h2⟩
  refine hK r H' ⟨?_,h2⟩
  unfold PSt.overS
  rw [if_neg (by simp [c1',ha]; exact fun h1 h2 => hc ⟨h1,h2⟩),if_pos ha]
  exact h1
 by_cases c2 : a = 5
 ·have c2' : decide (a = 5) = true := by simpa using c2
  by_cases c3 : (c.toNat : Int) = 92
  ·have c3' : decide ((c.toNat : Int) = 92) = true := by simpa using c3
   by_cases c4 : s.mids = []
   ·have c4' : decide (s.mids = []) = true := by simpa using c4
    simp only [A63,l9,l10,c2',c3',bin_eqls,c4',SX,reduceCtorEq,Nat.reduceEqDiff,↓reduceIte]
    have e : s.overS a c = s := by unfold PSt.overS; rw [if_pos (.inr ⟨c2,h92.2 c3,c4⟩)]
    rw [e]
    exact ⟨par,Keep.refl _ _⟩
   ·have c4' : decide (s.mids = []) = false := by simpa using c4
    simp only [A63,l9,l10,c2',c3',bin_eqls,c4',hzE,run_build,build_esc,SX,reduceCtorEq,Nat.reduceEqDiff,↓reduceIte]
    refine esc c2 (fun h => c4 h.2) _ ?_
    intro r H' hh
    simp only [SX]
    exact hh
  ·have c3' : decide ((c.toNat : Int) = 92) = false := by simpa using c3
   simp only [A63,l9,l10,c2',c3',hzE,run_build,build_esc,SX,reduceCtorEq,Nat.reduceEqDiff,↓reduceIte]
   refine esc c2 (fun h => c3 (h92.1 h.1)) _ ?_
   intro r H' hh
   simp only [SX]
   exact hh
 ·have c2' : decide (a = 5) = false := by simpa using c2
  simp only [A63,l9,l10,c2',SX,reduceCtorEq,Nat.reduceEqDiff,↓reduceIte]
  refine (all_spec eq.q55 (eq.ho 60 rfl) eq.q68 (eq.ho 77 rfl) hg (pls_of ok hp)).mono ?_
  rintro r H1 ⟨k1,M,hl,hM⟩
  obtain ⟨cl,prv,hcl⟩ := hl.prv hM
  have gr := hcl.gr k1
  have hp1 := hp.keep gr.keep gr.next gr.fr
  have l9' := hp1.load (b := p) (k := 1) (cs := pcs s C.lv C.xv C.tv) (List.mem_cons_self ..) (o := 9) rfl
  have par1 := par.join gr hcl
  refine ⟨by simp only [echoOk,SX,Nat.reduceEqDiff,↓reduceIte,l9',AV.same,AV.same1]; simp,?_⟩
  simp only [hzE,run_build,build_csi _ _ prv,SX,Nat.reduceEqDiff,↓reduceIte]
  refine (tells_spec eq.ho eq.q54 (a := (⟨4,0,c.toNat,s.mids,r,[],s.ps.L⟩,cl)) prv (l := l) par1 hs).mono ?_
  rintro r' H' ⟨h1,h2⟩
  simp only [SX]
  refine ⟨?_,(gr.keep.le hp.bn).trans h2⟩
  unfold PSt.overS
  rw [if_neg (by simp [c1',c2]),if_neg c2]
  exact h1
set_option maxHeartbeats 4000000 in
theorem stop_spec {c : UInt8} (hg : s.ps.Good) (h : Par base H p s l) (hs : s.told.length <= 1000000) : FnTo Q 33 [.ptr p 0,.int .u8 c.toNat] H (fun r H' => Par base H' p (s.stopS c) l /\ Keep base H H') := by
 refine fn_wp (eq.ho 33 rfl _) eq.q29 (by simp [A33]) ?_
 have par := h
 obtain ⟨C,ok,hp⟩ := h
 have l5 := hp.load (b := p) (k := 1) (cs := pcs s C.lv C.xv C.tv) (List.mem_cons_self ..) (o := 5) rfl
 have l9 := hp.load (b := p) (k := 1) (cs := pcs s C.lv C.xv C.tv) (List.mem_cons_self ..) (o := 9) rfl
 have l10 := hp.load (b := p) (k := 1) (cs := pcs s C.lv C.xv C.tv) (List.mem_cons_self ..) (o := 10) rfl
 have l11 := hp.load (b := p) (k := 1) (cs := pcs s C.lv C.xv C.tv) (List.mem_cons_self ..) (o := 11) rfl
 have l12 := hp.load (b := p) (k := 1) (cs := pcs s C.lv C.xv C.tv) (List.mem_cons_self ..) (o := 12) rfl
 have l13 := hp.load (b := p) (k := 1) (cs := pcs s C.lv C.xv C.tv) (List.mem_cons_self ..) (o := 13) rfl
 have hxm : ∀ x ∈ C.xcl,x ∈ (⟨p,1,pcs s C.lv C.xv C.tv⟩ : Cel) :: C.rest l := fun x hx => List.mem_cons_of_mem _ (List.mem_append_right _ (List.mem_append_left _ hx))
 have st := ok.x.str hp hxm
 have h24 : (c = 24) ↔ ((c.toNat : Int) = 24) := by
  constructor
  ·rintro rfl; rfl
  ·intro hh; exact UInt8.toNat_inj.1 (by show c.toNat = 24; omega)
 have h26 : (c = 26) ↔ ((c.toNat : Int) = 26) := by
  constructor
  ·rintro rfl; rfl
  ·intro hh; exact UInt8.toNat_inj.1 (by show c.toNat = 26; omega)
 have same : (c = 24 \/ c = 26 \/ s.long = true) -> Par base H p (s.stopS c) l /\ Keep base H H := fun hh => by
  unfold PSt.stopS; rw [if_pos hh]; exact ⟨par,Keep.refl _ _⟩
 by_cases c1 : (c.toNat : Int) = 24
 ·have c1' : decide ((c.toNat : Int) = 24) = true := by simpa using c1
  simp only [A33,c1',SX,Nat.reduceEqDiff,↓reduceIte]
  exact same (.inl (h24.2 c1))
 by_cases c2 : (c.toNat : Int) = 26
 ·have c2' : decide ((c.toNat : Int) = 26) = true := by simpa using c2
  simp only [A33,c1,c2',SX,Nat.reduceEqDiff,↓reduceIte]
  exact same (.inr (.inl (h26.2 c2)))
 cases c3 : s.long with
 | true =>
  rw [c3] at l13
  simp only [A33,c1,c2,l13,SX,reduceCtorEq,Nat.reduceEqDiff,↓reduceIte]
  exact same (.inr (.inr c3))
 | false =>
  rw [c3] at l13
  have hno : ¬ (c = 24 \/ c = 26 \/ s.long = true) := by
   rw [h24,h26,c3]; simp [c1,c2]
  by_cases c4 : s.st = 12
  ·have c4' : decide (s.st = 12) = true := by simpa using c4
   simp only [A33,c1,c2,l13,l5,c4',l12,st,hzE,run_build,build_osc,SX,reduceCtorEq,Nat.reduceEqDiff,↓reduceIte]
   refine (tells_spec eq.ho eq.q54 (ev0_ok 5 0 0 [] s.text) (l := l) par hs).mono ?_
   rintro r' H' ⟨h1,h2⟩
   simp only [SX]
   refine ⟨?_,h2⟩
   unfold PSt.stopS
   rw [if_neg hno,if_pos c4]
   exact h1
  ·have c4' : decide (s.st = 12) = false := by simpa using c4
   cases c5 : s.many with
   | true =>
    rw [c5] at l10
    simp only [A33,c1,c2,l13,l5,c4',l10,SX,reduceCtorEq,Nat.reduceEqDiff,↓reduceIte]
    have e : s.stopS c = s := by unfold PSt.stopS; rw [if_neg hno,if_neg c4,if_pos c5]
    rw [e]
    exact ⟨par,Keep.refl _ _⟩
   | false =>
    rw [c5] at l10
    simp only [A33,c1,c2,l13,l5,c4',l10,l9,l11,l12,st,SX,reduceCtorEq,Nat.reduceEqDiff,↓reduceIte]
    refine (all_spec eq.q55 (eq.ho 60 rfl) eq.q68 (eq.ho 77 rfl) hg (pls_of ok hp)).mono ?_
    rintro r H1 ⟨k1,M,hl,hM⟩
    obtain ⟨cl,prv,hcl⟩ := hl.prv hM
    have gr := hcl.gr k1
    have hp1 := hp.keep gr.keep gr.next gr.fr
    have l9' := hp1.load (b := p) (k := 1) (cs := pcs s C.lv C.xv C.tv) (List.mem_cons_self ..) (o := 9) rfl
    have l11' := hp1.load (b := p) (k := 1) (cs := pcs s C.lv C.xv C.tv) (List.mem_cons_self ..) (o := 11) rfl
    have l12' := hp1.load (b := p) (k := 1) (cs := pcs s C.lv C.xv C.tv) (List.mem_cons_self ..) (o := 12) rfl
    have st' := ok.x.str hp1 hxm
    have sx := same_x ok.x
    have par1 := par.join gr hcl
    have sstr : ∀ t : List UInt8,AV.same (.str t) (.str t) = true := fun t => by simp [AV.same,AV.same1]
    have sint : ∀ k (n : Int),AV.same (.int k n) (.int k n) = true := fun k n => by simp [AV.same,AV.same1]
    refine ⟨by simp only [echoOk,SX,Nat.reduceEqDiff,↓reduceIte,l9',l11',l12',st',sstr,sint,sx.1]; simp,?_⟩
    simp only [hzE,run_build,build_dcs _ _ _ prv,SX,Nat.reduceEqDiff,↓reduceIte]
    refine (tells_spec eq.ho eq.q54 (a := (⟨6,0,s.fin,s.mids,r,s.text,s.ps.L⟩,cl)) prv (l := l) par1 hs).mono ?_
    rintro r' H' ⟨h1,h2⟩
    simp only [SX]
    refine ⟨?_,(gr.keep.le hp.bn).trans h2⟩
    unfold PSt.stopS
    rw [if_neg hno,if_neg c4,if_neg (by simp [c5])]
    exact h1
end
def slAV (n es : Nat) (x : AV) (lo hi : Option AV) : Option AV := ROp.run ⟨0,.nil⟩ .nil (.slA n es (.c x) (lo.map .c) (hi.map .c))
theorem run_slA (H : AHeap) (e : Env) (n es : Nat) (x : Opd) (lo hi : Option Opd) : ROp.run H e (.slA n es x lo hi) = slAV n es (x.ev e) (lo.map (·.ev e)) (hi.map (·.ev e)) := by
 cases lo <;> cases hi <;> rfl
theorem slA2 {b k : Nat} (hk : k <= 2) : slAV 2 1 (.ptr b 0) Option.none (some (.int .i64 k)) = some (.slc b 0 k 2) := by
 simp only [slAV,ROp.run,Opd.ev,Option.map_some,Option.map_none,bounds,bound,if_pos (show 0 <= (k : Int) /\ (k : Int) <= ((2 : Nat) : Int) by omega),Int.toNat_natCast]
 simp
theorem byteD_len (d : DSt) (b : Int) : (d.byte b).1 = [] \/ (∃ x,(d.byte b).1 = [x]) \/ ∃ x y,(d.byte b).1 = [x,y] := by
 unfold DSt.byte
 split
 ·split
  ·exact .inr (.inl ⟨_,rfl⟩)
  ·exact .inl rfl
 ·split
  ·rcases first_len DSt.zero b with h | ⟨x,h⟩
   ·exact .inr (.inl ⟨65533,by simp [h]⟩)
   ·exact .inr (.inr ⟨65533,x,by simp [h]⟩)
  ·rcases first_len d b with h | ⟨x,h⟩
   ·exact .inl h
   ·exact .inr (.inl ⟨x,h⟩)
theorem u8_byte (c : UInt8) : 0 <= (c.toNat : Int) /\ (c.toNat : Int) <= 255 := by
 have := c.toNat_lt; omega
section
variable {Q : Prog} (eq : EvQ Q) {base : Nat} {H : AHeap} {p : Nat} {s : PSt} {l : List Cel}
include eq
set_option maxHeartbeats 2000000 in
theorem clr_spec {ρ : Rst} {v a b : AV} {ll : List Cel} (h : Hp base H (⟨p,1,ρ.cs v a b⟩ :: ll)) : FnTo Q 35 [.ptr p 6] H (fun r H' => Hp base H' (⟨p,1,ρ.cs .nils (.bool false) (.bool false)⟩ :: ll) /\ Keep base H H') := by
 refine fn_wp (eq.ho 35 rfl _) eq.q31 (by simp [A35]) ?_
 obtain ⟨H1,s1,g1,k1,n1⟩ := h.storeO (a := [ρ.c0,ρ.c1,ρ.c2,ρ.c3,ρ.c4,ρ.c5]) (x := [v,a,b]) (c := [ρ.c9,ρ.c10,ρ.c11,ρ.c12,ρ.c13,ρ.c14]) (o := 6) rfl rfl (n := 3) rfl (new := [.nils,.bool false,.bool false]) rfl rfl
 simp only [A35,run_build0,s1,SX,reduceCtorEq,Nat.reduceEqDiff,↓reduceIte]
 exact ⟨g1,k1⟩
set_option maxHeartbeats 4000000 in
theorem does_spec {a : Int} {c : UInt8} (hd : s.d.Good) (hg : s.ps.Good) (hx : s.text.length <= 1000000) (hm : s.mids.length <= 1000000) (h : Par base H p s l) (hs : s.told.length <= 900000) : FnTo Q 36 [.ptr p 0,.int .i64 a,.int .u8 c.toNat] H (fun r H' => Par base H' p (s.doesS a c) l /\ Keep base H H') := by
 refine fn_wp (eq.ho 36 rfl _) eq.q32 (by simp [A36]) ?_
 have par := h
 obtain ⟨C,ok,hp⟩ := h
 obtain ⟨u0,u1⟩ := u8_byte c
 by_cases a1 : a = 1
 ·have a1' : decide (a = 1) = true := by simpa using a1
  simp only [A36,a1',SX,reduceCtorEq,Nat.reduceEqDiff,↓reduceIte]
  refine (byteD_spec eq.ho (d := s.d) eq.q56 eq.q69 eq.q74 u0 u1 hd hp).mono ?_
  rintro r H1 ⟨rfl,g1,k1⟩
  have par1 : Par base H1 p { s with d := (s.d.byte c.toNat).2 } l := ⟨C,⟨ok.l,ok.x,ok.t,ok.e,ok.ev⟩,g1⟩
  have e : s.doesS a c = ({ s with d := (s.d.byte c.toNat).2 } : PSt).prints (s.d.byte c.toNat).1 := by unfold PSt.doesS; rw [if_pos a1]
  rw [e]
  obtain ⟨s1,hs1⟩ : ∃ s1,({ s with d := (s.d.byte c.toNat).2 } : PSt) = s1 := ⟨_,rfl⟩
  have ht1 : s1.told = s.told := by rw [<- hs1]
  rw [hs1] at par1 ⊢
  obtain ⟨H2,s2,par2,k2⟩ := par1.make [.int .i32 0,.int .i32 0] 1
  obtain ⟨xs,hxs⟩ : ∃ xs,(s.d.byte c.toNat).1 = xs := ⟨_,rfl⟩
  rw [hxs]
  have hxl : xs.length <= 2 /\ ∃ post : List AV,[AV.int .i32 (xs.getD 0 0),.int .i32 (xs.getD 1 0)] = xs.map (.int .i32) ++ post := by
   rcases byteD_len s.d c.toNat with h | ⟨x,h⟩ | ⟨x,y,h⟩ <;> rw [hxs] at h <;> subst h
   ·exact ⟨by simp,[.int .i32 0,.int .i32 0],rfl⟩
   ·exact ⟨by simp,[.int .i32 0],rfl⟩
   ·exact ⟨by simp,[],rfl⟩
  obtain ⟨hx2,post,hpost⟩ := hxl
  obtain ⟨H3,s3,par3,k3⟩ : ∃ H3,storeE H2 2 (.ptr H1.next 0) (arr2 xs) = some (.undef,H3) /\ Par base H3 p s1 (⟨H1.next,1,xs.map (.int .i32) ++ post⟩ :: l) /\ Keep base H2 H3 := by
   obtain ⟨r,hpo,back⟩ := par2.open
   obtain ⟨H3,s3,g3,k3,n3⟩ := Hp.storeN (l := l ++ r) hpo (n := 2) (new := [.int .i32 (xs.getD 0 0),.int .i32 (xs.getD 1 0)]) rfl rfl rfl
   refine ⟨H3,s3,back _ _ ?_,k3⟩
   rw [hpost] at g3
   exact g3
  simp only [ex0,ex1,run_allocL,s2,s3,run_slA,slA2 hx2,Option.map_some,Option.map_none,SX,reduceCtorEq,Nat.reduceEqDiff,↓reduceIte]
  refine (prints_spec eq (xs := xs) (cap := 2) par3 (by rw [ht1]; omega)).mono ?_
  rintro r H4 ⟨par4,k4⟩
  simp only [SX]
  exact ⟨par4.drop,((k1.trans k2).trans k3).trans k4⟩
 by_cases a2 : a = 2
 ·have a2' : decide (a = 2) = true := by simpa using a2
  simp only [A36,a1,a2',hzE,run_build,build_exec,SX,reduceCtorEq,Nat.reduceEqDiff,↓reduceIte]
  refine (tells_spec eq.ho eq.q54 (ev0_ok 2 0 c.toNat [] []) (l := l) par (by omega)).mono ?_
  rintro r H1 ⟨par1,k1⟩
  simp only [SX]
  refine ⟨?_,k1⟩
  unfold PSt.doesS; rw [if_neg a1,if_pos a2]; exact par1
 by_cases a3 : a = 3
 ·have a3' : decide (a = 3) = true := by simpa using a3
  have l9 := hp.load (b := p) (k := 1) (cs := pcs s C.lv C.xv C.tv) (List.mem_cons_self ..) (o := 9) rfl
  have l10 := hp.load (b := p) (k := 1) (cs := pcs s C.lv C.xv C.tv) (List.mem_cons_self ..) (o := 10) rfl
  have e : s.doesS a c = s.midS c := by unfold PSt.doesS; rw [if_neg a1,if_neg a2,if_pos a3]
  rw [e]
  have fin1 : (s.many = true \/ s.mids.length = 2) -> ∃ H1,storeE H 1 (.ptr p 10) (.bool true) = some (.undef,H1) /\ loadV H1 Option.none (.ptr p 10) = some (.bool true) /\ Par base H1 p (s.midS c) l /\ Keep base H H1 := by
   intro hh
   obtain ⟨H1,s1,g1,k1,n1⟩ := hp.store (o := 10) (v := .bool true) rfl (by simp [pcs,DSt.cs])
   have g1' : Hp base H1 (⟨p,1,pcs { s with many := true } C.lv C.xv C.tv⟩ :: C.rest l) := g1
   refine ⟨H1,s1,g1'.load (b := p) (k := 1) (List.mem_cons_self ..) (o := 10) rfl,?_,k1⟩
   unfold PSt.midS; rw [if_pos hh]
   exact ⟨C,⟨ok.l,ok.x,ok.t,ok.e,ok.ev⟩,g1'⟩
  cases c1 : s.many with
  | true =>
   rw [c1] at l10
   obtain ⟨H1,s1,l1,par1,k1⟩ := fin1 (.inl c1)
   simp only [A36,a1,a2,a3',l10,s1,l1,SX,reduceCtorEq,Nat.reduceEqDiff,↓reduceIte]
   exact ⟨par1,k1⟩
  | false =>
   rw [c1] at l10
   by_cases c2 : s.mids.length = 2
   ·have c2' : decide ((s.mids.length : Int) = 2) = true := by simp; omega
    obtain ⟨H1,s1,l1,par1,k1⟩ := fin1 (.inr c2)
    simp only [A36,a1,a2,a3',l10,l9,c2',s1,l1,SX,reduceCtorEq,Nat.reduceEqDiff,↓reduceIte]
    exact ⟨par1,k1⟩
   ·have c2' : decide ((s.mids.length : Int) = 2) = false := by simp; omega
    obtain ⟨H1,s1,g1,k1,n1⟩ := hp.store (o := 10) (v := .bool false) rfl (by simp [pcs,DSt.cs])
    have g1' : Hp base H1 (⟨p,1,pcs { s with many := false } C.lv C.xv C.tv⟩ :: C.rest l) := g1
    have l1 := g1'.load (b := p) (k := 1) (cs := pcs { s with many := false } C.lv C.xv C.tv) (List.mem_cons_self ..) (o := 10) rfl
    have l2 := g1'.load (b := p) (k := 1) (cs := pcs { s with many := false } C.lv C.xv C.tv) (List.mem_cons_self ..) (o := 9) rfl
    obtain ⟨H2,s2,g2,k2⟩ := g1'.make [.int .u8 c.toNat] 1
    have st : strOfBytesV H2 (.slc H1.next 0 1 1) = some (.str [c]) :=
     XRv.str (t := [c]) (cl := [⟨H1.next,1,bytesV [c]⟩]) (.inr ⟨H1.next,by simp,rfl,rfl⟩) g2 (fun x hx => by simp only [List.mem_singleton] at hx; subst hx; exact List.mem_cons_self ..)
    have hadd : binV .add (.str s.mids) (.str [c]) = some (.str (s.mids ++ [c])) := bin_adds _ _ (by simp; omega)
    obtain ⟨H3,s3,g3,k3,n3⟩ := (Hp.swap g2).store (o := 9) (v := .str (s.mids ++ [c])) rfl (by simp [pcs,DSt.cs])
    have g3' : Hp base H3 (⟨p,1,pcs { s with many := false,mids := s.mids ++ [c] } C.lv C.xv C.tv⟩ :: ⟨H1.next,1,[.int .u8 c.toNat]⟩ :: C.rest l) := g3
    simp only [A36,a1,a2,a3',l10,l9,c2',s1,l1,l2,s2,st,hadd,s3,SX,reduceCtorEq,Nat.reduceEqDiff,↓reduceIte]
    refine ⟨?_,(k1.trans k2).trans k3⟩
    unfold PSt.midS; rw [if_neg (by simp [c1,c2])]
    exact ⟨C,⟨ok.l,ok.x,ok.t,ok.e,ok.ev⟩,g3'.swap.drop⟩
 by_cases a4 : a = 4
 ·have a4' : decide (a = 4) = true := by simpa using a4
  simp only [A36,a1,a2,a3,a4',SX,reduceCtorEq,Nat.reduceEqDiff,↓reduceIte]
  refine (byte_spec eq.q57 (eq.ho 62 rfl) eq.q70 (eq.ho 79 rfl) hg (pls_of ok hp)).mono ?_
  rintro r H1 ⟨k1,hpl⟩
  obtain ⟨lv,lcl,prv,g1⟩ := of_pls hpl
  simp only [SX]
  refine ⟨?_,k1⟩
  unfold PSt.doesS; rw [if_neg a1,if_neg a2,if_neg a3,if_pos a4]
  exact ⟨{ C with lv := lv,lcl := lcl },⟨prv,ok.x,ok.t,ok.e,ok.ev⟩,g1⟩
 by_cases a5 : a = 5
 ·have a5' : decide (a = 5) = true := by simpa using a5
  simp only [A36,a1,a2,a3,a4,a5',SX,reduceCtorEq,Nat.reduceEqDiff,↓reduceIte]
  refine (over_spec eq hg par (by omega)).mono ?_
  rintro r H1 ⟨par1,k1⟩
  simp only [SX]
  refine ⟨?_,k1⟩
  unfold PSt.doesS; rw [if_neg a1,if_neg a2,if_neg a3,if_neg a4,if_pos a5]
  rw [a5] at par1; exact par1
 by_cases a6 : a = 6
 ·have a6' : decide (a = 6) = true := by simpa using a6
  simp only [A36,a1,a2,a3,a4,a5,a6',SX,reduceCtorEq,Nat.reduceEqDiff,↓reduceIte]
  refine (over_spec eq hg par (by omega)).mono ?_
  rintro r H1 ⟨par1,k1⟩
  simp only [SX]
  refine ⟨?_,k1⟩
  unfold PSt.doesS; rw [if_neg a1,if_neg a2,if_neg a3,if_neg a4,if_neg a5,if_pos a6]
  rw [a6] at par1; exact par1
 by_cases a7 : a = 7
 ·have a7' : decide (a = 7) = true := by simpa using a7
  obtain ⟨H1,s1,g1,k1,n1⟩ := hp.store (o := 11) (v := .int .u8 c.toNat) rfl (by simp [pcs,DSt.cs])
  simp only [A36,a1,a2,a3,a4,a5,a6,a7',s1,SX,reduceCtorEq,Nat.reduceEqDiff,↓reduceIte]
  refine ⟨?_,k1⟩
  unfold PSt.doesS; rw [if_neg a1,if_neg a2,if_neg a3,if_neg a4,if_neg a5,if_neg a6,if_pos a7]
  exact ⟨C,⟨ok.l,ok.x,ok.t,ok.e,ok.ev⟩,g1⟩
 by_cases a8 : a = 8
 ·have a8' : decide (a = 8) = true := by simpa using a8
  simp only [A36,a1,a2,a3,a4,a5,a6,a7,a8',SX,reduceCtorEq,Nat.reduceEqDiff,↓reduceIte]
  refine (put_spec eq par hx).mono ?_
  rintro r H1 ⟨par1,k1⟩
  simp only [SX]
  refine ⟨?_,k1⟩
  unfold PSt.doesS; rw [if_neg a1,if_neg a2,if_neg a3,if_neg a4,if_neg a5,if_neg a6,if_neg a7,if_pos a8]
  exact par1
 ·simp only [A36,a1,a2,a3,a4,a5,a6,a7,a8,SX,Nat.reduceEqDiff,↓reduceIte]
  refine ⟨?_,Keep.refl _ _⟩
  unfold PSt.doesS; rw [if_neg a1,if_neg a2,if_neg a3,if_neg a4,if_neg a5,if_neg a6,if_neg a7,if_neg a8]
  exact par
set_option maxHeartbeats 2000000 in
theorem isEnd_spec {st n : Int} : FnTo Q 32 [.int .i64 st,.int .i64 n] H (fun r H' => r = .bool (decide (n ≠ st /\ (st = 10 \/ st = 12))) /\ H' = H) := by
 refine fn_wp (eq.ho 32 rfl _) eq.q28 (by simp [A32]) ?_
 by_cases c1 : n = st
 ·have c1' : (!decide (n = st)) = false := by simp [c1]
  simp only [A32,wantV_undef,c1',SX,reduceCtorEq,Nat.reduceEqDiff,↓reduceIte]
  simp [c1]
 ·have c1' : (!decide (n = st)) = true := by simp [c1]
  by_cases c2 : st = 10
  ·have c2' : decide (st = 10) = true := by simpa using c2
   simp only [A32,c1',c2',SX,reduceCtorEq,Nat.reduceEqDiff,↓reduceIte]
   simp [c2]
   omega
  ·have c2' : decide (st = 10) = false := by simpa using c2
   simp only [A32,c1',c2',SX,reduceCtorEq,Nat.reduceEqDiff,↓reduceIte]
   simp [c1,c2]
set_option maxHeartbeats 2000000 in
theorem isClr_spec {st n : Int} : FnTo Q 34 [.int .i64 st,.int .i64 n] H (fun r H' => r = .bool (decide (n ≠ st /\ (n = 1 \/ n = 3 \/ n = 7 \/ n = 12))) /\ H' = H) := by
 refine fn_wp (eq.ho 34 rfl _) eq.q30 (by simp [A34]) ?_
 by_cases c1 : n = st
 ·have c1' : (!decide (n = st)) = false := by simp [c1]
  simp only [A34,wantV_undef,c1',SX,reduceCtorEq,Nat.reduceEqDiff,↓reduceIte]
  simp [c1]
 ·have c1' : (!decide (n = st)) = true := by simp [c1]
  by_cases c2 : n = 1
  ·have c2' : decide (n = 1) = true := by simpa using c2
   simp only [A34,c1',c2',SX,reduceCtorEq,Nat.reduceEqDiff,↓reduceIte]
   simp [c2]
   omega
  ·have c2' : decide (n = 1) = false := by simpa using c2
   by_cases c3 : n = 3
   ·have c3' : decide (n = 3) = true := by simpa using c3
    simp only [A34,c1',c2',c3',SX,reduceCtorEq,Nat.reduceEqDiff,↓reduceIte]
    simp [c3]
    omega
   ·have c3' : decide (n = 3) = false := by simpa using c3
    by_cases c4 : n = 7
    ·have c4' : decide (n = 7) = true := by simpa using c4
     simp only [A34,c1',c2',c3',c4',SX,reduceCtorEq,Nat.reduceEqDiff,↓reduceIte]
     simp [c4]
     omega
    ·have c4' : decide (n = 7) = false := by simpa using c4
     simp only [A34,c1',c2',c3',c4',SX,reduceCtorEq,Nat.reduceEqDiff,↓reduceIte]
     simp [c1,c2,c3,c4]
end
def PSt.step1 (s : PSt) (c : UInt8) : PSt := if (nx s.st c.toNat).1 ≠ 1 then s.endS else s
def PSt.step2 (s : PSt) (n : Int) (c : UInt8) : PSt := if n ≠ s.st /\ (s.st = 10 \/ s.st = 12) then s.stopS c else s
def PSt.step3 (s : PSt) (n : Int) : PSt := if n ≠ s.st /\ (n = 1 \/ n = 3 \/ n = 7 \/ n = 12) then s.clrS else s
def PSt.step (s : PSt) (c : UInt8) : PSt :=
 { (((s.step1 c).step2 (nx s.st c.toNat).2 c).step3 (nx s.st c.toNat).2).doesS (nx s.st c.toNat).1 c with st := (nx s.st c.toNat).2 }
def PSt.feed (s : PSt) (t : List UInt8) : PSt := t.foldl PSt.step s
structure PSt.Good (s : PSt) : Prop where
 d : s.d.Good
 ps : s.ps.Good
 st : 0 <= s.st /\ s.st <= 13
 mids : s.mids.length <= 2
theorem nSeq_in {c on inn param off en : Int} (h1 : 0 <= on /\ on <= 13) (h2 : 0 <= inn /\ inn <= 13) (h3 : 0 <= param /\ param <= 13) (h4 : 0 <= off /\ off <= 13) : 0 <= (nSeq c on inn param off en).2 /\ (nSeq c on inn param off en).2 <= 13 := by
 unfold nSeq
 (repeat' split) <;> simp only <;> omega
theorem nEscape_in {c : Int} : 0 <= (nEscape c).2 /\ (nEscape c).2 <= 13 := by
 unfold nEscape
 (repeat' split) <;> simp only <;> omega
theorem nText_in {st c : Int} (h : 0 <= st /\ st <= 13) : 0 <= (nText st c).2 /\ (nText st c).2 <= 13 := by
 unfold nText
 (repeat' split) <;> simp only <;> omega
theorem nInter_in {c : Int} : 0 <= (nInter c).2 /\ (nInter c).2 <= 13 := by
 unfold nInter
 (repeat' split) <;> simp only <;> omega
theorem nLet_in {c : Int} : 0 <= (nLet c).2 /\ (nLet c).2 <= 13 := by
 unfold nLet
 (repeat' split) <;> simp only <;> omega
theorem nGround_in {c : Int} : 0 <= (nGround c).2 /\ (nGround c).2 <= 13 := by
 unfold nGround
 (repeat' split) <;> simp only <;> omega
theorem nx_in {st c : Int} (h : 0 <= st /\ st <= 13) : 0 <= (nx st c).2 /\ (nx st c).2 <= 13 := by
 have q1 := nEscape_in (c := c)
 have q2 := nInter_in (c := c)
 have q3 := nSeq_in (c := c) (en := 6) h (show (0 : Int) <= 5 /\ (5 : Int) <= 13 by omega) (show (0 : Int) <= 4 /\ (4 : Int) <= 13 by omega) (show (0 : Int) <= 6 /\ (6 : Int) <= 13 by omega)
 have q4 := nLet_in (c := c)
 have q5 := nSeq_in (c := c) (en := 7) h (show (0 : Int) <= 9 /\ (9 : Int) <= 13 by omega) (show (0 : Int) <= 8 /\ (8 : Int) <= 13 by omega) (show (0 : Int) <= 11 /\ (11 : Int) <= 13 by omega)
 have q6 := nText_in (c := c) h
 have q7 := nGround_in (c := c)
 unfold nx
 generalize nEscape c = x1 at *
 generalize nInter c = x2 at *
 generalize nSeq c st 5 4 6 6 = x3 at *
 generalize nLet c = x4 at *
 generalize nSeq c st 9 8 11 7 = x5 at *
 generalize nText st c = x6 at *
 generalize nGround c = x7 at *
 (repeat' split) <;> first | assumption | (simp only; omega)
theorem Good.endS {s : PSt} (h : s.Good) : s.endS.Good /\ s.endS.told.length <= s.told.length + 1 /\ s.endS.st = s.st /\ s.endS.text = s.text := by
 unfold PSt.endS
 split
 ·exact ⟨h,by omega,rfl,rfl⟩
 ·exact ⟨⟨zero_good,h.ps,h.st,h.mids⟩,by simp,rfl,rfl⟩
theorem Good.tell {s : PSt} (h : s.Good) (e : PEv) : (s.tell e).Good /\ (s.tell e).told.length <= s.told.length + 1 /\ (s.tell e).st = s.st /\ (s.tell e).text = s.text :=
 ⟨⟨h.d,h.ps,h.st,h.mids⟩,by simp [PSt.tell],rfl,rfl⟩
theorem Good.stopS {s : PSt} (h : s.Good) (c : UInt8) : (s.stopS c).Good /\ (s.stopS c).told.length <= s.told.length + 1 /\ (s.stopS c).st = s.st /\ (s.stopS c).text = s.text := by
 unfold PSt.stopS
 split
 ·exact ⟨h,by omega,rfl,rfl⟩
 ·split
  ·exact Good.tell h _
  ·split
   ·exact ⟨h,by omega,rfl,rfl⟩
   ·exact Good.tell h _
theorem Good.clrS {s : PSt} (h : s.Good) : s.clrS.Good /\ s.clrS.told.length <= s.told.length /\ s.clrS.st = s.st /\ s.clrS.text.length <= s.text.length :=
 ⟨⟨h.d,none_good,h.st,by simp [PSt.clrS]⟩,Nat.le_refl _,rfl,by simp [PSt.clrS]⟩
theorem Good.overS {s : PSt} (h : s.Good) (a : Int) (c : UInt8) : (s.overS a c).Good /\ (s.overS a c).told.length <= s.told.length + 1 /\ (s.overS a c).text = s.text := by
 unfold PSt.overS
 split
 ·exact ⟨h,by omega,rfl⟩
 ·split
  ·exact ⟨(Good.tell h _).1,(Good.tell h _).2.1,rfl⟩
  ·exact ⟨(Good.tell h _).1,(Good.tell h _).2.1,rfl⟩
theorem Good.doesS {s : PSt} (h : s.Good) (a : Int) (c : UInt8) : (s.doesS a c).Good /\ (s.doesS a c).told.length <= s.told.length + 2 /\ (s.doesS a c).text.length <= s.text.length + 1 := by
 obtain ⟨u0,u1⟩ := u8_byte c
 unfold PSt.doesS
 split
 ·refine ⟨⟨byteD_good h.d u0 u1,h.ps,h.st,h.mids⟩,?_,by simp [PSt.prints]⟩
  have : (s.d.byte c.toNat).1.length <= 2 := by rcases byteD_len s.d c.toNat with h | ⟨x,h⟩ | ⟨x,y,h⟩ <;> simp [h]
  simp only [PSt.prints,List.length_append,List.length_map]
  omega
 ·split
  ·exact ⟨(Good.tell h _).1,by have := (Good.tell h ⟨2,0,c.toNat,[],[],[]⟩).2.1; omega,by simp [PSt.tell]⟩
  ·split
   ·unfold PSt.midS
    split
    ·exact ⟨⟨h.d,h.ps,h.st,h.mids⟩,by simp,by simp⟩
    ·rename_i hh
     refine ⟨⟨h.d,h.ps,h.st,?_⟩,by simp,by simp⟩
     have := h.mids
     have : s.mids.length ≠ 2 := fun h => hh (.inr h)
     simp; omega
   ·split
    ·exact ⟨⟨h.d,byte_good h.ps,h.st,h.mids⟩,by simp,by simp⟩
    ·split
     ·exact ⟨(Good.overS h _ _).1,by have := (Good.overS h 5 c).2.1; omega,by rw [(Good.overS h 5 c).2.2]; omega⟩
     ·split
      ·exact ⟨(Good.overS h _ _).1,by have := (Good.overS h 6 c).2.1; omega,by rw [(Good.overS h 6 c).2.2]; omega⟩
      ·split
       ·exact ⟨⟨h.d,h.ps,h.st,h.mids⟩,by simp,by simp⟩
       ·split
        ·have : s.putS c = { s with long := true } \/ s.putS c = { s with text := s.text ++ [c] } := by
          unfold PSt.putS
          by_cases hh : s.long = true \/ s.text.length = (if s.st = 12 then 1024 else 256)
          ·exact .inl (if_pos hh)
          ·exact .inr (if_neg hh)
         rcases this with e | e <;> rw [e]
         ·exact ⟨⟨h.d,h.ps,h.st,h.mids⟩,by simp,by simp⟩
         ·exact ⟨⟨h.d,h.ps,h.st,h.mids⟩,by simp,by simp⟩
        ·exact ⟨h,by omega,by omega⟩
theorem Good.step1 {s : PSt} (h : s.Good) (c : UInt8) : (s.step1 c).Good /\ (s.step1 c).told.length <= s.told.length + 1 /\ (s.step1 c).st = s.st /\ (s.step1 c).text = s.text := by
 unfold PSt.step1
 split
 ·exact Good.endS h
 ·exact ⟨h,by omega,rfl,rfl⟩
theorem Good.step2 {s : PSt} (h : s.Good) (n : Int) (c : UInt8) : (s.step2 n c).Good /\ (s.step2 n c).told.length <= s.told.length + 1 /\ (s.step2 n c).st = s.st /\ (s.step2 n c).text = s.text := by
 unfold PSt.step2
 split
 ·exact Good.stopS h c
 ·exact ⟨h,by omega,rfl,rfl⟩
theorem Good.step3 {s : PSt} (h : s.Good) (n : Int) : (s.step3 n).Good /\ (s.step3 n).told.length <= s.told.length /\ (s.step3 n).st = s.st /\ (s.step3 n).text.length <= s.text.length := by
 unfold PSt.step3
 split
 ·exact Good.clrS h
 ·exact ⟨h,by omega,rfl,by omega⟩
theorem Good.step {s : PSt} (h : s.Good) (c : UInt8) : (s.step c).Good /\ (s.step c).told.length <= s.told.length + 4 /\ (s.step c).text.length <= s.text.length + 1 := by
 obtain ⟨g1,a1,b1,d1⟩ := Good.step1 h c
 obtain ⟨g2,a2,b2,d2⟩ := Good.step2 g1 (nx s.st c.toNat).2 c
 obtain ⟨g3,a3,b3,d3⟩ := Good.step3 g2 (nx s.st c.toNat).2
 obtain ⟨g4,a4,d4⟩ := Good.doesS g3 (nx s.st c.toNat).1 c
 refine ⟨⟨g4.d,g4.ps,nx_in h.st,g4.mids⟩,?_,?_⟩
 ·simp only [PSt.step]; omega
 ·simp only [PSt.step]; rw [d2,d1] at d3; omega
structure FE (e : Env) (p : Nat) (t : List UInt8) (i : Nat) (a n : Int) : Prop where
 e0 : Env.get e 0 = .ptr p 0
 e1 : Env.get e 1 = .str t
 e4 : Env.get e 4 = .int .i64 i
 e5 : Env.get e 5 = .int .i64 a
 e6 : Env.get e 6 = .int .i64 n
 e10 : Env.get e 10 = .int .i64 t.length
 e11 : Env.get e 11 = .int .i64 i
section
variable {Q : Prog} (eq : EvQ Q) {base : Nat} {H : AHeap} {p : Nat} {s : PSt} {l : List Cel} {t : List UInt8} {i : Nat} {a n : Int} {e : Env} {K : PostC}
include eq
set_option maxHeartbeats 2000000 in
theorem c1_wp (h : Par base H p s l) (hs : s.told.length <= 900000) (f : FE e p t i a n) (hk : ∀ e' H',FE e' p t i a n -> Par base H' p (if a ≠ 1 then s.endS else s) l -> Keep base H H' -> K .normal e' H') : ACode.wp Q A22_c1 K e H := by
 obtain ⟨e0,e1,e4,e5,e6,e10,e11⟩ := f
 by_cases c : a = 1
 ·have c' : (!decide (a = 1)) = false := by simp [c]
  simp only [A22_c1,e5,c',SX,↓reduceIte]
  refine hk _ H ⟨?_,?_,?_,?_,?_,?_,?_⟩ ?_ (Keep.refl _ _)
  ·simp only [e0,SG,reduceCtorEq,↓reduceIte]
  ·simp only [e1,SG,Nat.reduceEqDiff,↓reduceIte]
  ·simp only [e4,SG,Nat.reduceEqDiff,↓reduceIte]
  ·simp only [e5,SG,Nat.reduceEqDiff,↓reduceIte]
  ·simp only [e6,SG,Nat.reduceEqDiff,↓reduceIte]
  ·simp only [e10,SG,Nat.reduceEqDiff,↓reduceIte]
  ·simp only [e11,SG,Nat.reduceEqDiff,↓reduceIte]
  ·rw [if_neg (by simp [c])]; exact h
 ·have c' : (!decide (a = 1)) = true := by simp [c]
  simp only [A22_c1,e0,e5,c',SX,reduceCtorEq,↓reduceIte]
  refine (endS_spec eq h hs).mono ?_
  rintro r H1 ⟨h1,k1⟩
  simp only [SX]
  refine hk _ H1 ⟨?_,?_,?_,?_,?_,?_,?_⟩ ?_ k1
  ·simp only [e0,SG,reduceCtorEq,↓reduceIte]
  ·simp only [e1,SG,Nat.reduceEqDiff,↓reduceIte]
  ·simp only [e4,SG,Nat.reduceEqDiff,↓reduceIte]
  ·simp only [e5,SG,Nat.reduceEqDiff,↓reduceIte]
  ·simp only [e6,SG,Nat.reduceEqDiff,↓reduceIte]
  ·simp only [e10,SG,Nat.reduceEqDiff,↓reduceIte]
  ·simp only [e11,SG,Nat.reduceEqDiff,↓reduceIte]
  ·rw [if_pos c]; exact h1
set_option maxHeartbeats 2000000 in
theorem c2_wp {c : UInt8} (hc : t[i]? = some c) (hg : s.ps.Good) (h : Par base H p s l) (hs : s.told.length <= 900000) (f : FE e p t i a n) (hk : ∀ e' H',FE e' p t i a n -> Par base H' p (s.step2 n c) l -> Keep base H H' -> K .normal e' H') : ACode.wp Q A22_c2 K e H := by
 obtain ⟨e0,e1,e4,e5,e6,e10,e11⟩ := f
 have par := h
 obtain ⟨C,ok,hp⟩ := h
 have l5 := hp.load (b := p) (k := 1) (cs := pcs s C.lv C.xv C.tv) (List.mem_cons_self ..) (o := 5) rfl
 have hix := idxStr_at hc .i64
 simp only [A22_c2,e0,e6,l5,SX,Nat.reduceEqDiff,↓reduceIte]
 refine (isEnd_spec eq).mono ?_
 rintro r H' ⟨rfl,rfl⟩
 by_cases d : n ≠ s.st /\ (s.st = 10 \/ s.st = 12)
 ·have d' : decide (n ≠ s.st /\ (s.st = 10 \/ s.st = 12)) = true := by simpa using d
  simp only [e0,e1,e4,d',hix,SX,reduceCtorEq,Nat.reduceEqDiff,↓reduceIte]
  refine (stop_spec eq hg par (by omega)).mono ?_
  rintro r H1 ⟨h1,k1⟩
  simp only [SX]
  refine hk _ H1 ⟨?_,?_,?_,?_,?_,?_,?_⟩ ?_ k1
  ·simp only [e0,SG,reduceCtorEq,↓reduceIte]
  ·simp only [e1,SG,Nat.reduceEqDiff,↓reduceIte]
  ·simp only [e4,SG,Nat.reduceEqDiff,↓reduceIte]
  ·simp only [e5,SG,Nat.reduceEqDiff,↓reduceIte]
  ·simp only [e6,SG,Nat.reduceEqDiff,↓reduceIte]
  ·simp only [e10,SG,Nat.reduceEqDiff,↓reduceIte]
  ·simp only [e11,SG,Nat.reduceEqDiff,↓reduceIte]
  ·unfold PSt.step2; rw [if_pos d]; exact h1
 ·have d' : decide (n ≠ s.st /\ (s.st = 10 \/ s.st = 12)) = false := by simpa using d
  simp only [d',SX,↓reduceIte]
  refine hk _ H' ⟨?_,?_,?_,?_,?_,?_,?_⟩ ?_ (Keep.refl _ _)
  ·simp only [e0,SG,reduceCtorEq,↓reduceIte]
  ·simp only [e1,SG,Nat.reduceEqDiff,↓reduceIte]
  ·simp only [e4,SG,Nat.reduceEqDiff,↓reduceIte]
  ·simp only [e5,SG,Nat.reduceEqDiff,↓reduceIte]
  ·simp only [e6,SG,Nat.reduceEqDiff,↓reduceIte]
  ·simp only [e10,SG,Nat.reduceEqDiff,↓reduceIte]
  ·simp only [e11,SG,Nat.reduceEqDiff,↓reduceIte]
  ·unfold PSt.step2; rw [if_neg d]; exact par
set_option maxHeartbeats 2000000 in
theorem c3_wp (h : Par base H p s l) (f : FE e p t i a n) (hk : ∀ e' H',FE e' p t i a n -> Par base H' p (s.step3 n) l -> Keep base H H' -> K .normal e' H') : ACode.wp Q A22_c3 K e H := by
 obtain ⟨e0,e1,e4,e5,e6,e10,e11⟩ := f
 have par := h
 obtain ⟨C,ok,hp⟩ := h
 have l5 := hp.load (b := p) (k := 1) (cs := pcs s C.lv C.xv C.tv) (List.mem_cons_self ..) (o := 5) rfl
 simp only [A22_c3,e0,e6,l5,SX,Nat.reduceEqDiff,↓reduceIte]
 refine (isClr_spec eq).mono ?_
 rintro r H' ⟨rfl,rfl⟩
 by_cases d : n ≠ s.st /\ (n = 1 \/ n = 3 \/ n = 7 \/ n = 12)
 ·have d' : decide (n ≠ s.st /\ (n = 1 \/ n = 3 \/ n = 7 \/ n = 12)) = true := by simpa using d
  simp only [e0,d',SX,reduceCtorEq,↓reduceIte]
  refine (clr_spec eq (ρ := rstOf s C.xv C.tv) (v := C.lv) (a := .bool s.ps.ov) (b := .bool s.ps.fu) (ll := C.rest l) hp).mono ?_
  rintro r H1 ⟨g1,k1⟩
  obtain ⟨H2,s2,g2,k2,n2⟩ := g1.store (o := 9) (v := .str []) rfl (by simp)
  obtain ⟨H3,s3,g3,k3,n3⟩ := g2.store (o := 10) (v := .bool false) rfl (by simp)
  obtain ⟨H4,s4,g4,k4,n4⟩ := g3.store (o := 12) (v := .nils) rfl (by simp)
  obtain ⟨H5,s5,g5,k5,n5⟩ := g4.store (o := 13) (v := .bool false) rfl (by simp)
  have g5' : Hp base H5 (⟨p,1,pcs s.clrS .nils .nils C.tv⟩ :: C.rest l) := g5
  simp only [e0,s2,s3,s4,s5,SX,reduceCtorEq,Nat.reduceEqDiff,↓reduceIte]
  refine hk _ H5 ⟨?_,?_,?_,?_,?_,?_,?_⟩ ?_ ((((k1.trans k2).trans k3).trans k4).trans k5)
  ·simp only [e0,SG,reduceCtorEq,↓reduceIte]
  ·simp only [e1,SG,reduceCtorEq,Nat.reduceEqDiff,↓reduceIte]
  ·simp only [e4,SG,reduceCtorEq,Nat.reduceEqDiff,↓reduceIte]
  ·simp only [e5,SG,reduceCtorEq,Nat.reduceEqDiff,↓reduceIte]
  ·simp only [e6,SG,reduceCtorEq,Nat.reduceEqDiff,↓reduceIte]
  ·simp only [e10,SG,reduceCtorEq,Nat.reduceEqDiff,↓reduceIte]
  ·simp only [e11,SG,reduceCtorEq,Nat.reduceEqDiff,↓reduceIte]
  ·unfold PSt.step3; rw [if_pos d]
   refine ⟨⟨.nils,.nils,C.tv,[],[],C.tcl,C.E⟩,⟨.inl ⟨rfl,rfl,rfl⟩,.inl ⟨rfl,rfl,rfl⟩,ok.t,ok.e,ok.ev⟩,g5'.sub ?_⟩
   refine List.Sublist.cons_cons _ ?_
   simp only [PC.rest,List.nil_append]
   exact (List.sublist_append_right _ _).trans (List.sublist_append_right _ _)
 ·have d' : decide (n ≠ s.st /\ (n = 1 \/ n = 3 \/ n = 7 \/ n = 12)) = false := by simpa using d
  simp only [d',SX,↓reduceIte]
  refine hk _ H' ⟨?_,?_,?_,?_,?_,?_,?_⟩ ?_ (Keep.refl _ _)
  ·simp only [e0,SG,reduceCtorEq,↓reduceIte]
  ·simp only [e1,SG,Nat.reduceEqDiff,↓reduceIte]
  ·simp only [e4,SG,Nat.reduceEqDiff,↓reduceIte]
  ·simp only [e5,SG,Nat.reduceEqDiff,↓reduceIte]
  ·simp only [e6,SG,Nat.reduceEqDiff,↓reduceIte]
  ·simp only [e10,SG,Nat.reduceEqDiff,↓reduceIte]
  ·simp only [e11,SG,Nat.reduceEqDiff,↓reduceIte]
  ·unfold PSt.step3; rw [if_neg d]; exact par
set_option maxHeartbeats 2000000 in
theorem c4_wp {c : UInt8} (hc : t[i]? = some c) (hg : s.Good) (hx : s.text.length <= 1000000) (h : Par base H p s l) (hs : s.told.length <= 900000) (f : FE e p t i a n) (hk : ∀ e' H',FE e' p t i a n -> Par base H' p { s.doesS a c with st := n } l -> Keep base H H' -> K .normal e' H') : ACode.wp Q A22_c4 K e H := by
 obtain ⟨e0,e1,e4,e5,e6,e10,e11⟩ := f
 have hix := idxStr_at hc .i64
 have hm := hg.mids
 simp only [A22_c4,e0,e1,e4,e5,hix,SX,Nat.reduceEqDiff,↓reduceIte]
 refine (does_spec eq hg.d hg.ps hx (by omega) h hs).mono ?_
 rintro r H1 ⟨h1,k1⟩
 obtain ⟨C,ok,hp⟩ := h1
 obtain ⟨H2,s2,g2,k2,n2⟩ := hp.store (o := 5) (v := .int .i64 n) rfl (by simp [pcs,DSt.cs])
 simp only [e0,e6,s2,SX,reduceCtorEq,Nat.reduceEqDiff,↓reduceIte]
 refine hk _ H2 ⟨?_,?_,?_,?_,?_,?_,?_⟩ ?_ (k1.trans k2)
 ·simp only [e0,SG,reduceCtorEq,↓reduceIte]
 ·simp only [e1,SG,reduceCtorEq,Nat.reduceEqDiff,↓reduceIte]
 ·simp only [e4,SG,reduceCtorEq,Nat.reduceEqDiff,↓reduceIte]
 ·simp only [e5,SG,reduceCtorEq,Nat.reduceEqDiff,↓reduceIte]
 ·simp only [e6,SG,reduceCtorEq,Nat.reduceEqDiff,↓reduceIte]
 ·simp only [e10,SG,reduceCtorEq,Nat.reduceEqDiff,↓reduceIte]
 ·simp only [e11,SG,reduceCtorEq,Nat.reduceEqDiff,↓reduceIte]
 ·exact ⟨C,⟨ok.l,ok.x,ok.t,ok.e,ok.ev⟩,g2⟩
omit eq in
theorem Good.feed : ∀ {t : List UInt8} {s : PSt},s.Good -> (s.feed t).Good /\ (s.feed t).told.length <= s.told.length + 4 * t.length /\ (s.feed t).text.length <= s.text.length + t.length
 | [],s,h => ⟨h,by simp [PSt.feed],by simp [PSt.feed]⟩
 | c :: t,s,h => by
  obtain ⟨g,a,b⟩ := Good.step h c
  obtain ⟨g2,a2,b2⟩ := Good.feed (t := t) g
  have e : s.feed (c :: t) = (s.step c).feed t := rfl
  rw [e]
  refine ⟨g2,?_,?_⟩ <;> simp only [List.length_cons] <;> omega
set_option maxHeartbeats 8000000 in
theorem feed_spec (hg : s.Good) (h : Par base H p s l) (hs : s.told.length + 4 * t.length <= 800000) (hx : s.text.length + t.length <= 800000) :
  FnTo Q 22 [.ptr p 0,.str t] H (fun r H' => Par base H' p (s.feed t) l /\ Keep base H H') := by
 refine fn_wp (eq.ho 22 rfl _) eq.q14 (by simp [A22]) ?_
 simp only [A22,SX,Nat.reduceEqDiff,↓reduceIte]
 obtain ⟨I,hI⟩ : ∃ I : Nat -> Env -> AHeap -> Prop,∀ m e H',I m e H' ↔ (Keep base H H' /\ ∃ i : Nat,m = t.length - i /\ i <= t.length /\ Par base H' p (s.feed (t.take i)) l /\ Env.get e 0 = .ptr p 0 /\ Env.get e 1 = .str t /\ Env.get e 10 = .int .i64 t.length /\ Env.get e 11 = .int .i64 i) := ⟨_,fun _ _ _ => Iff.rfl⟩
 refine loop_by I t.length ?_ ?_
 ·refine (hI _ _ _).2 ⟨Keep.refl _ _,0,rfl,by omega,by rw [List.take_zero]; exact h,?_⟩
  simp only [SX,reduceCtorEq,Nat.reduceEqDiff,↓reduceIte]; rfl
 ·intro m e H1 hinv
  obtain ⟨k1,i,rfl,hi,par,e0,e1,e10,e11⟩ := (hI _ _ _).1 hinv
  by_cases d : (i : Int) < t.length
  ·obtain ⟨c,hc⟩ : ∃ c,t[i]? = some c := ⟨_,List.getElem?_eq_getElem (by omega)⟩
   have hix := idxStr_at hc .i64
   have hil : (t.take i).length = i := by simp; omega
   obtain ⟨gi,ti,xi⟩ := Good.feed (t := t.take i) hg
   rw [hil] at ti xi
   obtain ⟨S,hS⟩ : ∃ S,s.feed (t.take i) = S := ⟨_,rfl⟩
   rw [hS] at par gi ti xi
   have hstep : s.feed (t.take (i + 1)) = S.step c := by
    rw [List.take_add_one,hc,<- hS]
    simp only [PSt.feed,Option.toList_some,List.foldl_append,List.foldl_cons,List.foldl_nil]
   have w1 : IntKind.wrap .i64 ((i : Int) + 1) = ((i + 1 : Nat) : Int) := by rw [wrapI64 (by omega) (by omega)]; rfl
   have l5 : loadV H1 Option.none (.ptr p 5) = some (.int .i64 S.st) := by
    obtain ⟨C,ok,hp⟩ := par
    exact hp.load (b := p) (k := 1) (cs := pcs S C.lv C.xv C.tv) (List.mem_cons_self ..) (o := 5) rfl
   simp only [e0,e1,e10,e11,d,l5,hix,SX,reduceCtorEq,Nat.reduceEqDiff,↓reduceIte]
   refine (next_st eq gi.st).mono ?_
   rintro r H2 ⟨rfl,rfl⟩
   obtain ⟨x1,x2⟩ := ext2 (nx S.st c.toNat)
   simp only [x1,x2,SX,Nat.reduceEqDiff,↓reduceIte]
   obtain ⟨g1,a1,b1,d1⟩ := Good.step1 gi c
   obtain ⟨g2,a2,b2,d2⟩ := Good.step2 g1 (nx S.st c.toNat).2 c
   obtain ⟨g3,a3,b3,d3⟩ := Good.step3 g2 (nx S.st c.toNat).2
   refine c1_wp eq (t := t) (i := i) (a := (nx S.st c.toNat).1) (n := (nx S.st c.toNat).2) par (by omega) ⟨?_,?_,?_,?_,?_,?_,?_⟩ ?_
   ·simp only [e0,SG,reduceCtorEq,↓reduceIte]
   ·simp only [e1,SG,Nat.reduceEqDiff,↓reduceIte]
   ·simp only [SX,Nat.reduceEqDiff,↓reduceIte]
   ·simp only [SX,Nat.reduceEqDiff,↓reduceIte]
   ·simp only [SX,↓reduceIte]
   ·simp only [e10,SG,Nat.reduceEqDiff,↓reduceIte]
   ·simp only [e11,SG,Nat.reduceEqDiff,↓reduceIte]
   intro e2 H3 f2 par2 k2
   have par2 : Par base H3 p (S.step1 c) l := par2
   simp only [SX]
   refine c2_wp eq hc g1.ps par2 (by omega) f2 ?_
   intro e3 H4 f3 par3 k3
   simp only [SX]
   refine c3_wp eq par3 f3 ?_
   intro e4 H5 f4 par4 k4
   simp only [SX]
   refine c4_wp eq hc g3 (by rw [d2,d1] at d3; omega) par4 (by omega) f4 ?_
   intro e5 H6 f5 par5 k5
   simp only [f5.e11,w1,SX,↓reduceIte]
   refine ⟨t.length - (i + 1),by omega,(hI _ _ _).2 ⟨(((k1.trans k2).trans k3).trans k4).trans k5,i + 1,rfl,by omega,?_,?_⟩⟩
   ·rw [hstep]; exact par5
   ·simp only [f5.e0,f5.e1,f5.e10,SX,reduceCtorEq,Nat.reduceEqDiff,↓reduceIte]
  ·simp only [e10,e11,d,SX,↓reduceIte]
   rw [List.take_of_length_le (by omega)] at par
   exact ⟨par,k1⟩
end
def PSt.new : PSt := ⟨DSt.zero,0,PS.none,[],false,0,[],false,[]⟩
theorem new_good : PSt.new.Good := ⟨zero_good,none_good,by simp [PSt.new],by simp [PSt.new]⟩
def zero15 : List AV := [.int .i64 0,.int .i64 0,.int .u8 0,.int .u8 0,.int .i32 0,.int .i64 0,.nils,.bool false,.bool false,.str [],.bool false,.int .u8 0,.nils,.bool false,.nils]
theorem par_new {base : Nat} {H : AHeap} {p : Nat} {l : List Cel} (h : Hp base H (⟨p,1,zero15⟩ :: l)) : Par base H p PSt.new l :=
 ⟨⟨.nils,.nils,.nils,[],[],[],[]⟩,⟨.inl ⟨rfl,rfl,rfl⟩,.inl ⟨rfl,rfl,rfl⟩,.inl ⟨rfl,rfl,rfl⟩,rfl,fun a ha => by simp at ha⟩,h⟩
theorem TRv.len {v : AV} {E : List EvC} {cl : List Cel} (h : TRv v E cl) (H : AHeap) : lngV H 1 v = some (.int .i64 E.length) := by
 rcases h with ⟨rfl,rfl,_⟩ | ⟨b,pre,rfl,_⟩ <;> rfl
theorem TRv.one {v : AV} {E : List EvC} {cl : List Cel} (h : TRv v E cl) : v.one = true := by
 rcases h with ⟨_,rfl,_⟩ | ⟨b,pre,rfl,_⟩ <;> rfl
def at6 (v : AV) (i : Nat) : AV := match v with | .slc b o _ _ => .ptr b (o + i * 6) | _ => .undef
theorem TRv.at {v : AV} {E : List EvC} {cl : List Cel} (h : TRv v E cl) {i : Nat} (hi : i < E.length) : idxSV 6 v (.int .i64 i) = some (at6 v i) := by
 rcases h with ⟨rfl,rfl,_⟩ | ⟨b,pre,rfl,_⟩
 ·simp at hi
 ·simp only [idxSV,ROp.run,Opd.ev,inIndex,if_pos (show (0 : Int) <= (i : Int) /\ (i : Int) < (E.length : Int) by omega),at6,Int.toNat_natCast]
theorem TRv.get {base : Nat} {H : AHeap} {v : AV} {E : List EvC} {cl l : List Cel} (h : TRv v E cl) (hp : Hp base H l) (hsub : ∀ x ∈ cl,x ∈ l) {i : Nat} {a : EvC} (ha : E[i]? = some a) : loadV H (some 6) (at6 v i) = some a.1.val := by
 rcases h with ⟨rfl,rfl,_⟩ | ⟨b,pre,rfl,rfl⟩
 ·simp at ha
 ·have hE : E = E.take i ++ (a :: E.drop (i + 1)) := by
   obtain ⟨h1,h2⟩ := List.getElem?_eq_some_iff.1 ha
   rw [<- h2,<- List.drop_eq_getElem_cons h1,List.take_append_drop]
  have hi : i < E.length := (List.getElem?_eq_some_iff.1 ha).1
  have hf : pre ++ flatV E = (pre ++ flatV (E.take i)) ++ (a.1.cs ++ flatV (E.drop (i + 1))) := by
   conv => lhs; rw [hE]
   rw [flatV_app,List.append_assoc]
   rfl
  have hm : (⟨b,6,(pre ++ flatV (E.take i)) ++ (a.1.cs ++ flatV (E.drop (i + 1)))⟩ : Cel) ∈ l := by
   rw [<- hf]; exact hsub _ (List.mem_cons_self ..)
  refine hp.loadO hm ?_ rfl
  rw [List.length_append,flatV_len,List.length_take,Nat.min_eq_left (by omega)]
theorem mem_flatC {E : List EvC} {a : EvC} (ha : a ∈ E) : ∀ x ∈ a.2,x ∈ flatC E := fun x hx => List.mem_flatMap.2 ⟨a,ha,hx⟩
theorem TRv.sub {v : AV} {E : List EvC} {cl : List Cel} (h : TRv v E cl) {a : EvC} (ha : a ∈ E) : ∀ x ∈ a.2,x ∈ cl := by
 rcases h with ⟨rfl,rfl,_⟩ | ⟨b,pre,rfl,rfl⟩
 ·simp at ha
 ·exact fun x hx => List.mem_cons_of_mem _ (mem_flatC ha x hx)
theorem PRv.sl {base : Nat} {H : AHeap} {v : AV} {L : List (List Int)} {cl l : List Cel} (h : PRv v L cl) (hp : Hp base H l) (hsub : ∀ x ∈ cl,x ∈ l) : IsSl IsInts H v L := by
 rcases h with ⟨rfl,rfl,_⟩ | ⟨b,M,hne,rfl,rfl,rfl⟩
 ·exact .inl ⟨rfl,rfl⟩
 ·obtain ⟨B,r,e⟩ := hp.rowOf (hsub ⟨b,1,heads M⟩ (List.mem_cons_self ..))
  refine .inr ⟨b,0,M.length,B,by simp,r,fun i x hx => ?_⟩
  obtain ⟨y,hy,rfl⟩ : ∃ y,M[i]? = some y /\ y.2 = x := by
   rw [List.getElem?_map] at hx
   cases hM : M[i]? with
   | none => rw [hM] at hx; simp at hx
   | some y => rw [hM] at hx; exact ⟨y,rfl,by simpa using hx⟩
  refine ⟨.slc y.1 0 y.2.length y.2.length,by rw [e,Nat.zero_add]; simp [heads,hy],?_⟩
  obtain ⟨B2,r2,e2⟩ := hp.rowOf (hsub ⟨y.1,1,ints y.2⟩ (List.mem_cons_of_mem _ (List.mem_map.2 ⟨y,List.mem_of_getElem? hy,rfl⟩)))
  refine .inr ⟨y.1,0,y.2.length,B2,rfl,r2,fun j z hz => ⟨.int .i64 z,?_,rfl⟩⟩
  rw [e2,Nat.zero_add,List.getElem?_map,hz]; rfl
def EOk (e : PEv) : Prop := e.L.length <= 16 /\ ∀ x ∈ e.L,x.length <= 8
def TOk (s : PSt) : Prop := ∀ e ∈ s.told,EOk e
section
variable {Q : Prog} (eq : EvQ Q) {base : Nat} {H : AHeap} {p : Nat} {s : PSt} {l : List Cel}
include eq
set_option maxHeartbeats 2000000 in
theorem new_spec (q13 : Q.fns 21 = some A21) (h : Hp base H l) : FnTo Q 21 [] H (fun r H' => ∃ p,r = .ptr p 0 /\ Par base H' p PSt.new l /\ Keep base H H') := by
 refine fn_wp (eq.ho 21 rfl _) q13 (by simp [A21]) ?_
 obtain ⟨H1,s1,g1,k1⟩ := h.make zero15 1
 have hb : boxV (.agg zero15) = some (.row ⟨zero15,0,false,true,0⟩,.ptr) := rfl
 have hz : [AV.int .i64 0,.int .i64 0,.int .u8 0,.int .u8 0,.int .i32 0,.int .i64 0,.nils,.bool false,.bool false,.str [],.bool false,.int .u8 0,.nils,.bool false,.nils] = zero15 := rfl
 simp only [A21,hz,hb,s1,SX,↓reduceIte]
 exact ⟨_,rfl,par_new g1,k1⟩
set_option maxHeartbeats 4000000 in
theorem next_spec (h : Par base H p s l) : FnTo Q 23 [.ptr p 0] H (fun r H' => Keep base H H' /\ ((s.told = [] /\ r = .tup [.agg zeroE,.bool false] /\ Par base H' p s l) \/ ∃ (a : EvC) (rest : List PEv),s.told = a.1.pure :: rest /\ PRv a.1.v a.1.L a.2 /\ r = .tup [a.1.val,.bool true] /\ Par base H' p { s with told := rest } (a.2 ++ l))) := by
 refine fn_wp (eq.ho 23 rfl _) eq.q22 (by simp [A23]) ?_
 obtain ⟨C,ok,hp⟩ := h
 obtain ⟨H1,s1,g1,k1⟩ := hp.make zeroE 6
 have l14 := g1.load (b := p) (k := 1) (cs := pcs s C.lv C.xv C.tv) (by simp) (o := 14) rfl
 have ln := ok.t.len H1
 have hlen : C.E.length = s.told.length := by rw [<- ok.e]; simp
 have gz : Hp base H1 (⟨H.next,6,zeroE⟩ :: ⟨p,1,pcs s C.lv C.xv C.tv⟩ :: C.rest l) := g1
 cases hE : C.E with
 | nil =>
  rw [hE] at ln
  obtain ⟨H2,s2,g2,k2,n2⟩ := gz.storeN (n := 6) (new := zeroE) rfl rfl rfl
  have l2 := g2.loadN (b := H.next) (k := 6) (cs := zeroE) (List.mem_cons_self ..) (n := 6) rfl
  have c0 : decide ((([] : List EvC).length : Int) = 0) = true := rfl
  simp only [A23,hzE,run_allocL,s1,l14,ln,c0,run_build0,s2,l2,resVal,resVals,ARes.val,SX,reduceCtorEq,Nat.reduceEqDiff,↓reduceIte]
  refine ⟨k1.trans k2,.inl ⟨?_,⟨C,ok,g2.drop⟩⟩⟩
  rw [<- ok.e,hE]; rfl
 | cons a E =>
  have ht := ok.t
  rw [hE] at ln ht
  rcases ht with ⟨h1,_,_⟩ | ⟨b,pre,htv,htc⟩
  ·cases h1
  have c0 : decide (((a :: E).length : Int) = 0) = false := by simp only [List.length_cons,decide_eq_false_iff_not]; omega
  have hmem : ∀ x ∈ C.tcl,x ∈ (⟨H.next,6,zeroE⟩ : Cel) :: ⟨p,1,pcs s C.lv C.xv C.tv⟩ :: C.rest l := fun x hx => List.mem_cons_of_mem _ (List.mem_cons_of_mem _ (List.mem_append_right _ (List.mem_append_right _ (List.mem_append_left _ hx))))
  have xi : idxSV 6 C.tv (.int .i64 0) = some (at6 C.tv 0) := by
   have := ok.t.at (i := 0) (by rw [hE]; simp)
   exact this
  obtain ⟨H2,s2,g2,k2⟩ := gz.make zeroE 6
  have la := ok.t.get gz hmem (i := 0) (a := a) (by rw [hE]; rfl)
  obtain ⟨H3,s3,g3,k3,n3⟩ := g2.storeN (n := 6) (new := a.1.cs) rfl rfl (by
   have h1 := (ok.ev a (by rw [hE]; exact List.mem_cons_self ..)).one
   simp only [Ev.cs,List.all_cons,List.all_nil,h1]; rfl)
  have s3 : storeE H2 6 (.ptr H1.next 0) a.1.val = some (.undef,H3) := s3
  have l14' := g3.load (b := p) (k := 1) (cs := pcs s C.lv C.xv C.tv) (by simp) (o := 14) rfl
  have hsl : slSV H3 6 C.tv (some (.int .i64 1)) Option.none = some (.slc b (pre.length + 6) E.length E.length) := by
   obtain ⟨es,ty,h1,h2⟩ := g3.has ⟨b,6,pre ++ flatV (a :: E)⟩ (by
    refine List.mem_cons_of_mem _ (List.mem_cons_of_mem _ (List.mem_cons_of_mem _ ?_))
    refine List.mem_append_right _ (List.mem_append_right _ (List.mem_append_left _ ?_))
    rw [htc]; exact List.mem_cons_self ..)
   simp only at h1 h2
   rw [htv]
   simp only [slSV,ROp.run,Opd.ev,Option.map_some,Option.map_none,bounds,bound,if_pos (show (0 : Int) <= 1 /\ (1 : Int) <= (((a :: E).length : Nat) : Int) by simp only [List.length_cons]; omega),h1,if_pos h2]
   simp
  obtain ⟨H4,s4,g4,k4,n4⟩ := (g3.re (l' := ⟨p,1,pcs s C.lv C.xv C.tv⟩ :: ⟨H.next,6,zeroE⟩ :: ⟨H1.next,6,a.1.cs⟩ :: C.rest l) fun x => by simp only [cnt_cons]; omega).store (o := 14) (v := .slc b (pre.length + 6) E.length E.length) rfl (by simp [pcs,DSt.cs])
  have l6 : loadV H4 (some 6) (.ptr H1.next 0) = some a.1.val := g4.loadN (b := H1.next) (k := 6) (cs := a.1.cs) (by simp) (n := 6) rfl
  obtain ⟨H5,s5,g5,k5,n5⟩ := (g4.swap).storeN (n := 6) (new := a.1.cs) rfl rfl (by
   have h1 := (ok.ev a (by rw [hE]; exact List.mem_cons_self ..)).one
   simp only [Ev.cs,List.all_cons,List.all_nil,h1]; rfl)
  have s5 : storeE H4 6 (.ptr H.next 0) a.1.val = some (.undef,H5) := s5
  have l7 : loadV H5 (some 6) (.ptr H.next 0) = some a.1.val := g5.loadN (List.mem_cons_self ..) rfl
  simp only [A23,hzE,run_allocL,s1,l14,ln,c0,s2,xi,la,s3,l14',hsl,s4,l6,s5,l7,resVal,resVals,ARes.val,SX,reduceCtorEq,Nat.reduceEqDiff,↓reduceIte]
  refine ⟨((((k1.trans k2).trans k3).trans k4).trans k5),.inr ⟨a,E.map (fun a => a.1.pure),?_,ok.ev a (by rw [hE]; exact List.mem_cons_self ..),rfl,?_⟩⟩
  ·rw [<- ok.e,hE]; rfl
  ·refine ⟨{ C with tv := .slc b (pre.length + 6) E.length E.length,tcl := ⟨b,6,(pre ++ a.1.cs) ++ flatV E⟩ :: flatC E,E := E },⟨ok.l,ok.x,.inr ⟨b,pre ++ a.1.cs,by rw [List.length_append]; rfl,rfl⟩,rfl,fun x hx => ok.ev x (by rw [hE]; exact List.mem_cons_of_mem _ hx)⟩,?_⟩
   have g6 : Hp base H5 (⟨p,1,(pcs s C.lv C.xv C.tv).set 14 (.slc b (pre.length + 6) E.length E.length)⟩ :: ⟨H1.next,6,a.1.cs⟩ :: C.rest l) := g5.drop
   have g7 := g6.swap.drop
   refine Hp.re g7 fun x => ?_
   have e1 : (pcs s C.lv C.xv C.tv).set 14 (.slc b (pre.length + 6) E.length E.length) = pcs { s with told := E.map (fun a => a.1.pure) } C.lv C.xv (.slc b (pre.length + 6) E.length E.length) := rfl
   have e2 : flatC (a :: E) = a.2 ++ flatC E := by simp [flatC]
   have e3 : pre ++ flatV (a :: E) = (pre ++ a.1.cs) ++ flatV E := by simp [flatV]
   rw [e1]
   simp only [PC.rest,htc,e2,e3,cnt_cons,cnt_append]
   omega
end
def PSt.pre (T : List PEv) (s : PSt) : PSt := { s with told := T ++ s.told }
theorem pre_endS (T : List PEv) (s : PSt) : (s.pre T).endS = s.endS.pre T := by
 unfold PSt.endS
 by_cases h : s.d.kept = 0
 ·rw [if_pos h,if_pos (show (s.pre T).d.kept = 0 from h)]
 ·rw [if_neg h,if_neg (show ¬ (s.pre T).d.kept = 0 from h)]
  simp [PSt.pre]
theorem pre_tell (T : List PEv) (s : PSt) (e : PEv) : (s.pre T).tell e = (s.tell e).pre T := by simp [PSt.pre,PSt.tell]
theorem pre_stopS (T : List PEv) (s : PSt) (c : UInt8) : (s.pre T).stopS c = (s.stopS c).pre T := by
 unfold PSt.stopS
 by_cases h1 : c = 24 \/ c = 26 \/ s.long = true
 ·rw [if_pos h1,if_pos (show c = 24 \/ c = 26 \/ (s.pre T).long = true from h1)]
 ·rw [if_neg h1,if_neg (show ¬ (c = 24 \/ c = 26 \/ (s.pre T).long = true) from h1)]
  by_cases h2 : s.st = 12
  ·rw [if_pos h2,if_pos (show (s.pre T).st = 12 from h2),<- pre_tell]; rfl
  ·rw [if_neg h2,if_neg (show ¬ (s.pre T).st = 12 from h2)]
   by_cases h3 : s.many = true
   ·rw [if_pos h3,if_pos (show (s.pre T).many = true from h3)]
   ·rw [if_neg h3,if_neg (show ¬ (s.pre T).many = true from h3),<- pre_tell]; rfl
theorem pre_clrS (T : List PEv) (s : PSt) : (s.pre T).clrS = s.clrS.pre T := rfl
theorem pre_overS (T : List PEv) (s : PSt) (a : Int) (c : UInt8) : (s.pre T).overS a c = (s.overS a c).pre T := by
 unfold PSt.overS
 by_cases h1 : s.many = true \/ (a = 5 /\ c = 92 /\ s.mids = [])
 ·rw [if_pos h1,if_pos (show (s.pre T).many = true \/ (a = 5 /\ c = 92 /\ (s.pre T).mids = []) from h1)]
 ·rw [if_neg h1,if_neg (show ¬ ((s.pre T).many = true \/ (a = 5 /\ c = 92 /\ (s.pre T).mids = [])) from h1)]
  by_cases h2 : a = 5
  ·rw [if_pos h2,if_pos h2,<- pre_tell]; rfl
  ·rw [if_neg h2,if_neg h2,<- pre_tell]; rfl
theorem pre_midS (T : List PEv) (s : PSt) (c : UInt8) : (s.pre T).midS c = (s.midS c).pre T := by
 unfold PSt.midS
 by_cases h1 : s.many = true \/ s.mids.length = 2
 ·rw [if_pos h1,if_pos (show (s.pre T).many = true \/ (s.pre T).mids.length = 2 from h1)]; rfl
 ·rw [if_neg h1,if_neg (show ¬ ((s.pre T).many = true \/ (s.pre T).mids.length = 2) from h1)]; rfl
theorem pre_putS (T : List PEv) (s : PSt) (c : UInt8) : (s.pre T).putS c = (s.putS c).pre T := by
 unfold PSt.putS
 by_cases h1 : s.long = true \/ s.text.length = (if s.st = 12 then 1024 else 256)
 ·rw [if_pos h1,if_pos (show (s.pre T).long = true \/ (s.pre T).text.length = (if (s.pre T).st = 12 then 1024 else 256) from h1)]; rfl
 ·rw [if_neg h1,if_neg (show ¬ ((s.pre T).long = true \/ (s.pre T).text.length = (if (s.pre T).st = 12 then 1024 else 256)) from h1)]; rfl
theorem pre_prints (T : List PEv) (s : PSt) (xs : List Int) : (s.pre T).prints xs = (s.prints xs).pre T := by simp [PSt.pre,PSt.prints]
theorem pre_doesS (T : List PEv) (s : PSt) (a : Int) (c : UInt8) : (s.pre T).doesS a c = (s.doesS a c).pre T := by
 unfold PSt.doesS
 by_cases h1 : a = 1
 ·rw [if_pos h1,if_pos h1,<- pre_prints]; rfl
 rw [if_neg h1,if_neg h1]
 by_cases h2 : a = 2
 ·rw [if_pos h2,if_pos h2,pre_tell]
 rw [if_neg h2,if_neg h2]
 by_cases h3 : a = 3
 ·rw [if_pos h3,if_pos h3,pre_midS]
 rw [if_neg h3,if_neg h3]
 by_cases h4 : a = 4
 ·rw [if_pos h4,if_pos h4]; rfl
 rw [if_neg h4,if_neg h4]
 by_cases h5 : a = 5
 ·rw [if_pos h5,if_pos h5,pre_overS]
 rw [if_neg h5,if_neg h5]
 by_cases h6 : a = 6
 ·rw [if_pos h6,if_pos h6,pre_overS]
 rw [if_neg h6,if_neg h6]
 by_cases h7 : a = 7
 ·rw [if_pos h7,if_pos h7]; rfl
 rw [if_neg h7,if_neg h7]
 by_cases h8 : a = 8
 ·rw [if_pos h8,if_pos h8,pre_putS]
 ·rw [if_neg h8,if_neg h8]
theorem pre_step (T : List PEv) (s : PSt) (c : UInt8) : (s.pre T).step c = (s.step c).pre T := by
 have e1 : (s.pre T).step1 c = (s.step1 c).pre T := by
  unfold PSt.step1
  by_cases h : (nx s.st c.toNat).1 ≠ 1
  ·rw [if_pos h,if_pos (show (nx (s.pre T).st c.toNat).1 ≠ 1 from h),pre_endS]
  ·rw [if_neg h,if_neg (show ¬ (nx (s.pre T).st c.toNat).1 ≠ 1 from h)]
 have e2 : ∀ (s : PSt) n,(s.pre T).step2 n c = (s.step2 n c).pre T := by
  intro s n
  unfold PSt.step2
  by_cases h : n ≠ s.st /\ (s.st = 10 \/ s.st = 12)
  ·rw [if_pos h,if_pos (show n ≠ (s.pre T).st /\ ((s.pre T).st = 10 \/ (s.pre T).st = 12) from h),pre_stopS]
  ·rw [if_neg h,if_neg (show ¬ (n ≠ (s.pre T).st /\ ((s.pre T).st = 10 \/ (s.pre T).st = 12)) from h)]
 have e3 : ∀ (s : PSt) n,(s.pre T).step3 n = (s.step3 n).pre T := by
  intro s n
  unfold PSt.step3
  by_cases h : n ≠ s.st /\ (n = 1 \/ n = 3 \/ n = 7 \/ n = 12)
  ·rw [if_pos h,if_pos (show n ≠ (s.pre T).st /\ (n = 1 \/ n = 3 \/ n = 7 \/ n = 12) from h),pre_clrS]
  ·rw [if_neg h,if_neg (show ¬ (n ≠ (s.pre T).st /\ (n = 1 \/ n = 3 \/ n = 7 \/ n = 12)) from h)]
 unfold PSt.step
 have hst : (s.pre T).st = s.st := rfl
 rw [hst,e1,e2,e3,pre_doesS]
 rfl
theorem pre_feed (T : List PEv) : ∀ (t : List UInt8) (s : PSt),(s.pre T).feed t = (s.feed t).pre T
 | [],s => rfl
 | c :: t,s => by
  show ((s.pre T).step c).feed t = ((s.step c).feed t).pre T
  rw [pre_step,pre_feed T t]
theorem feed_app (s : PSt) (a b : List UInt8) : s.feed (a ++ b) = (s.feed a).feed b := by simp [PSt.feed]
end Go.Proofs.YtfbcgjpblomckaaDoor.AM.EvN
