import Derived.Test.YtfbcgjpblomckaaDoorAmSl
import Derived.Test.YtfbcgjpblomckaaDoorCode
import Derived.Test.YtfbcgjpblomckaaDoorLaid
set_option linter.unusedVariables false
set_option linter.unusedSimpArgs false
namespace Go.Proofs.YtfbcgjpblomckaaDoor.AM
open Go
structure AtQ (Q : Prog) : Prop where
 q15 : Q.fns 68 = some A68
 q29 : Q.fns 83 = some A83
 q30 : Q.fns 84 = some A84
 q31 : Q.fns 85 = some A85
 q32 : Q.fns 86 = some A86
 q48 : Q.fns 91 = some A91
 ho : ∀ f,Nat.beq f 10 = false -> ∀ a,Q.orc f a = Option.none
theorem resNil (e : Env) (H : AHeap) : resVal e H [] = some (.tup []) := rfl
theorem ex0 (a b : AV) : extractV 0 (.tup [a,b]) = some a := rfl
theorem ex1 (a b : AV) : extractV 1 (.tup [a,b]) = some b := rfl
theorem ex30 (a b c : AV) : extractV 0 (.tup [a,b,c]) = some a := rfl
theorem ex31 (a b c : AV) : extractV 1 (.tup [a,b,c]) = some b := rfl
theorem ex32 (a b c : AV) : extractV 2 (.tup [a,b,c]) = some c := rfl
theorem wantV_undef (b : Bool) : wantV .undef b = false := rfl
abbrev ints (l : List Int) : List AV := l.map (.int .i64)
def OwnI (base : Nat) (H : AHeap) (v : AV) (l : List Int) (rest : List Cel) : Prop :=
 (l = [] /\ v = .nils /\ Hp base H rest) \/ ∃ b,v = .slc b 0 l.length l.length /\ Hp base H (⟨b,1,ints l⟩ :: rest)
theorem OwnI.isS {base : Nat} {H : AHeap} {v : AV} {l : List Int} {rest : List Cel} (h : OwnI base H v l rest) : IsS IsI H v l := by
 rcases h with ⟨rfl,rfl,_⟩ | ⟨b,rfl,h⟩
 ·exact .inl ⟨rfl,rfl⟩
 ·exact h.isS (List.mem_cons_self ..) (Nat.le_refl _) fun i x hx => ⟨_,by rw [List.getElem?_map,hx]; rfl,rfl⟩
theorem OwnI.hp {base : Nat} {H : AHeap} {v : AV} {l : List Int} {rest : List Cel} (h : OwnI base H v l rest) : Hp base H rest := by
 rcases h with ⟨_,_,h⟩ | ⟨b,_,h⟩
 ·exact h
 ·exact h.drop
theorem OwnI.push {base : Nat} {H : AHeap} {v : AV} {l : List Int} {rest : List Cel} (h : OwnI base H v l rest) (hl : l.length <= 1000000) (x : Int) :
  ∃ H1 H2 w,H.alloc (.row ⟨[.int .i64 x],0,false,true,0⟩) = H1 /\ appendE H1 1 8 v (.slc H.next 0 1 1) = some (w,H2) /\ OwnI base H2 w (l ++ [x]) rest /\ Keep base H H2 := by
 obtain ⟨H1,s1,h1,k1⟩ := h.hp.make [.int .i64 x] 1
 rcases h with ⟨rfl,rfl,h⟩ | ⟨b,rfl,h⟩
 ·obtain ⟨B,r1,c1⟩ := h1.rowOf (cs := [.int .i64 x]) (List.mem_cons_self ..)
  obtain ⟨H2,s2,h2,k2⟩ := h1.append0 (bytes := 8) (o2 := 0) (c2 := 1) (v := .int .i64 x) r1 (by rw [c1]; rfl) rfl (by omega) (by omega)
  exact ⟨H1,H2,_,s1,s2,.inr ⟨H1.next,rfl,h2.swap.drop⟩,k1.trans k2⟩
 ·obtain ⟨H1',s1',h1',k1'⟩ := h.make [.int .i64 x] 1
  obtain rfl := s1.symm.trans s1'
  obtain ⟨B,r1,c1⟩ := h1'.rowOf (cs := [.int .i64 x]) (List.mem_cons_self ..)
  obtain ⟨H2,s2,h2,k2⟩ := (Hp.swap h1').append1 (bytes := 8) (o2 := 0) (c2 := 1) (v := .int .i64 x) (n := l.length) (by simp) r1 (by rw [c1]; rfl) rfl (by omega) (by omega)
  refine ⟨H1,H2,_,s1,s2,.inr ⟨H1.next,by simp,?_⟩,k1.trans k2⟩
  have e : ints (l ++ [x]) = ints l ++ [.int .i64 x] := by simp
  rw [e]
  exact h2.swap.drop
abbrev IsL (H : AHeap) (v : AV) (L : List (List Int)) : Prop := IsS IsIs H v L
theorem IsL.grow {H H' : AHeap} {v : AV} {L : List (List Int)} (h : IsL H v L) (hf : Fr H) (g : Gr H H') : IsL H' v L := IsS.grow h (fun x c hx => IsIs.grow hf g x c hx) hf g
def fst0 (p : List Int) : Int := p.headD 0
section
variable {Q : Prog} (aq : AtQ Q) {H : AHeap}
include aq
set_option maxHeartbeats 4000000 in
theorem firsts_spec {v : AV} {L : List (List Int)} (hv : IsL H v L) (hL : L.length <= 100000) (hf : Fr H) : FnTo Q 83 [v] H (fun r H' => OwnI H.next H' r (L.map fst0) [] /\ Gr H H') := by
 refine fn_wp (aq.ho 83 rfl _) aq.q29 (by simp [A83]) ?_
 have lv := hv.len
 simp only [A83,lv,SX,reduceCtorEq,↓reduceIte]
 obtain ⟨I,hI⟩ : ∃ I : Nat -> Env -> AHeap -> Prop,∀ m e H',I m e H' ↔ (Gr H H' /\ ∃ (i : Nat) (w : AV),m = L.length - i /\ i <= L.length /\ OwnI H.next H' w ((L.take i).map fst0) [] /\ Env.get e 3 = w /\ Env.get e 7 = v /\ Env.get e 8 = .int .i64 L.length /\ Env.get e 9 = .int .i64 i) := ⟨_,fun _ _ _ => Iff.rfl⟩
 refine loop_by I L.length ?_ ?_
 ·refine (hI _ _ _).2 ⟨Gr.refl hf,0,.nils,rfl,by omega,.inl ⟨rfl,rfl,Hp.nil H hf⟩,?_⟩
  simp only [SX,Nat.reduceEqDiff,↓reduceIte]; rfl
 ·intro m e H1 hinv
  obtain ⟨g1,i,w,rfl,hi,own,e3,e7,e8,e9⟩ := (hI _ _ _).1 hinv
  by_cases d : (i : Int) < L.length
  ·obtain ⟨p,hp⟩ : ∃ p,L[i]? = some p := ⟨_,List.getElem?_eq_getElem (by omega)⟩
   have hv1 := hv.grow hf g1
   have xi := hv1.at (i := (i : Int)) (by omega) (by omega) .i64
   obtain ⟨c,lc,hc⟩ := hv1.get (i := (i : Int)) (a := p) (by simpa using hp)
   have lp := IsS.len hc
   have w1 : IntKind.wrap .i64 ((i : Int) + 1) = ((i + 1 : Nat) : Int) := by rw [wrapI64 (by omega) (by omega)]; rfl
   have htk : ∀ x,fst0 p = x -> (L.take (i + 1)).map fst0 = (L.take i).map fst0 ++ [x] := fun x hx => by rw [List.take_add_one,hp,<- hx]; simp
   have hlen : ((L.take i).map fst0).length <= 1000000 := by simp; omega
   have fin : ∀ (x : Int) (H2 : AHeap) (w2 : AV) (e' : Env),fst0 p = x -> Keep H.next H1 H2 -> OwnI H.next H2 w2 ((L.take i).map fst0 ++ [x]) [] -> (Env.get e' 3 = w2 /\ Env.get e' 7 = v /\ Env.get e' 8 = .int .i64 L.length /\ Env.get e' 9 = .int .i64 ((i + 1 : Nat) : Int)) -> ∃ m',m' < L.length - i /\ I m' e' H2 := by
    intro x H2 w2 e' hx k2 own2 he
    exact ⟨L.length - (i + 1),by omega,(hI _ _ _).2 ⟨own2.hp.gr (g1.keep.trans k2),i + 1,w2,rfl,by omega,by rw [htk x hx]; exact own2,he⟩⟩
   cases p with
   | nil =>
    obtain ⟨H2,H3,w2,s2,s3,own2,k2⟩ := own.push hlen 0
    have d0 : decide ((0 : Int) < (([] : List Int).length : Nat)) = false := rfl
    simp only [e3,e7,e8,e9,d,xi,lc,lp,d0,s2,s3,w1,SX,Nat.reduceEqDiff,↓reduceIte]
    refine fin 0 _ _ _ rfl k2 own2 ?_
    simp only [e7,e8,SX,Nat.reduceEqDiff,↓reduceIte]
   | cons a p =>
    obtain ⟨H2,H3,w2,s2,s3,own2,k2⟩ := own.push hlen a
    have d0 : decide ((0 : Int) < ((a :: p).length : Nat)) = true := by simp
    have x0 := IsS.at hc (i := 0) (by omega) (by simp) .i64
    have l0 := IsS.int hc (i := 0) (a := a) rfl
    simp only [e3,e7,e8,e9,d,xi,lc,lp,d0,x0,l0,s2,s3,w1,SX,Nat.reduceEqDiff,↓reduceIte]
    refine fin a _ _ _ rfl k2 own2 ?_
    simp only [e7,e8,SX,Nat.reduceEqDiff,↓reduceIte]
  ·simp only [e3,e8,e9,d,SX,Nat.reduceEqDiff,↓reduceIte]
   rw [List.take_of_length_le (by omega)] at own
   exact ⟨own,g1⟩
end
def wantN (a : Int) : Nat := if a = 5 then 2 else if a = 2 then 4 else 0
def inB (n : Int) : Prop := 0 <= n /\ n <= 255
instance (n : Int) : Decidable (inB n) := inferInstanceAs (Decidable (_ /\ _))
def acc8 (xs : List Int) : Int := xs.foldl (fun N n => N * 256 + n) 0
structure Co where
 k : Int
 n : Int
 ok : Bool
def Co.no : Co := ⟨0,0,false⟩
def paintP : List Int -> Co
 | [] => Co.no
 | a :: t => if wantN a = 0 \/ (a :: t).length < wantN a then Co.no else if ∀ x ∈ t.take (wantN a - 1),inB x then ⟨if a = 2 then 2 else 1,acc8 (t.take (wantN a - 1)),true⟩ else Co.no
def colM : List (AV × AV) := [(.int .i64 5,.int .i64 2),(.int .i64 2,.int .i64 4)]
theorem paintP_cons (a : Int) (t : List Int) : paintP (a :: t) = if wantN a = 0 \/ (a :: t).length < wantN a then Co.no else if ∀ x ∈ t.take (wantN a - 1),inB x then ⟨if a = 2 then 2 else 1,acc8 (t.take (wantN a - 1)),true⟩ else Co.no := rfl
theorem upd0 {H : AHeap} {m : Nat} (h : H.get m = some (.map [])) : mapUpdE H 1 (.map m) (.int .i64 5) (.int .i64 2) = some (.undef,H.set m (.map [(.int .i64 5,.int .i64 2)])) := by
 simp [mapUpdE,EOp.run,Opd.ev,h,isKind,findKey]
theorem upd1 {H : AHeap} {m : Nat} (h : H.get m = some (.map [(.int .i64 5,.int .i64 2)])) : mapUpdE H 1 (.map m) (.int .i64 2) (.int .i64 4) = some (.undef,H.set m (.map colM)) := by
 simp [mapUpdE,EOp.run,Opd.ev,h,isKind,findKey,keyEq,colM]
theorem look {H : AHeap} {m : Nat} (h : H.get m = some (.map colM)) (a : Int) : lookupV H 1 [.int .i64 0] false (.map m) (.int .i64 a) false = some (.int .i64 (wantN a : Int)) := by
 simp only [lookupV,ROp.run,Opd.ev,isKind,mapOf,h,colM,findKey,keyEq,if_true,Bool.not_true,Bool.false_eq_true,if_false]
 by_cases h5 : a = 5
 ·subst h5; rfl
 ·have e5 : (a == 5) = false := by simpa using h5
  by_cases h2 : a = 2
  ·subst h2; rfl
  ·have e2 : (a == 2) = false := by simpa using h2
   simp only [e5,e2,wantN,if_neg h5,if_neg h2]
   rfl
theorem wrapU32 {x : Int} (h0 : 0 <= x) (h1 : x <= 4294967295) : IntKind.wrap .u32 x = x := by
 simp only [IntKind.wrap,IntKind.signed,IntKind.bits]
 simp
 omega
theorem shl8 {x : Int} (k : IntKind) : binV .shl (.int .u32 x) (.int k 8) = some (.int .u32 (IntKind.wrap .u32 (x * 256))) := rfl
theorem or8 {x y : Int} (h0 : 0 <= x) (h1 : x < 16777216) (h2 : 0 <= y) (h3 : y < 256) : binV .or (.int .u32 (x * 256)) (.int .u32 y) = some (.int .u32 (x * 256 + y)) := by
 obtain ⟨n,rfl⟩ : ∃ n : Nat,x = n := ⟨x.toNat,by omega⟩
 obtain ⟨k,rfl⟩ : ∃ k : Nat,y = k := ⟨y.toNat,by omega⟩
 have e1 : (BitVec.ofInt 32 ((n : Int) * 256)).toNat = n * 256 := by
  rw [show (n : Int) * 256 = ((n * 256 : Nat) : Int) by omega,BitVec.ofInt_natCast,BitVec.toNat_ofNat]
  exact Nat.mod_eq_of_lt (by omega)
 have e2 : (BitVec.ofInt 32 (k : Int)).toNat = k := by
  rw [BitVec.ofInt_natCast,BitVec.toNat_ofNat]
  exact Nat.mod_eq_of_lt (by omega)
 have e3 : (n * 256) ||| k = n * 256 + k := by
  have := Nat.two_pow_add_eq_or_of_lt (b := k) (i := 8) (by omega) n
  rw [Nat.mul_comm n 256]
  exact this.symm
 have e : binV .or (.int .u32 ((n : Int) * 256)) (.int .u32 (k : Int)) = some (.int .u32 (IntKind.wrap .u32 (((BitVec.ofInt 32 ((n : Int) * 256) ||| BitVec.ofInt 32 (k : Int)).toNat : Nat) : Int))) := rfl
 rw [e,BitVec.toNat_or,e1,e2,e3,wrapU32 (by omega) (by omega)]
 simp
theorem acc8_le : ∀ {xs : List Int},(∀ x ∈ xs,inB x) -> ∀ {N B : Int},0 <= N -> N < B -> 0 <= xs.foldl (fun N n => N * 256 + n) N /\ xs.foldl (fun N n => N * 256 + n) N < B * 256 ^ xs.length
 | [],_,N,B,h0,h1 => by simp; omega
 | x :: xs,h,N,B,h0,h1 => by
  obtain ⟨x0,x1⟩ := h x (List.mem_cons_self ..)
  have := acc8_le (xs := xs) (fun y hy => h y (List.mem_cons_of_mem _ hy)) (N := N * 256 + x) (B := 256 * B) (by omega) (by omega)
  simp only [List.foldl_cons,List.length_cons]
  rw [Int.pow_succ,Int.mul_comm (256 ^ xs.length) 256,<- Int.mul_assoc,Int.mul_comm B 256]
  exact this
def Co.col (c : Co) : AV := .agg [.int .u8 c.k,.int .u32 c.n]
theorem bld1 (k : Int) : buildV [AV.int .u8 0,.int .u32 0] [(0,1,.int .u8 k)] = some (.agg [.int .u8 k,.int .u32 0]) := rfl
section
variable {Q : Prog} (aq : AtQ Q) {H : AHeap}
include aq
set_option maxHeartbeats 8000000 in
theorem paint_spec {v : AV} {l : List Int} (hv : IsS IsI H v l) (hl : l.length <= 1000000) (hf : Fr H) : FnTo Q 91 [v] H (fun r H' => r = .tup [(paintP l).col,.bool (paintP l).ok] /\ Gr H H') := by
 refine fn_wp (aq.ho 91 rfl _) aq.q48 (by simp [A91]) ?_
 obtain ⟨H1,s1,h1,k1⟩ := (Hp.nil H hf).make [.int .u8 0,.int .u32 0] 2
 obtain ⟨H2,s2,h2,k2,m2,n2⟩ := h1.allocM []
 have u0 := upd0 m2
 obtain ⟨h3,k3,m3⟩ := h2.setM (es := [(.int .i64 5,.int .i64 2)]) m2 h1.bn
 obtain ⟨H3,e3⟩ : ∃ H3,H2.set H1.next (.map [(.int .i64 5,.int .i64 2)]) = H3 := ⟨_,rfl⟩
 rw [e3] at u0 h3 k3 m3
 have u1 := upd1 m3
 obtain ⟨h4,k4,m4⟩ := h3.setM (es := colM) m3 h1.bn
 have nx4 : (H3.set H1.next (.map colM)).next = H1.next + 1 := by rw [AHeap.next_set,<- e3,AHeap.next_set]; exact n2
 obtain ⟨H4,e4⟩ : ∃ H4,H3.set H1.next (.map colM) = H4 := ⟨_,rfl⟩
 rw [e4] at u1 h4 k4 m4 nx4
 have gr4 : Gr H H4 := h4.gr (((k1.trans k2).trans k3).trans k4)
 have hv4 : IsS IsI H4 v l := hv.grow (fun _ _ h => h) hf gr4
 have lv4 := hv4.len
 have fin : ∀ (co : Co) (H' : AHeap) (l' : List Cel),Gr H4 H' -> Hp H4.next H' l' -> ∃ H'',storeE H' 2 (.ptr H.next 0) co.col = some (.undef,H'') /\ loadV H'' (some 2) (.ptr H.next 0) = some co.col /\ Gr H H'' := by
  intro co H' l' g h'
  have hj := (h4.joinG g h').perm List.perm_append_comm
  obtain ⟨H'',s,hh,k,n⟩ := Hp.storeN (l := l') hj (n := 2) (new := [.int .u8 co.k,.int .u32 co.n]) rfl rfl rfl
  exact ⟨H'',s,hh.loadN (List.mem_cons_self ..) rfl,hh.gr ((gr4.keep.trans (g.keep.le gr4.next)).trans k)⟩
 have no0 : AV.agg [.int .u8 0,.int .u32 0] = Co.no.col := rfl
 cases l with
 | nil =>
  obtain ⟨H5,s5,l5,g5⟩ := fin Co.no H4 [] (Gr.refl h4.fr) (Hp.nil H4 h4.fr)
  have d0 : decide ((([] : List Int).length : Int) = 0) = true := rfl
  simp only [A91,run_allocL,run_mkMap,val_map,wp_mapUpd,run_build0,s1,s2,u0,u1,lv4,d0,no0,s5,l5,resVal,resVals,ARes.val,SX,reduceCtorEq,Nat.reduceEqDiff,↓reduceIte]
  exact ⟨rfl,g5⟩
 | cons a t =>
  have x0 := hv4.at (i := 0) (by omega) (by simp) .i64
  have l0 := hv4.int (i := 0) (a := a) rfl
  have lk := look m4 a
  have d0 : decide (((a :: t).length : Int) = 0) = false := by simp only [List.length_cons,decide_eq_false_iff_not]; omega
  by_cases c1 : (a :: t).length < wantN a
  ·have hp : paintP (a :: t) = Co.no := by rw [paintP_cons,if_pos (.inr c1)]
   obtain ⟨H5,s5,l5,g5⟩ := fin Co.no H4 [] (Gr.refl h4.fr) (Hp.nil H4 h4.fr)
   have d1 : decide (((a :: t).length : Int) < (wantN a : Int)) = true := by simp only [decide_eq_true_eq]; omega
   simp only [A91,run_allocL,run_mkMap,val_map,wp_mapUpd,run_lookup,run_build0,s1,s2,u0,u1,lv4,d0,x0,l0,lk,d1,no0,s5,l5,resVal,resVals,ARes.val,SX,reduceCtorEq,Nat.reduceEqDiff,↓reduceIte]
   rw [hp]; exact ⟨rfl,g5⟩
  have d1 : decide (((a :: t).length : Int) < (wantN a : Int)) = false := by simp only [decide_eq_false_iff_not]; omega
  by_cases c2 : wantN a = 0
  ·have hp : paintP (a :: t) = Co.no := by rw [paintP_cons,if_pos (.inl c2)]
   obtain ⟨H5,s5,l5,g5⟩ := fin Co.no H4 [] (Gr.refl h4.fr) (Hp.nil H4 h4.fr)
   have d2 : decide ((wantN a : Int) = 0) = true := by simp only [decide_eq_true_eq]; omega
   simp only [A91,run_allocL,run_mkMap,val_map,wp_mapUpd,run_lookup,run_build0,s1,s2,u0,u1,lv4,d0,x0,l0,lk,d1,d2,no0,s5,l5,resVal,resVals,ARes.val,SX,reduceCtorEq,Nat.reduceEqDiff,↓reduceIte]
   rw [hp]; exact ⟨rfl,g5⟩
  have d2 : decide ((wantN a : Int) = 0) = false := by simp only [decide_eq_false_iff_not]; omega
  obtain ⟨n,hn⟩ : ∃ n,wantN a = n + 1 := ⟨wantN a - 1,by omega⟩
  have hn3 : n <= 3 := by
   have : wantN a <= 4 := by unfold wantN; (repeat' split) <;> omega
   omega
  obtain ⟨xs,hxs⟩ : ∃ xs,t.take n = xs := ⟨_,rfl⟩
  have hxl : xs.length = n := by rw [<- hxs,List.length_take,Nat.min_eq_left]; simp at c1; omega
  have hpt : paintP (a :: t) = if ∀ x ∈ xs,inB x then ⟨if a = 2 then 2 else 1,acc8 xs,true⟩ else Co.no := by
   rw [paintP_cons,if_neg (fun hh => hh.elim c2 c1),hn,Nat.add_sub_cancel,hxs]
  have b1 := bld1 1
  obtain ⟨H5,s5,h5,k5⟩ := (Hp.nil H4 h4.fr).make [.int .u8 0,.int .u32 0] 2
  obtain ⟨H6,s6,h6,k6,n6⟩ := h5.storeN (n := 2) (new := [.int .u8 1,.int .u32 0]) rfl rfl rfl
  have gr6 : Gr H4 H6 := h6.gr (k5.trans k6)
  have hv6 : IsS IsI H6 v (a :: t) := hv4.grow (fun _ _ h => h) h4.fr gr6
  have x6 := hv6.at (i := 0) (by omega) (by simp) .i64
  have l6 := hv6.int (i := 0) (a := a) rfl
  have rest : ∀ (kk : Int) (H7 : AHeap) (e : Env),kk = (if a = 2 then 2 else 1) -> Hp H4.next H7 [⟨H4.next,2,[.int .u8 kk,.int .u32 0]⟩] -> Keep H4.next H4 H7 -> Env.get e 0 = v -> Env.get e 2 = .ptr H.next 0 -> Env.get e 4 = .map H1.next -> Env.get e 5 = .ptr H4.next 0 -> ACode.wp Q A91_rest (fnK [.cell 2 (some 2),.t 3] (fun r H' => r = .tup [(paintP (a :: t)).col,.bool (paintP (a :: t)).ok] /\ Gr H H')) e H7 := by
   intro kk H7 e hkk h7 k7 f0 f2 f4 f5
   have gr7 : Gr H4 H7 := h7.gr k7
   have hv7 : IsS IsI H7 v (a :: t) := hv4.grow (fun _ _ h => h) h4.fr gr7
   have x7 := hv7.at (i := 0) (by omega) (by simp) .i64
   have l7 := hv7.int (i := 0) (a := a) rfl
   have lk7 := look (gr7.get h4.fr m4) a
   obtain ⟨w,sc,hw⟩ := hv4.cutG h4.fr gr7 (m := 1) (n := wantN a) (by omega) (by omega) .i64 .i64
   have sc : slSV H7 1 v (some (.int .i64 1)) (some (.int .i64 (wantN a : Int))) = some w := sc
   have hwx : ((a :: t).take (wantN a)).drop 1 = xs := by rw [hn,List.take_succ_cons,List.drop_succ_cons,List.drop_zero,hxs]
   rw [hwx] at hw
   have lw := (hw.grow (fun _ _ h => h) h4.fr gr7 : IsS IsI H7 w xs).len
   simp only [A91_rest,f0,f4,x7,l7,run_lookup,lk7,Option.map_some,sc,lw,SX,reduceCtorEq,Nat.reduceEqDiff,↓reduceIte]
   obtain ⟨I,hI⟩ : ∃ I : Nat -> Env -> AHeap -> Prop,∀ m e H',I m e H' ↔ (Keep H4.next H4 H' /\ ∃ i : Nat,m = xs.length - i /\ i <= xs.length /\ Hp H4.next H' [⟨H4.next,2,[.int .u8 kk,.int .u32 (acc8 (xs.take i))]⟩] /\ (∀ x ∈ xs.take i,inB x) /\ Env.get e 2 = .ptr H.next 0 /\ Env.get e 5 = .ptr H4.next 0 /\ Env.get e 44 = w /\ Env.get e 45 = .int .i64 xs.length /\ Env.get e 46 = .int .i64 i) := ⟨_,fun _ _ _ => Iff.rfl⟩
   refine loop_by I xs.length ?_ ?_
   ·refine (hI _ _ _).2 ⟨k7,0,rfl,by omega,h7,fun x hx => by simp at hx,?_⟩
    simp only [f2,f5,SX,Nat.reduceEqDiff,↓reduceIte]; rfl
   ·intro m e H8 hinv
    obtain ⟨k8,i,rfl,hi,h8,hin,g2,g5,g44,g45,g46⟩ := (hI _ _ _).1 hinv
    by_cases d : (i : Int) < xs.length
    ·obtain ⟨x,hx⟩ : ∃ x,xs[i]? = some x := ⟨_,List.getElem?_eq_getElem (by omega)⟩
     have hw8 : IsS IsI H8 w xs := hw.grow (fun _ _ h => h) h4.fr (h8.gr k8)
     have xi := hw8.at (i := (i : Int)) (by omega) (by omega) .i64
     have li := hw8.int (i := (i : Int)) (a := x) (by simpa using hx)
     have bad : ¬ inB x -> paintP (a :: t) = Co.no := fun hb => by rw [hpt,if_neg (fun hh => hb (hh x (List.mem_of_getElem? hx)))]
     obtain ⟨H9,s9,l9,g9⟩ := fin Co.no H8 _ (h8.gr k8) h8
     by_cases x0 : x < 0
     ·simp only [g2,g44,g45,g46,d,xi,li,x0,run_build0,no0,s9,l9,resVal,resVals,ARes.val,SX,reduceCtorEq,Nat.reduceEqDiff,↓reduceIte]
      rw [bad (fun hh => by have := hh.1; omega)]
      exact ⟨rfl,g9⟩
     by_cases x1 : 255 < x
     ·have x0' : decide (x < 0) = false := by simpa using x0
      have x1' : decide (255 < x) = true := by simpa using x1
      simp only [g2,g44,g45,g46,d,xi,li,x0',x1',run_build0,no0,s9,l9,resVal,resVals,ARes.val,SX,reduceCtorEq,Nat.reduceEqDiff,↓reduceIte]
      rw [bad (fun hh => by have := hh.2; omega)]
      exact ⟨rfl,g9⟩
     ·have x0' : decide (x < 0) = false := by simpa using x0
      have x1' : decide (255 < x) = false := by simpa using x1
      obtain ⟨N,hN⟩ : ∃ N,acc8 (xs.take i) = N := ⟨_,rfl⟩
      have hNb := acc8_le hin (N := 0) (B := 1) (by omega) (by omega)
      have hil : (xs.take i).length = i := by simp; omega
      rw [hil] at hNb
      have hN2 : 0 <= N /\ N < 65536 := by
       rw [<- hN]
       have hi2 : i = 0 \/ i = 1 \/ i = 2 := by omega
       refine ⟨hNb.1,?_⟩
       have h2 := hNb.2
       rcases hi2 with rfl | rfl | rfl <;> unfold acc8 <;> omega
      rw [hN] at h8
      have l1 := h8.load (b := H4.next) (k := 2) (List.mem_cons_self ..) (o := 1) (v := .int .u32 N) rfl
      have wN : IntKind.wrap .u32 (N * 256) = N * 256 := wrapU32 (by omega) (by omega)
      have wx : IntKind.wrap .u32 x = x := wrapU32 (by omega) (by omega)
      have or1 := or8 (x := N) (y := x) (by omega) (by omega) (by omega) (by omega)
      obtain ⟨H10,s10,h10,k10,n10⟩ := h8.store (o := 1) (v := .int .u32 (N * 256 + x)) rfl (by simp)
      have w1 : IntKind.wrap .i64 ((i : Int) + 1) = ((i + 1 : Nat) : Int) := by rw [wrapI64 (by omega) (by omega)]; rfl
      simp only [g5,g44,g45,g46,d,xi,li,x0',x1',l1,shl8,wN,wx,or1,s10,w1,SX,reduceCtorEq,Nat.reduceEqDiff,↓reduceIte]
      have hac : acc8 (xs.take (i + 1)) = N * 256 + x := by
       rw [List.take_add_one,hx,<- hN]; simp [acc8]
      refine ⟨xs.length - (i + 1),by omega,(hI _ _ _).2 ⟨k8.trans k10,i + 1,rfl,by omega,by rw [hac]; exact h10,fun y hy => ?_,?_⟩⟩
      ·rw [List.take_add_one,hx] at hy
       rcases List.mem_append.1 hy with hy | hy
       ·exact hin y hy
       ·simp only [Option.toList_some,List.mem_singleton] at hy
        subst hy; exact ⟨by omega,by omega⟩
      ·simp only [g2,g5,g44,g45,SX,reduceCtorEq,Nat.reduceEqDiff,↓reduceIte]
    ·have hil : i = xs.length := by omega
     rw [hil,List.take_length] at h8 hin
     have ld := h8.loadN (b := H4.next) (k := 2) (List.mem_cons_self ..) (n := 2) rfl
     obtain ⟨H9,s9,l9,g9⟩ := fin ⟨kk,acc8 xs,true⟩ H8 _ (h8.gr k8) h8
     have ec : AV.agg [.int .u8 kk,.int .u32 (acc8 xs)] = Co.col ⟨kk,acc8 xs,true⟩ := rfl
     simp only [g2,g5,g45,g46,d,ld,ec,s9,l9,resVal,resVals,ARes.val,SX,reduceCtorEq,Nat.reduceEqDiff,↓reduceIte]
     rw [hpt,if_pos hin,<- hkk]
     exact ⟨rfl,g9⟩
  have nb0 : buildV [AV.int .u8 0,.int .u32 0] [] = some (.agg [.int .u8 0,.int .u32 0]) := rfl
  by_cases ha : a = 2
  ·obtain ⟨H7,s7,h7,k7,n7⟩ := h6.store (o := 0) (v := .int .u8 2) rfl (by simp)
   have ha' : decide (a = 2) = true := by simpa using ha
   simp only [A91,run_allocL,run_mkMap,val_map,wp_mapUpd,run_lookup,run_build,b1,s1,s2,u0,u1,lv4,d0,x0,l0,lk,d1,d2,s5,s6,l6,ha',s7,SX,reduceCtorEq,Nat.reduceEqDiff,↓reduceIte]
   refine rest 2 H7 _ (by rw [if_pos ha]) h7 ((k5.trans k6).trans k7) ?_ ?_ ?_ ?_ <;> simp only [SX,reduceCtorEq,Nat.reduceEqDiff,↓reduceIte]
  ·have ha' : decide (a = 2) = false := by simpa using ha
   simp only [A91,run_allocL,run_mkMap,val_map,wp_mapUpd,run_lookup,run_build,b1,s1,s2,u0,u1,lv4,d0,x0,l0,lk,d1,d2,s5,s6,l6,ha',SX,reduceCtorEq,Nat.reduceEqDiff,↓reduceIte]
   refine rest 1 H6 _ (by rw [if_neg ha]) h6 (k5.trans k6) ?_ ?_ ?_ ?_ <;> simp only [SX,reduceCtorEq,Nat.reduceEqDiff,↓reduceIte]
end
def partsOf (p : List Int) : List Int := if 4 < (p.drop 1).length /\ (p.drop 1).headD 0 = 2 then 2 :: (p.drop 1).drop 2 else p.drop 1
def takenOf : List Int -> Int
 | [] => 0
 | a :: _ => if a = 5 then 2 else if a = 2 then 4 else 1
def longP : List (List Int) -> Co × Int
 | [] => (Co.no,0)
 | p :: rest => if 1 < p.length then (paintP (partsOf p),0) else (paintP (rest.map fst0),min (takenOf (rest.map fst0)) ((rest.map fst0).length : Int))
theorem longP_cons (p : List Int) (rest : List (List Int)) : longP (p :: rest) = if 1 < p.length then (paintP (partsOf p),0) else (paintP (rest.map fst0),min (takenOf (rest.map fst0)) ((rest.map fst0).length : Int)) := rfl
theorem partsOf_eq {p t : List Int} {a : Int} (h : p.drop 1 = a :: t) : partsOf p = if 4 < (a :: t).length /\ a = 2 then 2 :: t.drop 1 else a :: t := by
 unfold partsOf; rw [h]; rfl
theorem takenOf_cons (a : Int) (t : List Int) : takenOf (a :: t) = if a = 5 then 2 else if a = 2 then 4 else 1 := rfl
theorem ints_one (l : List Int) : (l.map (AV.int .i64)).all AV.one = true := List.all_eq_true.2 fun x hx => by
 obtain ⟨_,_,rfl⟩ := List.mem_map.1 hx; rfl
section
variable {Q : Prog} (aq : AtQ Q) {H : AHeap}
include aq
set_option maxHeartbeats 8000000 in
theorem long_spec {v : AV} {p : List Int} {rest : List (List Int)} (hv : IsL H v (p :: rest)) (hp : p.length <= 100000) (hL : rest.length <= 100000) (hf : Fr H) : FnTo Q 84 [v] H (fun r H' => r = .tup [(longP (p :: rest)).1.col,.int .i64 (longP (p :: rest)).2,.bool (longP (p :: rest)).1.ok] /\ Gr H H') := by
 refine fn_wp (aq.ho 84 rfl _) aq.q30 (by simp [A84]) ?_
 obtain ⟨H1,s1,h1,k1⟩ := (Hp.nil H hf).make [.int .u8 0,.int .u32 0] 2
 have g1 : Gr H H1 := h1.gr k1
 have hv1 := hv.grow hf g1
 have x0 := hv1.at (i := 0) (by omega) (by simp) .i64
 obtain ⟨c,lc,hc⟩ := hv1.get (i := 0) (a := p) rfl
 have lp := IsS.len hc
 have fin : ∀ (co : Co) (H' : AHeap),Gr H1 H' -> ∃ H'',storeE H' 2 (.ptr H.next 0) co.col = some (.undef,H'') /\ loadV H'' (some 2) (.ptr H.next 0) = some co.col /\ ∃ H3,storeE H'' 2 (.ptr H.next 0) co.col = some (.undef,H3) /\ loadV H3 (some 2) (.ptr H.next 0) = some co.col /\ Gr H H3 := by
  intro co H' g
  have hj := h1.keep g.keep g.next g.fr
  obtain ⟨H'',s,hh,k,n⟩ := hj.storeN (n := 2) (new := [.int .u8 co.k,.int .u32 co.n]) rfl rfl rfl
  obtain ⟨H3,s3,hh3,k3,n3⟩ := hh.storeN (n := 2) (new := [.int .u8 co.k,.int .u32 co.n]) rfl rfl rfl
  exact ⟨H'',s,hh.loadN (List.mem_cons_self ..) rfl,H3,s3,hh3.loadN (List.mem_cons_self ..) rfl,hh3.gr (((k1.trans (g.keep.le g1.next)).trans k).trans k3)⟩
 by_cases c1 : 1 < p.length
 ·have d1 : decide ((1 : Int) < p.length) = true := by simp only [decide_eq_true_eq]; omega
  have hlg : longP (p :: rest) = (paintP (partsOf p),0) := by rw [longP_cons,if_pos c1]
  rw [hlg]
  obtain ⟨w,sc,hw⟩ := IsS.drop hc (n := 1) (by omega) .i64
  have sc : slSV H1 1 c (some (.int .i64 1)) Option.none = some w := sc
  have lw := hw.len
  obtain ⟨q,hq⟩ : ∃ q,p.drop 1 = q := ⟨_,rfl⟩
  rw [hq] at hw lw
  have hqn : q ≠ [] := by rw [<- hq]; intro h; have := congrArg List.length h; simp at this; omega
  obtain ⟨a,t,rfl⟩ : ∃ a t,q = a :: t := by cases q with
   | nil => exact absurd rfl hqn
   | cons a t => exact ⟨a,t,rfl⟩
  have xw := hw.at (i := 0) (by omega) (by simp) .i64
  have l0 := hw.int (i := 0) (a := a) rfl
  have hql : (a :: t).length <= 100000 := by rw [<- hq]; simp; omega
  have tail : ∀ (H' : AHeap) (u : AV) (l : List Int),Gr H1 H' -> IsS IsI H' u l -> partsOf p = l -> l.length <= 1000000 -> ∀ (K : AV -> AHeap -> Prop),(∀ H'',Gr H' H'' -> K (.tup [(paintP l).col,.bool (paintP l).ok]) H'') -> FnTo Q 91 [u] H' K := by
   intro H' u l g hu hl hll K hK
   refine (paint_spec aq hu hll g.fr).mono ?_
   rintro r H'' ⟨rfl,g2⟩
   exact hK H'' g2
  by_cases c2 : 4 < (a :: t).length /\ a = 2
  ·have hpt : partsOf p = 2 :: t.drop 1 := by rw [partsOf_eq hq,if_pos c2]
   have d2 : decide ((4 : Int) < ((a :: t).length : Nat)) = true := by simp only [decide_eq_true_eq]; omega
   have d3 : decide (a = 2) = true := by simpa using c2.2
   obtain ⟨H2,s2,h2,k2⟩ := (Hp.nil H1 h1.fr).make [.int .i64 2] 1
   have g2 : Gr H1 H2 := h2.gr k2
   obtain ⟨w2,sc2,hw2⟩ := hw.dropG h1.fr g2 (n := 2) (by omega) .i64
   have sc2 : slSV H2 1 w (some (.int .i64 2)) Option.none = some w2 := sc2
   have hw22 : IsS IsI H2 w2 ((a :: t).drop 2) := hw2.grow (fun _ _ h => h) h1.fr g2
   have hlt : ((a :: t).drop 2).length = t.length - 1 := by simp
   obtain ⟨H3,s3,h3,k3⟩ := Hp.appendK (pre := []) (k := 1) (o := 0) (n := 1) (bytes := 8) (xs := [.int .i64 2]) (by simpa using h2) rfl rfl (by omega) hw22.src (by rw [hlt]; have := c2.1; simp at this; omega) (ints_one _) (by omega) (by rw [hlt]; simp at hql; omega)
   have e3 : [AV.int .i64 2] ++ ((a :: t).drop 2).map (.int .i64) = ints (2 :: t.drop 1) := by simp
   rw [e3] at h3
   have len3 : 1 + ((a :: t).drop 2).length = (2 :: t.drop 1).length := by simp; omega
   rw [len3] at s3
   have g3 : Gr H1 H3 := h3.gr (k2.trans k3)
   have own3 : IsS IsI H3 (.slc H2.next 0 (2 :: t.drop 1).length (2 :: t.drop 1).length) (2 :: t.drop 1) := h3.isS (List.mem_cons_self ..) (Nat.le_refl _) fun i x hx => ⟨_,by rw [List.getElem?_map,hx]; rfl,rfl⟩
   simp only [A84,run_allocL,s1,x0,lc,lp,d1,sc,Option.map_some,Option.map_none,lw,d2,xw,l0,d3,s2,sc2,s3,SX,reduceCtorEq,Nat.reduceEqDiff,↓reduceIte]
   refine tail H3 _ _ g3 own3 hpt (by simp; simp at hql; omega) _ ?_
   intro H4 g4
   obtain ⟨H5,s5,l5,H6,s6,l6,g6⟩ := fin (paintP (2 :: t.drop 1)) H4 (g3.trans g4)
   simp only [ex0,ex1,s5,l5,s6,l6,resVal,resVals,ARes.val,SX,reduceCtorEq,Nat.reduceEqDiff,↓reduceIte]
   rw [hpt]
   exact ⟨rfl,g6⟩
  ·have hpt : partsOf p = a :: t := by rw [partsOf_eq hq,if_neg c2]
   by_cases c3 : 4 < (a :: t).length
   ·have d2 : decide ((4 : Int) < ((a :: t).length : Nat)) = true := by simp only [decide_eq_true_eq]; omega
    have d3 : decide (a = 2) = false := by simp only [decide_eq_false_iff_not]; exact fun h => c2 ⟨c3,h⟩
    simp only [A84,run_allocL,s1,x0,lc,lp,d1,sc,Option.map_some,Option.map_none,lw,d2,xw,l0,d3,SX,reduceCtorEq,Nat.reduceEqDiff,↓reduceIte]
    refine tail H1 _ _ (Gr.refl h1.fr) hw hpt (by omega) _ ?_
    intro H4 g4
    obtain ⟨H5,s5,l5,H6,s6,l6,g6⟩ := fin (paintP (a :: t)) H4 g4
    simp only [ex0,ex1,s5,l5,s6,l6,resVal,resVals,ARes.val,SX,reduceCtorEq,Nat.reduceEqDiff,↓reduceIte]
    rw [hpt]
    exact ⟨rfl,g6⟩
   ·have d2 : decide ((4 : Int) < ((a :: t).length : Nat)) = false := by simp only [decide_eq_false_iff_not]; omega
    simp only [A84,run_allocL,s1,x0,lc,lp,d1,sc,Option.map_some,Option.map_none,lw,d2,SX,reduceCtorEq,Nat.reduceEqDiff,↓reduceIte]
    refine tail H1 _ _ (Gr.refl h1.fr) hw hpt (by omega) _ ?_
    intro H4 g4
    obtain ⟨H5,s5,l5,H6,s6,l6,g6⟩ := fin (paintP (a :: t)) H4 g4
    simp only [ex0,ex1,s5,l5,s6,l6,resVal,resVals,ARes.val,SX,reduceCtorEq,Nat.reduceEqDiff,↓reduceIte]
    rw [hpt]
    exact ⟨rfl,g6⟩
 ·have d1 : decide ((1 : Int) < p.length) = false := by simp only [decide_eq_false_iff_not]; omega
  obtain ⟨l,hl⟩ : ∃ l,rest.map fst0 = l := ⟨_,rfl⟩
  have hlg : longP (p :: rest) = (paintP l,min (takenOf l) (l.length : Int)) := by rw [longP_cons,if_neg c1,hl]
  rw [hlg]
  have hll : l.length = rest.length := by rw [<- hl]; simp
  obtain ⟨w,sc,hw⟩ := IsS.drop hv1 (n := 1) (by simp) .i64
  have sc : slSV H1 1 v (some (.int .i64 1)) Option.none = some w := sc
  have hw : IsL H1 w rest := hw
  simp only [A84,run_allocL,s1,x0,lc,lp,d1,sc,Option.map_some,Option.map_none,SX,reduceCtorEq,↓reduceIte]
  refine (firsts_spec aq hw (by omega) h1.fr).mono ?_
  rintro r H2 ⟨own,g2⟩
  rw [hl] at own
  have hr := own.isS
  simp only [SX,↓reduceIte]
  refine (paint_spec aq hr (by omega) g2.fr).mono ?_
  rintro r2 H3 ⟨rfl,g3⟩
  have hr3 : IsS IsI H3 r l := hr.grow (fun _ _ h => h) g2.fr g3
  obtain ⟨H5,s5,l5,H6,s6,l6,g6⟩ := fin (paintP l) H3 (g2.trans g3)
  have hj := h1.keep (g2.trans g3).keep (g2.trans g3).next (g2.trans g3).fr
  have hr5 : IsS IsI H5 r l /\ lngV H5 1 r = some (.int .i64 l.length) := by
   rcases own with ⟨rfl,rfl,_⟩ | ⟨b,rfl,hb⟩
   ·exact ⟨.inl ⟨rfl,rfl⟩,rfl⟩
   ·obtain ⟨es,ty,e1,e2⟩ := hb.has _ (List.mem_cons_self ..)
    have hlo := hb.lo _ (List.mem_cons_self ..)
    refine ⟨.inr ⟨b,0,l.length,⟨ints l,es,false,true,ty⟩,rfl,?_,rfl,e2,Nat.le_refl _,fun i x hx => ⟨_,by rw [Nat.zero_add,List.getElem?_map,hx]; rfl,rfl⟩⟩,rfl⟩
    have hbne : b ≠ H.next := by
     have : H1.next <= b := hlo
     have h1n : H.next < H1.next := h1.lt (List.mem_cons_self ..)
     omega
    rw [store_other s5 hbne]
    exact g3.get g2.fr e1
  have tk : ∀ x : Int,takenOf l = x -> 0 <= x /\ x <= 4 := by
   intro x hx; rw [<- hx]; unfold takenOf; split
   ·omega
   ·(repeat' split) <;> omega
  cases l with
  | nil =>
   have d0 : decide ((0 : Int) < (([] : List Int).length : Nat)) = false := rfl
   simp only [ex0,ex1,s5,hr5.2,d0,l5,s6,l6,mnmxV2min,resVal,resVals,ARes.val,SX,reduceCtorEq,Nat.reduceEqDiff,↓reduceIte]
   exact ⟨rfl,g6⟩
  | cons a t =>
   have d0 : decide ((0 : Int) < ((a :: t).length : Nat)) = true := by simp only [List.length_cons,decide_eq_true_eq]; omega
   have xr := hr5.1.at (i := 0) (by omega) (by simp) .i64
   have lr := hr5.1.int (i := 0) (a := a) rfl
   by_cases a5 : a = 5
   ·have a5' : decide (a = 5) = true := by simpa using a5
    have ht : takenOf (a :: t) = 2 := by rw [takenOf_cons,if_pos a5]
    simp only [ex0,ex1,s5,hr5.2,d0,xr,lr,a5',l5,s6,l6,mnmxV2min,resVal,resVals,ARes.val,SX,reduceCtorEq,Nat.reduceEqDiff,↓reduceIte]
    rw [ht]; exact ⟨rfl,g6⟩
   have a5' : decide (a = 5) = false := by simpa using a5
   by_cases a2 : a = 2
   ·have a2' : decide (a = 2) = true := by simpa using a2
    have ht : takenOf (a :: t) = 4 := by rw [takenOf_cons,if_neg a5,if_pos a2]
    simp only [ex0,ex1,s5,hr5.2,d0,xr,lr,a5',a2',l5,s6,l6,mnmxV2min,resVal,resVals,ARes.val,SX,reduceCtorEq,Nat.reduceEqDiff,↓reduceIte]
    rw [ht]; exact ⟨rfl,g6⟩
   ·have a2' : decide (a = 2) = false := by simpa using a2
    have ht : takenOf (a :: t) = 1 := by rw [takenOf_cons,if_neg a5,if_neg a2]
    simp only [ex0,ex1,s5,hr5.2,d0,xr,lr,a5',a2',l5,s6,l6,mnmxV2min,resVal,resVals,ARes.val,SX,reduceCtorEq,Nat.reduceEqDiff,↓reduceIte]
    rw [ht]; exact ⟨rfl,g6⟩
end
def orU (a b : Int) : Int := IntKind.wrap .u16 (((BitVec.ofInt 16 a ||| BitVec.ofInt 16 b).toNat : Nat) : Int)
def notU (a b : Int) : Int := IntKind.wrap .u16 (((BitVec.ofInt 16 a &&& ~~~BitVec.ofInt 16 b).toNat : Nat) : Int)
theorem bin_orU (a b : Int) : binV .or (.int .u16 a) (.int .u16 b) = some (.int .u16 (orU a b)) := rfl
theorem bin_notU (a b : Int) : binV .andNot (.int .u16 a) (.int .u16 b) = some (.int .u16 (notU a b)) := rfl
def pow2 (i : Nat) : Int := IntKind.wrap .u16 (1 * 2 ^ (min i 16))
theorem shlU (k : IntKind) (i : Nat) : binV .shl (.int .u16 1) (.int k (i : Int)) = some (.int .u16 (pow2 i)) := by
 simp only [binV,shiftBin,IntKind.bits,Int.toNat_natCast,pow2]
 rw [if_neg (by omega)]
def fin22 (n fl : Int) : Int := if n = 22 then notU fl 1 else fl
def flagL (fl n : Int) (off : Bool) : List Int -> Nat -> Int × Bool
 | [],_ => (fl,false)
 | k :: zs,i => if (n = k /\ off = true /\ n = 4) \/ (n = k + 20 /\ n ≠ 21) then (fin22 n (notU fl (pow2 i)),true) else if n = k then (fin22 n (orU fl (pow2 i)),true) else flagL fl n off zs (i + 1)
def flagP (fl n : Int) (off : Bool) : Int × Bool := flagL fl n off zflags 0
theorem row_tab {H : AHeap} (h : hasTabs H TT = true) : loadV H (some 8) (.ptr 1 0) = some (.agg (zflags.map (.int .i64))) := by
 have h1 := List.all_eq_true.1 h ⟨1,.i64,zflags⟩ (by simp [TT])
 split at h1
 ·rename_i B hB
  simp only [Bool.and_eq_true] at h1
  have hc := sameL_eq1 h1.2
  have hr : H.row 1 = some B := by simp only [AHeap.row,hB,h1.1,if_true]
  simp only [loadV,ROp.run,Opd.ev,hr,hc]
  rfl
 ·cases h1
theorem idx_tab {i : Nat} {k : Int} (h : zflags[i]? = some k) : idxArrV 8 1 none (.agg (zflags.map (.int .i64))) (.int .i64 (i : Int)) = some (.int .i64 k) := by
 have hi := (List.getElem?_eq_some_iff.1 h).1
 have h8 : zflags.length = 8 := rfl
 simp only [idxArrV,ROp.run,Opd.ev,inIndex,if_pos (show 0 <= (i : Int) /\ (i : Int) < ((8 : Nat) : Int) by omega),Int.toNat_natCast,Nat.mul_one,sub,List.getElem?_map,h,Option.map_some]
structure At where
 fl : Int
 fk : Int
 fn : Int
 bk : Int
 bn : Int
def At.cs (a : At) : List AV := [.int .u16 a.fl,.int .u8 a.fk,.int .u32 a.fn,.int .u8 a.bk,.int .u32 a.bn]
def At.val (a : At) : AV := .agg a.cs
def At.zero : At := ⟨0,0,0,0,0⟩
def shortP (n : Int) : Option (Int × Int) := if 30 <= n /\ n <= 37 then some (1,n - 30) else if 90 <= n /\ n <= 97 then some (1,n - 82) else if n = 39 then some (0,0) else none
section
variable {Q : Prog} (aq : AtQ Q) {base : Nat} {H : AHeap} {l : List Cel}
include aq
set_option maxHeartbeats 8000000 in
theorem flag_spec {p k0 : Nat} {fl n : Int} {off : Bool} {R : List AV} (h : Hp base H (⟨p,k0,.int .u16 fl :: R⟩ :: l)) (ht : hasTabs H TT = true) : FnTo Q 85 [.ptr p 0,.int .i64 n,.bool off] H (fun r H' => r = .bool (flagP fl n off).2 /\ Hp base H' (⟨p,k0,.int .u16 (flagP fl n off).1 :: R⟩ :: l) /\ Keep base H H' /\ H'.next = H.next) := by
 refine fn_wp (aq.ho 85 rfl _) aq.q31 (by simp [A85]) ?_
 have rt := row_tab ht
 simp only [A85,rt,SX,↓reduceIte]
 obtain ⟨I,hI⟩ : ∃ I : Nat -> Env -> AHeap -> Prop,∀ m e H',I m e H' ↔ (H' = H /\ ∃ i : Nat,m = 8 - i /\ i <= 8 /\ flagL fl n off (zflags.drop i) i = flagP fl n off /\ Env.get e 0 = .ptr p 0 /\ Env.get e 1 = .int .i64 n /\ Env.get e 2 = .bool off /\ Env.get e 9 = .agg (zflags.map (.int .i64)) /\ Env.get e 10 = .int .i64 i) := ⟨_,fun _ _ _ => Iff.rfl⟩
 refine loop_by I 8 ?_ ?_
 ·refine (hI _ _ _).2 ⟨rfl,0,rfl,by omega,rfl,?_⟩
  simp only [SX,reduceCtorEq,Nat.reduceEqDiff,↓reduceIte]; rfl
 ·intro m e H' hinv
  obtain ⟨rfl,i,rfl,hi,hfl,e0,e1,e2,e9,e10⟩ := (hI _ _ _).1 hinv
  have h8 : zflags.length = 8 := rfl
  by_cases d : (i : Int) < 8
  ·obtain ⟨k,hk⟩ : ∃ k,zflags[i]? = some k := ⟨_,List.getElem?_eq_getElem (by omega)⟩
   have hdrop : zflags.drop i = k :: zflags.drop (i + 1) := by
    rw [List.drop_eq_getElem_cons (by omega),(List.getElem?_eq_some_iff.1 hk).2]
   have hkr : 1 <= k /\ k <= 9 := by
    have hm := List.mem_of_getElem? hk
    simp only [zflags,List.mem_cons,List.not_mem_nil,or_false] at hm
    omega
   rw [hdrop,flagL] at hfl
   have it := idx_tab hk
   have w20 : IntKind.wrap .i64 (k + 20) = k + 20 := wrapI64 (by omega) (by omega)
   have w1 : IntKind.wrap .i64 ((i : Int) + 1) = ((i + 1 : Nat) : Int) := by rw [wrapI64 (by omega) (by omega)]; rfl
   have l0 := h.load (b := p) (k := k0) (List.mem_cons_self ..) (o := 0) (v := .int .u16 fl) rfl
   have sh := shlU .i64 i
   have upd : ∀ f1 : Int,∃ H1,storeE H' 1 (.ptr p 0) (.int .u16 f1) = some (.undef,H1) /\ Hp base H1 (⟨p,k0,.int .u16 f1 :: R⟩ :: l) /\ Keep base H' H1 /\ H1.next = H'.next /\ loadV H1 Option.none (.ptr p 0) = some (.int .u16 f1) /\ ∃ H2,storeE H1 1 (.ptr p 0) (.int .u16 (notU f1 1)) = some (.undef,H2) /\ Hp base H2 (⟨p,k0,.int .u16 (notU f1 1) :: R⟩ :: l) /\ Keep base H' H2 /\ H2.next = H'.next := by
    intro f1
    obtain ⟨H1,s1,h1,k1,n1⟩ := h.store (o := 0) (v := .int .u16 f1) rfl (by simp)
    have h1 : Hp base H1 (⟨p,k0,.int .u16 f1 :: R⟩ :: l) := h1
    obtain ⟨H2,s2,h2,k2,n2⟩ := h1.store (o := 0) (v := .int .u16 (notU f1 1)) rfl (by simp)
    exact ⟨H1,s1,h1,k1,n1,h1.load (List.mem_cons_self ..) rfl,H2,s2,h2,k1.trans k2,by rw [n2,n1]⟩
   by_cases c22 : n = 22
   ·have c22' : decide (n = 22) = true := by simpa using c22
    by_cases ca : n = k + 20
    ·have ca' : decide (n = k + 20) = true := by simpa using ca
     have cb : decide (n = k) = false := by simp only [decide_eq_false_iff_not]; omega
     have c21 : (!decide (n = 21)) = true := by simp [c22]
     rw [if_pos (.inr ⟨ca,by omega⟩)] at hfl
     obtain ⟨H1,s1,h1,k1,n1,l1,H2,s2,h2,k2,n2⟩ := upd (notU fl (pow2 i))
     simp only [e0,e1,e9,e10,d,it,cb,w20,ca',c21,c22',l0,sh,bin_notU,s1,l1,s2,SX,reduceCtorEq,Nat.reduceEqDiff,↓reduceIte]
     have e22 : fin22 n (notU fl (pow2 i)) = notU (notU fl (pow2 i)) 1 := if_pos c22
     rw [<- hfl,e22]
     exact ⟨rfl,h2,k2,n2⟩
    ·have ca' : decide (n = k + 20) = false := by simpa using ca
     have cb : decide (n = k) = false := by simp only [decide_eq_false_iff_not]; omega
     rw [if_neg (by omega),if_neg (by omega)] at hfl
     simp only [e1,e9,e10,d,it,cb,w20,ca',w1,SX,Nat.reduceEqDiff,↓reduceIte]
     refine ⟨8 - (i + 1),by omega,(hI _ _ _).2 ⟨rfl,i + 1,rfl,by omega,hfl,?_⟩⟩
     simp only [e0,e1,e2,e9,SX,reduceCtorEq,Nat.reduceEqDiff,↓reduceIte]
   ·have c22' : decide (n = 22) = false := by simpa using c22
    have f22 : ∀ f,fin22 n f = f := fun f => by unfold fin22; rw [if_neg c22]
    by_cases cb : n = k
    ·have cb' : decide (n = k) = true := by simpa using cb
     have ca' : decide (n = k + 20) = false := by simp only [decide_eq_false_iff_not]; omega
     by_cases co : off = true /\ n = 4
     ·have c4 : decide (n = 4) = true := by simpa using co.2
      rw [if_pos (.inl ⟨cb,co⟩),f22] at hfl
      obtain ⟨H1,s1,h1,k1,n1,l1,_⟩ := upd (notU fl (pow2 i))
      rw [co.1] at e2
      simp only [e0,e1,e2,e9,e10,d,it,cb',c4,c22',l0,sh,bin_notU,s1,SX,reduceCtorEq,Nat.reduceEqDiff,↓reduceIte]
      rw [<- hfl]
      exact ⟨rfl,h1,k1,n1⟩
     ·rw [if_neg (fun hh => hh.elim (fun x => co x.2) (fun x => by omega)),if_pos cb,f22] at hfl
      obtain ⟨H1,s1,h1,k1,n1,l1,_⟩ := upd (orU fl (pow2 i))
      cases off with
      | false =>
       simp only [e0,e1,e2,e9,e10,d,it,cb',w20,ca',c22',l0,sh,bin_orU,s1,SX,reduceCtorEq,Nat.reduceEqDiff,↓reduceIte]
       rw [<- hfl]
       exact ⟨rfl,h1,k1,n1⟩
      | true =>
       have c4 : decide (n = 4) = false := by simp only [decide_eq_false_iff_not]; exact fun h => co ⟨rfl,h⟩
       simp only [e0,e1,e2,e9,e10,d,it,cb',c4,w20,ca',c22',l0,sh,bin_orU,s1,SX,reduceCtorEq,Nat.reduceEqDiff,↓reduceIte]
       rw [<- hfl]
       exact ⟨rfl,h1,k1,n1⟩
    ·have cb' : decide (n = k) = false := by simpa using cb
     by_cases ca : n = k + 20
     ·have ca' : decide (n = k + 20) = true := by simpa using ca
      by_cases c21 : n = 21
      ·have c21' : (!decide (n = 21)) = false := by simp [c21]
       rw [if_neg (by omega),if_neg cb] at hfl
       simp only [e1,e9,e10,d,it,cb',w20,ca',c21',w1,SX,Nat.reduceEqDiff,↓reduceIte]
       refine ⟨8 - (i + 1),by omega,(hI _ _ _).2 ⟨rfl,i + 1,rfl,by omega,hfl,?_⟩⟩
       simp only [e0,e1,e2,e9,SX,reduceCtorEq,Nat.reduceEqDiff,↓reduceIte]
      ·have c21' : (!decide (n = 21)) = true := by simp [c21]
       rw [if_pos (.inr ⟨ca,c21⟩),f22] at hfl
       obtain ⟨H1,s1,h1,k1,n1,l1,_⟩ := upd (notU fl (pow2 i))
       simp only [e0,e1,e9,e10,d,it,cb',w20,ca',c21',c22',l0,sh,bin_notU,s1,SX,reduceCtorEq,Nat.reduceEqDiff,↓reduceIte]
       rw [<- hfl]
       exact ⟨rfl,h1,k1,n1⟩
     ·have ca' : decide (n = k + 20) = false := by simpa using ca
      rw [if_neg (by omega),if_neg cb] at hfl
      simp only [e1,e9,e10,d,it,cb',w20,ca',w1,SX,Nat.reduceEqDiff,↓reduceIte]
      refine ⟨8 - (i + 1),by omega,(hI _ _ _).2 ⟨rfl,i + 1,rfl,by omega,hfl,?_⟩⟩
      simp only [e0,e1,e2,e9,SX,reduceCtorEq,Nat.reduceEqDiff,↓reduceIte]
  ·have hi8 : i = 8 := by omega
   rw [hi8] at hfl
   have hfl : (fl,false) = flagP fl n off := hfl
   simp only [e10,d,SX,↓reduceIte]
   rw [<- hfl]
   exact ⟨rfl,h,Keep.refl _ _⟩
set_option maxHeartbeats 4000000 in
theorem short_spec {p k0 o : Nat} {n c d : Int} {A C : List AV} (h : Hp base H (⟨p,k0,A ++ ([.int .u8 c,.int .u32 d] ++ C)⟩ :: l)) (ho : A.length = o) : FnTo Q 86 [.ptr p o,.int .i64 n] H (fun r H' => Hp base H' (⟨p,k0,A ++ ([.int .u8 ((shortP n).getD (c,d)).1,.int .u32 ((shortP n).getD (c,d)).2] ++ C)⟩ :: l) /\ Keep base H H' /\ H'.next = H.next) := by
 refine fn_wp (aq.ho 86 rfl _) aq.q32 (by simp [A86]) ?_
 have b1 : ∀ x : Int,buildV [AV.int .u8 0,.int .u32 0] [(0,1,.int .u8 1),(1,1,.int .u32 x)] = some (.agg [.int .u8 1,.int .u32 x]) := fun x => rfl
 have b0 : buildV [AV.int .u8 0,.int .u32 0] [] = some (.agg [.int .u8 0,.int .u32 0]) := rfl
 have st : ∀ x y : Int,∃ H1,storeE H 2 (.ptr p o) (.agg [.int .u8 x,.int .u32 y]) = some (.undef,H1) /\ Hp base H1 (⟨p,k0,A ++ ([.int .u8 x,.int .u32 y] ++ C)⟩ :: l) /\ Keep base H H1 /\ H1.next = H.next := fun x y => h.storeO rfl ho rfl (new := [.int .u8 x,.int .u32 y]) rfl rfl
 by_cases c1 : 30 <= n /\ n <= 37
 ·obtain ⟨H1,s1,h1,k1,n1⟩ := st 1 (n - 30)
  have d1 : decide (30 <= n) = true := by simpa using c1.1
  have d2 : decide (n <= 37) = true := by simpa using c1.2
  have w1 : IntKind.wrap .i64 (n - 30) = n - 30 := wrapI64 (by omega) (by omega)
  have w2 : IntKind.wrap .u32 (n - 30) = n - 30 := wrapU32 (by omega) (by omega)
  simp only [A86,d1,d2,w1,w2,run_build,b1,s1,SX,reduceCtorEq,Nat.reduceEqDiff,↓reduceIte]
  unfold shortP; rw [if_pos c1]; exact ⟨h1,k1,n1⟩
 by_cases c2 : 90 <= n /\ n <= 97
 ·obtain ⟨H1,s1,h1,k1,n1⟩ := st 1 (n - 82)
  have d1 : decide (30 <= n) = true := by simp only [decide_eq_true_eq]; omega
  have d2 : decide (n <= 37) = false := by simp only [decide_eq_false_iff_not]; omega
  have d3 : decide (90 <= n) = true := by simpa using c2.1
  have d4 : decide (n <= 97) = true := by simpa using c2.2
  have w1 : IntKind.wrap .i64 (n - 82) = n - 82 := wrapI64 (by omega) (by omega)
  have w2 : IntKind.wrap .u32 (n - 82) = n - 82 := wrapU32 (by omega) (by omega)
  simp only [A86,d1,d2,d3,d4,w1,w2,run_build,b1,s1,SX,reduceCtorEq,Nat.reduceEqDiff,↓reduceIte]
  unfold shortP; rw [if_neg c1,if_pos c2]; exact ⟨h1,k1,n1⟩
 by_cases c3 : n = 39
 ·obtain ⟨H1,s1,h1,k1,n1⟩ := st 0 0
  subst c3
  have d1 : decide ((30 : Int) <= 39) = true := rfl
  have d2 : decide ((39 : Int) <= 37) = false := rfl
  have d3 : decide ((90 : Int) <= 39) = false := rfl
  simp only [A86,run_build,b0,s1,SX,reduceCtorEq,Nat.reduceEqDiff,↓reduceIte,Int.reduceLE]
  exact ⟨h1,k1,n1⟩
 ·have c3' : decide (n = 39) = false := by simpa using c3
  have fin : Hp base H (⟨p,k0,A ++ ([.int .u8 ((shortP n).getD (c,d)).1,.int .u32 ((shortP n).getD (c,d)).2] ++ C)⟩ :: l) /\ Keep base H H := by
   unfold shortP; rw [if_neg c1,if_neg c2,if_neg c3]; exact ⟨h,Keep.refl _ _⟩
  by_cases x1 : 30 <= n
  ·have d1 : decide (30 <= n) = true := by simpa using x1
   have d2 : decide (n <= 37) = false := by simp only [decide_eq_false_iff_not]; omega
   by_cases x2 : 90 <= n
   ·have d3 : decide (90 <= n) = true := by simpa using x2
    have d4 : decide (n <= 97) = false := by simp only [decide_eq_false_iff_not]; omega
    simp only [A86,d1,d2,d3,d4,c3',SX,Nat.reduceEqDiff,↓reduceIte]
    exact fin
   ·have d3 : decide (90 <= n) = false := by simpa using x2
    simp only [A86,d1,d2,d3,c3',SX,Nat.reduceEqDiff,↓reduceIte]
    exact fin
  ·have d1 : decide (30 <= n) = false := by simpa using x1
   have d3 : decide (90 <= n) = false := by simp only [decide_eq_false_iff_not]; omega
   simp only [A86,d1,d3,c3',SX,Nat.reduceEqDiff,↓reduceIte]
   exact fin
end
def offOf (p : List Int) : Bool := decide (1 < p.length /\ p.getD 1 0 = 0)
def shortA (a : At) (n : Int) : At := { a with fk := ((shortP n).getD (a.fk,a.fn)).1,fn := ((shortP n).getD (a.fk,a.fn)).2 }
def shortB (a : At) (n : Int) : At := { a with bk := ((shortP n).getD (a.bk,a.bn)).1,bn := ((shortP n).getD (a.bk,a.bn)).2 }
def stepA (a : At) (p : List Int) (rest : List (List Int)) : At × Nat :=
 if fst0 p = 0 then (At.zero,0)
 else if fst0 p = 38 \/ fst0 p = 48 then
  (if (longP (p :: rest)).1.ok = true /\ fst0 p = 38 then { a with fk := (longP (p :: rest)).1.k,fn := (longP (p :: rest)).1.n } else if (longP (p :: rest)).1.ok = true then { a with bk := (longP (p :: rest)).1.k,bn := (longP (p :: rest)).1.n } else a,(longP (p :: rest)).2.toNat)
 else if (flagP a.fl (fst0 p) (offOf p)).2 = true then ({ a with fl := (flagP a.fl (fst0 p) (offOf p)).1 },0)
 else (shortB (shortA { a with fl := (flagP a.fl (fst0 p) (offOf p)).1 } (fst0 p)) (IntKind.wrap .i64 (fst0 p - 10)),0)
def applyF : Nat -> At -> List (List Int) -> At
 | 0,a,_ => a
 | _ + 1,a,[] => a
 | f + 1,a,p :: rest => applyF f (stepA a p rest).1 (rest.drop (stepA a p rest).2)
def applyP (a : At) (L : List (List Int)) : At := if L = [] then At.zero else applyF L.length a L
theorem long_tk (p : List Int) (rest : List (List Int)) : 0 <= (longP (p :: rest)).2 /\ (longP (p :: rest)).2 <= rest.length := by
 rw [longP_cons]
 split
 ·simp only; omega
 ·have : 0 <= takenOf (rest.map fst0) := by
   unfold takenOf
   split
   ·omega
   ·(repeat' split) <;> omega
  simp only [List.length_map]
  omega
theorem applyF_nil (f : Nat) (a : At) : applyF f a [] = a := by cases f <;> rfl
theorem box_at (a : At) : boxV a.val = some (.row ⟨a.cs,0,false,true,0⟩,.ptr) := rfl
theorem z5 : AV.agg [.int .u16 0,.int .u8 0,.int .u32 0,.int .u8 0,.int .u32 0] = At.zero.val := rfl
theorem z5l : [AV.int .u16 0,.int .u8 0,.int .u32 0,.int .u8 0,.int .u32 0] = At.zero.cs := rfl
section
variable {Q : Prog} (aq : AtQ Q) {H : AHeap}
include aq
set_option maxHeartbeats 16000000 in
theorem apply_spec {a : At} {v : AV} {L : List (List Int)} (hv : IsL H v L) (hL : L.length <= 10000) (hp : ∀ p ∈ L,p.length <= 10000) (hf : Fr H) (ht : hasTabs H TT = true) : FnTo Q 68 [a.val,v] H (fun r H' => r = (applyP a L).val /\ Gr H H') := by
 refine fn_wp (aq.ho 68 rfl _) aq.q15 (by simp [A68]) ?_
 obtain ⟨H1,s1,h1,k1⟩ := (Hp.nil H hf).make a.cs 5
 obtain ⟨H2,s2,h2,k2⟩ := h1.make At.zero.cs 5
 have g2 : Gr H H2 := h2.gr (k1.trans k2)
 have hv2 := hv.grow hf g2
 have lv2 := hv2.len
 cases L with
 | nil =>
  obtain ⟨H3,s3,h3,k3,n3⟩ := h2.storeN (n := 5) (new := At.zero.cs) rfl rfl rfl
  have s3 : storeE H2 5 (.ptr H1.next 0) (.agg At.zero.cs) = some (.undef,H3) := s3
  have l3 : loadV H3 (some 5) (.ptr H1.next 0) = some At.zero.val := h3.loadN (List.mem_cons_self ..) rfl
  have d0 : decide ((([] : List (List Int)).length : Int) = 0) = true := rfl
  simp only [A68,box_at,z5l,run_box,run_allocL,s1,s2,lv2,d0,run_build0,s3,l3,resVal,resVals,ARes.val,SX,reduceCtorEq,Nat.reduceEqDiff,↓reduceIte]
  exact ⟨rfl,h3.gr ((k1.trans k2).trans k3)⟩
 | cons p0 L0 =>
 obtain ⟨L,hLe⟩ : ∃ L,p0 :: L0 = L := ⟨_,rfl⟩
 have hne : L ≠ [] := by rw [<- hLe]; simp
 rw [hLe] at hv hL hp hv2 lv2 ⊢
 have hres : applyP a L = applyF L.length a L := by unfold applyP; rw [if_neg hne]
 have d0 : decide ((L.length : Int) = 0) = false := by
  simp only [decide_eq_false_iff_not]; intro hh
  exact hne (List.eq_nil_of_length_eq_zero (by omega))
 simp only [A68,box_at,z5l,run_box,run_allocL,s1,s2,lv2,d0,SX,Nat.reduceEqDiff,↓reduceIte]
 refine (firsts_spec aq hv2 (by omega) h2.fr).mono ?_
 rintro r H3 ⟨own,g3⟩
 obtain ⟨b,rfl,hb⟩ : ∃ b,r = .slc b 0 (L.map fst0).length (L.map fst0).length /\ Hp H2.next H3 [⟨b,1,ints (L.map fst0)⟩] := by
  rcases own with ⟨hh,_,_⟩ | ⟨b,h1,h2⟩
  ·exact absurd (List.map_eq_nil_iff.1 hh) hne
  ·exact ⟨b,h1,h2⟩
 have h3 : Hp H.next H3 (⟨H.next,5,a.cs⟩ :: [⟨b,1,ints (L.map fst0)⟩,⟨H1.next,5,At.zero.cs⟩]) := (h2.joinG g3 hb).rot3
 have hfl : (L.map fst0).length = L.length := by simp
 rw [hfl]
 simp only [SX,↓reduceIte]
 obtain ⟨I,hI⟩ : ∃ I : Nat -> Env -> AHeap -> Prop,∀ m e H',I m e H' ↔ (Keep H.next H H' /\ ∃ (i f : Nat) (a' : At),m = L.length - i /\ i <= L.length /\ L.length - i <= f /\ applyF f a' (L.drop i) = applyF L.length a L /\ Hp H.next H' (⟨H.next,5,a'.cs⟩ :: [⟨b,1,ints (L.map fst0)⟩,⟨H1.next,5,At.zero.cs⟩]) /\ Env.get e 1 = v /\ Env.get e 2 = .ptr H.next 0 /\ Env.get e 4 = .ptr H1.next 0 /\ Env.get e 5 = .slc b 0 L.length L.length /\ Env.get e 6 = .int .i64 i) := ⟨_,fun _ _ _ => Iff.rfl⟩
 refine loop_by I L.length ?_ ?_
 ·refine (hI _ _ _).2 ⟨(k1.trans k2).trans (g3.keep.le g2.next),0,L.length,a,rfl,by omega,by omega,rfl,h3,?_⟩
  simp only [SX,Nat.reduceEqDiff,↓reduceIte]; rfl
 ·intro m e H4 hinv
  obtain ⟨k4,i,f,a',rfl,hi,hf4,hap,h4,e1,e2,e4,e5,e6⟩ := (hI _ _ _).1 hinv
  have g4 : Gr H H4 := h4.gr k4
  have hv4 := hv.grow hf g4
  have hr4 : IsS IsI H4 (.slc b 0 L.length L.length) (L.map fst0) := by
   have := h4.isS (R := IsI) (b := b) (cs := ints (L.map fst0)) (by simp) (xs := L.map fst0) (cap := L.length) (by simp) (fun i x hx => ⟨_,by rw [List.getElem?_map,hx]; rfl,rfl⟩)
   rw [hfl] at this; exact this
  by_cases d : (i : Int) < L.length
  ·obtain ⟨p,hpi⟩ : ∃ p,L[i]? = some p := ⟨_,List.getElem?_eq_getElem (by omega)⟩
   obtain ⟨rest,hrest⟩ : ∃ rest,L.drop (i + 1) = rest := ⟨_,rfl⟩
   have hdrop : L.drop i = p :: rest := by
    rw [List.drop_eq_getElem_cons (by omega),(List.getElem?_eq_some_iff.1 hpi).2,hrest]
   have hrl : rest.length = L.length - (i + 1) := by rw [<- hrest]; simp
   obtain ⟨f',rfl⟩ : ∃ f',f = f' + 1 := ⟨f - 1,by omega⟩
   rw [hdrop,applyF] at hap
   obtain ⟨n,hn⟩ : ∃ n,fst0 p = n := ⟨_,rfl⟩
   have xr := hr4.at (i := (i : Int)) (by omega) (by rw [hfl]; omega) .i64
   have lr := hr4.int (i := (i : Int)) (a := n) (by rw [List.getElem?_map]; simp only [Int.toNat_natCast]; rw [hpi,<- hn]; rfl)
   have next : ∀ (e' : Env) (H' : AHeap) (a2 : At) (tk : Nat),stepA a' p rest = (a2,tk) -> tk <= rest.length -> Keep H.next H H' -> Hp H.next H' (⟨H.next,5,a2.cs⟩ :: [⟨b,1,ints (L.map fst0)⟩,⟨H1.next,5,At.zero.cs⟩]) -> (Env.get e' 1 = v /\ Env.get e' 2 = .ptr H.next 0 /\ Env.get e' 4 = .ptr H1.next 0 /\ Env.get e' 5 = .slc b 0 L.length L.length /\ Env.get e' 6 = .int .i64 ((i + tk + 1 : Nat) : Int)) -> ∃ m',m' < L.length - i /\ I m' e' H' := by
    intro e' H' a2 tk hs htk kk hh he
    rw [hs] at hap
    refine ⟨L.length - (i + tk + 1),by omega,(hI _ _ _).2 ⟨kk,i + tk + 1,f',a2,rfl,by omega,by omega,?_,hh,he⟩⟩
    rw [<- hap,<- hrest,List.drop_drop]
    congr 2; omega
   have w0 : IntKind.wrap .i64 ((i : Int) + 1) = ((i + 0 + 1 : Nat) : Int) := by rw [wrapI64 (by omega) (by omega)]; rfl
   by_cases c0 : n = 0
   ·have c0' : decide (n = 0) = true := by simpa using c0
    obtain ⟨H5,s5,h5,k5,n5⟩ := h4.storeN (n := 5) (new := At.zero.cs) rfl rfl rfl
    have s5 : storeE H4 5 (.ptr H.next 0) (.agg At.zero.cs) = some (.undef,H5) := s5
    simp only [e2,e5,e6,lngV_slc,d,xr,lr,c0',run_build0,s5,w0,SX,reduceCtorEq,Nat.reduceEqDiff,↓reduceIte]
    refine next _ H5 At.zero 0 (by unfold stepA; rw [hn,if_pos c0]) (by omega) (k4.trans k5) h5 ?_
    simp only [e1,e2,e4,e5,SX,reduceCtorEq,Nat.reduceEqDiff,↓reduceIte]
   have c0' : decide (n = 0) = false := by simpa using c0
   by_cases c1 : n = 38 \/ n = 48
   ·obtain ⟨w,sc,hw⟩ := hv4.drop (n := i) (by omega) .i64
    rw [hdrop] at hw
    have tk := long_tk p rest
    have hst : stepA a' p rest = (if (longP (p :: rest)).1.ok = true /\ n = 38 then { a' with fk := (longP (p :: rest)).1.k,fn := (longP (p :: rest)).1.n } else if (longP (p :: rest)).1.ok = true then { a' with bk := (longP (p :: rest)).1.k,bn := (longP (p :: rest)).1.n } else a',(longP (p :: rest)).2.toNat) := by
     unfold stepA; rw [hn,if_neg c0,if_pos c1]
    have hc1 : ∀ (K : AV -> AHeap -> Prop),(∀ H',Gr H4 H' -> K (.tup [(longP (p :: rest)).1.col,.int .i64 (longP (p :: rest)).2,.bool (longP (p :: rest)).1.ok]) H') -> FnTo Q 84 [w] H4 K := by
     intro K hK
     refine (long_spec aq hw (by have := hp p (List.mem_of_getElem? hpi); omega) (by omega) h4.fr).mono ?_
     rintro r H' ⟨rfl,g⟩
     exact hK H' g
    obtain ⟨co,hco⟩ : ∃ co,(longP (p :: rest)).1 = co := ⟨_,rfl⟩
    obtain ⟨tkn,htk⟩ : ∃ t : Nat,(longP (p :: rest)).2 = t := ⟨(longP (p :: rest)).2.toNat,by omega⟩
    rw [hco,htk] at hst hc1
    rw [htk] at tk
    have wt : IntKind.wrap .i64 ((i : Int) + tkn) = ((i + tkn : Nat) : Int) := by rw [wrapI64 (by omega) (by omega)]; rfl
    have w1 : IntKind.wrap .i64 (((i + tkn : Nat) : Int) + 1) = ((i + tkn + 1 : Nat) : Int) := by rw [wrapI64 (by omega) (by omega)]; rfl
    have tail : ∀ H5,Gr H4 H5 -> ∃ H6,H5.alloc (.row ⟨[.int .u8 0,.int .u32 0],0,false,true,0⟩) = H6 /\ ∃ H7,storeE H6 2 (.ptr H5.next 0) co.col = some (.undef,H7) /\ loadV H7 (some 2) (.ptr H5.next 0) = some co.col /\ Keep H.next H H7 /\ Hp H.next H7 (⟨H.next,5,a'.cs⟩ :: [⟨b,1,ints (L.map fst0)⟩,⟨H1.next,5,At.zero.cs⟩]) ∧
      (∃ H8,storeE H7 2 (.ptr H.next 1) co.col = some (.undef,H8) /\ Keep H.next H H8 /\ Hp H.next H8 (⟨H.next,5,({ a' with fk := co.k,fn := co.n } : At).cs⟩ :: [⟨b,1,ints (L.map fst0)⟩,⟨H1.next,5,At.zero.cs⟩])) ∧
      (∃ H8,storeE H7 2 (.ptr H.next 3) co.col = some (.undef,H8) /\ Keep H.next H H8 /\ Hp H.next H8 (⟨H.next,5,({ a' with bk := co.k,bn := co.n } : At).cs⟩ :: [⟨b,1,ints (L.map fst0)⟩,⟨H1.next,5,At.zero.cs⟩])) := by
     intro H5 g5
     have h5 := h4.keep g5.keep g5.next g5.fr
     have k5 : Keep H.next H H5 := k4.trans (g5.keep.le g4.next)
     obtain ⟨H6,s6,h6,k6⟩ := h5.make [.int .u8 0,.int .u32 0] 2
     obtain ⟨H7,s7,h7,k7,n7⟩ := h6.storeN (n := 2) (new := [.int .u8 co.k,.int .u32 co.n]) rfl rfl rfl
     obtain ⟨H8,s8,h8,k8,n8⟩ := (h7.drop).storeO (a := [.int .u16 a'.fl]) (x := [.int .u8 a'.fk,.int .u32 a'.fn]) (c := [.int .u8 a'.bk,.int .u32 a'.bn]) (o := 1) (n := 2) rfl rfl rfl (new := [.int .u8 co.k,.int .u32 co.n]) rfl rfl
     obtain ⟨H9,s9,h9,k9,n9⟩ := (h7.drop).storeO (a := [.int .u16 a'.fl,.int .u8 a'.fk,.int .u32 a'.fn]) (x := [.int .u8 a'.bk,.int .u32 a'.bn]) (c := []) (o := 3) (n := 2) rfl rfl rfl (new := [.int .u8 co.k,.int .u32 co.n]) rfl rfl
     exact ⟨H6,s6,H7,s7,h7.loadN (List.mem_cons_self ..) rfl,(k5.trans k6).trans k7,h7.drop,⟨H8,s8,((k5.trans k6).trans k7).trans k8,h8⟩,⟨H9,s9,((k5.trans k6).trans k7).trans k9,h9⟩⟩
    by_cases c38 : n = 38
    ·have c38' : decide (n = 38) = true := by simpa using c38
     simp only [e1,e5,e6,lngV_slc,d,xr,lr,c0',c38',sc,Option.map_some,Option.map_none,SX,Nat.reduceEqDiff,↓reduceIte]
     refine hc1 _ ?_
     intro H5 g5
     obtain ⟨H6,s6,H7,s7,l7,k7,h7,⟨H8,s8,k8,h8⟩,_⟩ := tail H5 g5
     cases hok : co.ok with
     | true =>
      simp only [e2,e6,ex30,ex31,ex32,c38',run_allocL,s6,s7,l7,s8,wt,w1,SX,reduceCtorEq,Nat.reduceEqDiff,↓reduceIte]
      refine next _ H8 _ tkn (by rw [hst,if_pos ⟨hok,c38⟩]; rfl) (by omega) k8 h8 ?_
      simp only [e1,e2,e4,e5,SX,reduceCtorEq,Nat.reduceEqDiff,↓reduceIte]
     | false =>
      simp only [e6,ex30,ex31,ex32,run_allocL,s6,s7,wt,w1,SX,reduceCtorEq,Nat.reduceEqDiff,↓reduceIte]
      refine next _ H7 _ tkn (by rw [hst,if_neg (by simp [hok]),if_neg (by simp [hok])]; rfl) (by omega) k7 h7 ?_
      simp only [e1,e2,e4,e5,SX,reduceCtorEq,Nat.reduceEqDiff,↓reduceIte]
    ·have c38' : decide (n = 38) = false := by simpa using c38
     have c48' : decide (n = 48) = true := by simpa using c1.resolve_left c38
     simp only [e1,e5,e6,lngV_slc,d,xr,lr,c0',c38',c48',sc,Option.map_some,Option.map_none,SX,Nat.reduceEqDiff,↓reduceIte]
     refine hc1 _ ?_
     intro H5 g5
     obtain ⟨H6,s6,H7,s7,l7,k7,h7,_,⟨H8,s8,k8,h8⟩⟩ := tail H5 g5
     cases hok : co.ok with
     | true =>
      simp only [e2,e6,ex30,ex31,ex32,c38',run_allocL,s6,s7,l7,s8,wt,w1,SX,reduceCtorEq,Nat.reduceEqDiff,↓reduceIte]
      refine next _ H8 _ tkn (by rw [hst,if_neg (fun hh => c38 hh.2),if_pos hok]; rfl) (by omega) k8 h8 ?_
      simp only [e1,e2,e4,e5,SX,reduceCtorEq,Nat.reduceEqDiff,↓reduceIte]
     | false =>
      simp only [e6,ex30,ex31,ex32,run_allocL,s6,s7,wt,w1,SX,reduceCtorEq,Nat.reduceEqDiff,↓reduceIte]
      refine next _ H7 _ tkn (by rw [hst,if_neg (by simp [hok]),if_neg (by simp [hok])]; rfl) (by omega) k7 h7 ?_
      simp only [e1,e2,e4,e5,SX,reduceCtorEq,Nat.reduceEqDiff,↓reduceIte]
   ·have c38' : decide (n = 38) = false := by simp only [decide_eq_false_iff_not]; exact fun h => c1 (.inl h)
    have c48' : decide (n = 48) = false := by simp only [decide_eq_false_iff_not]; exact fun h => c1 (.inr h)
    have xv := hv4.at (i := (i : Int)) (by omega) (by omega) .i64
    obtain ⟨c,lc,hc⟩ := hv4.get (i := (i : Int)) (a := p) (by simpa using hpi)
    have lp := IsS.len hc
    have g4t := g4.tabs hf ht
    have hst : stepA a' p rest = if (flagP a'.fl n (offOf p)).2 = true then ({ a' with fl := (flagP a'.fl n (offOf p)).1 },0) else (shortB (shortA { a' with fl := (flagP a'.fl n (offOf p)).1 } n) (IntKind.wrap .i64 (n - 10)),0) := by
     unfold stepA; rw [hn,if_neg c0,if_neg c1]
    by_cases cl : 1 < p.length
    ·obtain ⟨x,y,t,rfl⟩ : ∃ x y t,p = x :: y :: t := by
      match p,cl with
      | x :: y :: t,_ => exact ⟨x,y,t,rfl⟩
     have dl : decide ((1 : Int) < ((x :: y :: t).length : Nat)) = true := by simp only [decide_eq_true_eq]; simp; omega
     have x1 := IsS.at hc (i := 1) (by omega) (by simp; omega) .i64
     have l1 := IsS.int hc (i := 1) (a := y) rfl
     by_cases cy : y = 0
     ·have dy : decide (y = 0) = true := by simpa using cy
      have hoff : offOf (x :: y :: t) = true := by simp [offOf,cy]
      simp only [e1,e2,e5,e6,lngV_slc,d,xr,lr,c0',c38',c48',xv,lc,lp,dl,x1,l1,dy,SX,Nat.reduceEqDiff,↓reduceIte]
      refine (flag_spec aq (p := H.next) (k0 := 5) (fl := a'.fl) (n := n) (off := true) (R := [.int .u8 a'.fk,.int .u32 a'.fn,.int .u8 a'.bk,.int .u32 a'.bn]) (l := [⟨b,1,ints (L.map fst0)⟩,⟨H1.next,5,At.zero.cs⟩]) h4 g4t).mono ?_
      rintro r H5 ⟨rfl,h5,k5,n5⟩
      obtain ⟨fl',hfl'⟩ : ∃ fl',(flagP a'.fl n true).1 = fl' := ⟨_,rfl⟩
      rw [hoff,hfl'] at hst
      rw [hfl'] at h5
      cases hs : (flagP a'.fl n true).2 with
      | true =>
       simp only [e6,w0,SX,Nat.reduceEqDiff,↓reduceIte]
       refine next _ H5 { a' with fl := fl' } 0 (by rw [hst,if_pos hs]) (by omega) (k4.trans k5) h5 ?_
       simp only [e1,e2,e4,e5,SX,Nat.reduceEqDiff,↓reduceIte]
      | false =>
       simp only [e2,SX,Nat.reduceEqDiff,↓reduceIte]
       refine (short_spec aq (A := [.int .u16 fl']) (C := [.int .u8 a'.bk,.int .u32 a'.bn]) (p := H.next) (k0 := 5) (n := n) (c := a'.fk) (d := a'.fn) h5 rfl).mono ?_
       rintro r H6 ⟨h6,k6,n6⟩
       simp only [e2,SX,Nat.reduceEqDiff,↓reduceIte]
       refine (short_spec aq (A := [.int .u16 fl',.int .u8 ((shortP n).getD (a'.fk,a'.fn)).1,.int .u32 ((shortP n).getD (a'.fk,a'.fn)).2]) (C := []) (p := H.next) (k0 := 5) (n := IntKind.wrap .i64 (n - 10)) (c := a'.bk) (d := a'.bn) h6 rfl).mono ?_
       rintro r H7 ⟨h7,k7,n7⟩
       simp only [e6,w0,SX,Nat.reduceEqDiff,↓reduceIte]
       refine next _ H7 (shortB (shortA { a' with fl := fl' } n) (IntKind.wrap .i64 (n - 10))) 0 (by rw [hst,if_neg (by simp [hs])]) (by omega) (((k4.trans k5).trans k6).trans k7) h7 ?_
       simp only [e1,e2,e4,e5,SX,Nat.reduceEqDiff,↓reduceIte]
     ·have dy : decide (y = 0) = false := by simpa using cy
      have hoff : offOf (x :: y :: t) = false := by simp [offOf,cy]
      simp only [e1,e2,e5,e6,lngV_slc,d,xr,lr,c0',c38',c48',xv,lc,lp,dl,x1,l1,dy,SX,Nat.reduceEqDiff,↓reduceIte]
      refine (flag_spec aq (p := H.next) (k0 := 5) (fl := a'.fl) (n := n) (off := false) (R := [.int .u8 a'.fk,.int .u32 a'.fn,.int .u8 a'.bk,.int .u32 a'.bn]) (l := [⟨b,1,ints (L.map fst0)⟩,⟨H1.next,5,At.zero.cs⟩]) h4 g4t).mono ?_
      rintro r H5 ⟨rfl,h5,k5,n5⟩
      obtain ⟨fl',hfl'⟩ : ∃ fl',(flagP a'.fl n false).1 = fl' := ⟨_,rfl⟩
      rw [hoff,hfl'] at hst
      rw [hfl'] at h5
      cases hs : (flagP a'.fl n false).2 with
      | true =>
       simp only [e6,w0,SX,Nat.reduceEqDiff,↓reduceIte]
       refine next _ H5 { a' with fl := fl' } 0 (by rw [hst,if_pos hs]) (by omega) (k4.trans k5) h5 ?_
       simp only [e1,e2,e4,e5,SX,Nat.reduceEqDiff,↓reduceIte]
      | false =>
       simp only [e2,SX,Nat.reduceEqDiff,↓reduceIte]
       refine (short_spec aq (A := [.int .u16 fl']) (C := [.int .u8 a'.bk,.int .u32 a'.bn]) (p := H.next) (k0 := 5) (n := n) (c := a'.fk) (d := a'.fn) h5 rfl).mono ?_
       rintro r H6 ⟨h6,k6,n6⟩
       simp only [e2,SX,Nat.reduceEqDiff,↓reduceIte]
       refine (short_spec aq (A := [.int .u16 fl',.int .u8 ((shortP n).getD (a'.fk,a'.fn)).1,.int .u32 ((shortP n).getD (a'.fk,a'.fn)).2]) (C := []) (p := H.next) (k0 := 5) (n := IntKind.wrap .i64 (n - 10)) (c := a'.bk) (d := a'.bn) h6 rfl).mono ?_
       rintro r H7 ⟨h7,k7,n7⟩
       simp only [e6,w0,SX,Nat.reduceEqDiff,↓reduceIte]
       refine next _ H7 (shortB (shortA { a' with fl := fl' } n) (IntKind.wrap .i64 (n - 10))) 0 (by rw [hst,if_neg (by simp [hs])]) (by omega) (((k4.trans k5).trans k6).trans k7) h7 ?_
       simp only [e1,e2,e4,e5,SX,Nat.reduceEqDiff,↓reduceIte]
    ·have dl : decide ((1 : Int) < (p.length : Nat)) = false := by simp only [decide_eq_false_iff_not]; omega
     have hoff : offOf p = false := by simp only [offOf,decide_eq_false_iff_not]; exact fun h => cl h.1
     simp only [e1,e2,e5,e6,lngV_slc,d,xr,lr,c0',c38',c48',xv,lc,lp,dl,SX,Nat.reduceEqDiff,↓reduceIte]
     refine (flag_spec aq (p := H.next) (k0 := 5) (fl := a'.fl) (n := n) (off := false) (R := [.int .u8 a'.fk,.int .u32 a'.fn,.int .u8 a'.bk,.int .u32 a'.bn]) (l := [⟨b,1,ints (L.map fst0)⟩,⟨H1.next,5,At.zero.cs⟩]) h4 g4t).mono ?_
     rintro r H5 ⟨rfl,h5,k5,n5⟩
     obtain ⟨fl',hfl'⟩ : ∃ fl',(flagP a'.fl n false).1 = fl' := ⟨_,rfl⟩
     rw [hoff,hfl'] at hst
     rw [hfl'] at h5
     cases hs : (flagP a'.fl n false).2 with
     | true =>
      simp only [e6,w0,SX,Nat.reduceEqDiff,↓reduceIte]
      refine next _ H5 { a' with fl := fl' } 0 (by rw [hst,if_pos hs]) (by omega) (k4.trans k5) h5 ?_
      simp only [e1,e2,e4,e5,SX,Nat.reduceEqDiff,↓reduceIte]
     | false =>
      simp only [e2,SX,Nat.reduceEqDiff,↓reduceIte]
      refine (short_spec aq (A := [.int .u16 fl']) (C := [.int .u8 a'.bk,.int .u32 a'.bn]) (p := H.next) (k0 := 5) (n := n) (c := a'.fk) (d := a'.fn) h5 rfl).mono ?_
      rintro r H6 ⟨h6,k6,n6⟩
      simp only [e2,SX,Nat.reduceEqDiff,↓reduceIte]
      refine (short_spec aq (A := [.int .u16 fl',.int .u8 ((shortP n).getD (a'.fk,a'.fn)).1,.int .u32 ((shortP n).getD (a'.fk,a'.fn)).2]) (C := []) (p := H.next) (k0 := 5) (n := IntKind.wrap .i64 (n - 10)) (c := a'.bk) (d := a'.bn) h6 rfl).mono ?_
      rintro r H7 ⟨h7,k7,n7⟩
      simp only [e6,w0,SX,Nat.reduceEqDiff,↓reduceIte]
      refine next _ H7 (shortB (shortA { a' with fl := fl' } n) (IntKind.wrap .i64 (n - 10))) 0 (by rw [hst,if_neg (by simp [hs])]) (by omega) (((k4.trans k5).trans k6).trans k7) h7 ?_
      simp only [e1,e2,e4,e5,SX,Nat.reduceEqDiff,↓reduceIte]
  ·have hil : i = L.length := by omega
   rw [hil,List.drop_length,applyF_nil] at hap
   have ld : loadV H4 (some 5) (.ptr H.next 0) = some a'.val := h4.loadN (List.mem_cons_self ..) rfl
   have h4' : Hp H.next H4 (⟨H1.next,5,At.zero.cs⟩ :: ⟨H.next,5,a'.cs⟩ :: [⟨b,1,ints (L.map fst0)⟩]) := h4.rot3
   obtain ⟨H5,s5,h5,k5,n5⟩ := h4'.storeN (n := 5) (new := a'.cs) rfl rfl rfl
   have s5 : storeE H4 5 (.ptr H1.next 0) a'.val = some (.undef,H5) := s5
   have l5 : loadV H5 (some 5) (.ptr H1.next 0) = some a'.val := h5.loadN (List.mem_cons_self ..) rfl
   simp only [e2,e4,e5,e6,lngV_slc,d,ld,s5,l5,resVal,resVals,ARes.val,SX,reduceCtorEq,Nat.reduceEqDiff,↓reduceIte]
   rw [hres,<- hap]
   exact ⟨rfl,h5.gr (k4.trans k5)⟩
end
section
variable {Q : Prog} (aq : AtQ Q) {H : AHeap}
include aq
end
theorem IsS.same {α : Type} {R : AHeap -> α -> AV -> Prop} {H : AHeap} {v : AV} {l : List α} (h : IsS R H v l) : AV.same v v = true := by
 rcases h with ⟨rfl,rfl⟩ | ⟨b,o,cap,B,rfl,_⟩
 ·rfl
 ·simp [AV.same,AV.same1]
section
variable {Q : Prog} (aq : AtQ Q) {H : AHeap}
include aq
end
section
variable {Q : Prog} (aq : AtQ Q) {base p : Nat} {a : At} {m : Int} {l : List Cel} {H : AHeap} {e : Env} {K : PostC}
include aq
end
section
variable {Q : Prog} (aq : AtQ Q) {H : AHeap}
include aq
end
def FlOk (fl : Int) : Prop := 0 <= fl /\ fl < 65536
theorem p0 : pow2 0 = 1 := rfl
theorem same_at (a : At) : AV.same a.val a.val = true := by
 simp [AV.same,AV.sameL,AV.same1,At.val,At.cs]
section
variable {Q : Prog} (aq : AtQ Q) {H : AHeap}
include aq
end
end Go.Proofs.YtfbcgjpblomckaaDoor.AM
