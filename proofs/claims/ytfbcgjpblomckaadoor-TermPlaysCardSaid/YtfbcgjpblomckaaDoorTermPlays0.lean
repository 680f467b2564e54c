import Derived.Test.YtfbcgjpblomckaaDoorTpX
import Derived.Test.YtfbcgjpblomckaaDoorTmAw
import Derived.Test.YtfbcgjpblomckaaDoorAmArgs2
set_option linter.unusedVariables false
set_option linter.unusedSimpArgs false
namespace Go.Proofs.YtfbcgjpblomckaaDoor.AM.EvN.Rf
open Go
theorem RowA.grow {H H' : AHeap} {v : AV} {l : List Ac} (h : RowA H v l) (hf : Fr H) (g : Gr H H') : RowA H' v l := by
 rcases h with h | ⟨b,cap,B,h1,h2,h3⟩
 ·exact .inl h
 ·exact .inr ⟨b,cap,B,h1,g.get hf h2,h3⟩
theorem zero_fl : FlOk At.zero.fl := ⟨by decide,by decide⟩
theorem waits_eq {m : Nat} {a : PSt} {S : RSt} (h : Link m a S) : (a.st ≠ 0 \/ 0 < a.d.kept) ↔ (S.st ≠ 0 \/ S.kept ≠ []) := by
 have e : a.st = S.st := h.sm.o.st
 have hd : Dk S.kept a.d := h.sm.o.d
 have z := h.g.g.d.z
 have hn := hd.nil
 have hz : 0 < a.d.kept ↔ S.kept ≠ [] := by
  constructor
  ·intro h1 h2
   have := hn.1 h2
   omega
  ·intro h1
   refine Int.lt_of_not_ge fun h2 => h1 (hn.2 ?_)
   have := z h2
   rw [this]; rfl
 rw [e,hz]
section
variable {Q : Prog} (dq : TdQ Q) {H : AHeap}
include dq
structure Both (H0 : AHeap) (b1 p1 b2 : Nat) (m : Nat) (H : AHeap) : Prop where
 k : Keep H0.next H0 H
 ex : ∃ (tp : TP) (S : RSt) (c1 c2 : List Cel),tp.Ok /\ FlOk tp.t.a.fl /\ Link m tp.p S /\ tp.p.text.length <= m /\ TerC b1 p1 tp c1 /\ DocC b2 tp.t S S.told.length c2 /\ Hp H0.next H (c1 ++ c2)
set_option maxRecDepth 10000 in
set_option maxHeartbeats 32000000 in
theorem law4 (q4 : Q.fns 4 = some A4) (q10 : Q.fns 10 = some A10) (o10 : ∀ a,Q.orc 10 a = Option.none) (ht : hasTabs H TT = true) (hf : Fr H) (w h : Int) {v : AV} {l : List Ac} (hv : RowA H v l) :
  FnTo Q 4 [.int .i64 w,.int .i64 h,v] H (fun r _ => r = .bool true) := by
 have tq := dq.tq
 refine fn_wp (tq.at_.ho 4 rfl _) q4 (by simp [A4]) ?_
 simp only [A4,SX,↓reduceIte]
 refine (awake_spec tq q10 o10 ht hf).mono ?_
 rintro _ H ⟨rfl,g0⟩
 have hv := hv.grow hf g0
 have ht := g0.tabs hf ht
 have hf := g0.fr
 have hT := tabd_of hf ht
 simp only [SX,reduceCtorEq,Nat.reduceEqDiff,↓reduceIte]
 refine (great_spec tq hf hv w h).mono ?_
 rintro r H' ⟨hH,hr⟩
 rw [hH]; clear hH H'
 rcases hr with rfl | ⟨rfl,hl40,ht5⟩
 ·simp only [SX,↓reduceIte]
 simp only [SX,reduceCtorEq,Nat.reduceEqDiff,↓reduceIte]
 refine (termNew_spec tq (Hp.nil H hf) w h).mono ?_
 rintro r H1 ⟨k1,hr⟩
 rcases hr with ⟨hm,rfl,g1⟩ | ⟨hm,b1,p1,cs1,rfl,tc1,g1⟩
 ·simp only [ex0,ex1,SX,reduceCtorEq,Nat.reduceEqDiff,↓reduceIte]
  refine (may_spec tq w h).mono ?_
  rintro _ H' ⟨rfl,hH⟩
  simp only [hm,SX,Nat.reduceEqDiff,↓reduceIte]
 obtain ⟨wn,hn,rfl,rfl,hw,hh⟩ := mayB_true hm
 simp only [Int.toNat_natCast] at tc1
 simp only [ex0,ex1,SX,reduceCtorEq,Nat.reduceEqDiff,↓reduceIte]
 refine (may_spec tq wn hn).mono ?_
 rintro _ H' ⟨rfl,hH⟩
 rw [hH]; clear hH H'
 simp only [hm,SX,reduceCtorEq,Nat.reduceEqDiff,↓reduceIte]
 refine (rnew_spec dq g1 hw hh).mono ?_
 rintro _ H2 ⟨k2,b2,cs2,rfl,dc2,g2⟩
 simp only [SX,↓reduceIte]
 have start : Both H b1 p1 b2 0 H2 := ⟨k1.trans k2,TP.new wn hn,RSt.new,cs1,cs2,TP.new_ok hw hh,zero_fl,link_new,by show PSt.new.text.length <= 0; simp [PSt.new],tc1,dc2,perm_c g2 fun a => by simp only [cnt_append,cnt_nil]; omega⟩
 obtain ⟨I,hI⟩ : ∃ I : Nat -> Env -> AHeap -> Prop,∀ m e H',I m e H' ↔ (∃ i : Nat,m = l.length - i /\ i <= l.length /\ Both H b1 p1 b2 (tot (l.take i)) H' /\ Env.get e 2 = v /\ Env.get e 7 = .ptr b1 0 /\ Env.get e 9 = .ptr b2 0 /\ Env.get e 10 = .int .i64 i) := ⟨_,fun _ _ _ => Iff.rfl⟩
 refine loop_by I l.length ?_ ?_
 ·exact (hI _ _ _).2 ⟨0,rfl,by omega,start,(by first | (simp only [SG,Nat.reduceEqDiff,↓reduceIte] <;> rfl) | rfl),(by first | (simp only [SG,Nat.reduceEqDiff,↓reduceIte] <;> rfl) | rfl),(by first | (simp only [SG,Nat.reduceEqDiff,↓reduceIte] <;> rfl) | rfl),(by first | (simp only [SG,↓reduceIte] <;> rfl) | rfl)⟩
 ·intro m e H3 hinv
  obtain ⟨i,rfl,hi,both,e2,e7,e9,e10⟩ := (hI _ _ _).1 hinv
  have ln := hv.len H3
  have tk := tot_take l i
  by_cases d : (i : Int) < (l.length : Int)
  ·have d1 := decide_eq_true d
   obtain ⟨a,ha⟩ : ∃ a,l[i]? = some a := ⟨_,List.getElem?_eq_getElem (by omega)⟩
   have tk1 := tot_take l (i + 1)
   have ts := tot_succ ha
   obtain ⟨bb,p,ix,ld⟩ := hv.act hf ha
   have w1 : IntKind.wrap .i64 ((i : Int) + 1) = ((i + 1 : Nat) : Int) := wrapNat (n := i + 1) (by omega)
   obtain ⟨a0,_,_,a3⟩ := ld H3 both.k
   have shows : ∀ (H4 : AHeap) (e' : Env),Both H b1 p1 b2 (tot (l.take (i + 1))) H4 -> Env.get e' 2 = v -> Env.get e' 7 = .ptr b1 0 -> Env.get e' 9 = .ptr b2 0 -> Env.get e' 10 = .int .i64 i -> ∀ (K : PostC),(∀ e'' H5,Both H b1 p1 b2 (tot (l.take (i + 1))) H5 -> Env.get e'' 2 = v -> Env.get e'' 7 = .ptr b1 0 -> Env.get e'' 9 = .ptr b2 0 -> Env.get e'' 10 = .int .i64 i -> K .normal e'' H5) -> ACode.wp Q A4_shows K e' H4 := by
    intro H4 e' both e2 e7 e9 e10 K hk
    obtain ⟨kk,tp,S,c1,c2,ok,fl,lk,tx,tc,dc,g⟩ := both
    obtain ⟨tcl,pcl,tm,pc,rfl⟩ := tc
    have g' : Hp H.next H4 (tcl ++ (pcl ++ c2)) := perm_c g fun a => by simp only [cnt_append]; omega
    simp only [A4_shows,e7,SX,↓reduceIte]
    refine (matrix_spec tq ok.t tm g').mono ?_
    rintro _ H5 ⟨k5,cb1,rfl,g5⟩
    have g5' : Hp H.next H5 (c2 ++ (⟨cb1,7,rowV tp.t.rows.flatten⟩ :: (tcl ++ pcl))) := perm_c g5 fun a => by simp only [cnt_append,cnt_cons]; omega
    simp only [e9,SX,Nat.reduceEqDiff,↓reduceIte]
    refine (rmatrix_spec dq ok.t dc g5').mono ?_
    rintro _ H6 ⟨k6,cb2,rfl,g6⟩
    have r1 := g6.rowS (b := cb1) (l := tp.t.rows.flatten) (cap := tp.t.rows.flatten.length) (by simp) (Nat.le_refl _)
    have r2 := g6.rowS (b := cb2) (l := tp.t.rows.flatten) (cap := tp.t.rows.flatten.length) (List.mem_cons_self ..) (Nat.le_refl _)
    have hl : tp.t.rows.flatten.length <= 1000000 := by
     rw [flat_len (n := tp.t.w) fun l hl => (ok.t.r l hl).1,ok.t.n]
     have := Nat.mul_le_mul ok.t.h.2 ok.t.w.2
     omega
    simp only [SX,Nat.reduceEqDiff,↓reduceIte]
    refine (same_spec tq g6.fr r1 r2 hl).mono ?_
    rintro _ H7 ⟨rfl,gr7⟩
    have g7 := g6.of_gr gr7
    simp only [SX,↓reduceIte]
    refine hk _ _ ⟨kk.trans (k5.trans (k6.trans (gr7.keep.le g6.bn))),tp,S,_,c2,ok,fl,lk,tx,⟨tcl,pcl,tm,pc,rfl⟩,dc,?_⟩ ?_ ?_ ?_ ?_
    ·have g8 : Hp H.next H7 ([⟨cb2,7,rowV tp.t.rows.flatten⟩,⟨cb1,7,rowV tp.t.rows.flatten⟩] ++ ((tcl ++ pcl) ++ c2)) := perm_c g7 fun a => by simp only [cnt_append,cnt_cons,cnt_nil]; omega
     exact g8.sub (List.sublist_append_right _ _)
    ·simp only [e2,SG,Nat.reduceEqDiff,↓reduceIte]
    ·simp only [e7,SG,Nat.reduceEqDiff,↓reduceIte]
    ·simp only [e9,SG,Nat.reduceEqDiff,↓reduceIte]
    ·simp only [e10,SG,Nat.reduceEqDiff,↓reduceIte]
   have next : ∀ (H4 : AHeap) (e' : Env),Both H b1 p1 b2 (tot (l.take (i + 1))) H4 -> Env.get e' 2 = v -> Env.get e' 7 = .ptr b1 0 -> Env.get e' 9 = .ptr b2 0 -> Env.get e' 10 = .int .i64 ((i + 1 : Nat) : Int) -> ∃ m',m' < l.length - i /\ I m' e' H4 := fun H4 e' bo q2 q7 q9 q10 =>
    ⟨l.length - (i + 1),by omega,(hI _ _ _).2 ⟨i + 1,rfl,by omega,bo,q2,q7,q9,q10⟩⟩
   by_cases c0 : a.d = 0
   ·have d0 := decide_eq_true c0
    obtain ⟨kk,tp,S,c1,c2,ok,fl,lk,tx,tc,dc,g⟩ := both
    simp only [e2,e7,e10,ln,d1,ix,a0,d0,a3,SX,Nat.reduceEqDiff,↓reduceIte]
    refine (termFeed_spec tq ok tc g (hT.keep kk) a.s (by omega) (by omega)).mono ?_
    rintro _ H4 ⟨k4,c1',tc',g4⟩
    obtain ⟨_,_,_,b3⟩ := ld H4 (kk.trans k4)
    have g4' : Hp H.next H4 (c2 ++ c1') := perm_c g4 fun a => by simp only [cnt_append]; omega
    simp only [e2,e9,e10,ix,b3,SX,Nat.reduceEqDiff,↓reduceIte]
    refine (rfeed_spec dq ok fl lk dc g4' a.s (by omega)).mono ?_
    rintro _ H5 ⟨k5,S',c2',lk',dc',g5⟩
    have tx' : (tp.feed a.s).p.text.length <= tot (l.take (i + 1)) := by
     have := (Good.feed (t := a.s) ok.p.g).2.2
     have e : (tp.feed a.s).p.text = (tp.p.feed a.s).text := rfl
     rw [e,ts]; omega
    simp only [SX]
    refine shows H5 _ ⟨kk.trans (k4.trans k5),tp.feed a.s,S',c1',c2',ok.feed a.s,run_fl _ fl,by rw [ts]; exact lk',tx',tc',dc',perm_c g5 fun a => by simp only [cnt_append]; omega⟩ (by simp only [SG,Nat.reduceEqDiff,↓reduceIte,e2] <;> rfl) (by simp only [SG,Nat.reduceEqDiff,↓reduceIte,e7] <;> rfl) (by simp only [SG,Nat.reduceEqDiff,↓reduceIte,e9] <;> rfl) (by simp only [SG,Nat.reduceEqDiff,↓reduceIte,e10] <;> rfl) _ ?_
    intro e'' H6 bo q2 q7 q9 q10
    simp only [q10,w1,SX,↓reduceIte]
    exact next _ _ bo (by simp only [SG,Nat.reduceEqDiff,↓reduceIte,q2] <;> rfl) (by simp only [SG,Nat.reduceEqDiff,↓reduceIte,q7] <;> rfl) (by simp only [SG,Nat.reduceEqDiff,↓reduceIte,q9] <;> rfl) (by first | (simp only [SG,↓reduceIte] <;> rfl) | rfl)
   have d0 := decide_eq_false c0
   have stay : Both H b1 p1 b2 (tot (l.take (i + 1))) H3 := by
    obtain ⟨kk,tp,S,c1,c2,ok,fl,lk,tx,tc,dc,g⟩ := both
    exact ⟨kk,tp,S,c1,c2,ok,fl,⟨lk.g,lk.e,lk.sm,⟨by have := lk.small.list; omega,by have := lk.small.mids; omega,by have := lk.small.text; omega⟩,by have := lk.told; omega⟩,by omega,tc,dc,g⟩
   by_cases c1' : a.d = 1
   ·have dd1 := decide_eq_true c1'
    obtain ⟨kk,tp,S,c1,c2,ok,fl,lk,tx,tc,dc,g⟩ := stay
    obtain ⟨a0,a1,a2,_⟩ := ld H3 kk
    obtain ⟨tcl,pcl,⟨rb,M,hM,rfl⟩,pc,rfl⟩ := tc
    simp only [e2,e7,e10,ln,d1,ix,a0,d0,dd1,a1,a2,SX,Nat.reduceEqDiff,↓reduceIte]
    have g' : Hp H.next H3 (⟨b1,1,tcs tp.t (.slc rb 0 M.length M.length) p1⟩ :: (⟨rb,1,rowsV M⟩ :: (EvN.rowsC M ++ (pcl ++ c2)))) := by simpa using g
    refine (resize_spec tq (pb := p1) g' rfl rfl a.w a.h).mono ?_
    rintro r H4 ⟨k4,hr⟩
    obtain ⟨_,b1',b2',_⟩ := ld H4 (kk.trans k4)
    rcases hr with ⟨hm2,rfl,g4⟩ | ⟨hm2,rfl,cs4,tm4,g4⟩
    ·simp only [e2,e10,ix,b1',b2',SX,Nat.reduceEqDiff,↓reduceIte,Int.reduceEq]
     refine (may_spec tq a.w a.h).mono ?_
     rintro _ H' ⟨rfl,hH⟩
     rw [hH]; clear hH H'
     have bq : (true ^^ (false == false)) = false := rfl
     simp only [hm2,bq,SX,Nat.reduceEqDiff,↓reduceIte,Int.reduceEq]
     refine shows H4 _ ⟨kk.trans k4,tp,S,_,c2,ok,fl,lk,tx,⟨_,pcl,⟨rb,M,hM,rfl⟩,pc,rfl⟩,dc,by simpa using g4⟩ (by simp only [SG,Nat.reduceEqDiff,↓reduceIte,e2] <;> rfl) (by simp only [SG,Nat.reduceEqDiff,↓reduceIte,e7] <;> rfl) (by simp only [SG,Nat.reduceEqDiff,↓reduceIte,e9] <;> rfl) (by simp only [SG,Nat.reduceEqDiff,↓reduceIte,e10] <;> rfl) _ ?_
     intro e'' H6 bo q2 q7 q9 q10
     simp only [q10,w1,SX,↓reduceIte]
     exact next _ _ bo (by simp only [SG,Nat.reduceEqDiff,↓reduceIte,q2] <;> rfl) (by simp only [SG,Nat.reduceEqDiff,↓reduceIte,q7] <;> rfl) (by simp only [SG,Nat.reduceEqDiff,↓reduceIte,q9] <;> rfl) (by first | (simp only [SG,↓reduceIte] <;> rfl) | rfl)
    ·obtain ⟨wn',hn',hw',hh',h1',h2'⟩ := mayB_true hm2
     rw [hw',hh'] at tm4 hm2
     rw [hw'] at b1'
     rw [hh'] at b2'
     simp only [Int.toNat_natCast] at tm4
     simp only [e2,e10,ix,b1',b2',SX,Nat.reduceEqDiff,↓reduceIte]
     refine (may_spec tq wn' hn').mono ?_
     rintro _ H' ⟨rfl,hH⟩
     rw [hH]; clear hH H'
     have bq : (true ^^ (true == true)) = false := rfl
     have g5 : Hp H.next H4 (c2 ++ (cs4 ++ (pcl ++ (⟨rb,1,rowsV M⟩ :: EvN.rowsC M)))) := perm_c g4 fun a => by simp only [cnt_append,cnt_cons]; omega
     simp only [e2,e9,e10,hm2,bq,ix,b1',b2',SX,Nat.reduceEqDiff,↓reduceIte]
     refine (rresize_spec dq dc g5 h1' h2').mono ?_
     rintro _ H5 ⟨k5,c2',dc',g6⟩
     simp only [SX]
     refine shows H5 _ ⟨kk.trans (k4.trans k5),⟨Tm.new wn' hn',tp.p⟩,S,cs4 ++ pcl,c2',⟨new_okT h1' h2',ok.p,ok.e⟩,zero_fl,lk,tx,⟨cs4,pcl,tm4,pc,rfl⟩,dc',?_⟩ (by simp only [SG,Nat.reduceEqDiff,↓reduceIte,e2] <;> rfl) (by simp only [SG,Nat.reduceEqDiff,↓reduceIte,e7] <;> rfl) (by simp only [SG,Nat.reduceEqDiff,↓reduceIte,e9] <;> rfl) (by simp only [SG,Nat.reduceEqDiff,↓reduceIte,e10] <;> rfl) _ ?_
     ·have g7 : Hp H.next H5 ((⟨rb,1,rowsV M⟩ :: EvN.rowsC M) ++ ((cs4 ++ pcl) ++ c2')) := perm_c g6 fun a => by simp only [cnt_append,cnt_cons]; omega
      exact g7.sub (List.sublist_append_right _ _)
     ·intro e'' H6 bo q2 q7 q9 q10
      simp only [q10,w1,SX,↓reduceIte]
      exact next _ _ bo (by simp only [SG,Nat.reduceEqDiff,↓reduceIte,q2] <;> rfl) (by simp only [SG,Nat.reduceEqDiff,↓reduceIte,q7] <;> rfl) (by simp only [SG,Nat.reduceEqDiff,↓reduceIte,q9] <;> rfl) (by first | (simp only [SG,↓reduceIte] <;> rfl) | rfl)
   have dd1 := decide_eq_false c1'
   simp only [e2,e10,ln,d1,ix,a0,d0,dd1,SX,Nat.reduceEqDiff,↓reduceIte]
   refine shows H3 _ stay (by simp only [SG,Nat.reduceEqDiff,↓reduceIte,e2] <;> rfl) (by simp only [SG,Nat.reduceEqDiff,↓reduceIte,e7] <;> rfl) (by simp only [SG,Nat.reduceEqDiff,↓reduceIte,e9] <;> rfl) (by simp only [SG,Nat.reduceEqDiff,↓reduceIte,e10] <;> rfl) _ ?_
   intro e'' H6 bo q2 q7 q9 q10
   simp only [q10,w1,SX,↓reduceIte]
   exact next _ _ bo (by simp only [SG,Nat.reduceEqDiff,↓reduceIte,q2] <;> rfl) (by simp only [SG,Nat.reduceEqDiff,↓reduceIte,q7] <;> rfl) (by simp only [SG,Nat.reduceEqDiff,↓reduceIte,q9] <;> rfl) (by first | (simp only [SG,↓reduceIte] <;> rfl) | rfl)
  ·have d1 := decide_eq_false d
   obtain ⟨kk,tp,S,c1,c2,ok,fl,lk,tx,tc,dc,g⟩ := both
   obtain ⟨cb,C,okC,rfl⟩ := dc
   have st := g.load (b := b2) (k := 1) (cs := dcs tp.t (.slc cb 0 (tp.t.h * tp.t.w) (tp.t.h * tp.t.w)) (prs S C.tv S.told.length)) (by simp) (o := 11) (v := .int .i64 S.st) rfl
   have kp := g.load (b := b2) (k := 1) (cs := dcs tp.t (.slc cb 0 (tp.t.h * tp.t.w) (tp.t.h * tp.t.w)) (prs S C.tv S.told.length)) (by simp) (o := 12) (v := .str S.kept) rfl
   simp only [e2,e7,e9,e10,ln,d1,st,SX,Nat.reduceEqDiff,↓reduceIte]
   refine (termWaits_spec tq tc g).mono ?_
   rintro _ H' ⟨rfl,hH⟩
   rw [hH]; clear hH H'
   refine ⟨by simp only [echoOk,st,same_int,Bool.and_self,SX,Nat.reduceEqDiff,↓reduceIte],?_⟩
   have we := waits_eq lk
   have dw : decide (tp.p.st ≠ 0 \/ 0 < tp.p.d.kept) = decide (S.st ≠ 0 \/ S.kept ≠ []) := decide_eq_decide.2 we
   by_cases s0 : S.st = 0
   ·have ds : (!decide (S.st = 0)) = false := by simp [s0]
    by_cases k0 : S.kept = []
    ·have dk : (!decide (S.kept = [])) = false := by simp [k0]
     have dv : decide (S.st ≠ 0 \/ S.kept ≠ []) = false := by simp [s0,k0]
     have bq : beqV false (.bool false) (.bool false) = some (.bool true) := rfl
     have bq' : (false ^^ (false == false)) = true := rfl
     simp only [e9,dw,dv,ds,kp,bin_neqb,dk,run_beq,bq,SX,Nat.reduceEqDiff,↓reduceIte,Nat.reduceAdd]
    ·have dk : (!decide (S.kept = [])) = true := by simp [k0]
     have dv : decide (S.st ≠ 0 \/ S.kept ≠ []) = true := by simp [k0]
     have bq' : (false ^^ (true == true)) = true := rfl
     simp only [e9,dw,dv,ds,kp,bin_neqb,dk,bq',SX,Nat.reduceEqDiff,↓reduceIte,Nat.reduceAdd]
   ·have ds : (!decide (S.st = 0)) = true := by simp [s0]
    have dv : decide (S.st ≠ 0 \/ S.kept ≠ []) = true := by simp [s0]
    have bq' : (false ^^ (true == true)) = true := rfl
    simp only [dw,dv,ds,bq',SX,Nat.reduceEqDiff,↓reduceIte]
end
theorem actW (H : AHeap) (ps : List Dt) (cs : List AV) (hw : WTF Tryd.prog ps [3,3,3,9]) (hr : RdL H ps cs) : ∃ a : Ac,cs = a.cs := by
 obtain ⟨d,c1,ps,cs,rfl,rfl,_,hw,hr⟩ := fld_one (one_int Tryd.underlying3) hw hr
 obtain ⟨w,c1,ps,cs,rfl,rfl,_,hw,hr⟩ := fld_one (one_int Tryd.underlying3) hw hr
 obtain ⟨h,c1,ps,cs,rfl,rfl,_,hw,hr⟩ := fld_one (one_int Tryd.underlying3) hw hr
 obtain ⟨s,c1,ps,cs,rfl,rfl,_,hw,hr⟩ := fld_one (one_str Tryd.underlying9) hw hr
 obtain rfl := fld_none hw hr
 exact ⟨⟨d,w,h,s⟩,rfl⟩
theorem acts_list (H : AHeap) : ∀ (ds : List Dt) (cs : List AV),WTL Tryd.prog ds 46 -> RdL H ds cs -> ∃ l : List Ac,l.length = ds.length /\ cs = l.flatMap Ac.cs
 | [],cs,_,hr => by simp only [RdL] at hr; subst hr; exact ⟨[],rfl,rfl⟩
 | d :: ds,cs,hw,hr => by
  simp only [WTL] at hw
  simp only [RdL] at hr
  obtain ⟨c1,c2,rfl,h1,h2⟩ := hr
  obtain ⟨_,a,rfl⟩ := (agg_of Tryd.underlying46 (G := fun cs => ∃ a : Ac,cs = a.cs) actW) H d c1 hw.1 h1
  obtain ⟨l,h5,rfl⟩ := acts_list H ds c2 hw.2 h2
  exact ⟨a :: l,by simp [h5],rfl⟩
theorem one_acts : One Tryd.prog 40 (fun H l v => RowA H v l) (fun _ => True) := by
 intro H d cs hw hr
 cases d with
 | nils =>
  simp only [Rd] at hr
  exact ⟨(fun ps hh => by cases hh),[],_,hr,.inl ⟨rfl,rfl⟩,trivial⟩
 | slc es cap =>
  simp only [WT,Tryd.underlying40,Option.some.injEq,TypeDesc.slice.injEq] at hw
  obtain ⟨e',rfl,h1,h2,h3⟩ := hw
  simp only [Rd] at hr
  obtain ⟨b,B,hc,hb,hlv,hro,hes,hrd⟩ := hr
  obtain ⟨l,h5,h6⟩ := acts_list H es B.cells h3 hrd
  exact ⟨(fun ps hh => by cases hh),l,_,hc,.inr ⟨b,cap,B,by rw [h5],hb,hlv,h6⟩,trivial⟩
 | int k n => simp [WT,Tryd.underlying40] at hw
 | bool b => simp [WT,Tryd.underlying40] at hw
 | str s => simp [WT,Tryd.underlying40] at hw
 | agg ps => simp [WT,Tryd.underlying40] at hw
end Go.Proofs.YtfbcgjpblomckaaDoor.AM.EvN.Rf
