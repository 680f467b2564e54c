import Derived.Test.YtfbcgjpblomckaaDoorTmX2
set_option linter.unusedVariables false
set_option linter.unusedSimpArgs false
namespace Go.Proofs.YtfbcgjpblomckaaDoor.AM.EvN
open Go
def ParC (p : Nat) (s : PSt) (cs : List Cel) : Prop := ∃ c : PC,c.ok s /\ cs = ⟨p,1,pcs s c.lv c.xv c.tv⟩ :: (c.lcl ++ (c.xcl ++ c.tcl))
theorem Par.get {base : Nat} {H : AHeap} {p : Nat} {s : PSt} {l : List Cel} (h : Par base H p s l) : ∃ cs,ParC p s cs /\ Hp base H (cs ++ l) := by
 obtain ⟨c,ok,hp⟩ := h
 exact ⟨_,⟨c,ok,rfl⟩,hp.re fun a => by simp only [PC.rest,cnt_cons,cnt_append]; omega⟩
theorem ParC.par {base : Nat} {H : AHeap} {p : Nat} {s : PSt} {cs l : List Cel} (h : ParC p s cs) (hp : Hp base H (cs ++ l)) : Par base H p s l := by
 obtain ⟨c,ok,rfl⟩ := h
 exact ⟨c,ok,hp.re fun a => by simp only [PC.rest,cnt_cons,cnt_append]; omega⟩
def TerC (b pb : Nat) (a : TP) (cs : List Cel) : Prop := ∃ tcl pcl,TmC b pb a.t tcl /\ ParC pb a.p pcl /\ cs = tcl ++ pcl
def mat (w h : Int) (v : AV) (x y : Int) (s : Bool) : List AV := [.int .i64 w,.int .i64 h,v,.int .i64 x,.int .i64 y,.bool s]
theorem mat_one {w h x y : Int} {v : AV} {s : Bool} (hv : v.one = true) : (mat w h v x y s).all AV.one = true := by
 simp only [mat,List.all_cons,hv,List.all_nil]
 rfl
def mayB (w h : Int) : Bool := decide (1 <= w) && decide (1 <= h) && decide (w <= 400) && decide (h <= 400)
theorem mayB_true {w h : Int} (c : mayB w h = true) : ∃ wn hn : Nat,w = wn /\ h = hn /\ (1 <= wn /\ wn <= 400) /\ 1 <= hn /\ hn <= 400 := by
 unfold mayB at c
 simp only [Bool.and_eq_true,decide_eq_true_eq] at c
 exact ⟨w.toNat,h.toNat,by omega,by omega,by omega,by omega⟩
theorem mayB_false {w h : Int} (c : mayB w h = false) : min w h < 1 \/ 400 < max w h := by
 unfold mayB at c
 simp only [Bool.and_eq_false_iff,decide_eq_false_iff_not] at c
 omega
def OwnR (base : Nat) (H : AHeap) (v : AV) (L : List Ce) (rest : List Cel) : Prop :=
 (L = [] /\ v = .nils /\ Hp base H rest) \/ (L ≠ [] /\ ∃ b,v = .slc b 0 L.length L.length /\ Hp base H (⟨b,7,rowV L⟩ :: rest))
section
variable {base : Nat} {H : AHeap} {l l' : List Cel} {v : AV} {L : List Ce}
theorem OwnR.hp (h : OwnR base H v L l) : Hp base H l := by
 rcases h with ⟨_,_,h⟩ | ⟨_,b,_,h⟩
 ·exact h
 ·exact h.drop
theorem OwnR.one (h : OwnR base H v L l) : v.one = true := by
 rcases h with ⟨_,rfl,_⟩ | ⟨_,b,rfl,_⟩ <;> rfl
theorem OwnR.push (h : OwnR base H v L l) {b : Nat} {R : List Ce} (hm : (⟨b,7,rowV R⟩ : Cel) ∈ l) (hR : R ≠ []) (hl : L.length + R.length <= 1000000) :
  ∃ H' v',appendE H 7 28 v (.slc b 0 R.length R.length) = some (v',H') /\ OwnR base H' v' (L ++ R) l /\ Keep base H H' := by
 have h0 : 0 < R.length := List.length_pos_iff.2 hR
 rcases h with ⟨rfl,rfl,h⟩ | ⟨hne,c,rfl,h⟩
 ·have src := h.src (b := b) (o := 0) (k' := 7) (pre := []) (post := []) (ys := rowV R) (by simpa using hm) rfl (k := 7) (m := R.length) (by rw [rowV_len]; omega) h0 (c := R.length)
  obtain ⟨H',s,g,k⟩ := h.appendK0 (k := 7) (bytes := 28) (by omega) src h0 (rowV_ones R) (by omega) (by omega)
  exact ⟨H',_,s,.inr ⟨by simpa using hR,H.next,by simp,by simpa using g⟩,k⟩
 ·have src := h.src (b := b) (o := 0) (k' := 7) (pre := []) (post := []) (ys := rowV R) (by simp [hm]) rfl (k := 7) (m := R.length) (by rw [rowV_len]; omega) h0 (c := R.length)
  have h' : Hp base H (⟨c,7,[] ++ rowV L⟩ :: l) := h
  obtain ⟨H',s,g,k⟩ := h'.appendK (o := 0) (n := L.length) (m := R.length) (bytes := 28) rfl (by rw [rowV_len]; omega) (by omega) src h0 (rowV_ones R) (by omega) (by omega)
  exact ⟨H',_,s,.inr ⟨by simp [hR],H.next,by simp,by rw [rowV_app]; exact g⟩,k⟩
theorem OwnR.store {u k : Nat} {cs : List AV} (h : OwnR base H v L (⟨u,k,cs⟩ :: l)) {o : Nat} {y : AV} (hy : y.one = true) (ho : o < cs.length) :
  ∃ H',storeE H 1 (.ptr u o) y = some (.undef,H') /\ OwnR base H' v L (⟨u,k,cs.set o y⟩ :: l) /\ Keep base H H' := by
 rcases h with ⟨h1,h2,h⟩ | ⟨h1,b,h2,h⟩
 ·obtain ⟨H',q1,q2,q3,_⟩ := h.store hy ho
  exact ⟨H',q1,.inl ⟨h1,h2,q2⟩,q3⟩
 ·obtain ⟨H',q1,q2,q3,_⟩ := h.swap.store hy ho
  exact ⟨H',q1,.inr ⟨h1,b,h2,q2.swap⟩,q3⟩
end
theorem resCell (e : Env) (H : AHeap) (i n : Nat) : resVal e H [.cell i (some n)] = loadV H (some n) (Env.get e i) := by
 simp only [resVal,resVals,ARes.val]
 show (match (match loadV H (some n) (Env.get e i) with | some v => some [v] | none => none) with | some [v] => some v | some vs => some (.tup vs) | none => none) = _
 cases loadV H (some n) (Env.get e i) <;> rfl
theorem seq7 (c : Ce) : seqV [1,1,1,1,1,1,1] true (.agg c.cs) (.agg c.cs) = some (.bool false) := by
 simp [seqV,ROp.run,Opd.ev,Ce.cs,At.cs,cellsEq]
section
variable {Q : Prog} (tq : TwQ Q) {H : AHeap} {base b pb : Nat}
include tq
set_option maxHeartbeats 4000000 in
theorem may_spec (w h : Int) : FnTo Q 12 [.int .i64 w,.int .i64 h] H (fun r H' => r = .bool (mayB w h) /\ H' = H) := by
 refine fn_wp (tq.at_.ho 12 rfl _) tq.q12 (by simp [A12]) ?_
 unfold mayB
 by_cases c1 : 1 <= w
 ·have d1 := decide_eq_true c1
  by_cases c2 : 1 <= h
  ·have d2 := decide_eq_true c2
   by_cases c3 : w <= 400
   ·have d3 := decide_eq_true c3
    simp only [A12,d1,d2,d3,Bool.and_self,Bool.true_and,SX,reduceCtorEq,Nat.reduceEqDiff,↓reduceIte]
   ·have d3 := decide_eq_false c3
    simp only [A12,d1,d2,d3,Bool.and_self,Bool.and_false,Bool.false_and,SX,reduceCtorEq,Nat.reduceEqDiff,↓reduceIte]
  ·have d2 := decide_eq_false c2
   simp only [A12,d1,d2,Bool.and_false,Bool.false_and,SX,reduceCtorEq,Nat.reduceEqDiff,↓reduceIte]
 ·have d1 := decide_eq_false c1
  simp only [A12,d1,Bool.false_and,SX,reduceCtorEq,Nat.reduceEqDiff,↓reduceIte]
set_option maxHeartbeats 4000000 in
theorem resize_spec {c12 : List AV} {l : List Cel} (h : Hp base H (⟨b,1,c12⟩ :: l)) (hl : c12.length = 12) (hp : c12[11]? = some (.ptr pb 0)) (w hh : Int) :
  FnTo Q 15 [.ptr b 0,.int .i64 w,.int .i64 hh] H (fun r H' => Keep base H H' /\ ((mayB w hh = false /\ r = .int .i64 1 /\ Hp base H' (⟨b,1,c12⟩ :: l)) \/ (mayB w hh = true /\ r = .int .i64 0 /\ ∃ cs,TmC b pb (Tm.new w.toNat hh.toNat) cs /\ Hp base H' (cs ++ l)))) := by
 refine fn_wp (tq.at_.ho 15 rfl _) tq.q15 (by simp [A15]) ?_
 have l11 := h.load (List.mem_cons_self ..) hp
 cases hm : mayB w hh with
 | false =>
  by_cases c1 : min w hh < 1
  ·have d1 := decide_eq_true c1
   simp only [A15,l11,d1,SX,reduceCtorEq,Nat.reduceEqDiff,↓reduceIte]
   exact ⟨Keep.refl _ _,.inl h⟩
  ·have d1 := decide_eq_false c1
   have d2 : decide (400 < max w hh) = true := decide_eq_true (by have := mayB_false hm; omega)
   simp only [A15,l11,d1,d2,SX,reduceCtorEq,Nat.reduceEqDiff,↓reduceIte]
   exact ⟨Keep.refl _ _,.inl h⟩
 | true =>
  obtain ⟨wn,hn,rfl,rfl,h1,h2⟩ := mayB_true hm
  have d1 : decide (min (wn : Int) (hn : Int) < 1) = false := decide_eq_false (by omega)
  have d2 : decide (400 < max (wn : Int) (hn : Int)) = false := decide_eq_false (by omega)
  obtain ⟨H1,s1,g1,k1,_⟩ := h.storeN (n := 12) (new := tcs (Tm.new wn hn) .nils pb) hl rfl rfl
  have bd : buildV [.int .i64 0,.int .i64 0,.nils,.int .i64 0,.int .i64 0,.int .u16 0,.int .u8 0,.int .u32 0,.int .u8 0,.int .u32 0,.bool false,.nilp] [(0,1,.int .i64 wn),(1,1,.int .i64 hn),(11,1,.ptr pb 0)] = some (.agg (tcs (Tm.new wn hn) .nils pb)) := rfl
  simp only [A15,l11,d1,d2,run_build,bd,s1,SX,reduceCtorEq,Nat.reduceEqDiff,↓reduceIte]
  refine (tblank_spec tq (t := Tm.new wn hn) g1 h1 h2).mono ?_
  rintro _ H2 ⟨k2,rb,M,hM,g2⟩
  simp only [Int.toNat_natCast,false_and,false_or,SX,↓reduceIte]
  exact ⟨k1.trans k2,_,⟨rb,M,hM,rfl⟩,g2⟩
set_option maxHeartbeats 4000000 in
theorem termNew_spec {l : List Cel} (h : Hp base H l) (w hh : Int) :
  FnTo Q 7 [.int .i64 w,.int .i64 hh] H (fun r H' => Keep base H H' /\ ((mayB w hh = false /\ r = .tup [.nilp,.int .i64 1] /\ Hp base H' l) \/ (mayB w hh = true /\ ∃ b pb cs,r = .tup [.ptr b 0,.int .i64 0] /\ TerC b pb (TP.new w.toNat hh.toNat) cs /\ Hp base H' (cs ++ l)))) := by
 refine fn_wp (tq.at_.ho 7 rfl _) tq.q7 (by simp [A7]) ?_
 simp only [A7,SX,↓reduceIte]
 refine (new_spec tq.ev tq.q21 h).mono ?_
 rintro _ H1 ⟨p,rfl,par1,k1⟩
 obtain ⟨pcl,hpc,g1⟩ := par1.get
 obtain ⟨C,hC⟩ : ∃ C : List AV,[AV.int .i64 0,.int .i64 0,.nils,.int .i64 0,.int .i64 0,.int .u16 0,.int .u8 0,.int .u32 0,.int .u8 0,.int .u32 0,.bool false,.ptr p 0] = C := ⟨_,rfl⟩
 have bd : buildV [.int .i64 0,.int .i64 0,.nils,.int .i64 0,.int .i64 0,.int .u16 0,.int .u8 0,.int .u32 0,.int .u8 0,.int .u32 0,.bool false,.nilp] [(11,1,.ptr p 0)] = some (.agg C) := by rw [<- hC]; rfl
 have bx : boxV (.agg C) = some (.row ⟨C,0,false,true,0⟩,.ptr) := by rw [<- hC]; rfl
 obtain ⟨H2,s2,g2,k2⟩ := g1.make C 1
 simp only [run_build,bd,bx,s2,SX,reduceCtorEq,Nat.reduceEqDiff,↓reduceIte]
 refine (resize_spec tq (pb := p) g2 (by rw [<- hC]; rfl) (by rw [<- hC]; rfl) w hh).mono ?_
 rintro r H3 ⟨k3,hr⟩
 rcases hr with ⟨hm,rfl,g3⟩ | ⟨hm,rfl,cs,hc,g3⟩
 ·have g4 : Hp base H3 l := g3.sub (by rw [<- List.cons_append]; exact List.sublist_append_right _ _)
  simp only [hm,SX,Nat.reduceEqDiff,↓reduceIte,Int.reduceEq]
  exact ⟨k1.trans (k2.trans k3),.inl g4⟩
 ·simp only [hm,SX,reduceCtorEq,Nat.reduceEqDiff,↓reduceIte]
  exact ⟨k1.trans (k2.trans k3),.inr ⟨_,p,cs ++ pcl,⟨rfl,⟨cs,pcl,hc,hpc,rfl⟩,by rw [List.append_assoc]; exact g3⟩⟩⟩
set_option maxHeartbeats 4000000 in
theorem termWaits_spec {a : TP} {cs l : List Cel} (hc : TerC b pb a cs) (h : Hp base H (cs ++ l)) : FnTo Q 19 [.ptr b 0] H (fun r H' => r = .bool (decide (a.p.st ≠ 0 \/ 0 < a.p.d.kept)) /\ H' = H) := by
 refine fn_wp (tq.at_.ho 19 rfl _) tq.q19 (by simp [A19]) ?_
 obtain ⟨tcl,pcl,⟨rb,M,hM,rfl⟩,hp,rfl⟩ := hc
 have l11 := h.load (b := b) (k := 1) (cs := tcs a.t (.slc rb 0 M.length M.length) pb) (by simp) (o := 11) (v := .ptr pb 0) rfl
 have par := hp.par (l := (⟨b,1,tcs a.t (.slc rb 0 M.length M.length) pb⟩ :: ⟨rb,1,rowsV M⟩ :: rowsC M) ++ l) (perm_c h fun a => by simp only [cnt_append]; omega)
 simp only [A19,l11,SX,reduceCtorEq,Nat.reduceEqDiff,↓reduceIte]
 refine (waits_spec tq.ev par).mono ?_
 rintro _ H' ⟨rfl,hH⟩
 rw [hH]
 simp only [SX,Nat.reduceEqDiff,↓reduceIte]
set_option maxHeartbeats 16000000 in
theorem matrix_spec {t : Tm} {cs l : List Cel} (k : t.Ok) (hc : TmC b pb t cs) (h : Hp base H (cs ++ l)) :
  FnTo Q 9 [.ptr b 0] H (fun r H' => Keep base H H' /\ ∃ cb,r = .agg (mat t.w t.h (.slc cb 0 t.rows.flatten.length t.rows.flatten.length) (if t.hid = true then 0 else ((min t.x (t.w - 1) : Nat) : Int)) (if t.hid = true then 0 else (t.y : Int)) (!t.hid)) /\ Hp base H' (⟨cb,7,rowV t.rows.flatten⟩ :: (cs ++ l))) := by
 refine fn_wp (tq.at_.ho 9 rfl _) tq.q9 (by simp [A9]) ?_
 obtain ⟨rb,M,hM,rfl⟩ := hc
 have kw := k.w
 have kh := k.h
 have h : Hp base H (⟨b,1,tcs t (.slc rb 0 M.length M.length) pb⟩ :: ⟨rb,1,rowsV M⟩ :: (rowsC M ++ l)) := h
 obtain ⟨F,hF⟩ : ∃ F,(⟨b,1,tcs t (.slc rb 0 M.length M.length) pb⟩ :: ⟨rb,1,rowsV M⟩ :: (rowsC M ++ l) : List Cel) = F := ⟨_,rfl⟩
 have hF' : ((⟨b,1,tcs t (.slc rb 0 M.length M.length) pb⟩ :: ⟨rb,1,rowsV M⟩ :: rowsC M) ++ l : List Cel) = F := hF
 have mb : (⟨b,1,tcs t (.slc rb 0 M.length M.length) pb⟩ : Cel) ∈ F := by rw [<- hF]; simp
 have mr : (⟨rb,1,rowsV M⟩ : Cel) ∈ F := by rw [<- hF]; simp
 have mc : ∀ x ∈ rowsC M,x ∈ F := fun x hx => by rw [<- hF]; exact List.mem_cons_of_mem _ (List.mem_cons_of_mem _ (List.mem_append_left _ hx))
 rw [hF']
 rw [hF] at h
 clear hF hF'
 have hMl : M.length = t.h := by rw [<- k.n,<- hM,List.length_map]
 obtain ⟨Z,hZ⟩ : ∃ Z : List AV,[AV.int .i64 0,.int .i64 0,.nils,.int .i64 0,.int .i64 0,.bool false] = Z := ⟨_,rfl⟩
 have hZl : Z.length = 6 := by rw [<- hZ]; rfl
 have lt : ∀ {H' L},Hp base H' L -> (⟨b,1,tcs t (.slc rb 0 M.length M.length) pb⟩ : Cel) ∈ L -> loadV H' Option.none (.ptr b 0) = some (.int .i64 t.w) /\ loadV H' Option.none (.ptr b 1) = some (.int .i64 t.h) /\ loadV H' Option.none (.ptr b 2) = some (.slc rb 0 M.length M.length) /\ loadV H' Option.none (.ptr b 3) = some (.int .i64 t.x) /\ loadV H' Option.none (.ptr b 4) = some (.int .i64 t.y) /\ loadV H' Option.none (.ptr b 10) = some (.bool t.hid) /\ loadV H' Option.none (.ptr b 11) = some (.ptr pb 0) := fun {H' L} g hm => ⟨g.load hm (o := 0) rfl,g.load hm (o := 1) rfl,g.load hm (o := 2) rfl,g.load hm (o := 3) rfl,g.load hm (o := 4) rfl,g.load hm (o := 10) rfl,g.load hm (o := 11) rfl⟩
 obtain ⟨H1,s1,g1,k1⟩ := h.make Z 6
 obtain ⟨u,hu⟩ : ∃ u,H.next = u := ⟨_,rfl⟩
 rw [hu] at g1
 obtain ⟨a0,a1,a2,_,_,_,a11⟩ := lt g1 (List.mem_cons_of_mem _ mb)
 obtain ⟨H2,s2,g2,k2⟩ := g1.make Z 6
 obtain ⟨v,hv⟩ : ∃ v,H1.next = v := ⟨_,rfl⟩
 rw [hv] at g2
 obtain ⟨H3,s3,g3,k3,_⟩ := g2.storeN (n := 6) (new := mat t.w t.h .nils 0 0 false) hZl rfl rfl
 obtain ⟨_,_,b2,_⟩ := lt g3 (by simp [mb])
 have bd : buildV Z [(0,1,.int .i64 t.w),(1,1,.int .i64 t.h)] = some (.agg (mat t.w t.h .nils 0 0 false)) := by rw [<- hZ]; rfl
 simp only [A9,hZ,run_allocL,s1,hu,a0,a1,a11,run_build,bd,s2,hv,s3,b2,SX,reduceCtorEq,Nat.reduceEqDiff,↓reduceIte]
 obtain ⟨I,hI⟩ : ∃ I : Nat -> Env -> AHeap -> Prop,∀ m e H',I m e H' ↔ (Keep base H H' /\ ∃ (i : Nat) (cv : AV),m = M.length - i /\ i <= M.length /\ OwnR base H' cv (t.rows.take i).flatten (⟨v,6,mat t.w t.h cv 0 0 false⟩ :: ⟨u,6,Z⟩ :: F) /\ Env.get e 0 = .ptr b 0 /\ Env.get e 2 = .ptr u 0 /\ Env.get e 3 = .ptr v 0 /\ Env.get e 28 = .slc rb 0 M.length M.length /\ Env.get e 29 = .int .i64 M.length /\ Env.get e 30 = .int .i64 i) := ⟨_,fun _ _ _ => Iff.rfl⟩
 refine loop_by I M.length ?_ ?_
 ·exact (hI _ _ _).2 ⟨k1.trans (k2.trans k3),0,.nils,rfl,by omega,.inl ⟨rfl,rfl,g3⟩,(by first | (simp only [SG,reduceCtorEq,↓reduceIte] <;> rfl) | rfl),(by first | (simp only [SG,reduceCtorEq,Nat.reduceEqDiff,↓reduceIte] <;> rfl) | rfl),(by first | (simp only [SG,reduceCtorEq,Nat.reduceEqDiff,↓reduceIte] <;> rfl) | rfl),(by first | (simp only [SG,Nat.reduceEqDiff,↓reduceIte] <;> rfl) | rfl),(by first | (simp only [SG,Nat.reduceEqDiff,↓reduceIte] <;> rfl) | rfl),(by first | (simp only [SG,↓reduceIte] <;> rfl) | rfl)⟩
 ·intro m e H4 hinv
  obtain ⟨k4,i,cv,rfl,hi,own,e0,e2,e3,e28,e29,e30⟩ := (hI _ _ _).1 hinv
  by_cases d : (i : Int) < (M.length : Int)
  ·have d1 := decide_eq_true d
   obtain ⟨x,hx⟩ : ∃ x,M[i]? = some x := ⟨_,List.getElem?_eq_getElem (by omega)⟩
   have hrow : t.rows[i]? = some x.2 := by rw [<- hM,List.getElem?_map,hx]; rfl
   have hxl : x.2.length = t.w := (k.r x.2 (List.mem_of_getElem? hrow)).1
   have hrv : (rowsV M)[i]? = some (.slc x.1 0 x.2.length x.2.length) := by simp only [rowsV,List.getElem?_map,hx,Option.map_some]
   have ix : idxSV 1 (.slc rb 0 M.length M.length) (.int .i64 i) = some (.ptr rb i) := by
    have := idxSV_slc (b := rb) (o := 0) (n := M.length) (cap := M.length) (k := .i64) (i := i) (by omega)
    rwa [Nat.zero_add] at this
   have lr := own.hp.load (b := rb) (k := 1) (cs := rowsV M) (by simp [mr]) hrv
   have l2 := own.hp.load (b := v) (k := 6) (cs := mat t.w t.h cv 0 0 false) (List.mem_cons_self ..) (o := 2) rfl
   have w1 : IntKind.wrap .i64 ((i : Int) + 1) = ((i + 1 : Nat) : Int) := wrapNat (n := i + 1) (by omega)
   have hfl : (t.rows.take i).flatten.length <= 400 * 400 := by
    have : ∀ (n : Nat) (L : List (List Ce)),(∀ l ∈ L,l.length = n) -> L.flatten.length = L.length * n := by
     intro n L hL
     induction L with
     | nil => simp
     | cons a L ih =>
      rw [List.flatten_cons,List.length_append,ih fun l hl => hL l (List.mem_cons_of_mem _ hl),hL a (List.mem_cons_self ..),List.length_cons,Nat.succ_mul]
      omega
    rw [this t.w _ fun l hl => (k.r l (List.mem_of_mem_take hl)).1]
    exact Nat.mul_le_mul (by simp; omega) kw.2
   obtain ⟨H5,v',s5,own5,k5⟩ := own.push (b := x.1) (R := x.2) (List.mem_cons_of_mem _ (List.mem_cons_of_mem _ (mc _ (List.mem_map.2 ⟨x,List.mem_of_getElem? hx,rfl⟩)))) (by intro e; rw [e] at hxl; simp at hxl; omega) (by omega)
   obtain ⟨H6,s6,own6,k6⟩ := own5.store (o := 2) (y := v') own5.one (by simp [mat])
   simp only [e3,e28,e29,e30,d1,ix,lr,l2,s5,s6,w1,SX,reduceCtorEq,Nat.reduceEqDiff,↓reduceIte]
   refine ⟨M.length - (i + 1),by omega,(hI _ _ _).2 ⟨k4.trans (k5.trans k6),i + 1,v',rfl,by omega,?_,(by simp only [SG,reduceCtorEq,↓reduceIte,e0] <;> rfl),(by simp only [SG,reduceCtorEq,Nat.reduceEqDiff,↓reduceIte,e2] <;> rfl),(by simp only [SG,reduceCtorEq,Nat.reduceEqDiff,↓reduceIte,e3] <;> rfl),(by simp only [SG,reduceCtorEq,Nat.reduceEqDiff,↓reduceIte,e28] <;> rfl),(by simp only [SG,reduceCtorEq,Nat.reduceEqDiff,↓reduceIte,e29] <;> rfl),(by first | (simp only [SG,↓reduceIte] <;> rfl) | rfl)⟩⟩
   have et : (t.rows.take (i + 1)).flatten = (t.rows.take i).flatten ++ x.2 := by
    rw [List.take_add_one,hrow]; simp
   rw [et]
   exact own6
  ·have d1 := decide_eq_false d
   obtain rfl : i = M.length := by omega
   have et : t.rows.take M.length = t.rows := by rw [hMl,<- k.n,List.take_length]
   rw [et] at own
   have lout : t.rows.flatten ≠ [] := by
    intro e
    obtain ⟨r0,hr0⟩ : ∃ r,t.rows[0]? = some r := ⟨_,List.getElem?_eq_getElem (by rw [k.n]; omega)⟩
    have := (k.r r0 (List.mem_of_getElem? hr0)).1
    have h2 := List.flatten_eq_nil_iff.1 e r0 (List.mem_of_getElem? hr0)
    rw [h2] at this; simp at this; omega
   rcases own with ⟨h0,_,_⟩ | ⟨_,cb,rfl,g4⟩
   ·exact absurd h0 lout
   obtain ⟨N,hN⟩ : ∃ N,t.rows.flatten.length = N := ⟨_,rfl⟩
   rw [hN] at g4 ⊢
   obtain ⟨_,_,_,_,_,c10,_⟩ := lt g4 (by simp [mb])
   have g5 : Hp base H4 (⟨v,6,mat t.w t.h (.slc cb 0 N N) 0 0 false⟩ :: ⟨cb,7,rowV t.rows.flatten⟩ :: ⟨u,6,Z⟩ :: F) := g4.swap
   have fin : ∀ {H5 : AHeap} {x y : Int} {s : Bool},Keep base H4 H5 -> Hp base H5 (⟨v,6,mat t.w t.h (.slc cb 0 N N) x y s⟩ :: ⟨cb,7,rowV t.rows.flatten⟩ :: ⟨u,6,Z⟩ :: F) -> ∃ H6,storeE H5 6 (.ptr u 0) (.agg (mat t.w t.h (.slc cb 0 N N) x y s)) = some (.undef,H6) /\ loadV H6 (some 6) (.ptr u 0) = some (.agg (mat t.w t.h (.slc cb 0 N N) x y s)) /\ Keep base H H6 /\ Hp base H6 (⟨cb,7,rowV t.rows.flatten⟩ :: F) := fun {H5} {x} {y} {s} kk g => by
    obtain ⟨H6,s6,g6,k6,_⟩ := (Hp.rot3 g).storeN (n := 6) (new := mat t.w t.h (.slc cb 0 N N) x y s) hZl rfl rfl
    exact ⟨H6,s6,g6.loadN (List.mem_cons_self ..) rfl,k4.trans (kk.trans k6),g6.drop.drop⟩
   cases hh : t.hid with
   | true =>
    rw [hh] at c10
    have l6 := g5.loadN (List.mem_cons_self ..) (n := 6) rfl
    obtain ⟨H6,s6,l7,k6,g6⟩ := fin (Keep.refl _ _) g5
    simp only [e0,e2,e3,e29,e30,d1,c10,l6,s6,l7,Bool.not_true,SX,reduceCtorEq,Nat.reduceEqDiff,↓reduceIte]
    exact ⟨k6,cb,rfl,g6⟩
   | false =>
    rw [hh] at c10
    obtain ⟨c0,_,_,c3,c4,_,_⟩ := lt g4 (by simp [mb])
    have w2 : IntKind.wrap .i64 ((t.w : Int) - 1) = ((t.w - 1 : Nat) : Int) := by rw [wrapI64 (by omega) (by omega)]; omega
    have w3 : min (t.x : Int) ((t.w - 1 : Nat) : Int) = ((min t.x (t.w - 1) : Nat) : Int) := by omega
    obtain ⟨H5,s5,h5,k5,_⟩ := g5.store (o := 3) (v := .int .i64 ((min t.x (t.w - 1) : Nat) : Int)) rfl (by simp [mat])
    obtain ⟨H6,s6,h6,k6,_⟩ := h5.store (o := 4) (v := .int .i64 (t.y : Int)) rfl (by simp [mat])
    obtain ⟨H7,s7,h7,k7,_⟩ := h6.store (o := 5) (v := .bool true) rfl (by simp [mat])
    have h7 : Hp base H7 (⟨v,6,mat t.w t.h (.slc cb 0 N N) ((min t.x (t.w - 1) : Nat) : Int) t.y true⟩ :: ⟨cb,7,rowV t.rows.flatten⟩ :: ⟨u,6,Z⟩ :: F) := h7
    obtain ⟨_,_,_,_,c45,_,_⟩ := lt h5 (by simp [mb])
    have l6 := h7.loadN (List.mem_cons_self ..) (n := 6) rfl
    obtain ⟨H8,s8,l8,k8,g8⟩ := fin (k5.trans (k6.trans k7)) h7
    simp only [e0,e3,e29,e30,d1,c10,c0,c3,c4,w2,w3,s5,SX,reduceCtorEq,Nat.reduceEqDiff,↓reduceIte]
    refine ⟨by simp only [echoOk,c45,same_int,Bool.and_self,SX,Nat.reduceEqDiff,↓reduceIte],?_⟩
    simp only [e2,e3,s6,s7,l6,s8,l8,SX,reduceCtorEq,Nat.reduceEqDiff,↓reduceIte]
    exact ⟨k8,cb,rfl,g8⟩
end
theorem evv_one (c : Option EvC) (h : ∀ a,c = some a -> PRv a.1.v a.1.L a.2) : ((c.map (fun a => a.1.cs)).getD zeroE).all AV.one = true /\ ((c.map (fun a => a.1.cs)).getD zeroE).length = 6 := by
 cases c with
 | none => exact ⟨rfl,rfl⟩
 | some a =>
  have h1 := (h a rfl).one
  refine ⟨?_,rfl⟩
  simp only [Option.map_some,Option.getD_some,Ev.cs,List.all_cons,List.all_nil,h1]; rfl
theorem next_opt {base : Nat} {H' : AHeap} {p : Nat} {s : PSt} {l : List Cel} {r : AV} (hr : (s.told = [] /\ r = .tup [.agg zeroE,.bool false] /\ Par base H' p s l) \/ ∃ (a : EvC) (rest : List PEv),s.told = a.1.pure :: rest /\ PRv a.1.v a.1.L a.2 /\ r = .tup [a.1.val,.bool true] /\ Par base H' p { s with told := rest } (a.2 ++ l)) :
  ∃ (cur : Option EvC) (R : List PEv),r = .tup [.agg ((cur.map (fun a => a.1.cs)).getD zeroE),.bool cur.isSome] /\ (∀ a,cur = some a -> PRv a.1.v a.1.L a.2) /\ (cur.toList.map (fun a => a.1.pure) ++ R = s.told) /\ (cur = Option.none -> R = []) /\ Par base H' p { s with told := R } ((cur.map (fun a => a.2)).getD [] ++ l) := by
 rcases hr with ⟨h1,h2,h3⟩ | ⟨a,rest,h1,h2,h3,h4⟩
 ·refine ⟨Option.none,[],h2,fun a h => (by cases h),by rw [h1]; rfl,fun _ => rfl,?_⟩
  have e : ({ s with told := [] } : PSt) = s := by rw [<- h1]
  rw [e]; exact h3
 ·exact ⟨some a,rest,h3,fun b hb => (by cases hb; exact h2),by rw [h1]; rfl,fun h => (by cases h),h4⟩
section
variable {Q : Prog} (tq : TwQ Q) {H : AHeap} {base b pb : Nat}
include tq
set_option maxHeartbeats 16000000 in
theorem termFeed_spec {a : TP} {cs l : List Cel} (ok : a.Ok) (hc : TerC b pb a cs) (h : Hp base H (cs ++ l)) (hT : Tabd base H) (s : List UInt8) (hs : s.length <= 100000) (hx : a.p.text.length + s.length <= 800000) :
  FnTo Q 8 [.ptr b 0,.str s] H (fun _ H' => Keep base H H' /\ ∃ cs',TerC b pb (a.feed s) cs' /\ Hp base H' (cs' ++ l)) := by
 refine fn_wp (tq.at_.ho 8 rfl _) tq.q8 (by simp [A8]) ?_
 obtain ⟨tcl,pcl,ht,hpc,rfl⟩ := hc
 have l11 : ∀ {H' : AHeap} {t : Tm} {tcl L : List Cel},TmC b pb t tcl -> Hp base H' L -> (∀ x ∈ tcl,x ∈ L) -> loadV H' Option.none (.ptr b 11) = some (.ptr pb 0) := fun {H'} {t} {tcl} {L} ht g hm => by
  obtain ⟨rb,M,hM,rfl⟩ := ht
  exact g.load (b := b) (k := 1) (cs := tcs t (.slc rb 0 M.length M.length) pb) (hm _ (List.mem_cons_self ..)) (o := 11) (v := .ptr pb 0) rfl
 have par := hpc.par (l := tcl ++ l) (perm_c h fun a => by simp only [cnt_append]; omega)
 have la := l11 ht par.hp (fun x hx => List.mem_append_left _ hx)
 have gd := PG.feed (t := s) ok.p
 obtain ⟨S,hS⟩ : ∃ S,a.p.feed s = S := ⟨_,rfl⟩
 have fe : a.feed s = ⟨a.t.run S.told,S.clr0⟩ := by unfold TP.feed; rw [hS]
 rw [fe]
 simp only [A8,la,SX,reduceCtorEq,Nat.reduceEqDiff,↓reduceIte]
 refine (feed_spec tq.ev (t := s) ok.p.g par (by rw [ok.e]; simp; omega) hx).mono ?_
 rintro _ H1 ⟨par1,k1⟩
 rw [hS] at par1 gd
 have lb := l11 ht par1.hp (fun x hx => List.mem_append_left _ hx)
 simp only [lb,SX,reduceCtorEq,↓reduceIte]
 refine (next_spec tq.ev par1).mono ?_
 rintro r H2 ⟨k2,hr⟩
 obtain ⟨cur,R,rfl,hcur,hall,hnone,par2⟩ := next_opt hr
 obtain ⟨H3,s3,par3,k3⟩ := par2.make zeroE 6
 have st : ∀ {H4 : AHeap} {q : Nat} {old : List AV} {c : Option EvC} {R : List PEv} {L : List Cel},(∀ a,c = some a -> PRv a.1.v a.1.L a.2) -> old.length = 6 -> Par base H4 pb { S with told := R } (⟨q,6,old⟩ :: L) -> ∃ H5,storeE H4 6 (.ptr q 0) (.agg ((c.map (fun a => a.1.cs)).getD zeroE)) = some (.undef,H5) /\ Par base H5 pb { S with told := R } (⟨q,6,(c.map (fun a => a.1.cs)).getD zeroE⟩ :: L) /\ Keep base H4 H5 := fun {H4} {q} {old} {c} {R} {L} hc ho g => by
  obtain ⟨r,hp,back⟩ := g.open
  obtain ⟨H5,s5,g5,k5,_⟩ := Hp.storeN (l := L ++ r) hp (n := 6) ho (evv_one c hc).2 (evv_one c hc).1
  exact ⟨H5,s5,back _ _ g5,k5⟩
 obtain ⟨H4,s4,par4,k4⟩ := st (old := zeroE) hcur rfl par3
 obtain ⟨q0,hq0⟩ : ∃ q,H2.next = q := ⟨_,rfl⟩
 rw [hq0] at s4 par4
 simp only [ex0,ex1,hzE,run_allocL,s3,hq0,s4,SX,reduceCtorEq,Nat.reduceEqDiff,↓reduceIte]
 obtain ⟨I,hI⟩ : ∃ I : Nat -> Env -> AHeap -> Prop,∀ m e H',I m e H' ↔ (Keep base H H' /\ ∃ (c : Option EvC) (R : List PEv) (t : Tm) (tcl : List Cel) (q : Nat),m = R.length + c.toList.length /\ TmC b pb t tcl /\ t.Ok /\ t.run (c.toList.map (fun a => a.1.pure) ++ R) = a.t.run S.told /\ (∀ e ∈ c.toList.map (fun a => a.1.pure) ++ R,EvG e) /\ (∀ a,c = some a -> PRv a.1.v a.1.L a.2) /\ (c = Option.none -> R = []) /\ Par base H' pb { S with told := R } (⟨q,6,(c.map (fun a => a.1.cs)).getD zeroE⟩ :: ((c.map (fun a => a.2)).getD [] ++ (tcl ++ l))) /\ Env.get e 0 = .ptr b 0 /\ Env.get e 4 = .ptr q 0 /\ Env.get e 5 = .bool c.isSome) := ⟨_,fun _ _ _ => Iff.rfl⟩
 refine loop_by I (R.length + cur.toList.length) ?_ ?_
 ·exact (hI _ _ _).2 ⟨k1.trans (k2.trans (k3.trans k4)),cur,R,a.t,tcl,q0,rfl,ht,ok.t,by rw [hall],fun e he => gd.t e (by rw [<- hall]; exact he),hcur,hnone,par4,(by first | (simp only [SG,reduceCtorEq,↓reduceIte] <;> rfl) | rfl),(by first | (simp only [SG,reduceCtorEq,Nat.reduceEqDiff,↓reduceIte] <;> rfl) | rfl),(by first | (simp only [SG,↓reduceIte] <;> rfl) | rfl)⟩
 ·clear s3 par3 s4 par4 hcur hall hnone par2 ht la lb
  intro m e H5 hinv
  obtain ⟨k5,c,R,t,tcl,q,rfl,ht,tok,hrun,hev,hcur,hnone,par5,e0,e4,e5⟩ := (hI _ _ _).1 hinv
  cases c with
  | none =>
   have hR := hnone rfl
   subst hR
   simp only [Option.isSome_none] at e5
   simp only [e5,SX,↓reduceIte]
   refine ⟨k5,?_⟩
   have p6 := par5.drop
   obtain ⟨pcl',hpc',g6⟩ := p6.get
   have hr2 : a.t.run S.told = t := by rw [<- hrun]; rfl
   refine ⟨tcl ++ pcl',⟨tcl,pcl',by rw [hr2]; exact ht,hpc',rfl⟩,perm_c g6 fun a => ?_⟩
   simp only [Option.map_none,Option.getD_none,List.nil_append,cnt_append]; omega
  | some v =>
   simp only [Option.isSome_some] at e5
   have hv := hcur v rfl
   have hg : EvG v.1.pure := hev _ (by simp)
   obtain ⟨pcl',hpc',g5⟩ := par5.get
   simp only [Option.map_some,Option.getD_some] at g5
   have g6 : Hp base H5 (tcl ++ (v.2 ++ (⟨q,6,v.1.cs⟩ :: (pcl' ++ l)))) := perm_c g5 fun a => by simp only [cnt_append,cnt_cons]; omega
   have lv : loadV H5 (some 6) (.ptr q 0) = some v.1.val := g6.loadN (b := q) (k := 6) (cs := v.1.cs) (by simp) (n := 6) rfl
   simp only [e0,e4,e5,lv,SX,reduceCtorEq,Nat.reduceEqDiff,↓reduceIte]
   refine (tdoes_spec tq tok ht hv hg g6 (hT.keep k5)).mono ?_
   rintro _ H6 ⟨k6,tcl',ht',g7⟩
   have lv7 : loadV H6 (some 6) (.ptr q 0) = some v.1.val := g7.loadN (b := q) (k := 6) (cs := v.1.cs) (by simp) (n := 6) rfl
   have p7 : Par base H6 pb { S with told := R } (⟨q,6,v.1.cs⟩ :: (v.2 ++ (tcl' ++ l))) := hpc'.par (perm_c g7 fun a => by simp only [cnt_append,cnt_cons]; omega)
   obtain ⟨H7,s7,p8,k7⟩ := p7.make zeroE 6
   obtain ⟨H8,s8,p9,k8⟩ := st (c := some v) (old := zeroE) hcur rfl p8
   have s8 : storeE H7 6 (.ptr H6.next 0) v.1.val = some (.undef,H8) := s8
   obtain ⟨q',hq'⟩ : ∃ q,H6.next = q := ⟨_,rfl⟩
   rw [hq'] at s8 p9
   have p10 : Par base H8 pb { S with told := R } (⟨q',6,v.1.cs⟩ :: (tcl' ++ l)) := by
    obtain ⟨r,hp,back⟩ := p9.open
    refine back _ _ ?_
    have hp2 : Hp base H8 ((⟨q,6,v.1.cs⟩ :: v.2) ++ ((⟨q',6,v.1.cs⟩ :: (tcl' ++ l)) ++ r)) := perm_c hp fun a => by simp only [Option.map_some,Option.getD_some,cnt_append,cnt_cons]; omega
    exact hp2.sub (List.sublist_append_right _ _)
   have l8 := l11 ht' p10.hp (fun x hx => List.mem_cons_of_mem _ (List.mem_append_left _ hx))
   simp only [e0,e4,lv7,run_allocL,s7,hq',s8,l8,SX,reduceCtorEq,Nat.reduceEqDiff,↓reduceIte]
   refine (next_spec tq.ev p10).mono ?_
   rintro r H9 ⟨k9,hr⟩
   obtain ⟨c2,R2,rfl,hcur2,hall2,hnone2,p11⟩ := next_opt hr
   have p12 : Par base H9 pb { S with told := R2 } (⟨q',6,v.1.cs⟩ :: ((c2.map (fun a => a.2)).getD [] ++ (tcl' ++ l))) := p11.re fun a => by simp only [cnt_append,cnt_cons]; omega
   obtain ⟨H10,s10,p13,k10⟩ := st (c := c2) (old := v.1.cs) hcur2 rfl p12
   simp only [ex0,ex1,s10,SX,reduceCtorEq,Nat.reduceEqDiff,↓reduceIte]
   have hall2 : c2.toList.map (fun a => a.1.pure) ++ R2 = R := hall2
   have hm : R2.length + c2.toList.length < R.length + (some v).toList.length := by
    have := congrArg List.length hall2
    simp only [List.length_append,List.length_map] at this
    simp only [Option.toList_some,List.length_cons,List.length_nil]
    omega
   refine ⟨_,hm,(hI _ _ _).2 ⟨k5.trans (k6.trans (k7.trans (k8.trans (k9.trans k10)))),c2,R2,_,tcl',q',rfl,ht',does_ok tok hg,?_,?_,hcur2,hnone2,p13,(by simp only [SG,reduceCtorEq,↓reduceIte,e0] <;> rfl),(by first | (simp only [SG,reduceCtorEq,Nat.reduceEqDiff,↓reduceIte] <;> rfl) | rfl),(by first | (simp only [SG,↓reduceIte] <;> rfl) | rfl)⟩⟩
   ·rw [hall2,<- hrun]; rfl
   ·rw [hall2]; exact fun e he => hev e (by simp [he])
set_option maxHeartbeats 8000000 in
theorem same_spec {w h x y : Int} {s : Bool} {v v' : AV} {l : List Ce} (hf : Fr H) (h1 : RowS H v l) (h2 : RowS H v' l) (hl : l.length <= 1000000) : FnTo Q 17 [.agg (mat w h v x y s),.agg (mat w h v' x y s)] H (fun r H' => r = .bool true /\ Gr H H') := by
 refine fn_wp (tq.at_.ho 17 rfl _) tq.q17 (by simp [A17]) ?_
 have o1 : v.one = true := by rcases h1 with ⟨rfl,_⟩ | ⟨_,_,_,_,rfl,_⟩ <;> rfl
 have o2 : v'.one = true := by rcases h2 with ⟨rfl,_⟩ | ⟨_,_,_,_,rfl,_⟩ <;> rfl
 have bx : ∀ {v : AV},v.one = true -> boxV (.agg (mat w h v x y s)) = some (.row ⟨mat w h v x y s,0,false,true,0⟩,.ptr) := fun {v} hv => boxV_agg (mat_one hv)
 have b1 := bx o1
 have b2 := bx o2
 obtain ⟨H1,s1,g1,k1⟩ := (Hp.nil H hf).make (mat w h v x y s) 6
 obtain ⟨p,hp⟩ : ∃ p,H.next = p := ⟨_,rfl⟩
 rw [hp] at g1
 obtain ⟨H2,s2,g2,k2⟩ := g1.make (mat w h v' x y s) 6
 obtain ⟨q,hq⟩ : ∃ q,H1.next = q := ⟨_,rfl⟩
 rw [hq] at g2
 have gr : Gr H H2 := by rw [<- hp] at g2; rw [<- hp] at k2; exact g2.gr (k1.trans k2)
 have m1 : (⟨p,6,mat w h v x y s⟩ : Cel) ∈ [⟨q,6,mat w h v' x y s⟩,⟨p,6,mat w h v x y s⟩] := by simp
 have a0 := g2.load m1 (o := 0) rfl
 have a1 := g2.load m1 (o := 1) rfl
 have a2 := g2.load m1 (o := 2) rfl
 have a3 := g2.load m1 (o := 3) rfl
 have a4 := g2.load m1 (o := 4) rfl
 have a5 := g2.load m1 (o := 5) rfl
 have c0 := g2.load (List.mem_cons_self ..) (o := 0) rfl
 have c1 := g2.load (List.mem_cons_self ..) (o := 1) rfl
 have c2 := g2.load (List.mem_cons_self ..) (o := 2) rfl
 have c3 := g2.load (List.mem_cons_self ..) (o := 3) rfl
 have c4 := g2.load (List.mem_cons_self ..) (o := 4) rfl
 have c5 := g2.load (List.mem_cons_self ..) (o := 5) rfl
 have ln1 := h1.len H2
 have ln2 := h2.len H2
 have bq : (true ^^ (s == s)) = false := by cases s <;> rfl
 have bq2 : beqV true (.bool s) (.bool s) = some (.bool false) := by cases s <;> rfl
 have r1 := h1.grow hf gr
 have r2 := h2.grow hf gr
 simp only [A17,b1,b2,s1,hp,s2,hq,a0,a1,a2,a3,a4,a5,c0,c1,c2,c3,c4,c5,ln1,ln2,bq2,SX,Nat.reduceEqDiff,↓reduceIte]
 obtain ⟨I,hI⟩ : ∃ I : Nat -> Env -> AHeap -> Prop,∀ m e H',I m e H' ↔ (H' = H2 /\ ∃ i : Nat,m = l.length - i /\ i <= l.length /\ Env.get e 2 = .ptr p 0 /\ Env.get e 3 = .ptr q 0 /\ Env.get e 5 = .int .i64 i) := ⟨_,fun _ _ _ => Iff.rfl⟩
 refine loop_by I l.length ?_ ?_
 ·exact (hI _ _ _).2 ⟨rfl,0,rfl,by omega,(by first | (simp only [SG,Nat.reduceEqDiff,↓reduceIte] <;> rfl) | rfl),(by first | (simp only [SG,Nat.reduceEqDiff,↓reduceIte] <;> rfl) | rfl),(by first | (simp only [SG,↓reduceIte] <;> rfl) | rfl)⟩
 ·intro m e H' hinv
  obtain ⟨hH,i,rfl,hi,e2,e3,e5⟩ := (hI _ _ _).1 hinv
  rw [hH]
  by_cases d : (i : Int) < (l.length : Int)
  ·have d1 := decide_eq_true d
   obtain ⟨c,hc⟩ : ∃ c,l[i]? = some c := ⟨_,List.getElem?_eq_getElem (by omega)⟩
   obtain ⟨bb,pp,ix,l7,_⟩ := r1.cell hc .i64
   obtain ⟨bb',pp',ix',l7',_⟩ := r2.cell hc .i64
   have w1 : IntKind.wrap .i64 ((i : Int) + 1) = ((i + 1 : Nat) : Int) := wrapNat (n := i + 1) (by omega)
   have sq := seq7 c
   simp only [e2,e3,e5,a2,c2,ln1,d1,ix,l7,ix',l7',run_seq,sq,w1,SX,Nat.reduceEqDiff,↓reduceIte]
   exact ⟨l.length - (i + 1),by omega,(hI _ _ _).2 ⟨rfl,i + 1,rfl,by omega,(by simp only [SG,Nat.reduceEqDiff,↓reduceIte,e2] <;> rfl),(by simp only [SG,Nat.reduceEqDiff,↓reduceIte,e3] <;> rfl),(by first | (simp only [SG,↓reduceIte] <;> rfl) | rfl)⟩⟩
  ·have d1 := decide_eq_false d
   simp only [e2,e5,a2,ln1,d1,SX,Nat.reduceEqDiff,↓reduceIte]
   exact gr
end
structure NxF (st a n : Int) : Prop where
 ten : n = 10 -> st = 10 \/ ((st = 7 \/ st = 8 \/ st = 9) /\ a = 7)
 mid : (n = 8 \/ n = 9) -> st = 7 \/ st = 8 \/ st = 9
 put : a = 8 -> n = st /\ (st = 10 \/ st = 12)
 grd : st = 0 -> (n = 0 /\ (a = 0 \/ a = 1 \/ a = 2)) \/ n = 1
 act : 0 <= a /\ a <= 8
theorem nxF_mk {st a n x y : Int} (hx : x = a) (hy : y = n) (h : (a = 2 /\ n = 0) \/ (a = 0 /\ n = 1)) : NxF st x y := by
 subst hx hy
 constructor <;> omega
theorem nxF_escape (c : Int) : NxF 1 (nEscape c).1 (nEscape c).2 := by
 have : ((nEscape c).1 = 2 \/ (nEscape c).1 = 3 \/ (nEscape c).1 = 0 \/ (nEscape c).1 = 5) /\ ((nEscape c).2 = 1 \/ (nEscape c).2 = 2 \/ (nEscape c).2 = 7 \/ (nEscape c).2 = 3 \/ (nEscape c).2 = 12 \/ (nEscape c).2 = 13 \/ (nEscape c).2 = 0) := by
  unfold nEscape
  (repeat' split) <;> simp
 constructor <;> omega
theorem nxF_inter (c : Int) : NxF 2 (nInter c).1 (nInter c).2 := by
 have : ((nInter c).1 = 2 \/ (nInter c).1 = 3 \/ (nInter c).1 = 0 \/ (nInter c).1 = 5) /\ ((nInter c).2 = 2 \/ (nInter c).2 = 0) := by
  unfold nInter
  (repeat' split) <;> simp
 constructor <;> omega
theorem nxF_let (c : Int) : NxF 6 (nLet c).1 (nLet c).2 := by
 have : ((nLet c).1 = 2 \/ (nLet c).1 = 0) /\ ((nLet c).2 = 6 \/ (nLet c).2 = 0) := by
  unfold nLet
  (repeat' split) <;> simp
 constructor <;> omega
theorem nxF_ground (c : Int) {st : Int} : NxF st (nGround c).1 (nGround c).2 := by
 have : ((nGround c).1 = 2 \/ (nGround c).1 = 0 \/ (nGround c).1 = 1) /\ (nGround c).2 = 0 := by
  unfold nGround
  (repeat' split) <;> simp
 constructor <;> omega
theorem nxF_text (c : Int) {st : Int} (h : st = 10 \/ st = 11 \/ st = 12 \/ st = 13) : NxF st (nText st c).1 (nText st c).2 := by
 have : ((nText st c).1 = 0 /\ ((nText st c).2 = st \/ (nText st c).2 = 0)) \/ ((nText st c).1 = 8 /\ (nText st c).2 = st /\ (st = 10 \/ st = 12)) := by
  unfold nText
  (repeat' split) <;> simp <;> omega
 constructor <;> omega
theorem nxF_csi (c : Int) {st : Int} (h : st = 3 \/ st = 4 \/ st = 5) : NxF st (nSeq c st 5 4 6 6).1 (nSeq c st 5 4 6 6).2 := by
 have : ((nSeq c st 5 4 6 6).1 = 2 \/ (nSeq c st 5 4 6 6).1 = 0 \/ (nSeq c st 5 4 6 6).1 = 3 \/ (nSeq c st 5 4 6 6).1 = 4 \/ (nSeq c st 5 4 6 6).1 = 6) /\ ((nSeq c st 5 4 6 6).2 = st \/ (nSeq c st 5 4 6 6).2 = 5 \/ (nSeq c st 5 4 6 6).2 = 4 \/ (nSeq c st 5 4 6 6).2 = 6 \/ (nSeq c st 5 4 6 6).2 = 0) := by
  unfold nSeq
  simp only [if_true]
  (repeat' split) <;> simp
 constructor <;> omega
theorem nxF_dcs (c : Int) {st : Int} (h : st = 7 \/ st = 8 \/ st = 9) : NxF st (nSeq c st 9 8 11 7).1 (nSeq c st 9 8 11 7).2 := by
 have : (((nSeq c st 9 8 11 7).1 = 0 \/ (nSeq c st 9 8 11 7).1 = 3 \/ (nSeq c st 9 8 11 7).1 = 4) /\ ((nSeq c st 9 8 11 7).2 = st \/ (nSeq c st 9 8 11 7).2 = 9 \/ (nSeq c st 9 8 11 7).2 = 8 \/ (nSeq c st 9 8 11 7).2 = 11)) \/ ((nSeq c st 9 8 11 7).1 = 7 /\ (nSeq c st 9 8 11 7).2 = 10) := by
  unfold nSeq
  rw [if_neg (show ¬ (7 : Int) = 6 by omega),if_neg (show ¬ (7 : Int) = 6 by omega)]
  (repeat' split) <;> simp
 constructor <;> omega
theorem nxF {st : Int} (c : Int) (h : 0 <= st /\ st <= 13) : NxF st (nx st c).1 (nx st c).2 := by
 unfold nx
 by_cases c1 : c = 24
 ·rw [if_pos c1]; exact nxF_mk rfl rfl (by omega)
 rw [if_neg c1]
 by_cases c2 : c = 26
 ·rw [if_pos c2]; exact nxF_mk rfl rfl (by omega)
 rw [if_neg c2]
 by_cases c3 : c = 27
 ·rw [if_pos c3]; exact nxF_mk rfl rfl (by omega)
 rw [if_neg c3]
 by_cases s1 : st = 1
 ·rw [if_pos s1,s1]; exact nxF_escape c
 rw [if_neg s1]
 by_cases s2 : st = 2
 ·rw [if_pos s2,s2]; exact nxF_inter c
 rw [if_neg s2]
 by_cases s3 : st = 3 \/ st = 4 \/ st = 5
 ·rw [if_pos s3]; exact nxF_csi c s3
 rw [if_neg s3]
 by_cases s4 : st = 6
 ·rw [if_pos s4,s4]; exact nxF_let c
 rw [if_neg s4]
 by_cases s5 : st = 7 \/ st = 8 \/ st = 9
 ·rw [if_pos s5]; exact nxF_dcs c s5
 rw [if_neg s5]
 by_cases s6 : st = 10 \/ st = 11 \/ st = 12 \/ st = 13
 ·rw [if_pos s6]; exact nxF_text c s6
 rw [if_neg s6]
 exact nxF_ground c
structure Eqv (X Y : PSt) : Prop where
 st : X.st = Y.st
 d : X.d = Y.d
 told : X.told = Y.told
 rest : X.st ≠ 0 -> X.ps = Y.ps /\ X.mids = Y.mids /\ X.many = Y.many /\ X.text = Y.text /\ X.long = Y.long
 fin : X.st = 10 -> X.fin = Y.fin
structure Eq1 (X Y : PSt) : Prop where
 st : X.st = Y.st
 d : X.d = Y.d
 told : X.told = Y.told
 ps : X.ps = Y.ps
 mids : X.mids = Y.mids
 many : X.many = Y.many
 text : X.text = Y.text
 long : X.long = Y.long
theorem Eq1.eq {X Y : PSt} (h : Eq1 X Y) : Y = { X with fin := Y.fin } := by
 obtain ⟨h1,h2,h3,h4,h5,h6,h7,h8⟩ := h
 cases X; cases Y
 simp only at *
 subst h1 h2 h3 h4 h5 h6 h7 h8
 rfl
theorem Eqv.one {X Y : PSt} (h : Eqv X Y) (h0 : X.st ≠ 0) : Eq1 X Y := by
 obtain ⟨r1,r2,r3,r4,r5⟩ := h.rest h0
 exact ⟨h.st,h.d,h.told,r1,r2,r3,r4,r5⟩
theorem endS_fin (X : PSt) (f : Int) : ({ X with fin := f } : PSt).endS = { X.endS with fin := f } := by
 unfold PSt.endS
 by_cases h : X.d.kept = 0
 ·rw [if_pos h,if_pos (show ({ X with fin := f } : PSt).d.kept = 0 from h)]
 ·rw [if_neg h,if_neg (show ¬ ({ X with fin := f } : PSt).d.kept = 0 from h)]
theorem stopS_fin (X : PSt) (f : Int) (c : UInt8) (h : X.st ≠ 10) (h2 : X.st = 12) : ({ X with fin := f } : PSt).stopS c = { X.stopS c with fin := f } := by
 unfold PSt.stopS
 by_cases h1 : c = 24 \/ c = 26 \/ X.long = true
 ·rw [if_pos h1,if_pos (show c = 24 \/ c = 26 \/ ({ X with fin := f } : PSt).long = true from h1)]
 ·rw [if_neg h1,if_neg (show ¬ (c = 24 \/ c = 26 \/ ({ X with fin := f } : PSt).long = true) from h1),if_pos h2,if_pos (show ({ X with fin := f } : PSt).st = 12 from h2)]
  rfl
theorem overS_fin (X : PSt) (f a : Int) (c : UInt8) : ({ X with fin := f } : PSt).overS a c = { X.overS a c with fin := f } := by
 unfold PSt.overS
 by_cases h1 : X.many = true \/ (a = 5 /\ c = 92 /\ X.mids = [])
 ·rw [if_pos h1,if_pos (show ({ X with fin := f } : PSt).many = true \/ (a = 5 /\ c = 92 /\ ({ X with fin := f } : PSt).mids = []) from h1)]
 ·rw [if_neg h1,if_neg (show ¬ (({ X with fin := f } : PSt).many = true \/ (a = 5 /\ c = 92 /\ ({ X with fin := f } : PSt).mids = [])) from h1)]
  by_cases h2 : a = 5
  ·rw [if_pos h2,if_pos h2]; rfl
  ·rw [if_neg h2,if_neg h2]; rfl
theorem doesS_fin (X : PSt) (f a : Int) (c : UInt8) : ({ X with fin := f } : PSt).doesS a c = { X.doesS a c with fin := if a = 7 then (c.toNat : Int) else f } := by
 by_cases h7 : a = 7
 ·subst h7
  unfold PSt.doesS
  simp only [Int.reduceEq,if_false,if_true]
 have hf : (if a = 7 then (c.toNat : Int) else f) = f := if_neg h7
 rw [hf]
 unfold PSt.doesS
 by_cases h1 : a = 1
 ·rw [if_pos h1,if_pos h1]; rfl
 rw [if_neg h1,if_neg h1]
 by_cases h2 : a = 2
 ·rw [if_pos h2,if_pos h2]; rfl
 rw [if_neg h2,if_neg h2]
 by_cases h3 : a = 3
 ·rw [if_pos h3,if_pos h3]
  unfold PSt.midS
  by_cases hh : X.many = true \/ X.mids.length = 2
  ·rw [if_pos hh,if_pos (show ({ X with fin := f } : PSt).many = true \/ ({ X with fin := f } : PSt).mids.length = 2 from hh)]
  ·rw [if_neg hh,if_neg (show ¬ (({ X with fin := f } : PSt).many = true \/ ({ X with fin := f } : PSt).mids.length = 2) from hh)]
 rw [if_neg h3,if_neg h3]
 by_cases h4 : a = 4
 ·rw [if_pos h4,if_pos h4]
 rw [if_neg h4,if_neg h4]
 by_cases h5 : a = 5
 ·rw [if_pos h5,if_pos h5,overS_fin]
 rw [if_neg h5,if_neg h5]
 by_cases h6 : a = 6
 ·rw [if_pos h6,if_pos h6,overS_fin]
 rw [if_neg h6,if_neg h6,if_neg h7,if_neg h7]
 by_cases h8 : a = 8
 ·rw [if_pos h8,if_pos h8]
  unfold PSt.putS
  by_cases hh : X.long = true \/ X.text.length = (if X.st = 12 then 1024 else 256)
  ·rw [if_pos hh,if_pos (show ({ X with fin := f } : PSt).long = true \/ ({ X with fin := f } : PSt).text.length = (if ({ X with fin := f } : PSt).st = 12 then 1024 else 256) from hh)]
  ·rw [if_neg hh,if_neg (show ¬ (({ X with fin := f } : PSt).long = true \/ ({ X with fin := f } : PSt).text.length = (if ({ X with fin := f } : PSt).st = 12 then 1024 else 256)) from hh)]
 ·rw [if_neg h8,if_neg h8]
theorem step_fin (X : PSt) (f : Int) (c : UInt8) (h10 : X.st ≠ 10) : ({ X with fin := f } : PSt).step c = { X.step c with fin := if (nx X.st c.toNat).1 = 7 then (c.toNat : Int) else f } := by
 have e1 : ({ X with fin := f } : PSt).step1 c = { X.step1 c with fin := f } := by
  unfold PSt.step1
  by_cases h : (nx X.st c.toNat).1 ≠ 1
  ·rw [if_pos h,if_pos (show (nx ({ X with fin := f } : PSt).st c.toNat).1 ≠ 1 from h),endS_fin]
  ·rw [if_neg h,if_neg (show ¬ (nx ({ X with fin := f } : PSt).st c.toNat).1 ≠ 1 from h)]
 have hs1 : (X.step1 c).st = X.st := by
  unfold PSt.step1 PSt.endS
  (repeat' split) <;> rfl
 have e2 : ∀ n,({ X.step1 c with fin := f } : PSt).step2 n c = { (X.step1 c).step2 n c with fin := f } := by
  intro n
  unfold PSt.step2
  by_cases h : n ≠ (X.step1 c).st /\ ((X.step1 c).st = 10 \/ (X.step1 c).st = 12)
  ·rw [if_pos h,if_pos (show n ≠ ({ X.step1 c with fin := f } : PSt).st /\ (({ X.step1 c with fin := f } : PSt).st = 10 \/ ({ X.step1 c with fin := f } : PSt).st = 12) from h),stopS_fin _ _ _ (by rw [hs1]; exact h10) (h.2.resolve_left (by rw [hs1]; exact h10))]
  ·rw [if_neg h,if_neg (show ¬ (n ≠ ({ X.step1 c with fin := f } : PSt).st /\ (({ X.step1 c with fin := f } : PSt).st = 10 \/ ({ X.step1 c with fin := f } : PSt).st = 12)) from h)]
 have e3 : ∀ (Z : PSt) n,({ Z with fin := f } : PSt).step3 n = { Z.step3 n with fin := f } := by
  intro Z n
  unfold PSt.step3
  by_cases h : n ≠ Z.st /\ (n = 1 \/ n = 3 \/ n = 7 \/ n = 12)
  ·rw [if_pos h,if_pos (show n ≠ ({ Z with fin := f } : PSt).st /\ (n = 1 \/ n = 3 \/ n = 7 \/ n = 12) from h)]; rfl
  ·rw [if_neg h,if_neg (show ¬ (n ≠ ({ Z with fin := f } : PSt).st /\ (n = 1 \/ n = 3 \/ n = 7 \/ n = 12)) from h)]
 unfold PSt.step
 have hst : ({ X with fin := f } : PSt).st = X.st := rfl
 rw [hst,e1,e2,e3,doesS_fin]
theorem step_st (X : PSt) (c : UInt8) : (X.step c).st = (nx X.st c.toNat).2 := rfl
theorem doesS_fin7 (X : PSt) (c : UInt8) : (X.doesS 7 c).fin = c.toNat := by
 unfold PSt.doesS
 simp only [Int.reduceEq,if_false,if_true]
theorem endS_eq {X Y : PSt} (hd : X.d = Y.d) (ht : X.told = Y.told) : X.endS.d = Y.endS.d /\ X.endS.told = Y.endS.told := by
 unfold PSt.endS
 by_cases h : X.d.kept = 0
 ·rw [if_pos h,if_pos (by rw [<- hd]; exact h)]; exact ⟨hd,ht⟩
 ·rw [if_neg h,if_neg (by rw [<- hd]; exact h)]; exact ⟨rfl,by simp only [ht]⟩
theorem Eqv.step {X Y : PSt} (hX : X.Good) (h : Eqv X Y) (c : UInt8) : Eqv (X.step c) (Y.step c) := by
 have F := nxF c.toNat hX.st
 by_cases h0 : X.st = 0
 ·have hY0 : Y.st = 0 := by rw [<- h.st]; exact h0
  have s1 : (X.step1 c).d = (Y.step1 c).d /\ (X.step1 c).told = (Y.step1 c).told := by
   unfold PSt.step1
   rw [h0,hY0]
   by_cases hh : (nx 0 c.toNat).1 ≠ 1
   ·rw [if_pos hh,if_pos hh]; exact endS_eq h.d h.told
   ·rw [if_neg hh,if_neg hh]; exact ⟨h.d,h.told⟩
  have x1 : (X.step1 c).st = 0 := by rw [(Good.step1 hX c).2.2.1,h0]
  have y1 : (Y.step1 c).st = 0 := by
   unfold PSt.step1 PSt.endS
   (repeat' split) <;> exact hY0
  have x2 : ∀ n,(X.step1 c).step2 n c = X.step1 c := fun n => by unfold PSt.step2; rw [if_neg (by rw [x1]; omega)]
  have y2 : ∀ n,(Y.step1 c).step2 n c = Y.step1 c := fun n => by unfold PSt.step2; rw [if_neg (by rw [y1]; omega)]
  have hnx : nx Y.st c.toNat = nx X.st c.toNat := by rw [h0,hY0]
  rcases F.grd h0 with ⟨hn,ha⟩ | hn
  ·have x3 : (X.step1 c).step3 (nx X.st c.toNat).2 = X.step1 c := by unfold PSt.step3; rw [if_neg (by rw [x1,hn]; omega)]
   have y3 : (Y.step1 c).step3 (nx X.st c.toNat).2 = Y.step1 c := by unfold PSt.step3; rw [if_neg (by rw [y1,hn]; omega)]
   have dd : ((X.step1 c).doesS (nx X.st c.toNat).1 c).d = ((Y.step1 c).doesS (nx X.st c.toNat).1 c).d /\ ((X.step1 c).doesS (nx X.st c.toNat).1 c).told = ((Y.step1 c).doesS (nx X.st c.toNat).1 c).told := by
    rcases ha with ha | ha | ha <;> rw [ha] <;> unfold PSt.doesS <;> simp only [Int.reduceEq,if_false,if_true]
    ·exact s1
    ·simp only [PSt.prints,s1.1,s1.2,and_self]
    ·simp only [PSt.tell,s1.1,s1.2,and_self]
   refine ⟨?_,?_,?_,?_,?_⟩
   ·rw [step_st,step_st,hnx]
   ·unfold PSt.step; rw [hnx,x2,y2,x3,y3]; exact dd.1
   ·unfold PSt.step; rw [hnx,x2,y2,x3,y3]; exact dd.2
   ·intro hh; rw [step_st,hn] at hh; exact absurd rfl hh
   ·intro hh; rw [step_st,hn] at hh; omega
  ·have x3 : (X.step1 c).step3 (nx X.st c.toNat).2 = (X.step1 c).clrS := by unfold PSt.step3; rw [if_pos ⟨by rw [x1,hn]; omega,.inl hn⟩]
   have y3 : (Y.step1 c).step3 (nx X.st c.toNat).2 = (Y.step1 c).clrS := by unfold PSt.step3; rw [if_pos ⟨by rw [y1,hn]; omega,.inl hn⟩]
   have e1 : Eq1 (X.step1 c).clrS (Y.step1 c).clrS := ⟨by show (X.step1 c).st = (Y.step1 c).st; rw [x1,y1],s1.1,s1.2,rfl,rfl,rfl,rfl,rfl⟩
   have e2 := e1.eq
   have e3 : (Y.step c) = { X.step c with fin := (Y.step c).fin } := by
    have : Y.step c = { X.step c with fin := if (nx X.st c.toNat).1 = 7 then (c.toNat : Int) else (Y.step1 c).clrS.fin } := by
     unfold PSt.step
     rw [hnx,x2,y2,x3,y3,e2,doesS_fin]
    rw [this]
   rw [e3]
   exact ⟨rfl,rfl,rfl,fun _ => ⟨rfl,rfl,rfl,rfl,rfl⟩,fun hh => by rw [step_st,hn] at hh; omega⟩
 ·have e := (h.one h0).eq
  by_cases h10 : X.st = 10
  ·have : Y = X := by rw [e,<- h.fin h10]
   rw [this]
   exact ⟨rfl,rfl,rfl,fun _ => ⟨rfl,rfl,rfl,rfl,rfl⟩,fun _ => rfl⟩
  ·have e2 := step_fin X Y.fin c h10
   rw [<- e] at e2
   rw [e2]
   refine ⟨rfl,rfl,rfl,fun _ => ⟨rfl,rfl,rfl,rfl,rfl⟩,fun hh => ?_⟩
   rw [step_st] at hh
   have h7 := (F.ten hh).resolve_left h10
   simp only [h7.2,if_true]
   unfold PSt.step
   simp only [h7.2]
   exact doesS_fin7 _ c
theorem Eqv.feed : ∀ {t : List UInt8} {X Y : PSt},X.Good -> Eqv X Y -> Eqv (X.feed t) (Y.feed t)
 | [],X,Y,_,h => h
 | c :: t,X,Y,hg,h => Eqv.feed (t := t) (Good.step hg c).1 (h.step hg c)
theorem flat_len : ∀ {L : List (List Ce)} {n : Nat},(∀ l ∈ L,l.length = n) -> L.flatten.length = L.length * n
 | [],n,_ => by simp
 | a :: L,n,h => by
  rw [List.flatten_cons,List.length_append,flat_len fun l hl => h l (List.mem_cons_of_mem _ hl),h a (List.mem_cons_self ..),List.length_cons,Nat.succ_mul]
  omega
end Go.Proofs.YtfbcgjpblomckaaDoor.AM.EvN
