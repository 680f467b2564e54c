import Derived.Test.YtfbcgjpblomckaaDoorTmX3
set_option linter.unusedVariables false
set_option linter.unusedSimpArgs false
namespace Go.Proofs.YtfbcgjpblomckaaDoor.AM.EvN
open Go
def awS : List UInt8 := [97,98,99,100,101,102,27,91,50,59,50,72,120,27,91,49,109,89,27,91,63,50,53,108,27]
def awR : List (List Ce) := [[⟨97,0,At.zero⟩,⟨98,0,At.zero⟩,⟨99,0,At.zero⟩,⟨100,0,At.zero⟩],[⟨32,0,At.zero⟩,⟨120,0,At.zero⟩,⟨89,0,⟨1,0,0,0,0⟩⟩,⟨32,0,At.zero⟩]]
set_option maxRecDepth 100000 in
theorem aw_t : ((TP.new 4 2).feed awS).t = ⟨4,2,awR,3,1,⟨1,0,0,0,0⟩,true⟩ := by kernel_rfl
set_option maxRecDepth 100000 in
theorem aw_p : ((TP.new 4 2).feed awS).p.st = 1 := by kernel_rfl
section
variable {Q : Prog} (tq : TwQ Q) {H : AHeap}
include tq
set_option maxRecDepth 100000 in
set_option maxHeartbeats 16000000 in
theorem awake_spec (q10 : Q.fns 10 = some A10) (o10 : ∀ a,Q.orc 10 a = Option.none) (ht : hasTabs H TT = true) (hf : Fr H) :
  FnTo Q 10 [] H (fun r H' => r = .bool true /\ Gr H H') := by
 refine fn_wp (o10 _) q10 (by simp [A10]) ?_
 have hT := tabd_of hf ht
 simp only [A10,SX,↓reduceIte]
 refine (termNew_spec tq (Hp.nil H hf) 4 2).mono ?_
 rintro r H1 ⟨k1,hr⟩
 rcases hr with ⟨hx,_⟩ | ⟨_,b1,p1,cs1,rfl,tc1,g1⟩
 ·cases hx
 have ok : (TP.new 4 2).Ok := TP.new_ok (by omega) (by omega)
 have tc1 : TerC b1 p1 (TP.new 4 2) cs1 := tc1
 have hk : ([97,98,99,100,101,102,27,91,50,59,50,72,120,27,91,49,109,89,27,91,63,50,53,108,27] : List UInt8) = awS := rfl
 simp only [ex0,ex1,hk,SX,Nat.reduceEqDiff,↓reduceIte]
 refine (termFeed_spec tq ok tc1 g1 (hT.keep k1) awS (by decide) (by decide)).mono ?_
 rintro _ H2 ⟨k2,cs2,⟨tcl,pcl,tm2,pc2,rfl⟩,g2⟩
 have okp := ok.feed awS
 have ok2 := okp.t
 obtain ⟨X,hX⟩ : ∃ X,(TP.new 4 2).feed awS = X := ⟨_,rfl⟩
 have awt := aw_t
 have awp := aw_p
 rw [hX] at tm2 pc2 ok2 okp awt awp
 have tm2' := tm2
 rw [awt] at tm2' ok2
 simp only [List.append_nil] at g2
 simp only [SX,Nat.reduceEqDiff,↓reduceIte]
 refine (matrix_spec tq ok2 tm2' g2).mono ?_
 rintro _ H3 ⟨k3,cb,rfl,g3⟩
 obtain ⟨M,hM⟩ : ∃ M : List AV,mat 4 2 (.slc cb 0 8 8) 0 0 false = M := ⟨_,rfl⟩
 have hgo : (.agg (mat ((4 : Nat) : Int) ((2 : Nat) : Int) (.slc cb 0 awR.flatten.length awR.flatten.length) (if true = true then 0 else ((min 3 (4 - 1) : Nat) : Int)) (if true = true then 0 else ((1 : Nat) : Int)) (!true)) : AV) = .agg M := by rw [<- hM]; rfl
 obtain ⟨Z,hZ⟩ : ∃ Z : List AV,[AV.int .i64 0,.int .i64 0,.nils,.int .i64 0,.int .i64 0,.bool false] = Z := ⟨_,rfl⟩
 have hZl : Z.length = 6 := by rw [<- hZ]; rfl
 obtain ⟨H4,s4,g4,k4⟩ := g3.make Z 6
 obtain ⟨q,hq⟩ : ∃ q,H3.next = q := ⟨_,rfl⟩
 rw [hq] at g4
 obtain ⟨H5,s5,g5,k5,_⟩ := g4.storeN (n := 6) (new := M) hZl (by rw [<- hM]; rfl) (by rw [<- hM]; rfl)
 rw [hgo]
 simp only [hZ,run_allocL,s4,hq,s5,SX,reduceCtorEq,Nat.reduceEqDiff,↓reduceIte]
 have tc5 : TerC b1 p1 X (tcl ++ pcl) := ⟨tcl,pcl,tm2,pc2,rfl⟩
 have g5' : Hp H.next H5 ((tcl ++ pcl) ++ (⟨q,6,M⟩ :: ⟨cb,7,rowV awR.flatten⟩ :: [])) := perm_c g5 fun a => by simp only [cnt_append,cnt_cons,cnt_nil]; omega
 refine (termWaits_spec tq tc5 g5').mono ?_
 rintro _ H' ⟨rfl,hH⟩
 rw [hH]; clear hH H'
 have dw : decide (X.p.st ≠ 0 \/ 0 < X.p.d.kept) = true := decide_eq_true (.inl (by rw [awp]; decide))
 obtain ⟨rb,Mr,hMr,rfl⟩ := tm2
 have g6 : Hp H.next H5 (⟨b1,1,tcs X.t (.slc rb 0 Mr.length Mr.length) p1⟩ :: (⟨rb,1,rowsV Mr⟩ :: (rowsC Mr ++ (pcl ++ (⟨q,6,M⟩ :: ⟨cb,7,rowV awR.flatten⟩ :: []))))) := by simpa using g5'
 simp only [dw,SX,reduceCtorEq,Nat.reduceEqDiff,↓reduceIte]
 refine (resize_spec tq (pb := p1) g6 rfl rfl 3 1).mono ?_
 rintro r H6 ⟨k6,hr⟩
 obtain ⟨_,rfl,cs7,tm7,g7⟩ := hr.resolve_left (fun hx => by cases hx.1)
 have tm7 : TmC b1 p1 (Tm.new 3 1) cs7 := tm7
 have ok7 : (Tm.new 3 1).Ok := new_okT (by omega) (by omega)
 simp only [SX,reduceCtorEq,Nat.reduceEqDiff,↓reduceIte]
 refine (matrix_spec tq ok7 tm7 g7).mono ?_
 rintro _ H7 ⟨k7,cn,rfl,g8⟩
 obtain ⟨Mn,hMn⟩ : ∃ M : List AV,mat 3 1 (.slc cn 0 3 3) 0 0 true = M := ⟨_,rfl⟩
 have hgo2 : (.agg (mat ((Tm.new 3 1).w : Int) ((Tm.new 3 1).h : Int) (.slc cn 0 (Tm.new 3 1).rows.flatten.length (Tm.new 3 1).rows.flatten.length) (if (Tm.new 3 1).hid = true then 0 else ((min (Tm.new 3 1).x ((Tm.new 3 1).w - 1) : Nat) : Int)) (if (Tm.new 3 1).hid = true then 0 else ((Tm.new 3 1).y : Int)) (!(Tm.new 3 1).hid)) : AV) = .agg Mn := by rw [<- hMn]; rfl
 obtain ⟨H8,s8,g9,k8⟩ := g8.make Z 6
 obtain ⟨q2,hq2⟩ : ∃ q,H7.next = q := ⟨_,rfl⟩
 rw [hq2] at g9
 obtain ⟨H9,s9,g10,k9,_⟩ := g9.storeN (n := 6) (new := Mn) hZl (by rw [<- hMn]; rfl) (by rw [<- hMn]; rfl)
 rw [hgo2]
 have mq : (⟨q,6,M⟩ : Cel) ∈ (⟨q2,6,Mn⟩ :: ⟨cn,7,rowV (Tm.new 3 1).rows.flatten⟩ :: (cs7 ++ (⟨rb,1,rowsV Mr⟩ :: (rowsC Mr ++ (pcl ++ (⟨q,6,M⟩ :: ⟨cb,7,rowV awR.flatten⟩ :: [])))))) := by simp
 have mc : (⟨cb,7,rowV awR.flatten⟩ : Cel) ∈ (⟨q2,6,Mn⟩ :: ⟨cn,7,rowV (Tm.new 3 1).rows.flatten⟩ :: (cs7 ++ (⟨rb,1,rowsV Mr⟩ :: (rowsC Mr ++ (pcl ++ (⟨q,6,M⟩ :: ⟨cb,7,rowV awR.flatten⟩ :: [])))))) := by simp
 have mn : (⟨cn,7,rowV (Tm.new 3 1).rows.flatten⟩ : Cel) ∈ (⟨q2,6,Mn⟩ :: ⟨cn,7,rowV (Tm.new 3 1).rows.flatten⟩ :: (cs7 ++ (⟨rb,1,rowsV Mr⟩ :: (rowsC Mr ++ (pcl ++ (⟨q,6,M⟩ :: ⟨cb,7,rowV awR.flatten⟩ :: [])))))) := by simp
 have a2 := g10.load mq (o := 2) (v := .slc cb 0 8 8) (by rw [<- hM]; rfl)
 have a5 := g10.load mq (o := 5) (v := .bool false) (by rw [<- hM]; rfl)
 have n2 := g10.load (List.mem_cons_self ..) (o := 2) (v := .slc cn 0 3 3) (by rw [<- hMn]; rfl)
 have n5 := g10.load (List.mem_cons_self ..) (o := 5) (v := .bool true) (by rw [<- hMn]; rfl)
 have x3 : idxSV 7 (.slc cb 0 8 8) (.int .i64 3) = some (.ptr cb 21) := ix7 (b := cb) (n := 8) (i := 3) (by omega) .i64
 have x5 : idxSV 7 (.slc cb 0 8 8) (.int .i64 5) = some (.ptr cb 35) := ix7 (b := cb) (n := 8) (i := 5) (by omega) .i64
 have x6 : idxSV 7 (.slc cb 0 8 8) (.int .i64 6) = some (.ptr cb 42) := ix7 (b := cb) (n := 8) (i := 6) (by omega) .i64
 have y0 : idxSV 7 (.slc cn 0 3 3) (.int .i64 0) = some (.ptr cn 0) := ix7 (b := cn) (n := 3) (i := 0) (by omega) .i64
 have c3 : loadV H9 Option.none (.ptr cb 21) = some (.int .i32 100) := (g10.loadC mc (i := 3) (c := ⟨100,0,At.zero⟩) rfl).2.1
 have c5 : loadV H9 Option.none (.ptr cb 35) = some (.int .i32 120) := (g10.loadC mc (i := 5) (c := ⟨120,0,At.zero⟩) rfl).2.1
 have c6 : loadV H9 (some 7) (.ptr cb 42) = some (.agg (Ce.cs ⟨89,0,⟨1,0,0,0,0⟩⟩)) := (g10.loadC mc (i := 6) (c := ⟨89,0,⟨1,0,0,0,0⟩⟩) rfl).1
 have d0 : loadV H9 Option.none (.ptr cn 0) = some (.int .i32 32) := (g10.loadC mn (i := 0) (c := blankC At.zero) rfl).2.1
 have bd5 : buildV [.int .u16 0,.int .u8 0,.int .u32 0,.int .u8 0,.int .u32 0] [(0,1,.int .u16 1)] = some (At.val ⟨1,0,0,0,0⟩) := rfl
 have bd7 : buildV [.int .i32 0,.int .u8 0,.int .u16 0,.int .u8 0,.int .u32 0,.int .u8 0,.int .u32 0] [(0,1,.int .i32 89),(2,5,At.val ⟨1,0,0,0,0⟩)] = some (.agg (Ce.cs ⟨89,0,⟨1,0,0,0,0⟩⟩)) := rfl
 have sq : seqV [1,1,1,1,1,1,1] false (.agg (Ce.cs ⟨89,0,⟨1,0,0,0,0⟩⟩)) (.agg (Ce.cs ⟨89,0,⟨1,0,0,0,0⟩⟩)) = some (.bool true) := by
  simp [seqV,ROp.run,Opd.ev,Ce.cs,At.cs,cellsEq]
 have e8 : decide (((8 : Nat) : Int) = 8) = true := rfl
 have e3 : decide (((3 : Nat) : Int) = 3) = true := rfl
 simp only [run_allocL,s8,hq2,s9,a2,a5,n2,n5,x3,x5,x6,y0,c3,c5,c6,d0,run_build,bd5,bd7,run_seq,sq,e8,e3,SX,reduceCtorEq,Nat.reduceEqDiff,↓reduceIte]
 exact g10.gr (((k1.trans k2).trans (k3.trans (k4.trans k5))).trans ((k6.trans k7).trans (k8.trans k9)))
end
end Go.Proofs.YtfbcgjpblomckaaDoor.AM.EvN
