import Derived.Test.YtfbcgjpblomckaaDoorTpR
set_option linter.unusedVariables false
set_option linter.unusedSimpArgs false
namespace Go.Proofs.YtfbcgjpblomckaaDoor.AM.EvN.Rf
open Go
theorem beq_dec (a b : Nat) : Nat.beq a b = decide (a = b) := by
 rw [Bool.eq_iff_iff]
 simp [Nat.beq_eq]
theorem ble_dec (a b : Nat) : Nat.ble a b = decide (a <= b) := by
 rw [Bool.eq_iff_iff]
 simp [Nat.ble_eq]
def bsV (es n : Nat) (z : List AV) (ps : List (Nat × AV)) : Option (AObj × AKind) := LOp.run .nil (.bslice es n z (ps.map fun p => (p.1,.c p.2)))
theorem run_bsN (e : Env) (es n : Nat) (z : List AV) (ps : List (Nat × Opd)) : LOp.run e (.bslice es n z ps) = bsV es n z (ps.map fun p => (p.1,p.2.ev e)) := by
 simp only [bsV,LOp.run,List.map_map]; rfl
theorem flat_at {α : Type} {f : α -> List AV} {k : Nat} (hf : ∀ x,(f x).length = k) : ∀ {l : List α} {i : Nat} {x : α},l[i]? = some x -> ∀ {j : Nat} {v : AV},(f x)[j]? = some v -> (l.flatMap f)[i * k + j]? = some v
 | [],i,x,h,j,v,_ => by simp at h
 | a :: l,0,x,h,j,v,hv => by
  simp at h; subst h
  have hj := (List.getElem?_eq_some_iff.1 hv).1
  rw [List.flatMap_cons,Nat.zero_mul,Nat.zero_add,List.getElem?_append_left hj]; exact hv
 | a :: l,i + 1,x,h,j,v,hv => by
  rw [List.flatMap_cons,List.getElem?_append_right (by rw [hf,Nat.add_mul]; omega),hf,show (i + 1) * k + j - k = i * k + j by rw [Nat.add_mul]; omega]
  exact flat_at hf (l := l) (by simpa using h) hv
theorem idxSV_es {es b o n cap : Nat} {k : IntKind} {i : Nat} (h : i < n) : idxSV es (.slc b o n cap) (.int k i) = some (.ptr b (o + i * es)) := by
 simp only [idxSV,ROp.run,Opd.ev,inIndex,if_pos (show 0 <= (i : Int) /\ (i : Int) < (n : Int) by omega),Int.toNat_natCast]
theorem findR_cons (r : Nat × Nat × Nat × Nat × Nat) (l : List (Nat × Nat × Nat × Nat × Nat)) (st x : Nat) : findR (r :: l) st x = if r.1 = st /\ r.2.1 <= x /\ x <= r.2.2.1 then (r.2.2.2.1,r.2.2.2.2) else findR l st x := by
 have hb : (Nat.beq r.1 st && (Nat.ble r.2.1 x && Nat.ble x r.2.2.1)) = decide (r.1 = st /\ r.2.1 <= x /\ x <= r.2.2.1) := by
  rw [beq_dec,ble_dec,ble_dec,<- Bool.decide_and,<- Bool.decide_and]
 show (bif Nat.beq r.1 st && (Nat.ble r.2.1 x && Nat.ble x r.2.2.1) then (r.2.2.2.1,r.2.2.2.2) else findR l st x) = _
 rw [hb]
 by_cases h : r.1 = st /\ r.2.1 <= x /\ x <= r.2.2.1
 ·rw [decide_eq_true h,if_pos h]; rfl
 ·rw [decide_eq_false h,if_neg h]; rfl
def rowC (r : Nat × Nat × Nat × Nat × Nat) : List AV := [.int .i64 (r.1 : Int),.int .i64 (r.2.1 : Int),.int .i64 (r.2.2.1 : Int),.int .i64 (r.2.2.2.1 : Int),.int .i64 (r.2.2.2.2 : Int)]
def rowsC : List AV := rowsN.flatMap rowC
structure EvR (Q : Prog) : Prop where
 ho : ∀ f,Nat.beq f 10 = false -> ∀ a,Q.orc f a = Option.none
 q26 : Q.fns 26 = some A26
 q39 : Q.fns 39 = some A39
 q40 : Q.fns 40 = some A40
 q41 : Q.fns 41 = some A41
 q42 : Q.fns 42 = some A42
 q43 : Q.fns 43 = some A43
 q44 : Q.fns 44 = some A44
 q69 : Q.fns 69 = some A69
 q70 : Q.fns 70 = some A70
 q71 : Q.fns 71 = some A71
 q87 : Q.fns 87 = some A87
section
variable {Q : Prog} (er : EvR Q) {H : AHeap}
include er
set_option maxRecDepth 100000 in
theorem rows_spec : FnTo Q 69 [] H (fun r H' => r = .slc H.next 0 rowsN.length rowsN.length /\ H' = H.alloc (.row ⟨rowsC,0,false,true,0⟩)) := by
 refine ⟨1,_,_,fun n hn => ?_,rfl,rfl⟩
 obtain ⟨m,rfl⟩ : ∃ m,n = m + 1 := ⟨n - 1,by omega⟩
 simp only [callF,er.ho 69 rfl,er.q69]
 kernel_rfl
set_option maxHeartbeats 4000000 in
theorem refNext_spec {st : Nat} (hst : st <= 13) {c : UInt8} (hf : Fr H) : FnTo Q 39 [.int .i64 (st : Int),.int .u8 c.toNat] H (fun r H' => r = tup2 (nx (st : Int) c.toNat) /\ Gr H H') := by
 refine fn_wp (er.ho 39 rfl _) er.q39 (by simp [A39]) ?_
 obtain ⟨u0,u1⟩ := u8_byte c
 by_cases c1 : (c.toNat : Int) = 24
 ·have c1' : decide ((c.toNat : Int) = 24) = true := by simpa using c1
  simp only [A39,c1',SX,Nat.reduceEqDiff,↓reduceIte]
  exact ⟨tup2_eq (by simp [nx,c1]),Gr.refl hf⟩
 by_cases c2 : (c.toNat : Int) = 26
 ·have c2' : decide ((c.toNat : Int) = 26) = true := by simpa using c2
  simp only [A39,c1,c2',SX,Nat.reduceEqDiff,↓reduceIte]
  exact ⟨tup2_eq (by simp [nx,c2]),Gr.refl hf⟩
 by_cases c3 : (c.toNat : Int) = 27
 ·have c3' : decide ((c.toNat : Int) = 27) = true := by simpa using c3
  simp only [A39,c1,c2,c3',SX,Nat.reduceEqDiff,↓reduceIte]
  exact ⟨tup2_eq (by simp [nx,c3]),Gr.refl hf⟩
 have hres : nx (st : Int) c.toNat = (((findR rowsN st c.toNat).1 : Int),((findR rowsN st c.toNat).2 : Int)) := by
  rw [<- nxR_eq hst c]; unfold nxR
  rw [if_neg (by omega),if_neg (by omega)]
 have s1 : ¬ (st : Int) < 0 := by omega
 have s2 : ¬ (13 : Int) < st := by omega
 simp only [A39,c1,c2,c3,s1,s2,SX,reduceCtorEq,Nat.reduceEqDiff,↓reduceIte]
 refine (rows_spec er).mono ?_
 rintro r H1' ⟨rfl,rfl⟩
 obtain ⟨H1,e1,h1,k1⟩ := (Hp.nil H hf).make rowsC 5
 rw [e1]
 have gr : Gr H H1 := h1.gr k1
 simp only [SX,↓reduceIte]
 obtain ⟨I,hI⟩ : ∃ I : Nat -> Env -> AHeap -> Prop,∀ m e H',I m e H' ↔ (H' = H1 /\ ∃ i : Nat,m = rowsN.length - i /\ i <= rowsN.length /\ findR (rowsN.drop i) st c.toNat = findR rowsN st c.toNat /\ Env.get e 0 = .int .i64 (st : Int) /\ Env.get e 1 = .int .u8 c.toNat /\ Env.get e 6 = .slc H.next 0 rowsN.length rowsN.length /\ Env.get e 7 = .int .i64 i) := ⟨_,fun _ _ _ => Iff.rfl⟩
 refine loop_by I rowsN.length ?_ ?_
 ·refine (hI _ _ _).2 ⟨rfl,0,rfl,by omega,rfl,?_⟩
  simp only [SX,reduceCtorEq,Nat.reduceEqDiff,↓reduceIte]; rfl
 ·intro m e H' hinv
  obtain ⟨rfl,i,rfl,hi,hfind,e0,e1,e6,e7⟩ := (hI _ _ _).1 hinv
  by_cases d : (i : Int) < rowsN.length
  ·obtain ⟨r,hr⟩ : ∃ r,rowsN[i]? = some r := ⟨_,List.getElem?_eq_getElem (by omega)⟩
   have hdrop : rowsN.drop i = r :: rowsN.drop (i + 1) := by
    rw [List.drop_eq_getElem_cons (by omega),(List.getElem?_eq_some_iff.1 hr).2]
   rw [hdrop,findR_cons] at hfind
   have xi : idxSV 5 (.slc H.next 0 rowsN.length rowsN.length) (.int .i64 (i : Int)) = some (.ptr H.next (0 + i * 5)) := idxSV_es (by omega)
   have ld : ∀ (j : Nat) (v : AV),(rowC r)[j]? = some v -> loadV H' Option.none (.ptr H.next (i * 5 + j)) = some v := fun j v hv => h1.load (List.mem_cons_self ..) (flat_at (k := 5) (fun _ => rfl) hr hv)
   have l0 : loadV H' Option.none (.ptr H.next (i * 5)) = some (.int .i64 (r.1 : Int)) := ld 0 _ rfl
   have l1 := ld 1 _ rfl
   have l2 := ld 2 _ rfl
   have l3 := ld 3 _ rfl
   have l4 := ld 4 _ rfl
   have w1 : IntKind.wrap .i64 ((i : Int) + 1) = ((i + 1 : Nat) : Int) := by
    have : rowsN.length = 96 := rfl
    rw [wrapI64 (by omega) (by omega)]; rfl
   have wc : IntKind.wrap .i64 (c.toNat : Int) = c.toNat := wrapI64 (by omega) (by omega)
   have next : ∀ (e' : Env),¬ (r.1 = st /\ r.2.1 <= c.toNat /\ c.toNat <= r.2.2.1) -> (Env.get e' 0 = .int .i64 (st : Int) /\ Env.get e' 1 = .int .u8 c.toNat /\ Env.get e' 6 = .slc H.next 0 rowsN.length rowsN.length /\ Env.get e' 7 = .int .i64 ((i + 1 : Nat) : Int)) -> ∃ m',m' < rowsN.length - i /\ I m' e' H' := by
    intro e' hn he
    rw [if_neg hn] at hfind
    exact ⟨rowsN.length - (i + 1),by omega,(hI _ _ _).2 ⟨rfl,i + 1,rfl,by omega,hfind,he⟩⟩
   by_cases k1 : (r.1 : Int) = st
   ·have k1' : decide ((r.1 : Int) = st) = true := by simpa using k1
    by_cases k2 : (r.2.1 : Int) <= c.toNat
    ·by_cases k3 : (c.toNat : Int) <= r.2.2.1
     ·rw [if_pos ⟨by omega,by omega,by omega⟩] at hfind
      simp only [e0,e1,e6,e7,d,xi,l0,l1,l2,l3,l4,wc,k1',k2,k3,SX,reduceCtorEq,Nat.reduceEqDiff,↓reduceIte]
      exact ⟨tup2_eq (by rw [hres,<- hfind]),gr⟩
     ·simp only [e0,e1,e6,e7,d,xi,l0,l1,l2,wc,k1',k2,k3,w1,SX,reduceCtorEq,Nat.reduceEqDiff,↓reduceIte]
      refine next _ (by omega) ?_
      simp only [e0,e1,e6,SX,reduceCtorEq,Nat.reduceEqDiff,↓reduceIte]
    ·simp only [e0,e1,e6,e7,d,xi,l0,l1,wc,k1',k2,w1,SX,reduceCtorEq,Nat.reduceEqDiff,↓reduceIte]
     refine next _ (by omega) ?_
     simp only [e0,e1,e6,SX,reduceCtorEq,Nat.reduceEqDiff,↓reduceIte]
   ·have k1' : decide ((r.1 : Int) = st) = false := by simpa using k1
    simp only [e0,e6,e7,d,xi,l0,k1',w1,SX,reduceCtorEq,Nat.reduceEqDiff,↓reduceIte]
    refine next _ (by omega) ?_
    simp only [e0,e1,e6,SX,reduceCtorEq,Nat.reduceEqDiff,↓reduceIte]
  ·have hil : i = rowsN.length := by omega
   simp only [e6,e7,d,SX,Nat.reduceEqDiff,↓reduceIte]
   refine ⟨tup2_eq (by rw [hres,<- hfind,hil,List.drop_length]; rfl),gr⟩
end
theorem inSh_len : ∀ {s : List UInt8} {L : List (Int × Int)},inSh s L -> s.length <= L.length
 | [],_,_ => Nat.zero_le _
 | _ :: _,[],h => h.elim
 | c :: s,q :: L,h => Nat.succ_le_succ (inSh_len (s := s) (L := L) h.2)
theorem inSh_take : ∀ {s : List UInt8} {L : List (Int × Int)} {k : Nat},inSh s L -> inSh (s.take k) L
 | s,L,0,_ => by rw [List.take_zero]; exact trivial
 | [],_,k + 1,_ => trivial
 | _ :: _,[],_,h => h.elim
 | c :: s,q :: L,k + 1,h => ⟨h.1,inSh_take (s := s) (L := L) h.2⟩
theorem numF_le : ∀ {t : List UInt8} {x B : Int},0 <= x -> x < B -> 0 <= numF x t /\ numF x t < B * 64 ^ t.length
 | [],x,B,h0,h1 => by simp [numF]; omega
 | c :: t,x,B,h0,h1 => by
  obtain ⟨u0,u1⟩ := u8_byte c
  have := numF_le (t := t) (x := 64 * x + (c.toNat : Int) % 64) (B := 64 * B) (by omega) (by omega)
  have e : numF x (c :: t) = numF (64 * x + (c.toNat : Int) % 64) t := rfl
  rw [e,List.length_cons,Int.pow_succ,Int.mul_comm (64 ^ t.length) 64,<- Int.mul_assoc,Int.mul_comm B 64]
  exact this
theorem bin_remK (k : IntKind) (a b : Int) (h : b ≠ 0) : binV .rem (.int k a) (.int k b) = some (.int k (a.tmod b)) := by simp [binV,intBin,h]
def pairC (p : Int × Int) : List AV := [.int .u8 p.1,.int .u8 p.2]
def IsSh (H : AHeap) (L : List (Int × Int)) (c : AV) : Prop := ∃ b B,c = .slc b 0 L.length L.length /\ H.row b = some B /\ B.cells = L.flatMap pairC
section
variable {Q : Prog} (er : EvR Q) {H : AHeap}
include er
set_option maxHeartbeats 4000000 in
theorem shapes_spec (hf : Fr H) : FnTo Q 87 [] H (fun r H' => IsSl IsSh H' r shapesI /\ Gr H H') := by
 refine fn_wp (er.ho 87 rfl _) er.q87 (by simp [A87]) ?_
 have cc : buildV [AV.int .u8 0,.int .u8 0] [(0,1,.int .u8 128),(1,1,.int .u8 191)] = some (.agg [.int .u8 128,.int .u8 191]) := rfl
 obtain ⟨Ha,sa,ha,ka⟩ := (Hp.nil H hf).make [.int .u8 0,.int .u8 0] 2
 obtain ⟨H0,s0,h0,k0,n0⟩ := ha.storeN (n := 2) (new := [.int .u8 128,.int .u8 191]) rfl rfl rfl
 have l0 : loadV H0 (some 2) (.ptr H.next 0) = some (.agg [.int .u8 128,.int .u8 191]) := h0.loadN (b := H.next) (k := 2) (by simp) rfl
 obtain ⟨H1,s1,h1,k1⟩ := h0.make [.int .u8 0,.int .u8 127] 2
 have l1 : loadV H1 (some 2) (.ptr H.next 0) = some (.agg [.int .u8 128,.int .u8 191]) := h1.loadN (b := H.next) (k := 2) (by simp) rfl
 have b1 : bsV 2 1 [.int .u8 0,.int .u8 0] [(0,.agg [.int .u8 0,.int .u8 127])] = some (.row ⟨[.int .u8 0,.int .u8 127],0,false,true,0⟩,.slc 1 1) := rfl
 obtain ⟨H2,s2,h2,k2⟩ := h1.make [.int .u8 194,.int .u8 223,.int .u8 128,.int .u8 191] 2
 have l2 : loadV H2 (some 2) (.ptr H.next 0) = some (.agg [.int .u8 128,.int .u8 191]) := h2.loadN (b := H.next) (k := 2) (by simp) rfl
 have b2 : bsV 2 2 [.int .u8 0,.int .u8 0] [(0,.agg [.int .u8 194,.int .u8 223]),(1,.agg [.int .u8 128,.int .u8 191])] = some (.row ⟨[.int .u8 194,.int .u8 223,.int .u8 128,.int .u8 191],0,false,true,0⟩,.slc 2 2) := rfl
 obtain ⟨H3,s3,h3,k3⟩ := h2.make [.int .u8 224,.int .u8 224,.int .u8 160,.int .u8 191,.int .u8 128,.int .u8 191] 2
 have l3 : loadV H3 (some 2) (.ptr H.next 0) = some (.agg [.int .u8 128,.int .u8 191]) := h3.loadN (b := H.next) (k := 2) (by simp) rfl
 have b3 : bsV 2 3 [.int .u8 0,.int .u8 0] [(0,.agg [.int .u8 224,.int .u8 224]),(1,.agg [.int .u8 160,.int .u8 191]),(2,.agg [.int .u8 128,.int .u8 191])] = some (.row ⟨[.int .u8 224,.int .u8 224,.int .u8 160,.int .u8 191,.int .u8 128,.int .u8 191],0,false,true,0⟩,.slc 3 3) := rfl
 obtain ⟨H4,s4,h4,k4⟩ := h3.make [.int .u8 225,.int .u8 236,.int .u8 128,.int .u8 191,.int .u8 128,.int .u8 191] 2
 have l4 : loadV H4 (some 2) (.ptr H.next 0) = some (.agg [.int .u8 128,.int .u8 191]) := h4.loadN (b := H.next) (k := 2) (by simp) rfl
 have b4 : bsV 2 3 [.int .u8 0,.int .u8 0] [(0,.agg [.int .u8 225,.int .u8 236]),(1,.agg [.int .u8 128,.int .u8 191]),(2,.agg [.int .u8 128,.int .u8 191])] = some (.row ⟨[.int .u8 225,.int .u8 236,.int .u8 128,.int .u8 191,.int .u8 128,.int .u8 191],0,false,true,0⟩,.slc 3 3) := rfl
 obtain ⟨H5,s5,h5,k5⟩ := h4.make [.int .u8 237,.int .u8 237,.int .u8 128,.int .u8 159,.int .u8 128,.int .u8 191] 2
 have l5 : loadV H5 (some 2) (.ptr H.next 0) = some (.agg [.int .u8 128,.int .u8 191]) := h5.loadN (b := H.next) (k := 2) (by simp) rfl
 have b5 : bsV 2 3 [.int .u8 0,.int .u8 0] [(0,.agg [.int .u8 237,.int .u8 237]),(1,.agg [.int .u8 128,.int .u8 159]),(2,.agg [.int .u8 128,.int .u8 191])] = some (.row ⟨[.int .u8 237,.int .u8 237,.int .u8 128,.int .u8 159,.int .u8 128,.int .u8 191],0,false,true,0⟩,.slc 3 3) := rfl
 obtain ⟨H6,s6,h6,k6⟩ := h5.make [.int .u8 238,.int .u8 239,.int .u8 128,.int .u8 191,.int .u8 128,.int .u8 191] 2
 have l6 : loadV H6 (some 2) (.ptr H.next 0) = some (.agg [.int .u8 128,.int .u8 191]) := h6.loadN (b := H.next) (k := 2) (by simp) rfl
 have b6 : bsV 2 3 [.int .u8 0,.int .u8 0] [(0,.agg [.int .u8 238,.int .u8 239]),(1,.agg [.int .u8 128,.int .u8 191]),(2,.agg [.int .u8 128,.int .u8 191])] = some (.row ⟨[.int .u8 238,.int .u8 239,.int .u8 128,.int .u8 191,.int .u8 128,.int .u8 191],0,false,true,0⟩,.slc 3 3) := rfl
 obtain ⟨H7,s7,h7,k7⟩ := h6.make [.int .u8 240,.int .u8 240,.int .u8 144,.int .u8 191,.int .u8 128,.int .u8 191,.int .u8 128,.int .u8 191] 2
 have l7 : loadV H7 (some 2) (.ptr H.next 0) = some (.agg [.int .u8 128,.int .u8 191]) := h7.loadN (b := H.next) (k := 2) (by simp) rfl
 have b7 : bsV 2 4 [.int .u8 0,.int .u8 0] [(0,.agg [.int .u8 240,.int .u8 240]),(1,.agg [.int .u8 144,.int .u8 191]),(2,.agg [.int .u8 128,.int .u8 191]),(3,.agg [.int .u8 128,.int .u8 191])] = some (.row ⟨[.int .u8 240,.int .u8 240,.int .u8 144,.int .u8 191,.int .u8 128,.int .u8 191,.int .u8 128,.int .u8 191],0,false,true,0⟩,.slc 4 4) := rfl
 obtain ⟨H8,s8,h8,k8⟩ := h7.make [.int .u8 241,.int .u8 243,.int .u8 128,.int .u8 191,.int .u8 128,.int .u8 191,.int .u8 128,.int .u8 191] 2
 have l8 : loadV H8 (some 2) (.ptr H.next 0) = some (.agg [.int .u8 128,.int .u8 191]) := h8.loadN (b := H.next) (k := 2) (by simp) rfl
 have b8 : bsV 2 4 [.int .u8 0,.int .u8 0] [(0,.agg [.int .u8 241,.int .u8 243]),(1,.agg [.int .u8 128,.int .u8 191]),(2,.agg [.int .u8 128,.int .u8 191]),(3,.agg [.int .u8 128,.int .u8 191])] = some (.row ⟨[.int .u8 241,.int .u8 243,.int .u8 128,.int .u8 191,.int .u8 128,.int .u8 191,.int .u8 128,.int .u8 191],0,false,true,0⟩,.slc 4 4) := rfl
 obtain ⟨H9,s9,h9,k9⟩ := h8.make [.int .u8 244,.int .u8 244,.int .u8 128,.int .u8 143,.int .u8 128,.int .u8 191,.int .u8 128,.int .u8 191] 2
 have l9 : loadV H9 (some 2) (.ptr H.next 0) = some (.agg [.int .u8 128,.int .u8 191]) := h9.loadN (b := H.next) (k := 2) (by simp) rfl
 have b9 : bsV 2 4 [.int .u8 0,.int .u8 0] [(0,.agg [.int .u8 244,.int .u8 244]),(1,.agg [.int .u8 128,.int .u8 143]),(2,.agg [.int .u8 128,.int .u8 191]),(3,.agg [.int .u8 128,.int .u8 191])] = some (.row ⟨[.int .u8 244,.int .u8 244,.int .u8 128,.int .u8 143,.int .u8 128,.int .u8 191,.int .u8 128,.int .u8 191],0,false,true,0⟩,.slc 4 4) := rfl
 have p0_127 : buildV [AV.int .u8 0,.int .u8 0] [(0,1,.int .u8 0),(1,1,.int .u8 127)] = some (.agg [.int .u8 0,.int .u8 127]) := rfl
 have p194_223 : buildV [AV.int .u8 0,.int .u8 0] [(0,1,.int .u8 194),(1,1,.int .u8 223)] = some (.agg [.int .u8 194,.int .u8 223]) := rfl
 have p224_224 : buildV [AV.int .u8 0,.int .u8 0] [(0,1,.int .u8 224),(1,1,.int .u8 224)] = some (.agg [.int .u8 224,.int .u8 224]) := rfl
 have p160_191 : buildV [AV.int .u8 0,.int .u8 0] [(0,1,.int .u8 160),(1,1,.int .u8 191)] = some (.agg [.int .u8 160,.int .u8 191]) := rfl
 have p225_236 : buildV [AV.int .u8 0,.int .u8 0] [(0,1,.int .u8 225),(1,1,.int .u8 236)] = some (.agg [.int .u8 225,.int .u8 236]) := rfl
 have p237_237 : buildV [AV.int .u8 0,.int .u8 0] [(0,1,.int .u8 237),(1,1,.int .u8 237)] = some (.agg [.int .u8 237,.int .u8 237]) := rfl
 have p128_159 : buildV [AV.int .u8 0,.int .u8 0] [(0,1,.int .u8 128),(1,1,.int .u8 159)] = some (.agg [.int .u8 128,.int .u8 159]) := rfl
 have p238_239 : buildV [AV.int .u8 0,.int .u8 0] [(0,1,.int .u8 238),(1,1,.int .u8 239)] = some (.agg [.int .u8 238,.int .u8 239]) := rfl
 have p240_240 : buildV [AV.int .u8 0,.int .u8 0] [(0,1,.int .u8 240),(1,1,.int .u8 240)] = some (.agg [.int .u8 240,.int .u8 240]) := rfl
 have p144_191 : buildV [AV.int .u8 0,.int .u8 0] [(0,1,.int .u8 144),(1,1,.int .u8 191)] = some (.agg [.int .u8 144,.int .u8 191]) := rfl
 have p241_243 : buildV [AV.int .u8 0,.int .u8 0] [(0,1,.int .u8 241),(1,1,.int .u8 243)] = some (.agg [.int .u8 241,.int .u8 243]) := rfl
 have p244_244 : buildV [AV.int .u8 0,.int .u8 0] [(0,1,.int .u8 244),(1,1,.int .u8 244)] = some (.agg [.int .u8 244,.int .u8 244]) := rfl
 have p128_143 : buildV [AV.int .u8 0,.int .u8 0] [(0,1,.int .u8 128),(1,1,.int .u8 143)] = some (.agg [.int .u8 128,.int .u8 143]) := rfl
 obtain ⟨H10,s10,h10,k10⟩ := h9.make [.slc H0.next 0 1 1,.slc H1.next 0 2 2,.slc H2.next 0 3 3,.slc H3.next 0 3 3,.slc H4.next 0 3 3,.slc H5.next 0 3 3,.slc H6.next 0 4 4,.slc H7.next 0 4 4,.slc H8.next 0 4 4] 1
 have b10 : bsV 1 9 [.nils] [(0,.slc H0.next 0 1 1),(1,.slc H1.next 0 2 2),(2,.slc H2.next 0 3 3),(3,.slc H3.next 0 3 3),(4,.slc H4.next 0 3 3),(5,.slc H5.next 0 3 3),(6,.slc H6.next 0 4 4),(7,.slc H7.next 0 4 4),(8,.slc H8.next 0 4 4)] = some (.row ⟨[.slc H0.next 0 1 1,.slc H1.next 0 2 2,.slc H2.next 0 3 3,.slc H3.next 0 3 3,.slc H4.next 0 3 3,.slc H5.next 0 3 3,.slc H6.next 0 4 4,.slc H7.next 0 4 4,.slc H8.next 0 4 4],0,false,true,0⟩,.slc 9 9) := rfl
 simp only [A87,run_allocL,run_build,run_bsN,sa,s0,cc,s1,l1,b1,s2,l2,b2,s3,l3,b3,s4,l4,b4,s5,l5,b5,s6,l6,b6,s7,l7,b7,s8,l8,b8,s9,b9,s10,b10,p0_127,p128_143,p128_159,p144_191,p160_191,p194_223,p224_224,p225_236,p237_237,p238_239,p240_240,p241_243,p244_244,SX,reduceCtorEq,Nat.reduceEqDiff,↓reduceIte]
 refine ⟨?_,h10.gr ((((((((((ka.trans k0).trans k1).trans k2).trans k3).trans k4).trans k5).trans k6).trans k7).trans k8).trans k9 |>.trans k10)⟩
 obtain ⟨B,r,c⟩ := h10.rowOf (b := H9.next) (k := 1) (cs := [.slc H0.next 0 1 1,.slc H1.next 0 2 2,.slc H2.next 0 3 3,.slc H3.next 0 3 3,.slc H4.next 0 3 3,.slc H5.next 0 3 3,.slc H6.next 0 4 4,.slc H7.next 0 4 4,.slc H8.next 0 4 4]) (by simp)
 obtain ⟨B1,r1,c1⟩ := h10.rowOf (b := H0.next) (k := 2) (cs := [.int .u8 0,.int .u8 127]) (by simp)
 obtain ⟨B2,r2,c2⟩ := h10.rowOf (b := H1.next) (k := 2) (cs := [.int .u8 194,.int .u8 223,.int .u8 128,.int .u8 191]) (by simp)
 obtain ⟨B3,r3,c3⟩ := h10.rowOf (b := H2.next) (k := 2) (cs := [.int .u8 224,.int .u8 224,.int .u8 160,.int .u8 191,.int .u8 128,.int .u8 191]) (by simp)
 obtain ⟨B4,r4,c4⟩ := h10.rowOf (b := H3.next) (k := 2) (cs := [.int .u8 225,.int .u8 236,.int .u8 128,.int .u8 191,.int .u8 128,.int .u8 191]) (by simp)
 obtain ⟨B5,r5,c5⟩ := h10.rowOf (b := H4.next) (k := 2) (cs := [.int .u8 237,.int .u8 237,.int .u8 128,.int .u8 159,.int .u8 128,.int .u8 191]) (by simp)
 obtain ⟨B6,r6,c6⟩ := h10.rowOf (b := H5.next) (k := 2) (cs := [.int .u8 238,.int .u8 239,.int .u8 128,.int .u8 191,.int .u8 128,.int .u8 191]) (by simp)
 obtain ⟨B7,r7,c7⟩ := h10.rowOf (b := H6.next) (k := 2) (cs := [.int .u8 240,.int .u8 240,.int .u8 144,.int .u8 191,.int .u8 128,.int .u8 191,.int .u8 128,.int .u8 191]) (by simp)
 obtain ⟨B8,r8,c8⟩ := h10.rowOf (b := H7.next) (k := 2) (cs := [.int .u8 241,.int .u8 243,.int .u8 128,.int .u8 191,.int .u8 128,.int .u8 191,.int .u8 128,.int .u8 191]) (by simp)
 obtain ⟨B9,r9,c9⟩ := h10.rowOf (b := H8.next) (k := 2) (cs := [.int .u8 244,.int .u8 244,.int .u8 128,.int .u8 143,.int .u8 128,.int .u8 191,.int .u8 128,.int .u8 191]) (by simp)
 refine .inr ⟨H9.next,0,9,B,rfl,r,fun i x hx => ?_⟩
 rw [c]
 rcases i with _ | _ | _ | _ | _ | _ | _ | _ | _ | i
 ·obtain rfl := Option.some.inj hx; exact ⟨_,rfl,_,B1,rfl,r1,c1⟩
 ·obtain rfl := Option.some.inj hx; exact ⟨_,rfl,_,B2,rfl,r2,c2⟩
 ·obtain rfl := Option.some.inj hx; exact ⟨_,rfl,_,B3,rfl,r3,c3⟩
 ·obtain rfl := Option.some.inj hx; exact ⟨_,rfl,_,B4,rfl,r4,c4⟩
 ·obtain rfl := Option.some.inj hx; exact ⟨_,rfl,_,B5,rfl,r5,c5⟩
 ·obtain rfl := Option.some.inj hx; exact ⟨_,rfl,_,B6,rfl,r6,c6⟩
 ·obtain rfl := Option.some.inj hx; exact ⟨_,rfl,_,B7,rfl,r7,c7⟩
 ·obtain rfl := Option.some.inj hx; exact ⟨_,rfl,_,B8,rfl,r8,c8⟩
 ·obtain rfl := Option.some.inj hx; exact ⟨_,rfl,_,B9,rfl,r9,c9⟩
 ·simp [shapesI] at hx
set_option maxHeartbeats 8000000 in
theorem beg_spec {s : List UInt8} (hs : s.length <= 1000000) (hf : Fr H) : FnTo Q 70 [.str s] H (fun r H' => r = .int .i64 (begR s) /\ Gr H H') := by
 refine fn_wp (er.ho 70 rfl _) er.q70 (by simp [A70]) ?_
 simp only [A70,SX,↓reduceIte]
 refine (shapes_spec er hf).mono ?_
 rintro v H1 ⟨hv,gr⟩
 have lv := hv.len
 simp only [SX,↓reduceIte]
 obtain ⟨I,hI⟩ : ∃ I : Nat -> Env -> AHeap -> Prop,∀ m e H',I m e H' ↔ (H' = H1 /\ ∃ i : Nat,m = shapesI.length - i /\ i <= shapesI.length /\ begL s (shapesI.drop i) = begR s /\ Env.get e 0 = .str s /\ Env.get e 3 = v /\ Env.get e 4 = .int .i64 i) := ⟨_,fun _ _ _ => Iff.rfl⟩
 refine loop_by I shapesI.length ?_ ?_
 ·refine (hI _ _ _).2 ⟨rfl,0,rfl,by omega,rfl,?_⟩
  simp only [SX,reduceCtorEq,Nat.reduceEqDiff,↓reduceIte]; rfl
 ·intro m e H' hinv
  obtain ⟨rfl,i,rfl,hi,hb,e0,e3,e4⟩ := (hI _ _ _).1 hinv
  by_cases d : (i : Int) < shapesI.length
  ·obtain ⟨L,hL⟩ : ∃ L,shapesI[i]? = some L := ⟨_,List.getElem?_eq_getElem (by omega)⟩
   have hdrop : shapesI.drop i = L :: shapesI.drop (i + 1) := by
    rw [List.drop_eq_getElem_cons (by omega),(List.getElem?_eq_some_iff.1 hL).2]
   rw [hdrop,begL] at hb
   have h9 : shapesI.length = 9 := rfl
   have xi := hv.at (i := (i : Int)) (by omega) (by omega) .i64
   obtain ⟨c,li,bi,Bi,rfl,ri,ci⟩ := hv.get (i := (i : Int)) (a := L) (by simpa using hL)
   have w1 : IntKind.wrap .i64 ((i : Int) + 1) = ((i + 1 : Nat) : Int) := by rw [wrapI64 (by omega) (by omega)]; rfl
   have next : ∀ (e' : Env),¬ inSh s L -> (Env.get e' 0 = .str s /\ Env.get e' 3 = v /\ Env.get e' 4 = .int .i64 ((i + 1 : Nat) : Int)) -> ∃ m',m' < shapesI.length - i /\ I m' e' H' := by
    intro e' hn he
    rw [if_neg hn] at hb
    exact ⟨shapesI.length - (i + 1),by omega,(hI _ _ _).2 ⟨rfl,i + 1,rfl,by omega,hb,he⟩⟩
   simp only [e0,e3,e4,lv,d,xi,li,lngV_str,SX,reduceCtorEq,Nat.reduceEqDiff,↓reduceIte]
   obtain ⟨J,hJ⟩ : ∃ J : Nat -> Env -> AHeap -> Prop,∀ m e H2,J m e H2 ↔ (H2 = H' /\ ∃ (k : Nat) (ok : Bool),m = s.length - k /\ k <= s.length /\ (ok = true -> inSh (s.take k) L /\ s.length <= L.length) /\ (ok = false -> ¬ inSh s L) /\ Env.get e 0 = .str s /\ Env.get e 3 = v /\ Env.get e 4 = .int .i64 i /\ Env.get e 5 = .bool ok /\ Env.get e 6 = .int .i64 k) := ⟨_,fun _ _ _ => Iff.rfl⟩
   refine loop_by J s.length ?_ ?_
   ·refine (hJ _ _ _).2 ⟨rfl,0,decide ((s.length : Int) <= L.length),rfl,by omega,fun hh => ⟨trivial,?_⟩,fun hh => ?_,?_⟩
    ·simp at hh; omega
    ·simp at hh
     intro hh2
     have := inSh_len hh2
     omega
    ·simp only [e0,e3,e4,SX,reduceCtorEq,Nat.reduceEqDiff,↓reduceIte]; rfl
   ·intro m2 e2 H2 hinv2
    obtain ⟨rfl,k,ok,rfl,hk,hok1,hok2,f0,f3,f4,f5,f6⟩ := (hJ _ _ _).1 hinv2
    by_cases dk : (k : Int) < s.length
    ·cases ok with
     | true =>
      obtain ⟨q1,q2⟩ := hok1 rfl
      obtain ⟨cb,hc⟩ : ∃ cb,s[k]? = some cb := ⟨_,List.getElem?_eq_getElem (by omega)⟩
      obtain ⟨p,hp⟩ : ∃ p,L[k]? = some p := ⟨_,List.getElem?_eq_getElem (by omega)⟩
      have hix := idxStr_at hc .i64
      have xk : idxSV 2 (.slc bi 0 L.length L.length) (.int .i64 (k : Int)) = some (.ptr bi (0 + k * 2)) := idxSV_es (by omega)
      have y0 : idxAV 2 1 (.ptr bi (k * 2)) (.int .i64 0) = some (.ptr bi (k * 2)) := rfl
      have y1 : idxAV 2 1 (.ptr bi (k * 2)) (.int .i64 1) = some (.ptr bi (k * 2 + 1)) := rfl
      have ld : ∀ (j : Nat) (v : AV),(pairC p)[j]? = some v -> loadV H2 Option.none (.ptr bi (k * 2 + j)) = some v := fun j v hv => by
       simp only [loadV,ROp.run,Opd.ev,ri,ci,flat_at (k := 2) (fun _ => rfl) hp hv]
      have m0 : loadV H2 Option.none (.ptr bi (k * 2)) = some (.int .u8 p.1) := ld 0 _ rfl
      have m1 := ld 1 _ rfl
      have wk : IntKind.wrap .i64 ((k : Int) + 1) = ((k + 1 : Nat) : Int) := by rw [wrapI64 (by omega) (by omega)]; rfl
      have hlk : (s.take k).length = k := by simp; omega
      have sn := inSh_snoc (b := cb) q1 (by rw [hlk]; exact hp)
      rw [show s.take k ++ [cb] = s.take (k + 1) by rw [List.take_add_one,hc]; rfl] at sn
      have bad : ¬ (p.1 <= (cb.toNat : Int) /\ (cb.toNat : Int) <= p.2) -> ¬ inSh s L := fun hn hh => hn (sn.1 (inSh_take hh))
      have step : ∀ (e' : Env) (ok' : Bool),(ok' = true -> p.1 <= (cb.toNat : Int) /\ (cb.toNat : Int) <= p.2) -> (ok' = false -> ¬ (p.1 <= (cb.toNat : Int) /\ (cb.toNat : Int) <= p.2)) -> (Env.get e' 0 = .str s /\ Env.get e' 3 = v /\ Env.get e' 4 = .int .i64 i /\ Env.get e' 5 = .bool ok' /\ Env.get e' 6 = .int .i64 ((k + 1 : Nat) : Int)) -> ∃ m',m' < s.length - k /\ J m' e' H2 := by
       intro e' ok' z1 z2 z3
       exact ⟨s.length - (k + 1),by omega,(hJ _ _ _).2 ⟨rfl,k + 1,ok',rfl,by omega,fun hh => ⟨sn.2 (z1 hh),q2⟩,fun hh => bad (z2 hh),z3⟩⟩
      by_cases g1 : p.1 <= (cb.toNat : Int)
      ·have g1' : decide (p.1 <= (cb.toNat : Int)) = true := by simpa using g1
       simp only [f0,f3,f4,f5,f6,dk,hix,xi,li,xk,y0,y1,m0,m1,g1',wk,lngV_str,SX,reduceCtorEq,Nat.reduceEqDiff,↓reduceIte]
       refine step _ (decide ((cb.toNat : Int) <= p.2)) (fun hh => ⟨g1,by simpa using hh⟩) (fun hh => by simp at hh; omega) ?_
       simp only [f0,f3,f4,SX,reduceCtorEq,Nat.reduceEqDiff,↓reduceIte]
      ·have g1' : decide (p.1 <= (cb.toNat : Int)) = false := by simpa using g1
       simp only [f0,f3,f4,f5,f6,dk,hix,xi,li,xk,y0,m0,g1',wk,lngV_str,SX,reduceCtorEq,Nat.reduceEqDiff,↓reduceIte]
       refine step _ false (fun hh => by simp at hh) (fun _ hh => g1 hh.1) ?_
       simp only [f0,f3,f4,SX,reduceCtorEq,Nat.reduceEqDiff,↓reduceIte]
     | false =>
      simp only [f0,f4,f5,f6,dk,w1,lngV_str,SX,reduceCtorEq,Nat.reduceEqDiff,↓reduceIte]
      refine next _ (hok2 rfl) ?_
      simp only [f0,f3,SX,reduceCtorEq,Nat.reduceEqDiff,↓reduceIte]
    ·have hkl : k = s.length := by omega
     cases ok with
     | true =>
      obtain ⟨q1,q2⟩ := hok1 rfl
      rw [hkl,List.take_length] at q1
      rw [if_pos q1] at hb
      have ll : lngV H2 1 (.slc bi 0 L.length L.length) = some (.int .i64 L.length) := rfl
      by_cases g : s.length = L.length
      ·have g' : decide ((s.length : Int) = L.length) = true := by simp; omega
       rw [if_pos g] at hb
       simp only [f0,f3,f4,f5,f6,dk,xi,li,ll,g',lngV_str,SX,reduceCtorEq,Nat.reduceEqDiff,↓reduceIte]
       exact ⟨by rw [<- hb],gr⟩
      ·have g' : decide ((s.length : Int) = L.length) = false := by simp; omega
       rw [if_neg g] at hb
       simp only [f0,f3,f4,f5,f6,dk,xi,li,ll,g',lngV_str,SX,reduceCtorEq,Nat.reduceEqDiff,↓reduceIte]
       exact ⟨by rw [<- hb],gr⟩
     | false =>
      simp only [f0,f4,f5,f6,dk,w1,lngV_str,SX,reduceCtorEq,Nat.reduceEqDiff,↓reduceIte]
      refine next _ (hok2 rfl) ?_
      simp only [f0,f3,SX,reduceCtorEq,Nat.reduceEqDiff,↓reduceIte]
  ·have hil : i = shapesI.length := by omega
   rw [hil,List.drop_length] at hb
   simp only [e3,e4,lv,d,SX,Nat.reduceEqDiff,↓reduceIte]
   exact ⟨by rw [<- hb]; rfl,gr⟩
set_option maxHeartbeats 4000000 in
theorem num_spec {c0 : UInt8} {t : List UInt8} (ht : t.length <= 3) : FnTo Q 71 [.str (c0 :: t)] H (fun r H' => r = .int .i32 (numR (c0 :: t)) /\ H' = H) := by
 refine fn_wp (er.ho 71 rfl _) er.q71 (by simp [A71]) ?_
 obtain ⟨u0,u1⟩ := u8_byte c0
 have i0 : idxStrV (.str (c0 :: t)) (.int .i64 0) = some (.int .u8 c0.toNat) := idxStr_at (i := 0) rfl .i64
 have wc : IntKind.wrap .i32 (c0.toNat : Int) = c0.toNat := wrapI32u8 u0 u1
 have hl : (c0 :: t).length = t.length + 1 := rfl
 obtain ⟨N,hN⟩ : ∃ N,(c0 :: t).length = N := ⟨_,rfl⟩
 have tm : ∀ m : Int,0 < m -> (c0.toNat : Int).tmod m = (c0.toNat : Int) % m := fun m _ => Int.tmod_eq_emod_of_nonneg u0
 have r32 := bin_remK .i32 (c0.toNat : Int) 32 (by omega)
 have r16 := bin_remK .i32 (c0.toNat : Int) 16 (by omega)
 have r8 := bin_remK .i32 (c0.toNat : Int) 8 (by omega)
 rw [tm _ (by omega)] at r32 r16 r8
 obtain ⟨x,hx⟩ : ∃ x,maskN N (c0.toNat : Int) = x := ⟨_,rfl⟩
 have hx0 : 0 <= x /\ x < 256 := by
  rw [<- hx]; unfold maskN
  (repeat' split) <;> omega
 have hres : numR (c0 :: t) = numF x t := by rw [<- hx,<- hN]; rfl
 have rest : ∀ (e : Env),Env.get e 0 = .str (c0 :: t) -> Env.get e 3 = .int .i32 x -> ACode.wp Q (sndC (sndC (sndC A71.body))) (fnK A71.res (fun r H' => r = .int .i32 (numR (c0 :: t)) /\ H' = H)) e H := by
  intro e e0 e3
  simp only [A71,sndC,SX,↓reduceIte]
  obtain ⟨I,hI⟩ : ∃ I : Nat -> Env -> AHeap -> Prop,∀ m e H',I m e H' ↔ (H' = H /\ ∃ i : Nat,m = t.length - i /\ i <= t.length /\ Env.get e 0 = .str (c0 :: t) /\ Env.get e 3 = .int .i32 (numF x (t.take i)) /\ Env.get e 4 = .int .i64 ((i : Int) + 1)) := ⟨_,fun _ _ _ => Iff.rfl⟩
  refine loop_by I t.length ?_ ?_
  ·refine (hI _ _ _).2 ⟨rfl,0,rfl,by omega,?_⟩
   simp only [e0,e3,SX,reduceCtorEq,Nat.reduceEqDiff,↓reduceIte]; exact ⟨rfl,rfl⟩
  ·intro m e H' hinv
   obtain ⟨rfl,i,rfl,hi,e0,e3,e4⟩ := (hI _ _ _).1 hinv
   by_cases d : (i : Int) + 1 < ((c0 :: t).length : Nat)
   ·rw [hl] at d
    obtain ⟨b,hb⟩ : ∃ b,t[i]? = some b := ⟨_,List.getElem?_eq_getElem (by omega)⟩
    have hix : idxStrV (.str (c0 :: t)) (.int .i64 ((i : Int) + 1)) = some (.int .u8 b.toNat) := idxStr_at (i := i + 1) (by simpa using hb) .i64
    obtain ⟨v0,v1⟩ := u8_byte b
    have wb : IntKind.wrap .i32 (b.toNat : Int) = b.toNat := wrapI32u8 v0 v1
    have rb := bin_remK .i32 (b.toNat : Int) 64 (by omega)
    rw [Int.tmod_eq_emod_of_nonneg v0] at rb
    obtain ⟨y0,y1⟩ := numF_le (t := t.take i) hx0.1 hx0.2
    have hil : (t.take i).length = i := by simp; omega
    rw [hil] at y1
    have hb64 : numF x (t.take i) < 256 * 64 ^ 2 := by
     have h01 : i = 0 \/ i = 1 \/ i = 2 := by omega
     rcases h01 with rfl | rfl | rfl <;> omega
    have w1 : IntKind.wrap .i32 (64 * numF x (t.take i)) = 64 * numF x (t.take i) := wrapI32 (by omega) (by omega)
    have w2 : IntKind.wrap .i32 (64 * numF x (t.take i) + (b.toNat : Int) % 64) = 64 * numF x (t.take i) + (b.toNat : Int) % 64 := wrapI32 (by omega) (by omega)
    have w3 : IntKind.wrap .i64 ((i : Int) + 1 + 1) = ((i + 1 : Nat) : Int) + 1 := by rw [wrapI64 (by omega) (by omega)]; rfl
    have d' : (i : Int) + 1 < ((c0 :: t).length : Nat) := by rw [hl]; exact d
    simp only [e0,e3,e4,d',hix,wb,rb,w1,w2,w3,lngV_str,SX,reduceCtorEq,Nat.reduceEqDiff,↓reduceIte]
    refine ⟨t.length - (i + 1),by omega,(hI _ _ _).2 ⟨rfl,i + 1,rfl,by omega,?_⟩⟩
    simp only [e0,SX,reduceCtorEq,Nat.reduceEqDiff,↓reduceIte]
    rw [List.take_add_one,hb]
    simp [numF]
   ·simp only [e0,e3,e4,d,lngV_str,SX,reduceCtorEq,Nat.reduceEqDiff,↓reduceIte]
    rw [hl] at d
    rw [hres,List.take_of_length_le (by omega)]
 have top : ∀ (e : Env),Env.get e 0 = .str (c0 :: t) -> Env.get e 3 = .int .i32 (c0.toNat : Int) -> ACode.wp Q (sndC (sndC A71.body)) (fnK A71.res (fun r H' => r = .int .i32 (numR (c0 :: t)) /\ H' = H)) e H := by
  intro e e0 e3
  have lg : lngV H 0 (.str (c0 :: t)) = some (.int .i64 N) := by rw [<- hN]; rfl
  rw [wp_parts _ rfl]
  generalize ACode.wp Q (sndC (sndC (sndC A71.body))) (fnK A71.res (fun r H' => r = .int .i32 (numR (c0 :: t)) /\ H' = H)) = kr at rest ⊢
  by_cases n2 : (N : Int) = 2
  ·have n2' : decide ((N : Int) = 2) = true := by simpa using n2
   simp only [A71,sndC,fstC,e0,e3,lg,n2',r32,SX,Nat.reduceEqDiff,↓reduceIte]
   refine rest _ ?_ ?_ <;> simp only [e0,SX,reduceCtorEq,↓reduceIte]
   rw [<- hx]; unfold maskN; rw [if_pos (by omega)]
  by_cases n3 : (N : Int) = 3
  ·have n3' : decide ((N : Int) = 3) = true := by simpa using n3
   simp only [A71,sndC,fstC,e0,e3,lg,n2,n3',r16,SX,Nat.reduceEqDiff,↓reduceIte]
   refine rest _ ?_ ?_ <;> simp only [e0,SX,reduceCtorEq,↓reduceIte]
   rw [<- hx]; unfold maskN; rw [if_neg (by omega),if_pos (by omega)]
  by_cases n4 : (N : Int) = 4
  ·have n4' : decide ((N : Int) = 4) = true := by simpa using n4
   simp only [A71,sndC,fstC,e0,e3,lg,n2,n3,n4',r8,SX,Nat.reduceEqDiff,↓reduceIte]
   refine rest _ ?_ ?_ <;> simp only [e0,SX,reduceCtorEq,↓reduceIte]
   rw [<- hx]; unfold maskN; rw [if_neg (by omega),if_neg (by omega),if_pos (by omega)]
  ·simp only [A71,sndC,fstC,e0,lg,n2,n3,n4,SX,Nat.reduceEqDiff,↓reduceIte]
   refine rest _ ?_ ?_ <;> simp only [e0,e3,SX,reduceCtorEq,Nat.reduceEqDiff,↓reduceIte]
   rw [<- hx]; unfold maskN; rw [if_neg (by omega),if_neg (by omega),if_neg (by omega)]
 rw [wp_parts _ rfl,wp_partsF (sndC A71.body) rfl]
 generalize ACode.wp Q (sndC (sndC A71.body)) (fnK A71.res (fun r H' => r = .int .i32 (numR (c0 :: t)) /\ H' = H)) = kr at top ⊢
 simp only [A71,sndC,fstC,i0,wc,SX,reduceCtorEq,↓reduceIte]
 refine top _ ?_ ?_ <;> simp only [SX,reduceCtorEq,↓reduceIte]
end
structure Pf where
 a0 : AV
 a1 : AV
 a2 : AV
 a3 : AV
 a4 : AV
 a5 : AV
 a6 : AV
 a7 : AV
 a8 : AV
 a9 : AV
 a10 : AV
 z : AV
def px (P : Pf) (L : List AV) : List AV := P.a0 :: P.a1 :: P.a2 :: P.a3 :: P.a4 :: P.a5 :: P.a6 :: P.a7 :: P.a8 :: P.a9 :: P.a10 :: L
def RuV (v : AV) (xs : List Int) (cl : List Cel) : Prop := (xs = [] /\ v = .nils /\ cl = []) \/ ∃ q,v = .slc q 0 xs.length xs.length /\ cl = [⟨q,1,xs.map (.int .i32)⟩]
theorem RuV.len {v : AV} {xs : List Int} {cl : List Cel} (h : RuV v xs cl) (H : AHeap) : lngV H 1 v = some (.int .i64 xs.length) := by
 rcases h with ⟨rfl,rfl,_⟩ | ⟨q,rfl,_⟩ <;> rfl
theorem bin_neqb (a b : List UInt8) : binV .neq (.str a) (.str b) = some (.bool (!decide (a = b))) := by
 by_cases h : a = b <;> simp [binV,strBin,h]
section
variable {Q : Prog} (er : EvR Q) {base : Nat} {H : AHeap} {l : List Cel}
theorem RuV.push {base : Nat} {H : AHeap} {l : List Cel} {v : AV} {xs : List Int} {cl : List Cel} (h : RuV v xs cl) (hp : Hp base H (cl ++ l)) (hx : xs.length <= 10) (x : Int) :
  ∃ H1 H2 w cl',H.alloc (.row ⟨[.int .i32 x],0,false,true,0⟩) = H1 /\ appendE H1 1 4 v (.slc H.next 0 1 1) = some (w,H2) /\ RuV w (xs ++ [x]) cl' /\ Hp base H2 (cl' ++ l) /\ Keep base H H2 := by
 obtain ⟨H1,s1,h1,k1⟩ := hp.make [.int .i32 x] 1
 obtain ⟨B,r1,c1⟩ := h1.rowOf (cs := [.int .i32 x]) (List.mem_cons_self ..)
 rcases h with ⟨rfl,rfl,rfl⟩ | ⟨q,rfl,rfl⟩
 ·obtain ⟨H2,s2,h2,k2⟩ := h1.append0 (bytes := 4) (o2 := 0) (c2 := 1) (v := .int .i32 x) r1 (by rw [c1]; rfl) rfl (by omega) (by omega)
  exact ⟨H1,H2,_,[⟨H1.next,1,[.int .i32 x]⟩],s1,s2,.inr ⟨H1.next,rfl,rfl⟩,h2.swap.drop,k1.trans k2⟩
 ·obtain ⟨H2,s2,h2,k2⟩ := (Hp.swap h1).append1 (bytes := 4) (o2 := 0) (c2 := 1) (v := .int .i32 x) (n := xs.length) (by simp) r1 (by rw [c1]; rfl) rfl (by omega) (by omega)
  refine ⟨H1,H2,_,[⟨H1.next,1,(xs ++ [x]).map (.int .i32)⟩],s1,s2,.inr ⟨H1.next,by simp,rfl⟩,?_,k1.trans k2⟩
  have e : (xs ++ [x]).map (AV.int .i32) = xs.map (AV.int .i32) ++ [.int .i32 x] := by simp
  rw [e]
  exact h2.swap.drop
theorem str_one {base : Nat} {H : AHeap} {l : List Cel} (hp : Hp base H l) (b : UInt8) : ∃ H1,H.alloc (.row ⟨[.int .u8 b.toNat],0,false,true,0⟩) = H1 /\ strOfBytesV H1 (.slc H.next 0 1 1) = some (.str [b]) /\ Hp base H1 l /\ Keep base H H1 := by
 obtain ⟨H1,s1,h1,k1⟩ := hp.make [.int .u8 b.toNat] 1
 exact ⟨H1,s1,XRv.str (t := [b]) (cl := [⟨H.next,1,bytesV [b]⟩]) (.inr ⟨H.next,by simp,rfl,rfl⟩) h1 (fun x hx => by simp only [List.mem_singleton] at hx; subst hx; exact List.mem_cons_self ..),h1.drop,k1⟩
include er
set_option maxHeartbeats 4000000 in
theorem tail_wp {P : Pf} {p : Nat} {a : AV} {k : List UInt8} {R : List AV} {cl : List Cel} {out : AV} {xs : List Int} {s : List UInt8} {e : Env} (h : Hp base H (⟨p,1,px P (a :: .str k :: R)⟩ :: (cl ++ l))) (ho : RuV out xs cl) (hxs : xs.length <= 2) (hs : s.length <= 4) (hs0 : s ≠ [])
  (e0 : Env.get e 0 = .ptr p 12) (e5 : Env.get e 5 = out) (e6 : Env.get e 6 = .str s) {K : AV -> AHeap -> Prop} (hK : ∀ r H' cl',RuV r (xs ++ (dec1 s).1) cl' -> Hp base H' (⟨p,1,px P (a :: .str (dec1 s).2 :: R)⟩ :: (cl' ++ l)) -> Keep base H H' -> K r H') : ACode.wp Q A42_tail (fnK [.t 4] K) e H := by
 obtain ⟨H1,s1,h1,k1,n1⟩ := h.store (o := 12) (v := .str []) rfl (by simp [px])
 simp only [A42_tail,e0,e6,s1,SX,reduceCtorEq,Nat.reduceEqDiff,↓reduceIte]
 have h1 : Hp base H1 (⟨p,1,px P (a :: .str [] :: R)⟩ :: (cl ++ l)) := h1
 refine (beg_spec er (s := s) (by omega) h1.fr).mono ?_
 rintro r H2 ⟨rfl,g2⟩
 have h2 := h1.keep g2.keep g2.next g2.fr
 have k2 : Keep base H1 H2 := g2.keep.le h1.bn
 have mv : Hp base H2 (cl ++ (⟨p,1,px P (a :: .str [] :: R)⟩ :: l)) := h2.re fun x => by simp only [cnt_cons,cnt_append]; omega
 by_cases c0 : begR s = 0
 ·have c0' : decide (begR s = 0) = true := by simpa using c0
  have hd : dec1 s = ([65533],[]) := by unfold dec1; rw [if_pos c0]
  obtain ⟨H3,H4,w,cl',s3,s4,hw,h4,k4⟩ := ho.push mv (by omega) 65533
  simp only [c0',e5,s3,s4,SX,reduceCtorEq,Nat.reduceEqDiff,↓reduceIte]
  refine hK _ _ cl' ?_ ?_ ((k1.trans k2).trans k4)
  ·rw [hd]; exact hw
  ·rw [hd]; exact h4.re fun x => by simp only [cnt_cons,cnt_append]; omega
 by_cases c1 : begR s = 1
 ·have c1' : decide (begR s = 1) = true := by simpa using c1
  have hd : dec1 s = ([],s) := by unfold dec1; rw [if_neg c0,if_pos c1]
  obtain ⟨H3,s3,h3,k3,n3⟩ := h2.store (o := 12) (v := .str s) rfl (by simp [px])
  simp only [c0,c1',e0,e5,e6,s3,SX,reduceCtorEq,Nat.reduceEqDiff,↓reduceIte]
  refine hK _ _ cl ?_ ?_ ((k1.trans k2).trans k3)
  ·rw [hd,List.append_nil]; exact ho
  ·rw [hd]; exact h3
 ·have hd : dec1 s = ([numR s],[]) := by unfold dec1; rw [if_neg c0,if_neg c1]
  obtain ⟨c,t,rfl⟩ : ∃ c t,s = c :: t := by cases s with
   | nil => exact absurd rfl hs0
   | cons c t => exact ⟨c,t,rfl⟩
  obtain ⟨H3,H4,w,cl',s3,s4,hw,h4,k4⟩ := ho.push mv (by omega) (numR (c :: t))
  simp only [c0,c1,e5,e6,SX,reduceCtorEq,Nat.reduceEqDiff,↓reduceIte]
  refine (num_spec er (by simp at hs; omega)).mono ?_
  rintro r H5 ⟨rfl,rfl⟩
  simp only [s3,s4,SX,Nat.reduceEqDiff,↓reduceIte]
  refine hK _ _ cl' ?_ ?_ ((k1.trans k2).trans k4)
  ·rw [hd]; exact hw
  ·rw [hd]; exact h4.re fun x => by simp only [cnt_cons,cnt_append]; omega
set_option maxHeartbeats 4000000 in
theorem decByte_spec {P : Pf} {p : Nat} {a : AV} {k : List UInt8} {R : List AV} (h : Hp base H (⟨p,1,px P (a :: .str k :: R)⟩ :: l)) (hk : k.length <= 3) {b : UInt8} :
  FnTo Q 42 [.ptr p 12,.int .u8 b.toNat] H (fun r H' => ∃ cl,RuV r (decR k b).1 cl /\ Hp base H' (⟨p,1,px P (a :: .str (decR k b).2 :: R)⟩ :: (cl ++ l)) /\ Keep base H H') := by
 refine fn_wp (er.ho 42 rfl _) er.q42 (by simp [A42]) ?_
 have res : A42.res = [.t 4] := rfl
 rw [res]
 have l0 := h.load (b := p) (k := 1) (List.mem_cons_self ..) (o := 12) (v := .str k) rfl
 obtain ⟨H1,s1,t1,h1,k1⟩ := str_one h b
 have l1 := h1.load (b := p) (k := 1) (List.mem_cons_self ..) (o := 12) (v := .str k) rfl
 have ad := bin_adds k [b] (by simp; omega)
 by_cases hk0 : k = []
 ·have c' : (!decide (k = [])) = false := by simp [hk0]
  simp only [A42,l0,s1,t1,l1,ad,bin_neqb,c',SX,reduceCtorEq,Nat.reduceEqDiff,↓reduceIte]
  refine tail_wp er (xs := []) (cl := []) (s := k ++ [b]) (out := .nils) h1 (.inl ⟨rfl,rfl,rfl⟩) (by simp) (by simp; omega) (by simp) ?_ ?_ ?_ ?_
  ·simp only [SX,reduceCtorEq,↓reduceIte]
  ·simp only [SX,Nat.reduceEqDiff,↓reduceIte]
  ·simp only [SX,Nat.reduceEqDiff,↓reduceIte]
  ·intro r H' cl' hr hp' kp
   have hd : decR k b = dec1 (k ++ [b]) := by unfold decR; rw [if_neg (by simp [hk0])]
   rw [hd]
   exact ⟨cl',hr,hp',k1.trans kp⟩
 ·have c' : (!decide (k = [])) = true := by simp [hk0]
  simp only [A42,l0,s1,t1,l1,ad,bin_neqb,c',SX,reduceCtorEq,Nat.reduceEqDiff,↓reduceIte]
  refine (beg_spec er (s := k ++ [b]) (by simp; omega) h1.fr).mono ?_
  rintro r H2 ⟨rfl,g2⟩
  have h2 := h1.keep g2.keep g2.next g2.fr
  have k2 : Keep base H1 H2 := g2.keep.le h1.bn
  by_cases c0 : begR (k ++ [b]) = 0
  ·have c0' : decide (begR (k ++ [b]) = 0) = true := by simpa using c0
   obtain ⟨H3,H4,w,cl',s3,s4,hw,h4,k4⟩ := RuV.push (v := .nils) (xs := []) (cl := []) (.inl ⟨rfl,rfl,rfl⟩) h2 (by simp) 65533
   obtain ⟨H5,s5,t5,h5,k5⟩ := str_one h4 b
   simp only [c0',s3,s4,s5,t5,SX,Nat.reduceEqDiff,↓reduceIte]
   refine tail_wp er (P := P) (p := p) (a := a) (R := R) (l := l) (xs := [65533]) (cl := cl') (s := [b]) (out := w) (k := k) (h5.re fun x => by simp only [cnt_cons,cnt_append]; omega) hw (by simp) (by simp) (by simp) ?_ ?_ ?_ ?_
   ·simp only [SX,reduceCtorEq,↓reduceIte]
   ·simp only [SX,Nat.reduceEqDiff,↓reduceIte]
   ·simp only [SX,↓reduceIte]
   ·intro r H' cl2 hr hp' kp
    have hd : decR k b = (65533 :: (dec1 [b]).1,(dec1 [b]).2) := by unfold decR; rw [if_pos ⟨hk0,c0⟩]
    rw [hd]
    exact ⟨cl2,hr,hp',(((k1.trans k2).trans k4).trans k5).trans kp⟩
  ·have c0' : decide (begR (k ++ [b]) = 0) = false := by simpa using c0
   simp only [c0',SX,Nat.reduceEqDiff,↓reduceIte]
   refine tail_wp er (xs := []) (cl := []) (s := k ++ [b]) (out := .nils) h2 (.inl ⟨rfl,rfl,rfl⟩) (by simp) (by simp; omega) (by simp) ?_ ?_ ?_ ?_
   ·simp only [SX,reduceCtorEq,↓reduceIte]
   ·simp only [SX,Nat.reduceEqDiff,↓reduceIte]
   ·simp only [SX,Nat.reduceEqDiff,↓reduceIte]
   ·intro r H' cl' hr hp' kp
    have hd : decR k b = dec1 (k ++ [b]) := by unfold decR; rw [if_neg (fun hh => c0 hh.2)]
    rw [hd]
    exact ⟨cl',hr,hp',(k1.trans k2).trans kp⟩
end
def rcs (P : Pf) (S : RSt) (tv : AV) : List AV := px P [.int .i64 S.st,.str S.kept,.str S.list,.str S.mids,.int .u8 S.fin,.str S.text,tv,P.z]
structure RCel where
 tv : AV
 tcl : List Cel
 E : List EvC
structure RCel.ok (c : RCel) (S : RSt) : Prop where
 t : TRv c.tv c.E c.tcl
 e : c.E.map (fun a => a.1.pure) = S.told
 ev : ∀ a ∈ c.E,PRv a.1.v a.1.L a.2
theorem _root_.Go.Proofs.YtfbcgjpblomckaaDoor.AM.EvN.TRv.same {v : AV} {E : List EvC} {cl : List Cel} (h : TRv v E cl) : AV.same v v = true := by
 rcases h with ⟨_,rfl,_⟩ | ⟨b,pre,rfl,_⟩ <;> simp [AV.same,AV.same1]
def RPar (P : Pf) (base : Nat) (H : AHeap) (p : Nat) (S : RSt) (l : List Cel) : Prop := ∃ c : RCel,c.ok S /\ Hp base H (⟨p,1,rcs P S c.tv⟩ :: (c.tcl ++ l))
theorem RPar.keep {base : Nat} {H H' : AHeap} {P : Pf} {p : Nat} {S : RSt} {l : List Cel} (h : RPar P base H p S l) (g : Gr H H') : RPar P base H' p S l := by
 obtain ⟨c,ok,hp⟩ := h
 exact ⟨c,ok,hp.keep g.keep g.next g.fr⟩
theorem RPar.fr {base : Nat} {H : AHeap} {P : Pf} {p : Nat} {S : RSt} {l : List Cel} (h : RPar P base H p S l) : Fr H := by
 obtain ⟨c,ok,hp⟩ := h
 exact hp.fr
theorem RPar.bn {base : Nat} {H : AHeap} {P : Pf} {p : Nat} {S : RSt} {l : List Cel} (h : RPar P base H p S l) : base <= H.next := by
 obtain ⟨c,ok,hp⟩ := h
 exact hp.bn
theorem RPar.open {base : Nat} {H : AHeap} {P : Pf} {p : Nat} {S : RSt} {l : List Cel} (h : RPar P base H p S l) : ∃ r,Hp base H (l ++ r) /\ ∀ H' l',Hp base H' (l' ++ r) -> RPar P base H' p S l' := by
 obtain ⟨c,ok,hp⟩ := h
 refine ⟨⟨p,1,rcs P S c.tv⟩ :: c.tcl,hp.re fun a => ?_,fun H' l' h' => ⟨c,ok,h'.re fun a => ?_⟩⟩
 ·simp only [cnt_cons,cnt_append]; omega
 ·simp only [cnt_cons,cnt_append]; omega
theorem RPar.hp {base : Nat} {H : AHeap} {P : Pf} {p : Nat} {S : RSt} {l : List Cel} (h : RPar P base H p S l) : Hp base H l := by
 obtain ⟨r,hp,back⟩ := h.open
 exact hp.sub (List.sublist_append_left _ _)
theorem RPar.drop {base : Nat} {H : AHeap} {P : Pf} {p : Nat} {S : RSt} {l : List Cel} {x : Cel} (h : RPar P base H p S (x :: l)) : RPar P base H p S l := by
 obtain ⟨r,hp,back⟩ := h.open
 exact back _ _ (Hp.drop (l := l ++ r) hp)
theorem RPar.join {base : Nat} {H H' : AHeap} {P : Pf} {p : Nat} {S : RSt} {l l' : List Cel} (h : RPar P base H p S l) (g : Gr H H') (h' : Hp H.next H' l') : RPar P base H' p S (l' ++ l) := by
 obtain ⟨r,hp,back⟩ := h.open
 refine back _ _ ?_
 rw [List.append_assoc]
 exact hp.join g h'
section
variable {base : Nat} {H : AHeap} {P : Pf} {p : Nat} {S : RSt} {l : List Cel}
theorem RPar.tell {a : EvC} (h : RPar P base H p S (a.2 ++ l)) (ha : PRv a.1.v a.1.L a.2) (hs : S.told.length <= 1000000) :
  ∃ tv H1 H2 w H3,loadV H Option.none (.ptr p 17) = some tv /\ H.alloc (.row ⟨a.1.cs,0,false,true,0⟩) = H1 /\ appendE H1 6 72 tv (.slc H.next 0 1 1) = some (w,H2) /\ storeE H2 1 (.ptr p 17) w = some (.undef,H3) /\ RPar P base H3 p (S.tell a.1.pure) l /\ Keep base H H3 := by
 obtain ⟨c,ok,hp⟩ := h
 have hE : c.E.length = S.told.length := by rw [<- ok.e]; simp
 have l1 := hp.load (b := p) (k := 1) (cs := rcs P S c.tv) (by simp) (o := 17) (v := c.tv) rfl
 obtain ⟨H2,s2,g2,k2⟩ := hp.make a.1.cs 6
 have g2' : Hp base H2 (c.tcl ++ (⟨H.next,6,[] ++ (a.1.cs ++ [])⟩ :: (⟨p,1,rcs P S c.tv⟩ :: (a.2 ++ l)))) := by
  rw [List.append_nil,List.nil_append]
  exact g2.re fun x => by simp only [cnt_cons,cnt_append]; omega
 have hsrc : srcCells H2 6 (.slc H.next 0 1 1) = some ([a].length,flatV [a]) := by
  rw [flatV_one]
  exact g2'.src (k' := 6) (pre := []) (post := []) (ys := a.1.cs) (List.mem_append_right _ (List.mem_cons_self ..)) rfl rfl (by omega)
 obtain ⟨b,H3,s3,g3,k3⟩ := ok.t.push g2' hsrc (fun x hx => by simp only [List.mem_singleton] at hx; subst hx; exact ha) (by simp) (by simp; omega)
 have g3' : Hp base H3 (⟨p,1,rcs P S c.tv⟩ :: ⟨b,6,flatV (c.E ++ [a])⟩ :: (flatC c.E ++ (a.2 ++ l))) := by
  have := g3.re (l' := ⟨H.next,6,[] ++ (a.1.cs ++ [])⟩ :: (⟨p,1,rcs P S c.tv⟩ :: ⟨b,6,flatV (c.E ++ [a])⟩ :: (flatC c.E ++ (a.2 ++ l)))) (fun x => by simp only [cnt_cons,cnt_append]; omega)
  exact this.drop
 obtain ⟨H4,s4,g4,k4,n4⟩ := g3'.store (o := 17) (v := .slc b 0 (c.E ++ [a]).length (c.E ++ [a]).length) rfl (by simp [rcs,px])
 refine ⟨_,H2,H3,_,H4,l1,s2,s3,s4,⟨⟨.slc b 0 (c.E ++ [a]).length (c.E ++ [a]).length,⟨b,6,flatV (c.E ++ [a])⟩ :: flatC (c.E ++ [a]),c.E ++ [a]⟩,⟨.inr ⟨b,[],rfl,rfl⟩,?_,?_⟩,?_⟩,(k2.trans k3).trans k4⟩
 ·simp only [RSt.tell,List.map_append,ok.e,List.map_cons,List.map_nil]
 ·intro x hx
  rcases List.mem_append.1 hx with hx | hx
  ·exact ok.ev x hx
  ·simp only [List.mem_singleton] at hx; subst hx; exact ha
 ·refine Hp.re (l := ⟨p,1,(rcs P S c.tv).set 17 (.slc b 0 (c.E ++ [a]).length (c.E ++ [a]).length)⟩ :: ⟨b,6,flatV (c.E ++ [a])⟩ :: (flatC c.E ++ (a.2 ++ l))) g4 fun x => ?_
  have e1 : (rcs P S c.tv).set 17 (.slc b 0 (c.E ++ [a]).length (c.E ++ [a]).length) = rcs P (S.tell a.1.pure) (.slc b 0 (c.E ++ [a]).length (c.E ++ [a]).length) := rfl
  rw [e1,flatC_app,flatC_one]
  simp only [cnt_cons,cnt_append]
  omega
variable {Q : Prog} (er : EvR Q)
include er
theorem print_spec {r : Int} (h : RPar P base H p S l) (hs : S.told.length <= 1000000) : FnTo Q 43 [.ptr p 11,.int .i32 r] H (fun _ H' => RPar P base H' p (S.tell ⟨1,r,0,[],[],[]⟩) l /\ Keep base H H') := by
 refine fn_wp (er.ho 43 rfl _) er.q43 (by simp [A43]) ?_
 obtain ⟨tv,H1,H2,w,H3,l6,s1,s2,s3,par,k⟩ := RPar.tell (a := ev0 1 r 0 [] []) (l := l) h (ev0_ok _ _ _ _ _) hs
 simp only [A43,hzE,run_build,build_print,run_bslice6,bs6V_ev (ev0_ok 1 r 0 [] []).one,l6,s1,s2,s3,SX,reduceCtorEq,Nat.reduceEqDiff,↓reduceIte,Nat.reduceAdd]
 exact ⟨par,k⟩
theorem endR_spec (h : RPar P base H p S l) (hs : S.told.length <= 1000000) : FnTo Q 40 [.ptr p 11] H (fun _ H' => RPar P base H' p S.endS l /\ Keep base H H') := by
 refine fn_wp (er.ho 40 rfl _) er.q40 (by simp [A40]) ?_
 have par := h
 obtain ⟨c,ok,hp⟩ := h
 have l1 := hp.load (b := p) (k := 1) (cs := rcs P S c.tv) (by simp) (o := 12) (v := .str S.kept) rfl
 by_cases hk : S.kept = []
 ·have c' : (!decide (S.kept = [])) = false := by simp [hk]
  simp only [A40,l1,bin_neqb,c',SX,↓reduceIte,Nat.reduceAdd]
  unfold RSt.endS; rw [if_pos hk]
  exact ⟨par,Keep.refl _ _⟩
 ·have c' : (!decide (S.kept = [])) = true := by simp [hk]
  simp only [A40,l1,bin_neqb,c',SX,reduceCtorEq,↓reduceIte,Nat.reduceAdd]
  refine (print_spec er par hs).mono ?_
  rintro r H1 ⟨⟨c1,ok1,h1⟩,k1⟩
  obtain ⟨H2,s2,h2,k2,n2⟩ := h1.store (o := 12) (v := .str []) rfl (by simp [rcs,px])
  simp only [s2,SX,reduceCtorEq,↓reduceIte,Nat.reduceAdd]
  refine ⟨?_,k1.trans k2⟩
  unfold RSt.endS; rw [if_neg hk]
  exact ⟨c1,⟨ok1.t,ok1.e,ok1.ev⟩,h2⟩
set_option maxHeartbeats 4000000 in
theorem stopR_spec {c : UInt8} (h : RPar P base H p S l) (hs : S.told.length <= 1000000) (hl : S.list.length <= 100000) : FnTo Q 41 [.ptr p 11,.int .u8 c.toNat] H (fun _ H' => RPar P base H' p (S.stopS c) l /\ Keep base H H') := by
 refine fn_wp (er.ho 41 rfl _) er.q41 (by simp [A41]) ?_
 have par := h
 obtain ⟨C,ok,hp⟩ := h
 have l0 := hp.load (b := p) (k := 1) (cs := rcs P S C.tv) (by simp) (o := 11) (v := .int .i64 S.st) rfl
 have l2 := hp.load (b := p) (k := 1) (cs := rcs P S C.tv) (by simp) (o := 13) (v := .str S.list) rfl
 have l3 := hp.load (b := p) (k := 1) (cs := rcs P S C.tv) (by simp) (o := 14) (v := .str S.mids) rfl
 have l4 := hp.load (b := p) (k := 1) (cs := rcs P S C.tv) (by simp) (o := 15) (v := .int .u8 S.fin) rfl
 have l5 := hp.load (b := p) (k := 1) (cs := rcs P S C.tv) (by simp) (o := 16) (v := .str S.text) rfl
 have h24 : (c = 24) ↔ ((c.toNat : Int) = 24) := by
  constructor
  ·rintro rfl; rfl
  ·intro hh; exact UInt8.toNat_inj.1 (by show c.toNat = 24; omega)
 have h26 : (c = 26) ↔ ((c.toNat : Int) = 26) := by
  constructor
  ·rintro rfl; rfl
  ·intro hh; exact UInt8.toNat_inj.1 (by show c.toNat = 26; omega)
 by_cases c1 : (c.toNat : Int) = 24
 ·have c1' : decide ((c.toNat : Int) = 24) = true := by simpa using c1
  simp only [A41,c1',SX,Nat.reduceEqDiff,↓reduceIte]
  unfold RSt.stopS; rw [if_pos (.inl (h24.2 c1))]
  exact ⟨par,Keep.refl _ _⟩
 by_cases c2 : (c.toNat : Int) = 26
 ·have c2' : decide ((c.toNat : Int) = 26) = true := by simpa using c2
  simp only [A41,c1,c2',SX,Nat.reduceEqDiff,↓reduceIte]
  unfold RSt.stopS; rw [if_pos (.inr (h26.2 c2))]
  exact ⟨par,Keep.refl _ _⟩
 have hno : ¬ (c = 24 \/ c = 26) := by rw [h24,h26]; simp [c1,c2]
 by_cases c4 : S.st = 12
 ·have c4' : decide (S.st = 12) = true := by simpa using c4
  by_cases c5 : (S.text.length : Int) <= 1024
  ·obtain ⟨tv,H1,H2,w,H3,l6,s1,s2,s3,par,k⟩ := RPar.tell (a := ev0 5 0 0 [] S.text) (l := l) par (ev0_ok _ _ _ _ _) hs
   simp only [A41,c1,c2,l0,c4',l5,c5,lngV_str,hzE,run_build,build_osc,run_bslice6,bs6V_ev (ev0_ok 5 0 0 [] S.text).one,l6,s1,s2,s3,SX,reduceCtorEq,Nat.reduceEqDiff,↓reduceIte,Nat.reduceAdd]
   unfold RSt.stopS; rw [if_neg hno,if_pos c4,if_pos (by omega)]
   exact ⟨par,k⟩
  ·simp only [A41,c1,c2,l0,c4',l5,c5,lngV_str,SX,reduceCtorEq,Nat.reduceEqDiff,↓reduceIte,Nat.reduceAdd]
   unfold RSt.stopS; rw [if_neg hno,if_pos c4,if_neg (by omega)]
   exact ⟨par,Keep.refl _ _⟩
 ·have c4' : decide (S.st = 12) = false := by simpa using c4
  by_cases c5 : (S.text.length : Int) <= 256
  ·by_cases c6 : (S.mids.length : Int) <= 2
   ·have l6 := hp.load (b := p) (k := 1) (cs := rcs P S C.tv) (by simp) (o := 17) (v := C.tv) rfl
    have d5 : decide ((S.text.length : Int) <= 256) = true := by simpa using c5
    have d6 : decide ((S.mids.length : Int) <= 2) = true := by simpa using c6
    simp only [A41,c1,c2,l0,c4',l2,l3,l4,l5,l6,d5,d6,lngV_str,SX,reduceCtorEq,Nat.reduceEqDiff,↓reduceIte,Nat.reduceAdd]
    refine (refall_spec er.q44 (er.ho 44 rfl) hp.fr hl).mono ?_
    rintro r H1 ⟨k1,M,hL,hM⟩
    obtain ⟨cl,prv,hcl⟩ := hL.prv hM
    have gr := hcl.gr k1
    have hp1 := hp.keep gr.keep gr.next gr.fr
    have m3 := hp1.load (b := p) (k := 1) (cs := rcs P S C.tv) (by simp) (o := 14) (v := .str S.mids) rfl
    have m4 := hp1.load (b := p) (k := 1) (cs := rcs P S C.tv) (by simp) (o := 15) (v := .int .u8 S.fin) rfl
    have m5 := hp1.load (b := p) (k := 1) (cs := rcs P S C.tv) (by simp) (o := 16) (v := .str S.text) rfl
    have m6 := hp1.load (b := p) (k := 1) (cs := rcs P S C.tv) (by simp) (o := 17) (v := C.tv) rfl
    have par1 := par.join gr hcl
    have sstr : ∀ t : List UInt8,AV.same (.str t) (.str t) = true := fun t => by simp [AV.same,AV.same1]
    have sint : ∀ k (n : Int),AV.same (.int k n) (.int k n) = true := fun k n => by simp [AV.same,AV.same1]
    have stv := ok.t.same
    refine ⟨by simp only [echoOk,SX,Nat.reduceEqDiff,↓reduceIte,m3,m4,m5,m6,sstr,sint,stv]; simp,?_⟩
    obtain ⟨tv,H2,H3,w,H4,q6,s1,s2,s3,par2,k⟩ := RPar.tell (a := (⟨6,0,S.fin,S.mids,r,S.text,refAll S.list⟩,cl)) (l := l) par1 prv hs
    rw [m6] at q6
    obtain rfl := Option.some.inj q6
    simp only [hzE,run_build,build_dcs _ _ _ prv,run_bslice6,bs6V_ev (a := (⟨6,0,S.fin,S.mids,r,S.text,refAll S.list⟩ : Ev)) prv.one,s1,s2,s3,SX,Nat.reduceEqDiff,↓reduceIte,Nat.reduceAdd]
    unfold RSt.stopS; rw [if_neg hno,if_neg c4,if_pos ⟨by omega,by omega⟩]
    exact ⟨par2,(gr.keep.le hp.bn).trans k⟩
   ·have d5 : decide ((S.text.length : Int) <= 256) = true := by simpa using c5
    have d6 : decide ((S.mids.length : Int) <= 2) = false := by simpa using c6
    simp only [A41,c1,c2,l0,c4',l3,l5,d5,d6,lngV_str,SX,reduceCtorEq,Nat.reduceEqDiff,↓reduceIte,Nat.reduceAdd]
    unfold RSt.stopS; rw [if_neg hno,if_neg c4,if_neg (by omega)]
    exact ⟨par,Keep.refl _ _⟩
  ·have d5 : decide ((S.text.length : Int) <= 256) = false := by simpa using c5
   simp only [A41,c1,c2,l0,c4',l5,d5,lngV_str,SX,reduceCtorEq,Nat.reduceEqDiff,↓reduceIte,Nat.reduceAdd]
   unfold RSt.stopS; rw [if_neg hno,if_neg c4,if_neg (by omega)]
   exact ⟨par,Keep.refl _ _⟩
end
structure RE (e : Env) (p : Nat) (c : UInt8) (a n : Int) : Prop where
 e0 : Env.get e 0 = .ptr p 11
 e1 : Env.get e 1 = .int .u8 c.toNat
 e4 : Env.get e 4 = .int .i64 a
 e5 : Env.get e 5 = .int .i64 n
section
variable {Q : Prog} (er : EvR Q) {base : Nat} {H : AHeap} {P : Pf} {p : Nat} {S : RSt} {l : List Cel} {c : UInt8} {a n : Int} {e : Env} {K : PostC}
include er
theorem r1_wp (h : RPar P base H p S l) (hs : S.told.length <= 1000000) (f : RE e p c a n) (hk : ∀ e' H',RE e' p c a n -> RPar P base H' p (if a ≠ 1 then S.endS else S) l -> Keep base H H' -> K .normal e' H') : ACode.wp Q A26_c1 K e H := by
 obtain ⟨e0,e1,e4,e5⟩ := f
 by_cases d : a = 1
 ·have d' : (!decide (a = 1)) = false := by simp [d]
  simp only [A26_c1,e4,d',SX,↓reduceIte]
  refine hk _ H ⟨?_,?_,?_,?_⟩ ?_ (Keep.refl _ _)
  ·simp only [e0,SG,reduceCtorEq,↓reduceIte]
  ·simp only [e1,SG,Nat.reduceEqDiff,↓reduceIte]
  ·simp only [e4,SG,Nat.reduceEqDiff,↓reduceIte]
  ·simp only [e5,SG,Nat.reduceEqDiff,↓reduceIte]
  ·rw [if_neg (by simp [d])]; exact h
 ·have d' : (!decide (a = 1)) = true := by simp [d]
  simp only [A26_c1,e0,e4,d',SX,reduceCtorEq,↓reduceIte]
  refine (endR_spec er h hs).mono ?_
  rintro r H1 ⟨h1,k1⟩
  simp only [SX]
  refine hk _ H1 ⟨?_,?_,?_,?_⟩ ?_ k1
  ·simp only [e0,SG,reduceCtorEq,↓reduceIte]
  ·simp only [e1,SG,Nat.reduceEqDiff,↓reduceIte]
  ·simp only [e4,SG,Nat.reduceEqDiff,↓reduceIte]
  ·simp only [e5,SG,Nat.reduceEqDiff,↓reduceIte]
  ·rw [if_pos d]; exact h1
theorem r2_wp (h : RPar P base H p S l) (hs : S.told.length <= 1000000) (hl : S.list.length <= 100000) (f : RE e p c a n) (hk : ∀ e' H',RE e' p c a n -> RPar P base H' p (S.step2 n c) l -> Keep base H H' -> K .normal e' H') : ACode.wp Q A26_c2 K e H := by
 obtain ⟨e0,e1,e4,e5⟩ := f
 have par := h
 obtain ⟨C,ok,hp⟩ := h
 have l0 := hp.load (b := p) (k := 1) (cs := rcs P S C.tv) (by simp) (o := 11) (v := .int .i64 S.st) rfl
 have no : ∀ e',RE e' p c a n -> ¬ (n ≠ S.st /\ (S.st = 10 \/ S.st = 12)) -> K .normal e' H := fun e' f' d => hk _ H f' (by unfold RSt.step2; rw [if_neg d]; exact par) (Keep.refl _ _)
 have yes : (n ≠ S.st /\ (S.st = 10 \/ S.st = 12)) -> ∀ (k : AV -> AHeap -> Prop),(∀ r H',RPar P base H' p (S.step2 n c) l -> Keep base H H' -> k r H') -> FnTo Q 41 [.ptr p 11,.int .u8 c.toNat] H k := fun d k hh => (stopR_spec er par hs hl).mono fun r H' ⟨x,y⟩ => hh r H' (by unfold RSt.step2; rw [if_pos d]; exact x) y
 by_cases d1 : n = S.st
 ·have d1' : (!decide (n = S.st)) = false := by simp [d1]
  simp only [A26_c2,e0,e5,l0,d1',wantV_undef,SX,reduceCtorEq,Nat.reduceEqDiff,↓reduceIte]
  refine no _ ⟨?_,?_,?_,?_⟩ (by simp [d1])
  ·simp only [e0,SG,reduceCtorEq,↓reduceIte]
  ·simp only [e1,SG,Nat.reduceEqDiff,↓reduceIte]
  ·simp only [e4,SG,Nat.reduceEqDiff,↓reduceIte]
  ·simp only [e5,SG,Nat.reduceEqDiff,↓reduceIte]
 have d1' : (!decide (n = S.st)) = true := by simp [d1]
 by_cases d2 : S.st = 10
 ·have d2' : decide (S.st = 10) = true := by simpa using d2
  simp only [A26_c2,e0,e1,e5,l0,d1',d2',SX,reduceCtorEq,Nat.reduceEqDiff,↓reduceIte]
  refine yes ⟨d1,.inl d2⟩ _ ?_
  intro r H1 h1 k1
  simp only [SX]
  refine hk _ H1 ⟨?_,?_,?_,?_⟩ h1 k1
  ·simp only [e0,SG,reduceCtorEq,↓reduceIte]
  ·simp only [e1,SG,Nat.reduceEqDiff,↓reduceIte]
  ·simp only [e4,SG,Nat.reduceEqDiff,↓reduceIte]
  ·simp only [e5,SG,Nat.reduceEqDiff,↓reduceIte]
 have d2' : decide (S.st = 10) = false := by simpa using d2
 by_cases d3 : S.st = 12
 ·have d3' : decide (S.st = 12) = true := by simpa using d3
  simp only [A26_c2,e0,e1,e5,l0,d1',d2',d3',SX,reduceCtorEq,Nat.reduceEqDiff,↓reduceIte]
  refine yes ⟨d1,.inr d3⟩ _ ?_
  intro r H1 h1 k1
  simp only [SX]
  refine hk _ H1 ⟨?_,?_,?_,?_⟩ h1 k1
  ·simp only [e0,SG,reduceCtorEq,↓reduceIte]
  ·simp only [e1,SG,Nat.reduceEqDiff,↓reduceIte]
  ·simp only [e4,SG,Nat.reduceEqDiff,↓reduceIte]
  ·simp only [e5,SG,Nat.reduceEqDiff,↓reduceIte]
 ·have d3' : decide (S.st = 12) = false := by simpa using d3
  simp only [A26_c2,e0,e5,l0,d1',d2',d3',SX,reduceCtorEq,Nat.reduceEqDiff,↓reduceIte]
  refine no _ ⟨?_,?_,?_,?_⟩ (by simp [d2,d3])
  ·simp only [e0,SG,reduceCtorEq,↓reduceIte]
  ·simp only [e1,SG,Nat.reduceEqDiff,↓reduceIte]
  ·simp only [e4,SG,Nat.reduceEqDiff,↓reduceIte]
  ·simp only [e5,SG,Nat.reduceEqDiff,↓reduceIte]
omit er in
theorem r3_wp (h : RPar P base H p S l) (f : RE e p c a n) (hk : ∀ e' H',RE e' p c a n -> RPar P base H' p (S.step3 n) l -> Keep base H H' -> K .normal e' H') : ACode.wp Q A26_c3 K e H := by
 obtain ⟨e0,e1,e4,e5⟩ := f
 have par := h
 obtain ⟨C,ok,hp⟩ := h
 have l0 := hp.load (b := p) (k := 1) (cs := rcs P S C.tv) (by simp) (o := 11) (v := .int .i64 S.st) rfl
 obtain ⟨H1,s1,g1,k1,n1⟩ := hp.store (o := 13) (v := .str []) rfl (by simp [rcs,px])
 obtain ⟨H2,s2,g2,k2,n2⟩ := g1.store (o := 14) (v := .str []) rfl (by simp [rcs,px])
 obtain ⟨H3,s3,g3,k3,n3⟩ := g2.store (o := 16) (v := .str []) rfl (by simp [rcs,px])
 have fin : ∀ e',RE e' p c a n -> (n ≠ S.st /\ (n = 1 \/ n = 3 \/ n = 7 \/ n = 12)) -> K .normal e' H3 := fun e' f' d => hk _ H3 f' (by unfold RSt.step3; rw [if_pos d]; exact ⟨C,⟨ok.t,ok.e,ok.ev⟩,g3⟩) ((k1.trans k2).trans k3)
 have no : ∀ e',RE e' p c a n -> ¬ (n ≠ S.st /\ (n = 1 \/ n = 3 \/ n = 7 \/ n = 12)) -> K .normal e' H := fun e' f' d => hk _ H f' (by unfold RSt.step3; rw [if_neg d]; exact par) (Keep.refl _ _)
 by_cases d1 : n = S.st
 ·have d1' : (!decide (n = S.st)) = false := by simp [d1]
  simp only [A26_c3,e0,e5,l0,d1',wantV_undef,SX,reduceCtorEq,Nat.reduceEqDiff,↓reduceIte]
  refine no _ ⟨?_,?_,?_,?_⟩ (by simp [d1])
  ·simp only [e0,SG,reduceCtorEq,↓reduceIte]
  ·simp only [e1,SG,Nat.reduceEqDiff,↓reduceIte]
  ·simp only [e4,SG,Nat.reduceEqDiff,↓reduceIte]
  ·simp only [e5,SG,Nat.reduceEqDiff,↓reduceIte]
 have d1' : (!decide (n = S.st)) = true := by simp [d1]
 have e : n = 1 \/ n = 3 \/ n = 7 \/ n = 12 \/ ¬ (n = 1 \/ n = 3 \/ n = 7 \/ n = 12) := by omega
 rcases e with d | d | d | d | d
 ·have q1 : decide (n = 1) = true := by simpa using d
  simp only [A26_c3,e0,e5,l0,d1',q1,s1,s2,s3,SX,reduceCtorEq,Nat.reduceEqDiff,↓reduceIte,Nat.reduceAdd]
  refine fin _ ⟨?_,?_,?_,?_⟩ ⟨d1,.inl d⟩
  ·simp only [e0,SG,reduceCtorEq,↓reduceIte]
  ·simp only [e1,SG,reduceCtorEq,Nat.reduceEqDiff,↓reduceIte]
  ·simp only [e4,SG,reduceCtorEq,Nat.reduceEqDiff,↓reduceIte]
  ·simp only [e5,SG,reduceCtorEq,Nat.reduceEqDiff,↓reduceIte]
 ·have q1 : decide (n = 1) = false := by simp; omega
  have q2 : decide (n = 3) = true := by simpa using d
  simp only [A26_c3,e0,e5,l0,d1',q1,q2,s1,s2,s3,SX,reduceCtorEq,Nat.reduceEqDiff,↓reduceIte,Nat.reduceAdd]
  refine fin _ ⟨?_,?_,?_,?_⟩ ⟨d1,.inr (.inl d)⟩
  ·simp only [e0,SG,reduceCtorEq,↓reduceIte]
  ·simp only [e1,SG,reduceCtorEq,Nat.reduceEqDiff,↓reduceIte]
  ·simp only [e4,SG,reduceCtorEq,Nat.reduceEqDiff,↓reduceIte]
  ·simp only [e5,SG,reduceCtorEq,Nat.reduceEqDiff,↓reduceIte]
 ·have q1 : decide (n = 1) = false := by simp; omega
  have q2 : decide (n = 3) = false := by simp; omega
  have q3 : decide (n = 7) = true := by simpa using d
  simp only [A26_c3,e0,e5,l0,d1',q1,q2,q3,s1,s2,s3,SX,reduceCtorEq,Nat.reduceEqDiff,↓reduceIte,Nat.reduceAdd]
  refine fin _ ⟨?_,?_,?_,?_⟩ ⟨d1,.inr (.inr (.inl d))⟩
  ·simp only [e0,SG,reduceCtorEq,↓reduceIte]
  ·simp only [e1,SG,reduceCtorEq,Nat.reduceEqDiff,↓reduceIte]
  ·simp only [e4,SG,reduceCtorEq,Nat.reduceEqDiff,↓reduceIte]
  ·simp only [e5,SG,reduceCtorEq,Nat.reduceEqDiff,↓reduceIte]
 ·have q1 : decide (n = 1) = false := by simp; omega
  have q2 : decide (n = 3) = false := by simp; omega
  have q3 : decide (n = 7) = false := by simp; omega
  have q4 : decide (n = 12) = true := by simpa using d
  simp only [A26_c3,e0,e5,l0,d1',q1,q2,q3,q4,s1,s2,s3,SX,reduceCtorEq,Nat.reduceEqDiff,↓reduceIte,Nat.reduceAdd]
  refine fin _ ⟨?_,?_,?_,?_⟩ ⟨d1,.inr (.inr (.inr d))⟩
  ·simp only [e0,SG,reduceCtorEq,↓reduceIte]
  ·simp only [e1,SG,reduceCtorEq,Nat.reduceEqDiff,↓reduceIte]
  ·simp only [e4,SG,reduceCtorEq,Nat.reduceEqDiff,↓reduceIte]
  ·simp only [e5,SG,reduceCtorEq,Nat.reduceEqDiff,↓reduceIte]
 ·have q1 : decide (n = 1) = false := by simp; omega
  have q2 : decide (n = 3) = false := by simp; omega
  have q3 : decide (n = 7) = false := by simp; omega
  have q4 : decide (n = 12) = false := by simp; omega
  simp only [A26_c3,e0,e5,l0,d1',q1,q2,q3,q4,SX,reduceCtorEq,Nat.reduceEqDiff,↓reduceIte]
  refine no _ ⟨?_,?_,?_,?_⟩ (fun hh => d hh.2)
  ·simp only [e0,SG,reduceCtorEq,↓reduceIte]
  ·simp only [e1,SG,Nat.reduceEqDiff,↓reduceIte]
  ·simp only [e4,SG,Nat.reduceEqDiff,↓reduceIte]
  ·simp only [e5,SG,Nat.reduceEqDiff,↓reduceIte]
omit er in
theorem printsR_tell (S : RSt) (xs : List Int) (r : Int) : (S.prints xs).tell ⟨1,r,0,[],[],[]⟩ = S.prints (xs ++ [r]) := by
 simp [RSt.prints,RSt.tell]
omit er in
theorem decR_len (k : List UInt8) (b : UInt8) : (decR k b).1.length <= 2 := by
 have h1 : ∀ s,(dec1 s).1.length <= 1 := by
  intro s; unfold dec1
  (repeat' split) <;> simp
 unfold decR
 split
 ·have := h1 [b]; simp; omega
 ·have := h1 (k ++ [b]); omega
set_option maxHeartbeats 8000000 in
theorem r4_wp (hk3 : S.kept.length <= 3) (h : RPar P base H p S l) (hs : S.told.length <= 900000) (hl : S.list.length <= 100000) (hm : S.mids.length <= 100000) (hx : S.text.length <= 100000) (f : RE e p c a n) (hk : ∀ e' H',RE e' p c a n -> RPar P base H' p (S.doesS a c) l -> Keep base H H' -> K .normal e' H') : ACode.wp Q A26_c4 K e H := by
 obtain ⟨e0,e1,e4,e5⟩ := f
 have par := h
 obtain ⟨C,ok,hp⟩ := h
 have l2 := hp.load (b := p) (k := 1) (cs := rcs P S C.tv) (by simp) (o := 13) (v := .str S.list) rfl
 have l3 := hp.load (b := p) (k := 1) (cs := rcs P S C.tv) (by simp) (o := 14) (v := .str S.mids) rfl
 have l5 := hp.load (b := p) (k := 1) (cs := rcs P S C.tv) (by simp) (o := 16) (v := .str S.text) rfl
 have l6 := hp.load (b := p) (k := 1) (cs := rcs P S C.tv) (by simp) (o := 17) (v := C.tv) rfl
 by_cases a1 : a = 1
 ·have a1' : decide (a = 1) = true := by simpa using a1
  have ed : S.doesS a c = ({ S with kept := (decR S.kept c).2 } : RSt).prints (decR S.kept c).1 := by unfold RSt.doesS; rw [if_pos a1]
  rw [ed] at hk
  simp only [A26_c4,e0,e1,e4,a1',SX,reduceCtorEq,Nat.reduceEqDiff,↓reduceIte,Nat.reduceAdd]
  refine (decByte_spec er (p := p) (l := C.tcl ++ l) hp hk3).mono ?_
  rintro r H1 ⟨cl,hr,h1,k1⟩
  have hlen := decR_len S.kept c
  generalize (decR S.kept c).1 = xs at hr hk hlen
  generalize (decR S.kept c).2 = kp at h1 hk
  have p1 : RPar P base H1 p { S with kept := kp } (cl ++ l) := ⟨C,⟨ok.t,ok.e,ok.ev⟩,h1.re fun x => by simp only [cnt_cons,cnt_append,rcs]; omega⟩
  simp only [SX,↓reduceIte]
  obtain ⟨I,hI⟩ : ∃ I : Nat -> Env -> AHeap -> Prop,∀ m e H',I m e H' ↔ (Keep base H H' /\ ∃ i : Nat,m = xs.length - i /\ i <= xs.length /\ RPar P base H' p (({ S with kept := kp } : RSt).prints (xs.take i)) (cl ++ l) /\ RE e p c a n /\ Env.get e 6 = r /\ Env.get e 7 = .int .i64 i) := ⟨_,fun _ _ _ => Iff.rfl⟩
  refine loop_by I xs.length ?_ ?_
  ·refine (hI _ _ _).2 ⟨k1,0,rfl,by omega,?_,⟨?_,?_,?_,?_⟩,?_,?_⟩
   ·simp only [List.take_zero,RSt.prints,List.map_nil,List.append_nil]; exact p1
   ·simp only [e0,SG,reduceCtorEq,↓reduceIte]
   ·simp only [e1,SG,Nat.reduceEqDiff,↓reduceIte]
   ·simp only [e4,SG,Nat.reduceEqDiff,↓reduceIte]
   ·simp only [e5,SG,Nat.reduceEqDiff,↓reduceIte]
   ·simp only [SX,Nat.reduceEqDiff,↓reduceIte]
   ·simp only [SX,↓reduceIte]; rfl
  ·intro m e' H2 hinv
   obtain ⟨k2,i,rfl,hi,p2,⟨f0,f1,f4,f5⟩,f6,f7⟩ := (hI _ _ _).1 hinv
   have lx := hr.len H2
   by_cases d : (i : Int) < xs.length
   ·obtain ⟨x,hxi⟩ : ∃ x,xs[i]? = some x := ⟨_,List.getElem?_eq_getElem (by omega)⟩
    obtain ⟨xi,lr⟩ : idxSV 1 r (.int .i64 (i : Int)) = some (atOf r i) /\ loadV H2 Option.none (atOf r i) = some (.int .i32 x) := by
     rcases hr with ⟨rfl,_,_⟩ | ⟨q,rfl,rfl⟩
     ·simp at hxi
     ·refine ⟨by rw [idxSV_slc (by omega)]; rfl,?_⟩
      have := p2.hp.load (b := q) (k := 1) (cs := xs.map (.int .i32)) (by simp) (o := i) (v := .int .i32 x) (by rw [List.getElem?_map,hxi]; rfl)
      simp only [atOf,Nat.zero_add,Int.toNat_natCast]; exact this
    have w1 : IntKind.wrap .i64 ((i : Int) + 1) = ((i + 1 : Nat) : Int) := by rw [wrapI64 (by omega) (by omega)]; rfl
    simp only [f0,f6,f7,lx,d,xi,lr,SX,reduceCtorEq,Nat.reduceEqDiff,↓reduceIte]
    refine (print_spec er p2 (by simp [RSt.prints]; omega)).mono ?_
    rintro r2 H3 ⟨p3,k3⟩
    simp only [f7,w1,SX,Nat.reduceEqDiff,↓reduceIte]
    refine ⟨xs.length - (i + 1),by omega,(hI _ _ _).2 ⟨k2.trans k3,i + 1,rfl,by omega,?_,⟨?_,?_,?_,?_⟩,?_,?_⟩⟩
    ·rw [printsR_tell] at p3
     rw [List.take_add_one,hxi]; exact p3
    ·simp only [f0,SG,reduceCtorEq,↓reduceIte]
    ·simp only [f1,SG,Nat.reduceEqDiff,↓reduceIte]
    ·simp only [f4,SG,Nat.reduceEqDiff,↓reduceIte]
    ·simp only [f5,SG,Nat.reduceEqDiff,↓reduceIte]
    ·simp only [f6,SG,Nat.reduceEqDiff,↓reduceIte]
    ·simp only [SX,↓reduceIte]
   ·simp only [f6,f7,lx,d,SX,Nat.reduceEqDiff,↓reduceIte]
    rw [List.take_of_length_le (by omega)] at p2
    refine hk _ H2 ⟨?_,?_,?_,?_⟩ ?_ k2
    ·simp only [f0,SG,reduceCtorEq,↓reduceIte]
    ·simp only [f1,SG,Nat.reduceEqDiff,↓reduceIte]
    ·simp only [f4,SG,Nat.reduceEqDiff,↓reduceIte]
    ·simp only [f5,SG,Nat.reduceEqDiff,↓reduceIte]
    ·obtain ⟨rr,hpr,back⟩ := p2.open
     exact back _ _ (hpr.sub (by rw [List.append_assoc]; exact List.sublist_append_right _ _))
 by_cases a2 : a = 2
 ·have a2' : decide (a = 2) = true := by simpa using a2
  obtain ⟨tv,H1,H2,w,H3,q6,s1,s2,s3,par1,k⟩ := RPar.tell (a := ev0 2 0 c.toNat [] []) (l := l) par (ev0_ok _ _ _ _ _) (by omega)
  simp only [A26_c4,e0,e1,e4,a1,a2',hzE,run_build,build_exec,run_bslice6,bs6V_ev (ev0_ok 2 0 c.toNat [] []).one,q6,s1,s2,s3,SX,reduceCtorEq,Nat.reduceEqDiff,↓reduceIte,Nat.reduceAdd]
  refine hk _ H3 ⟨?_,?_,?_,?_⟩ ?_ k
  ·simp only [e0,SG,reduceCtorEq,↓reduceIte]
  ·simp only [e1,SG,reduceCtorEq,Nat.reduceEqDiff,↓reduceIte]
  ·simp only [e4,SG,reduceCtorEq,Nat.reduceEqDiff,↓reduceIte]
  ·simp only [e5,SG,reduceCtorEq,Nat.reduceEqDiff,↓reduceIte]
  ·unfold RSt.doesS; rw [if_neg a1,if_pos a2]; exact par1
 obtain ⟨H1,s1,t1,h1,k1⟩ := str_one hp c
 by_cases a3 : a = 3
 ·have a3' : decide (a = 3) = true := by simpa using a3
  obtain ⟨H2,s2,h2,k2,n2⟩ := h1.store (o := 14) (v := .str (S.mids ++ [c])) rfl (by simp [rcs,px])
  have ad := bin_adds S.mids [c] (by simp; omega)
  simp only [A26_c4,e0,e1,e4,a1,a2,a3',l3,s1,t1,ad,s2,SX,reduceCtorEq,Nat.reduceEqDiff,↓reduceIte,Nat.reduceAdd]
  refine hk _ H2 ⟨?_,?_,?_,?_⟩ ?_ (k1.trans k2)
  ·simp only [e0,SG,reduceCtorEq,↓reduceIte]
  ·simp only [e1,SG,reduceCtorEq,Nat.reduceEqDiff,↓reduceIte]
  ·simp only [e4,SG,reduceCtorEq,Nat.reduceEqDiff,↓reduceIte]
  ·simp only [e5,SG,reduceCtorEq,Nat.reduceEqDiff,↓reduceIte]
  ·unfold RSt.doesS; rw [if_neg a1,if_neg a2,if_pos a3]; exact ⟨C,⟨ok.t,ok.e,ok.ev⟩,h2⟩
 by_cases a4 : a = 4
 ·have a4' : decide (a = 4) = true := by simpa using a4
  obtain ⟨H2,s2,h2,k2,n2⟩ := h1.store (o := 13) (v := .str (S.list ++ [c])) rfl (by simp [rcs,px])
  have ad := bin_adds S.list [c] (by simp; omega)
  simp only [A26_c4,e0,e1,e4,a1,a2,a3,a4',l2,s1,t1,ad,s2,SX,reduceCtorEq,Nat.reduceEqDiff,↓reduceIte,Nat.reduceAdd]
  refine hk _ H2 ⟨?_,?_,?_,?_⟩ ?_ (k1.trans k2)
  ·simp only [e0,SG,reduceCtorEq,↓reduceIte]
  ·simp only [e1,SG,reduceCtorEq,Nat.reduceEqDiff,↓reduceIte]
  ·simp only [e4,SG,reduceCtorEq,Nat.reduceEqDiff,↓reduceIte]
  ·simp only [e5,SG,reduceCtorEq,Nat.reduceEqDiff,↓reduceIte]
  ·unfold RSt.doesS; rw [if_neg a1,if_neg a2,if_neg a3,if_pos a4]; exact ⟨C,⟨ok.t,ok.e,ok.ev⟩,h2⟩
 have h92 : (c = 92) ↔ ((c.toNat : Int) = 92) := by
  constructor
  ·rintro rfl; rfl
  ·intro hh; exact UInt8.toNat_inj.1 (by show c.toNat = 92; omega)
 by_cases a5 : a = 5
 ·have a5' : decide (a = 5) = true := by simpa using a5
  have no : ∀ e',RE e' p c a n -> ¬ (S.mids.length <= 2 /\ (c ≠ 92 \/ S.mids ≠ [])) -> K .normal e' H := fun e' f' d => hk _ H f' (by unfold RSt.doesS; rw [if_neg a1,if_neg a2,if_neg a3,if_neg a4,if_pos a5,if_neg d]; exact par) (Keep.refl _ _)
  obtain ⟨tv,H1,H2,w,H3,q6,s1,s2,s3,par1,k⟩ := RPar.tell (a := ev0 3 0 c.toNat S.mids []) (l := l) par (ev0_ok _ _ _ _ _) (by omega)
  have yes : ∀ e',RE e' p c a n -> (S.mids.length <= 2 /\ (c ≠ 92 \/ S.mids ≠ [])) -> K .normal e' H3 := fun e' f' d => hk _ H3 f' (by unfold RSt.doesS; rw [if_neg a1,if_neg a2,if_neg a3,if_neg a4,if_pos a5,if_pos d]; exact par1) k
  have b6 := bs6V_ev (ev0_ok 3 0 c.toNat S.mids []).one
  by_cases d1 : (S.mids.length : Int) <= 2
  ·have d1' : decide ((S.mids.length : Int) <= 2) = true := by simpa using d1
   by_cases d2 : (c.toNat : Int) = 92
   ·have d2' : (!decide ((c.toNat : Int) = 92)) = false := by simp [d2]
    by_cases d3 : S.mids = []
    ·have d3' : (!decide (S.mids = [])) = false := by simp [d3]
     simp only [A26_c4,e0,e1,e4,a1,a2,a3,a4,a5',l3,lngV_str,d1',d2',bin_neqb,d3',SX,reduceCtorEq,Nat.reduceEqDiff,↓reduceIte,Nat.reduceAdd]
     refine no _ ⟨?_,?_,?_,?_⟩ (fun hh => hh.2.elim (fun x => x (h92.2 d2)) (fun x => x d3))
     ·simp only [e0,SG,reduceCtorEq,↓reduceIte]
     ·simp only [e1,SG,Nat.reduceEqDiff,↓reduceIte]
     ·simp only [e4,SG,Nat.reduceEqDiff,↓reduceIte]
     ·simp only [e5,SG,Nat.reduceEqDiff,↓reduceIte]
    ·have d3' : (!decide (S.mids = [])) = true := by simp [d3]
     simp only [A26_c4,e0,e1,e4,a1,a2,a3,a4,a5',l3,lngV_str,d1',d2',bin_neqb,d3',hzE,run_build,build_esc,run_bslice6,b6,q6,s1,s2,s3,SX,reduceCtorEq,Nat.reduceEqDiff,↓reduceIte,Nat.reduceAdd]
     refine yes _ ⟨?_,?_,?_,?_⟩ ⟨by omega,.inr d3⟩
     ·simp only [e0,SG,reduceCtorEq,↓reduceIte]
     ·simp only [e1,SG,reduceCtorEq,Nat.reduceEqDiff,↓reduceIte]
     ·simp only [e4,SG,reduceCtorEq,Nat.reduceEqDiff,↓reduceIte]
     ·simp only [e5,SG,reduceCtorEq,Nat.reduceEqDiff,↓reduceIte]
   ·have d2' : (!decide ((c.toNat : Int) = 92)) = true := by simp [d2]
    simp only [A26_c4,e0,e1,e4,a1,a2,a3,a4,a5',l3,lngV_str,d1',d2',hzE,run_build,build_esc,run_bslice6,b6,q6,s1,s2,s3,SX,reduceCtorEq,Nat.reduceEqDiff,↓reduceIte,Nat.reduceAdd]
    refine yes _ ⟨?_,?_,?_,?_⟩ ⟨by omega,.inl fun hh => d2 (h92.1 hh)⟩
    ·simp only [e0,SG,reduceCtorEq,↓reduceIte]
    ·simp only [e1,SG,reduceCtorEq,Nat.reduceEqDiff,↓reduceIte]
    ·simp only [e4,SG,reduceCtorEq,Nat.reduceEqDiff,↓reduceIte]
    ·simp only [e5,SG,reduceCtorEq,Nat.reduceEqDiff,↓reduceIte]
  ·have d1' : decide ((S.mids.length : Int) <= 2) = false := by simpa using d1
   simp only [A26_c4,e0,e4,a1,a2,a3,a4,a5',l3,lngV_str,d1',wantV_undef,SX,reduceCtorEq,Nat.reduceEqDiff,↓reduceIte,Nat.reduceAdd]
   refine no _ ⟨?_,?_,?_,?_⟩ (by omega)
   ·simp only [e0,SG,reduceCtorEq,↓reduceIte]
   ·simp only [e1,SG,Nat.reduceEqDiff,↓reduceIte]
   ·simp only [e4,SG,Nat.reduceEqDiff,↓reduceIte]
   ·simp only [e5,SG,Nat.reduceEqDiff,↓reduceIte]
 by_cases a6 : a = 6
 ·have a6' : decide (a = 6) = true := by simpa using a6
  by_cases d1 : (S.mids.length : Int) <= 2
  ·simp only [A26_c4,e0,e1,e4,a1,a2,a3,a4,a5,a6',l2,l3,l6,lngV_str,d1,SX,reduceCtorEq,Nat.reduceEqDiff,↓reduceIte,Nat.reduceAdd]
   refine (refall_spec er.q44 (er.ho 44 rfl) hp.fr hl).mono ?_
   rintro r H1 ⟨k1,M,hL,hM⟩
   obtain ⟨cl,prv,hcl⟩ := hL.prv hM
   have gr := hcl.gr k1
   have hp1 := hp.keep gr.keep gr.next gr.fr
   have m3 := hp1.load (b := p) (k := 1) (cs := rcs P S C.tv) (by simp) (o := 14) (v := .str S.mids) rfl
   have m6 := hp1.load (b := p) (k := 1) (cs := rcs P S C.tv) (by simp) (o := 17) (v := C.tv) rfl
   have par1 := par.join gr hcl
   have sstr : ∀ t : List UInt8,AV.same (.str t) (.str t) = true := fun t => by simp [AV.same,AV.same1]
   have stv := ok.t.same
   refine ⟨by simp only [echoOk,SX,Nat.reduceEqDiff,↓reduceIte,m3,m6,sstr,stv]; simp,?_⟩
   obtain ⟨tv,H2,H3,w,H4,q6,s1,s2,s3,par2,k⟩ := RPar.tell (a := (⟨4,0,c.toNat,S.mids,r,[],refAll S.list⟩,cl)) (l := l) par1 prv (by omega)
   rw [m6] at q6
   obtain rfl := Option.some.inj q6
   simp only [hzE,run_build,build_csi _ _ prv,run_bslice6,bs6V_ev (a := (⟨4,0,c.toNat,S.mids,r,[],refAll S.list⟩ : Ev)) prv.one,s1,s2,s3,SX,Nat.reduceEqDiff,↓reduceIte,Nat.reduceAdd]
   refine hk _ H4 ⟨?_,?_,?_,?_⟩ ?_ ((gr.keep.le hp.bn).trans k)
   ·simp only [e0,SG,reduceCtorEq,↓reduceIte]
   ·simp only [e1,SG,reduceCtorEq,Nat.reduceEqDiff,↓reduceIte]
   ·simp only [e4,SG,reduceCtorEq,Nat.reduceEqDiff,↓reduceIte]
   ·simp only [e5,SG,reduceCtorEq,Nat.reduceEqDiff,↓reduceIte]
   ·unfold RSt.doesS; rw [if_neg a1,if_neg a2,if_neg a3,if_neg a4,if_neg a5,if_pos a6,if_pos (by omega)]; exact par2
  ·simp only [A26_c4,e0,e4,a1,a2,a3,a4,a5,a6',l3,lngV_str,d1,SX,reduceCtorEq,Nat.reduceEqDiff,↓reduceIte,Nat.reduceAdd]
   refine hk _ H ⟨?_,?_,?_,?_⟩ ?_ (Keep.refl _ _)
   ·simp only [e0,SG,reduceCtorEq,↓reduceIte]
   ·simp only [e1,SG,Nat.reduceEqDiff,↓reduceIte]
   ·simp only [e4,SG,Nat.reduceEqDiff,↓reduceIte]
   ·simp only [e5,SG,Nat.reduceEqDiff,↓reduceIte]
   ·unfold RSt.doesS; rw [if_neg a1,if_neg a2,if_neg a3,if_neg a4,if_neg a5,if_pos a6,if_neg (by omega)]; exact par
 by_cases a7 : a = 7
 ·have a7' : decide (a = 7) = true := by simpa using a7
  obtain ⟨H2,s2,h2,k2,n2⟩ := hp.store (o := 15) (v := .int .u8 c.toNat) rfl (by simp [rcs,px])
  simp only [A26_c4,e0,e1,e4,a1,a2,a3,a4,a5,a6,a7',s2,SX,reduceCtorEq,Nat.reduceEqDiff,↓reduceIte,Nat.reduceAdd]
  refine hk _ H2 ⟨?_,?_,?_,?_⟩ ?_ k2
  ·simp only [e0,SG,reduceCtorEq,↓reduceIte]
  ·simp only [e1,SG,reduceCtorEq,Nat.reduceEqDiff,↓reduceIte]
  ·simp only [e4,SG,reduceCtorEq,Nat.reduceEqDiff,↓reduceIte]
  ·simp only [e5,SG,reduceCtorEq,Nat.reduceEqDiff,↓reduceIte]
  ·unfold RSt.doesS; rw [if_neg a1,if_neg a2,if_neg a3,if_neg a4,if_neg a5,if_neg a6,if_pos a7]; exact ⟨C,⟨ok.t,ok.e,ok.ev⟩,h2⟩
 by_cases a8 : a = 8
 ·have a8' : decide (a = 8) = true := by simpa using a8
  obtain ⟨H2,s2,h2,k2,n2⟩ := h1.store (o := 16) (v := .str (S.text ++ [c])) rfl (by simp [rcs,px])
  have ad := bin_adds S.text [c] (by simp; omega)
  simp only [A26_c4,e0,e1,e4,a1,a2,a3,a4,a5,a6,a7,a8',l5,s1,t1,ad,s2,SX,reduceCtorEq,Nat.reduceEqDiff,↓reduceIte,Nat.reduceAdd]
  refine hk _ H2 ⟨?_,?_,?_,?_⟩ ?_ (k1.trans k2)
  ·simp only [e0,SG,reduceCtorEq,↓reduceIte]
  ·simp only [e1,SG,reduceCtorEq,Nat.reduceEqDiff,↓reduceIte]
  ·simp only [e4,SG,reduceCtorEq,Nat.reduceEqDiff,↓reduceIte]
  ·simp only [e5,SG,reduceCtorEq,Nat.reduceEqDiff,↓reduceIte]
  ·unfold RSt.doesS; rw [if_neg a1,if_neg a2,if_neg a3,if_neg a4,if_neg a5,if_neg a6,if_neg a7,if_pos a8]; exact ⟨C,⟨ok.t,ok.e,ok.ev⟩,h2⟩
 ·simp only [A26_c4,e4,a1,a2,a3,a4,a5,a6,a7,a8,SX,Nat.reduceEqDiff,↓reduceIte]
  refine hk _ H ⟨?_,?_,?_,?_⟩ ?_ (Keep.refl _ _)
  ·simp only [e0,SG,reduceCtorEq,↓reduceIte]
  ·simp only [e1,SG,Nat.reduceEqDiff,↓reduceIte]
  ·simp only [e4,SG,Nat.reduceEqDiff,↓reduceIte]
  ·simp only [e5,SG,Nat.reduceEqDiff,↓reduceIte]
  ·unfold RSt.doesS; rw [if_neg a1,if_neg a2,if_neg a3,if_neg a4,if_neg a5,if_neg a6,if_neg a7,if_neg a8]; exact par
omit er in
theorem dk_len {k : List UInt8} {d : DSt} (h : Dk k d) : k.length <= 3 := by
 rcases h with ⟨rfl,_⟩ | ⟨L,hL,c,t,rfl,_,hl,_⟩
 ·simp
 ·have := (shape_facts hL).1
  omega
set_option maxHeartbeats 4000000 in
theorem byteR_spec {m : Nat} (hst : 0 <= S.st /\ S.st <= 13) (hk3 : S.kept.length <= 3) (hsm : S.Small m) (hm : m <= 50000) (h : RPar P base H p S l) (hs : S.told.length <= 800000) :
  FnTo Q 26 [.ptr p 11,.int .u8 c.toNat] H (fun _ H' => RPar P base H' p (S.step c) l /\ Keep base H H') := by
 refine fn_wp (er.ho 26 rfl _) er.q26 (by simp [A26]) ?_
 have par := h
 obtain ⟨C,ok,hp⟩ := h
 obtain ⟨st,hst'⟩ : ∃ st : Nat,S.st = st := ⟨S.st.toNat,by omega⟩
 have l0 := hp.load (b := p) (k := 1) (cs := rcs P S C.tv) (by simp) (o := 11) (v := .int .i64 (st : Int)) (by rw [<- hst']; rfl)
 simp only [A26,l0,SX,Nat.reduceEqDiff,↓reduceIte]
 refine (refNext_spec er (st := st) (by omega) hp.fr).mono ?_
 rintro r H1 ⟨rfl,g1⟩
 rw [<- hst']
 have k1 : Keep base H H1 := g1.keep.le hp.bn
 have par1 := par.keep g1
 obtain ⟨x1,x2⟩ := ext2 (nx S.st c.toNat)
 simp only [x1,x2,SX,Nat.reduceEqDiff,↓reduceIte]
 have a1 : (S.step1 c).told.length <= S.told.length + 1 := by
  unfold RSt.step1 RSt.endS
  (repeat' split) <;> simp
 have a2 : ((S.step1 c).step2 (nx S.st c.toNat).2 c).told.length <= (S.step1 c).told.length + 1 := by
  unfold RSt.step2 RSt.stopS RSt.tell
  (repeat' split) <;> simp
 have a3 : (((S.step1 c).step2 (nx S.st c.toNat).2 c).step3 (nx S.st c.toNat).2).told = ((S.step1 c).step2 (nx S.st c.toNat).2 c).told := by
  unfold RSt.step3 RSt.clrS; split <;> rfl
 have b1 : (S.step1 c).Small m /\ (S.step1 c).kept.length <= 3 := by
  unfold RSt.step1 RSt.endS
  (repeat' split) <;> first | exact ⟨⟨hsm.list,hsm.mids,hsm.text⟩,hk3⟩ | exact ⟨⟨hsm.list,hsm.mids,hsm.text⟩,by simp⟩
 have b2 : ((S.step1 c).step2 (nx S.st c.toNat).2 c).Small m /\ ((S.step1 c).step2 (nx S.st c.toNat).2 c).kept.length <= 3 := by
  unfold RSt.step2 RSt.stopS
  (repeat' split) <;> exact ⟨⟨b1.1.list,b1.1.mids,b1.1.text⟩,b1.2⟩
 have b3 : (((S.step1 c).step2 (nx S.st c.toNat).2 c).step3 (nx S.st c.toNat).2).Small m /\ (((S.step1 c).step2 (nx S.st c.toNat).2 c).step3 (nx S.st c.toNat).2).kept.length <= 3 := by
  unfold RSt.step3 RSt.clrS
  split
  ·exact ⟨⟨by simp,by simp,by simp⟩,b2.2⟩
  ·exact b2
 refine r1_wp er (c := c) (a := (nx S.st c.toNat).1) (n := (nx S.st c.toNat).2) par1 (by omega) ⟨?_,?_,?_,?_⟩ ?_
 ·simp only [SX,reduceCtorEq,↓reduceIte]
 ·simp only [SX,Nat.reduceEqDiff,↓reduceIte]
 ·simp only [SX,Nat.reduceEqDiff,↓reduceIte]
 ·simp only [SX,↓reduceIte]
 intro e2 H3 f2 par2 k2
 have par2 : RPar P base H3 p (S.step1 c) l := par2
 simp only [SX]
 refine r2_wp er par2 (by omega) (by have := b1.1.list; omega) f2 ?_
 intro e3 H4 f3 par3 k3
 simp only [SX]
 refine r3_wp par3 f3 ?_
 intro e4 H5 f4 par4 k4
 simp only [SX]
 refine r4_wp er b3.2 par4 (by rw [a3]; omega) (by have := b3.1.list; omega) (by have := b3.1.mids; omega) (by have := b3.1.text; omega) f4 ?_
 rintro e5 H6 ⟨f0,f1,ff4,ff5⟩ ⟨C6,ok6,hp6⟩ k5
 obtain ⟨H7,s7,g7,k7,n7⟩ := hp6.store (o := 11) (v := .int .i64 (nx S.st c.toNat).2) rfl (by simp [rcs,px])
 simp only [f0,ff5,s7,SX,Nat.reduceEqDiff,↓reduceIte]
 exact ⟨⟨C6,⟨ok6.t,ok6.e,ok6.ev⟩,g7⟩,((((k1.trans k2).trans k3).trans k4).trans k5).trans k7⟩
end
end Go.Proofs.YtfbcgjpblomckaaDoor.AM.EvN.Rf
