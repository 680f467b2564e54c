import Derived.Test.YtfbcgjpblomckaaDoorTmX1
set_option linter.unusedVariables false
set_option linter.unusedSimpArgs false
namespace Go.Proofs.YtfbcgjpblomckaaDoor.AM
open Go
def zref : List (Int × Int × Int) := [(0,31,0),(127,159,0),(768,879,0),(1155,1161,0),(1425,1469,0),(1552,1562,0),(1611,1631,0),(8203,8207,0),(8400,8447,0),(65024,65039,0),(65056,65071,0),(917760,917999,0),(4352,4447,2),(11904,12350,2),(12353,13311,2),(13312,19903,2),(19968,40959,2),(40960,42191,2),(44032,55203,2),(63744,64255,2),(65072,65135,2),(65280,65376,2),(65504,65510,2),(127744,128591,2),(129280,129535,2),(131072,262141,2)]
def refOfL (r : Int) : List (Int × Int × Int) -> Int
 | [] => 1
 | e :: l => if e.1 <= r /\ r <= e.2.1 then e.2.2 else refOfL r l
def refOf (r : Int) : Int := refOfL r zref
def zlo (i : Nat) : Int := zbounds.getD (2 * i) 0
def zhi (i : Nat) : Int := zbounds.getD (2 * i + 1) 0
theorem z_sort : ∀ i : Fin 26,zlo i.val <= zhi i.val /\ (i.val + 1 < 26 -> zhi i.val < zlo (i.val + 1)) := by decide +kernel
theorem z_le {i j : Nat} (hij : i < j) (hj : j < 26) : zhi i < zlo j := by
 induction j with
 | zero => omega
 | succ j ih =>
  have h1 := (z_sort ⟨j,by omega⟩).2 (by simpa using hj)
  have h2 := (z_sort ⟨j,by omega⟩).1
  simp only at h1 h2
  by_cases e : i = j
  ·subst e; exact h1
  ·have := ih (by omega) (by omega)
   omega
theorem ofF_find : ∀ (f : Nat) (r : Int) (lo hi : Nat),hi - lo <= f -> hi <= 26 -> (∀ i,lo <= i -> i < hi -> zlo i <= r -> r <= zhi i -> ofF f r lo hi = ofB i) /\ ((∀ i,lo <= i -> i < hi -> ¬ (zlo i <= r /\ r <= zhi i)) -> ofF f r lo hi = 1)
 | 0,r,lo,hi,h,_ => ⟨fun i h1 h2 => by omega,fun _ => rfl⟩
 | f + 1,r,lo,hi,h,h26 => by
  by_cases c : lo < hi
  ·have e : ofF (f + 1) r lo hi = if r < zlo ((lo + hi) / 2) then ofF f r lo ((lo + hi) / 2) else if zhi ((lo + hi) / 2) < r then ofF f r ((lo + hi) / 2 + 1) hi else ofB ((lo + hi) / 2) := by
    conv => lhs; unfold ofF
    rw [if_pos c]; rfl
   rw [e]
   obtain ⟨m,hm⟩ : ∃ m,(lo + hi) / 2 = m := ⟨_,rfl⟩
   rw [hm]
   have hm1 : lo <= m /\ m < hi := by omega
   by_cases c1 : r < zlo m
   ·rw [if_pos c1]
    obtain ⟨a,b⟩ := ofF_find f r lo m (by omega) (by omega)
    refine ⟨fun i h1 h2 h3 h4 => ?_,fun hn => b fun i h1 h2 => hn i h1 (by omega)⟩
    refine a i h1 (Nat.lt_of_not_le fun hh => ?_) h3 h4
    by_cases e2 : m = i
    ·subst e2; omega
    ·have := z_le (i := m) (j := i) (by omega) (by omega)
     have := (z_sort ⟨m,by omega⟩).1
     simp only at this
     omega
   ·rw [if_neg c1]
    by_cases c2 : zhi m < r
    ·rw [if_pos c2]
     obtain ⟨a,b⟩ := ofF_find f r (m + 1) hi (by omega) h26
     refine ⟨fun i h1 h2 h3 h4 => ?_,fun hn => b fun i h1 h2 => hn i (by omega) h2⟩
     refine a i (Nat.lt_of_not_le fun hh => ?_) h2 h3 h4
     by_cases e2 : m = i
     ·subst e2; omega
     ·have := z_le (i := i) (j := m) (by omega) (by omega)
      omega
    ·rw [if_neg c2]
     refine ⟨fun i h1 h2 h3 h4 => ?_,fun hn => absurd ⟨by omega,by omega⟩ (hn m hm1.1 hm1.2)⟩
     congr 1
     refine Nat.le_antisymm (Nat.le_of_not_lt fun hh => ?_) (Nat.le_of_not_lt fun hh => ?_)
     ·have := z_le (i := i) (j := m) hh (by omega)
      omega
     ·have := z_le (i := m) (j := i) hh (by omega)
      omega
  ·exact ⟨fun i h1 h2 => by omega,fun _ => ofF_end _ _ c⟩
theorem zref_in : (zref.all fun e => (List.range 26).any fun i => decide (zlo i = e.1) && decide (zhi i = e.2.1) && decide (ofB i = e.2.2)) = true := by decide +kernel
theorem zref_all : ((List.range 26).all fun i => zref.any fun e => decide (zlo i = e.1) && decide (zhi i = e.2.1)) = true := by decide +kernel
theorem refOf_eq (r : Int) : refOf r = ofP r := by
 obtain ⟨a,b⟩ := ofF_find 26 r 0 26 (by omega) (by omega)
 have key : ∀ l : List (Int × Int × Int),(∀ e ∈ l,e ∈ zref) -> (refOfL r l = ofP r \/ (refOfL r l = 1 /\ ∀ e ∈ l,¬ (e.1 <= r /\ r <= e.2.1))) := by
  intro l
  induction l with
  | nil => intro _; exact .inr ⟨rfl,fun e he => by simp at he⟩
  | cons e l ih =>
   intro hl
   unfold refOfL
   by_cases c : e.1 <= r /\ r <= e.2.1
   ·rw [if_pos c]
    left
    have h1 := List.all_eq_true.1 zref_in e (hl e (List.mem_cons_self ..))
    obtain ⟨i,hi,h2⟩ := List.any_eq_true.1 h1
    simp only [Bool.and_eq_true,decide_eq_true_eq] at h2
    obtain ⟨⟨h3,h4⟩,h5⟩ := h2
    rw [<- h5]
    exact (a i (Nat.zero_le _) (by simpa using hi) (by omega) (by omega)).symm
   ·rw [if_neg c]
    rcases ih (fun x hx => hl x (List.mem_cons_of_mem _ hx)) with h | ⟨h,h2⟩
    ·exact .inl h
    ·refine .inr ⟨h,fun x hx => ?_⟩
     rcases List.mem_cons.1 hx with rfl | hx
     ·exact c
     ·exact h2 x hx
 rcases key zref (fun e he => he) with h | ⟨h,h2⟩
 ·exact h
 ·show refOfL r zref = _
  rw [h]
  refine (b fun i _ hi hh => ?_).symm
  obtain ⟨e,he,h3⟩ := List.any_eq_true.1 (List.all_eq_true.1 zref_all i (by simpa using hi))
  simp only [Bool.and_eq_true,decide_eq_true_eq] at h3
  exact h2 e he (by omega)
def zrow (e : Int × Int × Int) : List AV := [.int .i32 e.1,.int .i32 e.2.1,.int .i32 e.2.2]
def zcells : List AV := zref.flatMap zrow
theorem bld3 (a b c : Int) : buildV [.int .i32 0,.int .i32 0,.int .i32 0] [(0,1,.int .i32 a),(1,1,.int .i32 b),(2,1,.int .i32 c)] = some (.agg [.int .i32 a,.int .i32 b,.int .i32 c]) := rfl
def bsZ (ps : List (Nat × AV)) : Option (AObj × AKind) := LOp.run .nil (.bslice 3 26 [.int .i32 0,.int .i32 0,.int .i32 0] (ps.map fun p => (p.1,.c p.2)))
theorem run_bsZ (e : Env) (ps : List (Nat × Opd)) : LOp.run e (.bslice 3 26 [.int .i32 0,.int .i32 0,.int .i32 0] ps) = bsZ (ps.map fun p => (p.1,p.2.ev e)) := by
 simp only [bsZ,LOp.run,List.map_map]; rfl
set_option maxRecDepth 100000 in
theorem bsZ_ok : bsZ [(0,.agg [.int .i32 0,.int .i32 31,.int .i32 0]),(1,.agg [.int .i32 127,.int .i32 159,.int .i32 0]),(2,.agg [.int .i32 768,.int .i32 879,.int .i32 0]),(3,.agg [.int .i32 1155,.int .i32 1161,.int .i32 0]),(4,.agg [.int .i32 1425,.int .i32 1469,.int .i32 0]),(5,.agg [.int .i32 1552,.int .i32 1562,.int .i32 0]),(6,.agg [.int .i32 1611,.int .i32 1631,.int .i32 0]),(7,.agg [.int .i32 8203,.int .i32 8207,.int .i32 0]),(8,.agg [.int .i32 8400,.int .i32 8447,.int .i32 0]),(9,.agg [.int .i32 65024,.int .i32 65039,.int .i32 0]),(10,.agg [.int .i32 65056,.int .i32 65071,.int .i32 0]),(11,.agg [.int .i32 917760,.int .i32 917999,.int .i32 0]),(12,.agg [.int .i32 4352,.int .i32 4447,.int .i32 2]),(13,.agg [.int .i32 11904,.int .i32 12350,.int .i32 2]),(14,.agg [.int .i32 12353,.int .i32 13311,.int .i32 2]),(15,.agg [.int .i32 13312,.int .i32 19903,.int .i32 2]),(16,.agg [.int .i32 19968,.int .i32 40959,.int .i32 2]),(17,.agg [.int .i32 40960,.int .i32 42191,.int .i32 2]),(18,.agg [.int .i32 44032,.int .i32 55203,.int .i32 2]),(19,.agg [.int .i32 63744,.int .i32 64255,.int .i32 2]),(20,.agg [.int .i32 65072,.int .i32 65135,.int .i32 2]),(21,.agg [.int .i32 65280,.int .i32 65376,.int .i32 2]),(22,.agg [.int .i32 65504,.int .i32 65510,.int .i32 2]),(23,.agg [.int .i32 127744,.int .i32 128591,.int .i32 2]),(24,.agg [.int .i32 129280,.int .i32 129535,.int .i32 2]),(25,.agg [.int .i32 131072,.int .i32 262141,.int .i32 2])] = some (.row ⟨zcells,0,false,true,0⟩,.slc 26 26) := by kernel_rfl
theorem flatZ {α : Type} {f : α -> List AV} {k : Nat} (hf : ∀ x,(f x).length = k) : ∀ {l : List α} {i : Nat} {x : α},l[i]? = some x -> ∀ {j : Nat} {v : AV},(f x)[j]? = some v -> (l.flatMap f)[i * k + j]? = some v
 | [],i,x,h,j,v,_ => by simp at h
 | a :: l,0,x,h,j,v,hv => by
  simp at h; subst h
  have hj := (List.getElem?_eq_some_iff.1 hv).1
  rw [List.flatMap_cons,Nat.zero_mul,Nat.zero_add,List.getElem?_append_left hj]; exact hv
 | a :: l,i + 1,x,h,j,v,hv => by
  rw [List.flatMap_cons,List.getElem?_append_right (by rw [hf,Nat.add_mul]; omega),hf,show (i + 1) * k + j - k = i * k + j by rw [Nat.add_mul]; omega]
  exact flatZ hf (l := l) (by simpa using h) hv
theorem refOfL_cons (r : Int) (e : Int × Int × Int) (l : List (Int × Int × Int)) : refOfL r (e :: l) = if e.1 <= r /\ r <= e.2.1 then e.2.2 else refOfL r l := rfl
set_option maxRecDepth 100000 in
set_option maxHeartbeats 8000000 in
theorem ofR_spec {Q : Prog} {H : AHeap} (ho : ∀ a,Q.orc 45 a = Option.none) (q : Q.fns 45 = some A45) (hf : Fr H) (r : Int) : FnTo Q 45 [.int .i32 r] H (fun v H' => v = .int .i64 (ofP r) /\ Gr H H') := by
 refine fn_wp (ho _) q (by simp [A45]) ?_
 obtain ⟨H1,s1,g1,k1⟩ := (Hp.nil H hf).make zcells 3
 have gr := g1.gr k1
 simp only [A45,run_build,bld3,run_bsZ,bsZ_ok,s1,SX,Nat.reduceEqDiff,↓reduceIte]
 rw [<- refOf_eq]
 have hlen : zref.length = 26 := rfl
 obtain ⟨I,hI⟩ : ∃ I : Nat -> Env -> AHeap -> Prop,∀ m e H',I m e H' ↔ (H' = H1 /\ ∃ i : Nat,m = 26 - i /\ i <= 26 /\ refOfL r (zref.drop i) = refOf r /\ Env.get e 0 = .int .i32 r /\ Env.get e 3 = .slc H.next 0 26 26 /\ Env.get e 4 = .int .i64 i) := ⟨_,fun _ _ _ => Iff.rfl⟩
 refine loop_by I 26 ?_ ?_
 ·exact (hI _ _ _).2 ⟨rfl,0,rfl,by omega,rfl,(by first | (simp only [SG,reduceCtorEq,↓reduceIte] <;> rfl) | rfl),(by first | (simp only [SG,Nat.reduceEqDiff,↓reduceIte] <;> rfl) | rfl),(by first | (simp only [SG,↓reduceIte] <;> rfl) | rfl)⟩
 ·intro m e H' hinv
  obtain ⟨hH,i,rfl,hi,hfind,e0,e3,e4⟩ := (hI _ _ _).1 hinv
  rw [hH]
  by_cases d : (i : Int) < 26
  ·have d1 : decide ((i : Int) < ((26 : Nat) : Int)) = true := decide_eq_true d
   obtain ⟨x,hx⟩ : ∃ x,zref[i]? = some x := ⟨_,List.getElem?_eq_getElem (by omega)⟩
   have hdrop : zref.drop i = x :: zref.drop (i + 1) := by
    rw [List.drop_eq_getElem_cons (by omega),(List.getElem?_eq_some_iff.1 hx).2]
   rw [hdrop,refOfL_cons] at hfind
   have xi : idxSV 3 (.slc H.next 0 26 26) (.int .i64 (i : Int)) = some (.ptr H.next (i * 3)) := by
    simp only [idxSV,ROp.run,Opd.ev,inIndex,if_pos (show 0 <= (i : Int) /\ (i : Int) < ((26 : Nat) : Int) by omega),Int.toNat_natCast,Nat.zero_add]
   have ld : ∀ (j : Nat) (v : AV),(zrow x)[j]? = some v -> loadV H1 Option.none (.ptr H.next (i * 3 + j)) = some v := fun j v hv => g1.load (List.mem_cons_self ..) (flatZ (k := 3) (fun _ => rfl) hx hv)
   have a0 : idxAV 3 1 (.ptr H.next (i * 3)) (.int .i64 0) = some (.ptr H.next (i * 3 + 0 * 1)) := ixA (i := 0) (by omega) _
   have a1 : idxAV 3 1 (.ptr H.next (i * 3)) (.int .i64 1) = some (.ptr H.next (i * 3 + 1)) := ixA (i := 1) (by omega) _
   have a2 : idxAV 3 1 (.ptr H.next (i * 3)) (.int .i64 2) = some (.ptr H.next (i * 3 + 2)) := ixA (i := 2) (by omega) _
   have l0 : loadV H1 Option.none (.ptr H.next (i * 3 + 0 * 1)) = some (.int .i32 x.1) := ld 0 _ rfl
   have l1 := ld 1 (.int .i32 x.2.1) rfl
   have l2 := ld 2 (.int .i32 x.2.2) rfl
   have hv : x.2.2 = 0 \/ x.2.2 = 2 := by
    have : ∀ e ∈ zref,e.2.2 = 0 \/ e.2.2 = 2 := by decide
    exact this x (List.mem_of_getElem? hx)
   have wv : IntKind.wrap .i64 x.2.2 = x.2.2 := wrapI64 (by omega) (by omega)
   have w1 : IntKind.wrap .i64 ((i : Int) + 1) = ((i + 1 : Nat) : Int) := by rw [wrapI64 (by omega) (by omega)]; rfl
   have b0 : (1 : Nat) = 1 := rfl
   by_cases k1 : x.1 <= r
   ·have q1 := decide_eq_true k1
    by_cases k2 : r <= x.2.1
    ·have q2 := decide_eq_true k2
     rw [if_pos ⟨k1,k2⟩] at hfind
     rw [<- hfind]
     simp only [e0,e3,e4,d1,xi,a0,a1,a2,l0,l1,l2,q1,q2,wv,lngV_slc,SX,reduceCtorEq,Nat.reduceEqDiff,↓reduceIte]
     exact gr
    ·have q2 := decide_eq_false k2
     rw [if_neg (fun hh => k2 hh.2)] at hfind
     simp only [e0,e3,e4,d1,xi,a0,a1,l0,l1,q1,q2,w1,lngV_slc,SX,reduceCtorEq,Nat.reduceEqDiff,↓reduceIte]
     exact ⟨26 - (i + 1),by omega,(hI _ _ _).2 ⟨rfl,i + 1,rfl,by omega,hfind,(by simp only [SG,reduceCtorEq,↓reduceIte,e0] <;> rfl),(by simp only [SG,Nat.reduceEqDiff,↓reduceIte,e3] <;> rfl),(by first | (simp only [SG,↓reduceIte] <;> rfl) | rfl)⟩⟩
   ·have q1 := decide_eq_false k1
    rw [if_neg (fun hh => k1 hh.1)] at hfind
    simp only [e0,e3,e4,d1,xi,a0,l0,q1,w1,lngV_slc,SX,reduceCtorEq,Nat.reduceEqDiff,↓reduceIte]
    exact ⟨26 - (i + 1),by omega,(hI _ _ _).2 ⟨rfl,i + 1,rfl,by omega,hfind,(by simp only [SG,reduceCtorEq,↓reduceIte,e0] <;> rfl),(by simp only [SG,Nat.reduceEqDiff,↓reduceIte,e3] <;> rfl),(by first | (simp only [SG,↓reduceIte] <;> rfl) | rfl)⟩⟩
  ·have d1 : decide ((i : Int) < ((26 : Nat) : Int)) = false := decide_eq_false d
   obtain rfl : i = 26 := by omega
   have h1 : refOf r = 1 := by rw [<- hfind]; rfl
   rw [h1]
   simp only [e3,e4,d1,lngV_slc,SX,Nat.reduceEqDiff,↓reduceIte]
   exact gr
end Go.Proofs.YtfbcgjpblomckaaDoor.AM
