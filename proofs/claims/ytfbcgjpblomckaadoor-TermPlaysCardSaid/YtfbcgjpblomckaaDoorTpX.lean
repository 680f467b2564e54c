import Derived.Test.YtfbcgjpblomckaaDoorTmX3
import Derived.Test.YtfbcgjpblomckaaDoorTpW
import Derived.Test.YtfbcgjpblomckaaDoorTpO
import Derived.Test.YtfbcgjpblomckaaDoorArT
set_option linter.unusedVariables false
set_option linter.unusedSimpArgs false
namespace Go.Proofs.YtfbcgjpblomckaaDoor.AM.EvN.Rf
open Go
def kOf (c : Ce) (x : Nat) : Nat := if c.w = 1 then x + 1 else if c.w = 2 then x - 1 else x
def bl (l : List Ce) (k : Nat) : Ce := blankC (l.getD k (blankC At.zero)).a
def loneP (l : List Ce) (x : Nat) : List Ce := match l[x]? with | some c => l.set (kOf c x) (bl l (kOf c x)) | none => l
def writeR (l : List Ce) (x : Nat) (r : Int) (wide : Bool) (a : At) : List Ce :=
 if wide = true then ((loneP (loneP l x) (x + 1)).set x ⟨r,1,a⟩).set (x + 1) ⟨r,2,a⟩ else (loneP l x).set x ⟨r,0,a⟩
theorem lone_len (l : List Ce) (x : Nat) : (loneP l x).length = l.length := by unfold loneP; split <;> simp
theorem lone_at {l : List Ce} {x : Nat} {c : Ce} (h : l[x]? = some c) : loneP l x = l.set (kOf c x) (bl l (kOf c x)) := by unfold loneP; rw [h]
theorem bl_at {l : List Ce} {k : Nat} {c : Ce} (h : l[k]? = some c) : bl l k = blankC c.a := by unfold bl; rw [List.getD_eq_getElem?_getD,h]; rfl
theorem parts_no {l : List Ce} {x : Nat} (h : ∀ c,l[x]? = some c -> c.w ≠ 2) : partsP l x = l := by
 unfold partsP
 split
 ·rename_i c hc
  rw [if_neg (fun hh => h c hc hh.2)]
 ·rfl
theorem parts_yes {l : List Ce} {y : Nat} {c d : Ce} (hc : l[y + 1]? = some c) (hw : c.w = 2) (hd : l[y]? = some d) : partsP l (y + 1) = (l.set y (blankC d.a)).set (y + 1) (blankC c.a) := by
 unfold partsP
 rw [hc]
 simp only
 rw [if_pos ⟨by omega,hw⟩,Nat.add_sub_cancel,List.getD_eq_getElem?_getD,hd]
 rfl
theorem after_no {l : List Ce} (h : WholeL l) {x : Nat} {c : Ce} (hc : l[x]? = some c) (hw : c.w ≠ 1) : ∀ d,l[x + 1]? = some d -> d.w ≠ 2 := by
 intro d hd e
 rcases h (x + 1) d hd with q | ⟨q,_⟩ | ⟨_,k,d',q,q1,q2⟩
 ·omega
 ·omega
 ·obtain rfl : k = x := by omega
  rw [hc] at q1; obtain rfl := Option.some.inj q1; exact hw q2
theorem write1_eq {l : List Ce} (h : WholeL l) {x : Nat} {c : Ce} (hc : l[x]? = some c) (r : Int) (a : At) : (loneP l x).set x ⟨r,0,a⟩ = (partsP (partsP l x) (x + 1)).set x ⟨r,0,a⟩ := by
 rw [lone_at hc]
 have hx := (List.getElem?_eq_some_iff.1 hc).1
 rcases h x c hc with q | ⟨q,d,q1,q2⟩ | ⟨q,j,d,rfl,q1,q2⟩
 ·have e : kOf c x = x := by unfold kOf; rw [if_neg (by omega),if_neg (by omega)]
  rw [e,parts_no (l := l) (x := x) (fun c' hc' => by rw [hc] at hc'; obtain rfl := Option.some.inj hc'; omega),parts_no (after_no h hc (by omega)),List.set_set]
 ·have e : kOf c x = x + 1 := by unfold kOf; rw [if_pos q]
  rw [e,bl_at q1,parts_no (l := l) (x := x) (fun c' hc' => by rw [hc] at hc'; obtain rfl := Option.some.inj hc'; omega),parts_yes q1 q2 hc,List.set_comm _ _ (by omega : x ≠ x + 1),List.set_set]
 ·have e : kOf c (j + 1) = j := by unfold kOf; rw [if_neg (by omega),if_pos q]; omega
  rw [e,bl_at q1,parts_yes hc q q1]
  have hn : partsP ((l.set j (blankC d.a)).set (j + 1) (blankC c.a)) (j + 1 + 1) = (l.set j (blankC d.a)).set (j + 1) (blankC c.a) := parts_no fun z hz => by
   rw [List.getElem?_set,if_neg (by omega),List.getElem?_set,if_neg (by omega)] at hz
   exact after_no h hc (by omega) z hz
  rw [hn,List.set_set]
theorem write2_eq {l : List Ce} (h : WholeL l) {x : Nat} {c d : Ce} (hc : l[x]? = some c) (hd : l[x + 1]? = some d) (r : Int) (a : At) :
  ((loneP (loneP l x) (x + 1)).set x ⟨r,1,a⟩).set (x + 1) ⟨r,2,a⟩ = ((partsP (partsP l x) (x + 2)).set x ⟨r,1,a⟩).set (x + 1) ⟨r,2,a⟩ := by
 rw [lone_at hc]
 have hx := (List.getElem?_eq_some_iff.1 hc).1
 have hx1 := (List.getElem?_eq_some_iff.1 hd).1
 have tail : ∀ (L : List Ce) (b : Ce),L[x + 1]? = some d -> d.w ≠ 2 -> (∀ i,x + 1 <= i -> L[i]? = l[i]?) -> L.length = l.length -> ∀ (P : List Ce),(∀ i,i ≠ x -> i ≠ x + 1 -> i ≠ x + 2 -> P[i]? = L[i]?) -> P.length = l.length -> (∀ i,x + 1 <= i -> P[i]? = l[i]?) -> P[x]? ≠ none ->
   ((loneP L (x + 1)).set x ⟨r,1,a⟩).set (x + 1) ⟨r,2,a⟩ = ((partsP P (x + 2)).set x ⟨r,1,a⟩).set (x + 1) ⟨r,2,a⟩ := by
  intro L b hL dw hLl hLn P hP hPn hPl hPx
  have hP1 : P[x + 1]? = some d := by rw [hPl _ (by omega)]; exact hd
  rcases h (x + 1) d hd with q | ⟨q,z,q1,q2⟩ | ⟨q,_⟩
  ·have e : kOf d (x + 1) = x + 1 := by unfold kOf; rw [if_neg (by omega),if_neg (by omega)]
   rw [lone_at hL,e,parts_no (l := P) (x := x + 2) (fun z hz => by rw [hPl _ (by omega)] at hz; exact after_no h hd (by omega) z hz)]
   refine List.ext_getElem? fun i => ?_
   simp only [List.getElem?_set,List.length_set]
   by_cases i1 : x + 1 = i
   ·simp [i1,hLn,hPn]
   ·by_cases i2 : x = i
    ·simp [i2,hLn,hPn]
    ·simp only [if_neg i1,if_neg i2]
     by_cases i3 : i = x + 2
     ·rw [hLl i (by omega),hPl i (by omega)]
     ·exact (hP i (fun e => i2 e.symm) (fun e => i1 e.symm) i3).symm
  ·have e : kOf d (x + 1) = x + 2 := by unfold kOf; rw [if_pos q]
   have hLz : L[x + 2]? = some z := by rw [hLl _ (by omega)]; exact q1
   have hPz : P[x + 1 + 1]? = some z := by rw [hPl _ (by omega)]; exact q1
   have hz := (List.getElem?_eq_some_iff.1 q1).1
   rw [lone_at hL,e,bl_at hLz,parts_yes hPz q2 hP1]
   refine List.ext_getElem? fun i => ?_
   simp only [List.getElem?_set,List.length_set]
   by_cases i1 : x + 1 = i
   ·simp [i1,hLn,hPn]
   ·by_cases i2 : x = i
    ·simp [i2,hLn,hPn]
    ·by_cases i3 : x + 2 = i
     ·subst i3; simp [hLn,hPn]
     ·have i3' : ¬ x + 1 + 1 = i := by omega
      simp only [if_neg i1,if_neg i2,if_neg i3]
      exact (hP i (fun e => i2 e.symm) (fun e => i1 e.symm) (fun e => i3 e.symm)).symm
  ·exact absurd q dw
 rcases h x c hc with q | ⟨q,d',q1,q2⟩ | ⟨q,j,e0,rfl,q1,q2⟩
 ·have e : kOf c x = x := by unfold kOf; rw [if_neg (by omega),if_neg (by omega)]
  have dw := after_no h hc (by omega) d hd
  rw [e,parts_no (l := l) (x := x) (fun c' hc' => by rw [hc] at hc'; obtain rfl := Option.some.inj hc'; omega)]
  exact tail _ c (by rw [List.getElem?_set,if_neg (by omega)]; exact hd) dw (fun i hi => by rw [List.getElem?_set,if_neg (by omega)]) (by simp) l (fun i h1 h2 h3 => by rw [List.getElem?_set,if_neg (fun e => h1 e.symm)]) rfl (fun i _ => rfl) (by rw [hc]; simp)
 ·obtain rfl : d = d' := by rw [hd] at q1; exact Option.some.inj q1
  have e : kOf c x = x + 1 := by unfold kOf; rw [if_pos q]
  rw [e,bl_at hd,parts_no (l := l) (x := x) (fun c' hc' => by rw [hc] at hc'; obtain rfl := Option.some.inj hc'; omega),parts_no (l := l) (x := x + 2) (after_no h hd (by omega))]
  have hs : (l.set (x + 1) (blankC d.a))[x + 1]? = some (blankC d.a) := by rw [List.getElem?_set,if_pos rfl,if_pos hx1]
  have e2 : kOf (blankC d.a) (x + 1) = x + 1 := rfl
  rw [lone_at hs,e2,bl_at hs]
  refine List.ext_getElem? fun i => ?_
  simp only [List.getElem?_set,List.length_set]
  by_cases i1 : x + 1 = i
  ·simp [i1]
  ·simp [i1]
 ·have e : kOf c (j + 1) = j := by unfold kOf; rw [if_neg (by omega),if_pos q]; omega
  have dw := after_no h hc (by omega) d hd
  rw [e,bl_at q1,parts_yes hc q q1]
  refine tail _ c (by rw [List.getElem?_set,if_neg (by omega)]; exact hd) dw (fun i hi => by rw [List.getElem?_set,if_neg (by omega)]) (by simp) _ (fun i h1 h2 h3 => by rw [List.getElem?_set,if_neg (fun e => h1 e.symm)]) (by simp) (fun i hi => by rw [List.getElem?_set,if_neg (by omega),List.getElem?_set,if_neg (by omega)]) ?_
  rw [List.getElem?_set,if_pos rfl]
  simp [hx]
theorem writeR_eq {l : List Ce} (h : WholeL l) (x : Nat) (r : Int) (wide : Bool) (a : At) (hx : x + (if wide = true then 2 else 1) <= l.length) : writeR l x r wide a = writeP l x r wide a := by
 unfold writeR writeP
 cases wide with
 | false =>
  rw [if_neg (by simp)] at hx
  rw [if_neg (by simp),if_neg (by simp)]
  obtain ⟨c,hc⟩ : ∃ c,l[x]? = some c := ⟨_,List.getElem?_eq_getElem (by omega)⟩
  exact write1_eq h hc r a
 | true =>
  rw [if_pos rfl] at hx
  rw [if_pos rfl,if_pos rfl]
  obtain ⟨c,hc⟩ : ∃ c,l[x]? = some c := ⟨_,List.getElem?_eq_getElem (by omega)⟩
  obtain ⟨d,hd⟩ : ∃ d,l[x + 1]? = some d := ⟨_,List.getElem?_eq_getElem (by omega)⟩
  exact write2_eq h hc hd r a
theorem k_in {l : List Ce} (h : WholeL l) {x : Nat} {c : Ce} (hc : l[x]? = some c) : ∃ d,l[kOf c x]? = some d /\ (c.w = 2 -> 0 < x) := by
 rcases h x c hc with q | ⟨q,d,q1,q2⟩ | ⟨q,j,d,rfl,q1,q2⟩
 ·exact ⟨c,by unfold kOf; rw [if_neg (by omega),if_neg (by omega)]; exact hc,by omega⟩
 ·exact ⟨d,by unfold kOf; rw [if_pos q]; exact q1,by omega⟩
 ·exact ⟨d,by unfold kOf; rw [if_neg (by omega),if_pos q]; exact q1,by omega⟩
theorem k_in2 {l : List Ce} (h : WholeL l) {x : Nat} {c d : Ce} (hc : l[x]? = some c) (hd : l[x + 1]? = some d) : ∃ e z,(loneP l x)[x + 1]? = some e /\ (loneP l x)[kOf e (x + 1)]? = some z /\ (e.w = 2 -> 0 < x + 1) := by
 have hx := (List.getElem?_eq_some_iff.1 hc).1
 have hx1 := (List.getElem?_eq_some_iff.1 hd).1
 rw [lone_at hc]
 have other : kOf c x ≠ x + 1 -> d.w ≠ 2 -> ∃ e z,(l.set (kOf c x) (bl l (kOf c x)))[x + 1]? = some e /\ (l.set (kOf c x) (bl l (kOf c x)))[kOf e (x + 1)]? = some z /\ (e.w = 2 -> 0 < x + 1) := fun hk dw => by
  obtain ⟨z,hz,_⟩ := k_in h hd
  have hz1 := (List.getElem?_eq_some_iff.1 hz).1
  obtain ⟨z',hz'⟩ : ∃ z',(l.set (kOf c x) (bl l (kOf c x)))[kOf d (x + 1)]? = some z' := ⟨_,List.getElem?_eq_getElem (by rw [List.length_set]; exact hz1)⟩
  exact ⟨d,z',by rw [List.getElem?_set,if_neg hk]; exact hd,hz',by omega⟩
 rcases h x c hc with q | ⟨q,d',q1,q2⟩ | ⟨q,j,e0,rfl,q1,q2⟩
 ·exact other (by unfold kOf; rw [if_neg (by omega),if_neg (by omega)]; omega) (after_no h hc (by omega) d hd)
 ·have e : kOf c x = x + 1 := by unfold kOf; rw [if_pos q]
  rw [e]
  have hs : (l.set (x + 1) (bl l (x + 1)))[x + 1]? = some (bl l (x + 1)) := by rw [List.getElem?_set,if_pos rfl,if_pos hx1]
  exact ⟨_,_,hs,hs,by omega⟩
 ·exact other (by unfold kOf; rw [if_neg (by omega),if_pos q]; omega) (after_no h hc (by omega) d hd)
theorem flat_get : ∀ {L : List (List Ce)} {n y : Nat} {r : List Ce},(∀ l ∈ L,l.length = n) -> L[y]? = some r -> ∀ {k : Nat},k < n -> L.flatten[y * n + k]? = r[k]?
 | [],n,y,r,_,h,k,_ => by simp at h
 | a :: L,n,0,r,hn,h,k,hk => by
  simp only [List.getElem?_cons_zero,Option.some.injEq] at h
  subst h
  have ha := hn a (List.mem_cons_self ..)
  rw [List.flatten_cons,Nat.zero_mul,Nat.zero_add,List.getElem?_append_left (by omega)]
 | a :: L,n,y + 1,r,hn,h,k,hk => by
  simp only [List.getElem?_cons_succ] at h
  have ha := hn a (List.mem_cons_self ..)
  have e : (y + 1) * n + k = a.length + (y * n + k) := by rw [ha,Nat.succ_mul]; omega
  rw [List.flatten_cons,e,List.getElem?_append_right (by omega),Nat.add_sub_cancel_left]
  exact flat_get (fun l hl => hn l (List.mem_cons_of_mem _ hl)) h hk
theorem flat_set : ∀ {L : List (List Ce)} {n y : Nat} {r : List Ce},(∀ l ∈ L,l.length = n) -> L[y]? = some r -> ∀ {k : Nat} (c : Ce),k < n -> (L.set y (r.set k c)).flatten = L.flatten.set (y * n + k) c
 | [],n,y,r,_,h,k,c,_ => by simp at h
 | a :: L,n,0,r,hn,h,k,c,hk => by
  simp only [List.getElem?_cons_zero,Option.some.injEq] at h
  subst h
  have ha := hn a (List.mem_cons_self ..)
  rw [List.set_cons_zero,List.flatten_cons,List.flatten_cons,Nat.zero_mul,Nat.zero_add,List.set_append_left _ _ (by omega)]
 | a :: L,n,y + 1,r,hn,h,k,c,hk => by
  simp only [List.getElem?_cons_succ] at h
  have ha := hn a (List.mem_cons_self ..)
  have e : (y + 1) * n + k = a.length + (y * n + k) := by rw [ha,Nat.succ_mul]; omega
  rw [List.set_cons_succ,List.flatten_cons,List.flatten_cons,e,List.set_append_right _ _ (by omega),Nat.add_sub_cancel_left]
  rw [flat_set (fun l hl => hn l (List.mem_cons_of_mem _ hl)) h c hk]
theorem blanks_flat (w h : Nat) : (blanksT w h).flatten = List.replicate (h * w) (blankC At.zero) := by
 unfold blanksT
 induction h with
 | zero => simp
 | succ h ih => rw [List.replicate_succ,List.flatten_cons,ih,List.replicate_append_replicate,Nat.succ_mul,Nat.add_comm]
theorem m1_iff {m : List UInt8} {f : Int} (hf : 0 <= f /\ f <= 255) {k : UInt8} : (m ++ [UInt8.ofNat f.toNat] = [k]) ↔ (m = [] /\ f = k.toNat) := by
 constructor
 ·intro h
  cases m with
  | nil =>
   simp only [List.nil_append,List.cons.injEq,and_true] at h
   refine ⟨rfl,?_⟩
   rw [<- h,UInt8.toNat_ofNat']; omega
  | cons x t =>
   have := congrArg List.length h
   simp at this
 ·rintro ⟨rfl,hk⟩
  simp only [List.nil_append,List.cons.injEq,and_true]
  rw [hk,Int.toNat_natCast,UInt8.ofNat_toNat]
theorem m2_iff {m : List UInt8} {f : Int} (hf : 0 <= f /\ f <= 255) {q k : UInt8} : (m ++ [UInt8.ofNat f.toNat] = [q,k]) ↔ (m = [q] /\ f = k.toNat) := by
 constructor
 ·intro h
  match m,h with
  | [],h => simp at h
  | [x],h =>
   simp only [List.cons_append,List.nil_append,List.cons.injEq,and_true] at h
   refine ⟨by rw [h.1],?_⟩
   rw [<- h.2,UInt8.toNat_ofNat']; omega
  | x :: y :: t,h =>
   have := congrArg List.length h
   simp at this
 ·rintro ⟨rfl,hk⟩
  simp only [List.cons_append,List.nil_append,List.cons.injEq,and_true,true_and]
  rw [hk,Int.toNat_natCast,UInt8.ofNat_toNat]
theorem csi_alt (t : Tm) (m : List UInt8) {f : Int} (hf : 0 <= f /\ f <= 255) (L : List (List Int)) : t.csi m f L =
  if m = [] /\ f = 72 then { t with y := (min (oneP L 0 1) t.h - 1).toNat,x := (min (oneP L 1 1) t.w - 1).toNat }
  else if m = [] /\ f = 109 then { t with a := applyP t.a L }
  else if m = [] /\ f = 74 then (if oneP L 0 0 = 2 then { t with rows := blanksT t.w t.h } else t)
  else if m = [63] /\ (f = 104 \/ f = 108) then (if L = [[25]] then { t with hid := decide (f = 108) } else t)
  else t := by
 unfold Tm.csi
 have a1 : (m ++ [UInt8.ofNat f.toNat] = [72]) = (m = [] /\ f = 72) := propext (m1_iff hf)
 have a2 : (m ++ [UInt8.ofNat f.toNat] = [109]) = (m = [] /\ f = 109) := propext (m1_iff hf)
 have a3 : (m ++ [UInt8.ofNat f.toNat] = [74]) = (m = [] /\ f = 74) := propext (m1_iff hf)
 have a4 : (m ++ [UInt8.ofNat f.toNat] = [63,104] \/ m ++ [UInt8.ofNat f.toNat] = [63,108]) = (m = [63] /\ (f = 104 \/ f = 108)) := by
  have b1 : (m ++ [UInt8.ofNat f.toNat] = [63,104]) = (m = [63] /\ f = 104) := propext (m2_iff hf)
  have b2 : (m ++ [UInt8.ofNat f.toNat] = [63,108]) = (m = [63] /\ f = 108) := propext (m2_iff hf)
  rw [b1,b2]
  exact propext ⟨fun h => h.elim (fun h => ⟨h.1,.inl h.2⟩) (fun h => ⟨h.1,.inr h.2⟩),fun h => h.2.elim (fun q => .inl ⟨h.1,q⟩) (fun q => .inr ⟨h.1,q⟩)⟩
 simp only [a1,a2,a3,a4]
theorem applyF_ok : ∀ (f : Nat) {a : At} (h : FlOk a.fl) (L : List (List Int)),FlOk (applyF f a L).fl
 | 0,a,h,L => by cases L <;> exact h
 | f + 1,a,h,[] => h
 | f + 1,a,h,p :: rest => applyF_ok f (stepA_ok h p rest) _
theorem applyP_ok {a : At} (h : FlOk a.fl) (L : List (List Int)) : FlOk (applyP a L).fl := by
 unfold applyP
 split
 ·exact ⟨by decide,by decide⟩
 ·exact applyF_ok _ h L
theorem does_fl {t : Tm} (h : FlOk t.a.fl) (e : PEv) : FlOk (t.does e).a.fl := by
 unfold Tm.does
 split
 ·rw [(prints_same t e.r).2.2.2.1]; exact h
 split
 ·unfold Tm.csi
  split
  ·exact h
  split
  ·exact applyP_ok h _
  (repeat' split) <;> exact h
 (repeat' split) <;> exact h
theorem run_fl : ∀ (E : List PEv) {t : Tm},FlOk t.a.fl -> FlOk (t.run E).a.fl
 | [],t,h => h
 | e :: E,t,h => run_fl E (does_fl h e)
def dcs (t : Tm) (cv : AV) (R : List AV) : List AV := .int .i64 t.w :: .int .i64 t.h :: cv :: .int .i64 t.x :: .int .i64 t.y :: .int .u16 t.a.fl :: .int .u8 t.a.fk :: .int .u32 t.a.fn :: .int .u8 t.a.bk :: .int .u32 t.a.bn :: .bool t.hid :: R
structure TdQ (Q : Prog) : Prop where
 tq : TwQ Q
 er : EvR Q
 ar : ArQ Q
 q13 : Q.fns 13 = some A13
 q14 : Q.fns 14 = some A14
 q16 : Q.fns 16 = some A16
 q18 : Q.fns 18 = some A18
 q25 : Q.fns 25 = some A25
 q27 : Q.fns 27 = some A27
 q45 : Q.fns 45 = some A45
 q46 : Q.fns 46 = some A46
 q47 : Q.fns 47 = some A47
def bs7V (v : AV) : Option (AObj × AKind) := LOp.run .nil (.bslice 7 1 [.int .i32 0,.int .u8 0,.int .u16 0,.int .u8 0,.int .u32 0,.int .u8 0,.int .u32 0] [(0,.c v)])
theorem run_bslice7 (e : Env) (x : Opd) : LOp.run e (.bslice 7 1 [.int .i32 0,.int .u8 0,.int .u16 0,.int .u8 0,.int .u32 0,.int .u8 0,.int .u32 0] [(0,x)]) = bs7V (x.ev e) := rfl
theorem bs7V_ce (c : Ce) : bs7V (.agg c.cs) = some (.row ⟨c.cs,0,false,true,0⟩,.slc 1 1) := rfl
theorem bld32 : buildV [.int .i32 0,.int .u8 0,.int .u16 0,.int .u8 0,.int .u32 0,.int .u8 0,.int .u32 0] [(0,1,.int .i32 32)] = some (.agg (Ce.cs (blankC At.zero))) := rfl
theorem bld32a (a : At) : buildV [.int .i32 0,.int .u8 0,.int .u16 0,.int .u8 0,.int .u32 0,.int .u8 0,.int .u32 0] [(0,1,.int .i32 32),(2,5,a.val)] = some (.agg (Ce.cs (blankC a))) := rfl
section
variable {Q : Prog} (dq : TdQ Q) {H : AHeap} {base b cb : Nat}
include dq
set_option maxHeartbeats 4000000 in
theorem oneR_spec {v : AV} {L : List (List Int)} (hv : IsSl IsInts H v L) (i : Nat) (no : Int) : FnTo Q 47 [v,.int .i64 i,.int .i64 no] H (fun r H' => r = .int .i64 (oneP L i no) /\ H' = H) := by
 refine fn_wp (dq.er.ho 47 rfl _) dq.q47 (by simp [A47]) ?_
 have ln := hv.len
 cases hL : L[i]? with
 | none =>
  have d1 : decide ((L.length : Int) <= (i : Int)) = true := decide_eq_true (by have := List.getElem?_eq_none_iff.1 hL; omega)
  have e : oneP L i no = no := by unfold oneP; rw [hL]
  simp only [A47,ln,d1,e,SX,reduceCtorEq,Nat.reduceEqDiff,↓reduceIte]
 | some l =>
  have hlt := (List.getElem?_eq_some_iff.1 hL).1
  have d1 : decide ((L.length : Int) <= (i : Int)) = false := decide_eq_false (by omega)
  have ix := hv.at (i := (i : Int)) (by omega) (by omega) .i64
  obtain ⟨c,lc,hc⟩ := hv.get (i := (i : Int)) (a := l) (by simpa using hL)
  have hc : IsSl IsInt H c l := hc
  have lnc := hc.len
  cases l with
  | nil =>
   have d2 : decide ((([] : List Int).length : Int) = 0) = true := rfl
   have e : oneP L i no = no := by unfold oneP; rw [hL]
   simp only [A47,ln,d1,ix,lc,lnc,d2,e,SX,reduceCtorEq,Nat.reduceEqDiff,↓reduceIte]
  | cons x t =>
   have d2 : decide (((x :: t).length : Int) = 0) = false := decide_eq_false (by simp only [List.length_cons]; omega)
   have ic := hc.at (i := 0) (by omega) (by simp only [List.length_cons]; omega) .i64
   have lx := hc.int (i := 0) (a := x) rfl
   have e : oneP L i no = if x = 0 then no else x := by unfold oneP; rw [hL]
   rw [e]
   by_cases c3 : x = 0
   ·have d3 := decide_eq_true c3
    rw [if_pos c3]
    simp only [A47,ln,d1,ix,lc,lnc,d2,ic,lx,d3,SX,reduceCtorEq,Nat.reduceEqDiff,↓reduceIte]
   ·have d3 := decide_eq_false c3
    rw [if_neg c3]
    simp only [A47,ln,d1,ix,lc,lnc,d2,ic,lx,d3,SX,reduceCtorEq,Nat.reduceEqDiff,↓reduceIte]
set_option maxHeartbeats 4000000 in
theorem rblank_spec {t : Tm} {cv : AV} {R : List AV} {l : List Cel} (h : Hp base H (⟨b,1,dcs t cv R⟩ :: l)) (hw : 1 <= t.w /\ t.w <= 400) (hh : 1 <= t.h /\ t.h <= 400) :
  FnTo Q 25 [.ptr b 0] H (fun _ H' => Keep base H H' /\ ∃ cb,Hp base H' (⟨b,1,dcs t (.slc cb 0 (t.h * t.w) (t.h * t.w)) R⟩ :: ⟨cb,7,rowV (blanksT t.w t.h).flatten⟩ :: l)) := by
 refine fn_wp (dq.er.ho 25 rfl _) dq.q25 (by simp [A25]) ?_
 obtain ⟨H1,s1,g1,k1,_⟩ := h.store (o := 2) (v := .nils) rfl (by simp [dcs])
 have g1 : Hp base H1 (⟨b,1,dcs t .nils R⟩ :: l) := g1
 obtain ⟨n,hn⟩ : ∃ n,t.h * t.w = n := ⟨_,rfl⟩
 have hn6 : n <= 160000 := by rw [<- hn]; have := Nat.mul_le_mul hh.2 hw.2; omega
 have hn0 : 0 < n := by rw [<- hn]; exact Nat.mul_pos hh.1 hw.1
 have wm : IntKind.wrap .i64 ((t.w : Int) * (t.h : Int)) = (n : Int) := by rw [<- Int.natCast_mul,Nat.mul_comm,hn]; exact wrapNat (by omega)
 simp only [A25,s1,SX,↓reduceIte]
 obtain ⟨I,hI⟩ : ∃ I : Nat -> Env -> AHeap -> Prop,∀ m e H',I m e H' ↔ (Keep base H H' /\ ∃ (i : Nat) (v : AV),m = n - i /\ i <= n /\ OwnR base H' v (List.replicate i (blankC At.zero)) (⟨b,1,dcs t v R⟩ :: l) /\ Env.get e 0 = .ptr b 0 /\ Env.get e 2 = .int .i64 i) := ⟨_,fun _ _ _ => Iff.rfl⟩
 refine loop_by I n ?_ ?_
 ·exact (hI _ _ _).2 ⟨k1,0,.nils,rfl,by omega,.inl ⟨rfl,rfl,g1⟩,(by first | (simp only [SG,reduceCtorEq,↓reduceIte] <;> rfl) | rfl),(by first | (simp only [SG,↓reduceIte] <;> rfl) | rfl)⟩
 ·intro m e H2 hinv
  obtain ⟨k2,i,v,rfl,hi,own,e0,e2⟩ := (hI _ _ _).1 hinv
  have l0 := own.hp.load (b := b) (k := 1) (cs := dcs t v R) (List.mem_cons_self ..) (o := 0) (v := .int .i64 t.w) rfl
  have l1 := own.hp.load (b := b) (k := 1) (cs := dcs t v R) (List.mem_cons_self ..) (o := 1) (v := .int .i64 t.h) rfl
  by_cases d : (i : Int) < (n : Int)
  ·have d1 := decide_eq_true d
   have l2 := own.hp.load (b := b) (k := 1) (cs := dcs t v R) (List.mem_cons_self ..) (o := 2) (v := v) rfl
   have w1 : IntKind.wrap .i64 ((i : Int) + 1) = ((i + 1 : Nat) : Int) := wrapNat (n := i + 1) (by omega)
   have step : ∃ H3 H4 v',H2.alloc (.row ⟨Ce.cs (blankC At.zero),0,false,true,0⟩) = H3 /\ appendE H3 7 28 v (.slc H2.next 0 1 1) = some (v',H4) /\ OwnR base H4 v' (List.replicate i (blankC At.zero) ++ [blankC At.zero]) (⟨b,1,dcs t v R⟩ :: l) /\ Keep base H2 H4 := by
    have e1 : (Ce.cs (blankC At.zero)) = rowV [blankC At.zero] := (rowV_one _).symm
    rcases own with ⟨q1,rfl,g⟩ | ⟨q1,c,rfl,g⟩
    ·obtain ⟨H3,s3,g3,k3⟩ := g.make (Ce.cs (blankC At.zero)) 7
     have o3 : OwnR base H3 .nils (List.replicate i (blankC At.zero)) (⟨H2.next,7,rowV [blankC At.zero]⟩ :: (⟨b,1,dcs t .nils R⟩ :: l)) := .inl ⟨q1,rfl,by rw [<- e1]; exact g3⟩
     obtain ⟨H4,v',s4,o4,k4⟩ := o3.push (b := H2.next) (R := [blankC At.zero]) (List.mem_cons_self ..) (by simp) (by simp; omega)
     refine ⟨H3,H4,v',s3,s4,?_,k3.trans k4⟩
     rcases o4 with ⟨h1,h2,h3⟩ | ⟨h1,c,h2,h3⟩
     ·exact .inl ⟨h1,h2,h3.drop⟩
     ·exact .inr ⟨h1,c,h2,h3.swap.drop⟩
    ·obtain ⟨H3,s3,g3,k3⟩ := g.make (Ce.cs (blankC At.zero)) 7
     have o3 : OwnR base H3 (.slc c 0 (List.replicate i (blankC At.zero)).length (List.replicate i (blankC At.zero)).length) (List.replicate i (blankC At.zero)) (⟨H2.next,7,rowV [blankC At.zero]⟩ :: (⟨b,1,dcs t (.slc c 0 (List.replicate i (blankC At.zero)).length (List.replicate i (blankC At.zero)).length) R⟩ :: l)) := .inr ⟨q1,c,rfl,by rw [<- e1]; exact g3.swap⟩
     obtain ⟨H4,v',s4,o4,k4⟩ := o3.push (b := H2.next) (R := [blankC At.zero]) (List.mem_cons_self ..) (by simp) (by simp; omega)
     refine ⟨H3,H4,v',s3,s4,?_,k3.trans k4⟩
     rcases o4 with ⟨h1,h2,h3⟩ | ⟨h1,c,h2,h3⟩
     ·exact .inl ⟨h1,h2,h3.drop⟩
     ·exact .inr ⟨h1,c,h2,h3.swap.drop⟩
   obtain ⟨H3,H4,v',s3,s4,own4,k4⟩ := step
   obtain ⟨H5,s5,own5,k5⟩ := own4.store (o := 2) (y := v') own4.one (by simp [dcs])
   have own5 : OwnR base H5 v' (List.replicate (i + 1) (blankC At.zero)) (⟨b,1,dcs t v' R⟩ :: l) := by rw [List.replicate_succ']; exact own5
   simp only [e0,e2,l0,l1,l2,wm,d1,run_build,bld32,run_bslice7,bs7V_ce,s3,s4,s5,w1,SX,reduceCtorEq,Nat.reduceEqDiff,↓reduceIte]
   exact ⟨n - (i + 1),by omega,(hI _ _ _).2 ⟨k2.trans (k4.trans k5),i + 1,v',rfl,by omega,own5,(by simp only [SG,reduceCtorEq,↓reduceIte,e0] <;> rfl),(by first | (simp only [SG,↓reduceIte] <;> rfl) | rfl)⟩⟩
  ·have d1 := decide_eq_false d
   obtain rfl : i = n := by omega
   simp only [e0,e2,l0,l1,wm,d1,SX,reduceCtorEq,Nat.reduceEqDiff,↓reduceIte]
   refine ⟨k2,?_⟩
   rcases own with ⟨h1,_,_⟩ | ⟨_,c,rfl,g⟩
   ·have := congrArg List.length h1
    simp at this; omega
   ·rw [List.length_replicate] at g
    rw [blanks_flat,hn]
    exact ⟨c,g.swap⟩
set_option maxHeartbeats 8000000 in
theorem lone_spec {t : Tm} {rows : List (List Ce)} {N : Nat} {R : List AV} {l : List Cel} (h : Hp base H (⟨b,1,dcs t (.slc cb 0 N N) R⟩ :: ⟨cb,7,rowV rows.flatten⟩ :: l)) (hrl : ∀ r ∈ rows,r.length = t.w) (hN : N = rows.flatten.length) (hN6 : N <= 160000) (hw4 : t.w <= 400) (hy4 : t.y < 400) {r : List Ce} (hy : rows[t.y]? = some r) {x : Nat} {c d : Ce} (hc : r[x]? = some c) (hd : r[kOf c x]? = some d) (hx0 : c.w = 2 -> 0 < x) :
  FnTo Q 46 [.ptr b 0,.int .i64 x] H (fun _ H' => Keep base H H' /\ Hp base H' (⟨b,1,dcs t (.slc cb 0 N N) R⟩ :: ⟨cb,7,rowV (rows.set t.y (loneP r x)).flatten⟩ :: l)) := by
 refine fn_wp (dq.er.ho 46 rfl _) dq.q46 (by simp [A46]) ?_
 have rl := hrl r (List.mem_of_getElem? hy)
 have hx := (List.getElem?_eq_some_iff.1 hc).1
 have hk := (List.getElem?_eq_some_iff.1 hd).1
 have fx : rows.flatten[t.y * t.w + x]? = some c := by rw [flat_get hrl hy (by omega)]; exact hc
 have fk : rows.flatten[t.y * t.w + kOf c x]? = some d := by rw [flat_get hrl hy (by omega)]; exact hd
 have ix := (List.getElem?_eq_some_iff.1 fx).1
 have ik := (List.getElem?_eq_some_iff.1 fk).1
 have l0 : ∀ {H' : AHeap} {L : List Cel},Hp base H' L -> (⟨b,1,dcs t (.slc cb 0 N N) R⟩ : Cel) ∈ L -> loadV H' Option.none (.ptr b 0) = some (.int .i64 t.w) /\ loadV H' Option.none (.ptr b 2) = some (.slc cb 0 N N) /\ loadV H' Option.none (.ptr b 4) = some (.int .i64 t.y) := fun {H'} {L} g hm => ⟨g.load hm (o := 0) rfl,g.load hm (o := 2) rfl,g.load hm (o := 4) rfl⟩
 obtain ⟨a0,a2,a4⟩ := l0 h (List.mem_cons_self ..)
 have m1 : t.y * t.w <= 160000 := by have := Nat.mul_le_mul (show t.y <= 400 by omega) hw4; omega
 have w1 : IntKind.wrap .i64 ((t.y : Int) * (t.w : Int)) = ((t.y * t.w : Nat) : Int) := by rw [<- Int.natCast_mul]; exact wrapNat (by omega)
 have w2 : IntKind.wrap .i64 (((t.y * t.w : Nat) : Int) + (x : Int)) = ((t.y * t.w + x : Nat) : Int) := wrapNat (n := t.y * t.w + x) (by omega)
 have x1 := ix7 (b := cb) (n := N) (i := t.y * t.w + x) (by omega) .i64
 obtain ⟨c7,_,_,_⟩ := h.loadC (b := cb) (by simp) fx
 obtain ⟨H1,s1,g1,k1⟩ := h.make [.int .i32 0,.int .u8 0,.int .u16 0,.int .u8 0,.int .u32 0,.int .u8 0,.int .u32 0] 7
 obtain ⟨u,hu⟩ : ∃ u,H.next = u := ⟨_,rfl⟩
 rw [hu] at g1
 obtain ⟨H2,s2,g2,k2,_⟩ := g1.storeN (n := 7) (new := c.cs) rfl rfl rfl
 have lu : loadV H2 Option.none (.ptr u 1) = some (.int .u8 c.w) := g2.load (List.mem_cons_self ..) (o := 1) rfl
 obtain ⟨_,b2,_⟩ := l0 g2 (by simp)
 obtain ⟨_,_,_,d5⟩ := g2.loadC (b := cb) (l := rows.flatten) (by simp) fk
 have xk := ix7 (b := cb) (n := N) (i := t.y * t.w + kOf c x) (by omega) .i64
 have g3 : Hp base H2 (⟨cb,7,rowV rows.flatten⟩ :: ⟨u,7,c.cs⟩ :: ⟨b,1,dcs t (.slc cb 0 N N) R⟩ :: l) := perm_c g2 fun a => by simp only [cnt_cons]; omega
 obtain ⟨H4,s4,g4,k4,_⟩ := g3.setC fk (blankC d.a)
 have fin : Keep base H H4 /\ Hp base H4 (⟨b,1,dcs t (.slc cb 0 N N) R⟩ :: ⟨cb,7,rowV (rows.set t.y (loneP r x)).flatten⟩ :: l) := by
  refine ⟨k1.trans (k2.trans k4),?_⟩
  rw [lone_at hc,bl_at hd,flat_set hrl hy _ (by omega)]
  have g5 : Hp base H4 (⟨u,7,c.cs⟩ :: (⟨b,1,dcs t (.slc cb 0 N N) R⟩ :: ⟨cb,7,rowV (rows.flatten.set (t.y * t.w + kOf c x) (blankC d.a))⟩ :: l)) := perm_c g4 fun a => by simp only [cnt_cons]; omega
  exact g5.drop
 by_cases c1 : c.w = 1
 ·have d1 := decide_eq_true c1
  have d2 : decide (c.w = 2) = false := decide_eq_false (by omega)
  have ek : kOf c x = x + 1 := by unfold kOf; rw [if_pos c1]
  rw [ek] at xk d5 s4
  have w3 : IntKind.wrap .i64 (((t.y * t.w + x : Nat) : Int) + 1) = ((t.y * t.w + (x + 1) : Nat) : Int) := wrapNat (n := t.y * t.w + (x + 1)) (by omega)
  simp only [A46,a0,a2,a4,w1,w2,x1,c7,run_allocL,s1,hu,s2,lu,d1,d2,w3,b2,xk,d5,run_build,bld32a,s4,SX,reduceCtorEq,Nat.reduceEqDiff,↓reduceIte]
  exact fin
 ·have d1 := decide_eq_false c1
  by_cases c2 : c.w = 2
  ·have d2 := decide_eq_true c2
   have ek : kOf c x = x - 1 := by unfold kOf; rw [if_neg c1,if_pos c2]
   have x0 := hx0 c2
   rw [ek] at xk d5 s4
   have w3 : IntKind.wrap .i64 (((t.y * t.w + x : Nat) : Int) - 1) = ((t.y * t.w + (x - 1) : Nat) : Int) := by rw [wrapI64 (by omega) (by omega)]; omega
   simp only [A46,a0,a2,a4,w1,w2,x1,c7,run_allocL,s1,hu,s2,lu,d1,d2,w3,b2,xk,d5,run_build,bld32a,s4,SX,reduceCtorEq,Nat.reduceEqDiff,↓reduceIte]
   exact fin
  ·have d2 := decide_eq_false c2
   have ek : kOf c x = x := by unfold kOf; rw [if_neg c1,if_neg c2]
   rw [ek] at xk d5 s4
   simp only [A46,a0,a2,a4,w1,w2,x1,c7,run_allocL,s1,hu,s2,lu,d1,d2,b2,d5,run_build,bld32a,s4,SX,reduceCtorEq,Nat.reduceEqDiff,↓reduceIte]
   exact fin
end
theorem set_self {α : Type} {l : List α} {i : Nat} {x : α} (h : l[i]? = some x) : l.set i x = l := by
 refine List.ext_getElem? fun j => ?_
 rw [List.getElem?_set]
 by_cases e : i = j
 ·subst e; rw [if_pos rfl,h]
  simp [(List.getElem?_eq_some_iff.1 h).1]
 ·rw [if_neg e]
def rowJ (r : List Ce) (x : Nat) : Nat -> List Ce
 | 0 => r
 | 1 => loneP r x
 | _ => loneP (loneP r x) (x + 1)
theorem rowJ_len (r : List Ce) (x j : Nat) : (rowJ r x j).length = r.length := by
 match j with
 | 0 => rfl
 | 1 => exact lone_len _ _
 | j + 2 => exact (lone_len _ _).trans (lone_len _ _)
section
variable {Q : Prog} (dq : TdQ Q) {H : AHeap} {base b cb q : Nat} {a : EvC} {R : List AV} {l : List Cel} {N : Nat}
include dq
set_option maxRecDepth 10000 in
set_option maxHeartbeats 16000000 in
theorem pr_wp {K : PostC} {t : Tm} (k : t.Ok) (hN : N = t.rows.flatten.length) (h : Hp base H (⟨b,1,dcs t (.slc cb 0 N N) R⟩ :: ⟨cb,7,rowV t.rows.flatten⟩ :: ⟨q,6,a.1.cs⟩ :: l)) {n : Nat} (hn : n = 1 \/ n = 2) (hx : t.x + n <= t.w) {e : Env} (e0 : Env.get e 0 = .ptr b 0) (e3 : Env.get e 3 = .ptr q 0) (e4 : Env.get e 4 = .int .i64 n)
  (hk : ∀ e' H',Env.get e' 0 = .ptr b 0 -> Env.get e' 3 = .ptr q 0 -> Keep base H H' -> Hp base H' (⟨b,1,dcs { t with rows := t.rows.set t.y (writeP (t.rows.getD t.y []) t.x a.1.r (decide (n = 2)) t.a),x := t.x + n } (.slc cb 0 N N) R⟩ :: ⟨cb,7,rowV (t.rows.set t.y (writeP (t.rows.getD t.y []) t.x a.1.r (decide (n = 2)) t.a)).flatten⟩ :: ⟨q,6,a.1.cs⟩ :: l) -> K .normal e' H') : ACode.wp Q A27_pr K e H := by
 have kx := k.x
 have kw := k.w
 have kh := k.h
 have ky := k.y
 obtain ⟨r,hr⟩ : ∃ r,t.rows[t.y]? = some r := ⟨_,List.getElem?_eq_getElem (by rw [k.n]; exact ky)⟩
 have hgd : t.rows.getD t.y [] = r := by rw [List.getD_eq_getElem?_getD,hr]; rfl
 obtain ⟨rl,rw_⟩ := k.r r (List.mem_of_getElem? hr)
 have hlt := (List.getElem?_eq_some_iff.1 hr).1
 have hfl : N = t.h * t.w := by rw [hN,flat_len (n := t.w) fun l hl => (k.r l hl).1,k.n]
 have hN6 : N <= 160000 := by rw [hfl]; have := Nat.mul_le_mul kh.2 kw.2; omega
 obtain ⟨x,hxe⟩ : ∃ x,t.x = x := ⟨_,rfl⟩
 rw [hxe] at hx kx
 obtain ⟨c,hc⟩ : ∃ c,r[x]? = some c := ⟨_,List.getElem?_eq_getElem (by omega)⟩
 have lx : ∀ {H' : AHeap} {L : List Cel},Hp base H' L -> (⟨b,1,dcs t (.slc cb 0 N N) R⟩ : Cel) ∈ L -> loadV H' Option.none (.ptr b 0) = some (.int .i64 t.w) /\ loadV H' Option.none (.ptr b 2) = some (.slc cb 0 N N) /\ loadV H' Option.none (.ptr b 3) = some (.int .i64 x) /\ loadV H' Option.none (.ptr b 4) = some (.int .i64 t.y) /\ loadV H' (some 5) (.ptr b 5) = some t.a.val := fun {H'} {L} g hm => ⟨g.load hm (o := 0) rfl,g.load hm (o := 2) rfl,by rw [<- hxe]; exact g.load hm (o := 3) rfl,g.load hm (o := 4) rfl,g.loadO (a := [.int .i64 t.w,.int .i64 t.h,.slc cb 0 N N,.int .i64 t.x,.int .i64 t.y]) (x := t.a.cs) (c := .bool t.hid :: R) (k := 1) hm rfl rfl⟩
 have ve : ∀ {H' : AHeap} {L : List Cel},Hp base H' L -> (⟨q,6,a.1.cs⟩ : Cel) ∈ L -> loadV H' Option.none (.ptr q 1) = some (.int .i32 a.1.r) := fun {H'} {L} g hm => g.load hm (o := 1) rfl
 simp only [A27_pr,SX,↓reduceIte]
 obtain ⟨I,hI⟩ : ∃ I : Nat -> Env -> AHeap -> Prop,∀ m e H',I m e H' ↔ (Keep base H H' /\ ∃ j : Nat,m = n - j /\ j <= n /\ Hp base H' (⟨b,1,dcs t (.slc cb 0 N N) R⟩ :: ⟨cb,7,rowV (t.rows.set t.y (rowJ r x j)).flatten⟩ :: ⟨q,6,a.1.cs⟩ :: l) /\ Env.get e 0 = .ptr b 0 /\ Env.get e 3 = .ptr q 0 /\ Env.get e 4 = .int .i64 n /\ Env.get e 5 = .int .i64 j) := ⟨_,fun _ _ _ => Iff.rfl⟩
 refine loop_by I n ?_ ?_
 ·exact (hI _ _ _).2 ⟨Keep.refl _ _,0,rfl,by omega,by rw [show rowJ r x 0 = r from rfl,set_self hr]; exact h,(by simp only [SG,reduceCtorEq,↓reduceIte,e0] <;> rfl),(by simp only [SG,Nat.reduceEqDiff,↓reduceIte,e3] <;> rfl),(by simp only [SG,Nat.reduceEqDiff,↓reduceIte,e4] <;> rfl),(by first | (simp only [SG,↓reduceIte] <;> rfl) | rfl)⟩
 ·clear e0 e3 e4
  intro m e H1 hinv
  obtain ⟨k1,j,rfl,hj,g1,e0,e3,e4,e5⟩ := (hI _ _ _).1 hinv
  have hrl : ∀ z ∈ t.rows.set t.y (rowJ r x j),z.length = t.w := fun z hz => by
   rcases List.mem_or_eq_of_mem_set hz with hz | rfl
   ·exact (k.r z hz).1
   ·rw [rowJ_len]; exact rl
  have hrow : (t.rows.set t.y (rowJ r x j))[t.y]? = some (rowJ r x j) := by rw [List.getElem?_set,if_pos rfl,if_pos hlt]
  have hNj : N = (t.rows.set t.y (rowJ r x j)).flatten.length := by rw [flat_len hrl,List.length_set,k.n]; exact hfl
  obtain ⟨m0,m2,m3,m4,m5⟩ := lx g1 (List.mem_cons_self ..)
  by_cases d : (j : Int) < (n : Int)
  ·have d1 := decide_eq_true d
   have w1 : IntKind.wrap .i64 ((x : Int) + (j : Int)) = ((x + j : Nat) : Int) := wrapNat (n := x + j) (by omega)
   have w2 : IntKind.wrap .i64 ((j : Int) + 1) = ((j + 1 : Nat) : Int) := wrapNat (n := j + 1) (by omega)
   simp only [e0,e4,e5,d1,m3,w1,SX,reduceCtorEq,Nat.reduceEqDiff,↓reduceIte]
   have go : ∀ {c' d' : Ce},(rowJ r x j)[x + j]? = some c' -> (rowJ r x j)[kOf c' (x + j)]? = some d' -> (c'.w = 2 -> 0 < x + j) -> loneP (rowJ r x j) (x + j) = rowJ r x (j + 1) -> FnTo Q 46 [.ptr b 0,.int .i64 ((x + j : Nat) : Int)] H1 (fun _ H' => Keep base H1 H' /\ Hp base H' (⟨b,1,dcs t (.slc cb 0 N N) R⟩ :: ⟨cb,7,rowV (t.rows.set t.y (rowJ r x (j + 1))).flatten⟩ :: ⟨q,6,a.1.cs⟩ :: l)) := fun {c' d'} h1 h2 h3 h4 => by
    refine (lone_spec dq g1 hrl hNj hN6 kw.2 (by omega) hrow h1 h2 h3).mono ?_
    rintro _ H' ⟨kk,g⟩
    rw [List.set_set,h4] at g
    exact ⟨kk,g⟩
   have call : FnTo Q 46 [.ptr b 0,.int .i64 ((x + j : Nat) : Int)] H1 (fun _ H' => Keep base H1 H' /\ Hp base H' (⟨b,1,dcs t (.slc cb 0 N N) R⟩ :: ⟨cb,7,rowV (t.rows.set t.y (rowJ r x (j + 1))).flatten⟩ :: ⟨q,6,a.1.cs⟩ :: l)) := by
    have hj2 : j = 0 \/ j = 1 := by omega
    rcases hj2 with rfl | rfl
    ·obtain ⟨z,hz,hz0⟩ := k_in rw_ hc
     exact go (c' := c) (d' := z) hc hz hz0 rfl
    ·obtain ⟨c2,hc2⟩ : ∃ c2,r[x + 1]? = some c2 := ⟨_,List.getElem?_eq_getElem (by omega)⟩
     obtain ⟨e',z,h1,h2,h3⟩ := k_in2 rw_ hc hc2
     exact go (c' := e') (d' := z) h1 h2 h3 rfl
   refine call.mono ?_
   rintro _ H2 ⟨k2,g2⟩
   simp only [e5,w2,SX,Nat.reduceEqDiff,↓reduceIte]
   exact ⟨n - (j + 1),by omega,(hI _ _ _).2 ⟨k1.trans k2,j + 1,rfl,by omega,g2,(by simp only [SG,reduceCtorEq,↓reduceIte,e0] <;> rfl),(by simp only [SG,Nat.reduceEqDiff,↓reduceIte,e3] <;> rfl),(by simp only [SG,Nat.reduceEqDiff,↓reduceIte,e4] <;> rfl),(by first | (simp only [SG,↓reduceIte] <;> rfl) | rfl)⟩⟩
  ·have d1 := decide_eq_false d
   obtain rfl : j = n := by omega
   obtain ⟨rj,hrj⟩ : ∃ rj,rowJ r x j = rj := ⟨_,rfl⟩
   have rjl : rj.length = t.w := by rw [<- hrj,rowJ_len]; exact rl
   rw [hrj] at g1 hrl hrow hNj
   obtain ⟨c1,hc1⟩ : ∃ c,rj[x]? = some c := ⟨_,List.getElem?_eq_getElem (by omega)⟩
   have my : t.y * t.w <= 160000 := by have := Nat.mul_le_mul (show t.y <= 400 by omega) kw.2; omega
   have w1 : IntKind.wrap .i64 ((t.y : Int) * (t.w : Int)) = ((t.y * t.w : Nat) : Int) := by rw [<- Int.natCast_mul]; exact wrapNat (by omega)
   have w2 : IntKind.wrap .i64 (((t.y * t.w : Nat) : Int) + (x : Int)) = ((t.y * t.w + x : Nat) : Int) := wrapNat (n := t.y * t.w + x) (by omega)
   have w3 : IntKind.wrap .i64 ((x : Int) + (j : Int)) = ((x + j : Nat) : Int) := wrapNat (n := x + j) (by omega)
   have fx : (t.rows.set t.y rj).flatten[t.y * t.w + x]? = some c1 := by rw [flat_get hrl hrow (by omega)]; exact hc1
   have ixl := (List.getElem?_eq_some_iff.1 fx).1
   have x1 := ix7 (b := cb) (n := N) (i := t.y * t.w + x) (by omega) .i64
   have v1 := ve g1 (by simp)
   have g1' : Hp base H1 (⟨cb,7,rowV (t.rows.set t.y rj).flatten⟩ :: ⟨b,1,dcs t (.slc cb 0 N N) R⟩ :: ⟨q,6,a.1.cs⟩ :: l) := g1.swap
   obtain ⟨H2,s2,g2,k2,_⟩ := g1'.setC fx ⟨a.1.r,0,t.a⟩
   have fin : ∀ {H3 : AHeap} {fl : List Ce} (e' : Env),Keep base H1 H3 -> Hp base H3 (⟨cb,7,rowV fl⟩ :: ⟨b,1,dcs t (.slc cb 0 N N) R⟩ :: ⟨q,6,a.1.cs⟩ :: l) -> fl = (t.rows.set t.y (writeP (t.rows.getD t.y []) t.x a.1.r (decide (j = 2)) t.a)).flatten -> ∃ H4,storeE H3 1 (.ptr b 3) (.int .i64 ((x + j : Nat) : Int)) = some (.undef,H4) /\ (Env.get e' 0 = .ptr b 0 -> Env.get e' 3 = .ptr q 0 -> K .normal e' H4) := fun {H3} {fl} e' kk g hfl' => by
    obtain ⟨H4,s4,g4,k4,_⟩ := g.swap.store (o := 3) (v := .int .i64 ((x + j : Nat) : Int)) rfl (by simp [dcs])
    refine ⟨H4,s4,fun a0 a3 => hk _ _ a0 a3 (k1.trans (kk.trans k4)) ?_⟩
    rw [<- hfl']
    rw [hxe]
    exact g4
   rcases hn with rfl | rfl
   ·have hwf : (t.rows.set t.y rj).flatten.set (t.y * t.w + x) ⟨a.1.r,0,t.a⟩ = (t.rows.set t.y (writeP (t.rows.getD t.y []) t.x a.1.r (decide (1 = 2)) t.a)).flatten := by
     rw [<- flat_set hrl hrow _ (by omega),List.set_set,hgd,hxe,<- hrj]
     have := writeR_eq rw_ x a.1.r false t.a (by rw [if_neg (by simp)]; omega)
     rw [show decide (1 = 2) = false from rfl,<- this]
     rfl
    have hd2 : decide (((1 : Nat) : Int) = 2) = false := rfl
    have d1' : decide (((1 : Nat) : Int) < ((1 : Nat) : Int)) = false := rfl
    obtain ⟨_,p2,p3,_,_⟩ := lx g2 (by simp)
    simp only [e0,e3,e4,e5,d1',m0,m2,m3,m4,m5,v1,w1,w2,x1,run_build,bldC,s2,hd2,p3,w3,SX,reduceCtorEq,Nat.reduceEqDiff,↓reduceIte]
    obtain ⟨H4,s4,go⟩ := fin (H3 := H2) _ k2 g2 hwf
    simp only [s4,SX]
    refine go ?_ ?_
    ·simp only [e0,SG,reduceCtorEq,↓reduceIte]
    ·simp only [e3,SG,reduceCtorEq,Nat.reduceEqDiff,↓reduceIte]
   ·have hd2 : decide (((2 : Nat) : Int) = 2) = true := rfl
    have d1' : decide (((2 : Nat) : Int) < ((2 : Nat) : Int)) = false := rfl
    obtain ⟨_,p2,p3,_,_⟩ := lx g2 (by simp)
    obtain ⟨fl2,hfl2⟩ : ∃ fl2,(t.rows.set t.y rj).flatten.set (t.y * t.w + x) ⟨a.1.r,0,t.a⟩ = fl2 := ⟨_,rfl⟩
    rw [hfl2] at g2
    have hf2l : fl2.length = N := by rw [<- hfl2,List.length_set]; exact hNj.symm
    have f2x : fl2[t.y * t.w + x]? = some ⟨a.1.r,0,t.a⟩ := by rw [<- hfl2,List.getElem?_set,if_pos rfl,if_pos (by omega)]
    obtain ⟨H3,s3,g3,k3,_⟩ := g2.setW f2x 1
    have f3l : (fl2.set (t.y * t.w + x) { r := a.1.r,w := 1,a := t.a }).length = N := by rw [List.length_set]; exact hf2l
    have ixl2 : t.y * t.w + (x + 1) < N := by
     have : (t.y + 1) * t.w <= t.h * t.w := Nat.mul_le_mul_right _ (by omega)
     rw [Nat.succ_mul] at this
     omega
    obtain ⟨z,hz⟩ : ∃ z,(fl2.set (t.y * t.w + x) { r := a.1.r,w := 1,a := t.a })[t.y * t.w + (x + 1)]? = some z := ⟨_,List.getElem?_eq_getElem (by omega)⟩
    obtain ⟨H4,s4,g4,k4,_⟩ := g3.setC hz ⟨a.1.r,2,t.a⟩
    have w4 : IntKind.wrap .i64 (((t.y * t.w + x : Nat) : Int) + 1) = ((t.y * t.w + (x + 1) : Nat) : Int) := wrapNat (n := t.y * t.w + (x + 1)) (by omega)
    have x2 := ix7 (b := cb) (n := N) (i := t.y * t.w + (x + 1)) (by omega) .i64
    obtain ⟨_,q2,_,_,q5⟩ := lx g3 (by simp)
    have v3 := ve g3 (by simp)
    obtain ⟨_,_,r3,_,_⟩ := lx g4 (by simp)
    have hwf : (fl2.set (t.y * t.w + x) { r := a.1.r,w := 1,a := t.a }).set (t.y * t.w + (x + 1)) ⟨a.1.r,2,t.a⟩ = (t.rows.set t.y (writeP (t.rows.getD t.y []) t.x a.1.r (decide (2 = 2)) t.a)).flatten := by
     have wr := writeR_eq rw_ x a.1.r true t.a (by rw [if_pos rfl]; omega)
     rw [show decide (2 = 2) = true from rfl,hgd,hxe,<- wr]
     have e1 : writeR r x a.1.r true t.a = (rj.set x ⟨a.1.r,1,t.a⟩).set (x + 1) ⟨a.1.r,2,t.a⟩ := by rw [<- hrj]; rfl
     have rows1 : t.rows.set t.y ((rj.set x ⟨a.1.r,1,t.a⟩).set (x + 1) ⟨a.1.r,2,t.a⟩) = ((t.rows.set t.y rj).set t.y (rj.set x ⟨a.1.r,1,t.a⟩)).set t.y ((rj.set x ⟨a.1.r,1,t.a⟩).set (x + 1) ⟨a.1.r,2,t.a⟩) := by simp only [List.set_set]
     rw [e1,rows1,<- hfl2,List.set_set]
     have hrl2 : ∀ z ∈ (t.rows.set t.y rj).set t.y (rj.set x ⟨a.1.r,1,t.a⟩),z.length = t.w := fun z hz => by
      rcases List.mem_or_eq_of_mem_set hz with hz | rfl
      ·exact hrl z hz
      ·rw [List.length_set]; exact rjl
     have hrow2 : ((t.rows.set t.y rj).set t.y (rj.set x ⟨a.1.r,1,t.a⟩))[t.y]? = some (rj.set x ⟨a.1.r,1,t.a⟩) := by rw [List.getElem?_set,if_pos rfl,if_pos (by rw [List.length_set]; exact hlt)]
     rw [flat_set hrl2 hrow2 _ (by omega),flat_set hrl hrow _ (by omega)]
    simp only [e0,e3,e4,e5,d1',m0,m2,m3,m4,m5,v1,w1,w2,x1,run_build,bldC,s2,hd2,p2,s3,q2,q5,v3,w4,x2,bldC2,s4,r3,w3,SX,reduceCtorEq,Nat.reduceEqDiff,↓reduceIte]
    obtain ⟨H5,s5,go⟩ := fin (H3 := H4) _ (k2.trans (k3.trans k4)) g4 hwf
    simp only [s5,SX]
    refine go ?_ ?_
    ·simp only [e0,SG,reduceCtorEq,↓reduceIte]
    ·simp only [e3,SG,reduceCtorEq,Nat.reduceEqDiff,↓reduceIte]
end
section
variable {Q : Prog} (dq : TdQ Q) {H : AHeap} {base b cb q : Nat} {a : EvC} {R : List AV} {l : List Cel} {N : Nat}
include dq
set_option maxRecDepth 10000 in
set_option maxHeartbeats 32000000 in
theorem rest_wp {K : PostC} {t : Tm} (k : t.Ok) (fl : FlOk t.a.fl) (hp : PRv a.1.v a.1.L a.2) (hg : EvG a.1.pure) (ha : ∀ x ∈ a.2,x ∈ l) (hN : N = t.h * t.w) (h : Hp base H (⟨b,1,dcs t (.slc cb 0 N N) R⟩ :: ⟨cb,7,rowV t.rows.flatten⟩ :: ⟨q,6,a.1.cs⟩ :: l)) {e : Env} (e0 : Env.get e 0 = .ptr b 0) (e3 : Env.get e 3 = .ptr q 0)
  (hk : ∀ (x : AEx) e' H' cb' t',(x = .normal \/ x = .ret) -> t' = (if a.1.k = 1 then t else t.does a.1.pure) -> Keep base H H' -> Hp base H' (⟨b,1,dcs t' (.slc cb' 0 N N) R⟩ :: ⟨cb',7,rowV t'.rows.flatten⟩ :: ⟨q,6,a.1.cs⟩ :: l) -> K x e' H') : ACode.wp Q A27_rest K e H := by
 have kx := k.x
 have kw := k.w
 have kh := k.h
 have ky := k.y
 have ve : ∀ {H' : AHeap} {L : List Cel},Hp base H' L -> (⟨q,6,a.1.cs⟩ : Cel) ∈ L -> loadV H' Option.none (.ptr q 0) = some (.int .i64 a.1.k) /\ loadV H' Option.none (.ptr q 2) = some (.int .u8 a.1.f) /\ loadV H' Option.none (.ptr q 3) = some (.str a.1.m) /\ loadV H' Option.none (.ptr q 4) = some a.1.v := fun {H'} {L} g hm => ⟨g.load hm (o := 0) rfl,g.load hm (o := 2) rfl,g.load hm (o := 3) rfl,g.load hm (o := 4) rfl⟩
 have lt : ∀ {H' : AHeap} {t' : Tm} {cv : AV} {L : List Cel},Hp base H' (⟨b,1,dcs t' cv R⟩ :: L) -> loadV H' Option.none (.ptr b 0) = some (.int .i64 t'.w) /\ loadV H' Option.none (.ptr b 1) = some (.int .i64 t'.h) /\ loadV H' Option.none (.ptr b 4) = some (.int .i64 t'.y) /\ loadV H' (some 5) (.ptr b 5) = some t'.a.val := fun {H'} {t'} {cv} {L} g =>
  ⟨g.load (List.mem_cons_self ..) (o := 0) rfl,g.load (List.mem_cons_self ..) (o := 1) rfl,g.load (List.mem_cons_self ..) (o := 4) rfl,g.loadO (a := [.int .i64 t'.w,.int .i64 t'.h,cv,.int .i64 t'.x,.int .i64 t'.y]) (x := t'.a.cs) (c := .bool t'.hid :: R) (k := 1) (List.mem_cons_self ..) rfl rfl⟩
 obtain ⟨v0,v2,v3,v4⟩ := ve h (by simp)
 obtain ⟨t0,t1,t4,t5⟩ := lt h
 have same : ∀ (x : AEx) e',(x = .normal \/ x = .ret) -> (if a.1.k = 1 then t else t.does a.1.pure) = t -> K x e' H := fun x e' hx ht => hk x e' H cb _ hx rfl (Keep.refl _ _) (by rw [ht]; exact h)
 have pr : a.1.pure.k = a.1.k /\ a.1.pure.f = a.1.f /\ a.1.pure.m = a.1.m /\ a.1.pure.L = a.1.L := ⟨rfl,rfl,rfl,rfl⟩
 by_cases c1 : a.1.k = 1
 ·have n2 : decide (a.1.k = 2) = false := decide_eq_false (by omega)
  have n4 : decide (a.1.k = 4) = false := decide_eq_false (by omega)
  simp only [A27_rest,e3,v0,n2,n4,SX,Nat.reduceEqDiff,↓reduceIte]
  exact same _ _ (.inr rfl) (by rw [if_pos c1])
 have hd : ∀ t',(if a.1.k = 1 then t else t') = t' := fun t' => if_neg c1
 by_cases c2 : a.1.k = 2
 ·have n2 := decide_eq_true c2
  have n4 : decide (a.1.k = 4) = false := decide_eq_false (by omega)
  by_cases f13 : a.1.f = 13
  ·have d13 := decide_eq_true f13
   have d10 : decide (a.1.f = 10) = false := decide_eq_false (by omega)
   obtain ⟨H2,s2,g2,k2,_⟩ := h.store (o := 3) (v := .int .i64 0) rfl (by simp [dcs])
   have g2 : Hp base H2 (⟨b,1,dcs { t with x := 0 } (.slc cb 0 N N) R⟩ :: ⟨cb,7,rowV t.rows.flatten⟩ :: ⟨q,6,a.1.cs⟩ :: l) := g2
   obtain ⟨w0,w2,_,_⟩ := ve g2 (by simp)
   simp only [A27_rest,e0,e3,v0,v2,n2,n4,d13,s2,w0,w2,d10,SX,reduceCtorEq,Nat.reduceEqDiff,↓reduceIte]
   refine hk _ _ _ cb _ (.inr rfl) rfl k2 ?_
   rw [hd]
   unfold Tm.does
   rw [pr.1,pr.2.1,if_neg c1,if_neg (show ¬ a.1.k = 4 by omega),if_pos ⟨c2,f13⟩]
   exact g2
  ·have d13 := decide_eq_false f13
   by_cases f10 : a.1.f = 10
   ·have d10 := decide_eq_true f10
    have w1 : IntKind.wrap .i64 ((t.y : Int) + 1) = ((t.y + 1 : Nat) : Int) := wrapNat (n := t.y + 1) (by omega)
    by_cases cy : t.y + 1 < t.h
    ·have dy : decide (((t.y + 1 : Nat) : Int) < (t.h : Int)) = true := decide_eq_true (by omega)
     obtain ⟨H2,s2,g2,k2,_⟩ := h.store (o := 4) (v := .int .i64 ((t.y + 1 : Nat) : Int)) rfl (by simp [dcs])
     have g2 : Hp base H2 (⟨b,1,dcs { t with y := t.y + 1 } (.slc cb 0 N N) R⟩ :: ⟨cb,7,rowV t.rows.flatten⟩ :: ⟨q,6,a.1.cs⟩ :: l) := g2
     obtain ⟨w0,_⟩ := ve g2 (by simp)
     simp only [A27_rest,e0,e3,v0,v2,n2,n4,d13,d10,t4,t1,w1,dy,s2,w0,SX,reduceCtorEq,Nat.reduceEqDiff,↓reduceIte]
     refine hk _ _ _ cb _ (.inr rfl) rfl k2 ?_
     rw [hd]
     unfold Tm.does
     rw [pr.1,pr.2.1,if_neg c1,if_neg (show ¬ a.1.k = 4 by omega),if_neg (fun hh => f13 hh.2),if_pos ⟨c2,f10⟩,Nat.min_eq_left (by omega)]
     exact g2
    ·have dy : decide (((t.y + 1 : Nat) : Int) < (t.h : Int)) = false := decide_eq_false (by omega)
     simp only [A27_rest,e0,e3,v0,v2,n2,n4,d13,d10,t4,t1,w1,dy,SX,reduceCtorEq,Nat.reduceEqDiff,↓reduceIte]
     refine same _ _ (.inr rfl) ?_
     rw [hd]
     unfold Tm.does
     rw [pr.1,pr.2.1,if_neg c1,if_neg (show ¬ a.1.k = 4 by omega),if_neg (fun hh => f13 hh.2),if_pos ⟨c2,f10⟩]
     have : min (t.y + 1) (t.h - 1) = t.y := by omega
     rw [this]
   ·have d10 := decide_eq_false f10
    simp only [A27_rest,e3,v0,v2,n2,n4,d13,d10,SX,Nat.reduceEqDiff,↓reduceIte]
    refine same _ _ (.inr rfl) ?_
    rw [hd]
    unfold Tm.does
    rw [pr.1,pr.2.1,if_neg c1,if_neg (show ¬ a.1.k = 4 by omega),if_neg (fun hh => f13 hh.2),if_neg (fun hh => f10 hh.2)]
 have n2 := decide_eq_false c2
 by_cases c4' : ¬ a.1.k = 4
 ·have n4 := decide_eq_false c4'
  simp only [A27_rest,e3,v0,n2,n4,SX,Nat.reduceEqDiff,↓reduceIte]
  refine same _ _ (.inr rfl) ?_
  rw [hd]
  unfold Tm.does
  rw [pr.1,if_neg c1,if_neg c4',if_neg (fun hh => c2 hh.1),if_neg (fun hh => c2 hh.1)]
 have c4 : a.1.k = 4 := Decidable.not_not.1 c4'
 have n4 := decide_eq_true c4
 have isl := hp.sl h (fun x hx => List.mem_cons_of_mem _ (List.mem_cons_of_mem _ (List.mem_cons_of_mem _ (ha x hx))))
 have o0 : 1 <= oneP a.1.L 0 1 /\ oneP a.1.L 0 1 <= 9999 := oneP_in hg.el
 have o1 : 1 <= oneP a.1.L 1 1 /\ oneP a.1.L 1 1 <= 9999 := oneP_in hg.el
 have hdo : t.does a.1.pure = t.csi a.1.m a.1.f a.1.L := by
  unfold Tm.does
  rw [pr.1,pr.2.1,pr.2.2.1,pr.2.2.2,if_neg c1,if_pos c4]
 have hcsi := csi_alt t a.1.m (f := a.1.f) hg.f a.1.L
 by_cases m0 : a.1.m = []
 ·have dm0 := decide_eq_true m0
  have dm1 : decide (a.1.m = [63]) = false := decide_eq_false (by rw [m0]; simp)
  by_cases f72 : a.1.f = 72
  ·have d72 := decide_eq_true f72
   have d109 : decide (a.1.f = 109) = false := decide_eq_false (by omega)
   have d74 : decide (a.1.f = 74) = false := decide_eq_false (by omega)
   rw [if_pos ⟨m0,f72⟩] at hcsi
   simp only [A27_rest,e0,e3,v0,v2,v3,v4,n2,n4,bin_eqls,dm0,d72,t1,SX,reduceCtorEq,Nat.reduceEqDiff,↓reduceIte]
   refine (oneR_spec dq isl 0 1).mono ?_
   rintro _ H' ⟨rfl,hH⟩
   rw [hH]; clear hH H'
   refine ⟨by simp only [echoOk,t1,same_int,Bool.and_self,SX,Nat.reduceEqDiff,↓reduceIte],?_⟩
   have e1 : IntKind.wrap .i64 (oneP a.1.L 0 1 - 1) = oneP a.1.L 0 1 - 1 := wrapI64 (by omega) (by omega)
   have e2 : IntKind.wrap .i64 ((t.h : Int) - 1) = (t.h : Int) - 1 := wrapI64 (by omega) (by omega)
   obtain ⟨Y,hY⟩ : ∃ Y,(min (oneP a.1.L 0 1) (t.h : Int) - 1).toNat = Y := ⟨_,rfl⟩
   have e3' : min (oneP a.1.L 0 1 - 1) ((t.h : Int) - 1) = (Y : Int) := by omega
   obtain ⟨H2,s2,g2,k2,_⟩ := h.store (o := 4) (v := .int .i64 (Y : Int)) rfl (by simp [dcs])
   have g2 : Hp base H2 (⟨b,1,dcs { t with y := Y } (.slc cb 0 N N) R⟩ :: ⟨cb,7,rowV t.rows.flatten⟩ :: ⟨q,6,a.1.cs⟩ :: l) := g2
   obtain ⟨_,_,_,w4⟩ := ve g2 (by simp)
   obtain ⟨u0,_,_,_⟩ := lt g2
   have u0 : loadV H2 Option.none (.ptr b 0) = some (.int .i64 t.w) := u0
   have isl2 := hp.sl g2 (fun x hx => List.mem_cons_of_mem _ (List.mem_cons_of_mem _ (List.mem_cons_of_mem _ (ha x hx))))
   simp only [e0,e3,e1,e2,e3',s2,w4,u0,SX,reduceCtorEq,Nat.reduceEqDiff,↓reduceIte]
   refine (oneR_spec dq isl2 1 1).mono ?_
   rintro _ H' ⟨rfl,hH⟩
   rw [hH]; clear hH H'
   refine ⟨by simp only [echoOk,u0,same_int,Bool.and_self,SX,Nat.reduceEqDiff,↓reduceIte],?_⟩
   have e4 : IntKind.wrap .i64 (oneP a.1.L 1 1 - 1) = oneP a.1.L 1 1 - 1 := wrapI64 (by omega) (by omega)
   have e5 : IntKind.wrap .i64 ((t.w : Int) - 1) = (t.w : Int) - 1 := wrapI64 (by omega) (by omega)
   obtain ⟨X,hX⟩ : ∃ X,(min (oneP a.1.L 1 1) (t.w : Int) - 1).toNat = X := ⟨_,rfl⟩
   have e6 : min (oneP a.1.L 1 1 - 1) ((t.w : Int) - 1) = (X : Int) := by omega
   obtain ⟨H3,s3,g3,k3,_⟩ := g2.store (o := 3) (v := .int .i64 (X : Int)) rfl (by simp [dcs])
   have g3 : Hp base H3 (⟨b,1,dcs { t with y := Y,x := X } (.slc cb 0 N N) R⟩ :: ⟨cb,7,rowV t.rows.flatten⟩ :: ⟨q,6,a.1.cs⟩ :: l) := g3
   obtain ⟨_,x2,x3,_⟩ := ve g3 (by simp)
   simp only [e3,e4,e5,e6,s3,x2,x3,bin_eqls,dm0,dm1,d109,d74,wantV_undef,SX,reduceCtorEq,Nat.reduceEqDiff,↓reduceIte]
   refine hk _ _ _ cb _ (.inl rfl) rfl (k2.trans k3) ?_
   rw [hd,hdo,hcsi,hY,hX]
   exact g3
  have d72 := decide_eq_false f72
  rw [if_neg (fun hh => f72 hh.2)] at hcsi
  by_cases f109 : a.1.f = 109
  ·have d109 := decide_eq_true f109
   have d74 : decide (a.1.f = 74) = false := decide_eq_false (by omega)
   rw [if_pos ⟨m0,f109⟩] at hcsi
   simp only [A27_rest,e0,e3,v0,v2,v3,v4,n2,n4,bin_eqls,dm0,d72,d109,t5,SX,reduceCtorEq,Nat.reduceEqDiff,↓reduceIte]
   refine (applyR_spec dq.ar (a := t.a) (hp.isL h (fun x hx => List.mem_cons_of_mem _ (List.mem_cons_of_mem _ (List.mem_cons_of_mem _ (ha x hx))))) (by have := hg.n; simp only [Ev.pure] at this; omega) (fun p hp' => by have := hg.len p hp'; omega) h.fr).mono ?_
   rintro _ H2 ⟨rfl,gr2⟩
   rw [applyRP_eq fl]
   have g2 := h.of_gr gr2
   obtain ⟨A,hA⟩ : ∃ A,applyP t.a a.1.L = A := ⟨_,rfl⟩
   rw [hA] at hcsi ⊢
   obtain ⟨H3,s3,g3,k3,_⟩ := g2.storeO (a := [.int .i64 t.w,.int .i64 t.h,.slc cb 0 N N,.int .i64 t.x,.int .i64 t.y]) (x := t.a.cs) (c := .bool t.hid :: R) (o := 5) rfl rfl (n := 5) (new := A.cs) rfl rfl rfl
   have s3 : storeE H2 5 (.ptr b 5) A.val = some (.undef,H3) := s3
   have g3 : Hp base H3 (⟨b,1,dcs { t with a := A } (.slc cb 0 N N) R⟩ :: ⟨cb,7,rowV t.rows.flatten⟩ :: ⟨q,6,a.1.cs⟩ :: l) := g3
   obtain ⟨_,x2,x3,_⟩ := ve g3 (by simp)
   simp only [e3,s3,x2,x3,bin_eqls,dm0,dm1,d74,wantV_undef,SX,reduceCtorEq,Nat.reduceEqDiff,↓reduceIte]
   refine hk _ _ _ cb _ (.inl rfl) rfl ((gr2.keep.le h.bn).trans k3) ?_
   rw [hd,hdo,hcsi]
   exact g3
  have d109 := decide_eq_false f109
  rw [if_neg (fun hh => f109 hh.2)] at hcsi
  by_cases f74 : a.1.f = 74
  ·have d74 := decide_eq_true f74
   rw [if_pos ⟨m0,f74⟩] at hcsi
   simp only [A27_rest,e3,v0,v2,v3,v4,n2,n4,bin_eqls,dm0,d72,d109,d74,SX,Nat.reduceEqDiff,↓reduceIte]
   refine (oneR_spec dq isl 0 0).mono ?_
   rintro _ H' ⟨rfl,hH⟩
   rw [hH]; clear hH H'
   by_cases c5 : oneP a.1.L 0 0 = 2
   ·have d5 := decide_eq_true c5
    rw [if_pos c5] at hcsi
    simp only [e0,d5,SX,reduceCtorEq,Nat.reduceEqDiff,↓reduceIte]
    refine (rblank_spec dq (t := t) h kw kh).mono ?_
    rintro _ H2 ⟨k2,cb',g2⟩
    have g3 : Hp base H2 (⟨cb,7,rowV t.rows.flatten⟩ :: (⟨b,1,dcs t (.slc cb' 0 (t.h * t.w) (t.h * t.w)) R⟩ :: ⟨cb',7,rowV (blanksT t.w t.h).flatten⟩ :: ⟨q,6,a.1.cs⟩ :: l)) := perm_c g2 fun a => by simp only [cnt_cons]; omega
    have g4 := g3.drop
    rw [<- hN] at g4
    obtain ⟨_,x2,x3,_⟩ := ve g4 (by simp)
    simp only [e3,x3,bin_eqls,dm1,wantV_undef,SX,Nat.reduceEqDiff,↓reduceIte]
    refine hk _ _ _ cb' _ (.inl rfl) rfl k2 ?_
    rw [hd,hdo,hcsi]
    exact g4
   ·have d5 := decide_eq_false c5
    rw [if_neg c5] at hcsi
    simp only [e3,d5,v3,bin_eqls,dm1,wantV_undef,SX,Nat.reduceEqDiff,↓reduceIte]
    exact same _ _ (.inl rfl) (by rw [hd,hdo,hcsi])
  have d74 := decide_eq_false f74
  rw [if_neg (fun hh => f74 hh.2),if_neg (fun hh => by rw [m0] at hh; simp at hh)] at hcsi
  simp only [A27_rest,e3,v0,v2,v3,n2,n4,bin_eqls,dm0,dm1,d72,d109,d74,wantV_undef,SX,Nat.reduceEqDiff,↓reduceIte]
  exact same _ _ (.inl rfl) (by rw [hd,hdo,hcsi])
 have dm0 := decide_eq_false m0
 rw [if_neg (fun hh => m0 hh.1),if_neg (fun hh => m0 hh.1),if_neg (fun hh => m0 hh.1)] at hcsi
 by_cases m1' : ¬ a.1.m = [63]
 ·have dm1 := decide_eq_false m1'
  rw [if_neg (fun hh => m1' hh.1)] at hcsi
  simp only [A27_rest,e3,v0,v3,n2,n4,bin_eqls,dm0,dm1,wantV_undef,SX,Nat.reduceEqDiff,↓reduceIte]
  exact same _ _ (.inl rfl) (by rw [hd,hdo,hcsi])
 have m1 : a.1.m = [63] := Decidable.not_not.1 m1'
 have dm1 := decide_eq_true m1
 by_cases f2' : ¬ (a.1.f = 104 \/ a.1.f = 108)
 ·have d4 : decide (a.1.f = 104) = false := decide_eq_false fun e => f2' (.inl e)
  have d5 : decide (a.1.f = 108) = false := decide_eq_false fun e => f2' (.inr e)
  rw [if_neg (fun hh => f2' hh.2)] at hcsi
  simp only [A27_rest,e3,v0,v2,v3,n2,n4,bin_eqls,dm0,dm1,d4,d5,SX,Nat.reduceEqDiff,↓reduceIte]
  exact same _ _ (.inl rfl) (by rw [hd,hdo,hcsi])
 have f2 : a.1.f = 104 \/ a.1.f = 108 := Decidable.not_not.1 f2'
 rw [if_pos ⟨m1,f2⟩] at hcsi
 have dd : decide (a.1.f = 104) = true \/ (decide (a.1.f = 104) = false /\ decide (a.1.f = 108) = true) := by
  by_cases c5 : a.1.f = 104
  ·exact .inl (decide_eq_true c5)
  ·exact .inr ⟨decide_eq_false c5,decide_eq_true (f2.resolve_left c5)⟩
 have ln := isl.len
 rcases L25 a.1.L with hL | ⟨hL,hL2⟩
 ·rw [if_pos hL] at hcsi
  have b1 : decide (((a.1.L).length : Int) = 1) = true := by rw [hL]; rfl
  have ix := isl.at (i := 0) (by omega) (by rw [hL]; decide) .i64
  obtain ⟨c,lc,hc⟩ := isl.get (i := 0) (a := [25]) (by rw [hL]; rfl)
  have hc : IsSl IsInt H c [25] := hc
  have lnc := hc.len
  have ixc := hc.at (i := 0) (by omega) (by decide) .i64
  have lcc := hc.int (i := 0) (a := 25) rfl
  obtain ⟨H3,s3,g3,k3,_⟩ := h.store (o := 10) (v := .bool (decide (a.1.f = 108))) rfl (by simp [dcs])
  have g3 : Hp base H3 (⟨b,1,dcs { t with hid := decide (a.1.f = 108) } (.slc cb 0 N N) R⟩ :: ⟨cb,7,rowV t.rows.flatten⟩ :: ⟨q,6,a.1.cs⟩ :: l) := g3
  rcases dd with d4 | ⟨d4,d5⟩
  ·simp only [A27_rest,e0,e3,v0,v2,v3,v4,n2,n4,bin_eqls,dm0,dm1,d4,ln,b1,ix,lc,lnc,ixc,lcc,s3,List.length_cons,List.length_nil,Int.natCast_one,SX,reduceCtorEq,Nat.reduceEqDiff,↓reduceIte]
   exact hk _ _ _ cb _ (.inl rfl) rfl k3 (by rw [hd,hdo,hcsi]; exact g3)
  ·rw [d5] at s3 g3
   simp only [A27_rest,e0,e3,v0,v2,v3,v4,n2,n4,bin_eqls,dm0,dm1,d4,d5,ln,b1,ix,lc,lnc,ixc,lcc,s3,List.length_cons,List.length_nil,Int.natCast_one,SX,reduceCtorEq,Nat.reduceEqDiff,↓reduceIte]
   exact hk _ _ _ cb _ (.inl rfl) rfl k3 (by rw [hd,hdo,hcsi,d5]; exact g3)
 ·rw [if_neg hL] at hcsi
  have fin : ∀ e',K .normal e' H := fun e' => same _ _ (.inl rfl) (by rw [hd,hdo,hcsi])
  rcases hL2 with hn | ⟨p,hLp,hp2⟩
  ·have b1 : decide (((a.1.L).length : Int) = 1) = false := decide_eq_false (by omega)
   rcases dd with d4 | ⟨d4,d5⟩
   ·simp only [A27_rest,e3,v0,v2,v3,v4,n2,n4,bin_eqls,dm0,dm1,d4,ln,b1,SX,Nat.reduceEqDiff,↓reduceIte]
    exact fin _
   ·simp only [A27_rest,e3,v0,v2,v3,v4,n2,n4,bin_eqls,dm0,dm1,d4,d5,ln,b1,SX,Nat.reduceEqDiff,↓reduceIte]
    exact fin _
  ·have b1 : decide (((a.1.L).length : Int) = 1) = true := by rw [hLp]; rfl
   have ix := isl.at (i := 0) (by omega) (by rw [hLp]; simp) .i64
   obtain ⟨c,lc,hc⟩ := isl.get (i := 0) (a := p) (by rw [hLp]; rfl)
   have hc : IsSl IsInt H c p := hc
   have lnc := hc.len
   rcases hp2 with hn | ⟨x,rfl,hx⟩
   ·have b2 : decide ((p.length : Int) = 1) = false := decide_eq_false (by omega)
    rcases dd with d4 | ⟨d4,d5⟩
    ·simp only [A27_rest,e3,v0,v2,v3,v4,n2,n4,bin_eqls,dm0,dm1,d4,ln,b1,ix,lc,lnc,b2,SX,Nat.reduceEqDiff,↓reduceIte]
     exact fin _
    ·simp only [A27_rest,e3,v0,v2,v3,v4,n2,n4,bin_eqls,dm0,dm1,d4,d5,ln,b1,ix,lc,lnc,b2,SX,Nat.reduceEqDiff,↓reduceIte]
     exact fin _
   ·have b2 : decide ((([x] : List Int).length : Int) = 1) = true := rfl
    have ixc := hc.at (i := 0) (by omega) (by simp) .i64
    have lcc := hc.int (i := 0) (a := x) rfl
    have b3 := decide_eq_false hx
    rcases dd with d4 | ⟨d4,d5⟩
    ·simp only [A27_rest,e3,v0,v2,v3,v4,n2,n4,bin_eqls,dm0,dm1,d4,ln,b1,ix,lc,lnc,b2,ixc,lcc,b3,SX,Nat.reduceEqDiff,↓reduceIte]
     exact fin _
    ·simp only [A27_rest,e3,v0,v2,v3,v4,n2,n4,bin_eqls,dm0,dm1,d4,d5,ln,b1,ix,lc,lnc,b2,ixc,lcc,b3,SX,Nat.reduceEqDiff,↓reduceIte]
     exact fin _
set_option maxRecDepth 10000 in
set_option maxHeartbeats 16000000 in
theorem rdoes_spec {t : Tm} (k : t.Ok) (fl : FlOk t.a.fl) (hp : PRv a.1.v a.1.L a.2) (hg : EvG a.1.pure) (ha : ∀ x ∈ a.2,x ∈ l) (hN : N = t.h * t.w) (h : Hp base H (⟨b,1,dcs t (.slc cb 0 N N) R⟩ :: ⟨cb,7,rowV t.rows.flatten⟩ :: l)) :
  FnTo Q 27 [.ptr b 0,a.1.val] H (fun _ H' => Keep base H H' /\ ∃ cb',Hp base H' (⟨b,1,dcs (t.does a.1.pure) (.slc cb' 0 N N) R⟩ :: ⟨cb',7,rowV (t.does a.1.pure).rows.flatten⟩ :: l)) := by
 refine fn_wp (dq.er.ho 27 rfl _) dq.q27 (by simp [A27]) ?_
 have kx := k.x
 have kw := k.w
 have res : A27.res = [] := rfl
 rw [res]
 have hNf : N = t.rows.flatten.length := by rw [flat_len (n := t.w) fun l hl => (k.r l hl).1,k.n]; exact hN
 have bx := box_evV (a := a.1) hp.one
 obtain ⟨H1,s1,g1,k1⟩ := h.make a.1.cs 6
 obtain ⟨q,hq⟩ : ∃ q,H.next = q := ⟨_,rfl⟩
 rw [hq] at g1
 have v0 := g1.load (List.mem_cons_self ..) (o := 0) (v := .int .i64 a.1.k) rfl
 have v1 := g1.load (List.mem_cons_self ..) (o := 1) (v := .int .i32 a.1.r) rfl
 have g1 : Hp base H1 (⟨b,1,dcs t (.slc cb 0 N N) R⟩ :: ⟨cb,7,rowV t.rows.flatten⟩ :: ⟨q,6,a.1.cs⟩ :: l) := perm_c g1 fun a => by simp only [cnt_cons]; omega
 have ha1 : ∀ {H' : AHeap},True := fun {H'} => trivial
 have fin : ∀ {H' : AHeap} {t' : Tm} {cb' : Nat},t' = t.does a.1.pure -> Keep base H H' -> Hp base H' (⟨b,1,dcs t' (.slc cb' 0 N N) R⟩ :: ⟨cb',7,rowV t'.rows.flatten⟩ :: ⟨q,6,a.1.cs⟩ :: l) -> Keep base H H' /\ ∃ cb',Hp base H' (⟨b,1,dcs (t.does a.1.pure) (.slc cb' 0 N N) R⟩ :: ⟨cb',7,rowV (t.does a.1.pure).rows.flatten⟩ :: l) := fun {H'} {t'} {cb'} ht kk g => by
  subst ht
  have g' : Hp base H' (⟨q,6,a.1.cs⟩ :: (⟨b,1,dcs (t.does a.1.pure) (.slc cb' 0 N N) R⟩ :: ⟨cb',7,rowV (t.does a.1.pure).rows.flatten⟩ :: l)) := perm_c g fun a => by simp only [cnt_cons]; omega
  exact ⟨kk,cb',g'.drop⟩
 have post : ∀ (x : AEx) (e' : Env) (H' : AHeap),(x = .normal \/ x = .ret) -> (Keep base H H' /\ ∃ cb',Hp base H' (⟨b,1,dcs (t.does a.1.pure) (.slc cb' 0 N N) R⟩ :: ⟨cb',7,rowV (t.does a.1.pure).rows.flatten⟩ :: l)) -> fnK [] (fun _ H' => Keep base H H' /\ ∃ cb',Hp base H' (⟨b,1,dcs (t.does a.1.pure) (.slc cb' 0 N N) R⟩ :: ⟨cb',7,rowV (t.does a.1.pure).rows.flatten⟩ :: l)) x e' H' := fun x e' H' hx hh => by
  rcases hx with rfl | rfl <;> exact ⟨_,rfl,hh⟩
 by_cases c1 : a.1.k = 1
 ·have d1 := decide_eq_true c1
  have hdo : t.does a.1.pure = t.prints a.1.r := by unfold Tm.does; rw [if_pos (show a.1.pure.k = 1 from c1)]; rfl
  have hpr : t.prints a.1.r = if ofN a.1.r = 0 \/ t.w < t.x + ofN a.1.r then t else { t with rows := t.rows.set t.y (writeP (t.rows.getD t.y []) t.x a.1.r (decide (ofN a.1.r = 2)) t.a),x := t.x + ofN a.1.r } := rfl
  have hof : ofP a.1.r = (ofN a.1.r : Int) := by rcases ofN_in a.1.r with q | q | q <;> omega
  have hn2 : ofN a.1.r <= 2 := by rcases ofN_in a.1.r with q | q | q <;> omega
  simp only [A27,bx,s1,hq,v0,v1,d1,SX,Nat.reduceEqDiff,↓reduceIte]
  refine (ofR_spec (fun a => dq.er.ho 45 rfl a) dq.q45 g1.fr a.1.r).mono ?_
  rintro _ H2 ⟨rfl,gr2⟩
  have g2 := g1.of_gr gr2
  have k2 : Keep base H H2 := k1.trans (gr2.keep.le g1.bn)
  rw [hof]
  generalize hn : ofN a.1.r = n at hpr hn2 ⊢
  by_cases c0 : n = 0
  ·have d0 : decide ((n : Int) = 0) = true := decide_eq_true (by omega)
   simp only [d0,SX,Nat.reduceEqDiff,↓reduceIte]
   rw [if_pos (.inl c0)] at hpr
   exact fin (by rw [hdo,hpr]) k2 g2
  have d0 : decide ((n : Int) = 0) = false := decide_eq_false (by omega)
  have l0 := g2.load (b := b) (k := 1) (cs := dcs t (.slc cb 0 N N) R) (List.mem_cons_self ..) (o := 0) (v := .int .i64 t.w) rfl
  have l3 := g2.load (b := b) (k := 1) (cs := dcs t (.slc cb 0 N N) R) (List.mem_cons_self ..) (o := 3) (v := .int .i64 t.x) rfl
  have w1 : IntKind.wrap .i64 ((t.x : Int) + (n : Int)) = ((t.x + n : Nat) : Int) := wrapNat (n := t.x + n) (by omega)
  by_cases cw : t.w < t.x + n
  ·have dw : decide ((t.w : Int) < ((t.x + n : Nat) : Int)) = true := decide_eq_true (by omega)
   simp only [d0,l0,l3,w1,dw,SX,reduceCtorEq,Nat.reduceEqDiff,↓reduceIte]
   rw [if_pos (.inr cw)] at hpr
   exact fin (by rw [hdo,hpr]) k2 g2
  have dw : decide ((t.w : Int) < ((t.x + n : Nat) : Int)) = false := decide_eq_false (by omega)
  rw [if_neg (by omega)] at hpr
  simp only [d0,l0,l3,w1,dw,SX,reduceCtorEq,Nat.reduceEqDiff,↓reduceIte]
  refine pr_wp dq (q := q) (a := a) (l := l) k hNf g2 (n := n) (by omega) (by omega) (by first | (simp only [SG,reduceCtorEq,↓reduceIte] <;> rfl) | rfl) (by first | (simp only [SG,Nat.reduceEqDiff,↓reduceIte] <;> rfl) | rfl) (by first | (simp only [SG,Nat.reduceEqDiff,↓reduceIte] <;> rfl) | rfl) ?_
  intro e' H3 e0 e3 k3 g3
  rw [<- hpr] at g3
  have hrows : (t.rows.set t.y (writeP (t.rows.getD t.y []) t.x a.1.r (decide (n = 2)) t.a)) = (t.prints a.1.r).rows := by rw [hpr]
  rw [hrows] at g3
  have kp := prints_ok k a.1.r
  have wh := prints_same t a.1.r
  simp only [SX]
  refine rest_wp dq kp (by rw [wh.2.2.2.1]; exact fl) hp hg ha (by rw [wh.1,wh.2.1]; exact hN) g3 e0 e3 ?_
  rintro x e2 H4 cb' t' hx ht k4 g4
  rw [if_pos c1] at ht
  exact post _ _ _ hx (fin (by rw [ht,hdo]) (k2.trans (k3.trans k4)) g4)
 ·have d1 := decide_eq_false c1
  simp only [A27,bx,s1,hq,v0,d1,SX,↓reduceIte]
  refine rest_wp dq k fl hp hg ha hN g1 (by first | (simp only [SG,reduceCtorEq,↓reduceIte] <;> rfl) | rfl) (by first | (simp only [SG,Nat.reduceEqDiff,↓reduceIte] <;> rfl) | rfl) ?_
  rintro x e2 H4 cb' t' hx ht k4 g4
  rw [if_neg c1] at ht
  exact post _ _ _ hx (fin ht (k1.trans k4) g4)
end
def prs (S : RSt) (tv : AV) (done : Nat) : List AV := [.int .i64 S.st,.str S.kept,.str S.list,.str S.mids,.int .u8 S.fin,.str S.text,tv,.int .i64 done]
def pfOf (t : Tm) (cv : AV) (done : Nat) : Pf := ⟨.int .i64 t.w,.int .i64 t.h,cv,.int .i64 t.x,.int .i64 t.y,.int .u16 t.a.fl,.int .u8 t.a.fk,.int .u32 t.a.fn,.int .u8 t.a.bk,.int .u32 t.a.bn,.bool t.hid,.int .i64 done⟩
theorem rcs_dcs (t : Tm) (cv : AV) (S : RSt) (tv : AV) (done : Nat) : rcs (pfOf t cv done) S tv = dcs t cv (prs S tv done) := rfl
def DocC (b : Nat) (t : Tm) (S : RSt) (done : Nat) (cs : List Cel) : Prop := ∃ cb C,RCel.ok C S /\ cs = ⟨b,1,dcs t (.slc cb 0 (t.h * t.w) (t.h * t.w)) (prs S C.tv done)⟩ :: ⟨cb,7,rowV t.rows.flatten⟩ :: C.tcl
structure Link (m : Nat) (a : PSt) (S : RSt) : Prop where
 g : PG a
 e : a.told = []
 sm : Sm (a.pre S.told) S
 small : S.Small m
 told : S.told.length <= 4 * m
theorem Link.step {m : Nat} {a : PSt} {S : RSt} (h : Link m a S) (c : UInt8) : (S.step c).told = S.told ++ (a.step c).told /\ Link (m + 1) (a.step c).clr0 (S.step c) /\ ∀ e ∈ (a.step c).told,EvG e := by
 have sm := h.sm.step c
 rw [pre_step] at sm
 have ht : (S.step c).told = S.told ++ (a.step c).told := sm.o.told.symm
 have g := h.g.step c
 have g4 := (Good.step h.g.g c).2.1
 refine ⟨ht,⟨g.clr0,rfl,?_,small_step h.small c,?_⟩,g.t⟩
 ·have e : (a.step c).pre S.told = (a.step c).clr0.pre (S.step c).told := by rw [ht]; simp [PSt.pre,PSt.clr0]
  rw [<- e]; exact sm
 ·rw [ht,List.length_append]
  have := h.told
  rw [h.e] at g4
  simp at g4
  omega
theorem Link.facts {m : Nat} {a : PSt} {S : RSt} (h : Link m a S) : (0 <= S.st /\ S.st <= 13) /\ S.kept.length <= 3 := by
 have e : S.st = a.st := h.sm.o.st.symm
 exact ⟨by rw [e]; exact h.g.g.st,dk_len h.sm.o.d⟩
theorem tp_snoc (tp : TP) (s : List UInt8) {i : Nat} {c : UInt8} (hc : s[i]? = some c) : tp.feed (s.take (i + 1)) = ⟨(tp.feed (s.take i)).t.run ((tp.feed (s.take i)).p.step c).told,((tp.feed (s.take i)).p.step c).clr0⟩ := by
 rw [List.take_add_one,hc]
 show tp.feed (s.take i ++ [c]) = _
 rw [TP.feed_app]
 rfl
section
variable {Q : Prog} (dq : TdQ Q) {H : AHeap} {base b : Nat} {l : List Cel}
include dq
set_option maxHeartbeats 16000000 in
theorem rfeed_spec {tp : TP} {S : RSt} {m : Nat} {cs : List Cel} (ok : tp.Ok) (fl : FlOk tp.t.a.fl) (lk : Link m tp.p S) (hc : DocC b tp.t S S.told.length cs) (h : Hp base H (cs ++ l)) (s : List UInt8) (hm : m + s.length <= 50000) :
  FnTo Q 14 [.ptr b 0,.str s] H (fun _ H' => Keep base H H' /\ ∃ S' cs',Link (m + s.length) (tp.feed s).p S' /\ DocC b (tp.feed s).t S' S'.told.length cs' /\ Hp base H' (cs' ++ l)) := by
 refine fn_wp (dq.er.ho 14 rfl _) dq.q14 (by simp [A14]) ?_
 simp only [A14,SX,↓reduceIte]
 obtain ⟨I,hI⟩ : ∃ I : Nat -> Env -> AHeap -> Prop,∀ m' e H',I m' e H' ↔ (Keep base H H' /\ ∃ (i : Nat) (S' : RSt) (cs' : List Cel),m' = s.length - i /\ i <= s.length /\ Link (m + i) (tp.feed (s.take i)).p S' /\ DocC b (tp.feed (s.take i)).t S' S'.told.length cs' /\ Hp base H' (cs' ++ l) /\ Env.get e 0 = .ptr b 0 /\ Env.get e 1 = .str s /\ Env.get e 4 = .int .i64 i) := ⟨_,fun _ _ _ => Iff.rfl⟩
 refine loop_by I s.length ?_ ?_
 ·have e0 : tp.feed (s.take 0) = tp := by
   rw [List.take_zero]
   show TP.mk (tp.t.run tp.p.told) tp.p.clr0 = tp
   rw [ok.e]
   have : tp.p.clr0 = tp.p := by unfold PSt.clr0; rw [<- ok.e]
   rw [this]; rfl
  exact (hI _ _ _).2 ⟨Keep.refl _ _,0,S,cs,rfl,by omega,by rw [e0]; exact lk,by rw [e0]; exact hc,h,(by first | (simp only [SG,reduceCtorEq,↓reduceIte] <;> rfl) | rfl),(by first | (simp only [SG,Nat.reduceEqDiff,↓reduceIte] <;> rfl) | rfl),(by first | (simp only [SG,↓reduceIte] <;> rfl) | rfl)⟩
 ·clear hc h lk
  intro m' e H1 hinv
  obtain ⟨k1,i,S1,cs1,rfl,hi,lk,hc,h,e0,e1,e4⟩ := (hI _ _ _).1 hinv
  by_cases d : (i : Int) < (s.length : Int)
  ·have d1 := decide_eq_true d
   obtain ⟨c,hcs⟩ : ∃ c,s[i]? = some c := ⟨_,List.getElem?_eq_getElem (by omega)⟩
   have xi := idxStr_at hcs .i64
   have okI := ok.feed (s.take i)
   have flI : FlOk (tp.feed (s.take i)).t.a.fl := run_fl _ fl
   have snoc := tp_snoc tp s hcs
   obtain ⟨⟨t,a⟩,hta⟩ : ∃ z,tp.feed (s.take i) = z := ⟨_,rfl⟩
   rw [hta] at lk hc okI flI snoc
   simp only at lk hc flI snoc
   obtain ⟨cb,C,okC,rfl⟩ := hc
   have kt := okI.t
   simp only at kt
   obtain ⟨fst_,fk⟩ := lk.facts
   obtain ⟨htold,lk2,hev⟩ := lk.step c
   have rp : RPar (pfOf t (.slc cb 0 (t.h * t.w) (t.h * t.w)) S1.told.length) base H1 b S1 (⟨cb,7,rowV t.rows.flatten⟩ :: l) := ⟨C,okC,by
    rw [rcs_dcs]
    exact perm_c h fun a => by simp only [cnt_cons,cnt_append]; omega⟩
   simp only [e0,e1,e4,d1,lngV_str,xi,SX,reduceCtorEq,Nat.reduceEqDiff,↓reduceIte]
   refine (byteR_spec dq.er (c := c) fst_ fk lk.small (by omega) rp (by have := lk.told; omega)).mono ?_
   rintro _ H2 ⟨⟨C2,ok2,g2⟩,k2⟩
   rw [rcs_dcs] at g2
   obtain ⟨S2,hS2⟩ : ∃ S2,S1.step c = S2 := ⟨_,rfl⟩
   rw [hS2] at htold lk2 ok2 g2
   obtain ⟨E,hE⟩ : ∃ E,(a.step c).told = E := ⟨_,rfl⟩
   rw [hE] at htold hev snoc
   obtain ⟨n0,hn0⟩ : ∃ n0,S1.told.length = n0 := ⟨_,rfl⟩
   rw [hn0] at g2
   have hCE : C2.E.length = n0 + E.length := by
    have := congrArg List.length ok2.e
    rw [List.length_map,htold,List.length_append,hn0] at this
    exact this
   have hbig : n0 + E.length <= 800000 := by
    have := lk2.told
    rw [htold,List.length_append,hn0] at this
    omega
   simp only [SX]
   obtain ⟨J,hJ⟩ : ∃ J : Nat -> Env -> AHeap -> Prop,∀ m' e H',J m' e H' ↔ (Keep base H H' /\ ∃ (j : Nat) (cb' : Nat),m' = E.length - j /\ j <= E.length /\ Hp base H' (⟨b,1,dcs (t.run (E.take j)) (.slc cb' 0 (t.h * t.w) (t.h * t.w)) (prs S2 C2.tv (n0 + j))⟩ :: ⟨cb',7,rowV (t.run (E.take j)).rows.flatten⟩ :: (C2.tcl ++ l)) /\ Env.get e 0 = .ptr b 0 /\ Env.get e 1 = .str s /\ Env.get e 4 = .int .i64 i) := ⟨_,fun _ _ _ => Iff.rfl⟩
   refine loop_by J E.length ?_ ?_
   ·exact (hJ _ _ _).2 ⟨k1.trans k2,0,cb,rfl,by omega,by
     show Hp base H2 (⟨b,1,dcs t (.slc cb 0 (t.h * t.w) (t.h * t.w)) (prs S2 C2.tv n0)⟩ :: ⟨cb,7,rowV t.rows.flatten⟩ :: (C2.tcl ++ l))
     exact perm_c g2 fun a => by simp only [cnt_cons,cnt_append]; omega,(by simp only [SG,reduceCtorEq,↓reduceIte,e0] <;> rfl),(by simp only [SG,Nat.reduceEqDiff,↓reduceIte,e1] <;> rfl),(by simp only [SG,Nat.reduceEqDiff,↓reduceIte,e4] <;> rfl)⟩
   ·clear e0 e1 e4 g2
    intro m' e' H3 hinv2
    obtain ⟨k3,j,cb',rfl,hj,g3,e0,e1,e4⟩ := (hJ _ _ _).1 hinv2
    have l18 := g3.load (b := b) (k := 1) (List.mem_cons_self ..) (o := 18) (v := .int .i64 ((n0 + j : Nat) : Int)) rfl
    have l17 := g3.load (b := b) (k := 1) (List.mem_cons_self ..) (o := 17) (v := C2.tv) rfl
    have ln := ok2.t.len H3
    rw [hCE] at ln
    by_cases dj : (((n0 + j : Nat) : Int) < ((n0 + E.length : Nat) : Int))
    ·have dj1 := decide_eq_true dj
     have hjl : j < E.length := by omega
     obtain ⟨v,hv⟩ : ∃ v,C2.E[n0 + j]? = some v := ⟨_,List.getElem?_eq_getElem (by omega)⟩
     have hvE : E[j]? = some v.1.pure := by
      have h1 : (C2.E.map fun a => a.1.pure)[n0 + j]? = some v.1.pure := by rw [List.getElem?_map,hv]; rfl
      rw [ok2.e,htold,List.getElem?_append_right (by omega),hn0,Nat.add_sub_cancel_left] at h1
      exact h1
     have hmem := List.mem_of_getElem? hv
     have xi2 := ok2.t.at (i := n0 + j) (by omega)
     have lv := ok2.t.get g3 (fun x hx => List.mem_cons_of_mem _ (List.mem_cons_of_mem _ (List.mem_append_left _ hx))) hv
     have kj : (t.run (E.take j)).Ok := run_ok kt fun x hx => hev x (List.mem_of_mem_take hx)
     have flj : FlOk (t.run (E.take j)).a.fl := run_fl _ flI
     have whj := run_wh (E.take j) t
     have w1 : IntKind.wrap .i64 (((n0 + j : Nat) : Int) + 1) = ((n0 + (j + 1) : Nat) : Int) := wrapNat (n := n0 + (j + 1)) (by omega)
     simp only [e0,l18,l17,ln,dj1,xi2,lv,SX,reduceCtorEq,Nat.reduceEqDiff,↓reduceIte,Nat.reduceAdd]
     refine (rdoes_spec dq kj flj (ok2.ev v hmem) (hev _ (List.mem_of_getElem? hvE)) (fun x hx => List.mem_append_left _ (ok2.t.sub hmem x hx)) (by rw [whj.1,whj.2]) g3).mono ?_
     rintro _ H4 ⟨k4,cb2,g4⟩
     have hrun : (t.run (E.take j)).does v.1.pure = t.run (E.take (j + 1)) := by
      rw [List.take_add_one,hvE]
      show _ = t.run (E.take j ++ [v.1.pure])
      rw [run_app]; rfl
     rw [hrun] at g4
     have l184 := g4.load (b := b) (k := 1) (List.mem_cons_self ..) (o := 18) (v := .int .i64 ((n0 + j : Nat) : Int)) rfl
     obtain ⟨H5,s5,g5,k5,_⟩ := g4.store (o := 18) (v := .int .i64 ((n0 + (j + 1) : Nat) : Int)) rfl (by simp [dcs,prs])
     have g5 : Hp base H5 (⟨b,1,dcs (t.run (E.take (j + 1))) (.slc cb2 0 (t.h * t.w) (t.h * t.w)) (prs S2 C2.tv (n0 + (j + 1)))⟩ :: ⟨cb2,7,rowV (t.run (E.take (j + 1))).rows.flatten⟩ :: (C2.tcl ++ l)) := g5
     simp only [e0,l184,w1,s5,SX,reduceCtorEq,Nat.reduceEqDiff,↓reduceIte]
     exact ⟨E.length - (j + 1),by omega,(hJ _ _ _).2 ⟨k3.trans (k4.trans k5),j + 1,cb2,rfl,by omega,g5,(by simp only [SG,reduceCtorEq,↓reduceIte,e0] <;> rfl),(by simp only [SG,reduceCtorEq,Nat.reduceEqDiff,↓reduceIte,e1] <;> rfl),(by simp only [SG,reduceCtorEq,Nat.reduceEqDiff,↓reduceIte,e4] <;> rfl)⟩⟩
    ·have dj1 := decide_eq_false dj
     obtain rfl : j = E.length := by omega
     rw [List.take_length] at g3
     have whj := run_wh E t
     have w1 : IntKind.wrap .i64 ((i : Int) + 1) = ((i + 1 : Nat) : Int) := wrapNat (n := i + 1) (by omega)
     simp only [e0,e4,l18,l17,ln,dj1,w1,SX,reduceCtorEq,Nat.reduceEqDiff,↓reduceIte,Nat.reduceAdd]
     refine ⟨s.length - (i + 1),by omega,(hI _ _ _).2 ⟨k3,i + 1,S2,(⟨b,1,dcs (t.run E) (.slc cb' 0 (t.h * t.w) (t.h * t.w)) (prs S2 C2.tv (n0 + E.length))⟩ :: ⟨cb',7,rowV (t.run E).rows.flatten⟩ :: C2.tcl),rfl,by omega,?_,?_,?_,(by simp only [SG,reduceCtorEq,↓reduceIte,e0] <;> rfl),(by simp only [SG,Nat.reduceEqDiff,↓reduceIte,e1] <;> rfl),(by first | (simp only [SG,↓reduceIte] <;> rfl) | rfl)⟩⟩
     ·rw [snoc]; exact lk2
     ·rw [snoc]
      refine ⟨cb',C2,ok2,?_⟩
      simp only
      rw [whj.1,whj.2,htold,List.length_append,hn0]
     ·exact g3
  ·have d1 := decide_eq_false d
   obtain rfl : i = s.length := by omega
   rw [List.take_length] at lk hc
   simp only [e1,e4,d1,lngV_str,SX,Nat.reduceEqDiff,↓reduceIte]
   exact ⟨k1,S1,cs1,lk,hc,h⟩
end
theorem rnew_ok : RCel.ok ⟨.nils,[],[]⟩ RSt.new := ⟨.inl ⟨rfl,rfl,rfl⟩,rfl,fun a ha => by simp at ha⟩
theorem link_new : Link 0 PSt.new RSt.new := ⟨PG.new,rfl,by
 have e : PSt.new.pre RSt.new.told = PSt.new := rfl
 rw [e]; exact sm_new,⟨by simp [RSt.new],by simp [RSt.new],by simp [RSt.new]⟩,by simp [RSt.new]⟩
section
variable {Q : Prog} (dq : TdQ Q) {H : AHeap} {base b : Nat} {l : List Cel}
include dq
set_option maxHeartbeats 4000000 in
theorem rnew_spec (h : Hp base H l) {w hh : Nat} (hw : 1 <= w /\ w <= 400) (h4 : 1 <= hh /\ hh <= 400) :
  FnTo Q 13 [.int .i64 w,.int .i64 hh] H (fun r H' => Keep base H H' /\ ∃ b cs,r = .ptr b 0 /\ DocC b (Tm.new w hh) RSt.new RSt.new.told.length cs /\ Hp base H' (cs ++ l)) := by
 refine fn_wp (dq.er.ho 13 rfl _) dq.q13 (by simp [A13]) ?_
 obtain ⟨D,hD⟩ : ∃ D,dcs (Tm.new w hh) .nils (prs RSt.new .nils 0) = D := ⟨_,rfl⟩
 have bd : buildV [.int .i64 0,.int .i64 0,.nils,.int .i64 0,.int .i64 0,.int .u16 0,.int .u8 0,.int .u32 0,.int .u8 0,.int .u32 0,.bool false,.int .i64 0,.str [],.str [],.str [],.int .u8 0,.str [],.nils,.int .i64 0] [(0,1,.int .i64 w),(1,1,.int .i64 hh)] = some (.agg D) := by rw [<- hD]; rfl
 have bx : boxV (.agg D) = some (.row ⟨D,0,false,true,0⟩,.ptr) := by rw [<- hD]; rfl
 obtain ⟨H1,s1,g1,k1⟩ := h.make D 1
 rw [<- hD] at g1
 simp only [A13,run_build,bd,bx,s1,SX,reduceCtorEq,Nat.reduceEqDiff,↓reduceIte]
 refine (rblank_spec dq (t := Tm.new w hh) g1 hw h4).mono ?_
 rintro _ H2 ⟨k2,cb,g2⟩
 simp only [SX,Nat.reduceEqDiff,↓reduceIte]
 exact ⟨k1.trans k2,_,_,rfl,⟨cb,⟨.nils,[],[]⟩,rnew_ok,rfl⟩,g2⟩
set_option maxHeartbeats 8000000 in
theorem rresize_spec {t : Tm} {S : RSt} {done : Nat} {cs : List Cel} (hc : DocC b t S done cs) (h : Hp base H (cs ++ l)) {w hh : Nat} (hw : 1 <= w /\ w <= 400) (h4 : 1 <= hh /\ hh <= 400) :
  FnTo Q 16 [.ptr b 0,.int .i64 w,.int .i64 hh] H (fun _ H' => Keep base H H' /\ ∃ cs',DocC b (Tm.new w hh) S done cs' /\ Hp base H' (cs' ++ l)) := by
 refine fn_wp (dq.er.ho 16 rfl _) dq.q16 (by simp [A16]) ?_
 obtain ⟨cb,C,ok,rfl⟩ := hc
 have h : Hp base H (⟨b,1,dcs t (.slc cb 0 (t.h * t.w) (t.h * t.w)) (prs S C.tv done)⟩ :: ⟨cb,7,rowV t.rows.flatten⟩ :: (C.tcl ++ l)) := h
 obtain ⟨F,hF⟩ : ∃ F : List AV,[AV.int .i64 S.st,.str S.kept,.str S.list,.str S.mids,.int .u8 S.fin,.str S.text,C.tv] = F := ⟨_,rfl⟩
 have hFl : F.length = 7 := by rw [<- hF]; rfl
 have hF1 : F.all AV.one = true := by
  have h1 := ok.t.one
  rw [<- hF]; simp only [List.all_cons,h1,List.all_nil]; rfl
 have cells : dcs t (.slc cb 0 (t.h * t.w) (t.h * t.w)) (prs S C.tv done) = [.int .i64 t.w,.int .i64 t.h,.slc cb 0 (t.h * t.w) (t.h * t.w),.int .i64 t.x,.int .i64 t.y,.int .u16 t.a.fl,.int .u8 t.a.fk,.int .u32 t.a.fn,.int .u8 t.a.bk,.int .u32 t.a.bn,.bool t.hid] ++ (F ++ [.int .i64 done]) := by rw [<- hF]; rfl
 have l7 := h.loadO (b := b) (k := 1) (a := [.int .i64 t.w,.int .i64 t.h,.slc cb 0 (t.h * t.w) (t.h * t.w),.int .i64 t.x,.int .i64 t.y,.int .u16 t.a.fl,.int .u8 t.a.fk,.int .u32 t.a.fn,.int .u8 t.a.bk,.int .u32 t.a.bn,.bool t.hid]) (x := F) (c := [.int .i64 done]) (o := 11) (n := 7) (by rw [<- cells]; exact List.mem_cons_self ..) rfl hFl
 obtain ⟨H1,s1,g1,k1⟩ := h.make [.int .i64 0,.str [],.str [],.str [],.int .u8 0,.str [],.nils] 7
 obtain ⟨u,hu⟩ : ∃ u,H.next = u := ⟨_,rfl⟩
 rw [hu] at g1
 obtain ⟨H2,s2,g2,k2,_⟩ := g1.storeN (n := 7) (new := F) rfl hFl hF1
 have l18 := g2.load (b := b) (k := 1) (cs := dcs t (.slc cb 0 (t.h * t.w) (t.h * t.w)) (prs S C.tv done)) (by simp) (o := 18) (v := .int .i64 done) rfl
 have lu := g2.loadN (List.mem_cons_self ..) (n := 7) hFl
 have bd : buildV [.int .i64 0,.int .i64 0,.nils,.int .i64 0,.int .i64 0,.int .u16 0,.int .u8 0,.int .u32 0,.int .u8 0,.int .u32 0,.bool false,.int .i64 0,.str [],.str [],.str [],.int .u8 0,.str [],.nils,.int .i64 0] [(0,1,.int .i64 w),(1,1,.int .i64 hh),(11,7,.agg F),(18,1,.int .i64 done)] = some (.agg (dcs (Tm.new w hh) .nils (prs S C.tv done))) := by rw [<- hF]; rfl
 have g2' : Hp base H2 (⟨b,1,dcs t (.slc cb 0 (t.h * t.w) (t.h * t.w)) (prs S C.tv done)⟩ :: ⟨u,7,F⟩ :: ⟨cb,7,rowV t.rows.flatten⟩ :: (C.tcl ++ l)) := g2.swap
 obtain ⟨H3,s3,g3,k3,_⟩ := g2'.storeN (n := 19) (new := dcs (Tm.new w hh) .nils (prs S C.tv done)) rfl rfl (by
  have h1 := ok.t.one
  simp only [dcs,prs,List.all_cons,h1,List.all_nil]; rfl)
 simp only [A16,l7,run_allocL,s1,hu,s2,l18,lu,run_build,bd,s3,SX,reduceCtorEq,Nat.reduceEqDiff,↓reduceIte]
 refine (rblank_spec dq (t := Tm.new w hh) g3 hw h4).mono ?_
 rintro _ H4 ⟨k4,cb',g4⟩
 simp only [SX]
 refine ⟨k1.trans (k2.trans (k3.trans k4)),_,⟨cb',C,ok,rfl⟩,?_⟩
 have g4 : Hp base H4 (⟨b,1,dcs (Tm.new w hh) (.slc cb' 0 (hh * w) (hh * w)) (prs S C.tv done)⟩ :: ⟨cb',7,rowV (blanksT w hh).flatten⟩ :: ⟨u,7,F⟩ :: ⟨cb,7,rowV t.rows.flatten⟩ :: (C.tcl ++ l)) := g4
 have g5 : Hp base H4 ([⟨u,7,F⟩,⟨cb,7,rowV t.rows.flatten⟩] ++ (⟨b,1,dcs (Tm.new w hh) (.slc cb' 0 (hh * w) (hh * w)) (prs S C.tv done)⟩ :: ⟨cb',7,rowV (blanksT w hh).flatten⟩ :: (C.tcl ++ l))) := perm_c g4 fun a => by
  simp only [cnt_cons,cnt_append,cnt_nil]; omega
 exact g5.sub (List.sublist_append_right _ _)
set_option maxHeartbeats 16000000 in
theorem rmatrix_spec {t : Tm} {S : RSt} {done : Nat} {cs : List Cel} (k : t.Ok) (hc : DocC b t S done cs) (h : Hp base H (cs ++ l)) :
  FnTo Q 18 [.ptr b 0] H (fun r H' => Keep base H H' /\ ∃ cb,r = .agg (mat t.w t.h (.slc cb 0 t.rows.flatten.length t.rows.flatten.length) (if t.hid = true then 0 else ((min t.x (t.w - 1) : Nat) : Int)) (if t.hid = true then 0 else (t.y : Int)) (!t.hid)) /\ Hp base H' (⟨cb,7,rowV t.rows.flatten⟩ :: (cs ++ l))) := by
 refine fn_wp (dq.er.ho 18 rfl _) dq.q18 (by simp [A18]) ?_
 obtain ⟨cb,C,ok,hcs⟩ := hc
 have kw := k.w
 have kh := k.h
 obtain ⟨N,hN⟩ : ∃ N,t.h * t.w = N := ⟨_,rfl⟩
 have hfl : t.rows.flatten.length = N := by rw [flat_len (n := t.w) fun l hl => (k.r l hl).1,k.n]; exact hN
 have hN6 : N <= 160000 := by rw [<- hN]; have := Nat.mul_le_mul kh.2 kw.2; omega
 have hN0 : 0 < N := by rw [<- hN]; exact Nat.mul_pos kh.1 kw.1
 rw [hfl]
 rw [hN] at hcs
 obtain ⟨F,hF⟩ : ∃ F,cs ++ l = F := ⟨_,rfl⟩
 rw [hF] at h ⊢
 have mb : (⟨b,1,dcs t (.slc cb 0 N N) (prs S C.tv done)⟩ : Cel) ∈ F := by rw [<- hF,hcs]; simp
 have mc : (⟨cb,7,rowV t.rows.flatten⟩ : Cel) ∈ F := by rw [<- hF,hcs]; simp
 obtain ⟨Z,hZ⟩ : ∃ Z : List AV,[AV.int .i64 0,.int .i64 0,.nils,.int .i64 0,.int .i64 0,.bool false] = Z := ⟨_,rfl⟩
 have hZl : Z.length = 6 := by rw [<- hZ]; rfl
 have lt : ∀ {H' L},Hp base H' L -> (⟨b,1,dcs t (.slc cb 0 N N) (prs S C.tv done)⟩ : Cel) ∈ L -> loadV H' Option.none (.ptr b 0) = some (.int .i64 t.w) /\ loadV H' Option.none (.ptr b 1) = some (.int .i64 t.h) /\ loadV H' Option.none (.ptr b 2) = some (.slc cb 0 N N) /\ loadV H' Option.none (.ptr b 3) = some (.int .i64 t.x) /\ loadV H' Option.none (.ptr b 4) = some (.int .i64 t.y) /\ loadV H' Option.none (.ptr b 10) = some (.bool t.hid) := fun {H' L} g hm => ⟨g.load hm (o := 0) rfl,g.load hm (o := 1) rfl,g.load hm (o := 2) rfl,g.load hm (o := 3) rfl,g.load hm (o := 4) rfl,g.load hm (o := 10) rfl⟩
 obtain ⟨H1,s1,g1,k1⟩ := h.make Z 6
 obtain ⟨u,hu⟩ : ∃ u,H.next = u := ⟨_,rfl⟩
 rw [hu] at g1
 obtain ⟨a0,a1,_,_,_,_⟩ := lt g1 (List.mem_cons_of_mem _ mb)
 obtain ⟨H2,s2,g2,k2⟩ := g1.make [] 7
 obtain ⟨_,_,a2,_,_,_⟩ := lt g2 (by simp [mb])
 obtain ⟨H3,s3,g3,k3⟩ := g2.make Z 6
 obtain ⟨v,hv⟩ : ∃ v,H2.next = v := ⟨_,rfl⟩
 rw [hv] at g3
 have src := g3.src (b := cb) (o := 0) (k' := 7) (pre := []) (post := []) (ys := rowV t.rows.flatten) (by simp [mc]) rfl (k := 7) (m := N) (by rw [rowV_len]; omega) hN0 (c := N)
 have g3' : Hp base H3 (⟨H1.next,7,[] ++ []⟩ :: ⟨v,6,Z⟩ :: ⟨u,6,Z⟩ :: F) := g3.swap
 obtain ⟨H4,s4,g4,k4⟩ := g3'.appendK (o := 0) (n := 0) (m := N) (bytes := 28) rfl rfl (by omega) src hN0 (rowV_ones _) (by omega) (by omega)
 rw [Nat.zero_add] at s4
 obtain ⟨nc,hnc⟩ : ∃ nc,H3.next = nc := ⟨_,rfl⟩
 rw [hnc] at s4 g4
 have g4 : Hp base H4 (⟨v,6,Z⟩ :: ⟨nc,7,rowV t.rows.flatten⟩ :: ⟨u,6,Z⟩ :: F) := Hp.swap g4
 obtain ⟨b0,b1,_,_,_,_⟩ := lt g4 (by simp [mb])
 have bd : buildV Z [(0,1,.int .i64 t.w),(1,1,.int .i64 t.h),(2,1,.slc nc 0 N N)] = some (.agg (mat t.w t.h (.slc nc 0 N N) 0 0 false)) := by rw [<- hZ]; rfl
 obtain ⟨H5,s5,g5,k5,_⟩ := g4.storeN (n := 6) (new := mat t.w t.h (.slc nc 0 N N) 0 0 false) hZl rfl rfl
 obtain ⟨c0,_,_,c3,c4,c10⟩ := lt g5 (by simp [mb])
 have kk : Keep base H H5 := k1.trans (k2.trans (k3.trans (k4.trans k5)))
 simp only [A18,hZ,run_allocL,s1,hu,a0,a1,s2,a2,s3,hv,s4,SX,reduceCtorEq,Nat.reduceEqDiff,↓reduceIte]
 refine ⟨by simp only [echoOk,b0,b1,same_int,Bool.and_self,SX,Nat.reduceEqDiff,↓reduceIte],?_⟩
 have fin : ∀ {H6 : AHeap} {x y : Int} {s : Bool},Keep base H5 H6 -> Hp base H6 (⟨v,6,mat t.w t.h (.slc nc 0 N N) x y s⟩ :: ⟨nc,7,rowV t.rows.flatten⟩ :: ⟨u,6,Z⟩ :: F) -> ∃ H7,storeE H6 6 (.ptr u 0) (.agg (mat t.w t.h (.slc nc 0 N N) x y s)) = some (.undef,H7) /\ loadV H7 (some 6) (.ptr u 0) = some (.agg (mat t.w t.h (.slc nc 0 N N) x y s)) /\ Keep base H H7 /\ Hp base H7 (⟨nc,7,rowV t.rows.flatten⟩ :: F) := fun {H6} {x} {y} {s} k' g => by
  obtain ⟨H7,s7,g7,k7,_⟩ := (Hp.rot3 g).storeN (n := 6) (new := mat t.w t.h (.slc nc 0 N N) x y s) hZl rfl rfl
  exact ⟨H7,s7,g7.loadN (List.mem_cons_self ..) rfl,kk.trans (k'.trans k7),g7.drop.drop⟩
 cases hh : t.hid with
 | true =>
  rw [hh] at c10
  have l6 := g5.loadN (List.mem_cons_self ..) (n := 6) rfl
  obtain ⟨H6,s6,l7,k6,g6⟩ := fin (Keep.refl _ _) g5
  simp only [run_build,bd,s5,c10,l6,s6,l7,Bool.not_true,SX,reduceCtorEq,Nat.reduceEqDiff,↓reduceIte]
  exact ⟨k6,nc,rfl,g6⟩
 | false =>
  rw [hh] at c10
  have w2 : IntKind.wrap .i64 ((t.w : Int) - 1) = ((t.w - 1 : Nat) : Int) := by rw [wrapI64 (by omega) (by omega)]; omega
  have w3 : min (t.x : Int) ((t.w - 1 : Nat) : Int) = ((min t.x (t.w - 1) : Nat) : Int) := by omega
  obtain ⟨H6,s6,g6,k6,_⟩ := g5.store (o := 3) (v := .int .i64 ((min t.x (t.w - 1) : Nat) : Int)) rfl (by simp [mat])
  obtain ⟨_,_,_,_,d4,_⟩ := lt g6 (by simp [mb])
  obtain ⟨H7,s7,g7,k7,_⟩ := g6.store (o := 4) (v := .int .i64 (t.y : Int)) rfl (by simp [mat])
  obtain ⟨H8,s8,g8,k8,_⟩ := g7.store (o := 5) (v := .bool true) rfl (by simp [mat])
  have g8 : Hp base H8 (⟨v,6,mat t.w t.h (.slc nc 0 N N) ((min t.x (t.w - 1) : Nat) : Int) t.y true⟩ :: ⟨nc,7,rowV t.rows.flatten⟩ :: ⟨u,6,Z⟩ :: F) := g8
  have l6 := g8.loadN (List.mem_cons_self ..) (n := 6) rfl
  obtain ⟨H9,s9,l9,k9,g9⟩ := fin (k6.trans (k7.trans k8)) g8
  simp only [run_build,bd,s5,c10,c0,c3,w2,w3,s6,d4,s7,s8,l6,s9,l9,Bool.not_false,SX,reduceCtorEq,Nat.reduceEqDiff,↓reduceIte]
  exact ⟨k9,nc,rfl,g9⟩
end
structure Ac where
 d : Int
 w : Int
 h : Int
 s : List UInt8
def Ac.cs (a : Ac) : List AV := [.int .i64 a.d,.int .i64 a.w,.int .i64 a.h,.str a.s]
def RowA (H : AHeap) (v : AV) (l : List Ac) : Prop := (v = .nils /\ l = []) \/ ∃ b cap B,v = .slc b 0 l.length cap /\ H.get b = some (.row B) /\ B.live = true /\ B.cells = l.flatMap Ac.cs
theorem RowA.len {H : AHeap} {v : AV} {l : List Ac} (h : RowA H v l) (H2 : AHeap) : lngV H2 1 v = some (.int .i64 l.length) := by
 rcases h with ⟨rfl,rfl⟩ | ⟨b,cap,B,rfl,_⟩ <;> rfl
theorem RowA.act {H : AHeap} {v : AV} {l : List Ac} (h : RowA H v l) (hf : Fr H) {i : Nat} {a : Ac} (ha : l[i]? = some a) : ∃ b p,idxSV 4 v (.int .i64 (i : Int)) = some (.ptr b p) /\ ∀ H',Keep H.next H H' -> loadV H' Option.none (.ptr b p) = some (.int .i64 a.d) /\ loadV H' Option.none (.ptr b (p + 1)) = some (.int .i64 a.w) /\ loadV H' Option.none (.ptr b (p + 2)) = some (.int .i64 a.h) /\ loadV H' Option.none (.ptr b (p + 3)) = some (.str a.s) := by
 have hi := (List.getElem?_eq_some_iff.1 ha).1
 rcases h with ⟨_,rfl⟩ | ⟨b,cap,B,rfl,h1,h2,h3⟩
 ·simp at hi
 ·refine ⟨b,i * 4,?_,fun H' k => ?_⟩
  ·simp only [idxSV,ROp.run,Opd.ev,inIndex,if_pos (show 0 <= (i : Int) /\ (i : Int) < (l.length : Int) by omega),Int.toNat_natCast,Nat.zero_add]
  ·have hb : b < H.next := Nat.lt_of_not_le fun hh => by rw [hf b hh] at h1; cases h1
   have hr : H'.row b = some B := by
    have : H'.get b = some (.row B) := by rw [k b hb]; exact h1
    simp only [AHeap.row,this,h2,if_true]
   have ld : ∀ (j : Nat) (v : AV),a.cs[j]? = some v -> loadV H' Option.none (.ptr b (i * 4 + j)) = some v := fun j v hv => by
    simp only [loadV,ROp.run,Opd.ev,hr,h3]
    exact flat_at (k := 4) (fun _ => rfl) ha hv
   exact ⟨ld 0 _ rfl,ld 1 _ rfl,ld 2 _ rfl,ld 3 _ rfl⟩
def totM (l : List Ac) : Nat := (l.map fun a => min a.s.length 5001).sum
def tot (l : List Ac) : Nat := (l.map fun a => a.s.length).sum
theorem totM_le : ∀ l : List Ac,totM l <= 5001 * l.length
 | [] => by simp [totM]
 | a :: l => by
  have := totM_le l
  simp only [totM,List.map_cons,List.sum_cons,List.length_cons] at this ⊢
  omega
theorem tot_eq : ∀ l : List Ac,totM l <= 5000 -> tot l = totM l
 | [],_ => rfl
 | a :: l,h => by
  simp only [totM,tot,List.map_cons,List.sum_cons] at h ⊢
  have := tot_eq l (by simp only [totM]; omega)
  simp only [totM,tot] at this
  omega
theorem tot_take (l : List Ac) : ∀ i,tot (l.take i) <= tot l := by
 intro i
 have : tot l = tot (l.take i) + tot (l.drop i) := by
  simp only [tot]
  rw [<- List.sum_append,<- List.map_append,List.take_append_drop]
 omega
theorem tot_succ {l : List Ac} {i : Nat} {a : Ac} (h : l[i]? = some a) : tot (l.take (i + 1)) = tot (l.take i) + a.s.length := by
 rw [List.take_add_one,h]
 simp [tot]
theorem totM_succ {l : List Ac} {i : Nat} {a : Ac} (h : l[i]? = some a) : totM (l.take (i + 1)) = totM (l.take i) + min a.s.length 5001 := by
 rw [List.take_add_one,h]
 simp [totM]
section
variable {Q : Prog} (tq : TwQ Q) {H : AHeap}
include tq
set_option maxHeartbeats 16000000 in
theorem great_spec {v : AV} {l : List Ac} (hf : Fr H) (hv : RowA H v l) (w h : Int) : FnTo Q 11 [.int .i64 w,.int .i64 h,v] H (fun r H' => H' = H /\ (r = .bool true \/ (r = .bool false /\ l.length <= 40 /\ tot l <= 5000))) := by
 refine fn_wp (tq.at_.ho 11 rfl _) tq.q11 (by simp [A11]) ?_
 have ln := hv.len H
 simp only [A11,SX,↓reduceIte]
 obtain ⟨I,hI⟩ : ∃ I : Nat -> Env -> AHeap -> Prop,∀ m e H',I m e H' ↔ (H' = H /\ ∃ i : Nat,m = l.length - i /\ i <= l.length /\ i <= 41 /\ Env.get e 0 = .int .i64 w /\ Env.get e 1 = .int .i64 h /\ Env.get e 2 = v /\ Env.get e 7 = .int .i64 (totM (l.take i)) /\ Env.get e 8 = .int .i64 i) := ⟨_,fun _ _ _ => Iff.rfl⟩
 refine loop_by I l.length ?_ ?_
 ·exact (hI _ _ _).2 ⟨rfl,0,rfl,by omega,by omega,(by first | (simp only [SG,reduceCtorEq,↓reduceIte] <;> rfl) | rfl),(by first | (simp only [SG,Nat.reduceEqDiff,↓reduceIte] <;> rfl) | rfl),(by first | (simp only [SG,Nat.reduceEqDiff,↓reduceIte] <;> rfl) | rfl),(by first | (simp only [SG,Nat.reduceEqDiff,↓reduceIte] <;> rfl) | rfl),(by first | (simp only [SG,↓reduceIte] <;> rfl) | rfl)⟩
 ·intro m e H' hinv
  obtain ⟨hH,i,rfl,hi,h41,e0,e1,e2,e7,e8⟩ := (hI _ _ _).1 hinv
  rw [hH]
  by_cases d : (i : Int) < (l.length : Int) /\ (i : Int) <= 40
  ·have d1 := decide_eq_true d.1
   have d2 := decide_eq_true d.2
   obtain ⟨a,ha⟩ : ∃ a,l[i]? = some a := ⟨_,List.getElem?_eq_getElem (by omega)⟩
   obtain ⟨bb,p,ix,ld⟩ := hv.act hf ha
   obtain ⟨a0,a1,a2,a3⟩ := ld H (Keep.refl _ _)
   have hle := totM_le (l.take i)
   rw [List.length_take,Nat.min_eq_left hi] at hle
   have w3 : min (a.s.length : Int) 5001 = ((min a.s.length 5001 : Nat) : Int) := by omega
   have w4 : IntKind.wrap .i64 ((totM (l.take i) : Int) + ((min a.s.length 5001 : Nat) : Int)) = ((totM (l.take (i + 1)) : Nat) : Int) := by
    rw [totM_succ ha]; exact wrapNat (n := totM (l.take i) + min a.s.length 5001) (by omega)
   have w5 : IntKind.wrap .i64 ((i : Int) + 1) = ((i + 1 : Nat) : Int) := wrapNat (n := i + 1) (by omega)
   simp only [e2,e7,e8,ln,d1,d2,ix,a1,a2,a3,lngV_str,w3,w4,SX,Nat.reduceEqDiff,↓reduceIte]
   refine (may_spec tq a.w a.h).mono ?_
   rintro _ H' ⟨rfl,hH⟩
   rw [hH]
   cases hm : mayB a.w a.h with
   | false =>
    simp only [e8,w5,SX,Nat.reduceEqDiff,↓reduceIte]
    exact ⟨l.length - (i + 1),by omega,(hI _ _ _).2 ⟨rfl,i + 1,rfl,by omega,by omega,(by simp only [SG,reduceCtorEq,↓reduceIte,e0] <;> rfl),(by simp only [SG,Nat.reduceEqDiff,↓reduceIte,e1] <;> rfl),(by simp only [SG,Nat.reduceEqDiff,↓reduceIte,e2] <;> rfl),(by first | (simp only [SG,Nat.reduceEqDiff,↓reduceIte] <;> rfl) | rfl),(by first | (simp only [SG,↓reduceIte] <;> rfl) | rfl)⟩⟩
   | true =>
    obtain ⟨wn,hn,hw1,hh1,h1,h2⟩ := mayB_true hm
    rw [hw1] at a1
    rw [hh1] at a2
    have hp : wn * hn <= 160000 := by have := Nat.mul_le_mul h1.2 h2.2; omega
    have wm : IntKind.wrap .i64 ((wn : Int) * (hn : Int)) = (wn : Int) * (hn : Int) := by rw [<- Int.natCast_mul]; exact wrapNat (by omega)
    by_cases c : (3000 : Int) < (wn : Int) * (hn : Int)
    ·have dc := decide_eq_true c
     simp only [e2,e8,ix,a1,a2,wm,dc,SX,Nat.reduceEqDiff,↓reduceIte]
     exact .inl trivial
    ·have dc := decide_eq_false c
     simp only [e2,e8,ix,a1,a2,wm,dc,w5,SX,Nat.reduceEqDiff,↓reduceIte]
     exact ⟨l.length - (i + 1),by omega,(hI _ _ _).2 ⟨rfl,i + 1,rfl,by omega,by omega,(by simp only [SG,reduceCtorEq,↓reduceIte,e0] <;> rfl),(by simp only [SG,Nat.reduceEqDiff,↓reduceIte,e1] <;> rfl),(by simp only [SG,Nat.reduceEqDiff,↓reduceIte,e2] <;> rfl),(by first | (simp only [SG,Nat.reduceEqDiff,↓reduceIte] <;> rfl) | rfl),(by first | (simp only [SG,↓reduceIte] <;> rfl) | rfl)⟩⟩
  ·have tail : ∀ (e' : Env) (K : PostC),Env.get e' 0 = .int .i64 w -> Env.get e' 1 = .int .i64 h -> Env.get e' 2 = v -> Env.get e' 7 = .int .i64 (totM (l.take i)) -> True := fun _ _ _ _ _ _ => trivial
   have dd : (decide ((i : Int) < (l.length : Int)) = true /\ decide ((i : Int) <= 40) = false) \/ decide ((i : Int) < (l.length : Int)) = false := by
    by_cases c : (i : Int) < (l.length : Int)
    ·exact .inl ⟨decide_eq_true c,decide_eq_false fun hh => d ⟨c,hh⟩⟩
    ·exact .inr (decide_eq_false c)
   by_cases c40 : (40 : Int) < (l.length : Int)
   ·have d40 := decide_eq_true c40
    rcases dd with ⟨d1,d2⟩ | d1
    ·simp only [e2,e8,ln,d1,d2,d40,wantV_undef,SX,Nat.reduceEqDiff,↓reduceIte]
     exact .inl trivial
    ·simp only [e2,e8,ln,d1,d40,wantV_undef,SX,Nat.reduceEqDiff,↓reduceIte]
     exact .inl trivial
   have d40 := decide_eq_false c40
   have d1 : decide ((i : Int) < (l.length : Int)) = false := by
    rcases dd with ⟨d1,d2⟩ | d1
    ·have := of_decide_eq_false d2
     have := of_decide_eq_true d1
     omega
    ·exact d1
   have hil : i = l.length := by have := of_decide_eq_false d1; omega
   have et : l.take i = l := by rw [hil,List.take_length]
   rw [et] at e7
   by_cases c5 : (5000 : Int) < (totM l : Int)
   ·have d5 := decide_eq_true c5
    simp only [e2,e7,e8,ln,d1,d40,d5,wantV_undef,SX,Nat.reduceEqDiff,↓reduceIte]
    exact .inl trivial
   have d5 := decide_eq_false c5
   have htot : tot l <= 5000 := by rw [tot_eq l (by omega)]; omega
   simp only [e0,e1,e2,e7,e8,ln,d1,d40,d5,SX,reduceCtorEq,Nat.reduceEqDiff,↓reduceIte]
   refine (may_spec tq w h).mono ?_
   rintro _ H' ⟨rfl,hH⟩
   rw [hH]
   cases hm : mayB w h with
   | false =>
    simp only [SX,Nat.reduceEqDiff,↓reduceIte]
    exact .inr ⟨by omega,htot⟩
   | true =>
    obtain ⟨wn,hn,rfl,rfl,h1,h2⟩ := mayB_true hm
    have hp : wn * hn <= 160000 := by have := Nat.mul_le_mul h1.2 h2.2; omega
    have wm : IntKind.wrap .i64 ((wn : Int) * (hn : Int)) = (wn : Int) * (hn : Int) := by rw [<- Int.natCast_mul]; exact wrapNat (by omega)
    by_cases c : (3000 : Int) < (wn : Int) * (hn : Int)
    ·have dc := decide_eq_true c
     simp only [e0,e1,wm,dc,SX,reduceCtorEq,Nat.reduceEqDiff,↓reduceIte]
     exact .inl trivial
    ·have dc := decide_eq_false c
     simp only [e0,e1,wm,dc,SX,reduceCtorEq,Nat.reduceEqDiff,↓reduceIte]
     exact .inr ⟨by omega,htot⟩
end
end Go.Proofs.YtfbcgjpblomckaaDoor.AM.EvN.Rf
