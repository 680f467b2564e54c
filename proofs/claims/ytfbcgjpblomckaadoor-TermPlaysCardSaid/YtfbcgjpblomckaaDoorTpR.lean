import Derived.Test.YtfbcgjpblomckaaDoorTpP
set_option linter.unusedVariables false
set_option linter.unusedSimpArgs false
namespace Go.Proofs.YtfbcgjpblomckaaDoor.AM.EvN.Rf
open Go
def shapesI : List (List (Int × Int)) := [[(0,127)],[(194,223),(128,191)],[(224,224),(160,191),(128,191)],[(225,236),(128,191),(128,191)],[(237,237),(128,159),(128,191)],[(238,239),(128,191),(128,191)],[(240,240),(144,191),(128,191),(128,191)],[(241,243),(128,191),(128,191),(128,191)],[(244,244),(128,143),(128,191),(128,191)]]
def inSh : List UInt8 -> List (Int × Int) -> Prop
 | [],_ => True
 | _ :: _,[] => False
 | c :: s,p :: L => (p.1 <= (c.toNat : Int) /\ (c.toNat : Int) <= p.2) /\ inSh s L
instance inShDec : ∀ s L,Decidable (inSh s L)
 | [],_ => Decidable.isTrue trivial
 | _ :: _,[] => Decidable.isFalse (fun h => h)
 | c :: s,p :: L => match inShDec s L with
  | Decidable.isTrue h => if hc : (p.1 <= (c.toNat : Int) /\ (c.toNat : Int) <= p.2) then Decidable.isTrue ⟨hc,h⟩ else Decidable.isFalse (fun hh => hc hh.1)
  | Decidable.isFalse h => Decidable.isFalse (fun hh => h hh.2)
def begL (s : List UInt8) : List (List (Int × Int)) -> Int
 | [] => 0
 | L :: r => if inSh s L then (if s.length = L.length then 2 else 1) else begL s r
def begR (s : List UInt8) : Int := begL s shapesI
def maskN (n : Nat) (x : Int) : Int := if n = 2 then x % 32 else if n = 3 then x % 16 else if n = 4 then x % 8 else x
def numF (x : Int) (s : List UInt8) : Int := s.foldl (fun x c => 64 * x + (c.toNat : Int) % 64) x
def numR : List UInt8 -> Int
 | [] => 0
 | c :: s => numF (maskN (s.length + 1) c.toNat) s
def dec1 (s : List UInt8) : List Int × List UInt8 := if begR s = 0 then ([65533],[]) else if begR s = 1 then ([],s) else ([numR s],[])
def decR (kept : List UInt8) (b : UInt8) : List Int × List UInt8 :=
 if kept ≠ [] /\ begR (kept ++ [b]) = 0 then (65533 :: (dec1 [b]).1,(dec1 [b]).2) else dec1 (kept ++ [b])
def Dk (k : List UInt8) (d : DSt) : Prop :=
 (k = [] /\ d = DSt.zero) \/ ∃ L ∈ shapesI,∃ c t,k = c :: t /\ inSh k L /\ k.length < L.length /\ d.kept = k.length /\ d.left = (L.length : Int) - k.length /\ L[k.length]? = some (d.lo,d.hi) /\ d.x = numF (maskN L.length c.toNat) t
theorem Dk.nil {k : List UInt8} {d : DSt} (h : Dk k d) : k = [] ↔ d.kept = 0 := by
 rcases h with ⟨rfl,rfl⟩ | ⟨L,hL,c,t,rfl,_,_,hk,_⟩
 ·simp [DSt.zero]
 ·simp at hk ⊢; omega
theorem inSh_snoc : ∀ {s : List UInt8} {L : List (Int × Int)} {b : UInt8} {p : Int × Int},inSh s L -> L[s.length]? = some p -> (inSh (s ++ [b]) L ↔ (p.1 <= (b.toNat : Int) /\ (b.toNat : Int) <= p.2))
 | [],[],b,p,_,h => by simp at h
 | [],q :: L,b,p,_,h => by simp at h; subst h; simp [inSh]
 | c :: s,[],b,p,h,_ => h.elim
 | c :: s,q :: L,b,p,h,hp => by
  have := inSh_snoc (s := s) (L := L) (b := b) (p := p) h.2 (by simpa using hp)
  simp only [List.cons_append,inSh,this]
  exact ⟨fun h => h.2,fun h' => ⟨h.1,h'⟩⟩
theorem beg_one {c : UInt8} {s : List UInt8} {L : List (Int × Int)} (hL : L ∈ shapesI) {p : Int × Int} (hp : L.head? = some p) (hc : p.1 <= (c.toNat : Int) /\ (c.toNat : Int) <= p.2) : begR (c :: s) = if inSh (c :: s) L then (if (c :: s).length = L.length then 2 else 1) else 0 := by
 simp only [shapesI,List.mem_cons,List.not_mem_nil,or_false] at hL
 have no : ∀ (q : Int × Int) (M : List (Int × Int)) (r : List (List (Int × Int))),¬ (q.1 <= (c.toNat : Int) /\ (c.toNat : Int) <= q.2) -> begL (c :: s) ((q :: M) :: r) = begL (c :: s) r := by
  intro q M r h
  rw [begL]
  exact if_neg (fun hh : inSh (c :: s) (q :: M) => h (show (q.1 <= (c.toNat : Int) /\ (c.toNat : Int) <= q.2) /\ inSh s M from hh).1)
 unfold begR shapesI
 rcases hL with rfl | rfl | rfl | rfl | rfl | rfl | rfl | rfl | rfl <;> simp only [List.head?_cons,Option.some.injEq] at hp <;> subst hp <;> simp only at hc
 all_goals
  repeat rw [no _ _ _ (by simp only; omega)]
  rw [begL]
  repeat rw [no _ _ _ (by simp only; omega)]
  rfl
theorem beg_none {c : UInt8} {s : List UInt8} (h : ∀ L ∈ shapesI,∀ p,L.head? = some p -> ¬ (p.1 <= (c.toNat : Int) /\ (c.toNat : Int) <= p.2)) : begR (c :: s) = 0 := by
 have : ∀ (r : List (List (Int × Int))),(∀ L ∈ r,∃ p,L.head? = some p /\ ¬ (p.1 <= (c.toNat : Int) /\ (c.toNat : Int) <= p.2)) -> begL (c :: s) r = 0 := by
  intro r
  induction r with
  | nil => intro _; rfl
  | cons L r ih =>
   intro hr
   obtain ⟨p,h1,h2⟩ := hr L (List.mem_cons_self ..)
   cases L with
   | nil => simp at h1
   | cons q L =>
    simp at h1; subst h1
    have e : begL (c :: s) ((q :: L) :: r) = begL (c :: s) r := by
     rw [begL]
     exact if_neg (fun hh : inSh (c :: s) (q :: L) => h2 (show (q.1 <= (c.toNat : Int) /\ (c.toNat : Int) <= q.2) /\ inSh s L from hh).1)
    rw [e]
    exact ih fun L hL => hr L (List.mem_cons_of_mem _ hL)
 refine this _ fun L hL => ?_
 have h' := h L hL
 simp only [shapesI,List.mem_cons,List.not_mem_nil,or_false] at hL
 rcases hL with rfl | rfl | rfl | rfl | rfl | rfl | rfl | rfl | rfl <;> exact ⟨_,rfl,h' _ rfl⟩
theorem numF_snoc (x : Int) (s : List UInt8) (b : UInt8) : numF x (s ++ [b]) = numF x s * 64 + (b.toNat : Int) % 64 := by
 simp [numF,Int.mul_comm]
theorem dec_first (b : UInt8) : (dec1 [b]).1 = (DSt.zero.first b.toNat).1 /\ Dk (dec1 [b]).2 (DSt.zero.first b.toNat).2 := by
 have u0 := (u8_byte b).1
 have u1 := (u8_byte b).2
 obtain ⟨x,hx⟩ : ∃ x : Int,(b.toNat : Int) = x := ⟨_,rfl⟩
 have mid : ∀ (L : List (Int × Int)) (p q : Int × Int) (M : List (Int × Int)) (left lo hi : Int) (y : Int),L ∈ shapesI -> L = p :: q :: M -> p.1 <= x -> x <= p.2 -> begD x = (left,lo,hi,y) -> 0 < left -> left = (M.length : Int) + 1 -> q = (lo,hi) -> y = maskN L.length x -> (dec1 [b]).1 = (DSt.zero.first b.toNat).1 /\ Dk (dec1 [b]).2 (DSt.zero.first b.toNat).2 := by
  intro L p q M left lo hi y hL e h1 h2 hb hl hm hq hy
  subst e
  have hbeg := beg_one (s := []) (c := b) hL rfl (by rw [hx]; exact ⟨h1,h2⟩)
  have hin : inSh [b] (p :: q :: M) := by simp only [inSh,hx]; exact ⟨⟨h1,h2⟩,trivial⟩
  rw [if_pos hin,if_neg (by simp)] at hbeg
  have hd : dec1 [b] = ([],[b]) := by unfold dec1; rw [hbeg]; rfl
  have hf : DSt.zero.first b.toNat = ([],⟨1,left,lo,hi,y⟩) := by
   unfold DSt.first
   rw [hx,hb]
   simp only
   rw [if_neg (by omega),if_neg (by omega)]
  rw [hd,hf]
  refine ⟨rfl,.inr ⟨_,hL,b,[],rfl,hin,by simp,rfl,?_,?_,?_⟩⟩
  ·simp only [List.length_cons,List.length_nil]; omega
  ·simp [hq]
  ·simp only [numF,List.foldl_nil,hx]; exact hy
 by_cases c1 : x < 128
 ·have hbeg := beg_one (s := []) (c := b) (L := [(0,127)]) (by simp [shapesI]) rfl (by rw [hx]; simp only; omega)
  rw [if_pos (by simp only [inSh,hx]; exact ⟨by omega,trivial⟩),if_pos (by simp)] at hbeg
  have hd : dec1 [b] = ([x],[]) := by unfold dec1; rw [hbeg]; simp [numR,numF,maskN,hx]
  have hf : DSt.zero.first b.toNat = ([x],DSt.zero) := by
   unfold DSt.first begD
   rw [hx,if_pos c1]; rfl
  rw [hd,hf]
  exact ⟨rfl,.inl ⟨rfl,rfl⟩⟩
 by_cases c2 : x < 194 \/ 244 < x
 ·have hbeg : begR [b] = 0 := beg_none fun L hL p hp => by
   rw [hx]
   simp only [shapesI,List.mem_cons,List.not_mem_nil,or_false] at hL
   rcases hL with rfl | rfl | rfl | rfl | rfl | rfl | rfl | rfl | rfl <;> simp at hp <;> subst hp <;> simp only <;> omega
  have hd : dec1 [b] = ([65533],[]) := by unfold dec1; rw [hbeg]; rfl
  have hf : DSt.zero.first b.toNat = ([65533],DSt.zero) := by
   unfold DSt.first begD
   rw [hx,if_neg c1,if_pos c2]; rfl
  rw [hd,hf]
  exact ⟨rfl,.inl ⟨rfl,rfl⟩⟩
 have hbd : begD x = if x < 224 then (1,128,191,x % 32) else if x = 224 then (2,160,191,0) else if x = 237 then (2,128,159,x % 16) else if x < 240 then (2,128,191,x % 16) else if x = 240 then (3,144,191,0) else if x = 244 then (3,128,143,x % 8) else (3,128,191,x % 8) := by
  unfold begD; rw [if_neg c1,if_neg c2]
 by_cases c3 : x < 224
 ·exact mid [(194,223),(128,191)] (194,223) (128,191) [] 1 128 191 (x % 32) (by simp [shapesI]) rfl (by simp only; omega) (by simp only; omega) (by rw [hbd,if_pos c3]) (by omega) (by simp) rfl rfl
 by_cases c4 : x = 224
 ·exact mid [(224,224),(160,191),(128,191)] (224,224) (160,191) [(128,191)] 2 160 191 0 (by simp [shapesI]) rfl (by simp only; omega) (by simp only; omega) (by rw [hbd,if_neg c3,if_pos c4]) (by omega) (by simp) rfl (by rw [c4]; rfl)
 by_cases c5 : x = 237
 ·exact mid [(237,237),(128,159),(128,191)] (237,237) (128,159) [(128,191)] 2 128 159 (x % 16) (by simp [shapesI]) rfl (by simp only; omega) (by simp only; omega) (by rw [hbd,if_neg c3,if_neg c4,if_pos c5]) (by omega) (by simp) rfl rfl
 by_cases c6 : x < 240
 ·by_cases c61 : x < 237
  ·exact mid [(225,236),(128,191),(128,191)] (225,236) (128,191) [(128,191)] 2 128 191 (x % 16) (by simp [shapesI]) rfl (by simp only; omega) (by simp only; omega) (by rw [hbd,if_neg c3,if_neg c4,if_neg c5,if_pos c6]) (by omega) (by simp) rfl rfl
  ·exact mid [(238,239),(128,191),(128,191)] (238,239) (128,191) [(128,191)] 2 128 191 (x % 16) (by simp [shapesI]) rfl (by simp only; omega) (by simp only; omega) (by rw [hbd,if_neg c3,if_neg c4,if_neg c5,if_pos c6]) (by omega) (by simp) rfl rfl
 by_cases c7 : x = 240
 ·exact mid [(240,240),(144,191),(128,191),(128,191)] (240,240) (144,191) [(128,191),(128,191)] 3 144 191 0 (by simp [shapesI]) rfl (by simp only; omega) (by simp only; omega) (by rw [hbd,if_neg c3,if_neg c4,if_neg c5,if_neg c6,if_pos c7]) (by omega) (by simp) rfl (by rw [c7]; rfl)
 by_cases c8 : x = 244
 ·exact mid [(244,244),(128,143),(128,191),(128,191)] (244,244) (128,143) [(128,191),(128,191)] 3 128 143 (x % 8) (by simp [shapesI]) rfl (by simp only; omega) (by simp only; omega) (by rw [hbd,if_neg c3,if_neg c4,if_neg c5,if_neg c6,if_neg c7,if_pos c8]) (by omega) (by simp) rfl rfl
 ·exact mid [(241,243),(128,191),(128,191),(128,191)] (241,243) (128,191) [(128,191),(128,191)] 3 128 191 (x % 8) (by simp [shapesI]) rfl (by simp only; omega) (by simp only; omega) (by rw [hbd,if_neg c3,if_neg c4,if_neg c5,if_neg c6,if_neg c7,if_neg c8]) (by omega) (by simp) rfl rfl
theorem shape_facts {L : List (Int × Int)} (hL : L ∈ shapesI) : L.length <= 4 /\ ∃ p M,L = p :: M /\ ∀ (i : Nat) q,2 <= i -> L[i]? = some q -> q = (128,191) := by
 simp only [shapesI,List.mem_cons,List.not_mem_nil,or_false] at hL
 rcases hL with rfl | rfl | rfl | rfl | rfl | rfl | rfl | rfl | rfl <;> refine ⟨by simp,_,_,rfl,fun i q hi hq => ?_⟩
 all_goals
  obtain ⟨j,rfl⟩ : ∃ j,i = j + 2 := ⟨i - 2,by omega⟩
  rcases j with _ | _ | j <;> simp at hq <;> exact hq.symm
theorem dec_step {k : List UInt8} {d : DSt} (h : Dk k d) (b : UInt8) : (decR k b).1 = (d.byte b.toNat).1 /\ Dk (decR k b).2 (d.byte b.toNat).2 := by
 rcases h with ⟨rfl,rfl⟩ | ⟨L,hL,c,t,rfl,hin,hlen,hk,hl,hb,hx⟩
 ·have hd : decR [] b = dec1 [b] := by unfold decR; rw [if_neg (by simp)]; rfl
  have hf : DSt.zero.byte b.toNat = DSt.zero.first b.toNat := by
   unfold DSt.byte
   rw [if_neg (by simp [DSt.zero]),if_neg (by simp [DSt.zero])]
  rw [hd,hf]
  exact dec_first b
 ·obtain ⟨h4,p,M,e,hM⟩ := shape_facts hL
  have hlead : p.1 <= (c.toNat : Int) /\ (c.toNat : Int) <= p.2 := by rw [e] at hin; exact hin.1
  have hbeg := beg_one (s := t ++ [b]) hL (p := p) (by rw [e]; rfl) hlead
  have hsn := inSh_snoc (b := b) hin hb
  simp only [List.cons_append] at hsn
  by_cases hr : d.lo <= (b.toNat : Int) /\ (b.toNat : Int) <= d.hi
  ·rw [if_pos (hsn.2 hr)] at hbeg
   have hd : decR (c :: t) b = dec1 (c :: (t ++ [b])) := by
    unfold decR
    rw [if_neg (fun hh => ?_)]
    ·rfl
    ·have := hh.2
     simp only [List.cons_append] at this
     rw [hbeg] at this
     split at this <;> simp at this
   have hpos : 0 < d.kept := by rw [hk,List.length_cons]; omega
   by_cases hfull : (c :: (t ++ [b])).length = L.length
   ·rw [if_pos hfull] at hbeg
    have hd2 : dec1 (c :: (t ++ [b])) = ([d.x * 64 + (b.toNat : Int) % 64],[]) := by
     unfold dec1
     rw [hbeg]
     simp only [numR,List.length_append,List.length_cons,List.length_nil,numF_snoc,hx]
     simp only [List.length_append,List.length_cons,List.length_nil] at hfull
     rw [show t.length + (0 + 1) + 1 = L.length by omega]
     rfl
    have hleft : d.left = 1 := by rw [hl,<- hfull]; simp; omega
    have hf : d.byte b.toNat = ([d.x * 64 + (b.toNat : Int) % 64],DSt.zero) := by
     unfold DSt.byte
     rw [if_pos ⟨hpos,hr⟩,if_pos hleft]
    rw [hd,hd2,hf]
    exact ⟨rfl,.inl ⟨rfl,rfl⟩⟩
   ·rw [if_neg hfull] at hbeg
    have hd2 : dec1 (c :: (t ++ [b])) = ([],c :: (t ++ [b])) := by unfold dec1; rw [hbeg]; rfl
    have hlt : (c :: (t ++ [b])).length < L.length := by simp at hfull hlen ⊢; omega
    have hleft : ¬ d.left = 1 := by rw [hl]; simp at hlt ⊢; omega
    have hf : d.byte b.toNat = ([],⟨d.kept + 1,d.left - 1,128,191,d.x * 64 + (b.toNat : Int) % 64⟩) := by
     unfold DSt.byte
     rw [if_pos ⟨hpos,hr⟩,if_neg hleft]
    rw [hd,hd2,hf]
    refine ⟨rfl,.inr ⟨L,hL,c,t ++ [b],rfl,hsn.2 hr,hlt,?_,?_,?_,?_⟩⟩
    ·simp only [hk,List.length_cons,List.length_append,List.length_nil]; omega
    ·simp only [hl,List.length_cons,List.length_append,List.length_nil]; omega
    ·have hq := List.getElem?_eq_getElem hlt
     rw [hM _ _ (by simp) hq] at hq
     exact hq
    ·rw [numF_snoc,hx]
  ·rw [if_neg (fun hh => hr (hsn.1 hh))] at hbeg
   have hd : decR (c :: t) b = (65533 :: (dec1 [b]).1,(dec1 [b]).2) := by
    unfold decR
    rw [if_pos ⟨by simp,by simpa using hbeg⟩]
   have hpos : 0 < d.kept := by rw [hk,List.length_cons]; omega
   have hf : d.byte b.toNat = (65533 :: (DSt.zero.first b.toNat).1,(DSt.zero.first b.toNat).2) := by
    unfold DSt.byte
    rw [if_neg (fun hh => hr hh.2),if_pos hpos]
   rw [hd,hf]
   have h12 := dec_first b
   generalize dec1 [b] = A at h12 ⊢
   generalize DSt.zero.first b.toNat = B at h12 ⊢
   exact ⟨by simp only [h12.1],h12.2⟩
def rowsN : List (Nat × Nat × Nat × Nat × Nat) := [(0,0,23,2,0),(0,25,25,2,0),(0,28,31,2,0),(0,32,126,1,0),(0,127,127,0,0),(0,128,255,1,0),(1,0,23,2,1),(1,25,25,2,1),(1,28,31,2,1),(1,32,47,3,2),(1,48,79,5,0),(1,80,80,0,7),(1,81,87,5,0),(1,88,88,0,13),(1,89,90,5,0),(1,91,91,0,3),(1,92,92,5,0),(1,93,93,0,12),(1,94,95,0,13),(1,96,126,5,0),(1,127,255,0,1),(2,0,23,2,2),(2,25,25,2,2),(2,28,31,2,2),(2,32,47,3,2),(2,48,126,5,0),(2,127,255,0,2),(3,0,23,2,3),(3,25,25,2,3),(3,28,31,2,3),(3,32,47,3,5),(3,48,59,4,4),(3,60,63,3,4),(3,64,126,6,0),(3,127,255,0,3),(4,0,23,2,4),(4,25,25,2,4),(4,28,31,2,4),(4,32,47,3,5),(4,48,59,4,4),(4,60,63,0,6),(4,64,126,6,0),(4,127,255,0,4),(5,0,23,2,5),(5,25,25,2,5),(5,28,31,2,5),(5,32,47,3,5),(5,48,63,0,6),(5,64,126,6,0),(5,127,255,0,5),(6,0,23,2,6),(6,25,25,2,6),(6,28,31,2,6),(6,32,63,0,6),(6,64,126,0,0),(6,127,255,0,6),(7,0,23,0,7),(7,25,25,0,7),(7,28,31,0,7),(7,32,47,3,9),(7,48,59,4,8),(7,60,63,3,8),(7,64,126,7,10),(7,127,255,0,7),(8,0,23,0,8),(8,25,25,0,8),(8,28,31,0,8),(8,32,47,3,9),(8,48,59,4,8),(8,60,63,0,11),(8,64,126,7,10),(8,127,255,0,8),(9,0,23,0,9),(9,25,25,0,9),(9,28,31,0,9),(9,32,47,3,9),(9,48,63,0,11),(9,64,126,7,10),(9,127,255,0,9),(10,0,23,8,10),(10,25,25,8,10),(10,28,126,8,10),(10,127,127,0,10),(10,128,255,8,10),(11,0,23,0,11),(11,25,25,0,11),(11,28,255,0,11),(12,0,6,0,12),(12,7,7,0,0),(12,8,23,0,12),(12,25,25,0,12),(12,28,31,0,12),(12,32,255,8,12),(13,0,23,0,13),(13,25,25,0,13),(13,28,255,0,13)]
def findR : List (Nat × Nat × Nat × Nat × Nat) -> Nat -> Nat -> Nat × Nat
 | [],_,_ => (0,0)
 | r :: l,st,x => bif Nat.beq r.1 st && (Nat.ble r.2.1 x && Nat.ble x r.2.2.1) then (r.2.2.2.1,r.2.2.2.2) else findR l st x
def nxR (st c : Nat) : Int × Int := if c = 24 \/ c = 26 then (2,0) else if c = 27 then (0,1) else (((findR rowsN st c).1 : Int),((findR rowsN st c).2 : Int))
set_option maxRecDepth 100000 in
theorem nxR_all : ∀ st : Fin 14,∀ c : Fin 256,nxR st.val c.val = nx (st.val : Int) (c.val : Int) := by decide +kernel
theorem nxR_eq {st : Nat} (h : st <= 13) (c : UInt8) : nxR st c.toNat = nx (st : Int) (c.toNat : Int) := nxR_all ⟨st,by omega⟩ ⟨c.toNat,c.toNat_lt⟩
structure RSt where
 st : Int
 kept : List UInt8
 list : List UInt8
 mids : List UInt8
 fin : Int
 text : List UInt8
 told : List PEv
def RSt.new : RSt := ⟨0,[],[],[],0,[],[]⟩
def RSt.tell (s : RSt) (e : PEv) : RSt := { s with told := s.told ++ [e] }
def RSt.prints (s : RSt) (xs : List Int) : RSt := { s with told := s.told ++ xs.map fun r => ⟨1,r,0,[],[],[]⟩ }
def RSt.endS (s : RSt) : RSt := if s.kept = [] then s else { s with kept := [],told := s.told ++ [⟨1,65533,0,[],[],[]⟩] }
def RSt.stopS (s : RSt) (c : UInt8) : RSt :=
 if c = 24 \/ c = 26 then s else if s.st = 12 then (if s.text.length <= 1024 then s.tell ⟨5,0,0,[],[],s.text⟩ else s)
 else if s.text.length <= 256 /\ s.mids.length <= 2 then s.tell ⟨6,0,s.fin,s.mids,refAll s.list,s.text⟩ else s
def RSt.clrS (s : RSt) : RSt := { s with list := [],mids := [],text := [] }
def RSt.doesS (s : RSt) (a : Int) (c : UInt8) : RSt :=
 if a = 1 then ({ s with kept := (decR s.kept c).2 } : RSt).prints (decR s.kept c).1
 else if a = 2 then s.tell ⟨2,0,c.toNat,[],[],[]⟩ else if a = 3 then { s with mids := s.mids ++ [c] } else if a = 4 then { s with list := s.list ++ [c] }
 else if a = 5 then (if s.mids.length <= 2 /\ (c ≠ 92 \/ s.mids ≠ []) then s.tell ⟨3,0,c.toNat,s.mids,[],[]⟩ else s)
 else if a = 6 then (if s.mids.length <= 2 then s.tell ⟨4,0,c.toNat,s.mids,refAll s.list,[]⟩ else s)
 else if a = 7 then { s with fin := c.toNat } else if a = 8 then { s with text := s.text ++ [c] } else s
def RSt.step1 (s : RSt) (c : UInt8) : RSt := if (nx s.st c.toNat).1 ≠ 1 then s.endS else s
def RSt.step2 (s : RSt) (n : Int) (c : UInt8) : RSt := if n ≠ s.st /\ (s.st = 10 \/ s.st = 12) then s.stopS c else s
def RSt.step3 (s : RSt) (n : Int) : RSt := if n ≠ s.st /\ (n = 1 \/ n = 3 \/ n = 7 \/ n = 12) then s.clrS else s
def RSt.step (s : RSt) (c : UInt8) : RSt :=
 { (((s.step1 c).step2 (nx s.st c.toNat).2 c).step3 (nx s.st c.toNat).2).doesS (nx s.st c.toNat).1 c with st := (nx s.st c.toNat).2 }
def RSt.feed (s : RSt) (t : List UInt8) : RSt := t.foldl RSt.step s
def TxR (m : Nat) (lg : Bool) (t T : List UInt8) : Prop := (lg = false /\ t = T /\ T.length <= m) \/ (lg = true /\ m < T.length)
structure Sm0 (s : PSt) (S : RSt) : Prop where
 st : s.st = S.st
 d : Dk S.kept s.d
 ps : s.ps = PS.none.feed S.list
 mids : (s.many = false /\ s.mids = S.mids /\ S.mids.length <= 2) \/ (s.many = true /\ 2 < S.mids.length)
 fin : s.fin = S.fin
 told : s.told = S.told
structure SmT (st : Int) (s : PSt) (S : RSt) : Prop where
 t12 : st = 12 -> TxR 1024 s.long s.text S.text
 t10 : st = 10 -> TxR 256 s.long s.text S.text
 t7 : st = 7 \/ st = 8 \/ st = 9 -> s.long = false /\ s.text = [] /\ S.text = []
theorem pall {s : PSt} {S : RSt} (h : Sm0 s S) : refAll S.list = s.ps.L := by rw [ref_eq,h.ps]
theorem Sm0.tell {s : PSt} {S : RSt} (h : Sm0 s S) (e : PEv) : Sm0 (s.tell e) (S.tell e) := ⟨h.st,h.d,h.ps,h.mids,h.fin,by simp only [PSt.tell,RSt.tell,h.told]⟩
theorem Sm0.endS {s : PSt} {S : RSt} (h : Sm0 s S) : Sm0 s.endS S.endS := by
 unfold PSt.endS RSt.endS
 by_cases hk : S.kept = []
 ·rw [if_pos (h.d.nil.1 hk),if_pos hk]; exact h
 ·rw [if_neg (fun hh => hk (h.d.nil.2 hh)),if_neg hk]
  exact ⟨h.st,.inl ⟨rfl,rfl⟩,h.ps,h.mids,h.fin,by simp only [h.told]⟩
theorem Sm0.stopS {s : PSt} {S : RSt} (h : Sm0 s S) (t : SmT s.st s S) (hs : s.st = 10 \/ s.st = 12) (c : UInt8) : Sm0 (s.stopS c) (S.stopS c) := by
 unfold PSt.stopS RSt.stopS
 by_cases h1 : c = 24 \/ c = 26
 ·rw [if_pos (by rcases h1 with h1 | h1 <;> simp [h1]),if_pos h1]; exact h
 have h1' : (c = 24 \/ c = 26 \/ s.long = true) ↔ s.long = true := ⟨fun hh => hh.elim (fun x => absurd (.inl x) h1) (fun hh => hh.elim (fun x => absurd (.inr x) h1) id),fun hh => .inr (.inr hh)⟩
 rw [if_neg h1]
 by_cases h2 : s.st = 12
 ·have h2' : S.st = 12 := by rw [<- h.st]; exact h2
  rcases t.t12 h2 with ⟨q1,q2,q3⟩ | ⟨q1,q2⟩
  ·rw [if_neg (by rw [h1',q1]; simp),if_pos h2,if_pos h2',if_pos q3,q2]; exact h.tell _
  ·rw [if_pos (h1'.2 q1),if_pos h2',if_neg (by omega)]; exact h
 ·have h10 : s.st = 10 := hs.resolve_right h2
  have h2' : ¬ S.st = 12 := by rw [<- h.st]; exact h2
  rcases t.t10 h10 with ⟨q1,q2,q3⟩ | ⟨q1,q2⟩
  ·rw [if_neg (by rw [h1',q1]; simp),if_neg h2,if_neg h2']
   rcases h.mids with ⟨m1,m2,m3⟩ | ⟨m1,m2⟩
   ·rw [if_neg (by simp [m1]),if_pos ⟨q3,m3⟩,pall h,q2,m2,h.fin]; exact h.tell _
   ·rw [if_pos m1,if_neg (by omega)]; exact h
  ·rw [if_pos (h1'.2 q1),if_neg h2',if_neg (by omega)]; exact h
theorem Sm0.clrS {s : PSt} {S : RSt} (h : Sm0 s S) : Sm0 s.clrS S.clrS := ⟨h.st,h.d,rfl,.inl ⟨rfl,rfl,by simp [RSt.clrS]⟩,h.fin,h.told⟩
theorem psfeed_snoc (s : PS) (t : List UInt8) (c : UInt8) : s.feed (t ++ [c]) = (s.feed t).byte (c.toNat : Int) := by simp [PS.feed]
theorem putS_or' (s : PSt) (c : UInt8) : s.putS c = { s with long := true } \/ s.putS c = { s with text := s.text ++ [c] } := by
 unfold PSt.putS
 by_cases hh : s.long = true \/ s.text.length = (if s.st = 12 then 1024 else 256)
 ·exact .inl (if_pos hh)
 ·exact .inr (if_neg hh)
theorem Sm0.doesS {s : PSt} {S : RSt} (h : Sm0 s S) (a : Int) (c : UInt8) : Sm0 (s.doesS a c) (S.doesS a c) := by
 unfold PSt.doesS RSt.doesS
 by_cases h1 : a = 1
 ·rw [if_pos h1,if_pos h1]
  obtain ⟨d1,d2⟩ := dec_step h.d c
  refine ⟨h.st,d2,h.ps,h.mids,h.fin,?_⟩
  simp only [PSt.prints,RSt.prints,d1,h.told]
 rw [if_neg h1,if_neg h1]
 by_cases h2 : a = 2
 ·rw [if_pos h2,if_pos h2]; exact h.tell _
 rw [if_neg h2,if_neg h2]
 by_cases h3 : a = 3
 ·rw [if_pos h3,if_pos h3]
  unfold PSt.midS
  rcases h.mids with ⟨m1,m2,m3⟩ | ⟨m1,m2⟩
  ·by_cases m4 : s.mids.length = 2
   ·rw [if_pos (.inr m4)]
    exact ⟨h.st,h.d,h.ps,.inr ⟨rfl,by rw [m2] at m4; simp; omega⟩,h.fin,h.told⟩
   ·rw [if_neg (by simp [m1,m4])]
    exact ⟨h.st,h.d,h.ps,.inl ⟨rfl,by simp only [m2],by rw [m2] at m4; simp; omega⟩,h.fin,h.told⟩
  ·rw [if_pos (.inl m1)]
   exact ⟨h.st,h.d,h.ps,.inr ⟨rfl,by simp; omega⟩,h.fin,h.told⟩
 rw [if_neg h3,if_neg h3]
 by_cases h4 : a = 4
 ·rw [if_pos h4,if_pos h4]
  exact ⟨h.st,h.d,by simp only [h.ps,psfeed_snoc],h.mids,h.fin,h.told⟩
 rw [if_neg h4,if_neg h4]
 by_cases h5 : a = 5
 ·rw [if_pos h5,if_pos h5]
  unfold PSt.overS
  rcases h.mids with ⟨m1,m2,m3⟩ | ⟨m1,m2⟩
  ·by_cases m4 : c = 92 /\ s.mids = []
   ·rw [if_pos (.inr ⟨rfl,m4⟩),if_neg (by rw [m2] at m4; simp [m4])]; exact h
   ·rw [if_neg (by simp [m1]; exact fun x y => m4 ⟨x,y⟩),if_pos rfl,if_pos ⟨m3,by rw [m2] at m4; exact Classical.byCases (fun hc : c = 92 => .inr fun hh => m4 ⟨hc,hh⟩) .inl⟩,m2]; exact h.tell _
  ·rw [if_pos (.inl m1),if_neg (by omega)]; exact h
 rw [if_neg h5,if_neg h5]
 by_cases h6 : a = 6
 ·rw [if_pos h6,if_pos h6]
  unfold PSt.overS
  rcases h.mids with ⟨m1,m2,m3⟩ | ⟨m1,m2⟩
  ·rw [if_neg (by simp [m1]),if_neg (by omega),if_pos m3,pall h,m2]; exact h.tell _
  ·rw [if_pos (.inl m1),if_neg (by omega)]; exact h
 rw [if_neg h6,if_neg h6]
 by_cases h7 : a = 7
 ·rw [if_pos h7,if_pos h7]; exact ⟨h.st,h.d,h.ps,h.mids,rfl,h.told⟩
 rw [if_neg h7,if_neg h7]
 by_cases h8 : a = 8
 ·rw [if_pos h8,if_pos h8]
  rcases putS_or' s c with e | e <;> rw [e] <;> exact ⟨h.st,h.d,h.ps,h.mids,h.fin,h.told⟩
 ·rw [if_neg h8,if_neg h8]; exact h
theorem step1_eq (s : PSt) (c : UInt8) : (s.step1 c).st = s.st /\ (s.step1 c).long = s.long /\ (s.step1 c).text = s.text := by
 unfold PSt.step1 PSt.endS
 (repeat' split) <;> exact ⟨rfl,rfl,rfl⟩
theorem step1R_eq (s : RSt) (c : UInt8) : (s.step1 c).st = s.st /\ (s.step1 c).text = s.text := by
 unfold RSt.step1 RSt.endS
 (repeat' split) <;> exact ⟨rfl,rfl⟩
theorem step2_eq (s : PSt) (n : Int) (c : UInt8) : (s.step2 n c).st = s.st /\ (s.step2 n c).long = s.long /\ (s.step2 n c).text = s.text := by
 unfold PSt.step2 PSt.stopS
 (repeat' split) <;> exact ⟨rfl,rfl,rfl⟩
theorem step2R_eq (s : RSt) (n : Int) (c : UInt8) : (s.step2 n c).st = s.st /\ (s.step2 n c).text = s.text := by
 unfold RSt.step2 RSt.stopS
 (repeat' split) <;> exact ⟨rfl,rfl⟩
theorem doesS_tx (s : PSt) {a : Int} (c : UInt8) (h : a ≠ 8) : (s.doesS a c).text = s.text /\ (s.doesS a c).long = s.long := by
 unfold PSt.doesS PSt.overS PSt.midS
 (repeat' split) <;> first | exact ⟨rfl,rfl⟩ | (exfalso; omega)
theorem doesR_tx (s : RSt) {a : Int} (c : UInt8) (h : a ≠ 8) : (s.doesS a c).text = s.text := by
 unfold RSt.doesS
 (repeat' split) <;> first | rfl | (exfalso; omega)
structure Sm (s : PSt) (S : RSt) : Prop where
 g : s.Good
 o : Sm0 s S
 t : SmT s.st s S
theorem Sm.step {s : PSt} {S : RSt} (h : Sm s S) (c : UInt8) : Sm (s.step c) (S.step c) := by
 have F := nxF c.toNat h.g.st
 obtain ⟨a,ha⟩ : ∃ a,(nx s.st c.toNat).1 = a := ⟨_,rfl⟩
 obtain ⟨n,hn⟩ : ∃ n,(nx s.st c.toNat).2 = n := ⟨_,rfl⟩
 have hst := h.o.st
 have o1 : Sm0 (s.step1 c) (S.step1 c) := by
  unfold PSt.step1 RSt.step1
  rw [<- hst]
  by_cases hh : (nx s.st c.toNat).1 ≠ 1
  ·rw [if_pos hh,if_pos hh]; exact h.o.endS
  ·rw [if_neg hh,if_neg hh]; exact h.o
 obtain ⟨p1,p2,p3⟩ := step1_eq s c
 obtain ⟨r1,r2⟩ := step1R_eq S c
 have t1 : SmT s.st (s.step1 c) (S.step1 c) := ⟨fun hh => by rw [p2,p3,r2]; exact h.t.t12 hh,fun hh => by rw [p2,p3,r2]; exact h.t.t10 hh,fun hh => by rw [p2,p3,r2]; exact h.t.t7 hh⟩
 have o2 : Sm0 ((s.step1 c).step2 n c) ((S.step1 c).step2 n c) := by
  unfold PSt.step2 RSt.step2
  rw [p1,r1,<- hst]
  by_cases hh : n ≠ s.st /\ (s.st = 10 \/ s.st = 12)
  ·rw [if_pos hh,if_pos hh]; exact o1.stopS (by rw [p1]; exact t1) (by rw [p1]; exact hh.2) c
  ·rw [if_neg hh,if_neg hh]; exact o1
 obtain ⟨u1,u2,u3⟩ := step2_eq (s.step1 c) n c
 obtain ⟨v1,v2⟩ := step2R_eq (S.step1 c) n c
 have t2 : SmT s.st ((s.step1 c).step2 n c) ((S.step1 c).step2 n c) := ⟨fun hh => by rw [u2,u3,v2]; exact t1.t12 hh,fun hh => by rw [u2,u3,v2]; exact t1.t10 hh,fun hh => by rw [u2,u3,v2]; exact t1.t7 hh⟩
 have es : s.step c = { (((s.step1 c).step2 n c).step3 n).doesS a c with st := n } := by unfold PSt.step; rw [hn,ha]
 have eS : S.step c = { (((S.step1 c).step2 n c).step3 n).doesS a c with st := n } := by unfold RSt.step; rw [<- hst,hn,ha]
 have gd := (Good.step h.g c).1
 have x1 : ((s.step1 c).step2 n c).st = s.st := by rw [u1,p1]
 have y1 : ((S.step1 c).step2 n c).st = s.st := by rw [v1,r1,<- hst]
 generalize (s.step1 c).step2 n c = Z at *
 generalize (S.step1 c).step2 n c = Y at *
 have o3 : Sm0 (Z.step3 n) (Y.step3 n) := by
  unfold PSt.step3 RSt.step3
  rw [x1,y1]
  by_cases hh : n ≠ s.st /\ (n = 1 \/ n = 3 \/ n = 7 \/ n = 12)
  ·rw [if_pos hh,if_pos hh]; exact o2.clrS
  ·rw [if_neg hh,if_neg hh]; exact o2
 rw [ha,hn] at F
 refine ⟨gd,?_,?_⟩
 ·have o4 := o3.doesS a c
  rw [es,eS]
  exact ⟨rfl,o4.d,o4.ps,o4.mids,o4.fin,o4.told⟩
 ·have hsn : (s.step c).st = n := by rw [es]
  rw [hsn]
  have tx : (s.step c).text = ((Z.step3 n).doesS a c).text /\ (s.step c).long = ((Z.step3 n).doesS a c).long := by rw [es]; exact ⟨rfl,rfl⟩
  have tX : (S.step c).text = ((Y.step3 n).doesS a c).text := by rw [eS]
  by_cases h8 : a = 8
  ·obtain ⟨q1,q2⟩ := F.put h8
   have z3 : Z.step3 n = Z := by unfold PSt.step3; rw [if_neg (by rw [x1,q1]; simp)]
   have y3 : Y.step3 n = Y := by unfold RSt.step3; rw [if_neg (by rw [y1,q1]; simp)]
   rw [z3,h8] at tx
   rw [y3,h8] at tX
   have e8 : Z.doesS 8 c = Z.putS c := by unfold PSt.doesS; simp only [Int.reduceEq,if_false,if_true]
   have E8 : (Y.doesS 8 c).text = Y.text ++ [c] := by unfold RSt.doesS; simp only [Int.reduceEq,if_false,if_true]
   rw [e8] at tx
   rw [E8] at tX
   have key : ∀ m,(if s.st = 12 then 1024 else 256) = m -> TxR m Z.long Z.text Y.text -> TxR m (s.step c).long (s.step c).text (S.step c).text := by
    intro m hm ht
    rw [tx.1,tx.2,tX]
    unfold PSt.putS
    rw [x1,hm]
    rcases ht with ⟨k1,k2,k3⟩ | ⟨k1,k2⟩
    ·by_cases hl : Z.text.length = m
     ·rw [if_pos (.inr hl)]
      exact .inr ⟨rfl,by rw [k2] at hl; simp; omega⟩
     ·rw [if_neg (by simp [k1,hl])]
      exact .inl ⟨k1,by simp only [k2],by rw [k2] at hl; simp; omega⟩
    ·rw [if_pos (.inl k1)]
     exact .inr ⟨rfl,by simp; omega⟩
   refine ⟨fun hh => ?_,fun hh => ?_,fun hh => by omega⟩
   ·have h12 : s.st = 12 := by omega
    exact key 1024 (if_pos h12) (t2.t12 h12)
   ·have h10 : s.st = 10 := by omega
    exact key 256 (if_neg (by omega)) (t2.t10 h10)
  ·obtain ⟨d1,d2⟩ := doesS_tx (Z.step3 n) c h8
   have d3 := doesR_tx (Y.step3 n) c h8
   rw [d1,d2] at tx
   rw [d3] at tX
   by_cases hc : n ≠ s.st /\ (n = 1 \/ n = 3 \/ n = 7 \/ n = 12)
   ·have z3 : Z.step3 n = Z.clrS := by unfold PSt.step3; rw [if_pos (by rw [x1]; exact hc)]
    have y3 : Y.step3 n = Y.clrS := by unfold RSt.step3; rw [if_pos (by rw [y1]; exact hc)]
    rw [z3] at tx
    rw [y3] at tX
    refine ⟨fun _ => ?_,fun _ => ?_,fun _ => ?_⟩ <;> rw [tx.1,tx.2,tX]
    ·exact .inl ⟨rfl,rfl,by simp [RSt.clrS]⟩
    ·exact .inl ⟨rfl,rfl,by simp [RSt.clrS]⟩
    ·exact ⟨rfl,rfl,rfl⟩
   ·have z3 : Z.step3 n = Z := by unfold PSt.step3; rw [if_neg (by rw [x1]; exact hc)]
    have y3 : Y.step3 n = Y := by unfold RSt.step3; rw [if_neg (by rw [y1]; exact hc)]
    rw [z3] at tx
    rw [y3] at tX
    refine ⟨fun hh => ?_,fun hh => ?_,fun hh => ?_⟩ <;> rw [tx.1,tx.2,tX]
    ·exact t2.t12 (by omega)
    ·rcases F.ten hh with k | k
     ·exact t2.t10 k
     ·obtain ⟨k1,k2,k3⟩ := t2.t7 k.1
      exact .inl ⟨k1,by rw [k2,k3],by rw [k3]; simp⟩
    ·have := F.mid
     exact t2.t7 (by omega)
theorem sm_new : Sm PSt.new RSt.new := ⟨new_good,⟨rfl,.inl ⟨rfl,rfl⟩,rfl,.inl ⟨rfl,rfl,by simp [RSt.new]⟩,rfl,rfl⟩,⟨fun hh => .inl ⟨rfl,rfl,by simp [RSt.new]⟩,fun hh => .inl ⟨rfl,rfl,by simp [RSt.new]⟩,fun hh => ⟨rfl,rfl,rfl⟩⟩⟩
theorem Sm.feed : ∀ {t : List UInt8} {s : PSt} {S : RSt},Sm s S -> Sm (s.feed t) (S.feed t)
 | [],s,S,h => h
 | c :: t,s,S,h => Sm.feed (t := t) (h.step c)
structure RSt.Small (S : RSt) (n : Nat) : Prop where
 list : S.list.length <= n
 mids : S.mids.length <= n
 text : S.text.length <= n
theorem small_step {S : RSt} {n : Nat} (h : S.Small n) (c : UInt8) : (S.step c).Small (n + 1) := by
 have h1 : (S.step1 c).Small n := by
  unfold RSt.step1 RSt.endS
  (repeat' split) <;> exact ⟨h.list,h.mids,h.text⟩
 have h2 : ∀ m,((S.step1 c).step2 m c).Small n := by
  intro m
  unfold RSt.step2 RSt.stopS
  (repeat' split) <;> exact ⟨h1.list,h1.mids,h1.text⟩
 have h3 : ∀ m,(((S.step1 c).step2 m c).step3 m).Small n := by
  intro m
  unfold RSt.step3
  split
  ·exact ⟨by simp [RSt.clrS],by simp [RSt.clrS],by simp [RSt.clrS]⟩
  ·exact h2 m
 unfold RSt.step
 have h3' := h3 (nx S.st c.toNat).2
 generalize ((S.step1 c).step2 (nx S.st c.toNat).2 c).step3 (nx S.st c.toNat).2 = Z at h3' ⊢
 have h4 : (Z.doesS (nx S.st c.toNat).1 c).Small (n + 1) := by
  have q1 := h3'.list; have q2 := h3'.mids; have q3 := h3'.text
  unfold RSt.doesS
  (repeat' split) <;> (refine ⟨?_,?_,?_⟩ <;> first | omega | (simp only [RSt.prints,RSt.tell,List.length_append,List.length_cons,List.length_nil]; omega))
 exact ⟨h4.list,h4.mids,h4.text⟩
end Go.Proofs.YtfbcgjpblomckaaDoor.AM.EvN.Rf
