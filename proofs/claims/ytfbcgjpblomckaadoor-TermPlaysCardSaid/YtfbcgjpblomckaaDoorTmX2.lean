import Derived.Test.YtfbcgjpblomckaaDoorTmX1
import Derived.Test.YtfbcgjpblomckaaDoorEvT
set_option linter.unusedVariables false
set_option linter.unusedSimpArgs false
namespace Go.Proofs.YtfbcgjpblomckaaDoor.AM.EvN
open Go
def oneP (L : List (List Int)) (i : Nat) (no : Int) : Int := match L[i]? with | some (a :: _) => if a = 0 then no else a | _ => no
theorem oneP_in {L : List (List Int)} {i : Nat} (h : ∀ l ∈ L,∀ x ∈ l,0 <= x /\ x <= 9999) : 1 <= oneP L i 1 /\ oneP L i 1 <= 9999 := by
 unfold oneP
 split
 ·rename_i a t hh
  have := h (a :: t) (List.mem_of_getElem? hh) a (List.mem_cons_self ..)
  split <;> omega
 ·omega
structure Tm where
 w : Nat
 h : Nat
 rows : List (List Ce)
 x : Nat
 y : Nat
 a : At
 hid : Bool
def blanksT (w h : Nat) : List (List Ce) := List.replicate h (List.replicate w (blankC At.zero))
def Tm.new (w h : Nat) : Tm := ⟨w,h,blanksT w h,0,0,At.zero,false⟩
def ofN (r : Int) : Nat := (ofP r).toNat
theorem ofN_in (r : Int) : (ofN r = 0 /\ ofP r = 0) \/ (ofN r = 1 /\ ofP r = 1) \/ (ofN r = 2 /\ ofP r = 2) := by
 unfold ofN
 rcases ofF_in 26 r 0 26 with h | h | h <;> simp [ofP,h]
def Tm.prints (t : Tm) (r : Int) : Tm :=
 if ofN r = 0 \/ t.w < t.x + ofN r then t
 else { t with rows := t.rows.set t.y (writeP (t.rows.getD t.y []) t.x r (decide (ofN r = 2)) t.a),x := t.x + ofN r }
def Tm.csi (t : Tm) (m : List UInt8) (f : Int) (L : List (List Int)) : Tm :=
 if m ++ [UInt8.ofNat f.toNat] = [72] then { t with y := (min (oneP L 0 1) t.h - 1).toNat,x := (min (oneP L 1 1) t.w - 1).toNat }
 else if m ++ [UInt8.ofNat f.toNat] = [109] then { t with a := applyP t.a L }
 else if m ++ [UInt8.ofNat f.toNat] = [74] then (if oneP L 0 0 = 2 then { t with rows := blanksT t.w t.h } else t)
 else if m ++ [UInt8.ofNat f.toNat] = [63,104] \/ m ++ [UInt8.ofNat f.toNat] = [63,108] then (if L = [[25]] then { t with hid := decide (f = 108) } else t)
 else t
def Tm.does (t : Tm) (e : PEv) : Tm :=
 if e.k = 1 then t.prints e.r
 else if e.k = 4 then t.csi e.m e.f e.L
 else if e.k = 2 /\ e.f = 13 then { t with x := 0 }
 else if e.k = 2 /\ e.f = 10 then { t with y := min (t.y + 1) (t.h - 1) }
 else t
structure Tm.Ok (t : Tm) : Prop where
 w : 1 <= t.w /\ t.w <= 400
 h : 1 <= t.h /\ t.h <= 400
 n : t.rows.length = t.h
 r : ∀ l ∈ t.rows,l.length = t.w /\ WholeL l
 x : t.x <= t.w
 y : t.y < t.h
theorem blanksT_ok (w h : Nat) : (blanksT w h).length = h /\ ∀ l ∈ blanksT w h,l.length = w /\ WholeL l := by
 refine ⟨by simp [blanksT],fun l hl => ?_⟩
 obtain rfl := List.eq_of_mem_replicate hl
 exact ⟨by simp,whole_blank _ _⟩
theorem new_okT {w h : Nat} (hw : 1 <= w /\ w <= 400) (hh : 1 <= h /\ h <= 400) : (Tm.new w h).Ok :=
 ⟨hw,hh,(blanksT_ok w h).1,(blanksT_ok w h).2,Nat.zero_le _,hh.1⟩
theorem prints_same (t : Tm) (r : Int) : (t.prints r).w = t.w /\ (t.prints r).h = t.h /\ (t.prints r).y = t.y /\ (t.prints r).a = t.a /\ (t.prints r).hid = t.hid := by
 unfold Tm.prints
 split <;> exact ⟨rfl,rfl,rfl,rfl,rfl⟩
theorem prints_ok {t : Tm} (k : t.Ok) (r : Int) : (t.prints r).Ok := by
 unfold Tm.prints
 split
 ·exact k
 ·rename_i c
  obtain ⟨l,hl⟩ : ∃ l,t.rows[t.y]? = some l := ⟨_,List.getElem?_eq_getElem (by rw [k.n]; exact k.y)⟩
  have hg : t.rows.getD t.y [] = l := by rw [List.getD_eq_getElem?_getD,hl]; rfl
  obtain ⟨k1,k2⟩ := k.r l (List.mem_of_getElem? hl)
  rw [hg]
  have hn : ofN r = 1 \/ ofN r = 2 := by rcases ofN_in r with h | h | h <;> omega
  refine ⟨k.w,k.h,by simp [k.n],fun m hm => ?_,by show t.x + ofN r <= t.w; omega,k.y⟩
  rcases List.mem_or_eq_of_mem_set hm with hm | rfl
  ·exact k.r m hm
  ·refine ⟨by rw [write_len,k1],write_whole k2 _ _ _ _ ?_⟩
   rw [k1]
   rcases hn with h | h
   ·rw [h]; simp; omega
   ·rw [h]; simp; omega
theorem csi_ok {t : Tm} (k : t.Ok) (m : List UInt8) (f : Int) {L : List (List Int)} (h : ∀ l ∈ L,∀ x ∈ l,0 <= x /\ x <= 9999) : (t.csi m f L).Ok := by
 have o0 := oneP_in (i := 0) h
 have o1 := oneP_in (i := 1) h
 have := k.w
 have := k.h
 unfold Tm.csi
 split
 ·exact ⟨k.w,k.h,k.n,k.r,by show (min (oneP L 1 1) (t.w : Int) - 1).toNat <= t.w; omega,by show (min (oneP L 0 1) (t.h : Int) - 1).toNat < t.h; omega⟩
 split
 ·exact ⟨k.w,k.h,k.n,k.r,k.x,k.y⟩
 split
 ·split
  ·exact ⟨k.w,k.h,(blanksT_ok _ _).1,(blanksT_ok _ _).2,k.x,k.y⟩
  ·exact k
 split
 ·split
  ·exact ⟨k.w,k.h,k.n,k.r,k.x,k.y⟩
  ·exact k
 ·exact k
structure EvG (e : PEv) : Prop where
 n : e.L.length <= 16
 len : ∀ l ∈ e.L,l.length <= 8
 el : ∀ l ∈ e.L,∀ x ∈ l,0 <= x /\ x <= 9999
 f : 0 <= e.f /\ e.f <= 255
 m : e.m.length <= 2
theorem does_ok {t : Tm} (k : t.Ok) {e : PEv} (h : EvG e) : (t.does e).Ok := by
 have := k.w
 have := k.h
 unfold Tm.does
 split
 ·exact prints_ok k _
 split
 ·exact csi_ok k _ _ h.el
 split
 ·exact ⟨k.w,k.h,k.n,k.r,Nat.zero_le _,k.y⟩
 split
 ·exact ⟨k.w,k.h,k.n,k.r,k.x,by show min (t.y + 1) (t.h - 1) < t.h; omega⟩
 ·exact k
theorem csi_wh (t : Tm) (m : List UInt8) (f : Int) (L : List (List Int)) : (t.csi m f L).w = t.w /\ (t.csi m f L).h = t.h := by
 unfold Tm.csi
 (repeat' split) <;> exact ⟨rfl,rfl⟩
theorem does_wh (t : Tm) (e : PEv) : (t.does e).w = t.w /\ (t.does e).h = t.h := by
 unfold Tm.does
 split
 ·exact ⟨(prints_same t e.r).1,(prints_same t e.r).2.1⟩
 split
 ·exact csi_wh ..
 (repeat' split) <;> exact ⟨rfl,rfl⟩
def Tm.run (t : Tm) (E : List PEv) : Tm := E.foldl Tm.does t
theorem run_app (t : Tm) (E F : List PEv) : t.run (E ++ F) = (t.run E).run F := by simp [Tm.run]
theorem run_ok : ∀ {E : List PEv} {t : Tm},t.Ok -> (∀ e ∈ E,EvG e) -> (t.run E).Ok
 | [],t,k,_ => k
 | e :: E,t,k,h => run_ok (E := E) (does_ok k (h e (List.mem_cons_self ..))) fun x hx => h x (List.mem_cons_of_mem _ hx)
theorem run_wh : ∀ (E : List PEv) (t : Tm),(t.run E).w = t.w /\ (t.run E).h = t.h
 | [],t => ⟨rfl,rfl⟩
 | e :: E,t => by
  obtain ⟨h1,h2⟩ := run_wh E (t.does e)
  obtain ⟨g1,g2⟩ := does_wh t e
  exact ⟨h1.trans g1,h2.trans g2⟩
def TG (s : PSt) : Prop := ∀ e ∈ s.told,EvG e
theorem TG.tell {s : PSt} (h : TG s) {e : PEv} (he : EvG e) : TG (s.tell e) := fun x hx => by
 simp only [PSt.tell,List.mem_append,List.mem_singleton] at hx
 rcases hx with hx | rfl
 ·exact h x hx
 ·exact he
structure PG (s : PSt) : Prop where
 g : s.Good
 t : TG s
 f : 0 <= s.fin /\ s.fin <= 255
theorem evG0 (k r f : Int) {m : List UInt8} (t : List UInt8) (hf : 0 <= f /\ f <= 255) (hm : m.length <= 2) : EvG ⟨k,r,f,m,[],t⟩ :=
 ⟨Nat.zero_le _,fun l hl => by simp at hl,fun l hl => by simp at hl,hf,hm⟩
theorem evGL (k r f : Int) {m : List UInt8} (t : List UInt8) {ps : PS} (hp : ps.Good) (hf : 0 <= f /\ f <= 255) (hm : m.length <= 2) : EvG ⟨k,r,f,m,ps.L,t⟩ :=
 ⟨hp.len,fun l hl => (hp.el l hl).2.1,fun l hl => (hp.el l hl).2.2,hf,hm⟩
theorem PG.endS {s : PSt} (h : PG s) : PG s.endS := by
 refine ⟨(Good.endS h.g).1,?_,?_⟩
 ·unfold PSt.endS
  split
  ·exact h.t
  ·exact TG.tell (s := s) h.t (evG0 _ _ _ _ (by omega) (by simp))
 ·unfold PSt.endS; split <;> exact h.f
theorem PG.stopS {s : PSt} (h : PG s) (c : UInt8) : PG (s.stopS c) := by
 refine ⟨(Good.stopS h.g c).1,?_,?_⟩
 ·unfold PSt.stopS
  split
  ·exact h.t
  split
  ·exact TG.tell h.t (evG0 _ _ _ _ (by omega) (by simp))
  split
  ·exact h.t
  ·exact TG.tell h.t (evGL _ _ _ _ h.g.ps h.f h.g.mids)
 ·unfold PSt.stopS; (repeat' split) <;> exact h.f
theorem PG.clrS {s : PSt} (h : PG s) : PG s.clrS := ⟨(Good.clrS h.g).1,h.t,h.f⟩
theorem PG.overS {s : PSt} (h : PG s) (a : Int) (c : UInt8) : PG (s.overS a c) := by
 have hc := u8_byte c
 refine ⟨(Good.overS h.g a c).1,?_,?_⟩
 ·unfold PSt.overS
  split
  ·exact h.t
  split
  ·exact TG.tell h.t (evG0 _ _ _ _ hc h.g.mids)
  ·exact TG.tell h.t (evGL _ _ _ _ h.g.ps hc h.g.mids)
 ·unfold PSt.overS; (repeat' split) <;> exact h.f
theorem PG.prints {s : PSt} {xs : List Int} (hg : (s.prints xs).Good) (h : TG s) (hf : 0 <= s.fin /\ s.fin <= 255) : PG (s.prints xs) := ⟨hg,fun x hx => by
 simp only [PSt.prints,List.mem_append,List.mem_map] at hx
 rcases hx with hx | ⟨r,_,rfl⟩
 ·exact h x hx
 ·exact evG0 _ _ _ _ (by omega) (by simp),hf⟩
theorem PG.doesS {s : PSt} (h : PG s) (a : Int) (c : UInt8) : PG (s.doesS a c) := by
 have gd := (Good.doesS h.g a c).1
 have hc := u8_byte c
 revert gd
 unfold PSt.doesS
 split
 ·intro gd; exact PG.prints gd h.t h.f
 split
 ·intro gd; exact ⟨gd,TG.tell h.t (evG0 _ _ _ _ hc (by simp)),h.f⟩
 split
 ·intro gd; refine ⟨gd,?_,?_⟩
  ·unfold PSt.midS; split <;> exact h.t
  ·unfold PSt.midS; split <;> exact h.f
 split
 ·intro gd; exact ⟨gd,h.t,h.f⟩
 split
 ·intro _; exact h.overS 5 c
 split
 ·intro _; exact h.overS 6 c
 split
 ·intro gd; exact ⟨gd,h.t,hc⟩
 split
 ·intro gd; refine ⟨gd,?_,?_⟩
  ·unfold PSt.putS
   by_cases q : s.long = true \/ s.text.length = (if s.st = 12 then 1024 else 256)
   ·rw [if_pos q]; exact h.t
   ·rw [if_neg q]; exact h.t
  ·unfold PSt.putS
   by_cases q : s.long = true \/ s.text.length = (if s.st = 12 then 1024 else 256)
   ·rw [if_pos q]; exact h.f
   ·rw [if_neg q]; exact h.f
 ·intro _; exact h
theorem PG.step {s : PSt} (h : PG s) (c : UInt8) : PG (s.step c) := by
 have gd := (Good.step h.g c).1
 have p1 : PG (s.step1 c) := by
  unfold PSt.step1; split
  ·exact h.endS
  ·exact h
 have p2 : PG ((s.step1 c).step2 (nx s.st c.toNat).2 c) := by
  unfold PSt.step2; split
  ·exact p1.stopS c
  ·exact p1
 have p3 : PG (((s.step1 c).step2 (nx s.st c.toNat).2 c).step3 (nx s.st c.toNat).2) := by
  unfold PSt.step3; split
  ·exact p2.clrS
  ·exact p2
 have p4 := p3.doesS (nx s.st c.toNat).1 c
 exact ⟨gd,p4.t,p4.f⟩
theorem PG.feed : ∀ {t : List UInt8} {s : PSt},PG s -> PG (s.feed t)
 | [],s,h => h
 | c :: t,s,h => PG.feed (t := t) (h.step c)
theorem PG.new : PG PSt.new := ⟨new_good,fun e he => by simp [PSt.new] at he,by simp [PSt.new]⟩
def PSt.clr0 (s : PSt) : PSt := { s with told := [] }
theorem PG.clr0 {s : PSt} (h : PG s) : PG s.clr0 := ⟨⟨h.g.d,h.g.ps,h.g.st,h.g.mids⟩,fun e he => by simp [PSt.clr0] at he,h.f⟩
structure TP where
 t : Tm
 p : PSt
def TP.feed (a : TP) (b : List UInt8) : TP := ⟨a.t.run (a.p.feed b).told,(a.p.feed b).clr0⟩
structure TP.Ok (a : TP) : Prop where
 t : a.t.Ok
 p : PG a.p
 e : a.p.told = []
theorem TP.Ok.feed {a : TP} (h : a.Ok) (b : List UInt8) : (a.feed b).Ok :=
 ⟨run_ok h.t (PG.feed h.p).t,(PG.feed h.p).clr0,rfl⟩
theorem pre_clr0 (s : PSt) : s = s.clr0.pre s.told := by simp [PSt.pre,PSt.clr0]
theorem TP.feed_app {a : TP} (b c : List UInt8) : a.feed (b ++ c) = (a.feed b).feed c := by
 unfold TP.feed
 rw [show a.p.feed (b ++ c) = (a.p.feed b).feed c from EvN.feed_app _ _ _]
 generalize hs : a.p.feed b = s
 have e : s.feed c = (s.clr0.feed c).pre s.told := by
  conv => lhs; rw [pre_clr0 s]
  exact pre_feed _ _ _
 simp only
 rw [e]
 show TP.mk (a.t.run (s.told ++ (s.clr0.feed c).told)) _ = _
 rw [run_app]
 rfl
def TP.new (w h : Nat) : TP := ⟨Tm.new w h,PSt.new⟩
theorem TP.new_ok {w h : Nat} (hw : 1 <= w /\ w <= 400) (hh : 1 <= h /\ h <= 400) : (TP.new w h).Ok := ⟨new_okT hw hh,PG.new,rfl⟩
theorem ix7 {b n i : Nat} (h : i < n) (k : IntKind) : idxSV 7 (.slc b 0 n n) (.int k (i : Int)) = some (.ptr b (i * 7)) := by
 simp only [idxSV,ROp.run,Opd.ev,inIndex,if_pos (show 0 <= (i : Int) /\ (i : Int) < (n : Int) by omega),Int.toNat_natCast,Nat.zero_add]
theorem rowV_set {l : List Ce} {i : Nat} {c d : Ce} (h : l[i]? = some c) : rowV (l.set i d) = rowV (l.take i) ++ (d.cs ++ rowV (l.drop (i + 1))) := by
 have hi := (List.getElem?_eq_some_iff.1 h).1
 rw [rowV_split (l := l.set i d) (i := i) (c := d) (by rw [List.getElem?_set,if_pos rfl,if_pos hi])]
 congr 2
 ·rw [List.take_set_of_le (Nat.le_refl _)]
 ·rw [List.drop_set_of_lt (by omega)]
section
variable {base : Nat} {H : AHeap} {L : List Cel} {b : Nat} {l : List Ce}
theorem rowV_at {i : Nat} (hi : i < l.length) : (rowV (l.take i)).length = i * 7 := by rw [rowV_len,List.length_take,Nat.min_eq_left (by omega)]; omega
theorem _root_.Go.Proofs.YtfbcgjpblomckaaDoor.AM.Hp.setC (h : Hp base H (⟨b,7,rowV l⟩ :: L)) {i : Nat} {c : Ce} (hc : l[i]? = some c) (d : Ce) : ∃ H',storeE H 7 (.ptr b (i * 7)) (.agg d.cs) = some (.undef,H') /\ Hp base H' (⟨b,7,rowV (l.set i d)⟩ :: L) /\ Keep base H H' /\ H'.next = H.next := by
 have hi := (List.getElem?_eq_some_iff.1 hc).1
 have := h.storeO (a := rowV (l.take i)) (x := c.cs) (c := rowV (l.drop (i + 1))) (o := i * 7) (rowV_split hc) (rowV_at hi) (n := 7) (new := d.cs) rfl rfl rfl
 rw [rowV_set (d := d) hc]
 exact this
theorem _root_.Go.Proofs.YtfbcgjpblomckaaDoor.AM.Hp.loadC (h : Hp base H L) (hx : (⟨b,7,rowV l⟩ : Cel) ∈ L) {i : Nat} {c : Ce} (hc : l[i]? = some c) :
  loadV H (some 7) (.ptr b (i * 7)) = some (.agg c.cs) /\ loadV H none (.ptr b (i * 7)) = some (.int .i32 c.r) /\ loadV H none (.ptr b (i * 7 + 1)) = some (.int .u8 c.w) /\ loadV H (some 5) (.ptr b (i * 7 + 2)) = some c.a.val := by
 have hi := (List.getElem?_eq_some_iff.1 hc).1
 have e := rowV_split hc
 have hl := rowV_at hi
 have at_ : ∀ (j : Nat) v,c.cs[j]? = some v -> (rowV l)[i * 7 + j]? = some v := fun j v hj => by
  have := (List.getElem?_eq_some_iff.1 hj).1
  rw [e,List.getElem?_append_right (by omega),hl,Nat.add_sub_cancel_left,List.getElem?_append_left this,hj]
 refine ⟨h.loadO (a := rowV (l.take i)) (x := c.cs) (c := rowV (l.drop (i + 1))) (k := 7) (by rw [<- e]; exact hx) hl rfl,h.load hx (at_ 0 _ rfl),h.load hx (at_ 1 _ rfl),?_⟩
 exact h.loadO (a := rowV (l.take i) ++ [.int .i32 c.r,.int .u8 c.w]) (x := c.a.cs) (c := rowV (l.drop (i + 1))) (k := 7) (by
  have e2 : rowV (l.take i) ++ [.int .i32 c.r,.int .u8 c.w] ++ (c.a.cs ++ rowV (l.drop (i + 1))) = rowV l := by rw [e]; simp [Ce.cs]
  rw [e2]; exact hx) (by rw [List.length_append,hl]; rfl) rfl
theorem _root_.Go.Proofs.YtfbcgjpblomckaaDoor.AM.Hp.setW (h : Hp base H (⟨b,7,rowV l⟩ :: L)) {i : Nat} {c : Ce} (hc : l[i]? = some c) (w : Int) : ∃ H',storeE H 1 (.ptr b (i * 7 + 1)) (.int .u8 w) = some (.undef,H') /\ Hp base H' (⟨b,7,rowV (l.set i { c with w := w })⟩ :: L) /\ Keep base H H' /\ H'.next = H.next := by
 have hi := (List.getElem?_eq_some_iff.1 hc).1
 have e := rowV_split hc
 have hl := rowV_at hi
 have hlen : (rowV l).length = 7 * l.length := rowV_len l
 obtain ⟨H',s1,g1,k1,n1⟩ := h.store (o := i * 7 + 1) (v := .int .u8 w) rfl (by rw [hlen]; omega)
 refine ⟨H',s1,?_,k1,n1⟩
 have : (rowV l).set (i * 7 + 1) (.int .u8 w) = rowV (l.set i { c with w := w }) := by
  rw [rowV_set hc,e,List.set_append_right _ _ (by omega),hl,Nat.add_sub_cancel_left]
  rfl
 rw [<- this]
 exact g1
theorem _root_.Go.Proofs.YtfbcgjpblomckaaDoor.AM.Hp.of_gr {H' : AHeap} (h : Hp base H L) (g : Gr H H') : Hp base H' L := h.keep g.keep g.next g.fr
end
theorem bldC (r : Int) (a : At) : buildV [.int .i32 0,.int .u8 0,.int .u16 0,.int .u8 0,.int .u32 0,.int .u8 0,.int .u32 0] [(0,1,.int .i32 r),(2,5,a.val)] = some (.agg (Ce.cs ⟨r,0,a⟩)) := rfl
theorem bldC2 (r : Int) (a : At) : buildV [.int .i32 0,.int .u8 0,.int .u16 0,.int .u8 0,.int .u32 0,.int .u8 0,.int .u32 0] [(0,1,.int .i32 r),(1,1,.int .u8 2),(2,5,a.val)] = some (.agg (Ce.cs ⟨r,2,a⟩)) := rfl
structure TwQ (Q : Prog) : Prop where
 rw_ : RwQ Q
 at_ : AtQ Q
 ev : EvQ Q
 q7 : Q.fns 7 = some A7
 q8 : Q.fns 8 = some A8
 q9 : Q.fns 9 = some A9
 q11 : Q.fns 11 = some A11
 q12 : Q.fns 12 = some A12
 q15 : Q.fns 15 = some A15
 q17 : Q.fns 17 = some A17
 q19 : Q.fns 19 = some A19
 q21 : Q.fns 21 = some A21
 q24 : Q.fns 24 = some A24
 q28 : Q.fns 28 = some A28
 q37 : Q.fns 37 = some A37
 q38 : Q.fns 38 = some A38
 q65 : Q.fns 65 = some A65
 q66 : Q.fns 66 = some A66
 q67 : Q.fns 67 = some A67
 q80 : Q.fns 80 = some A80
 q81 : Q.fns 81 = some A81
 q82 : Q.fns 82 = some A82
section
variable {Q : Prog} (tq : TwQ Q) {H : AHeap}
include tq
set_option maxHeartbeats 2000000 in
theorem is_spec {b n x : Nat} (hx : x < n) : FnTo Q 80 [.slc b 0 n n,.int .i64 x] H (fun r H' => r = .bool true /\ H' = H) := by
 refine fn_wp (tq.at_.ho 80 rfl _) tq.q80 (by simp [A80]) ?_
 have d1 : decide ((0 : Int) <= (x : Int)) = true := decide_eq_true (by omega)
 have d2 : decide ((x : Int) < (n : Int)) = true := decide_eq_true (by omega)
 simp only [A80,d1,d2,SX,reduceCtorEq,Nat.reduceEqDiff,↓reduceIte]
set_option maxHeartbeats 2000000 in
theorem cloneC_spec {base : Nat} {L : List Cel} (h : Hp base H L) {b n : Nat} {l : List Ce} (hx : (⟨b,7,rowV l⟩ : Cel) ∈ L) (hl : l.length = n) (h0 : 0 < n) (h1 : n <= 1000000) : FnTo Q 81 [.slc b 0 n n] H (fun r H' => Keep base H H' /\ ∃ c,r = .slc c 0 n n /\ Hp base H' (⟨c,7,rowV l⟩ :: L)) := by
 refine fn_wp (tq.at_.ho 81 rfl _) tq.q81 (by simp [A81]) ?_
 obtain ⟨H1,s1,g1,k1⟩ := h.make [] 7
 have src := g1.src (b := b) (o := 0) (k' := 7) (pre := []) (post := []) (ys := rowV l) (by simp [hx]) rfl (k := 7) (m := n) (by rw [rowV_len]; omega) h0 (c := n)
 have g1' : Hp base H1 (⟨H.next,7,[] ++ []⟩ :: L) := g1
 obtain ⟨H2,s2,g2,k2⟩ := g1'.appendK (o := 0) (n := 0) (m := n) (bytes := 28) rfl rfl (by omega) src h0 (rowV_ones l) (by omega) (by omega)
 rw [Nat.zero_add] at s2
 simp only [A81,nileq_slc,s1,s2,SX,reduceCtorEq,Nat.reduceEqDiff,↓reduceIte]
 exact ⟨k1.trans k2,H1.next,rfl,g2⟩
set_option maxHeartbeats 4000000 in
theorem parts_spec {base : Nat} {L : List Cel} {b n : Nat} {l : List Ce} (h : Hp base H (⟨b,7,rowV l⟩ :: L)) (hl : l.length = n) (h1 : n <= 1000000) (x : Nat) (hx4 : x <= 1000000) : FnTo Q 82 [.slc b 0 n n,.int .i64 x] H (fun _ H' => Keep base H H' /\ Hp base H' (⟨b,7,rowV (partsP l x)⟩ :: L)) := by
 refine fn_wp (tq.at_.ho 82 rfl _) tq.q82 (by simp [A82]) ?_
 by_cases c1 : 0 < x
 ·have d1 : decide ((0 : Int) < (x : Int)) = true := decide_eq_true (by omega)
  by_cases c2 : x < n
  ·have d2 : decide ((x : Int) < (n : Int)) = true := decide_eq_true (by omega)
   obtain ⟨c,hc⟩ : ∃ c,l[x]? = some c := ⟨_,List.getElem?_eq_getElem (by omega)⟩
   obtain ⟨l7,l0,lw,la⟩ := h.loadC (List.mem_cons_self ..) hc
   have ix := ix7 (b := b) c2 .i64
   by_cases c3 : c.w = 2
   ·have d3 := decide_eq_true c3
    obtain ⟨y,rfl⟩ : ∃ y,x = y + 1 := ⟨x - 1,by omega⟩
    obtain ⟨d,hd⟩ : ∃ d,l[y]? = some d := ⟨_,List.getElem?_eq_getElem (by omega)⟩
    have w1 : IntKind.wrap .i64 (((y + 1 : Nat) : Int) - 1) = ((y : Nat) : Int) := by rw [wrapI64 (by omega) (by omega)]; omega
    have iy := ix7 (b := b) (show y < n by omega) .i64
    obtain ⟨_,_,_,lb⟩ := h.loadC (List.mem_cons_self ..) hd
    simp only [A82,d1,d2,d3,ix,lw,la,w1,iy,lb,SX,reduceCtorEq,Nat.reduceEqDiff,↓reduceIte]
    refine (blank_spec tq.rw_ h.fr (a := d.a.cs) rfl rfl).mono ?_
    rintro _ H1 ⟨rfl,g1⟩
    have h1' := h.of_gr g1
    obtain ⟨_,_,_,la1⟩ := h1'.loadC (List.mem_cons_self ..) hc
    refine ⟨by simp only [echoOk,la1,same_at,Bool.and_self,SX,Nat.reduceEqDiff,↓reduceIte],?_⟩
    simp only [SX,Nat.reduceEqDiff,↓reduceIte]
    refine (blank_spec tq.rw_ h1'.fr (a := c.a.cs) rfl rfl).mono ?_
    rintro _ H2 ⟨rfl,g2⟩
    have h2 := h1'.of_gr g2
    obtain ⟨H3,s3,g3,k3,_⟩ := h2.setC hd (blankC d.a)
    have hc3 : (l.set y (blankC d.a))[y + 1]? = some c := by rw [List.getElem?_set,if_neg (by omega)]; exact hc
    obtain ⟨H4,s4,g4,k4,_⟩ := g3.setC hc3 (blankC c.a)
    have s3 : storeE H2 7 (.ptr b (y * 7)) (.agg (.int .i32 32 :: .int .u8 0 :: d.a.cs)) = some (.undef,H3) := s3
    have s4 : storeE H3 7 (.ptr b ((y + 1) * 7)) (.agg (.int .i32 32 :: .int .u8 0 :: c.a.cs)) = some (.undef,H4) := s4
    have hbn := h.bn
    have hbn1 := h1'.bn
    have e : partsP l (y + 1) = (l.set y (blankC d.a)).set (y + 1) (blankC c.a) := by
     unfold partsP
     rw [hc]
     simp only
     rw [if_pos ⟨by omega,c3⟩,Nat.add_sub_cancel,List.getD_eq_getElem?_getD,hd]
     rfl
    rw [e]
    simp only [ix,iy,s3,s4,SX,reduceCtorEq,Nat.reduceEqDiff,↓reduceIte]
    exact ⟨((g1.keep.le hbn).trans (g2.keep.le hbn1)).trans (k3.trans k4),g4⟩
   ·have d3 := decide_eq_false c3
    have e : partsP l x = l := by unfold partsP; rw [hc]; simp only; rw [if_neg (fun hh => c3 hh.2)]
    rw [e]
    simp only [A82,d1,d2,d3,ix,lw,SX,reduceCtorEq,Nat.reduceEqDiff,↓reduceIte]
    exact ⟨Keep.refl _ _,h⟩
  ·have d2 : decide ((x : Int) < (n : Int)) = false := decide_eq_false (by omega)
   have e : partsP l x = l := by unfold partsP; rw [List.getElem?_eq_none (by omega)]
   rw [e]
   simp only [A82,d1,d2,SX,reduceCtorEq,Nat.reduceEqDiff,↓reduceIte]
   exact ⟨Keep.refl _ _,h⟩
 ·have d1 : decide ((0 : Int) < (x : Int)) = false := decide_eq_false (by omega)
  have e : partsP l x = l := by
   unfold partsP
   split
   ·rw [if_neg (fun hh => c1 hh.1)]
   ·rfl
  rw [e]
  simp only [A82,d1,SX,Nat.reduceEqDiff,↓reduceIte]
  exact ⟨Keep.refl _ _,h⟩
set_option maxHeartbeats 8000000 in
theorem write_spec {base : Nat} {L : List Cel} (h : Hp base H L) {b n : Nat} {l : List Ce} (hm : (⟨b,7,rowV l⟩ : Cel) ∈ L) (hl : l.length = n) (h1 : n <= 1000000) (x : Nat) (r : Int) (wide : Bool) (a : At) (hx : x + (if wide = true then 2 else 1) <= n) :
  FnTo Q 66 [.slc b 0 n n,.int .i64 x,.int .i32 r,.bool wide,a.val] H (fun v H' => Keep base H H' /\ ∃ c,v = .tup [.slc c 0 n n,.bool true] /\ Hp base H' (⟨c,7,rowV (writeP l x r wide a)⟩ :: L)) := by
 refine fn_wp (tq.at_.ho 66 rfl _) tq.q66 (by simp [A66]) ?_
 obtain ⟨H1,s1,g1,k1⟩ := h.make a.cs 5
 have s1 : H.alloc (.row ⟨a.cs,0,false,true,0⟩) = H1 := s1
 have bx := box_at a
 have k : ∀ (m : Nat),(m = if wide = true then 2 else 1) -> ∀ (e' : Env) (H' : AHeap),True := fun _ _ _ _ => trivial
 have go : ∀ (m : Nat),(m = if wide = true then 2 else 1) -> m <= n -> 0 < m := fun m hm _ => by rw [hm]; split <;> omega
 cases wide with
 | false =>
  rw [if_neg (by simp)] at hx
  have w1 : IntKind.wrap .i64 ((x : Int) + 1) = ((x + 1 : Nat) : Int) := wrapNat (n := x + 1) (by omega)
  have w2 : IntKind.wrap .i64 (((x + 1 : Nat) : Int) - 1) = (x : Int) := by rw [wrapI64 (by omega) (by omega)]; omega
  simp only [A66,bx,s1,SX,reduceCtorEq,Nat.reduceEqDiff,↓reduceIte]
  refine (is_spec tq (b := b) (x := x) (n := n) (by omega)).mono ?_
  rintro _ H' ⟨rfl,hH⟩
  rw [hH]; clear hH H'
  simp only [w1,w2,SX,reduceCtorEq,Nat.reduceEqDiff,↓reduceIte]
  refine (is_spec tq (b := b) (x := x) (n := n) (by omega)).mono ?_
  rintro _ H' ⟨rfl,hH⟩
  rw [hH]; clear hH H'
  simp only [SX,reduceCtorEq,Nat.reduceEqDiff,↓reduceIte]
  refine (cloneC_spec tq g1 (List.mem_cons_of_mem _ hm) hl (by omega) h1).mono ?_
  rintro _ H2 ⟨k2,c,rfl,g2⟩
  simp only [SX,reduceCtorEq,Nat.reduceEqDiff,↓reduceIte]
  refine (parts_spec tq g2 hl h1 x (by omega)).mono ?_
  rintro _ H3 ⟨k3,g3⟩
  simp only [w1,SX,reduceCtorEq,Nat.reduceEqDiff,↓reduceIte]
  refine (parts_spec tq g3 (by rw [parts_len]; exact hl) h1 (x + 1) (by omega)).mono ?_
  rintro _ H4 ⟨k4,g4⟩
  obtain ⟨z,hz⟩ : ∃ z,(partsP (partsP l x) (x + 1))[x]? = some z := ⟨_,List.getElem?_eq_getElem (by rw [parts_len,parts_len]; omega)⟩
  have l5 := g4.loadN (b := H.next) (k := 5) (cs := a.cs) (by simp) (n := 5) rfl
  have l5 : loadV H4 (some 5) (.ptr H.next 0) = some a.val := l5
  have ix := ix7 (b := c) (show x < n by omega) .i64
  obtain ⟨H5,s5,g5,k5,_⟩ := g4.setC hz ⟨r,0,a⟩
  simp only [l5,run_build,bldC,ix,s5,SX,reduceCtorEq,Nat.reduceEqDiff,↓reduceIte]
  refine ⟨k1.trans (k2.trans (k3.trans (k4.trans k5))),c,rfl,?_⟩
  unfold writeP
  rw [if_neg (by simp)]
  exact g5.swap.drop
 | true =>
  rw [if_pos rfl] at hx
  have w1 : IntKind.wrap .i64 ((x : Int) + 2) = ((x + 2 : Nat) : Int) := wrapNat (n := x + 2) (by omega)
  have w2 : IntKind.wrap .i64 (((x + 2 : Nat) : Int) - 1) = ((x + 1 : Nat) : Int) := by rw [wrapI64 (by omega) (by omega)]; omega
  have w3 : IntKind.wrap .i64 ((x : Int) + 1) = ((x + 1 : Nat) : Int) := wrapNat (n := x + 1) (by omega)
  simp only [A66,bx,s1,SX,reduceCtorEq,Nat.reduceEqDiff,↓reduceIte]
  refine (is_spec tq (b := b) (x := x) (n := n) (by omega)).mono ?_
  rintro _ H' ⟨rfl,hH⟩
  rw [hH]; clear hH H'
  simp only [w1,w2,SX,reduceCtorEq,Nat.reduceEqDiff,↓reduceIte]
  refine (is_spec tq (b := b) (x := x + 1) (n := n) (by omega)).mono ?_
  rintro _ H' ⟨rfl,hH⟩
  rw [hH]; clear hH H'
  simp only [SX,reduceCtorEq,Nat.reduceEqDiff,↓reduceIte]
  refine (cloneC_spec tq g1 (List.mem_cons_of_mem _ hm) hl (by omega) h1).mono ?_
  rintro _ H2 ⟨k2,c,rfl,g2⟩
  simp only [SX,reduceCtorEq,Nat.reduceEqDiff,↓reduceIte]
  refine (parts_spec tq g2 hl h1 x (by omega)).mono ?_
  rintro _ H3 ⟨k3,g3⟩
  simp only [w1,SX,reduceCtorEq,Nat.reduceEqDiff,↓reduceIte]
  refine (parts_spec tq g3 (by rw [parts_len]; exact hl) h1 (x + 2) (by omega)).mono ?_
  rintro _ H4 ⟨k4,g4⟩
  have hpl : (partsP (partsP l x) (x + 2)).length = n := by rw [parts_len,parts_len]; exact hl
  obtain ⟨P,hP⟩ : ∃ P,partsP (partsP l x) (x + 2) = P := ⟨_,rfl⟩
  rw [hP] at g4 hpl
  obtain ⟨z,hz⟩ : ∃ z,P[x]? = some z := ⟨_,List.getElem?_eq_getElem (by omega)⟩
  obtain ⟨z1,hz1⟩ : ∃ z,P[x + 1]? = some z := ⟨_,List.getElem?_eq_getElem (by omega)⟩
  have l5 : ∀ {H'} {l' : List Ce},Hp base H' (⟨c,7,rowV l'⟩ :: ⟨H.next,5,a.cs⟩ :: L) -> loadV H' (some 5) (.ptr H.next 0) = some a.val := fun {H'} {l'} g => g.loadN (b := H.next) (k := 5) (cs := a.cs) (by simp) (n := 5) rfl
  have l54 := l5 g4
  have ix := ix7 (b := c) (show x < n by omega) .i64
  have ix1 := ix7 (b := c) (show x + 1 < n by omega) .i64
  obtain ⟨H5,s5,g5,k5,_⟩ := g4.setC hz ⟨r,0,a⟩
  obtain ⟨H6,s6,g6,k6,_⟩ := g5.setW (i := x) (c := ⟨r,0,a⟩) (by rw [List.getElem?_set,if_pos rfl,if_pos (by omega)]) 1
  have e6 : (P.set x ⟨r,0,a⟩).set x { r := r,w := 1,a := a } = P.set x ⟨r,1,a⟩ := by rw [List.set_set]
  have g6 : Hp base H6 (⟨c,7,rowV (P.set x ⟨r,1,a⟩)⟩ :: ⟨H.next,5,a.cs⟩ :: L) := by rw [<- e6]; exact g6
  have l56 := l5 g6
  obtain ⟨H7,s7,g7,k7,_⟩ := g6.setC (i := x + 1) (c := z1) (by rw [List.getElem?_set,if_neg (by omega)]; exact hz1) ⟨r,2,a⟩
  simp only [l54,run_build,bldC,bldC2,ix,ix1,s5,s6,w3,l56,s7,SX,reduceCtorEq,Nat.reduceEqDiff,↓reduceIte]
  refine ⟨k1.trans (k2.trans (k3.trans (k4.trans (k5.trans (k6.trans k7))))),c,rfl,?_⟩
  unfold writeP
  rw [if_pos rfl,hP]
  exact g7.swap.drop
set_option maxHeartbeats 4000000 in
theorem one_spec {v : AV} {L : List (List Int)} (hv : IsSl IsInts H v L) (i : Nat) (no : Int) : FnTo Q 67 [v,.int .i64 i,.int .i64 no] H (fun r H' => r = .int .i64 (oneP L i no) /\ H' = H) := by
 refine fn_wp (tq.at_.ho 67 rfl _) tq.q67 (by simp [A67]) ?_
 have ln := hv.len
 have d0 : decide ((i : Int) < 0) = false := decide_eq_false (by omega)
 cases hL : L[i]? with
 | none =>
  have d1 : decide ((L.length : Int) <= (i : Int)) = true := decide_eq_true (by have := List.getElem?_eq_none_iff.1 hL; omega)
  have e : oneP L i no = no := by unfold oneP; rw [hL]
  simp only [A67,ln,d0,d1,e,SX,reduceCtorEq,Nat.reduceEqDiff,↓reduceIte]
 | some l =>
  have hlt := (List.getElem?_eq_some_iff.1 hL).1
  have d1 : decide ((L.length : Int) <= (i : Int)) = false := decide_eq_false (by omega)
  have ix := hv.at (i := (i : Int)) (by omega) (by omega) .i64
  obtain ⟨c,lc,hc⟩ := hv.get (i := (i : Int)) (a := l) (by simpa using hL)
  have hc : IsSl IsInt H c l := hc
  have lnc := hc.len
  cases l with
  | nil =>
   have d2 : decide ((([] : List Int).length : Int) = 0) = true := rfl
   have e : oneP L i no = no := by unfold oneP; rw [hL]
   simp only [A67,ln,d0,d1,ix,lc,lnc,d2,e,SX,reduceCtorEq,Nat.reduceEqDiff,↓reduceIte]
  | cons x t =>
   have d2 : decide (((x :: t).length : Int) = 0) = false := decide_eq_false (by simp only [List.length_cons]; omega)
   have ic := hc.at (i := 0) (by omega) (by simp only [List.length_cons]; omega) .i64
   have lx := hc.int (i := 0) (a := x) rfl
   have e : oneP L i no = if x = 0 then no else x := by unfold oneP; rw [hL]
   rw [e]
   by_cases c3 : x = 0
   ·have d3 := decide_eq_true c3
    rw [if_pos c3]
    simp only [A67,ln,d0,d1,ix,lc,lnc,d2,ic,lx,d3,SX,reduceCtorEq,Nat.reduceEqDiff,↓reduceIte]
   ·have d3 := decide_eq_false c3
    rw [if_neg c3]
    simp only [A67,ln,d0,d1,ix,lc,lnc,d2,ic,lx,d3,SX,reduceCtorEq,Nat.reduceEqDiff,↓reduceIte]
end
def OwnV (base : Nat) (H : AHeap) (v : AV) (xs : List AV) (rest : List Cel) : Prop :=
 (xs = [] /\ v = .nils /\ Hp base H rest) \/ (xs ≠ [] /\ ∃ b,v = .slc b 0 xs.length xs.length /\ Hp base H (⟨b,1,xs⟩ :: rest))
section
variable {base : Nat} {H : AHeap} {l l' : List Cel} {v : AV} {t : List AV}
theorem OwnV.hp (h : OwnV base H v t l) : Hp base H l := by
 rcases h with ⟨_,_,h⟩ | ⟨_,b,_,h⟩
 ·exact h
 ·exact h.drop
theorem OwnV.one (h : OwnV base H v t l) : v.one = true := by
 rcases h with ⟨_,rfl,_⟩ | ⟨_,b,rfl,_⟩ <;> rfl
theorem OwnV.same (h : OwnV base H v t l) : AV.same v v = true := by
 rcases h with ⟨_,rfl,_⟩ | ⟨_,b,rfl,_⟩ <;> simp [AV.same,AV.same1]
theorem OwnV.re (h : OwnV base H v t l) (p : l.Perm l') : OwnV base H v t l' := by
 rcases h with ⟨h1,h2,h⟩ | ⟨h1,b,h2,h⟩
 ·exact .inl ⟨h1,h2,h.perm p⟩
 ·exact .inr ⟨h1,b,h2,h.perm (List.Perm.cons _ p)⟩
theorem OwnV.push (h : OwnV base H v t l) {bytes : Nat} (hb0 : 0 < bytes) (hb1 : bytes <= 64) (hl : t.length <= 1000000) (x : AV) (hx : x.one = true) :
  ∃ H1 H2 w,H.alloc (.row ⟨[x],0,false,true,0⟩) = H1 /\ appendE H1 1 bytes v (.slc H.next 0 1 1) = some (w,H2) /\ OwnV base H2 w (t ++ [x]) l /\ Keep base H H2 := by
 obtain ⟨H1,s1,h1,k1⟩ := h.hp.make [x] 1
 rcases h with ⟨rfl,rfl,h⟩ | ⟨hne,b,rfl,h⟩
 ·have hsrc := h1.srcOne (List.mem_cons_self ..) 1
  refine ⟨H1,H1.alloc (.row ⟨[x],1,false,true,0⟩),.slc H1.next 0 1 1,s1,?_,.inr ⟨by simp,H1.next,rfl,?_⟩,k1.trans (h1.keep_alloc _)⟩
  ·simp only [appendE,EOp.run,Opd.ev,hsrc,appendA]
   rw [if_neg (by simp [hx]; omega),if_neg (by omega),if_pos (by omega)]
  ·exact (h1.alloc _ 1 1 (.inr rfl)).swap.drop
 ·obtain ⟨H1',s1',h1',k1'⟩ := h.make [x] 1
  obtain rfl := s1.symm.trans s1'
  obtain ⟨B,hB,hc⟩ := h1'.rowOf (List.mem_cons_self ..)
  obtain ⟨H2,a1,a2,a3⟩ := (Hp.swap h1').append1 (n := t.length) rfl hB (o2 := 0) (c2 := 1) (by rw [hc]; rfl) hx hb0 (by have := Nat.mul_le_mul_left (t.length + 1) hb1; omega)
  exact ⟨H1,H2,.slc H1.next 0 (t.length + 1) (t.length + 1),s1,a1,.inr ⟨by simp,H1.next,by simp,a2.swap.drop⟩,k1.trans a3⟩
theorem OwnV.store {u k : Nat} {cs : List AV} (h : OwnV base H v t (⟨u,k,cs⟩ :: l)) {o : Nat} {y : AV} (hy : y.one = true) (ho : o < cs.length) :
  ∃ H',storeE H 1 (.ptr u o) y = some (.undef,H') /\ OwnV base H' v t (⟨u,k,cs.set o y⟩ :: l) /\ Keep base H H' := by
 rcases h with ⟨h1,h2,h⟩ | ⟨h1,b,h2,h⟩
 ·obtain ⟨H',q1,q2,q3,_⟩ := h.store hy ho
  exact ⟨H',q1,.inl ⟨h1,h2,q2⟩,q3⟩
 ·obtain ⟨H',q1,q2,q3,_⟩ := h.swap.store hy ho
  exact ⟨H',q1,.inr ⟨h1,b,h2,q2.swap⟩,q3⟩
theorem OwnV.join {H' : AHeap} {x : Cel} (h : OwnV base H v t l) (g : Gr H H') (h' : Hp H.next H' [x]) : OwnV base H' v t (x :: l) := by
 rcases h with ⟨h1,h2,h⟩ | ⟨h1,b,h2,h⟩
 ·exact .inl ⟨h1,h2,h.joinG g h'⟩
 ·exact .inr ⟨h1,b,h2,(h.joinG g h').swap⟩
end
theorem perm_c {base : Nat} {H : AHeap} {l l' : List Cel} (h : Hp base H l) (e : ∀ a,cnt a l = cnt a l') : Hp base H l' := h.re e
def rowsV (M : List (Nat × List Ce)) : List AV := M.map fun x => .slc x.1 0 x.2.length x.2.length
def rowsC (M : List (Nat × List Ce)) : List Cel := M.map fun x => ⟨x.1,7,rowV x.2⟩
def tcs (t : Tm) (rv : AV) (pb : Nat) : List AV := [.int .i64 t.w,.int .i64 t.h,rv,.int .i64 t.x,.int .i64 t.y,.int .u16 t.a.fl,.int .u8 t.a.fk,.int .u32 t.a.fn,.int .u8 t.a.bk,.int .u32 t.a.bn,.bool t.hid,.ptr pb 0]
def TmC (b pb : Nat) (t : Tm) (cs : List Cel) : Prop := ∃ rb M,M.map (·.2) = t.rows /\ cs = ⟨b,1,tcs t (.slc rb 0 M.length M.length) pb⟩ :: ⟨rb,1,rowsV M⟩ :: rowsC M
theorem rowsV_app (M N : List (Nat × List Ce)) : rowsV (M ++ N) = rowsV M ++ rowsV N := by simp [rowsV]
theorem rowsC_app (M N : List (Nat × List Ce)) : rowsC (M ++ N) = rowsC M ++ rowsC N := by simp [rowsC]
theorem rowsC_at {M : List (Nat × List Ce)} {y : Nat} {x : Nat × List Ce} (h : M[y]? = some x) : M = M.take y ++ (x :: M.drop (y + 1)) := by
 obtain ⟨h1,h2⟩ := List.getElem?_eq_some_iff.1 h
 rw [<- h2,<- List.drop_eq_getElem_cons h1,List.take_append_drop]
theorem rowsC_set {M : List (Nat × List Ce)} {y : Nat} {x z : Nat × List Ce} (h : M[y]? = some x) (a : Cel) : cnt a (rowsC (M.set y z)) + one1 a ⟨x.1,7,rowV x.2⟩ = cnt a (rowsC M) + one1 a ⟨z.1,7,rowV z.2⟩ := by
 have hy := (List.getElem?_eq_some_iff.1 h).1
 have e1 := rowsC_at h
 have e2 : M.set y z = M.take y ++ (z :: M.drop (y + 1)) := by
  rw [rowsC_at (M := M.set y z) (y := y) (x := z) (by rw [List.getElem?_set,if_pos rfl,if_pos hy])]
  congr 1
  ·rw [List.take_set_of_le (Nat.le_refl _)]
  ·rw [List.drop_set_of_lt (by omega)]
 rw [e2]
 conv => rhs; rw [e1]
 simp only [rowsC_app,cnt_append]
 simp only [rowsC,List.map_cons,cnt_cons]
 omega
def Tabd (base : Nat) (H : AHeap) : Prop := ∀ H',Keep base H H' -> hasTabs H' TT = true
theorem Tabd.now {base : Nat} {H : AHeap} (h : Tabd base H) : hasTabs H TT = true := h H (Keep.refl _ _)
theorem Tabd.keep {base : Nat} {H H1 : AHeap} (h : Tabd base H) (k : Keep base H H1) : Tabd base H1 := fun H' k' => h H' (k.trans k')
theorem tabd_of {H : AHeap} (hf : Fr H) (ht : hasTabs H TT = true) : Tabd H.next H := fun H' k => by
 refine List.all_eq_true.2 fun t h => ?_
 have h1 := List.all_eq_true.1 ht t h
 split at h1
 ·rename_i B hB
  have hb : t.g < H.next := Nat.lt_of_not_le fun hh => by rw [hf _ hh] at hB; cases hB
  rw [k _ hb,hB]; exact h1
 ·cases h1
theorem PRv.isL {base : Nat} {H : AHeap} {v : AV} {L : List (List Int)} {cl l : List Cel} (h : PRv v L cl) (hp : Hp base H l) (hsub : ∀ x ∈ cl,x ∈ l) : IsL H v L := by
 rcases h with ⟨rfl,rfl,_⟩ | ⟨b,M,hne,rfl,rfl,rfl⟩
 ·exact .inl ⟨rfl,rfl⟩
 ·have := hp.isS (R := IsIs) (b := b) (cs := heads M) (xs := M.map (·.2)) (cap := M.length) (hsub _ (List.mem_cons_self ..)) (by simp) fun i x hx => by
   rw [List.getElem?_map] at hx
   cases hM : M[i]? with
   | none => rw [hM] at hx; cases hx
   | some m =>
    rw [hM] at hx
    obtain rfl := Option.some.inj hx
    refine ⟨.slc m.1 0 m.2.length m.2.length,by simp [heads,hM],?_⟩
    refine hp.isS (R := IsI) (b := m.1) (cs := ints m.2) (hsub _ (List.mem_cons_of_mem _ (List.mem_map.2 ⟨m,List.mem_of_getElem? hM,rfl⟩))) (Nat.le_refl _) fun j y hy => ⟨.int .i64 y,by simp [ints,hy],rfl⟩
  rw [List.length_map] at this
  exact this
theorem sobU {base : Nat} {H : AHeap} {l : List Cel} {b k : Nat} {x : Int} (h : Hp base H (⟨b,k,[.int .u8 x]⟩ :: l)) : strOfBytesV H (.slc b 0 1 1) = some (.str [UInt8.ofNat x.toNat]) := by
 obtain ⟨B,r,hc⟩ := h.rowOf (List.mem_cons_self ..)
 simp only [strOfBytesV,ROp.run,Opd.ev,r,hc]
 rfl
theorem same_slc (b o n c : Nat) : AV.same (.slc b o n c) (.slc b o n c) = true := by simp [AV.same,AV.same1]
theorem same_int (k : IntKind) (n : Int) : AV.same (.int k n) (.int k n) = true := by simp [AV.same,AV.same1]
section
variable {Q : Prog} (tq : TwQ Q) {H : AHeap} {base b pb : Nat}
include tq
set_option maxHeartbeats 4000000 in
theorem tblank_spec {t : Tm} {rv : AV} {l : List Cel} (h : Hp base H (⟨b,1,tcs t rv pb⟩ :: l)) (hw : 1 <= t.w /\ t.w <= 400) (hh : 1 <= t.h /\ t.h <= 400) :
  FnTo Q 28 [.ptr b 0] H (fun _ H' => Keep base H H' /\ ∃ rb M,M.map (·.2) = blanksT t.w t.h /\ Hp base H' (⟨b,1,tcs t (.slc rb 0 M.length M.length) pb⟩ :: ⟨rb,1,rowsV M⟩ :: (rowsC M ++ l))) := by
 refine fn_wp (tq.at_.ho 28 rfl _) tq.q28 (by simp [A28]) ?_
 obtain ⟨H1,s1,g1,k1,_⟩ := h.store (o := 2) (v := .nils) rfl (by simp [tcs])
 have g1 : Hp base H1 (⟨b,1,tcs t .nils pb⟩ :: l) := g1
 have l1 := g1.load (List.mem_cons_self ..) (o := 1) (v := .int .i64 t.h) rfl
 simp only [A28,s1,l1,SX,reduceCtorEq,↓reduceIte]
 obtain ⟨I,hI⟩ : ∃ I : Nat -> Env -> AHeap -> Prop,∀ m e H',I m e H' ↔ (Keep base H H' /\ ∃ (i : Nat) (v : AV) (M : List (Nat × List Ce)),m = t.h - i /\ i <= t.h /\ M.length = i /\ M.map (·.2) = List.replicate i (List.replicate t.w (blankC At.zero)) /\ OwnV base H' v (rowsV M) (⟨b,1,tcs t v pb⟩ :: (rowsC M ++ l)) /\ Env.get e 0 = .ptr b 0 /\ Env.get e 8 = .int .i64 t.h /\ Env.get e 9 = .int .i64 i) := ⟨_,fun _ _ _ => Iff.rfl⟩
 refine loop_by I t.h ?_ ?_
 ·exact (hI _ _ _).2 ⟨k1,0,.nils,[],rfl,by omega,rfl,rfl,.inl ⟨rfl,rfl,g1⟩,(by first | (simp only [SG,reduceCtorEq,↓reduceIte] <;> rfl) | rfl),(by first | (simp only [SG,Nat.reduceEqDiff,↓reduceIte] <;> rfl) | rfl),(by first | (simp only [SG,↓reduceIte] <;> rfl) | rfl)⟩
 ·intro m e H2 hinv
  obtain ⟨k2,i,v,M,rfl,hi,hM,hR,own,e0,e8,e9⟩ := (hI _ _ _).1 hinv
  by_cases d : (i : Int) < (t.h : Int)
  ·have d1 := decide_eq_true d
   have lv : ∀ {H' L},OwnV base H' v (rowsV M) (⟨b,1,tcs t v pb⟩ :: L) -> loadV H' Option.none (.ptr b 2) = some v /\ loadV H' Option.none (.ptr b 0) = some (.int .i64 t.w) := fun {H' L} o => ⟨o.hp.load (List.mem_cons_self ..) (o := 2) rfl,o.hp.load (List.mem_cons_self ..) (o := 0) rfl⟩
   obtain ⟨l2,l0⟩ := lv own
   have w1 : IntKind.wrap .i64 ((i : Int) + 1) = ((i + 1 : Nat) : Int) := wrapNat (n := i + 1) (by omega)
   simp only [e0,e8,e9,d1,l2,l0,run_build0,SX,reduceCtorEq,Nat.reduceEqDiff,↓reduceIte]
   refine (rowBlank_spec tq.rw_ own.hp.fr (w := (t.w : Int)) (c := blankC At.zero) ⟨rfl,rfl⟩).mono ?_
   rintro r H3 ⟨k3,hr⟩
   rcases hr with ⟨hb,_⟩ | ⟨_,_,nb,rfl,g3⟩
   ·omega
   rw [Int.toNat_natCast] at g3 ⊢
   have gr3 := g3.gr k3
   have own3 := own.join gr3 g3
   have own3 : OwnV base H3 v (rowsV M) (⟨b,1,tcs t v pb⟩ :: (⟨nb,7,rowV (List.replicate t.w (blankC At.zero))⟩ :: (rowsC M ++ l))) := own3.re (List.Perm.swap _ _ _)
   obtain ⟨l23,_⟩ := lv own3
   refine ⟨by simp only [echoOk,l23,own3.same,Bool.and_self,SX,Nat.reduceEqDiff,↓reduceIte],?_⟩
   obtain ⟨H4,H5,v',s4,s5,own5,k5⟩ := own3.push (bytes := 24) (by omega) (by omega) (by simp [rowsV]; omega) (.slc nb 0 t.w t.w) rfl
   obtain ⟨H6,s6,own6,k6⟩ := own5.store (o := 2) (y := v') own5.one (by simp [tcs])
   have own6 : OwnV base H6 v' (rowsV M ++ [.slc nb 0 t.w t.w]) (⟨b,1,tcs t v' pb⟩ :: (⟨nb,7,rowV (List.replicate t.w (blankC At.zero))⟩ :: (rowsC M ++ l))) := own6
   simp only [e9,bs1V_slc,s4,s5,s6,w1,SX,reduceCtorEq,Nat.reduceEqDiff,↓reduceIte]
   have hbn := own.hp.bn
   have eM : rowsV (M ++ [(nb,List.replicate t.w (blankC At.zero))]) = rowsV M ++ [.slc nb 0 t.w t.w] := by rw [rowsV_app]; simp [rowsV]
   refine ⟨t.h - (i + 1),by omega,(hI _ _ _).2 ⟨k2.trans ((k3.le hbn).trans (k5.trans k6)),i + 1,v',M ++ [(nb,List.replicate t.w (blankC At.zero))],rfl,by omega,by simp [hM],?_,?_,(by simp only [SG,reduceCtorEq,↓reduceIte,e0] <;> rfl),(by simp only [SG,reduceCtorEq,Nat.reduceEqDiff,↓reduceIte,e8] <;> rfl),(by first | (simp only [SG,↓reduceIte] <;> rfl) | rfl)⟩⟩
   ·rw [List.map_append,hR,List.replicate_succ']; rfl
   ·rw [eM]
    refine own6.re (List.Perm.cons _ ?_)
    rw [rowsC_app,List.append_assoc]
    exact (List.perm_middle (l₁ := rowsC M) (l₂ := l) (a := (⟨nb,7,rowV (List.replicate t.w (blankC At.zero))⟩ : Cel))).symm
  ·have d1 := decide_eq_false d
   obtain rfl : i = t.h := by omega
   simp only [e8,e9,d1,SX,↓reduceIte]
   refine ⟨k2,?_⟩
   rcases own with ⟨h0,_,_⟩ | ⟨_,rb,rfl,g⟩
   ·have : (rowsV M).length = 0 := by rw [h0]; rfl
    simp [rowsV] at this
    rw [this] at hM
    simp at hM; omega
   ·have eL : (rowsV M).length = M.length := by simp [rowsV]
    rw [eL] at g
    exact ⟨rb,M,hR,g.swap⟩
set_option maxHeartbeats 8000000 in
theorem prints_spec' {t : Tm} {cs l : List Cel} (k : t.Ok) (hc : TmC b pb t cs) (h : Hp base H (cs ++ l)) (hT : Tabd base H) (r : Int) :
  FnTo Q 37 [.ptr b 0,.int .i32 r] H (fun _ H' => Keep base H H' /\ ∃ cs',TmC b pb (t.prints r) cs' /\ Hp base H' (cs' ++ l)) := by
 refine fn_wp (tq.at_.ho 37 rfl _) tq.q37 (by simp [A37]) ?_
 simp only [A37,SX,↓reduceIte]
 refine (of_spec tq.at_ tq.q65 hT.now r).mono ?_
 rintro _ H' ⟨rfl,hH⟩
 rw [hH]; clear hH H'
 have hof : ofP r = (ofN r : Int) := by rcases ofN_in r with q | q | q <;> omega
 have hpr : t.prints r = if ofN r = 0 \/ t.w < t.x + ofN r then t else { t with rows := t.rows.set t.y (writeP (t.rows.getD t.y []) t.x r (decide (ofN r = 2)) t.a),x := t.x + ofN r } := rfl
 have hn2 : ofN r <= 2 := by rcases ofN_in r with q | q | q <;> omega
 rw [hpr,hof]
 generalize ofN r = n at hn2 ⊢
 have kx := k.x
 have kw := k.w
 have kh := k.h
 have ky := k.y
 have stay : (n = 0 \/ t.w < t.x + n) -> Keep base H H /\ ∃ cs',TmC b pb (if n = 0 \/ t.w < t.x + n then t else { t with rows := t.rows.set t.y (writeP (t.rows.getD t.y []) t.x r (decide (n = 2)) t.a),x := t.x + n }) cs' /\ Hp base H (cs' ++ l) := fun hh => by
  rw [if_pos hh]; exact ⟨Keep.refl _ _,cs,hc,h⟩
 by_cases c0 : n = 0
 ·have d0 : decide ((n : Int) = 0) = true := decide_eq_true (by omega)
  simp only [d0,SX,Nat.reduceEqDiff,↓reduceIte]
  exact stay (.inl c0)
 have d0 : decide ((n : Int) = 0) = false := decide_eq_false (by omega)
 obtain ⟨rb,M,hM,hcs⟩ := hc
 subst hcs
 have h : Hp base H (⟨b,1,tcs t (.slc rb 0 M.length M.length) pb⟩ :: ⟨rb,1,rowsV M⟩ :: (rowsC M ++ l)) := h
 have lx : ∀ {H' L},Hp base H' L -> (⟨b,1,tcs t (.slc rb 0 M.length M.length) pb⟩ : Cel) ∈ L -> loadV H' Option.none (.ptr b 0) = some (.int .i64 t.w) /\ loadV H' Option.none (.ptr b 2) = some (.slc rb 0 M.length M.length) /\ loadV H' Option.none (.ptr b 3) = some (.int .i64 t.x) /\ loadV H' Option.none (.ptr b 4) = some (.int .i64 t.y) /\ loadV H' (some 5) (.ptr b 5) = some t.a.val := fun {H' L} g hm => ⟨g.load hm (o := 0) rfl,g.load hm (o := 2) rfl,g.load hm (o := 3) rfl,g.load hm (o := 4) rfl,g.loadO (a := [.int .i64 t.w,.int .i64 t.h,.slc rb 0 M.length M.length,.int .i64 t.x,.int .i64 t.y]) (x := t.a.cs) (c := [.bool t.hid,.ptr pb 0]) (k := 1) hm rfl rfl⟩
 obtain ⟨m0,m2,m3,m4,m5⟩ := lx h (List.mem_cons_self ..)
 have w1 : IntKind.wrap .i64 ((t.x : Int) + (n : Int)) = ((t.x + n : Nat) : Int) := wrapNat (n := t.x + n) (by omega)
 by_cases c1 : t.w < t.x + n
 ·have d1 : decide ((t.w : Int) < ((t.x + n : Nat) : Int)) = true := decide_eq_true (by omega)
  simp only [d0,m0,m3,w1,d1,SX,reduceCtorEq,Nat.reduceEqDiff,↓reduceIte]
  exact stay (.inr c1)
 have d1 : decide ((t.w : Int) < ((t.x + n : Nat) : Int)) = false := decide_eq_false (by omega)
 rw [if_neg (by omega)]
 have hMl : M.length = t.h := by rw [<- k.n,<- hM,List.length_map]
 obtain ⟨x,hx⟩ : ∃ x,M[t.y]? = some x := ⟨_,List.getElem?_eq_getElem (by omega)⟩
 have hrow : t.rows[t.y]? = some x.2 := by rw [<- hM,List.getElem?_map,hx]; rfl
 have hgd : t.rows.getD t.y [] = x.2 := by rw [List.getD_eq_getElem?_getD,hrow]; rfl
 have hxl : x.2.length = t.w := (k.r x.2 (List.mem_of_getElem? hrow)).1
 have hrv : (rowsV M)[t.y]? = some (.slc x.1 0 t.w t.w) := by simp only [rowsV,List.getElem?_map,hx,Option.map_some,hxl]
 have ix : idxSV 1 (.slc rb 0 M.length M.length) (.int .i64 t.y) = some (.ptr rb t.y) := by
  have := idxSV_slc (b := rb) (o := 0) (n := M.length) (cap := M.length) (k := .i64) (i := t.y) (by omega)
  rwa [Nat.zero_add] at this
 have lr := h.load (b := rb) (k := 1) (cs := rowsV M) (by simp) hrv
 have hmem : (⟨x.1,7,rowV x.2⟩ : Cel) ∈ (⟨b,1,tcs t (.slc rb 0 M.length M.length) pb⟩ :: ⟨rb,1,rowsV M⟩ :: (rowsC M ++ l)) := List.mem_cons_of_mem _ (List.mem_cons_of_mem _ (List.mem_append_left _ (List.mem_map.2 ⟨x,List.mem_of_getElem? hx,rfl⟩)))
 have dw : decide ((n : Int) = 2) = decide (n = 2) := by by_cases q : n = 2 <;> simp [q] <;> omega
 simp only [d0,m0,m2,m3,m4,m5,w1,d1,ix,lr,dw,SX,reduceCtorEq,Nat.reduceEqDiff,↓reduceIte]
 refine (write_spec tq h hmem hxl (by omega) t.x r (decide (n = 2)) t.a (by by_cases q : n = 2 <;> simp [q] <;> omega)).mono ?_
 rintro _ H1 ⟨k1,nb,rfl,g1⟩
 obtain ⟨_,p2,p3,p4,_⟩ := lx g1 (by simp)
 refine ⟨by simp only [echoOk,p2,p4,same_slc,same_int,Bool.and_self,SX,Nat.reduceEqDiff,↓reduceIte],?_⟩
 rw [hgd]
 obtain ⟨R,hR⟩ : ∃ R,writeP x.2 t.x r (decide (n = 2)) t.a = R := ⟨_,rfl⟩
 have hRl : R.length = t.w := by rw [<- hR,write_len]; exact hxl
 rw [hR] at g1 ⊢
 have g1' : Hp base H1 (⟨rb,1,rowsV M⟩ :: ⟨b,1,tcs t (.slc rb 0 M.length M.length) pb⟩ :: ⟨nb,7,rowV R⟩ :: (rowsC M ++ l)) := perm_c g1 fun a => by simp only [cnt_cons]; omega
 obtain ⟨H2,s2,g2,k2,_⟩ := g1'.store (o := t.y) (v := .slc nb 0 t.w t.w) rfl (by simp [rowsV]; omega)
 obtain ⟨_,_,q3,_,_⟩ := lx g2 (by simp)
 obtain ⟨H3,s3,g3,k3,_⟩ := g2.swap.store (o := 3) (v := .int .i64 ((t.x + n : Nat) : Int)) rfl (by simp [tcs])
 simp only [ex0,ex1,ix,s2,q3,w1,s3,SX,reduceCtorEq,Nat.reduceEqDiff,↓reduceIte]
 refine ⟨k1.trans (k2.trans k3),_,⟨rb,M.set t.y (nb,R),?_,rfl⟩,?_⟩
 ·rw [List.map_set,hM]
 ·have eV : rowsV (M.set t.y (nb,R)) = (rowsV M).set t.y (.slc nb 0 t.w t.w) := by simp only [rowsV,List.map_set,hRl]
  have eT : (tcs t (.slc rb 0 M.length M.length) pb).set 3 (.int .i64 ((t.x + n : Nat) : Int)) = tcs { t with rows := t.rows.set t.y R,x := t.x + n } (.slc rb 0 M.length M.length) pb := rfl
  rw [eT] at g3
  have g4 : Hp base H3 (⟨x.1,7,rowV x.2⟩ :: (⟨b,1,tcs { t with rows := t.rows.set t.y R,x := t.x + n } (.slc rb 0 M.length M.length) pb⟩ :: ⟨rb,1,rowsV (M.set t.y (nb,R))⟩ :: (rowsC (M.set t.y (nb,R)) ++ l))) := perm_c g3 fun a => by
   have := rowsC_set (z := (nb,R)) hx a
   rw [eV]
   simp only [cnt_cons,cnt_append]
   simp only at this
   omega
  have g5 := g4.drop
  rw [List.length_set]
  exact g5
end
theorem L25 (L : List (List Int)) : L = [[25]] \/ (L ≠ [[25]] /\ (L.length ≠ 1 \/ ∃ p,L = [p] /\ (p.length ≠ 1 \/ ∃ x,p = [x] /\ x ≠ 25))) := by
 match L with
 | [] => exact .inr ⟨by simp,.inl (by simp)⟩
 | [p] =>
  match p with
  | [] => exact .inr ⟨by simp,.inr ⟨[],rfl,.inl (by simp)⟩⟩
  | [x] =>
   by_cases h : x = 25
   ·subst h; exact .inl rfl
   ·exact .inr ⟨by simp [h],.inr ⟨[x],rfl,.inr ⟨x,rfl,h⟩⟩⟩
  | x :: y :: t => exact .inr ⟨by simp,.inr ⟨_,rfl,.inl (by simp)⟩⟩
 | p :: q :: t => exact .inr ⟨by simp,.inl (by simp)⟩
section
variable {Q : Prog} (tq : TwQ Q) {H : AHeap} {base b pb : Nat}
include tq
set_option maxHeartbeats 16000000 in
theorem csi_spec {t : Tm} {cs l : List Cel} {a : EvC} (k : t.Ok) (hc : TmC b pb t cs) (hp : PRv a.1.v a.1.L a.2) (hg : EvG a.1.pure) (h : Hp base H (cs ++ (a.2 ++ l))) (hT : Tabd base H) :
  FnTo Q 38 [.ptr b 0,a.1.val] H (fun _ H' => Keep base H H' /\ ∃ cs',TmC b pb (t.csi a.1.m a.1.f a.1.L) cs' /\ Hp base H' (cs' ++ (a.2 ++ l))) := by
 refine fn_wp (tq.at_.ho 38 rfl _) tq.q38 (by simp [A38]) ?_
 obtain ⟨rb,M,hM,rfl⟩ := hc
 have h : Hp base H (⟨b,1,tcs t (.slc rb 0 M.length M.length) pb⟩ :: ⟨rb,1,rowsV M⟩ :: (rowsC M ++ (a.2 ++ l))) := by simpa using h
 have kw := k.w
 have kh := k.h
 obtain ⟨H1,s1,g1,k1⟩ := h.make a.1.cs 6
 have g1 : Hp base H1 (⟨b,1,tcs t (.slc rb 0 M.length M.length) pb⟩ :: ⟨H.next,6,a.1.cs⟩ :: ⟨rb,1,rowsV M⟩ :: (rowsC M ++ (a.2 ++ l))) := g1.swap
 obtain ⟨q,hq⟩ : ∃ q,H.next = q := ⟨_,rfl⟩
 rw [hq] at g1
 have bx := box_evV (a := a.1) hp.one
 have ve : ∀ {H'} {x : Cel} {L : List Cel},Hp base H' (x :: ⟨q,6,a.1.cs⟩ :: L) -> loadV H' Option.none (.ptr q 3) = some (.str a.1.m) /\ loadV H' Option.none (.ptr q 2) = some (.int .u8 a.1.f) /\ loadV H' Option.none (.ptr q 4) = some a.1.v := fun {H'} {x} {L} g =>
  ⟨g.load (b := q) (k := 6) (cs := a.1.cs) (by simp) (o := 3) rfl,g.load (b := q) (k := 6) (cs := a.1.cs) (by simp) (o := 2) rfl,g.load (b := q) (k := 6) (cs := a.1.cs) (by simp) (o := 4) rfl⟩
 obtain ⟨v3,v2,v4⟩ := ve g1
 obtain ⟨H2,s2,g2,k2⟩ := g1.make [.int .u8 a.1.f] 1
 have so := sobU g2
 have g2 : Hp base H2 (⟨b,1,tcs t (.slc rb 0 M.length M.length) pb⟩ :: ⟨q,6,a.1.cs⟩ :: ⟨rb,1,rowsV M⟩ :: (rowsC M ++ (a.2 ++ l))) := g2.drop
 have ml : a.1.m.length <= 2 := hg.m
 have ad := bin_adds a.1.m [UInt8.ofNat a.1.f.toNat] (by simp; omega)
 have ik : Keep base H H2 := k1.trans k2
 obtain ⟨w3,w2,w4⟩ := ve g2
 have lt : ∀ {H'} {t' : Tm} {rv : AV} {L : List Cel},Hp base H' (⟨b,1,tcs t' rv pb⟩ :: L) -> loadV H' Option.none (.ptr b 0) = some (.int .i64 t'.w) /\ loadV H' Option.none (.ptr b 1) = some (.int .i64 t'.h) /\ loadV H' (some 5) (.ptr b 5) = some t'.a.val := fun {H'} {t'} {rv} {L} g =>
  ⟨g.load (List.mem_cons_self ..) (o := 0) rfl,g.load (List.mem_cons_self ..) (o := 1) rfl,g.loadO (a := [.int .i64 t'.w,.int .i64 t'.h,rv,.int .i64 t'.x,.int .i64 t'.y]) (x := t'.a.cs) (c := [.bool t'.hid,.ptr pb 0]) (k := 1) (List.mem_cons_self ..) rfl rfl⟩
 obtain ⟨t0,t1,t5⟩ := lt g2
 have sub2 : ∀ x ∈ a.2,x ∈ (⟨b,1,tcs t (.slc rb 0 M.length M.length) pb⟩ : Cel) :: ⟨q,6,a.1.cs⟩ :: ⟨rb,1,rowsV M⟩ :: (rowsC M ++ (a.2 ++ l)) := fun x hx => List.mem_cons_of_mem _ (List.mem_cons_of_mem _ (List.mem_cons_of_mem _ (List.mem_append_right _ (List.mem_append_left _ hx))))
 have isl := hp.sl g2 sub2
 have ev := hg.el
 have o0 : 1 <= oneP a.1.L 0 1 /\ oneP a.1.L 0 1 <= 9999 := oneP_in ev
 have o1 : 1 <= oneP a.1.L 1 1 /\ oneP a.1.L 1 1 <= 9999 := oneP_in ev
 have hcs : t.csi a.1.m a.1.f a.1.L = t.csi a.1.m a.1.f a.1.L := rfl
 conv at hcs => rhs; unfold Tm.csi
 obtain ⟨S,hS⟩ : ∃ S,a.1.m ++ [UInt8.ofNat a.1.f.toNat] = S := ⟨_,rfl⟩
 rw [hS] at hcs ad
 rw [hcs]
 have fin : ∀ {H' : AHeap} {t' : Tm},Keep base H H' -> t'.rows = t.rows -> Hp base H' (⟨b,1,tcs t' (.slc rb 0 M.length M.length) pb⟩ :: ⟨q,6,a.1.cs⟩ :: ⟨rb,1,rowsV M⟩ :: (rowsC M ++ (a.2 ++ l))) -> Keep base H H' /\ ∃ cs',TmC b pb t' cs' /\ Hp base H' (cs' ++ (a.2 ++ l)) := fun {H'} {t'} kk hr g =>
  ⟨kk,_,⟨rb,M,by rw [hr]; exact hM,rfl⟩,by
   have g' := (Hp.swap g).drop
   simpa using g'⟩
 by_cases c1 : S = [72]
 ·have d1 := decide_eq_true c1
  rw [if_pos c1]
  simp only [A38,bx,s1,hq,v3,v2,s2,so,ad,bin_eqls,d1,w4,t1,SX,reduceCtorEq,Nat.reduceEqDiff,↓reduceIte]
  refine (one_spec tq isl 0 1).mono ?_
  rintro _ H' ⟨rfl,hH⟩
  rw [hH]; clear hH H'
  refine ⟨by simp only [echoOk,t1,same_int,Bool.and_self,SX,Nat.reduceEqDiff,↓reduceIte],?_⟩
  have e1 : IntKind.wrap .i64 (min (oneP a.1.L 0 1) (t.h : Int) - 1) = (((min (oneP a.1.L 0 1) (t.h : Int) - 1).toNat : Nat) : Int) := by rw [wrapI64 (by omega) (by omega)]; omega
  obtain ⟨Y,hY⟩ : ∃ Y,(min (oneP a.1.L 0 1) (t.h : Int) - 1).toNat = Y := ⟨_,rfl⟩
  rw [hY] at e1 ⊢
  obtain ⟨H3,s3,g3,k3,_⟩ := g2.store (o := 4) (v := .int .i64 (Y : Int)) rfl (by simp [tcs])
  have g3 : Hp base H3 (⟨b,1,tcs { t with y := Y } (.slc rb 0 M.length M.length) pb⟩ :: ⟨q,6,a.1.cs⟩ :: ⟨rb,1,rowsV M⟩ :: (rowsC M ++ (a.2 ++ l))) := g3
  obtain ⟨_,_,w43⟩ := ve g3
  obtain ⟨t03,_,_⟩ := lt g3
  have t03 : loadV H3 Option.none (.ptr b 0) = some (.int .i64 t.w) := t03
  have isl3 := hp.sl g3 (fun x hx => List.mem_cons_of_mem _ (List.mem_cons_of_mem _ (List.mem_cons_of_mem _ (List.mem_append_right _ (List.mem_append_left _ hx)))))
  simp only [e1,s3,w43,t03,SX,reduceCtorEq,Nat.reduceEqDiff,↓reduceIte]
  refine (one_spec tq isl3 1 1).mono ?_
  rintro _ H' ⟨rfl,hH⟩
  rw [hH]; clear hH H'
  refine ⟨by simp only [echoOk,t03,same_int,Bool.and_self,SX,Nat.reduceEqDiff,↓reduceIte],?_⟩
  have e2 : IntKind.wrap .i64 (min (oneP a.1.L 1 1) (t.w : Int) - 1) = (((min (oneP a.1.L 1 1) (t.w : Int) - 1).toNat : Nat) : Int) := by rw [wrapI64 (by omega) (by omega)]; omega
  obtain ⟨X,hX⟩ : ∃ X,(min (oneP a.1.L 1 1) (t.w : Int) - 1).toNat = X := ⟨_,rfl⟩
  rw [hX] at e2 ⊢
  obtain ⟨H4,s4,g4,k4,_⟩ := g3.store (o := 3) (v := .int .i64 (X : Int)) rfl (by simp [tcs])
  have g4 : Hp base H4 (⟨b,1,tcs { t with y := Y,x := X } (.slc rb 0 M.length M.length) pb⟩ :: ⟨q,6,a.1.cs⟩ :: ⟨rb,1,rowsV M⟩ :: (rowsC M ++ (a.2 ++ l))) := g4
  simp only [e2,s4,SX,Nat.reduceEqDiff,↓reduceIte]
  exact fin (ik.trans (k3.trans k4)) rfl g4
 have d1 := decide_eq_false c1
 rw [if_neg c1]
 by_cases c2 : S = [109]
 ·have d2 := decide_eq_true c2
  rw [if_pos c2]
  simp only [A38,bx,s1,hq,v3,v2,s2,so,ad,bin_eqls,d1,d2,w4,t5,SX,reduceCtorEq,Nat.reduceEqDiff,↓reduceIte]
  refine (apply_spec tq.at_ (a := t.a) (hp.isL g2 sub2) (by have := hg.n; simp only [Ev.pure] at this; omega) (fun p hp' => by have := hg.len p hp'; omega) g2.fr (hT.keep ik).now).mono ?_
  rintro _ H3 ⟨rfl,gr3⟩
  have g3 := g2.of_gr gr3
  obtain ⟨A,hA⟩ : ∃ A,applyP t.a a.1.L = A := ⟨_,rfl⟩
  rw [hA]
  obtain ⟨H4,s4,g4,k4,_⟩ := g3.storeO (a := [.int .i64 t.w,.int .i64 t.h,.slc rb 0 M.length M.length,.int .i64 t.x,.int .i64 t.y]) (x := t.a.cs) (c := [.bool t.hid,.ptr pb 0]) (o := 5) rfl rfl (n := 5) (new := A.cs) rfl rfl rfl
  have s4 : storeE H3 5 (.ptr b 5) A.val = some (.undef,H4) := s4
  have g4 : Hp base H4 (⟨b,1,tcs { t with a := A } (.slc rb 0 M.length M.length) pb⟩ :: ⟨q,6,a.1.cs⟩ :: ⟨rb,1,rowsV M⟩ :: (rowsC M ++ (a.2 ++ l))) := g4
  simp only [s4,SX,Nat.reduceEqDiff,↓reduceIte]
  exact fin (ik.trans ((gr3.keep.le g2.bn).trans k4)) rfl g4
 have d2 := decide_eq_false c2
 rw [if_neg c2]
 by_cases c3 : S = [74]
 ·have d3 := decide_eq_true c3
  rw [if_pos c3]
  simp only [A38,bx,s1,hq,v3,v2,s2,so,ad,bin_eqls,d1,d2,d3,w4,SX,Nat.reduceEqDiff,↓reduceIte]
  refine (one_spec tq isl 0 0).mono ?_
  rintro _ H' ⟨rfl,hH⟩
  rw [hH]; clear hH H'
  by_cases c4 : oneP a.1.L 0 0 = 2
  ·have d4 := decide_eq_true c4
   rw [if_pos c4]
   simp only [d4,SX,reduceCtorEq,↓reduceIte]
   refine (tblank_spec tq g2 kw kh).mono ?_
   rintro _ H3 ⟨k3,rb',M',hM',g3⟩
   simp only [SX]
   refine ⟨ik.trans k3,_,⟨rb',M',hM',rfl⟩,?_⟩
   have g4 : Hp base H3 ((⟨q,6,a.1.cs⟩ :: ⟨rb,1,rowsV M⟩ :: rowsC M) ++ ((⟨b,1,tcs t (.slc rb' 0 M'.length M'.length) pb⟩ :: ⟨rb',1,rowsV M'⟩ :: rowsC M') ++ (a.2 ++ l))) := perm_c g3 fun a => by simp only [cnt_cons,cnt_append]; omega
   exact g4.sub (List.sublist_append_right _ _)
  ·have d4 := decide_eq_false c4
   rw [if_neg c4]
   simp only [d4,SX,↓reduceIte]
   exact fin ik rfl g2
 have d3 := decide_eq_false c3
 rw [if_neg c3]
 have ln := isl.len
 have rest : ∀ (b4 b5 : Bool),decide (S = [63,104]) = b4 -> decide (S = [63,108]) = b5 -> True := fun _ _ _ _ => trivial
 by_cases c45 : S = [63,104] \/ S = [63,108]
 ·rw [if_pos c45]
  have d45 : decide (S = [63,104]) = true \/ (decide (S = [63,104]) = false /\ decide (S = [63,108]) = true) := by
   by_cases c4 : S = [63,104]
   ·exact .inl (decide_eq_true c4)
   ·exact .inr ⟨decide_eq_false c4,decide_eq_true (c45.resolve_left c4)⟩
  rcases L25 a.1.L with hL | ⟨hL,hL2⟩
  ·rw [if_pos hL]
   have n1 : decide (((a.1.L).length : Int) = 1) = true := by rw [hL]; rfl
   have ix := isl.at (i := 0) (by omega) (by rw [hL]; decide) .i64
   obtain ⟨c,lc,hc⟩ := isl.get (i := 0) (a := [25]) (by rw [hL]; rfl)
   have hc : IsSl IsInt H2 c [25] := hc
   have lnc := hc.len
   have ixc := hc.at (i := 0) (by omega) (by decide) .i64
   have lcc := hc.int (i := 0) (a := 25) rfl
   obtain ⟨H3,s3,g3,k3,_⟩ := g2.store (o := 10) (v := .bool (decide (a.1.f = 108))) rfl (by simp [tcs])
   have g3 : Hp base H3 (⟨b,1,tcs { t with hid := decide (a.1.f = 108) } (.slc rb 0 M.length M.length) pb⟩ :: ⟨q,6,a.1.cs⟩ :: ⟨rb,1,rowsV M⟩ :: (rowsC M ++ (a.2 ++ l))) := g3
   rcases d45 with d4 | ⟨d4,d5⟩
   ·simp only [A38,bx,s1,hq,v3,v2,s2,so,ad,bin_eqls,d1,d2,d3,d4,w4,w2,ln,n1,ix,lc,lnc,ixc,lcc,s3,List.length_cons,List.length_nil,Int.natCast_one,SX,reduceCtorEq,Nat.reduceEqDiff,↓reduceIte]
    exact fin (ik.trans k3) rfl g3
   ·simp only [A38,bx,s1,hq,v3,v2,s2,so,ad,bin_eqls,d1,d2,d3,d4,d5,w4,w2,ln,n1,ix,lc,lnc,ixc,lcc,s3,List.length_cons,List.length_nil,Int.natCast_one,SX,reduceCtorEq,Nat.reduceEqDiff,↓reduceIte]
    exact fin (ik.trans k3) rfl g3
  ·rw [if_neg hL]
   rcases hL2 with hn | ⟨p,hLp,hp2⟩
   ·have n1 : decide (((a.1.L).length : Int) = 1) = false := decide_eq_false (by omega)
    rcases d45 with d4 | ⟨d4,d5⟩
    ·simp only [A38,bx,s1,hq,v3,v2,s2,so,ad,bin_eqls,d1,d2,d3,d4,w4,ln,n1,SX,Nat.reduceEqDiff,↓reduceIte]
     exact fin ik rfl g2
    ·simp only [A38,bx,s1,hq,v3,v2,s2,so,ad,bin_eqls,d1,d2,d3,d4,d5,w4,ln,n1,SX,Nat.reduceEqDiff,↓reduceIte]
     exact fin ik rfl g2
   ·have n1 : decide (((a.1.L).length : Int) = 1) = true := by rw [hLp]; rfl
    have ix := isl.at (i := 0) (by omega) (by rw [hLp]; simp) .i64
    obtain ⟨c,lc,hc⟩ := isl.get (i := 0) (a := p) (by rw [hLp]; rfl)
    have hc : IsSl IsInt H2 c p := hc
    have lnc := hc.len
    rcases hp2 with hn | ⟨x,rfl,hx⟩
    ·have n2 : decide ((p.length : Int) = 1) = false := decide_eq_false (by omega)
     rcases d45 with d4 | ⟨d4,d5⟩
     ·simp only [A38,bx,s1,hq,v3,v2,s2,so,ad,bin_eqls,d1,d2,d3,d4,w4,ln,n1,ix,lc,lnc,n2,SX,Nat.reduceEqDiff,↓reduceIte]
      exact fin ik rfl g2
     ·simp only [A38,bx,s1,hq,v3,v2,s2,so,ad,bin_eqls,d1,d2,d3,d4,d5,w4,ln,n1,ix,lc,lnc,n2,SX,Nat.reduceEqDiff,↓reduceIte]
      exact fin ik rfl g2
    ·have n2 : decide ((([x] : List Int).length : Int) = 1) = true := rfl
     have ixc := hc.at (i := 0) (by omega) (by simp) .i64
     have lcc := hc.int (i := 0) (a := x) rfl
     have n3 := decide_eq_false hx
     rcases d45 with d4 | ⟨d4,d5⟩
     ·simp only [A38,bx,s1,hq,v3,v2,s2,so,ad,bin_eqls,d1,d2,d3,d4,w4,ln,n1,ix,lc,lnc,n2,ixc,lcc,n3,SX,Nat.reduceEqDiff,↓reduceIte]
      exact fin ik rfl g2
     ·simp only [A38,bx,s1,hq,v3,v2,s2,so,ad,bin_eqls,d1,d2,d3,d4,d5,w4,ln,n1,ix,lc,lnc,n2,ixc,lcc,n3,SX,Nat.reduceEqDiff,↓reduceIte]
      exact fin ik rfl g2
 ·rw [if_neg c45]
  have d4 : decide (S = [63,104]) = false := decide_eq_false fun e => c45 (.inl e)
  have d5 : decide (S = [63,108]) = false := decide_eq_false fun e => c45 (.inr e)
  simp only [A38,bx,s1,hq,v3,v2,s2,so,ad,bin_eqls,d1,d2,d3,d4,d5,SX,Nat.reduceEqDiff,↓reduceIte]
  exact fin ik rfl g2
set_option maxHeartbeats 8000000 in
theorem tdoes_spec {t : Tm} {cs l : List Cel} {a : EvC} (k : t.Ok) (hc : TmC b pb t cs) (hp : PRv a.1.v a.1.L a.2) (hg : EvG a.1.pure) (h : Hp base H (cs ++ (a.2 ++ l))) (hT : Tabd base H) :
  FnTo Q 24 [.ptr b 0,a.1.val] H (fun _ H' => Keep base H H' /\ ∃ cs',TmC b pb (t.does a.1.pure) cs' /\ Hp base H' (cs' ++ (a.2 ++ l))) := by
 refine fn_wp (tq.at_.ho 24 rfl _) tq.q24 (by simp [A24]) ?_
 have kw := k.w
 have kh := k.h
 have ky := k.y
 have bx := box_evV (a := a.1) hp.one
 obtain ⟨H1,s1,g1,k1⟩ := h.make a.1.cs 6
 have v0 := g1.load (List.mem_cons_self ..) (o := 0) (v := .int .i64 a.1.k) rfl
 have v1 := g1.load (List.mem_cons_self ..) (o := 1) (v := .int .i32 a.1.r) rfl
 have v2 := g1.load (List.mem_cons_self ..) (o := 2) (v := .int .u8 a.1.f) rfl
 have v6 : loadV H1 (some 6) (.ptr H.next 0) = some a.1.val := g1.loadN (List.mem_cons_self ..) rfl
 have hT1 := hT.keep k1
 have g2 : Hp base H1 (cs ++ (a.2 ++ (⟨H.next,6,a.1.cs⟩ :: l))) := perm_c g1 fun a => by simp only [cnt_cons,cnt_append]; omega
 have fin : ∀ {H' cs'},Hp base H' (cs' ++ (a.2 ++ (⟨H.next,6,a.1.cs⟩ :: l))) -> Hp base H' (cs' ++ (a.2 ++ l)) := fun {H' cs'} g => by
  have g' : Hp base H' (⟨H.next,6,a.1.cs⟩ :: (cs' ++ (a.2 ++ l))) := perm_c g fun a => by simp only [cnt_cons,cnt_append]; omega
  exact g'.drop
 unfold Tm.does
 by_cases c1 : a.1.k = 1
 ·have d1 := decide_eq_true c1
  rw [if_pos (show a.1.pure.k = 1 from c1)]
  simp only [A24,bx,s1,v0,v1,d1,SX,reduceCtorEq,Nat.reduceEqDiff,↓reduceIte]
  refine (prints_spec' tq k hc g2 hT1 a.1.r).mono ?_
  rintro _ H2 ⟨k2,cs',hc',g3⟩
  simp only [SX]
  exact ⟨k1.trans k2,cs',hc',fin g3⟩
 have d1 := decide_eq_false c1
 rw [if_neg (show ¬ a.1.pure.k = 1 from c1)]
 by_cases c2 : a.1.k = 4
 ·have d2 := decide_eq_true c2
  rw [if_pos (show a.1.pure.k = 4 from c2)]
  simp only [A24,bx,s1,v0,v6,d1,d2,SX,reduceCtorEq,Nat.reduceEqDiff,↓reduceIte]
  refine (csi_spec tq k hc hp hg g2 hT1).mono ?_
  rintro _ H2 ⟨k2,cs',hc',g3⟩
  simp only [SX]
  exact ⟨k1.trans k2,cs',hc',fin g3⟩
 have d2 := decide_eq_false c2
 rw [if_neg (show ¬ a.1.pure.k = 4 from c2)]
 obtain ⟨rb,M,hM,rfl⟩ := hc
 have g3 : Hp base H1 (⟨b,1,tcs t (.slc rb 0 M.length M.length) pb⟩ :: ⟨rb,1,rowsV M⟩ :: (rowsC M ++ (a.2 ++ (⟨H.next,6,a.1.cs⟩ :: l)))) := by simpa using g2
 have m4 := g3.load (List.mem_cons_self ..) (o := 4) (v := .int .i64 t.y) rfl
 have m1 := g3.load (List.mem_cons_self ..) (o := 1) (v := .int .i64 t.h) rfl
 have pr : a.1.pure.k = a.1.k /\ a.1.pure.f = a.1.f := ⟨rfl,rfl⟩
 rw [pr.1,pr.2]
 have stay : Keep base H H1 /\ ∃ cs',TmC b pb t cs' /\ Hp base H1 (cs' ++ (a.2 ++ l)) := ⟨k1,_,⟨rb,M,hM,rfl⟩,fin g2⟩
 by_cases c3 : a.1.k = 2
 ·have d3 := decide_eq_true c3
  by_cases c4 : a.1.f = 13
  ·have d4 := decide_eq_true c4
   rw [if_pos ⟨c3,c4⟩]
   obtain ⟨H2,s2,g4,k2,_⟩ := g3.store (o := 3) (v := .int .i64 0) rfl (by simp [tcs])
   have g4 : Hp base H2 ((⟨b,1,tcs { t with x := 0 } (.slc rb 0 M.length M.length) pb⟩ :: ⟨rb,1,rowsV M⟩ :: rowsC M) ++ (a.2 ++ (⟨H.next,6,a.1.cs⟩ :: l))) := g4
   simp only [A24,bx,s1,v0,v2,d1,d2,d3,d4,s2,SX,reduceCtorEq,Nat.reduceEqDiff,↓reduceIte]
   exact ⟨k1.trans k2,_,⟨rb,M,hM,rfl⟩,fin g4⟩
  ·have d4 := decide_eq_false c4
   rw [if_neg (fun hh => c4 hh.2)]
   by_cases c5 : a.1.f = 10
   ·have d5 := decide_eq_true c5
    rw [if_pos ⟨c3,c5⟩]
    have w1 : IntKind.wrap .i64 ((t.y : Int) + 1) = ((t.y + 1 : Nat) : Int) := wrapNat (n := t.y + 1) (by omega)
    have w2 : IntKind.wrap .i64 ((t.h : Int) - 1) = ((t.h - 1 : Nat) : Int) := by rw [wrapI64 (by omega) (by omega)]; omega
    have w3 : min ((t.y + 1 : Nat) : Int) ((t.h - 1 : Nat) : Int) = ((min (t.y + 1) (t.h - 1) : Nat) : Int) := by omega
    obtain ⟨H2,s2,g4,k2,_⟩ := g3.store (o := 4) (v := .int .i64 ((min (t.y + 1) (t.h - 1) : Nat) : Int)) rfl (by simp [tcs])
    have g4 : Hp base H2 ((⟨b,1,tcs { t with y := min (t.y + 1) (t.h - 1) } (.slc rb 0 M.length M.length) pb⟩ :: ⟨rb,1,rowsV M⟩ :: rowsC M) ++ (a.2 ++ (⟨H.next,6,a.1.cs⟩ :: l))) := g4
    simp only [A24,bx,s1,v0,v2,d1,d2,d3,d4,d5,m4,m1,w1,w2,w3,s2,SX,reduceCtorEq,Nat.reduceEqDiff,↓reduceIte]
    exact ⟨k1.trans k2,_,⟨rb,M,hM,rfl⟩,fin g4⟩
   ·have d5 := decide_eq_false c5
    rw [if_neg (fun hh => c5 hh.2)]
    simp only [A24,bx,s1,v0,v2,d1,d2,d3,d4,d5,SX,Nat.reduceEqDiff,↓reduceIte]
    exact stay
 ·have d3 := decide_eq_false c3
  rw [if_neg (fun hh => c3 hh.1),if_neg (fun hh => c3 hh.1)]
  simp only [A24,bx,s1,v0,d1,d2,d3,SX,Nat.reduceEqDiff,↓reduceIte]
  exact stay
end
end Go.Proofs.YtfbcgjpblomckaaDoor.AM.EvN
