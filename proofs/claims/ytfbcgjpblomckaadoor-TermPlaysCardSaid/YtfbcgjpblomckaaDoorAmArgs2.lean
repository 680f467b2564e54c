import Derived.Test.YtfbcgjpblomckaaDoorAmArgs
set_option linter.unusedVariables false
namespace Go.Proofs.YtfbcgjpblomckaaDoor.AM
open Go
def Agg (P : Program) (t : TypeId) (G : List AV -> Prop) : Prop := ∀ (H : AHeap) (d : Dt) (cs : List AV),WT P d t -> Rd H d cs -> (∃ ps,d = .agg ps) /\ G cs
theorem fld_one {α : Type} {P : Program} {t : TypeId} {ts : List TypeId} {R : AHeap -> α -> AV -> Prop} {G : α -> Prop} (h1 : One P t R G) {H : AHeap} {ps : List Dt} {cs : List AV} (hw : WTF P ps (t :: ts)) (hr : RdL H ps cs) :
  ∃ a c ps' cs',cs = c :: cs' /\ R H a c /\ G a /\ WTF P ps' ts /\ RdL H ps' cs' := by
 cases ps with
 | nil => simp [WTF] at hw
 | cons d ps =>
  simp only [WTF] at hw
  obtain ⟨t',ts',e,hw1,hw2⟩ := hw
  simp only [List.cons.injEq] at e
  obtain ⟨rfl,rfl⟩ := e
  simp only [RdL] at hr
  obtain ⟨c1,c2,rfl,hr1,hr2⟩ := hr
  obtain ⟨_,a,c,rfl,k1,k2⟩ := h1 H d c1 hw1 hr1
  exact ⟨a,c,ps,c2,rfl,k1,k2,hw2,hr2⟩
theorem fld_none {P : Program} {H : AHeap} {ps : List Dt} {cs : List AV} (hw : WTF P ps []) (hr : RdL H ps cs) : cs = [] := by
 cases ps with
 | nil => simpa [RdL] using hr
 | cons d ps => simp [WTF] at hw
theorem agg_of {P : Program} {t : TypeId} {fs : Array Field} {G : List AV -> Prop} (h : P.underlying t = some (.struct fs)) (hG : ∀ (H : AHeap) ps cs,WTF P ps (fs.toList.map (·.type)) -> RdL H ps cs -> G cs) : Agg P t G := by
 intro H d cs hw hr
 cases d with
 | agg ps =>
  simp only [WT,h,Option.some.injEq,TypeDesc.struct.injEq] at hw
  obtain ⟨fs',rfl,hw⟩ := hw
  simp only [Rd] at hr
  exact ⟨⟨ps,rfl⟩,hG H ps cs hw hr⟩
 | int j n => simp [WT,h] at hw
 | bool b => simp [WT,h] at hw
 | str s => simp [WT,h] at hw
 | nils => simp [WT,h] at hw
 | slc es cap => simp [WT,h] at hw
def IsRows (k : Nat) (H : AHeap) (v : AV) (ls : List (List AV)) : Prop :=
 (v = .nils /\ ls = []) \/ ∃ b o cap B,v = .slc b o ls.length cap /\ H.row b = some B /\ ∀ (i : Nat) r,ls[i]? = some r -> r.length = k /\ ∀ (j : Nat) x,r[j]? = some x -> B.cells[o + i * k + j]? = some x
section
variable {k : Nat} {H : AHeap} {v : AV} {ls : List (List AV)}
def atK (k : Nat) (v : AV) (i : Int) (j : Nat) : AV := match v with | .slc b o _ _ => .ptr b (o + i.toNat * k + j) | _ => .undef
theorem IsRows.len (h : IsRows k H v ls) : lngV H 1 v = some (.int .i64 ls.length) := by
 rcases h with ⟨rfl,rfl⟩ | ⟨b,o,cap,B,rfl,hB,hc⟩ <;> rfl
theorem IsRows.at (h : IsRows k H v ls) {i : Int} (h0 : 0 <= i) (h1 : i < ls.length) (kd : IntKind) : idxSV k v (.int kd i) = some (atK k v i 0) := by
 rcases h with ⟨rfl,rfl⟩ | ⟨b,o,cap,B,rfl,hB,hc⟩
 ·simp at h1; omega
 ·simp only [idxSV,ROp.run,Opd.ev,inIndex,if_pos (show 0 <= i /\ i < (ls.length : Int) from ⟨h0,h1⟩),atK,Nat.add_zero]
theorem IsRows.get (h : IsRows k H v ls) {i : Int} {r : List AV} (hr : ls[i.toNat]? = some r) {j : Nat} {x : AV} (hx : r[j]? = some x) : loadV H none (atK k v i j) = some x := by
 rcases h with ⟨rfl,rfl⟩ | ⟨b,o,cap,B,rfl,hB,hc⟩
 ·simp at hr
 ·have := (hc _ _ hr).2 j x hx
  simp only [loadV,ROp.run,Opd.ev,atK,hB,this]
end
end Go.Proofs.YtfbcgjpblomckaaDoor.AM
