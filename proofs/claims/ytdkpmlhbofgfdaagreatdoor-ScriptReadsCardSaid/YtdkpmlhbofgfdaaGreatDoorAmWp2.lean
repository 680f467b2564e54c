/-
  The operations that read, as functions of values: what the walk leaves where a value is not known.
-/
import Derived.Test.YtdkpmlhbofgfdaaGreatDoorAmWp
set_option linter.unusedVariables false
namespace Go.Proofs.YtdkpmlhbofgfdaaGreatDoor.AM
open Go
def pickV  (c a b : AV) : Option AV := ROp.run ⟨0, .nil⟩ .nil (.pick (.c c) (.c a) (.c b))
theorem run_pick (H : AHeap) (e : Env)  (c a b : Opd) : ROp.run H e (.pick c a b) = pickV  (c.ev e) (a.ev e) (b.ev e) := rfl
def nilckV  (x : AV) : Option AV := ROp.run ⟨0, .nil⟩ .nil (.nilck (.c x))
theorem run_nilck (H : AHeap) (e : Env)  (x : Opd) : ROp.run H e (.nilck x) = nilckV  (x.ev e) := rfl
def beqV (g : Bool) (x y : AV) : Option AV := ROp.run ⟨0, .nil⟩ .nil (.beq g (.c x) (.c y))
theorem run_beq (H : AHeap) (e : Env) (g : Bool) (x y : Opd) : ROp.run H e (.beq g x y) = beqV g (x.ev e) (y.ev e) := rfl
def nileqV' (k : Nat) (g : Bool) (x y : AV) : Option AV := ROp.run ⟨0, .nil⟩ .nil (.nileq k g (.c x) (.c y))
theorem run_nileq (H : AHeap) (e : Env) (k : Nat) (g : Bool) (x y : Opd) : ROp.run H e (.nileq k g x y) = nileqV' k g (x.ev e) (y.ev e) := rfl
def seqV (ks : List Nat) (g : Bool) (x y : AV) : Option AV := ROp.run ⟨0, .nil⟩ .nil (.seq ks g (.c x) (.c y))
theorem run_seq (H : AHeap) (e : Env) (ks : List Nat) (g : Bool) (x y : Opd) : ROp.run H e (.seq ks g x y) = seqV ks g (x.ev e) (y.ev e) := rfl
def negV  (x : AV) : Option AV := ROp.run ⟨0, .nil⟩ .nil (.neg (.c x))
theorem run_neg (H : AHeap) (e : Env)  (x : Opd) : ROp.run H e (.neg x) = negV  (x.ev e) := rfl
def notV  (x : AV) : Option AV := ROp.run ⟨0, .nil⟩ .nil (.not (.c x))
theorem run_not (H : AHeap) (e : Env)  (x : Opd) : ROp.run H e (.not x) = notV  (x.ev e) := rfl
def cvIntV (k : IntKind) (x : AV) : Option AV := ROp.run ⟨0, .nil⟩ .nil (.cvInt k (.c x))
theorem run_cvInt (H : AHeap) (e : Env) (k : IntKind) (x : Opd) : ROp.run H e (.cvInt k x) = cvIntV k (x.ev e) := rfl
def cvRuneV  (x : AV) : Option AV := ROp.run ⟨0, .nil⟩ .nil (.cvRune (.c x))
theorem run_cvRune (H : AHeap) (e : Env)  (x : Opd) : ROp.run H e (.cvRune x) = cvRuneV  (x.ev e) := rfl
def cvStrV  (x : AV) : Option AV := ROp.run ⟨0, .nil⟩ .nil (.cvStr (.c x))
theorem run_cvStr (H : AHeap) (e : Env)  (x : Opd) : ROp.run H e (.cvStr x) = cvStrV  (x.ev e) := rfl
def mkIfaceV (t : TypeId) (x : AV) : Option AV := ROp.run ⟨0, .nil⟩ .nil (.mkIface t (.c x))
theorem run_mkIface (H : AHeap) (e : Env) (t : TypeId) (x : Opd) : ROp.run H e (.mkIface t x) = mkIfaceV t (x.ev e) := rfl
def fieldV (off : Nat) (sz : Option Nat) (x : AV) : Option AV := ROp.run ⟨0, .nil⟩ .nil (.field off sz (.c x))
theorem run_field (H : AHeap) (e : Env) (off : Nat) (sz : Option Nat) (x : Opd) : ROp.run H e (.field off sz x) = fieldV off sz (x.ev e) := rfl
def fieldAddrV (off : Nat) (x : AV) : Option AV := ROp.run ⟨0, .nil⟩ .nil (.fieldAddr off (.c x))
theorem run_fieldAddr (H : AHeap) (e : Env) (off : Nat) (x : Opd) : ROp.run H e (.fieldAddr off x) = fieldAddrV off (x.ev e) := rfl
def idxSV (es : Nat) (x y : AV) : Option AV := ROp.run ⟨0, .nil⟩ .nil (.idxS es (.c x) (.c y))
theorem run_idxS (H : AHeap) (e : Env) (es : Nat) (x y : Opd) : ROp.run H e (.idxS es x y) = idxSV es (x.ev e) (y.ev e) := rfl
def idxAV (n es : Nat) (x y : AV) : Option AV := ROp.run ⟨0, .nil⟩ .nil (.idxA n es (.c x) (.c y))
theorem run_idxA (H : AHeap) (e : Env) (n es : Nat) (x y : Opd) : ROp.run H e (.idxA n es x y) = idxAV n es (x.ev e) (y.ev e) := rfl
def idxArrV (n es : Nat) (sz : Option Nat) (x y : AV) : Option AV := ROp.run ⟨0, .nil⟩ .nil (.idxArr n es sz (.c x) (.c y))
theorem run_idxArr (H : AHeap) (e : Env) (n es : Nat) (sz : Option Nat) (x y : Opd) : ROp.run H e (.idxArr n es sz x y) = idxArrV n es sz (x.ev e) (y.ev e) := rfl
def idxStrV  (x y : AV) : Option AV := ROp.run ⟨0, .nil⟩ .nil (.idxStr (.c x) (.c y))
theorem run_idxStr (H : AHeap) (e : Env)  (x y : Opd) : ROp.run H e (.idxStr x y) = idxStrV  (x.ev e) (y.ev e) := rfl
def extractV (i : Nat) (x : AV) : Option AV := ROp.run ⟨0, .nil⟩ .nil (.extract i (.c x))
theorem run_extract (H : AHeap) (e : Env) (i : Nat) (x : Opd) : ROp.run H e (.extract i x) = extractV i (x.ev e) := rfl
def lngV (H : AHeap) (k : Nat) (x : AV) : Option AV := ROp.run H .nil (.lng k (.c x))
theorem run_lng (H : AHeap) (e : Env) (k : Nat) (x : Opd) : ROp.run H e (.lng k x) = lngV H k (x.ev e) := rfl
def loadV (H : AHeap) (sz : Option Nat) (x : AV) : Option AV := ROp.run H .nil (.load sz (.c x))
theorem run_load (H : AHeap) (e : Env) (sz : Option Nat) (x : Opd) : ROp.run H e (.load sz x) = loadV H sz (x.ev e) := rfl
def strOfBytesV (H : AHeap)  (x : AV) : Option AV := ROp.run H .nil (.strOfBytes (.c x))
theorem run_strOfBytes (H : AHeap) (e : Env)  (x : Opd) : ROp.run H e (.strOfBytes x) = strOfBytesV H  (x.ev e) := rfl
def strOfRunesV (H : AHeap)  (x : AV) : Option AV := ROp.run H .nil (.strOfRunes (.c x))
theorem run_strOfRunes (H : AHeap) (e : Env)  (x : Opd) : ROp.run H e (.strOfRunes x) = strOfRunesV H  (x.ev e) := rfl
theorem run_mv (H : AHeap) (e : Env) (x : Opd) : ROp.run H e (.mv x) = some (x.ev e) := rfl
theorem run_bin (H : AHeap) (e : Env) (op : BinOp) (x y : Opd) : ROp.run H e (.bin op x y) = binV op (x.ev e) (y.ev e) := rfl
theorem run_lenC (H : AHeap) (e : Env) (n : Nat) : ROp.run H e (.lenC n) = some (.int .i64 n) := rfl
theorem run_mkFn (H : AHeap) (e : Env) (f : Fn) (a b : List Opd) : ROp.run H e (.mkFn f a b) = some (.fn f (a.map (·.ev e)) (b.map (·.ev e))) := rfl
def mnmxV (isMax : Bool) (x : AV) (xs : List AV) : Option AV := match x with | .int k n => mnmxL isMax (.int k n) xs | _ => none
theorem run_mnmx (H : AHeap) (e : Env) (isMax : Bool) (x : Opd) (xs : List Opd) : ROp.run H e (.mnmx isMax x xs) = mnmxV isMax (x.ev e) (xs.map (·.ev e)) := rfl
theorem mnmxV2 (k : IntKind) (x y : Int) (isMax : Bool) : mnmxV isMax (.int k x) [.int k y] = some (.int k (if isMax then (if y > x then y else x) else (if y < x then y else x))) := by simp [mnmxV, mnmxL, mnmx2]
theorem mnmxV2max (k : IntKind) (x y : Int) : mnmxV true (.int k x) [.int k y] = some (.int k (max x y)) := by
  rw [mnmxV2]; simp only [if_true]; congr 2; split <;> omega
theorem mnmxV2min (k : IntKind) (x y : Int) : mnmxV false (.int k x) [.int k y] = some (.int k (min x y)) := by
  rw [mnmxV2]; simp only [Bool.false_eq_true, if_false]; congr 2; split <;> omega
theorem pickV_bool (c : Bool) (a b : AV) : pickV (.bool c) a b = some (if c then a else b) := rfl
theorem pickV_true (a b : AV) : pickV (.bool true) a b = some a := rfl
theorem pickV_false (a b : AV) : pickV (.bool false) a b = some b := rfl
theorem nilckV_ptr (b o : Nat) : nilckV (.ptr b o) = some (.ptr b o) := rfl
theorem beqV_bool (g a b : Bool) : beqV g (.bool a) (.bool b) = some (.bool (xor g (a == b))) := rfl
theorem negV_int (k : IntKind) (n : Int) : negV (.int k n) = some (.int k (k.wrap (0 - n))) := rfl
theorem notV_bool (b : Bool) : notV (.bool b) = some (.bool !b) := rfl
theorem cvIntV_int (k j : IntKind) (n : Int) : cvIntV k (.int j n) = some (.int k (k.wrap n)) := rfl
theorem cvStrV_str (s : List UInt8) : cvStrV (.str s) = some (.str s) := rfl
theorem fieldAddrV_ptr (off b o : Nat) : fieldAddrV off (.ptr b o) = some (.ptr b (o + off)) := rfl
theorem fieldV_agg (off : Nat) (sz : Option Nat) (cs : List AV) : fieldV off sz (.agg cs) = sub cs off sz := rfl
theorem extractV_tup (i : Nat) (vs : List AV) : extractV i (.tup vs) = vs[i]? := rfl
theorem lngV_str (H : AHeap) (s : List UInt8) : lngV H 0 (.str s) = some (.int .i64 s.length) := rfl
theorem lngV_nils (H : AHeap) : lngV H 1 .nils = some (.int .i64 0) := rfl
theorem lngV_slc (H : AHeap) (b o len cap : Nat) : lngV H 1 (.slc b o len cap) = some (.int .i64 len) := rfl
theorem nileqV_of (k : Nat) (g : Bool) (x y : AV) (b : Bool) (h : nileqV k x y = some b) : nileqV' k g x y = some (.bool (xor g b)) := by
  show (match nileqV k x y with | some b => some (AV.bool (xor g b)) | none => none) = _
  rw [h]
theorem bin_add (k : IntKind) (a b : Int) : binV .add (.int k a) (.int k b) = some (.int k (k.wrap (a + b))) := by simp [binV, intBin]
theorem bin_sub (k : IntKind) (a b : Int) : binV .sub (.int k a) (.int k b) = some (.int k (k.wrap (a - b))) := by simp [binV, intBin]
theorem bin_mul (k : IntKind) (a b : Int) : binV .mul (.int k a) (.int k b) = some (.int k (k.wrap (a * b))) := by simp [binV, intBin]
theorem bin_eql (k : IntKind) (a b : Int) : binV .eql (.int k a) (.int k b) = some (.bool (decide (a = b))) := by simp [binV, intBin, BEq.beq]
theorem bin_neq (k : IntKind) (a b : Int) : binV .neq (.int k a) (.int k b) = some (.bool (!decide (a = b))) := by simp [binV, intBin, bne, BEq.beq]
theorem bin_lss (k : IntKind) (a b : Int) : binV .lss (.int k a) (.int k b) = some (.bool (decide (a < b))) := by simp [binV, intBin]
theorem bin_leq (k : IntKind) (a b : Int) : binV .leq (.int k a) (.int k b) = some (.bool (decide (a ≤ b))) := by simp [binV, intBin]
theorem bin_gtr (k : IntKind) (a b : Int) : binV .gtr (.int k a) (.int k b) = some (.bool (decide (b < a))) := by simp [binV, intBin]
theorem bin_geq (k : IntKind) (a b : Int) : binV .geq (.int k a) (.int k b) = some (.bool (decide (b ≤ a))) := by simp [binV, intBin]

theorem echoOk_nil (H : AHeap) (e : Env) : echoOk H e [] = true := rfl
theorem wp_call (Q : Prog) (H : AHeap) (e : Env) (K : AV → AHeap → Prop) (f : FuncId) (args : List Opd) : EOp.wp Q H e K (.call f args) = FnTo Q f (args.map (·.ev e)) H K := rfl
theorem loop_by {w : PostC → PostO} {K : PostC} {e : Env} {H : AHeap} (I : Nat → Env → AHeap → Prop) (m : Nat) (h0 : I m e H) (hs : ∀ m e H, I m e H → w (loopK I m K) e H) : loopW w K e H := ⟨I, m, h0, hs⟩
theorem wrapI64 {x : Int} (h0 : -9223372036854775808 ≤ x) (h1 : x ≤ 9223372036854775807) : IntKind.wrap .i64 x = x := by
  simp [IntKind.wrap, IntKind.signed, IntKind.bits]
  omega
theorem idxSV_slc {b o n cap : Nat} {k : IntKind} {i : Nat} (h : i < n) : idxSV 1 (.slc b o n cap) (.int k i) = some (.ptr b (o + i)) := by
  simp only [idxSV, ROp.run, Opd.ev, inIndex, if_pos (show 0 ≤ (i : Int) ∧ (i : Int) < (n : Int) by omega), Nat.mul_one, Int.toNat_natCast]
/-! ### Slices -/
/-- a slice of one-celled elements -/
def IsSl {α : Type} (R : AHeap → α → AV → Prop) (H : AHeap) (v : AV) (l : List α) : Prop :=
  (v = .nils ∧ l = []) ∨ ∃ b o cap B, v = .slc b o l.length cap ∧ H.row b = some B ∧ ∀ i x, l[i]? = some x → ∃ c, B.cells[o + i]? = some c ∧ R H x c
def IsInt (_ : AHeap) (x : Int) (c : AV) : Prop := c = .int .i64 x
def IsInts (H : AHeap) (x : List Int) (c : AV) : Prop := IsSl IsInt H c x
def atOf (v : AV) (i : Int) : AV := match v with | .slc b o _ _ => .ptr b (o + i.toNat) | _ => .undef
section
variable {α : Type} {R : AHeap → α → AV → Prop} {H : AHeap} {v : AV} {l : List α}
theorem IsSl.len (h : IsSl R H v l) : lngV H 1 v = some (.int .i64 l.length) := by
  rcases h with ⟨rfl, rfl⟩ | ⟨b, o, cap, B, rfl, hB, hc⟩ <;> rfl
theorem IsSl.at (h : IsSl R H v l) {i : Int} (h0 : 0 ≤ i) (h1 : i < l.length) (k : IntKind) : idxSV 1 v (.int k i) = some (atOf v i) := by
  rcases h with ⟨rfl, rfl⟩ | ⟨b, o, cap, B, rfl, hB, hc⟩
  · simp at h1; omega
  · simp only [idxSV, ROp.run, Opd.ev, inIndex, if_pos (show 0 ≤ i ∧ i < (l.length : Int) from ⟨h0, h1⟩), atOf, Nat.mul_one]
theorem IsSl.get (h : IsSl R H v l) {i : Int} {a : α} (ha : l[i.toNat]? = some a) : ∃ c, loadV H none (atOf v i) = some c ∧ R H a c := by
  rcases h with ⟨rfl, rfl⟩ | ⟨b, o, cap, B, rfl, hB, hc⟩
  · simp at ha
  · obtain ⟨c, h1, h2⟩ := hc _ _ ha
    exact ⟨c, by simp only [loadV, ROp.run, Opd.ev, atOf, hB, h1], h2⟩
theorem IsSl.int {x : List Int} (h : IsSl IsInt H v x) {i : Int} {a : Int} (ha : x[i.toNat]? = some a) : loadV H none (atOf v i) = some (.int .i64 a) := by
  obtain ⟨c, h1, h2⟩ := h.get ha
  rw [h1, h2]
end
end Go.Proofs.YtdkpmlhbofgfdaaGreatDoor.AM
