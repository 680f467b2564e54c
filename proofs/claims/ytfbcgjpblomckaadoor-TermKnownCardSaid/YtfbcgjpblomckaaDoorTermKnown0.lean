/-
  TermKnown: the chapter's examples; halves that are written over; sizes; the law's walk on the abstract machine.
-/
import Derived.Test.YtfbcgjpblomckaaDoorTmX3
set_option linter.unusedVariables false
set_option linter.unusedSimpArgs false
namespace Go.Proofs.YtfbcgjpblomckaaDoor.AM.EvN
open Go
def knS : List UInt8 := [27, 91, 49, 59, 52, 72, 228, 184, 173, 27, 91, 57, 59, 57, 72, 122, 27, 91, 49, 59, 49, 72, 228, 184, 173, 228, 184, 173, 27, 91, 49, 59, 50, 72, 120, 27, 91, 49, 59, 52, 72]
def knR : List (List Ce) := [[⟨32, 0, At.zero⟩, ⟨120, 0, At.zero⟩, ⟨20013, 1, At.zero⟩, ⟨20013, 2, At.zero⟩], [⟨32, 0, At.zero⟩, ⟨32, 0, At.zero⟩, ⟨32, 0, At.zero⟩, ⟨122, 0, At.zero⟩]]
set_option maxRecDepth 100000 in
theorem known_t : ((TP.new 4 2).feed knS).t = ⟨4, 2, knR, 3, 0, At.zero, false⟩ := by kernel_rfl
section
variable {Q : Prog} (tq : TwQ Q) {H : AHeap}
include tq
set_option maxRecDepth 100000 in
set_option maxHeartbeats 16000000 in
theorem law3 (q3 : Q.fns 3 = some A3) (tb : Q.tabs = TT) (yes : Q.orc 10 [] = some (.bool true)) (ht : hasTabs H TT = true) (hf : Fr H) :
    FnTo Q 3 [] H (fun r _ => r = .bool true) := by
  refine fn_wp (tq.at_.ho 3 rfl _) q3 (by simp [A3]) ?_
  have hT := tabd_of hf ht
  have m42 : mayB 4 2 = true := rfl
  have m01 : mayB 0 1 = false := rfl
  have m1 : mayB 1 401 = false := rfl
  have m4 : mayB 400 400 = true := rfl
  simp only [A3, SX, SY, Opd.ev, resVal, resVals, ARes.val, reduceCtorEq, Nat.reduceEqDiff, ↓reduceIte, Int.reduceEq, Int.reduceLT, Int.reduceLE, Nat.reduceAdd]
  refine (termNew_spec tq (Hp.nil H hf) 4 2).mono ?_
  rintro r H1 ⟨k1, hr⟩
  rcases hr with ⟨hx, _⟩ | ⟨_, b1, p1, cs1, rfl, tc1, g1⟩
  · cases hx
  have ok : (TP.new 4 2).Ok := TP.new_ok (by omega) (by omega)
  have tc1 : TerC b1 p1 (TP.new 4 2) cs1 := tc1
  have hk : ([27, 91, 49, 59, 52, 72, 228, 184, 173, 27, 91, 57, 59, 57, 72, 122, 27, 91, 49, 59, 49, 72, 228, 184, 173, 228, 184, 173, 27, 91, 49, 59, 50, 72, 120, 27, 91, 49, 59, 52, 72] : List UInt8) = knS := rfl
  simp only [ex0, ex1, hk, SX, SY, Opd.ev, resVal, resVals, ARes.val, reduceCtorEq, Nat.reduceEqDiff, ↓reduceIte, Int.reduceEq, Int.reduceLT, Int.reduceLE, Nat.reduceAdd]
  refine (termFeed_spec tq ok tc1 g1 (hT.keep k1) knS (by decide) (by decide)).mono ?_
  rintro _ H2 ⟨k2, cs2, ⟨tcl, pcl, tm2, pc2, rfl⟩, g2⟩
  have ok2 := (ok.feed knS).t
  rw [known_t] at tm2 ok2
  simp only [List.append_assoc, List.append_nil] at g2
  simp only [SX, SY, Opd.ev, resVal, resVals, ARes.val, reduceCtorEq, Nat.reduceEqDiff, ↓reduceIte, Int.reduceEq, Int.reduceLT, Int.reduceLE, Nat.reduceAdd]
  refine (matrix_spec tq ok2 tm2 g2).mono ?_
  rintro _ H3 ⟨k3, cb, rfl, g3⟩
  obtain ⟨M, hM⟩ : ∃ M : List AV, mat 4 2 (.slc cb 0 8 8) 3 0 true = M := ⟨_, rfl⟩
  have hm : mat ((4 : Nat) : Int) ((2 : Nat) : Int) (.slc cb 0 knR.flatten.length knR.flatten.length) (if false = true then 0 else ((min 3 (4 - 1) : Nat) : Int)) (if false = true then 0 else ((0 : Nat) : Int)) (!false) = M := hM
  obtain ⟨Z, hZ⟩ : ∃ Z : List AV, [AV.int .i64 0, .int .i64 0, .nils, .int .i64 0, .int .i64 0, .bool false] = Z := ⟨_, rfl⟩
  have hZl : Z.length = 6 := by rw [← hZ]; rfl
  obtain ⟨H4, s4, g4, k4⟩ := g3.make Z 6
  obtain ⟨q, hq⟩ : ∃ q, H3.next = q := ⟨_, rfl⟩
  rw [hq] at g4
  obtain ⟨H5, s5, g5, k5, _⟩ := g4.storeN (n := 6) (new := M) hZl (by rw [← hM]; rfl) (by rw [← hM]; rfl)
  have hgo : (.agg (mat ((4 : Nat) : Int) ((2 : Nat) : Int) (.slc cb 0 knR.flatten.length knR.flatten.length) (if false = true then 0 else ((min 3 (4 - 1) : Nat) : Int)) (if false = true then 0 else ((0 : Nat) : Int)) (!false)) : AV) = .agg M := by rw [hm]
  rw [hgo]
  simp only [hZ, run_allocL, s4, hq, s5, SX, SY, Opd.ev, resVal, resVals, ARes.val, reduceCtorEq, Nat.reduceEqDiff, ↓reduceIte, Int.reduceEq, Int.reduceLT, Int.reduceLE, Nat.reduceAdd]
  refine (termNew_spec tq g5 0 1).mono ?_
  rintro r H6 ⟨k6, hr⟩
  obtain ⟨_, rfl, g6⟩ := hr.resolve_right (fun hx => by cases hx.1)
  simp only [ex0, ex1, SX, SY, Opd.ev, resVal, resVals, ARes.val, reduceCtorEq, Nat.reduceEqDiff, ↓reduceIte, Int.reduceEq, Int.reduceLT, Int.reduceLE, Nat.reduceAdd]
  refine (termNew_spec tq g6 1 401).mono ?_
  rintro r H7 ⟨k7, hr⟩
  obtain ⟨_, rfl, g7⟩ := hr.resolve_right (fun hx => by cases hx.1)
  simp only [ex0, ex1, SX, SY, Opd.ev, resVal, resVals, ARes.val, reduceCtorEq, Nat.reduceEqDiff, ↓reduceIte, Int.reduceEq, Int.reduceLT, Int.reduceLE, Nat.reduceAdd]
  refine (termNew_spec tq g7 400 400).mono ?_
  rintro r H8 ⟨k8, hr⟩
  rcases hr with ⟨hx, _⟩ | ⟨_, b2, p2, cs8, rfl, ⟨tc8, pc8, tm8, hpc8, rfl⟩, g8⟩
  · cases hx
  have tm8 : TmC b2 p2 (Tm.new 400 400) tc8 := tm8
  have ok8 : (Tm.new 400 400).Ok := new_okT (by omega) (by omega)
  have kk : Keep H.next H H8 := ((((k1.trans k2).trans k3).trans (k4.trans k5)).trans (k6.trans k7)).trans k8
  simp only [ex0, ex1, SX, SY, Opd.ev, resVal, resVals, ARes.val, reduceCtorEq, Nat.reduceEqDiff, ↓reduceIte, Int.reduceEq, Int.reduceLT, Int.reduceLE, Nat.reduceAdd]
  refine fn_orc yes (by rw [tb]; exact (hT.keep kk).now) ?_
  have mq : (⟨q, 6, M⟩ : Cel) ∈ ((tc8 ++ pc8) ++ (⟨q, 6, M⟩ :: ⟨cb, 7, rowV knR.flatten⟩ :: (tcl ++ pcl))) := by simp
  have mc : (⟨cb, 7, rowV knR.flatten⟩ : Cel) ∈ ((tc8 ++ pc8) ++ (⟨q, 6, M⟩ :: ⟨cb, 7, rowV knR.flatten⟩ :: (tcl ++ pcl))) := by simp
  have a2 := g8.load mq (o := 2) (v := .slc cb 0 8 8) (by rw [← hM]; rfl)
  have a3 := g8.load mq (o := 3) (v := .int .i64 3) (by rw [← hM]; rfl)
  have a4 := g8.load mq (o := 4) (v := .int .i64 0) (by rw [← hM]; rfl)
  have x7 : idxSV 7 (.slc cb 0 8 8) (.int .i64 7) = some (.ptr cb 49) := ix7 (b := cb) (n := 8) (i := 7) (by omega) .i64
  have x0 : idxSV 7 (.slc cb 0 8 8) (.int .i64 0) = some (.ptr cb 0) := ix7 (b := cb) (n := 8) (i := 0) (by omega) .i64
  have x1 : idxSV 7 (.slc cb 0 8 8) (.int .i64 1) = some (.ptr cb 7) := ix7 (b := cb) (n := 8) (i := 1) (by omega) .i64
  have x2 : idxSV 7 (.slc cb 0 8 8) (.int .i64 2) = some (.ptr cb 14) := ix7 (b := cb) (n := 8) (i := 2) (by omega) .i64
  have x3 : idxSV 7 (.slc cb 0 8 8) (.int .i64 3) = some (.ptr cb 21) := ix7 (b := cb) (n := 8) (i := 3) (by omega) .i64
  have c7 : loadV H8 Option.none (.ptr cb 49) = some (.int .i32 122) := (g8.loadC mc (i := 7) (c := ⟨122, 0, At.zero⟩) rfl).2.1
  have c0 : loadV H8 (some 7) (.ptr cb 0) = some (.agg (Ce.cs ⟨32, 0, At.zero⟩)) := (g8.loadC mc (i := 0) (c := ⟨32, 0, At.zero⟩) rfl).1
  have c1 : loadV H8 Option.none (.ptr cb 7) = some (.int .i32 120) := (g8.loadC mc (i := 1) (c := ⟨120, 0, At.zero⟩) rfl).2.1
  have c2 : loadV H8 Option.none (.ptr cb 15) = some (.int .u8 1) := (g8.loadC mc (i := 2) (c := ⟨20013, 1, At.zero⟩) rfl).2.2.1
  have c3 : loadV H8 Option.none (.ptr cb 22) = some (.int .u8 2) := (g8.loadC mc (i := 3) (c := ⟨20013, 2, At.zero⟩) rfl).2.2.1
  have bd : buildV [.int .i32 0, .int .u8 0, .int .u16 0, .int .u8 0, .int .u32 0, .int .u8 0, .int .u32 0] [(0, 1, .int .i32 32)] = some (.agg (Ce.cs ⟨32, 0, At.zero⟩)) := rfl
  have sq : seqV [1, 1, 1, 1, 1, 1, 1] false (.agg (Ce.cs ⟨32, 0, At.zero⟩)) (.agg (Ce.cs ⟨32, 0, At.zero⟩)) = some (.bool true) := by
    simp [seqV, ROp.run, Opd.ev, Ce.cs, At.cs, cellsEq]
  have g8' : Hp H.next H8 (tc8 ++ (pc8 ++ (⟨q, 6, M⟩ :: ⟨cb, 7, rowV knR.flatten⟩ :: (tcl ++ pcl)))) := by rw [← List.append_assoc]; exact g8
  have e8 : decide (((8 : Nat) : Int) = 8) = true := rfl
  have e16 : decide (((160000 : Nat) : Int) = 160000) = true := rfl
  simp only [e8, a2, a3, a4, x7, x0, x1, x2, x3, c7, c0, c1, c2, c3, run_build, bd, run_seq, sq, wantV_undef, SX, SY, Opd.ev, resVal, resVals, ARes.val, reduceCtorEq, Nat.reduceEqDiff, ↓reduceIte, Int.reduceEq, Int.reduceLT, Int.reduceLE, Nat.reduceAdd]
  refine (matrix_spec tq ok8 tm8 g8').mono ?_
  rintro _ H9 ⟨k9, cb9, rfl, g9⟩
  have fl : ∀ {w h x y : Int} {v : AV} {s : Bool}, fieldV 2 Option.none (.agg (mat w h v x y s)) = some v := fun {w h x y v s} => rfl
  have ln : (Tm.new 400 400).rows.flatten.length = 160000 := by rw [flat_len (n := 400) fun l hl => (ok8.r l hl).1, ok8.n]; rfl
  simp only [fl, ln, e16, SX, SY, Opd.ev, resVal, resVals, ARes.val, reduceCtorEq, Nat.reduceEqDiff, ↓reduceIte, Int.reduceEq, Int.reduceLT, Int.reduceLE, Nat.reduceAdd]
end
end Go.Proofs.YtfbcgjpblomckaaDoor.AM.EvN
