
/- The harness's functions on Algebra and []Algebra: size, copy, equality. Printed by genshape.py. -/
import Derived.Test.YtkmcdocbdhhfhaaGreatHOp
import Derived.Deep.RegionHeld3
import Derived.Deep.DeepCutAuto
namespace Go.Proofs.YtkmcdocbdhhfhaaGreat
open Go.RowKit

abbrev AlgebraM : Type := (Int × List OpM)
def shAlgebra : Sh AlgebraM := (Sh.pair Sh.int (Sh.rows shOp 87))
theorem rdAlgebra {w : World} {cs : List Value} {x : AlgebraM} (h : shAlgebra.rd w cs x) : ∃ (AOps : Option Addr) (nOps cOps : Nat), cs = [.int .i64 x.1, .slice AOps nOps cOps] ∧ InR x.1 ∧ RdN shOp.m shOp.rd w AOps nOps x.2 := by
  obtain ⟨_, _, rfl, ⟨_, rfl, rfl, loSize, hiSize⟩, ⟨AOps, nOps, cOps, rfl, rOps⟩⟩ := h
  exact ⟨AOps, nOps, cOps, rfl, ⟨loSize, hiSize⟩, rOps⟩
theorem mkAlgebra {w : World} {x : AlgebraM} {AOps : Option Addr} {nOps cOps : Nat} (hSize : InR x.1) (hOps : RdN shOp.m shOp.rd w AOps nOps x.2) : shAlgebra.rd w [.int .i64 x.1, .slice AOps nOps cOps] x :=
  ⟨[.int .i64 x.1], [.slice AOps nOps cOps], rfl, ⟨_, rfl, rfl, hSize.1, hSize.2⟩, ⟨_, _, _, rfl, hOps⟩⟩
set_option linter.unusedVariables false in
set_option maxHeartbeats 2000000 in
theorem szAlgebra_any (cs : List Value) (x : AlgebraM) (left : Int) (w : World) (h : shAlgebra.rd w cs x) (h0 : 0 ≤ left) (h1 : left ≤ 1048576) :
    Calls Tryz.prog 23 #[.agg cs.toArray, .int .i64 left] w (Bl w (.int .i64 (szR (shAlgebra.cnt x) left))) := by
  obtain ⟨AOps, nOps, cOps, rfl, qSize, qOps⟩ := rdAlgebra h
  obtain ⟨w0, hw0, T0, hsz0, BP⟩ := boxes1 w #[.int .i64 x.1, .slice AOps nOps cOps] 24
  have lOps := qOps.le
  have HC0 : Hid (szR 0 left = left) := szR_zero h0
  have HCN : Hid (shAlgebra.cnt x = (0 + (x.2.length + cntS shOp.cnt x.2))) := rfl
  replace qOps := qOps.next T0
  go_enter Tryz.func23, Tryz.ntmps23
  have cP := BP.cell 1
  simp at cP
  rw [hw0] at cP
  go_wp2_with fail
  rw [← hw0]
  refine (szOpS_any _ _ _ _ left _ qOps (by omega) (by omega)).mono ?_
  rintro e w1 ⟨rfl, hb1⟩
  have T1 := below_next T0 hb1 rfl
  replace BP := BP.next hb1
  replace qOps := qOps.next hb1
  clear cP
  have HC1 : Hid (szR (0 + (x.2.length + cntS shOp.cnt x.2)) left = szR (x.2.length + cntS shOp.cnt x.2) left) := by show _ = _; rw [← szR_add (by rw [HC0.out]; omega), HC0.out]
  have hbd0 := szR_bd (x.2.length + cntS shOp.cnt x.2) (left := left) (by omega)
  obtain ⟨L0, HL0⟩ : ∃ L, Hid (szR (x.2.length + cntS shOp.cnt x.2) left = L) := ⟨_, rfl⟩
  rw [HL0.out] at HC1 hbd0 ⊢
  by_cases z0 : L0 < 0
  · go_wp2_with fail
    go_ret
    exact ⟨ret_int (szR_le (by rw [HC1.out]; omega) (by rw [HCN.out]; omega) h0), T1⟩
  go_wp2_with fail
  go_ret
  exact ⟨ret_int (by simp only [HCN.out, ← HC1.out]; first | done | (congr 1; omega)), T1⟩
set_option linter.unusedVariables false in
set_option maxHeartbeats 4000000 in
theorem toAlgebra_any (cs : List Value) (x : AlgebraM) (w : World) (h : shAlgebra.rd w cs x) (hn : shAlgebra.cnt x ≤ 1048576) :
    Calls Tryz.prog 25 #[.agg cs.toArray] w (ToE shAlgebra w x) := by
  obtain ⟨AOps, nOps, cOps, rfl, qSize, qOps⟩ := rdAlgebra h
  have hcn : (0 + (x.2.length + cntS shOp.cnt x.2)) ≤ 1048576 := hn
  obtain ⟨w0, hw0, T0, hsz0, BP, BR, BO⟩ := boxes3 w #[.int .i64 x.1, .slice AOps nOps cOps] #[.int .i64 0, .slice none 0 0] #[.int .i64 x.1, .slice none 0 0] 24 32
  have eOps := qOps.len
  go_enter Tryz.func25, Tryz.ntmps25
  go_wp2_with fail
  rw [← hw0]
  refine (toOpS_any _ _ _ _ _ (qOps.next T0) (by omega)).mono ?_
  rintro e w1 ⟨vOps, blOps, rfl, OOps, IOps, hb1⟩
  obtain ⟨AyOps, nyOps, cyOps, hv, -⟩ := (Sh.rows shOp 87).ord OOps
  obtain rfl : vOps = .slice AyOps nyOps cyOps := by simpa using hv
  clear hv
  have hz1 := hb1.size
  have T1 := below_next T0 hb1 rfl
  replace BP := BP.next hb1
  replace BR := BR.next hb1
  replace BO := BO.next hb1
  clear hb1
  have cR0 := BR.cell 0
  have fR0 := BR.frozen 0
  have cR1 := BR.cell 1
  have fR1 := BR.frozen 1
  simp at cR0 cR1
  have cP0 := BP.cell 0
  have cP1 := BP.cell 1
  have cO0 := BO.cell 0
  have fO0 := BO.frozen 0
  have cO1 := BO.cell 1
  have fO1 := BO.frozen 1
  simp at cP0 cO0 cP1 cO1
  go_wp2_with fail
  clear cP0 cO0 fO0 cP1 cO1 fO1
  clear cR0 fR0 cR1 fR1
  obtain ⟨w2, hw2⟩ : ∃ wb, wb = (w1.setCell ⟨w.heap.size + 1 + 1, 1, none⟩ (.slice AyOps nyOps cyOps)) := ⟨_, rfl⟩
  have BO' : Blk w2 (w.heap.size + 1 + 1) 32 #[.int .i64 x.1, .slice AyOps nyOps cyOps] := by rw [hw2]; simpa using (BO.set_ 1 (.slice AyOps nyOps cyOps))
  replace BP : Blk w2 w.heap.size 24 #[.int .i64 x.1, .slice AOps nOps cOps] := by rw [hw2]; exact (BP.far (p := ⟨w.heap.size + 1 + 1, 1, none⟩) (by simp; try omega) (.slice AyOps nyOps cyOps))
  replace BR : Blk w2 (w.heap.size + 1) 32 #[.int .i64 0, .slice none 0 0] := by rw [hw2]; exact (BR.far (p := ⟨w.heap.size + 1 + 1, 1, none⟩) (by simp; try omega) (.slice AyOps nyOps cyOps))
  replace BO := BO'
  clear BO'
  have T2 : Below w.heap.size w w2 := by rw [hw2]; exact (T1.setCell (by simp; try omega) (.slice AyOps nyOps cyOps))
  have hz2 : w2.heap.size = w1.heap.size := by rw [hw2]; simp
  replace OOps : (Sh.rows shOp 87).own w2 [.slice AyOps nyOps cyOps] x.2 blOps := by rw [hw2]; exact Sh.oset (p := ⟨w.heap.size + 1 + 1, 1, none⟩) (OOps) IOps (by show w.heap.size + 1 + 1 < _; omega) (.slice AyOps nyOps cyOps)
  
  rw [← hw2]
  have BRR : Blk ((w2.setCell ⟨w.heap.size + 1, 0, none⟩ (.int .i64 x.1)).setCell ⟨w.heap.size + 1, 1, none⟩ (.slice AyOps nyOps cyOps)) (w.heap.size + 1) 32 #[.int .i64 x.1, .slice AyOps nyOps cyOps] := by simpa using ((BR).set_ 0 (.int .i64 x.1)).set_ 1 (.slice AyOps nyOps cyOps)
  (try simp only [Exit.inBlock, Exit.then])
  refine bodyPost_ret (v := .agg #[.int .i64 x.1, .slice AyOps nyOps cyOps]) (results_cell_row rfl _ _ (w.heap.size + 1) 32 #[.int .i64 x.1, .slice AyOps nyOps cyOps] (0, 0) _ (by simp) BRR Tryz.underlying32 rfl (by kernel_rfl)) rfl ?_
  have hsz : ((w2.setCell ⟨w.heap.size + 1, 0, none⟩ (.int .i64 x.1)).setCell ⟨w.heap.size + 1, 1, none⟩ (.slice AyOps nyOps cyOps)).heap.size = w2.heap.size := by simp
  refine ⟨_, blOps, rfl, ⟨[.int .i64 x.1], [.slice AyOps nyOps cyOps], [], blOps, rfl, rfl, ⟨_, rfl, ⟨rfl, qSize.1, qSize.2⟩, rfl⟩, (Sh.oset (p := ⟨w.heap.size + 1, 1, none⟩) (Sh.oset (p := ⟨w.heap.size + 1, 0, none⟩) (OOps) IOps (by show w.heap.size + 1 < _; omega) (.int .i64 x.1)) IOps (by show w.heap.size + 1 < _; omega) (.slice AyOps nyOps cyOps))⟩, ?_, ((T2).setCell (by simp; try omega) (.int .i64 x.1)).setCell (by simp; try omega) (.slice AyOps nyOps cyOps)⟩
  rw [hsz]
  exact Iv.mono IOps (by omega) (by omega)
theorem eqPAlgebra (x y : AlgebraM) : eqC x y = (eqC (x.1) (y.1) && eqC (x.2) (y.2)) := by
  obtain ⟨x0, x1⟩ := x
  obtain ⟨y0, y1⟩ := y
  simp only [dec_pair]
set_option linter.unusedVariables false in
set_option maxHeartbeats 4000000 in
theorem eqAlgebra_any (cs ds : List Value) (x y : AlgebraM) (w : World) (h : shAlgebra.rd w cs x) (h' : shAlgebra.rd w ds y) :
    Calls Tryz.prog 28 #[.agg cs.toArray, .agg ds.toArray] w (Bl w (.bool (eqC x y))) := by
  obtain ⟨AOps, nOps, cOps, rfl, qSize, qOps⟩ := rdAlgebra h
  obtain ⟨AyOps, nyOps, cyOps, rfl, qySize, qyOps⟩ := rdAlgebra h'
  obtain ⟨w0, hw0, T0, hsz0, BP, BQ⟩ := boxes2 w #[.int .i64 x.1, .slice AOps nOps cOps] #[.int .i64 y.1, .slice AyOps nyOps cyOps] 32 32
  replace qOps := qOps.next T0
  replace qyOps := qyOps.next T0
  have HD := Lib.hid (eqPAlgebra x y)
  go_enter Tryz.func28, Tryz.ntmps28
  rcases hd0 : eqC (x.1) (y.1) with _ | _
  · have ht : (x.1 != y.1) = true := neq_int hd0
    have HH0 := Lib.hid hd0
    clear hd0
    have cP0 := BP.cell 0
    have cQ0 := BQ.cell 0
    simp at cP0 cQ0
    rw [hw0] at cP0 cQ0
    go_wp2_with fail
    go_ret
    exact ⟨ret_bool (by rw [HD.out, HH0.out]; first | rfl | simp), by first | exact T0 | (rw [← hw0]; exact T0)⟩
  have ht0 : (x.1 != y.1) = false := neq_int hd0
  have HH0 := Lib.hid hd0
  clear hd0
  have cP0 := BP.cell 0
  have cQ0 := BQ.cell 0
  simp at cP0 cQ0
  rw [hw0] at cP0 cQ0
  rcases hd1 : eqC (x.2) (y.2) with _ | _
  · have HH1 := Lib.hid hd1
    clear hd1
    have cP1 := BP.cell 1
    have cQ1 := BQ.cell 1
    simp at cP1 cQ1
    rw [hw0] at cP1 cQ1
    go_wp2_with fail
    rw [← hw0]
    refine (eqOpS_any _ _ _ _ _ _ _ _ _ qOps qyOps).mono ?_
    rintro e w1 ⟨rfl, hb1⟩
    rw [HH1.out]
    have T1 := below_next T0 hb1 rfl
    go_wp2_with fail
    go_ret
    exact ⟨ret_bool (by rw [HD.out, HH0.out, HH1.out]; first | rfl | simp), T1⟩
  have HH1 := Lib.hid hd1
  clear hd1
  have cP1 := BP.cell 1
  have cQ1 := BQ.cell 1
  simp at cP1 cQ1
  rw [hw0] at cP1 cQ1
  go_wp2_with fail
  rw [← hw0]
  refine (eqOpS_any _ _ _ _ _ _ _ _ _ qOps qyOps).mono ?_
  rintro e w1 ⟨rfl, hb1⟩
  rw [HH1.out]
  have T1 := below_next T0 hb1 rfl
  clear cP1 cQ1 cP0 cQ0 ht0
  replace BP := BP.next hb1
  replace BQ := BQ.next hb1
  replace qOps := qOps.next hb1
  replace qyOps := qyOps.next hb1
  go_wp2_with fail
  go_ret
  exact ⟨ret_bool (by rw [HD.out, HH0.out, HH1.out]; first | rfl | simp), T1⟩
end Go.Proofs.YtkmcdocbdhhfhaaGreat
