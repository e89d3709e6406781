
/- Walks: CanonicalForm. -/
import Derived.Test.YtppnmpeicmlneaaCNames
namespace Go.Proofs.Ytppnmpeicmlneaa
open Go.RowKit

def cfM (x : AlgebraM) : AlgebraM := if smallB x then canA x else (0, [])
theorem small_ops {x : AlgebraM} (h : SmallP x) : x.2.length + cntS shOp.cnt x.2 ≤ 1048576 := by
  have := cnt_small h
  have h3 : shAlgebra.cnt x = 0 + (x.2.length + cntS shOp.cnt x.2) := rfl
  omega
theorem canA_small {x : AlgebraM} (h : SmallP x) : SmallP (canA x) := ren_small (canN_ok (x := x)).2 h
theorem cfM_cnt {x : AlgebraM} : shAlgebra.cnt (cfM x) ≤ 1048576 := by
  unfold cfM
  split
  · rename_i h
    exact cnt_small (canA_small (small_iff.1 h))
  · exact Nat.zero_le _
theorem PO.algO {lo : Nat} {w : World} {v : Value} {a : Int} {xs : List OpM} {css : List (List Value)} {bls : List (List Nat)} (h : PO lo w v xs css bls) (ha : InR a) : shAlgebra.own w [.int .i64 a, v] (a, xs) (obl v ++ bls.flatten) :=
  ⟨[.int .i64 a], [v], [], obl v ++ bls.flatten, rfl, rfl, ⟨_, rfl, ⟨rfl, ha.1, ha.2⟩, rfl⟩, h.own⟩
theorem nilAlg (w : World) : shAlgebra.own w [.int .i64 0, .slice none 0 0] (0, []) [] := by
  have := (PO.nil 0 w).algO (a := 0) ⟨by omega, by omega⟩
  exact this

set_option maxRecDepth 20000 in
set_option maxHeartbeats 4000000 in
theorem implCF_any (cs : List Value) (x : AlgebraM) (w : World) (h : shAlgebra.rd w cs x) :
    Calls Try.prog 45 #[.agg cs.toArray] w (OwA shAlgebra w (cfM x) (smallB x)) := by
  have hrd := h
  obtain ⟨B, m, d, rfl, qs, qo⟩ := rdAlgebra h
  obtain ⟨w0, hw0, T0, hsz0, BP, BR⟩ := boxes2 w #[.int .i64 x.1, .slice B m d] #[.int .i64 0, .slice none 0 0] 41 41
  have HW0 := Lib.hid hw0
  have HZ0 := Lib.hid hsz0
  have cP0 := BP.cell 0
  have cP1 := BP.cell 1
  simp at cP0 cP1
  rw [hw0] at cP0 cP1
  clear hw0 hsz0
  obtain ⟨r, hr⟩ : ∃ r, smallB x = r := ⟨_, rfl⟩
  have HM : Hid (cfM x = if r then canA x else (0, [])) := by show _ = _; unfold cfM; rw [hr]
  have HS := Lib.hid hr
  rw [hr]
  clear hr
  go_enter Try.func45, Try.ntmps45
  go_wp2_with fail
  rw [← HW0.out]
  refine (isNamed_any _ x _ (shAlgebra.stab hrd T0.block)).mono ?_
  rintro e w1 ⟨rfl, hb1⟩
  rw [HS.out]
  have T1 := below_next T0 hb1 rfl
  have BR1 := BR.next hb1
  clear cP0 cP1
  have cP0 := (BP.next hb1).cell 0
  have cP1 := (BP.next hb1).cell 1
  have cR0 := BR1.cell 0
  have cR1 := BR1.cell 1
  have fR0 := BR1.frozen 0
  have fR1 := BR1.frozen 1
  simp at cP0 cP1 cR0 cR1
  rcases r with _ | _
  · have HM2 : Hid (cfM x = (0, [])) := HM.out
    have BRR : Blk ((w1.setCell ⟨w.heap.size + 1, 0, none⟩ (.int .i64 0)).setCell ⟨w.heap.size + 1, 1, none⟩ (.slice none 0 0)) (w.heap.size + 1) 41 #[.int .i64 0, .slice none 0 0] := by simpa using ((BR1.set_ 0 (.int .i64 0)).set_ 1 (.slice none 0 0))
    have hT := (T1.setCell (p := ⟨w.heap.size + 1, 0, none⟩) (by show w.heap.size ≤ w.heap.size + 1; omega) (.int .i64 0)).setCell (p := ⟨w.heap.size + 1, 1, none⟩) (by show w.heap.size ≤ w.heap.size + 1; omega) (.slice none 0 0)
    have HF := Lib.hid BRR
    have HT := Lib.hid hT
    clear BRR hT
    go_wp2_with fail
    (try simp only [Exit.inBlock, Exit.then])
    refine bodyPost_ret (v := .tuple #[.agg #[.int .i64 0, .slice none 0 0], .bool false]) (res_row_tmpC rfl _ _ (w.heap.size + 1) 41 #[.int .i64 0, .slice none 0 0] (0, 0) _ _ (by simp) HF.out Try.underlying41 rfl (by kernel_rfl) rfl) rfl ?_
    exact ⟨[.int .i64 0, .slice none 0 0], [], rfl, by rw [HM2.out]; exact nilAlg _, Iv.nil _ _, HT.out⟩
  · have hsm := small_iff.1 HS.out
    obtain ⟨n, hn⟩ : ∃ n : Nat, x.1 = (n : Int) := ⟨x.1.toNat, by have h1 := hsm.1; omega⟩
    have HCAN := Lib.hid (canonical_any [.int .i64 x.1, .slice B m d] x n w1 (shAlgebra.stab hrd T1.block) hsm hn)
    have HM2 : Hid (cfM x = canA x) := HM.out
    have HN1 : Hid ((canA x).1 = (n : Int)) := hn
    have HSR : Hid (InR (n : Int)) := by show InR _; rw [← hn]; exact small_R hsm
    clear hn
    go_wp2_with fail
    refine HCAN.out.mono ?_
    rintro e w2 ⟨vb, css, bls, Af, cf, rfl, hP, ho, hb2⟩
    have T2 := below_next T1 hb2 rfl
    obtain ⟨VA, vc, rfl⟩ := own_slice hP.2.1
    obtain ⟨LA, HLA⟩ : ∃ LA, Hid ((canA x).2.length = LA) := ⟨_, rfl⟩
    rw [HLA.out] at hP
    rw [HLA.out]
    obtain ⟨w3, hw3, T3', -, BX⟩ := boxes1 w2 #[.int .i64 (n : Int), .slice VA LA vc] 41
    have HW3 : Hid (_ = w3) := hw3.symm
    have T3 := below_next T2 T3' rfl
    have BR3 := (BR1.next hb2).next T3'
    have hP3 := (hP.next T3').mono T1.size
    have hlow := T1.size
    have hP3n : w.heap.size + 1 ∉ obl (.slice VA LA vc) ++ bls.flatten := hP3.notin BR3 (by decide) (by decide)
    have hPF := (hP3.farB (k := 0) (u := .int .i64 (n : Int)) hP3n).farB (k := 1) (u := .slice VA LA vc) hP3n
    have hTF := (T3.setCell (p := ⟨w.heap.size + 1, 0, none⟩) (by show w.heap.size ≤ w.heap.size + 1; omega) (.int .i64 (n : Int))).setCell (p := ⟨w.heap.size + 1, 1, none⟩) (by show w.heap.size ≤ w.heap.size + 1; omega) (.slice VA LA vc)
    have BRR : Blk ((w3.setCell ⟨w.heap.size + 1, 0, none⟩ (.int .i64 (n : Int))).setCell ⟨w.heap.size + 1, 1, none⟩ (.slice VA LA vc)) (w.heap.size + 1) 41 #[.int .i64 (n : Int), .slice VA LA vc] := by simpa using ((BR3.set_ 0 (.int .i64 (n : Int))).set_ 1 (.slice VA LA vc))
    have hOW : shAlgebra.own ((w3.setCell ⟨w.heap.size + 1, 0, none⟩ (.int .i64 (n : Int))).setCell ⟨w.heap.size + 1, 1, none⟩ (.slice VA LA vc)) [.int .i64 (n : Int), .slice VA LA vc] (canA x) (obl (.slice VA LA vc) ++ bls.flatten) := by
      have := hPF.algO HSR.out
      have e9 : ((n : Int), (canA x).2) = canA x := by rw [← HN1.out]
      rw [e9] at this
      exact this
    have HF1 := Lib.hid hOW
    have HF2 := Lib.hid hPF.2.2
    have HF3 := Lib.hid hTF
    have HF4 := Lib.hid BRR
    have cX0 := BX.cell 0
    have cX1 := BX.cell 1
    have xR0 := BR3.cell 0
    have xR1 := BR3.cell 1
    have xf0 := BR3.frozen 0
    have xf1 := BR3.frozen 1
    simp at cX0 cX1 xR0 xR1
    have hxl : w.heap.size + 1 < w2.heap.size := (BR1.next hb2).lt
    have n8 : ¬ w.heap.size + 1 = w2.heap.size := by omega
    have n9 : ¬ w2.heap.size = w.heap.size + 1 := by omega
    have cX1' := cell_far (w := w3) (p := ⟨w.heap.size + 1, 0, none⟩) (a := ⟨w2.heap.size, 1, none⟩) (u := .int .i64 (n : Int)) n9 (by have := BX.cell 1; simpa using this)
    clear hw3 hP ho hP3 hP3n hPF hTF BRR hOW cR0 cR1 fR0 fR1 cP0 cP1
    go_upto_region 4 with fail
    rw [HW3.out]
    go_wp2_with fail
    (try simp only [Exit.inBlock, Exit.then])
    refine bodyPost_ret (v := .tuple #[.agg #[.int .i64 (n : Int), .slice VA LA vc], .bool true]) (res_row_tmpC rfl _ _ (w.heap.size + 1) 41 #[.int .i64 (n : Int), .slice VA LA vc] (0, 0) _ _ (by simp) HF4.out Try.underlying41 rfl (by kernel_rfl) rfl) rfl ?_
    exact ⟨[.int .i64 (n : Int), .slice VA LA vc], _, rfl, by rw [HM2.out]; exact HF1.out, HF2.out, HF3.out⟩
end Go.Proofs.Ytppnmpeicmlneaa
