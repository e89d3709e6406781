
/- Walks: CanonicalForm. -/
import Derived.Test.YtbpdbimdefdefaaCNames
namespace Go.Proofs.Ytbpdbimdefdefaa
open Go.RowKit

def cfM (x : AlgebraM) : AlgebraM := if smallB x then canA x else (0, [])
theorem small_ops {x : AlgebraM} (h : SmallP x) : x.2.length + cntS shOp.cnt x.2 ≤ 1048576 := by
  have := cnt_small h
  have h3 : shAlgebra.cnt x = 0 + (x.2.length + cntS shOp.cnt x.2) := rfl
  omega
theorem canA_small {x : AlgebraM} (h : SmallP x) : SmallP (canA x) := ren_small (canN_ok (x := x)).2 h
theorem cfM_cnt {x : AlgebraM} : shAlgebra.cnt (cfM x) ≤ 1048576 := by
  unfold cfM
  split
  · rename_i h
    exact cnt_small (canA_small (small_iff.1 h))
  · exact Nat.zero_le _
theorem PO.algO {lo : Nat} {w : World} {v : Value} {a : Int} {xs : List OpM} {css : List (List Value)} {bls : List (List Nat)} (h : PO lo w v xs css bls) (ha : InR a) : shAlgebra.own w [.int .i64 a, v] (a, xs) (obl v ++ bls.flatten) :=
  ⟨[.int .i64 a], [v], [], obl v ++ bls.flatten, rfl, rfl, ⟨_, rfl, ⟨rfl, ha.1, ha.2⟩, rfl⟩, h.own⟩
theorem nilAlg (w : World) : shAlgebra.own w [.int .i64 0, .slice none 0 0] (0, []) [] := by
  have := (PO.nil 0 w).algO (a := 0) ⟨by omega, by omega⟩
  exact this

end Go.Proofs.Ytbpdbimdefdefaa
namespace Go.Proofs.Ytbpdbimdefdefaa
open Go.RowKit

set_option maxRecDepth 20000 in
set_option maxHeartbeats 4000000 in
theorem l31Form_any (cs : List Value) (x : AlgebraM) (w : World) (h : shAlgebra.rd w cs x) (hx : SmallP x) :
    Calls Try.prog 53 #[.agg cs.toArray] w (AlgE w (canA x)) := by
  have hrd := h
  obtain ⟨B, m, d, rfl, qs, qo⟩ := rdAlgebra h
  obtain ⟨n, hn⟩ : ∃ n : Nat, x.1 = (n : Int) := ⟨x.1.toNat, by have h1 := hx.1; omega⟩
  have HNN : Hid (x.1.toNat = n) := by show _ = _; omega
  rw [hn] at hrd qs ⊢
  have HX := Lib.hid hx
  have HN1 : Hid ((canA x).1 = (n : Int)) := hn
  have HPM := Lib.hid (canN_ok (x := x)).2
  obtain ⟨w0, hw0, T0, hsz0, BP, BR⟩ := boxes2 w #[.int .i64 (n : Int), .slice B m d] #[.int .i64 0, .slice none 0 0] 38 38
  have HW0 := Lib.hid hw0
  have cP0 := BP.cell 0
  have cP1 := BP.cell 1
  simp at cP0 cP1
  have HC1 : ∀ wz, Below w0.heap.size w0 wz → Calls Try.prog 102 #[.agg #[.int .i64 (n : Int), .slice B m d]] wz (fun e w' => ∃ A c, e = .returned (.slice A n c) ∧ RdL RI w' A n (canN x) ∧ Below wz.heap.size wz w') := fun wz hz => by
    have := l31First_any [.int .i64 (n : Int), .slice B m d] x wz (shAlgebra.stab (shAlgebra.stab hrd T0.block) hz.block) HX.out
    rw [HNN.out] at this
    exact this
  have HC2 : ∀ wz A c, Below w0.heap.size w0 wz → RdL RI wz A n (canN x) → Calls Try.prog 101 #[.agg #[.int .i64 (n : Int), .slice B m d], .slice A n c] wz (AlgE wz (ren x (canN x))) := fun wz A c hz hr =>
    l2Rename_any [.int .i64 (n : Int), .slice B m d] x A n c (canN x) wz (shAlgebra.stab (shAlgebra.stab hrd T0.block) hz.block) hr HX.out HPM.out
  clear hw0 hsz0 hx hn h
  go_enter Try.func53, Try.ntmps53
  go_upto_region 1 with fail
  rw [← HW0.out]
  have Tk : Below w0.heap.size w0 w0 := Below.refl _ _
  go_region_with (first
    | (go_at_call 102; (with_reducible refine (HC1 _ ?_).mono ?_); (first | exact Tk | exact Below.drew Tk); rintro e wn ⟨A1, c1, rfl, hR1, hbn⟩; have T1 := below_next (by first | exact Tk | exact Below.drew Tk) hbn rfl; have xP0 := (BP.next T1).cell 0; have xP1 := (BP.next T1).cell 1; simp at xP0 xP1)
    | (go_at_call 101; refine (HC2 _ _ _ (by first | exact T1 | exact Below.drew T1) (by first | exact hR1 | exact hR1.drew stab_RI)).mono ?_; rintro e wm ⟨v, css, bls, rfl, hP, hbm⟩; obtain ⟨VA, vc, rfl⟩ := own_slice hP.2.1; have T2 := below_next (by first | exact T1 | exact Below.drew T1) hbm rfl; have BR2 := BR.next T2; have yR0 := BR2.cell 0; have yR1 := BR2.cell 1; have yf0 := BR2.frozen 0; have yf1 := BR2.frozen 1; simp at yR0 yR1))
  all_goals
    have hlow : w.heap.size ≤ wn.heap.size := Nat.le_trans T0.size T1.size
    have hP3 := hP.mono hlow
    have e1 : (ren x (canN x)).1 = (n : Int) := HN1.out
    have hni := hP3.notin BR2 (by decide) (by decide)
    have hPF := (hP3.farB (k := 0) (u := .int .i64 (ren x (canN x)).1) hni).farB (k := 1) (u := .slice VA (ren x (canN x)).2.length vc) hni
    have hTF := ((below_next T0 T2 rfl).setCell (p := ⟨w.heap.size + 1, 0, none⟩) (by show w.heap.size ≤ w.heap.size + 1; omega) (.int .i64 (ren x (canN x)).1)).setCell (p := ⟨w.heap.size + 1, 1, none⟩) (by show w.heap.size ≤ w.heap.size + 1; omega) (.slice VA (ren x (canN x)).2.length vc)
    have BRR : Blk ((wm.setCell ⟨w.heap.size + 1, 0, none⟩ (.int .i64 (ren x (canN x)).1)).setCell ⟨w.heap.size + 1, 1, none⟩ (.slice VA (ren x (canN x)).2.length vc)) (w.heap.size + 1) 38 #[.int .i64 (ren x (canN x)).1, .slice VA (ren x (canN x)).2.length vc] := by simpa using ((BR2.set_ 0 (.int .i64 (ren x (canN x)).1)).set_ 1 (.slice VA (ren x (canN x)).2.length vc))
    go_wp2
    (try simp only [Exit.inBlock, Exit.then])
    refine bodyPost_ret (v := .agg #[.int .i64 (ren x (canN x)).1, .slice VA (ren x (canN x)).2.length vc]) (results_cell_row rfl _ _ (w.heap.size + 1) 38 #[.int .i64 (ren x (canN x)).1, .slice VA (ren x (canN x)).2.length vc] (0, 0) _ (by simp) BRR Try.underlying38 rfl (by kernel_rfl)) rfl ?_
    exact ⟨_, css, bls, rfl, hPF, hTF⟩

end Go.Proofs.Ytbpdbimdefdefaa
