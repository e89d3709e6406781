import Derived.Test.YtbkgbckbbnflpaaQ3
import Derived.Deep.RegionLawGrows
import Derived.Deep.RegionHeld
set_option linter.unusedVariables false
set_option linter.unusedSimpArgs false
set_option maxRecDepth 100000
set_option maxHeartbeats 32000000
namespace Go.Proofs.Ytbkgbckbbnflpaa
open Go.RowKit
def cnM (x : AlgebraM) : List Int := if smallB x then canN x else []
theorem cnM_R {x : AlgebraM} : ∀ y ∈ cnM x, InR y := by
  intro y hy
  unfold cnM at hy
  split at hy
  · rename_i h
    have hs := small_iff.1 h
    have := (canN_ok (x := x)).2.2.1 y hy
    have := hs.2.1
    exact ⟨by omega, by omega⟩
  · cases hy
theorem implCN_any (cs : List Value) (x : AlgebraM) (w : World) (h : shAlgebra.rd w cs x) :
    Calls Try.prog 19 #[.agg cs.toArray] w (OwV (Sh.il 3) w (cnM x) (smallB x)) := by
  have HCR := Lib.hid (cnM_R (x := x))
  have hrd := h
  obtain ⟨B, m, d, rfl, qs, qo⟩ := rdAlgebra h
  obtain ⟨w0, hw0, T0, hsz0, BP⟩ := boxes1 w #[.int .i64 x.1, .slice B m d] 26
  have HW0 := Lib.hid hw0
  clear hw0
  obtain ⟨r, hr⟩ : ∃ r, smallB x = r := ⟨_, rfl⟩
  have HM : Hid (cnM x = if r then canN x else []) := by show _ = _; unfold cnM; rw [hr]
  have HS := Lib.hid hr
  rw [hr]
  clear hr
  go_enter Try.func19, Try.ntmps19
  go_wp2_with fail
  rw [← HW0.out]
  refine (isNamed_any _ x _ (shAlgebra.stab hrd T0.block)).mono ?_
  rintro e w1 ⟨rfl, hb1⟩
  rw [HS.out]
  have T1 := below_next T0 hb1 rfl
  have cP0 := (BP.next hb1).cell 0
  have cP1 := (BP.next hb1).cell 1
  simp at cP0 cP1
  rcases r with _ | _
  · have hl : (w1.alloc (.cells #[] 3)).ownsRow w.heap.size 3 1 (.slice (some ⟨w1.heap.size, 0, none⟩) 0 0) 0 [] := World.ownsRow_lit _ _ _ T1.size (Nat.zero_le _) rfl
    have HL := Lib.hid hl
    clear hl
    go_wp2_with fail
    go_ret2
    exact ⟨_, _, rfl, by rw [HM.out]; exact own_shape (xs := []) HL.out (fun y hy => by simp at hy), obl_iv HL.out, below_next T1 (below_box _ _) rfl⟩
  · have hsm := small_iff.1 HS.out
    obtain ⟨n, hn⟩ : ∃ n : Nat, x.1 = (n : Int) := ⟨x.1.toNat, by have h1 := hsm.1; omega⟩
    have HNN : Hid (x.1.toNat = n) := by show _ = _; omega
    have HNL : Hid ((canN x).length = n) := by show _ = _; rw [← HNN.out]; exact (canN_ok (x := x)).2.1
    have HCAN := Lib.hid (canonical_any [.int .i64 x.1, .slice B m d] x n w1 (shAlgebra.stab hrd T1.block) hsm hn)
    have HM2 : Hid (cnM x = canN x) := HM.out
    clear hn
    go_wp2_with fail
    refine HCAN.out.mono ?_
    rintro e w2 ⟨vb, css, bls, Af, cf, rfl, hP, ho, hb2⟩
    have T2 := below_next T1 hb2 rfl
    obtain ⟨VA, vc, rfl⟩ := own_slice hP.2.1
    have hb3 := below_box w2 (.cells #[.int .i64 (n : Int), .slice VA (canA x).2.length vc] 26)
    have ho3 := own_next ho hb3
    have hO : (w2.alloc (.cells #[.int .i64 (n : Int), .slice VA (canA x).2.length vc] 26)).ownsRow w.heap.size 3 1 (.slice Af n cf) (canN x).length (ints (canN x)) := by rw [HNL.out]; exact own_mono ho3 T1.size
    have HO := Lib.hid hO
    have HT := Lib.hid (below_next T2 hb3 rfl)
    clear hO ho3 hb3 ho hP
    go_wp2_with fail
    go_ret2
    exact ⟨_, _, rfl, by rw [HM2.out]; exact own_shape HO.out (by have := HCR.out; rw [HM2.out] at this; exact this), obl_iv HO.out, HT.out⟩
def cfM (x : AlgebraM) : AlgebraM := if smallB x then canA x else (0, [])
theorem small_ops {x : AlgebraM} (h : SmallP x) : x.2.length + cntS shOp.cnt x.2 ≤ 1048576 := by
  have := cnt_small h
  have h3 : shAlgebra.cnt x = 0 + (x.2.length + cntS shOp.cnt x.2) := rfl
  omega
theorem canA_small {x : AlgebraM} (h : SmallP x) : SmallP (canA x) := ren_small (canN_ok (x := x)).2 h
theorem implCF_any (cs : List Value) (x : AlgebraM) (w : World) (h : shAlgebra.rd w cs x) :
    Calls Try.prog 18 #[.agg cs.toArray] w (OwA shAlgebra w (cfM x) (smallB x)) := by
  have hrd := h
  obtain ⟨B, m, d, rfl, qs, qo⟩ := rdAlgebra h
  obtain ⟨w0, hw0, T0, hsz0, BP, BR⟩ := boxes2 w #[.int .i64 x.1, .slice B m d] #[.int .i64 0, .slice none 0 0] 26 26
  have HW0 := Lib.hid hw0
  have HZ0 := Lib.hid hsz0
  have cP0 := BP.cell 0
  have cP1 := BP.cell 1
  simp at cP0 cP1
  rw [hw0] at cP0 cP1
  clear hw0 hsz0
  obtain ⟨r, hr⟩ : ∃ r, smallB x = r := ⟨_, rfl⟩
  have HM : Hid (cfM x = if r then canA x else (0, [])) := by show _ = _; unfold cfM; rw [hr]
  have HS := Lib.hid hr
  rw [hr]
  clear hr
  go_enter Try.func18, Try.ntmps18
  go_wp2_with fail
  rw [← HW0.out]
  refine (isNamed_any _ x _ (shAlgebra.stab hrd T0.block)).mono ?_
  rintro e w1 ⟨rfl, hb1⟩
  rw [HS.out]
  have T1 := below_next T0 hb1 rfl
  have BR1 := BR.next hb1
  clear cP0 cP1
  have cP0 := (BP.next hb1).cell 0
  have cP1 := (BP.next hb1).cell 1
  have cR0 := BR1.cell 0
  have cR1 := BR1.cell 1
  have fR0 := BR1.frozen 0
  have fR1 := BR1.frozen 1
  simp at cP0 cP1 cR0 cR1
  rcases r with _ | _
  · have HM2 : Hid (cfM x = (0, [])) := HM.out
    have BRR : Blk ((w1.setCell ⟨w.heap.size + 1, 0, none⟩ (.int .i64 0)).setCell ⟨w.heap.size + 1, 1, none⟩ (.slice none 0 0)) (w.heap.size + 1) 26 #[.int .i64 0, .slice none 0 0] := by simpa using ((BR1.set_ 0 (.int .i64 0)).set_ 1 (.slice none 0 0))
    have hT := (T1.setCell (p := ⟨w.heap.size + 1, 0, none⟩) (by show w.heap.size ≤ w.heap.size + 1; omega) (.int .i64 0)).setCell (p := ⟨w.heap.size + 1, 1, none⟩) (by show w.heap.size ≤ w.heap.size + 1; omega) (.slice none 0 0)
    have HF := Lib.hid BRR
    have HT := Lib.hid hT
    clear BRR hT
    go_wp2_with fail
    (try simp only [Exit.inBlock, Exit.then])
    refine bodyPost_ret (v := .tuple #[.agg #[.int .i64 0, .slice none 0 0], .bool false]) (res_row_tmpC rfl _ _ (w.heap.size + 1) 26 #[.int .i64 0, .slice none 0 0] (0, 0) _ _ (by simp) HF.out Try.underlying26 rfl (by kernel_rfl) rfl) rfl ?_
    exact ⟨[.int .i64 0, .slice none 0 0], [], rfl, by rw [HM2.out]; exact nilAlg _, Iv.nil _ _, HT.out⟩
  · have hsm := small_iff.1 HS.out
    obtain ⟨n, hn⟩ : ∃ n : Nat, x.1 = (n : Int) := ⟨x.1.toNat, by have h1 := hsm.1; omega⟩
    have HCAN := Lib.hid (canonical_any [.int .i64 x.1, .slice B m d] x n w1 (shAlgebra.stab hrd T1.block) hsm hn)
    have HM2 : Hid (cfM x = canA x) := HM.out
    have HN1 : Hid ((canA x).1 = (n : Int)) := hn
    have HSR : Hid (InR (n : Int)) := by show InR _; rw [← hn]; exact small_R hsm
    clear hn
    go_wp2_with fail
    refine HCAN.out.mono ?_
    rintro e w2 ⟨vb, css, bls, Af, cf, rfl, hP, ho, hb2⟩
    have T2 := below_next T1 hb2 rfl
    obtain ⟨VA, vc, rfl⟩ := own_slice hP.2.1
    obtain ⟨LA, HLA⟩ : ∃ LA, Hid ((canA x).2.length = LA) := ⟨_, rfl⟩
    rw [HLA.out] at hP
    rw [HLA.out]
    obtain ⟨w3, hw3, T3', -, BX⟩ := boxes1 w2 #[.int .i64 (n : Int), .slice VA LA vc] 26
    have HW3 : Hid (_ = w3) := hw3.symm
    have T3 := below_next T2 T3' rfl
    have BR3 := (BR1.next hb2).next T3'
    have hP3 := (hP.next T3').mono T1.size
    have hlow := T1.size
    have hP3n : w.heap.size + 1 ∉ obl (.slice VA LA vc) ++ bls.flatten := hP3.notin BR3 (by decide) (by decide)
    have hPF := (hP3.farB (k := 0) (u := .int .i64 (n : Int)) hP3n).farB (k := 1) (u := .slice VA LA vc) hP3n
    have hTF := (T3.setCell (p := ⟨w.heap.size + 1, 0, none⟩) (by show w.heap.size ≤ w.heap.size + 1; omega) (.int .i64 (n : Int))).setCell (p := ⟨w.heap.size + 1, 1, none⟩) (by show w.heap.size ≤ w.heap.size + 1; omega) (.slice VA LA vc)
    have BRR : Blk ((w3.setCell ⟨w.heap.size + 1, 0, none⟩ (.int .i64 (n : Int))).setCell ⟨w.heap.size + 1, 1, none⟩ (.slice VA LA vc)) (w.heap.size + 1) 26 #[.int .i64 (n : Int), .slice VA LA vc] := by simpa using ((BR3.set_ 0 (.int .i64 (n : Int))).set_ 1 (.slice VA LA vc))
    have hOW : shAlgebra.own ((w3.setCell ⟨w.heap.size + 1, 0, none⟩ (.int .i64 (n : Int))).setCell ⟨w.heap.size + 1, 1, none⟩ (.slice VA LA vc)) [.int .i64 (n : Int), .slice VA LA vc] (canA x) (obl (.slice VA LA vc) ++ bls.flatten) := by
      have := hPF.algO HSR.out
      have e9 : ((n : Int), (canA x).2) = canA x := by rw [← HN1.out]
      rw [e9] at this
      exact this
    have HF1 := Lib.hid hOW
    have HF2 := Lib.hid hPF.2.2
    have HF3 := Lib.hid hTF
    have HF4 := Lib.hid BRR
    have cX0 := BX.cell 0
    have cX1 := BX.cell 1
    have xR0 := BR3.cell 0
    have xR1 := BR3.cell 1
    have xf0 := BR3.frozen 0
    have xf1 := BR3.frozen 1
    simp at cX0 cX1 xR0 xR1
    have hxl : w.heap.size + 1 < w2.heap.size := (BR1.next hb2).lt
    have n8 : ¬ w.heap.size + 1 = w2.heap.size := by omega
    have n9 : ¬ w2.heap.size = w.heap.size + 1 := by omega
    have cX1' := cell_far (w := w3) (p := ⟨w.heap.size + 1, 0, none⟩) (a := ⟨w2.heap.size, 1, none⟩) (u := .int .i64 (n : Int)) n9 (by have := BX.cell 1; simpa using this)
    clear hw3 hP ho hP3 hP3n hPF hTF BRR hOW cR0 cR1 fR0 fR1 cP0 cP1
    go_upto_region 4 with fail
    rw [HW3.out]
    go_wp2_with fail
    (try simp only [Exit.inBlock, Exit.then])
    refine bodyPost_ret (v := .tuple #[.agg #[.int .i64 (n : Int), .slice VA LA vc], .bool true]) (res_row_tmpC rfl _ _ (w.heap.size + 1) 26 #[.int .i64 (n : Int), .slice VA LA vc] (0, 0) _ _ (by simp) HF4.out Try.underlying26 rfl (by kernel_rfl) rfl) rfl ?_
    exact ⟨[.int .i64 (n : Int), .slice VA LA vc], _, rfl, by rw [HM2.out]; exact HF1.out, HF2.out, HF3.out⟩
theorem l31Form_any (cs : List Value) (x : AlgebraM) (w : World) (h : shAlgebra.rd w cs x) (hx : SmallP x) :
    Calls Try.prog 34 #[.agg cs.toArray] w (AlgE w (canA x)) := by
  have hrd := h
  obtain ⟨B, m, d, rfl, qs, qo⟩ := rdAlgebra h
  obtain ⟨n, hn⟩ : ∃ n : Nat, x.1 = (n : Int) := ⟨x.1.toNat, by have h1 := hx.1; omega⟩
  have HNN : Hid (x.1.toNat = n) := by show _ = _; omega
  rw [hn] at hrd qs ⊢
  have HX := Lib.hid hx
  have HN1 : Hid ((canA x).1 = (n : Int)) := hn
  have HPM := Lib.hid (canN_ok (x := x)).2
  obtain ⟨w0, hw0, T0, hsz0, BP, BR⟩ := boxes2 w #[.int .i64 (n : Int), .slice B m d] #[.int .i64 0, .slice none 0 0] 26 26
  have HW0 := Lib.hid hw0
  have cP0 := BP.cell 0
  have cP1 := BP.cell 1
  simp at cP0 cP1
  have HC1 : ∀ wz, Below w0.heap.size w0 wz → Calls Try.prog 66 #[.agg #[.int .i64 (n : Int), .slice B m d]] wz (fun e w' => ∃ A c, e = .returned (.slice A n c) ∧ RdL RI w' A n (canN x) ∧ Below wz.heap.size wz w') := fun wz hz => by
    have := l31First_any [.int .i64 (n : Int), .slice B m d] x wz (shAlgebra.stab (shAlgebra.stab hrd T0.block) hz.block) HX.out
    rw [HNN.out] at this
    exact this
  have HC2 : ∀ wz A c, Below w0.heap.size w0 wz → RdL RI wz A n (canN x) → Calls Try.prog 28 #[.agg #[.int .i64 (n : Int), .slice B m d], .slice A n c] wz (AlgE wz (ren x (canN x))) := fun wz A c hz hr =>
    l2Rename_any [.int .i64 (n : Int), .slice B m d] x A n c (canN x) wz (shAlgebra.stab (shAlgebra.stab hrd T0.block) hz.block) hr HX.out HPM.out
  clear hw0 hsz0 hx hn h
  go_enter Try.func34, Try.ntmps34
  go_upto_region 1 with fail
  rw [← HW0.out]
  have Tk : Below w0.heap.size w0 w0 := Below.refl _ _
  go_region_with (first
    | (go_at_call 66; (with_reducible refine (HC1 _ ?_).mono ?_); (first | exact Tk | exact Below.drew Tk); rintro e wn ⟨A1, c1, rfl, hR1, hbn⟩; have T1 := below_next (by first | exact Tk | exact Below.drew Tk) hbn rfl; have xP0 := (BP.next T1).cell 0; have xP1 := (BP.next T1).cell 1; simp at xP0 xP1)
    | (go_at_call 28; refine (HC2 _ _ _ (by first | exact T1 | exact Below.drew T1) (by first | exact hR1 | exact hR1.drew stab_RI)).mono ?_; rintro e wm ⟨v, css, bls, rfl, hP, hbm⟩; obtain ⟨VA, vc, rfl⟩ := own_slice hP.2.1; have T2 := below_next (by first | exact T1 | exact Below.drew T1) hbm rfl; have BR2 := BR.next T2; have yR0 := BR2.cell 0; have yR1 := BR2.cell 1; have yf0 := BR2.frozen 0; have yf1 := BR2.frozen 1; simp at yR0 yR1))
  all_goals
    have hlow : w.heap.size ≤ wn.heap.size := Nat.le_trans T0.size T1.size
    have hP3 := hP.mono hlow
    have e1 : (ren x (canN x)).1 = (n : Int) := HN1.out
    have hni := hP3.notin BR2 (by decide) (by decide)
    have hPF := (hP3.farB (k := 0) (u := .int .i64 (ren x (canN x)).1) hni).farB (k := 1) (u := .slice VA (ren x (canN x)).2.length vc) hni
    have hTF := ((below_next T0 T2 rfl).setCell (p := ⟨w.heap.size + 1, 0, none⟩) (by show w.heap.size ≤ w.heap.size + 1; omega) (.int .i64 (ren x (canN x)).1)).setCell (p := ⟨w.heap.size + 1, 1, none⟩) (by show w.heap.size ≤ w.heap.size + 1; omega) (.slice VA (ren x (canN x)).2.length vc)
    have BRR : Blk ((wm.setCell ⟨w.heap.size + 1, 0, none⟩ (.int .i64 (ren x (canN x)).1)).setCell ⟨w.heap.size + 1, 1, none⟩ (.slice VA (ren x (canN x)).2.length vc)) (w.heap.size + 1) 26 #[.int .i64 (ren x (canN x)).1, .slice VA (ren x (canN x)).2.length vc] := by simpa using ((BR2.set_ 0 (.int .i64 (ren x (canN x)).1)).set_ 1 (.slice VA (ren x (canN x)).2.length vc))
    go_wp2
    (try simp only [Exit.inBlock, Exit.then])
    refine bodyPost_ret (v := .agg #[.int .i64 (ren x (canN x)).1, .slice VA (ren x (canN x)).2.length vc]) (results_cell_row rfl _ _ (w.heap.size + 1) 26 #[.int .i64 (ren x (canN x)).1, .slice VA (ren x (canN x)).2.length vc] (0, 0) _ (by simp) BRR Try.underlying26 rfl (by kernel_rfl)) rfl ?_
    exact ⟨_, css, bls, rfl, hPF, hTF⟩
theorem specCF_any (cs : List Value) (x : AlgebraM) (w : World) (h : shAlgebra.rd w cs x) :
    Calls Try.prog 21 #[.agg cs.toArray] w (RdA shAlgebra w (cfM x) (smallB x)) := by
  have hrd := h
  obtain ⟨B, m, d, rfl, qs, qo⟩ := rdAlgebra h
  obtain ⟨w0, hw0, T0, hsz0, BP, BR⟩ := boxes2 w #[.int .i64 x.1, .slice B m d] #[.int .i64 0, .slice none 0 0] 26 26
  have HW0 := Lib.hid hw0
  have cP0 := BP.cell 0
  have cP1 := BP.cell 1
  simp at cP0 cP1
  rw [hw0] at cP0 cP1
  clear hw0 hsz0
  obtain ⟨r, hr⟩ : ∃ r, smallB x = r := ⟨_, rfl⟩
  have HM : Hid (cfM x = if r then canA x else (0, [])) := by show _ = _; unfold cfM; rw [hr]
  have HS := Lib.hid hr
  rw [hr]
  clear hr
  go_enter Try.func21, Try.ntmps21
  go_wp2_with fail
  rw [← HW0.out]
  refine (l31Takes_any _ x _ (shAlgebra.stab hrd T0.block)).mono ?_
  rintro e w1 ⟨rfl, hb1⟩
  rw [HS.out]
  have T1 := below_next T0 hb1 rfl
  have BR1 := BR.next hb1
  clear cP0 cP1
  have cP0 := (BP.next hb1).cell 0
  have cP1 := (BP.next hb1).cell 1
  have cR0 := BR1.cell 0
  have cR1 := BR1.cell 1
  have fR0 := BR1.frozen 0
  have fR1 := BR1.frozen 1
  simp at cP0 cP1 cR0 cR1
  rcases r with _ | _
  · have HM2 : Hid (cfM x = (0, [])) := HM.out
    have BRR : Blk ((w1.setCell ⟨w.heap.size + 1, 0, none⟩ (.int .i64 0)).setCell ⟨w.heap.size + 1, 1, none⟩ (.slice none 0 0)) (w.heap.size + 1) 26 #[.int .i64 0, .slice none 0 0] := by simpa using ((BR1.set_ 0 (.int .i64 0)).set_ 1 (.slice none 0 0))
    have hT := (T1.setCell (p := ⟨w.heap.size + 1, 0, none⟩) (by show w.heap.size ≤ w.heap.size + 1; omega) (.int .i64 0)).setCell (p := ⟨w.heap.size + 1, 1, none⟩) (by show w.heap.size ≤ w.heap.size + 1; omega) (.slice none 0 0)
    have HF := Lib.hid BRR
    have HT := Lib.hid hT
    clear BRR hT
    go_wp2_with fail
    (try simp only [Exit.inBlock, Exit.then])
    refine bodyPost_ret (v := .tuple #[.agg #[.int .i64 0, .slice none 0 0], .bool false]) (res_row_tmpC rfl _ _ (w.heap.size + 1) 26 #[.int .i64 0, .slice none 0 0] (0, 0) _ _ (by simp) HF.out Try.underlying26 rfl (by kernel_rfl) rfl) rfl ?_
    exact ⟨[.int .i64 0, .slice none 0 0], rfl, by rw [HM2.out]; exact shAlgebra.ord (nilAlg _), HT.out⟩
  · have hsm := small_iff.1 HS.out
    have HCAN := Lib.hid (l31Form_any [.int .i64 x.1, .slice B m d] x w1 (shAlgebra.stab hrd T1.block) hsm)
    have HM2 : Hid (cfM x = canA x) := HM.out
    have HSR : Hid (InR (canA x).1) := small_R (canA_small hsm)
    go_wp2_with fail
    refine HCAN.out.mono ?_
    rintro e w2 ⟨vb, css, bls, rfl, hP, hb2⟩
    have T2 := below_next T1 hb2 rfl
    obtain ⟨VA, vc, rfl⟩ := own_slice hP.2.1
    obtain ⟨LA, HLA⟩ : ∃ LA, Hid ((canA x).2.length = LA) := ⟨_, rfl⟩
    rw [HLA.out] at hP
    rw [HLA.out]
    have BR2 := BR1.next hb2
    have hP3 := hP.mono T1.size
    have hni : w.heap.size + 1 ∉ obl (.slice VA LA vc) ++ bls.flatten := hP3.notin BR2 (by decide) (by decide)
    have hPF := (hP3.farB (k := 0) (u := .int .i64 (canA x).1) hni).farB (k := 1) (u := .slice VA LA vc) hni
    have hTF := (T2.setCell (p := ⟨w.heap.size + 1, 0, none⟩) (by show w.heap.size ≤ w.heap.size + 1; omega) (.int .i64 (canA x).1)).setCell (p := ⟨w.heap.size + 1, 1, none⟩) (by show w.heap.size ≤ w.heap.size + 1; omega) (.slice VA LA vc)
    have BRR : Blk ((w2.setCell ⟨w.heap.size + 1, 0, none⟩ (.int .i64 (canA x).1)).setCell ⟨w.heap.size + 1, 1, none⟩ (.slice VA LA vc)) (w.heap.size + 1) 26 #[.int .i64 (canA x).1, .slice VA LA vc] := by simpa using ((BR2.set_ 0 (.int .i64 (canA x).1)).set_ 1 (.slice VA LA vc))
    have hRD : shAlgebra.rd ((w2.setCell ⟨w.heap.size + 1, 0, none⟩ (.int .i64 (canA x).1)).setCell ⟨w.heap.size + 1, 1, none⟩ (.slice VA LA vc)) [.int .i64 (canA x).1, .slice VA LA vc] (canA x) := hPF.alg HSR.out
    have HF1 := Lib.hid hRD
    have HF3 := Lib.hid hTF
    have HF4 := Lib.hid BRR
    have xR0 := BR2.cell 0
    have xR1 := BR2.cell 1
    have xf0 := BR2.frozen 0
    have xf1 := BR2.frozen 1
    simp at xR0 xR1
    clear hP hP3 hni hPF hTF BRR hRD cR0 cR1 fR0 fR1 cP0 cP1
    go_wp2_with fail
    (try simp only [Exit.inBlock, Exit.then])
    refine bodyPost_ret (v := .tuple #[.agg #[.int .i64 (canA x).1, .slice VA LA vc], .bool true]) (res_row_tmpC rfl _ _ (w.heap.size + 1) 26 #[.int .i64 (canA x).1, .slice VA LA vc] (0, 0) _ _ (by simp) HF4.out Try.underlying26 rfl (by kernel_rfl) rfl) rfl ?_
    exact ⟨[.int .i64 (canA x).1, .slice VA LA vc], rfl, by rw [HM2.out]; exact HF1.out, HF3.out⟩
theorem eqP_alg (x y : AlgebraM) : eqC x y = (eqC x.1 y.1 && eqC x.2 y.2) := by
  obtain ⟨a, s⟩ := x
  obtain ⟨b, t⟩ := y
  exact dec_pair a b s t
theorem eqP_op (x y : OpM) : eqC x y = (eqC x.1 y.1 && eqL x.2 y.2) := by
  obtain ⟨a, s⟩ := x
  obtain ⟨b, t⟩ := y
  rw [eqL_dec]
  exact dec_pair a b s t
theorem sameList_is {A B : Option Addr} {n m c d : Nat} {xs ys : List Int} {w : World} {r : Bool} (hr : eqL xs ys = r) (h : RdL RI w A n xs) (h' : RdL RI w B m ys) : Calls Try.prog 36 #[.slice A n c, .slice B m d] w (Qt w (.bool r)) :=
  hr ▸ quiet_same (sameList_any A B n m c d xs ys w h h')
theorem sameAlgebra_any (cs ds : List Value) (x y : AlgebraM) (w : World) (h : shAlgebra.rd w cs x) (h' : shAlgebra.rd w ds y) :
    Calls Try.prog 31 #[.agg cs.toArray, .agg ds.toArray] w (Bl w (.bool (eqC x y))) := by
  obtain ⟨B, n, c, rfl, qs, qo⟩ := rdAlgebra h
  obtain ⟨D, m, d, rfl, qs', qo'⟩ := rdAlgebra h'
  have hle := qo.le
  have hle' := qo'.le
  obtain ⟨w0, hw0, T0, hsz0, BP, BQ⟩ := boxes2 w #[.int .i64 x.1, .slice B n c] #[.int .i64 y.1, .slice D m d] 26 26
  have HW0 : Hid (_ = w0) := hw0.symm
  have cP0 := BP.cell 0
  have cP1 := BP.cell 1
  have cQ0 := BQ.cell 0
  have cQ1 := BQ.cell 1
  simp at cP0 cP1 cQ0 cQ1
  rw [hw0] at cP0 cP1 cQ0 cQ1
  have HD := Lib.hid (eqP_alg x y)
  clear hw0 hsz0
  rcases hd0 : eqC x.1 y.1 with _ | _
  · have ht : (x.1 != y.1) = true := neq_int hd0
    have HH0 := Lib.hid hd0
    clear hd0
    go_enter Try.func31, Try.ntmps31
    go_wp2_with fail
    go_ret
    exact ⟨ret_bool (by rw [HD.out, HH0.out]; rfl), by first | exact T0 | (rw [HW0.out]; exact T0)⟩
  have ht0 : (x.1 != y.1) = false := neq_int hd0
  have HH0 := Lib.hid hd0
  clear hd0
  have HDD : Hid (eqC x y = eqC x.2 y.2) := by show _ = _; rw [HD.out, HH0.out]; rfl
  by_cases hnm : n = m
  rotate_left
  · have ht1 : ((n : Int) != (m : Int)) = true := by rw [bne_iff_ne]; omega
    have HF : Hid (false = eqC x.2 y.2) := eqd_len qo.len qo'.len hnm
    go_enter Try.func31, Try.ntmps31
    go_wp2_with fail
    go_ret
    exact ⟨ret_bool (by rw [HDD.out, ← HF.out]), by first | exact T0 | (rw [HW0.out]; exact T0)⟩
  subst hnm
  have ht1 : ((n : Int) != (n : Int)) = false := by simp
  go_enter Try.func31, Try.ntmps31
  go_wp2_with fail
  clear cP0 cP1 cQ0 cQ1
  go_loopw [24] (fun i wr => ∃ k : Nat, k ≤ n ∧ i = .int .i64 k ∧ EqdAt x.2 y.2 k ∧ Blk wr (w.heap.size + 1) 26 #[.int .i64 y.1, .slice D n d] ∧ Below w.heap.size w wr) (fun i _ => n - (intOf i).toNat)
  case atStart =>
    rw [HW0.out]
    exact ⟨0, Nat.zero_le _, rfl, EqdAt.start _ _, BQ, T0⟩
  case round =>
    clear BQ BP
    obtain ⟨k, hk, rfl, H, BQ, hT⟩ := hrel
    by_cases hlt : k < n
    · obtain ⟨b, o, vs, u, rfl, -, hc, hr, hdr, -⟩ := (qo.next hT).at hlt
      obtain ⟨b', o', vs', v, rfl, -, hc', hr', hdr', -⟩ := (qo'.next hT).at hlt
      obtain ⟨B1, m1, d1, rfl, -, qt⟩ := rdOp hr
      obtain ⟨B2, m2, d2, rfl, -, qt'⟩ := rdOp hr'
      have cc0 : wr.cell? ⟨b, o + k * 2, none⟩ = some (.int .i64 u.1) := hc 0 _ rfl
      have cc1 : wr.cell? ⟨b, o + k * 2 + 1, none⟩ = some (.slice B1 m1 d1) := hc 1 _ rfl
      have dd0 : wr.cell? ⟨b', o' + k * 2, none⟩ = some (.int .i64 v.1) := hc' 0 _ rfl
      have dd1 : wr.cell? ⟨b', o' + k * 2 + 1, none⟩ = some (.slice B2 m2 d2) := hc' 1 _ rfl
      have HE := Lib.hid (eqP_op u v)
      have H1 := Lib.hid hdr
      have H2 := Lib.hid hdr'
      clear hc hc' hr hr' hdr hdr'
      have hk0 : (0 : Int) ≤ (k : Int) := by omega
      have hk1 : (k : Int) < (n : Int) := by omega
      obtain ⟨w5, hw5, T5, hs5, BU⟩ := boxes1 wr #[.int .i64 u.1, .slice B1 m1 d1] 72
      have HW5 := Lib.hid hw5
      have qt5 := qt.next stab_RI T5
      have qt5' := qt'.next stab_RI T5
      have BQ5 := BQ.next T5
      have hT5 := below_next hT T5 rfl
      have cU0 := BU.cell 0
      have cU1 := BU.cell 1
      have cQ1 := BQ5.cell 1
      have ee0 := keepc T5 dd0
      have ee1 := keepc T5 dd1
      simp at cU0 cU1 cQ1
      clear hw5 hs5
      rcases ha : eqC u.1 v.1 with _ | _
      · have hta : (u.1 != v.1) = true := neq_int ha
        have HEF : Hid (eqC u v = false) := by show _ = _; rw [HE.out, ha]; rfl
        clear ha
        go_upto_region 6 with fail
        rw [← HW5.out]
        clear cc0 cc1 dd0 dd1
        go_quiet (fail)
        go_wp2_with fail
        go_ret
        exact ⟨ret_bool (by rw [HDD.out, ← H.stop H1.out H2.out HEF.out]), by first | exact hT5 | exact below_drewN hT5 _⟩
      · have hta : (u.1 != v.1) = false := neq_int ha
        rcases hl : eqL u.2 v.2 with _ | _
        · have HEF : Hid (eqC u v = false) := by show _ = _; rw [HE.out, ha, hl]; rfl
          have HL := Lib.hid hl
          clear ha hl
          go_upto_region 6 with fail
          rw [← HW5.out]
          clear cc0 cc1 dd0 dd1
          go_quiet ((go_at_call 36; first | exact quiet_one (sameList_is HL.out (qt5.drewN stab_RI _) (qt5'.drewN stab_RI _)) | exact quiet_add (sameList_is HL.out (qt5.drewN stab_RI _) (qt5'.drewN stab_RI _))))
          go_wp2_with fail
          go_ret
          exact ⟨ret_bool (by rw [HDD.out, ← H.stop H1.out H2.out HEF.out]), by first | exact hT5 | exact below_drewN hT5 _⟩
        · have HEF : Hid (eqC u v = true) := by show _ = _; rw [HE.out, ha, hl]; rfl
          have HL := Lib.hid hl
          clear ha hl
          go_upto_region 6 with fail
          rw [← HW5.out]
          clear cc0 cc1 dd0 dd1
          go_quiet ((go_at_call 36; first | exact quiet_one (sameList_is HL.out (qt5.drewN stab_RI _) (qt5'.drewN stab_RI _)) | exact quiet_add (sameList_is HL.out (qt5.drewN stab_RI _) (qt5'.drewN stab_RI _))))
          go_wp2_with fail
          go_roundw
          case rel => exact ⟨k + 1, by omega, by go_num, H.step H1.out H2.out HEF.out, BQ5.drewN _, by first | exact hT5 | exact below_drewN hT5 _⟩
          case measure => simp [intOf]; omega
    · have hlt' : ¬ (k : Int) < (n : Int) := by omega
      have HE := Lib.hid (H.done (qo.drop_end hlt) (qo'.drop_end hlt))
      go_wp2_with fail
      go_ret
      exact ⟨ret_bool (by rw [HDD.out, ← HE.out]), hT⟩
def tyL (xs : List OpM) : List Int := xs.map (·.1)
theorem tyL_len (xs : List OpM) : (tyL xs).length = xs.length := by simp [tyL]
theorem tyL_snoc {xs : List OpM} {k : Nat} {u : OpM} (h : xs[k]? = some u) : (tyL xs).take (k + 1) = (tyL xs).take k ++ [u.1] := take_snoc (by unfold tyL; rw [List.getElem?_map, h]; rfl)
theorem tyL_R {w : World} {A : Option Addr} {n : Nat} {xs : List OpM} (h : RdN shOp.m shOp.rd w A n xs) : ∀ y ∈ tyL xs, InR y := by
  intro y hy
  unfold tyL at hy
  rw [List.mem_map] at hy
  obtain ⟨u, hu, rfl⟩ := hy
  obtain ⟨k, hk⟩ := List.getElem?_of_mem hu
  obtain ⟨b, o, vs, -, -, -, hr⟩ := h.2.2 k u hk
  obtain ⟨B, m, d, -, qa, -⟩ := rdOp hr
  exact qa
theorem l2Type_any (cs : List Value) (x : AlgebraM) (w : World) (h : shAlgebra.rd w cs x) (hn : x.2.length ≤ 1048576) :
    Calls Try.prog 87 #[.agg cs.toArray] w (fun e w' => ∃ A c, e = .returned (.slice A x.2.length c) ∧ RdL RI w' A x.2.length (tyL x.2) ∧ Below w.heap.size w w') := by
  obtain ⟨B, m, d, rfl, qs, qo⟩ := rdAlgebra h
  obtain rfl : x.2.length = m := qo.len
  have HTR := Lib.hid (tyL_R qo)
  have hle := qo.le
  obtain ⟨w0, hw0, T0, hsz0, BP⟩ := boxes1 w #[.int .i64 x.1, .slice B x.2.length d] 26
  have hown0 := lit_below T0
  have T1 := below_next T0 (below_box w0 (.cells #[] 3)) rfl
  obtain ⟨w1, hw1⟩ : ∃ wb, wb = w0.alloc (.cells #[] 3) := ⟨_, rfl⟩
  replace BP : Blk w1 w.heap.size 26 #[.int .i64 x.1, .slice B x.2.length d] := by rw [hw1]; exact BP.alloc _
  rw [← hw1] at hown0 T1
  rw [hsz0] at hown0
  have HW : Hid (w1 = (w.alloc (.cells #[.int .i64 x.1, .slice B x.2.length d] 26)).alloc (.cells #[] 3)) := by show _ = _; rw [hw1, hw0]
  clear hw0 hw1 T0 hsz0
  go_enter Try.func87, Try.ntmps87
  go_wp2_with fail
  rw [← HW.out]
  go_loopw [3, 4] (fun v i wr => ∃ (k : Nat) (A : Option Addr) (c : Nat), k ≤ x.2.length ∧ i = .int .i64 k ∧ v = .slice A k c ∧ wr.ownsRow w.heap.size 3 1 (.slice A k c) k (ints ((tyL x.2).take k)) ∧ Blk wr w.heap.size 26 #[.int .i64 x.1, .slice B x.2.length d] ∧ Below w.heap.size w wr) (fun _ i _ => x.2.length - (intOf i).toNat)
  case atStart => exact ⟨0, _, _, Nat.zero_le _, rfl, rfl, hown0, BP, T1⟩
  case round =>
    clear hown0 T1 BP
    obtain ⟨k, A, c, hk, rfl, rfl, hown, BP, hTw⟩ := hrel
    have q' := qo.next hTw
    have cP := BP.cell 1
    simp at cP
    by_cases hlt : k < x.2.length
    · obtain ⟨b, o, vs, u, rfl, -, hc, hr, -, hxu⟩ := q'.at hlt
      obtain ⟨B', m', d', rfl, qa, qt⟩ := rdOp hr
      have cc0 : wr.cell? ⟨b, o + k * 2, none⟩ = some (.int .i64 u.1) := hc 0 _ rfl
      have hbase := hTw.size
      have HS := Lib.hid (tyL_snoc hxu)
      clear hc hxu
      have hk0 : (0 : Int) ≤ (k : Int) := by omega
      have hk1 : (k : Int) < (x.2.length : Int) := by omega
      go_wp2_with (at_builtin; refine app1 wr rfl _ _ 38 3 rfl (.int .i64 0) 8 Try.underlying38 info_int rfl (by decide) w.heap.size k c A (ints ((tyL x.2).take k)) rfl hown (.int .i64 u.1) rfl rfl (by omega) hbase ?_; intro A2 c2 w2 hown2 hg2 hb2)
      go_roundw
      case rel => exact ⟨k + 1, A2, c2, by omega, by go_num, rfl, by rw [HS.out, ints_snoc]; exact hown2, BP.grown hg2 (fun e => own_off hown BP (by decide) e.symm), hTw.trans hb2⟩
      case measure => simp [intOf]; omega
    · have hke : k = x.2.length := by omega
      have hlt' : ¬ (k : Int) < (x.2.length : Int) := by omega
      have HRR : Hid (RdL RI wr A x.2.length (tyL x.2)) := by
        show RdL _ _ _ _ _
        rw [hke, List.take_of_length_le (by rw [tyL_len]; exact Nat.le_refl _)] at hown
        exact rd_of_own (R := RI) hown (RI_ints HTR.out)
      have HK := Lib.hid hke
      clear hke
      go_wp2_with fail
      go_ret
      exact ⟨A, ⟨c, by rw [← HK.out]; rfl⟩, HRR.out, hTw⟩
theorem l2Same_any (cs ds : List Value) (x y : AlgebraM) (w : World) (h : shAlgebra.rd w cs x) (h' : shAlgebra.rd w ds y) (hx : x.2.length ≤ 1048576) (hy : y.2.length ≤ 1048576) :
    Calls Try.prog 64 #[.agg cs.toArray, .agg ds.toArray] w (Bl w (.bool (eqL (tyL x.2) (tyL y.2)))) := by
  have hrd := h
  have hrd' := h'
  obtain ⟨B, n, c, rfl, qs, qo⟩ := rdAlgebra h
  obtain ⟨D, m, d, rfl, qs', qo'⟩ := rdAlgebra h'
  obtain ⟨w0, hw0, T0, hsz0, BP, BQ⟩ := boxes2 w #[.int .i64 x.1, .slice B n c] #[.int .i64 y.1, .slice D m d] 26 26
  have HW0 := Lib.hid hw0
  have cP0 := BP.cell 0
  have cP1 := BP.cell 1
  have cQ0 := BQ.cell 0
  have cQ1 := BQ.cell 1
  simp at cP0 cP1 cQ0 cQ1
  have HC1 : ∀ wz, Below w0.heap.size w0 wz → Calls Try.prog 87 #[.agg #[.int .i64 x.1, .slice B n c]] wz (fun e w' => ∃ A c, e = .returned (.slice A x.2.length c) ∧ RdL RI w' A x.2.length (tyL x.2) ∧ Below wz.heap.size wz w') := fun wz hz =>
    l2Type_any [.int .i64 x.1, .slice B n c] x wz (shAlgebra.stab (shAlgebra.stab hrd T0.block) hz.block) hx
  have HC2 : ∀ wz, Below w0.heap.size w0 wz → Calls Try.prog 87 #[.agg #[.int .i64 y.1, .slice D m d]] wz (fun e w' => ∃ A c, e = .returned (.slice A y.2.length c) ∧ RdL RI w' A y.2.length (tyL y.2) ∧ Below wz.heap.size wz w') := fun wz hz =>
    l2Type_any [.int .i64 y.1, .slice D m d] y wz (shAlgebra.stab (shAlgebra.stab hrd' T0.block) hz.block) hy
  clear hw0 hsz0 h h' qo qo'
  go_enter Try.func64, Try.ntmps64
  go_upto_region 1 with fail
  rw [← HW0.out]
  have Tk : Below w0.heap.size w0 w0 := Below.refl _ _
  go_cut [4] (fun v4 wx => v4 = .bool (eqL (tyL x.2) (tyL y.2)) ∧ Below w0.heap.size w0 wx)
  case first =>
    go_region_held3 (fun w' => w'.cell? ⟨w.heap.size, 0, none⟩ = some (.int .i64 x.1) ∧ w'.cell? ⟨w.heap.size, 1, none⟩ = some (.slice B n c) ∧ w'.cell? ⟨w.heap.size + 1, 0, none⟩ = some (.int .i64 y.1) ∧ w'.cell? ⟨w.heap.size + 1, 1, none⟩ = some (.slice D m d)) (first | go_keep | exact ⟨keepc Tk cP0, keepc Tk cP1, keepc Tk cQ0, keepc Tk cQ1⟩) (first
      | (go_at_call 87; (with_reducible refine (HC1 _ ?_).mono ?_); (first | exact Tk | exact Below.drew Tk); rintro e wn ⟨A1, c1, rfl, R1, hbn⟩; (try replace R2 := (by first | exact R2.next stab_RI hbn | exact (R2.drew stab_RI).next stab_RI hbn)); replace Tk := below_next (by first | exact Tk | exact Below.drew Tk) hbn rfl)
      | (go_at_call 87; (with_reducible refine (HC2 _ ?_).mono ?_); (first | exact Tk | exact Below.drew Tk); rintro e wn ⟨A2, c2, rfl, R2, hbn⟩; (try replace R1 := (by first | exact R1.next stab_RI hbn | exact (R1.drew stab_RI).next stab_RI hbn)); replace Tk := below_next (by first | exact Tk | exact Below.drew Tk) hbn rfl)
      | (go_at_call 65; refine (l1Same_any _ _ _ _ _ _ _ _ _ (by first | exact R1 | exact R1.drew stab_RI) (by first | exact R2 | exact R2.drew stab_RI)).mono ?_; rintro e wm ⟨rfl, z, rfl⟩; replace Tk := below_drewN (by first | exact Tk | exact Below.drew Tk) z))
    all_goals
      go_wp2_with fail
      go_meet
      exact ⟨rfl, by first | exact Tk | exact Below.drew Tk⟩
  case rest =>
    obtain ⟨rfl, hbc⟩ := hcut
    have hT := below_next T0 hbc rfl
    go_wp2_with fail
    go_ret
    exact ⟨rfl, hT⟩
theorem eqL_false {l m : List Int} (h : eqL l m = false) : l ≠ m := fun e => by rw [eqL_iff.2 e] at h; cases h
theorem same_val {x y : AlgebraM} (hx : SmallP x) (hy : SmallP y) {b1 b2 : Bool} (h0 : x.1 = y.1) (h1 : eqL (tyL x.2) (tyL y.2) = b1) (h2 : b1 = true → eqL (codeL x.2) (codeL y.2) = b2) : (b1 && b2) = eqC x y := by
  rcases b1 with _ | _
  · symm
    rw [Bool.false_and, eqC_no]
    intro e
    exact eqL_false h1 (by rw [e])
  · rw [Bool.true_and]
    rcases b2 with _ | _
    · symm
      rw [eqC_no]
      intro e
      exact eqL_false (h2 rfl) (by rw [e])
    · symm
      rw [eqC_iff]
      refine Prod.ext h0 (code_eq (n := x.1.toNat) hx.2.2.2 (by rw [h0]; exact hy.2.2.2) (eqL_iff.1 h1) (eqL_iff.1 (h2 rfl)))
theorem l31Same_any (cs ds : List Value) (x y : AlgebraM) (w : World) (h : shAlgebra.rd w cs x) (h' : shAlgebra.rd w ds y) (hx : SmallP x) (hy : SmallP y) :
    Calls Try.prog 33 #[.agg cs.toArray, .agg ds.toArray] w (Bl w (.bool (eqC x y))) := by
  have hrd := h
  have hrd' := h'
  obtain ⟨B, n, c, rfl, qs, qo⟩ := rdAlgebra h
  obtain ⟨D, m, d, rfl, qs', qo'⟩ := rdAlgebra h'
  obtain ⟨w0, hw0, T0, hsz0, BP, BQ⟩ := boxes2 w #[.int .i64 x.1, .slice B n c] #[.int .i64 y.1, .slice D m d] 26 26
  have HW0 := Lib.hid hw0
  have cP0 := BP.cell 0
  have cP1 := BP.cell 1
  have cQ0 := BQ.cell 0
  have cQ1 := BQ.cell 1
  simp at cP0 cP1 cQ0 cQ1
  by_cases hs : x.1 = y.1
  rotate_left
  · have hbe : (x.1 == y.1) = false := by rw [beq_eq_false_iff_ne]; exact hs
    have HV : Hid (eqC x y = false) := by show _ = _; rw [eqC_no]; intro e; exact hs (by rw [e])
    rw [HV.out]
    clear hw0 hsz0 h h' qo qo' hx hy
    go_enter Try.func33, Try.ntmps33
    go_upto_region 1 with fail
    rw [← HW0.out]
    go_quiet (fail)
    go_wp2_with fail
    go_ret
    exact ⟨rfl, by first | exact T0 | exact below_drewN T0 _⟩
  · have hbe : (x.1 == y.1) = true := by rw [beq_iff_eq]; exact hs
    have hlx := code_small hx
    have hly := code_small hy
    have hx1 : x.2.length ≤ 1048576 := by have := hx.2.2.1; omega
    have hy1 : y.2.length ≤ 1048576 := by have := hy.2.2.1; omega
    have HRX := Lib.hid (code_R hx)
    have HRY := Lib.hid (code_R hy)
    obtain ⟨b1, HB1⟩ : ∃ b, Hid (eqL (tyL x.2) (tyL y.2) = b) := ⟨_, rfl⟩
    obtain ⟨b2, HB2⟩ : ∃ b, Hid (eqL (codeL x.2) (codeL y.2) = b) := ⟨_, rfl⟩
    have HV : Hid ((b1 && b2) = eqC x y) := same_val hx hy hs HB1.out fun _ => HB2.out
    obtain ⟨V, HVV⟩ : ∃ V, Hid (V = (b1 && b2)) := ⟨_, rfl⟩
    rw [← HV.out, ← HVV.out]
    have HC0 : ∀ wz, Below w0.heap.size w0 wz → Calls Try.prog 64 #[.agg #[.int .i64 x.1, .slice B n c], .agg #[.int .i64 y.1, .slice D m d]] wz (Bl wz (.bool b1)) := fun wz hz => by
      have := l2Same_any [.int .i64 x.1, .slice B n c] [.int .i64 y.1, .slice D m d] x y wz (shAlgebra.stab (shAlgebra.stab hrd T0.block) hz.block) (shAlgebra.stab (shAlgebra.stab hrd' T0.block) hz.block) hx1 hy1
      rw [HB1.out] at this
      exact this
    have HC1 : ∀ wz, Below w0.heap.size w0 wz → Calls Try.prog 44 #[.agg #[.int .i64 x.1, .slice B n c]] wz (CodeE wz x.2) := fun wz hz =>
      l31Code_any [.int .i64 x.1, .slice B n c] x wz (shAlgebra.stab (shAlgebra.stab hrd T0.block) hz.block) (cnt_small hx)
    have HC2 : ∀ wz, Below w0.heap.size w0 wz → Calls Try.prog 44 #[.agg #[.int .i64 y.1, .slice D m d]] wz (CodeE wz y.2) := fun wz hz =>
      l31Code_any [.int .i64 y.1, .slice D m d] y wz (shAlgebra.stab (shAlgebra.stab hrd' T0.block) hz.block) (cnt_small hy)
    clear hw0 hsz0 h h' qo qo' hs hx hy
    rcases b1 with _ | _
    · go_enter Try.func33, Try.ntmps33
      go_upto_region 1 with fail
      rw [← HW0.out]
      have Tk : Below w0.heap.size w0 w0 := Below.refl _ _
      go_cut [4] (fun v4 wx => v4 = .bool V ∧ Below w0.heap.size w0 wx)
      case first =>
        go_region_with (go_at_call 64; (with_reducible refine (HC0 _ ?_).mono ?_); (first | exact Tk | exact Below.drew Tk); rintro e wn ⟨rfl, hbn⟩; have T9 := below_next (by first | exact Tk | exact Below.drew Tk) hbn rfl)
        all_goals
          go_wp2_with fail
          go_meet
          exact ⟨by rw [HVV.out]; rfl, by first | exact T9 | exact Below.drew T9⟩
      case rest =>
        obtain ⟨rfl, hbc⟩ := hcut
        have hT := below_next T0 hbc rfl
        go_wp2_with fail
        go_ret
        exact ⟨rfl, hT⟩
    · go_enter Try.func33, Try.ntmps33
      go_upto_region 1 with fail
      rw [← HW0.out]
      have Tk : Below w0.heap.size w0 w0 := Below.refl _ _
      go_cut [4] (fun v4 wx => v4 = .bool V ∧ Below w0.heap.size w0 wx)
      case first =>
        go_region_held3 (fun w' => w'.cell? ⟨w.heap.size, 0, none⟩ = some (.int .i64 x.1) ∧ w'.cell? ⟨w.heap.size, 1, none⟩ = some (.slice B n c) ∧ w'.cell? ⟨w.heap.size + 1, 0, none⟩ = some (.int .i64 y.1) ∧ w'.cell? ⟨w.heap.size + 1, 1, none⟩ = some (.slice D m d)) (first | go_keep | exact ⟨keepc Tk cP0, keepc Tk cP1, keepc Tk cQ0, keepc Tk cQ1⟩) (first
          | (go_at_call 64; (with_reducible refine (HC0 _ ?_).mono ?_); (first | exact Tk | exact Below.drew Tk); rintro e wn ⟨rfl, hbn⟩; replace Tk := below_next (by first | exact Tk | exact Below.drew Tk) hbn rfl)
          | (go_at_call 44; (with_reducible refine (HC1 _ ?_).mono ?_); (first | exact Tk | exact Below.drew Tk); rintro e wn ⟨A1, c1, rfl, ho1, hbn⟩; have R1 := rd_of_own (R := RI) ho1 (RI_ints HRX.out); clear ho1; (try replace R2 := (by first | exact R2.next stab_RI hbn | exact (R2.drew stab_RI).next stab_RI hbn)); replace Tk := below_next (by first | exact Tk | exact Below.drew Tk) hbn rfl)
          | (go_at_call 44; (with_reducible refine (HC2 _ ?_).mono ?_); (first | exact Tk | exact Below.drew Tk); rintro e wn ⟨A2, c2, rfl, ho2, hbn⟩; have R2 := rd_of_own (R := RI) ho2 (RI_ints HRY.out); clear ho2; (try replace R1 := (by first | exact R1.next stab_RI hbn | exact (R1.drew stab_RI).next stab_RI hbn)); replace Tk := below_next (by first | exact Tk | exact Below.drew Tk) hbn rfl)
          | (go_at_call 65; refine (l1Same_any _ _ _ _ _ _ _ _ _ (by first | exact R1 | exact R1.drew stab_RI) (by first | exact R2 | exact R2.drew stab_RI)).mono ?_; rintro e wm ⟨rfl, z, rfl⟩; rw [HB2.out]; replace Tk := below_drewN (by first | exact Tk | exact Below.drew Tk) z))
        all_goals
          go_wp2_with fail
          go_meet
          exact ⟨by rw [HVV.out]; rfl, by first | exact Tk | exact Below.drew Tk⟩
      case rest =>
        obtain ⟨rfl, hbc⟩ := hcut
        have hT := below_next T0 hbc rfl
        go_wp2_with fail
        go_ret
        exact ⟨rfl, hT⟩
noncomputable def hsM (x y : AlgebraM) : Bool := (smallB x && smallB y) && eqC (canA x) (canA y)
def hsOk (x y : AlgebraM) : Bool := smallB x && smallB y
theorem implHS_any (cs ds : List Value) (x y : AlgebraM) (w : World) (h : shAlgebra.rd w cs x) (h' : shAlgebra.rd w ds y) :
    Calls Try.prog 6 #[.agg cs.toArray, .agg ds.toArray] w (Bl w (.tuple #[.bool (hsM x y), .bool (hsOk x y)])) := by
  have hrd := h
  have hrd' := h'
  obtain ⟨B, n, c, rfl, qs, qo⟩ := rdAlgebra h
  obtain ⟨D, m, d, rfl, qs', qo'⟩ := rdAlgebra h'
  obtain ⟨w0, hw0, T0, hsz0, BP, BQ⟩ := boxes2 w #[.int .i64 x.1, .slice B n c] #[.int .i64 y.1, .slice D m d] 26 26
  have HW0 := Lib.hid hw0
  have cP0 := BP.cell 0
  have cP1 := BP.cell 1
  simp at cP0 cP1
  rw [hw0] at cP0 cP1
  clear hw0 hsz0 h h' qo qo'
  obtain ⟨r1, hr1⟩ : ∃ r, smallB x = r := ⟨_, rfl⟩
  obtain ⟨r2, hr2⟩ : ∃ r, smallB y = r := ⟨_, rfl⟩
  have HM : Hid (hsM x y = ((r1 && r2) && eqC (canA x) (canA y))) := by show _ = _; unfold hsM; rw [hr1, hr2]
  have HO : Hid (hsOk x y = (r1 && r2)) := by show _ = _; unfold hsOk; rw [hr1, hr2]
  have HS1 := Lib.hid hr1
  have HS2 := Lib.hid hr2
  rw [HM.out, HO.out]
  clear hr1 hr2 HM HO
  rcases r1 with _ | _
  · go_enter Try.func6, Try.ntmps6
    go_wp2_with fail
    rw [← HW0.out]
    refine (isNamed_any _ x _ (shAlgebra.stab hrd T0.block)).mono ?_
    rintro e w1 ⟨rfl, hb1⟩
    rw [HS1.out]
    have T1 := below_next T0 hb1 rfl
    go_wp2_with fail
    go_ret2
    exact ⟨rfl, T1⟩
  · rcases r2 with _ | _
    · go_enter Try.func6, Try.ntmps6
      go_wp2_with fail
      rw [← HW0.out]
      refine (isNamed_any _ x _ (shAlgebra.stab hrd T0.block)).mono ?_
      rintro e w1 ⟨rfl, hb1⟩
      rw [HS1.out]
      have T1 := below_next T0 hb1 rfl
      have cQ0 := (BQ.next hb1).cell 0
      have cQ1 := (BQ.next hb1).cell 1
      simp at cQ0 cQ1
      go_wp2_with fail
      refine (isNamed_any _ y _ (shAlgebra.stab hrd' T1.block)).mono ?_
      rintro e w2 ⟨rfl, hb2⟩
      rw [HS2.out]
      have T2 := below_next T1 hb2 rfl
      go_wp2_with fail
      go_ret2
      exact ⟨rfl, T2⟩
    · have hsx := small_iff.1 HS1.out
      have hsy := small_iff.1 HS2.out
      obtain ⟨nx, hnx⟩ : ∃ n : Nat, x.1 = (n : Int) := ⟨x.1.toNat, by have h1 := hsx.1; omega⟩
      obtain ⟨ny, hny⟩ : ∃ n : Nat, y.1 = (n : Int) := ⟨y.1.toNat, by have h1 := hsy.1; omega⟩
      have HCX : Hid (∀ wz, Below w.heap.size w wz → Calls Try.prog 30 #[.agg #[.int .i64 x.1, .slice B n c]] wz (CanE wz x nx)) := fun wz hz => canonical_any [.int .i64 x.1, .slice B n c] x nx wz (shAlgebra.stab hrd hz.block) hsx hnx
      have HCY : Hid (∀ wz, Below w.heap.size w wz → Calls Try.prog 30 #[.agg #[.int .i64 y.1, .slice D m d]] wz (CanE wz y ny)) := fun wz hz => canonical_any [.int .i64 y.1, .slice D m d] y ny wz (shAlgebra.stab hrd' hz.block) hsy hny
      have HRX : Hid (InR (nx : Int)) := by show InR _; rw [← hnx]; exact small_R hsx
      have HRY : Hid (InR (ny : Int)) := by show InR _; rw [← hny]; exact small_R hsy
      have HEX : Hid (((nx : Int), (canA x).2) = canA x) := by show _ = _; rw [← hnx]; rfl
      have HEY : Hid (((ny : Int), (canA y).2) = canA y) := by show _ = _; rw [← hny]; rfl
      clear hnx hny hsx hsy
      go_enter Try.func6, Try.ntmps6
      go_wp2_with fail
      rw [← HW0.out]
      refine (isNamed_any _ x _ (shAlgebra.stab hrd T0.block)).mono ?_
      rintro e w1 ⟨rfl, hb1⟩
      rw [HS1.out]
      have T1 := below_next T0 hb1 rfl
      replace BP := BP.next hb1
      replace BQ := BQ.next hb1
      clear cP0 cP1
      have cQ0 := BQ.cell 0
      have cQ1 := BQ.cell 1
      simp at cQ0 cQ1
      go_wp2_with fail
      refine (isNamed_any _ y _ (shAlgebra.stab hrd' T1.block)).mono ?_
      rintro e w2 ⟨rfl, hb2⟩
      rw [HS2.out]
      have T2 := below_next T1 hb2 rfl
      replace BP := BP.next hb2
      replace BQ := BQ.next hb2
      clear cQ0 cQ1
      have cP0 := BP.cell 0
      have cP1 := BP.cell 1
      simp at cP0 cP1
      go_wp2_with fail
      refine (HCX.out _ T2).mono ?_
      rintro e w3 ⟨vx, cssx, blsx, Afx, cfx, rfl, hPx, -, hb3⟩
      have T3 := below_next T2 hb3 rfl
      obtain ⟨VX, vcx, rfl⟩ := own_slice hPx.2.1
      obtain ⟨LX, HLX⟩ : ∃ L, Hid ((canA x).2.length = L) := ⟨_, rfl⟩
      rw [HLX.out] at hPx
      rw [HLX.out]
      replace BP := BP.next hb3
      replace BQ := BQ.next hb3
      obtain ⟨w4, hw4, T4', -, BX⟩ := boxes1 w3 #[.int .i64 (nx : Int), .slice VX LX vcx] 26
      have HW4 := Lib.hid hw4
      have T4 := below_next T3 T4' rfl
      replace BQ := BQ.next T4'
      have rdx : shAlgebra.rd w4 [.int .i64 (nx : Int), .slice VX LX vcx] (canA x) := by
        have := (hPx.next T4').alg HRX.out
        rw [HEX.out] at this
        exact this
      have cQ0 := BQ.cell 0
      have cQ1 := BQ.cell 1
      simp at cQ0 cQ1
      rw [hw4] at cQ0 cQ1
      clear hw4 cP0 cP1 hPx
      go_wp2_with fail
      rw [← HW4.out]
      refine (HCY.out _ T4).mono ?_
      rintro e w5 ⟨vy, cssy, blsy, Afy, cfy, rfl, hPy, -, hb5⟩
      have T5 := below_next T4 hb5 rfl
      obtain ⟨VY, vcy, rfl⟩ := own_slice hPy.2.1
      obtain ⟨LY, HLY⟩ : ∃ L, Hid ((canA y).2.length = L) := ⟨_, rfl⟩
      rw [HLY.out] at hPy
      rw [HLY.out]
      replace BX := BX.next hb5
      obtain ⟨w6, hw6, T6', -, BY⟩ := boxes1 w5 #[.int .i64 (ny : Int), .slice VY LY vcy] 26
      have HW6 := Lib.hid hw6
      have T6 := below_next T5 T6' rfl
      replace BX := BX.next T6'
      have rdy : shAlgebra.rd w6 [.int .i64 (ny : Int), .slice VY LY vcy] (canA y) := by
        have := (hPy.next T6').alg HRY.out
        rw [HEY.out] at this
        exact this
      have rdx6 := shAlgebra.stab (shAlgebra.stab rdx hb5.block) T6'.block
      have cX0 := BX.cell 0
      have cX1 := BX.cell 1
      have cY0 := BY.cell 0
      have cY1 := BY.cell 1
      simp at cX0 cX1 cY0 cY1
      rw [hw6] at cX0 cX1 cY0 cY1
      clear hw6 cQ0 cQ1 hPy rdx
      go_wp2_with fail
      rw [← HW6.out]
      refine (sameAlgebra_any _ _ _ _ _ rdx6 rdy).mono ?_
      rintro e w7 ⟨rfl, hb7⟩
      have T7 := below_next T6 hb7 rfl
      go_wp2_with fail
      go_ret2
      exact ⟨by simp, T7⟩
theorem specHS_any (cs ds : List Value) (x y : AlgebraM) (w : World) (h : shAlgebra.rd w cs x) (h' : shAlgebra.rd w ds y) :
    Calls Try.prog 7 #[.agg cs.toArray, .agg ds.toArray] w (Bl w (.tuple #[.bool (hsM x y), .bool (hsOk x y)])) := by
  have hrd := h
  have hrd' := h'
  obtain ⟨B, n, c, rfl, qs, qo⟩ := rdAlgebra h
  obtain ⟨D, m, d, rfl, qs', qo'⟩ := rdAlgebra h'
  obtain ⟨w0, hw0, T0, hsz0, BP, BQ⟩ := boxes2 w #[.int .i64 x.1, .slice B n c] #[.int .i64 y.1, .slice D m d] 26 26
  have HW0 := Lib.hid hw0
  have cP0 := BP.cell 0
  have cP1 := BP.cell 1
  simp at cP0 cP1
  rw [hw0] at cP0 cP1
  clear hw0 hsz0 h h' qo qo'
  obtain ⟨r1, hr1⟩ : ∃ r, smallB x = r := ⟨_, rfl⟩
  obtain ⟨r2, hr2⟩ : ∃ r, smallB y = r := ⟨_, rfl⟩
  have HM : Hid (hsM x y = ((r1 && r2) && eqC (canA x) (canA y))) := by show _ = _; unfold hsM; rw [hr1, hr2]
  have HO : Hid (hsOk x y = (r1 && r2)) := by show _ = _; unfold hsOk; rw [hr1, hr2]
  have HS1 := Lib.hid hr1
  have HS2 := Lib.hid hr2
  rw [HM.out, HO.out]
  clear hr1 hr2 HM HO
  rcases r1 with _ | _
  · go_enter Try.func7, Try.ntmps7
    go_wp2_with fail
    rw [← HW0.out]
    refine (l31Takes_any _ x _ (shAlgebra.stab hrd T0.block)).mono ?_
    rintro e w1 ⟨rfl, hb1⟩
    rw [HS1.out]
    have T1 := below_next T0 hb1 rfl
    go_wp2_with fail
    go_ret2
    exact ⟨rfl, T1⟩
  · rcases r2 with _ | _
    · go_enter Try.func7, Try.ntmps7
      go_wp2_with fail
      rw [← HW0.out]
      refine (l31Takes_any _ x _ (shAlgebra.stab hrd T0.block)).mono ?_
      rintro e w1 ⟨rfl, hb1⟩
      rw [HS1.out]
      have T1 := below_next T0 hb1 rfl
      have cQ0 := (BQ.next hb1).cell 0
      have cQ1 := (BQ.next hb1).cell 1
      simp at cQ0 cQ1
      go_wp2_with fail
      refine (l31Takes_any _ y _ (shAlgebra.stab hrd' T1.block)).mono ?_
      rintro e w2 ⟨rfl, hb2⟩
      rw [HS2.out]
      have T2 := below_next T1 hb2 rfl
      go_wp2_with fail
      go_ret2
      exact ⟨rfl, T2⟩
    · have hsx := small_iff.1 HS1.out
      have hsy := small_iff.1 HS2.out
      have HRX : Hid (InR (canA x).1) := small_R (canA_small hsx)
      have HRY : Hid (InR (canA y).1) := small_R (canA_small hsy)
      have HCX : Hid (∀ wz, Below w.heap.size w wz → Calls Try.prog 34 #[.agg #[.int .i64 x.1, .slice B n c]] wz (AlgE wz (canA x))) := fun wz hz => l31Form_any [.int .i64 x.1, .slice B n c] x wz (shAlgebra.stab hrd hz.block) hsx
      have HCY : Hid (∀ wz, Below w.heap.size w wz → Calls Try.prog 34 #[.agg #[.int .i64 y.1, .slice D m d]] wz (AlgE wz (canA y))) := fun wz hz => l31Form_any [.int .i64 y.1, .slice D m d] y wz (shAlgebra.stab hrd' hz.block) hsy
      have HSX := Lib.hid (canA_small hsx)
      have HSY := Lib.hid (canA_small hsy)
      clear hsx hsy
      go_enter Try.func7, Try.ntmps7
      go_wp2_with fail
      rw [← HW0.out]
      refine (l31Takes_any _ x _ (shAlgebra.stab hrd T0.block)).mono ?_
      rintro e w1 ⟨rfl, hb1⟩
      rw [HS1.out]
      have T1 := below_next T0 hb1 rfl
      replace BP := BP.next hb1
      replace BQ := BQ.next hb1
      clear cP0 cP1
      have cQ0 := BQ.cell 0
      have cQ1 := BQ.cell 1
      simp at cQ0 cQ1
      go_wp2_with fail
      refine (l31Takes_any _ y _ (shAlgebra.stab hrd' T1.block)).mono ?_
      rintro e w2 ⟨rfl, hb2⟩
      rw [HS2.out]
      have T2 := below_next T1 hb2 rfl
      replace BP := BP.next hb2
      replace BQ := BQ.next hb2
      clear cQ0 cQ1
      have cP0 := BP.cell 0
      have cP1 := BP.cell 1
      have cQ0 := BQ.cell 0
      have cQ1 := BQ.cell 1
      simp at cP0 cP1 cQ0 cQ1
      have HC1 : ∀ wz, Below w2.heap.size w2 wz → Calls Try.prog 34 #[.agg #[.int .i64 x.1, .slice B n c]] wz (AlgE wz (canA x)) := fun wz hz => HCX.out wz (below_next T2 hz rfl)
      have HC2 : ∀ wz, Below w2.heap.size w2 wz → Calls Try.prog 34 #[.agg #[.int .i64 y.1, .slice D m d]] wz (AlgE wz (canA y)) := fun wz hz => HCY.out wz (below_next T2 hz rfl)
      have Tk : Below w2.heap.size w2 w2 := Below.refl _ _
      go_upto_region 3 with fail
      go_cut [4, 5] (fun v4 v5 wx => v4 = .bool (eqC (canA x) (canA y)) ∧ v5 = .bool true ∧ Below w2.heap.size w2 wx)
      case first =>
        go_region_held3 (fun w' => w'.cell? ⟨w.heap.size, 0, none⟩ = some (.int .i64 x.1) ∧ w'.cell? ⟨w.heap.size, 1, none⟩ = some (.slice B n c) ∧ w'.cell? ⟨w.heap.size + 1, 0, none⟩ = some (.int .i64 y.1) ∧ w'.cell? ⟨w.heap.size + 1, 1, none⟩ = some (.slice D m d)) (first | go_keep | exact ⟨keepc Tk cP0, keepc Tk cP1, keepc Tk cQ0, keepc Tk cQ1⟩) (first
          | (go_at_call 34; (with_reducible refine (HC1 _ ?_).mono ?_); (first | exact Tk | exact Below.drew Tk); rintro e wn ⟨v1, css1, bls1, rfl, hP1, hbn⟩; have R1 := hP1.alg HRX.out; clear hP1; (try replace R2 := (shAlgebra.stab R2 (fun b hb => hbn.block b hb))); replace Tk := below_next (by first | exact Tk | exact Below.drew Tk) hbn rfl)
          | (go_at_call 34; (with_reducible refine (HC2 _ ?_).mono ?_); (first | exact Tk | exact Below.drew Tk); rintro e wn ⟨v2, css2, bls2, rfl, hP2, hbn⟩; have R2 := hP2.alg HRY.out; clear hP2; (try replace R1 := (shAlgebra.stab R1 (fun b hb => hbn.block b hb))); replace Tk := below_next (by first | exact Tk | exact Below.drew Tk) hbn rfl)
          | (go_at_call 33; refine (l31Same_any _ _ (canA x) (canA y) _ (by first | exact R1 | exact shAlgebra.stab R1 (fun _ _ => rfl)) (by first | exact R2 | exact shAlgebra.stab R2 (fun _ _ => rfl)) HSX.out HSY.out).mono ?_; rintro e wm ⟨rfl, hbm⟩; replace Tk := below_next (by first | exact Tk | exact Below.drew Tk) hbm rfl))
        all_goals
          go_wp2_with fail
          go_meet
          exact ⟨rfl, rfl, by first | exact Tk | exact Below.drew Tk⟩
      case rest =>
        obtain ⟨rfl, rfl, hbc⟩ := hcut
        have hT := below_next T2 hbc rfl
        go_wp2_with fail
        go_ret2
        exact ⟨by simp, hT⟩
/-- append of one slice to a row of slices of the call's own: the same block, or a new one. -/
theorem step_app1y (w0 : World) {ops : Array Oper} {o : Oper} {a : Act} {K : Act → World → Prop} {Q : Exit → Act → World → Prop} {E : Prop} (hgd : o.guard = none) (s x : Operand)
    (ho : o.op = .call { callee := .builtin .append, args := #[s, x], argTypes := #[31, 31] })
    (base n c : Nat) (A : Option Addr) (xs : List Value) (hs : a.eval s = .slice A n c) (hown : w0.ownsRow base 38 1 (.slice A n c) n xs) (u : Value) (hu : u.oneCell' = true) (hx : a.eval x = .slice (some ⟨w0.heap.size, 0, none⟩) 1 1)
    (hn : n ≤ 1048576) (hbase : base ≤ w0.heap.size)
    (hK : ∀ A' c' w', w'.ownsRow base 38 1 (.slice A' (n + 1) c') (n + 1) (xs ++ [u]) → w0.grownBy w' (Value.slice A n c).ownBlock → (∀ b ∈ obl (.slice A' (n + 1) c'), b ∈ obl (.slice A n c) ∨ w0.heap.size ≤ b) → K (a.put o.dst (.slice A' (n + 1) c')) w') :
    if Region.wanted o (yielded ops a.tmps) = true then Oper.wp Try.prog o a (w0.alloc (.cells #[u] 38)) K Q else E := by
  obtain ⟨i, hi, hz, hsize, hby⟩ := info_parts info_ints
  have hcells : ∀ j y, [u][j]? = some y → (w0.alloc (.cells #[u] 38)).cell? ((⟨w0.heap.size, 0, none⟩ : Addr).add j) = some y := by
    intro j y hj
    match j, hj with
    | 0, hj => simp at hj; subst hj; simp [Addr.add]
  have hone : ∀ y ∈ [u], y.oneCell' = true := by
    intro y hy
    simp at hy
    subst hy
    exact hu
  have lift : ∀ {w' : World} {row : Option Nat}, (w0.alloc (.cells #[u] 38)).grownBy w' row → (∀ k, row = some k → (Value.slice A n c).ownBlock = some k) → w0.grownBy w' (Value.slice A n c).ownBlock := by
    intro w' row hg hr
    exact ⟨hg.os, hg.tape, hg.output, Nat.le_trans (by simp) hg.size, fun k hk hne => (hg.block k (by simp; omega) (fun e => hne (hr k e.symm).symm)).trans (Below.heap_alloc w0 _ k hk)⟩
  by_cases hr : n + 1 ≤ c
  · obtain ⟨g, rfl⟩ : ∃ g, A = some ⟨g, 0, none⟩ := by
      rcases hown.2 with ⟨h0, -⟩ | ⟨g, cap, cur, hv, -⟩
      · injection h0 with _ _ h3
        omega
      · injection hv with hv
        exact ⟨g, hv⟩
    have hw : Region.wanted o (yielded ops a.tmps) = true := by simp [Region.wanted, hgd]
    rw [if_pos hw]
    refine wp_append_own_spare (w0.alloc (.cells #[u] 38)) s x 31 ho base 38 i 1 Try.underlying31 hi hsize g n c xs hs (hown.alloc _) ⟨w0.heap.size, 0, none⟩ 1 1 [u] hx rfl hcells hone hr ?_
    intro w' h2 h3
    exact hK _ _ _ h2 (lift h3 fun k e => e) (fun b hb => .inl hb)
  · refine step_append_grows hgd s x 31 ho 38 i (.slice none 0 0) 1 24 Try.underlying31 hi hz hsize hby rfl (by omega) A n c xs hs ?_ hown.1 ?_ ⟨w0.heap.size, 0, none⟩ 1 1 [u] hx rfl hcells hone (by omega) (by unfold maxLen; omega) (by omega) ?_
    · intro e
      subst e
      rcases hown.2 with ⟨h0, h1⟩ | ⟨g, cap, cur, hv, -⟩
      · injection h0 with _ _ h3
        exact ⟨h1, h3⟩
      · injection hv with hv
        cases hv
    · intro b e j y hy
      subst e
      obtain ⟨g, rfl⟩ : ∃ g, b = ⟨g, 0, none⟩ := by
        rcases hown.2 with ⟨h0, -⟩ | ⟨g, cap, cur, hv, -⟩
        · injection h0 with h0
          cases h0
        · injection hv with hv
          injection hv with hv
          exact ⟨g, hv⟩
      have hjl := (List.getElem?_eq_some_iff.1 hy).1
      have h1 := hown.1
      have := ((hown.alloc (.cells #[u] 38)).cellAt j (by omega)).trans hy
      have ea : (⟨g, 0, none⟩ : Addr).add j = ⟨g, j, none⟩ := by
        unfold Addr.add
        split
        · rename_i h0; subst h0; rfl
        · simp
      rw [ea]
      exact this
    · intro v' w' h2 h3
      obtain ⟨A', c', rfl⟩ := own_slice h2
      refine hK A' c' w' (own_mono h2 (by simp; omega)) (lift h3 fun k e => by cases e) (fun b hb => .inr ?_)
      have := (h2.lt b (mem_obl.1 hb)).1
      simp at this
      omega
/-- The orders that keep the algebra. -/
noncomputable def symF (x : AlgebraM) (s : List Int) : Bool := eqC (ren x s) x
noncomputable def symL (x : AlgebraM) (l : List (List Int)) : List (List Int) := l.filter (symF x)
theorem symL_snoc (x : AlgebraM) (l : List (List Int)) (s : List Int) : symL x (l ++ [s]) = if symF x s then symL x l ++ [s] else symL x l := by
  unfold symL
  rw [List.filter_append]
  rcases h : symF x s with _ | _ <;> simp [h]
structure SymC where
  x : AlgebraM
  n : Nat
  B : Option Addr
  m : Nat
  d : Nat
  wL : World
  ga : Nat
  gl : Nat
/-- The list so far. -/
def SymC.rest (C : SymC) (w : World) (L : List (List Int)) (bl : List Nat) : Prop :=
  ∃ (A : Option Addr) (c : Nat) (vs : List Value), Blk w C.gl 31 #[.slice A L.length c] ∧ OwMv 38 3 (.int .i64) C.wL.heap.size w (.slice A L.length c) L.length vs L ∧ bl = [C.ga, C.gl] ++ (obl (.slice A L.length c) ++ vs.filterMap Value.ownBlock)
def SymC.Q (C : SymC) (w : World) (d : List (List Int)) (bl : List Nat) : Prop :=
  ∃ rl, bl = List.range C.wL.heap.size ++ rl ∧ (∀ b < C.wL.heap.size, w.heap[b]? = C.wL.heap[b]?) ∧ C.wL.heap.size ≤ w.heap.size ∧ Blk w C.ga 26 #[.int .i64 (C.n : Int), .slice C.B C.m C.d] ∧ C.rest w (symL C.x d) rl
structure SymC.Ok (C : SymC) : Prop where
  rd : shAlgebra.rd C.wL [.int .i64 (C.n : Int), .slice C.B C.m C.d] C.x
  small : SmallP C.x
  hn : C.x.1 = (C.n : Int)
  dist : C.ga ≠ C.gl
  ge : C.wL.heap.size ≤ C.ga ∧ C.wL.heap.size ≤ C.gl
theorem OwMv.sameB {lo n : Nat} {w w' : World} {v : Value} {vs : List Value} {xss : List (List Int)} (h : OwMv 38 3 (.int .i64) lo w v n vs xss) (hs : ∀ b ∈ obl v ++ vs.filterMap Value.ownBlock, w'.heap[b]? = w.heap[b]?) : OwMv 38 3 (.int .i64) lo w' v n vs xss :=
  ⟨own_same h.1 fun b hb => hs b (List.mem_append_left _ (mem_obl.2 hb)), h.2.1, fun k u xs hu hx => own_same (h.2.2.1 k u xs hu hx) fun b hb => hs b (List.mem_append_right _ (List.mem_filterMap.2 ⟨u, List.mem_of_getElem? hu, hb⟩)), h.2.2.2⟩
theorem OwMv.lt {lo n : Nat} {w : World} {v : Value} {vs : List Value} {xss : List (List Int)} (h : OwMv 38 3 (.int .i64) lo w v n vs xss) : ∀ b ∈ obl v ++ vs.filterMap Value.ownBlock, lo ≤ b ∧ b < w.heap.size := by
  intro b hb
  rcases List.mem_append.1 hb with hb | hb
  · exact h.1.lt b (mem_obl.1 hb)
  · obtain ⟨u, hu, hub⟩ := List.mem_filterMap.1 hb
    obtain ⟨k, hk⟩ := List.getElem?_of_mem hu
    have hkl := (List.getElem?_eq_some_iff.1 hk).1
    have := h.2.1
    exact (h.2.2.1 k u _ hk (List.getElem?_eq_getElem (by omega))).lt b hub
theorem OwMv.push {lo n : Nat} {w w1 : World} {v : Value} {vs : List Value} {xss : List (List Int)} (h : OwMv 38 3 (.int .i64) lo w v n vs xss) (hb : Below w.heap.size w w1) (hlo : lo ≤ w.heap.size) {u : Value} {xs : List Int} (hu : w1.ownsRow w.heap.size 3 1 u xs.length (ints xs)) :
    w1.ownsRow lo 38 1 v n vs ∧ ∀ {w2 : World} {v' : Value}, w2.ownsRow lo 38 1 v' (n + 1) (vs ++ [u]) → w1.grownBy w2 v.ownBlock → OwMv 38 3 (.int .i64) lo w2 v' (n + 1) (vs ++ [u]) (xss ++ [xs]) := by
  have hl := h.lt
  obtain ⟨h1, h2, h3, h4⟩ := h
  have hk1 := own_next h1 hb
  refine ⟨hk1, fun {w2 v'} hown hg => ⟨hown, by simp [h2], ?_, ?_⟩⟩
  · have far : ∀ {base : Nat} {y : Value} {ys : List Int}, w1.ownsRow base 3 1 y ys.length (ints ys) → w2.ownsRow base 3 1 y ys.length (ints ys) := fun ho =>
      own_same ho fun b hb => hg.block b (ho.lt b hb).2 (fun e => own_ne ho hk1 (by decide) hb e.symm)
    intro k y ys hy hx
    by_cases hk : k < vs.length
    · rw [List.getElem?_append_left hk] at hy
      rw [List.getElem?_append_left (by omega)] at hx
      exact far (own_next (h3 k y ys hy hx) hb)
    · have hk2 : k = vs.length := by
        have := (List.getElem?_eq_some_iff.1 hy).1
        simp at this
        omega
      subst hk2
      rw [List.getElem?_append_right (Nat.le_refl _)] at hy
      rw [h2, List.getElem?_append_right (Nat.le_refl _)] at hx
      simp at hy hx
      subst hy
      subst hx
      exact far (own_mono hu hlo)
  · rw [List.filterMap_append]
    cases hub : u.ownBlock with
    | none => simpa [hub] using h4
    | some g =>
      simp only [List.filterMap_cons, hub, List.filterMap_nil]
      rw [List.nodup_append]
      refine ⟨h4, by simp, fun a ha b hb' => ?_⟩
      simp at hb'
      subst hb'
      have h5 := (hl a (List.mem_append_right _ ha)).2
      have h6 := (hu.lt b hub).1
      omega
theorem SymC.Q_lt {C : SymC} {w : World} {d : List (List Int)} {bl : List Nat} (h : C.Q w d bl) : ∀ b ∈ bl, b < w.heap.size := by
  obtain ⟨rl, rfl, -, hz, hA, A, c, vs, h1, h2, rfl⟩ := h
  intro b hb
  rcases List.mem_append.1 hb with hb | hb
  · have := List.mem_range.1 hb
    omega
  · rcases List.mem_append.1 hb with hb | hb
    · simp at hb
      rcases hb with rfl | rfl
      · exact hA.lt
      · exact h1.lt
    · exact (h2.lt b hb).2
theorem SymC.Q_sub {C : SymC} {w : World} {d : List (List Int)} {bl : List Nat} (h : C.Q w d bl) : ∀ g ∈ [C.ga, C.gl], g ∈ bl := by
  obtain ⟨rl, rfl, -, -, -, A, c, vs, h1, h2, rfl⟩ := h
  intro g hg
  exact List.mem_append_right _ (List.mem_append_left _ hg)
theorem SymC.Q_stab {C : SymC} {w w' : World} {d : List (List Int)} {bl : List Nat} (h : C.Q w d bl) (hz : w.heap.size ≤ w'.heap.size) (hs : ∀ b ∈ bl, w'.heap[b]? = w.heap[b]?) : C.Q w' d bl := by
  have hsub := SymC.Q_sub h
  obtain ⟨rl, rfl, h1, h2, hA, A, c, vs, g1, g2, rfl⟩ := h
  exact ⟨_, rfl, fun b hb => (hs b (List.mem_append_left _ (List.mem_range.2 hb))).trans (h1 b hb), Nat.le_trans h2 hz, (hs _ (hsub C.ga (by simp))).trans hA, A, c, vs, (hs _ (hsub C.gl (by simp))).trans g1, g2.sameB fun b hb => hs b (List.mem_append_right _ (List.mem_append_right _ hb)), rfl⟩
theorem SymC.Q_rd {C : SymC} {w : World} {d : List (List Int)} {bl : List Nat} (hC : C.Ok) (h : C.Q w d bl) : shAlgebra.rd w [.int .i64 (C.n : Int), .slice C.B C.m C.d] C.x := by
  obtain ⟨rl, rfl, h1, -, -, -⟩ := h
  exact shAlgebra.stab hC.rd h1
theorem SymC.keep {C : SymC} {w w' : World} {p : List Int} {d : List (List Int)} {bl : List Nat} (h : C.Q w d bl) (hb : Below w.heap.size w w') (hs : symF C.x p = false) : C.Q w' (d ++ [p]) bl := by
  have hlt := SymC.Q_lt h
  obtain ⟨rl, e, g1, g2, hA, hr⟩ := SymC.Q_stab h hb.size fun b hb' => hb.block b (hlt b hb')
  exact ⟨rl, e, g1, g2, hA, by rw [symL_snoc, hs]; exact hr⟩
theorem OwMv.off {lo n : Nat} {w : World} {v : Value} {vs : List Value} {xss : List (List Int)} (h : OwMv 38 3 (.int .i64) lo w v n vs xss) {g : Nat} {t : TypeId} {cs : Array Value} (hB : Blk w g t cs) (h1 : 38 ≠ t) (h2 : 3 ≠ t) : g ∉ obl v ++ vs.filterMap Value.ownBlock := by
  intro hg
  rcases List.mem_append.1 hg with hg | hg
  · exact own_off h.1 hB h1 (mem_obl.1 hg)
  · obtain ⟨u, hu, hub⟩ := List.mem_filterMap.1 hg
    obtain ⟨k, hk⟩ := List.getElem?_of_mem hu
    have hkl := (List.getElem?_eq_some_iff.1 hk).1
    have := h.2.1
    exact own_off (h.2.2.1 k u _ hk (List.getElem?_eq_getElem (by omega))) hB h2 hub
theorem SymC.finish {C : SymC} (hC : C.Ok) {L : List (List Int)} {w w6 w8 : World} {d : List (List Int)} {p : List Int} {A : Option Addr} {c : Nat} {vs : List Value} {u : Value} {A8 : Option Addr} {c8 : Nat} (hL : symL C.x d = L)
    (hsame : ∀ b < C.wL.heap.size, w.heap[b]? = C.wL.heap[b]?) (hwz : C.wL.heap.size ≤ w.heap.size) (hA : Blk w C.ga 26 #[.int .i64 (C.n : Int), .slice C.B C.m C.d]) (hBl : Blk w C.gl 31 #[.slice A L.length c]) (hOw : OwMv 38 3 (.int .i64) C.wL.heap.size w (.slice A L.length c) L.length vs L)
    (T6 : Below w.heap.size w w6) (hu : w6.ownsRow w.heap.size 3 1 u p.length (ints p)) (ho8 : OwMv 38 3 (.int .i64) C.wL.heap.size w8 (.slice A8 (L.length + 1) c8) (L.length + 1) (vs ++ [u]) (L ++ [p]))
    (hg8 : w6.grownBy w8 (Value.slice A L.length c).ownBlock) (hf8 : ∀ b ∈ obl (.slice A8 (L.length + 1) c8), b ∈ obl (.slice A L.length c) ∨ w6.heap.size ≤ b) (hs : symF C.x p = true) :
    ∃ bl', C.Q (w8.setCell ⟨C.gl, 0, none⟩ (.slice A8 (L.length + 1) c8)) (d ++ [p]) bl' ∧ ChgB (List.range C.wL.heap.size ++ ([C.ga, C.gl] ++ (obl (.slice A L.length c) ++ vs.filterMap Value.ownBlock))) w (w8.setCell ⟨C.gl, 0, none⟩ (.slice A8 (L.length + 1) c8)) ∧
      ∀ b ∈ bl', b ∈ List.range C.wL.heap.size ++ ([C.ga, C.gl] ++ (obl (.slice A L.length c) ++ vs.filterMap Value.ownBlock)) ∨ w.heap.size ≤ b := by
  have hnx : symL C.x (d ++ [p]) = L ++ [p] := by rw [symL_snoc, hs, hL]; rfl
  have hz6 := T6.size
  have hz8 := hg8.size
  have hno := hOw.off hBl (by decide) (by decide)
  have hao := hOw.off hA (by decide) (by decide)
  have hB6 := hBl.next T6
  have hB8 : Blk w8 C.gl 31 #[.slice A L.length c] := hB6.grown hg8 fun e => hno (List.mem_append_left _ (mem_obl.2 e.symm))
  have hA8 : Blk w8 C.ga 26 #[.int .i64 (C.n : Int), .slice C.B C.m C.d] := (hA.next T6).grown hg8 fun e => hao (List.mem_append_left _ (mem_obl.2 e.symm))
  have hno8 := ho8.off hB8 (by decide) (by decide)
  have hfar : ∀ b < w.heap.size, b ≠ C.gl → b ∉ obl (.slice A L.length c) → (w8.setCell ⟨C.gl, 0, none⟩ (.slice A8 (L.length + 1) c8)).heap[b]? = w.heap[b]? := by
    intro b hb h1 h2
    rw [Below.heap_setCell _ ⟨C.gl, 0, none⟩ _ b h1]
    exact (hg8.block b (by omega) fun e => h2 (mem_obl.2 e.symm)).trans (T6.block b hb)
  refine ⟨List.range C.wL.heap.size ++ ([C.ga, C.gl] ++ (obl (.slice A8 (L.length + 1) c8) ++ (vs ++ [u]).filterMap Value.ownBlock)), ⟨_, rfl, fun b hb => ?_, by simp; omega, hA8.far (p := ⟨C.gl, 0, none⟩) hC.dist _, A8, c8, vs ++ [u], ?_, ?_, ?_⟩, ⟨hg8.os.trans T6.os, hg8.tape.trans T6.tape, hg8.output.trans T6.output, by simp; omega, fun b hb hn => ?_⟩, fun b hb => ?_⟩
  · refine (hfar b (by omega) (by have := hC.ge.2; omega) fun hh => ?_).trans (hsame b hb)
    have := (hOw.lt b (List.mem_append_left _ hh)).1
    omega
  · rw [hnx]
    have := hB8.set_ 0 (.slice A8 (L.length + 1) c8)
    simpa using this
  · rw [hnx]
    have := ho8.sameB (w' := w8.setCell ⟨C.gl, 0, none⟩ (.slice A8 (L.length + 1) c8)) fun b hb => Below.heap_setCell _ ⟨C.gl, 0, none⟩ _ b fun e => hno8 (by rw [← show b = C.gl from e]; exact hb)
    simpa using this
  · rw [hnx]
    simp
  · refine hfar b hb (fun e => hn ?_) fun hh => hn ?_
    · rw [e]
      exact List.mem_append_right _ (List.mem_append_left _ (by simp))
    · exact List.mem_append_right _ (List.mem_append_right _ (List.mem_append_left _ hh))
  · rcases List.mem_append.1 hb with hb | hb
    · exact .inl (List.mem_append_left _ hb)
    · rcases List.mem_append.1 hb with hb | hb
      · exact .inl (List.mem_append_right _ (List.mem_append_left _ hb))
      · rcases List.mem_append.1 hb with hb | hb
        · rcases hf8 b hb with h1 | h1
          · exact .inl (List.mem_append_right _ (List.mem_append_right _ (List.mem_append_left _ h1)))
          · exact .inr (by omega)
        · rw [List.filterMap_append, List.mem_append] at hb
          rcases hb with hb | hb
          · exact .inl (List.mem_append_right _ (List.mem_append_right _ (List.mem_append_right _ hb)))
          · obtain ⟨y, hy, hyb⟩ := List.mem_filterMap.1 hb
            rw [List.mem_singleton] at hy
            subst hy
            exact .inr (hu.lt b hyb).1
def SymC.Post (C : SymC) (w w' : World) (d : List (List Int)) (bl : List Nat) : Prop :=
  ∃ bl', C.Q w' d bl' ∧ ChgB bl w w' ∧ ∀ b ∈ bl', b ∈ bl ∨ w.heap.size ≤ b
theorem symClo_any (C : SymC) (hC : C.Ok) (w : World) (d : List (List Int)) (bl : List Nat) (N : Option Addr) (c : Nat) (p : List Int) (hd : d.length < 4096) (hQ : C.Q w d bl) (hR : RdL RI w N C.n p) (hp : PermL C.n p) :
    Calls Try.prog 71 #[.slice N C.n c, .pointer (some ⟨C.ga, 0, none⟩), .pointer (some ⟨C.gl, 0, none⟩)] w
      fun e w' => e = .returned (.tuple #[]) ∧ C.Post w w' (d ++ [p]) bl := by
  have hrd := SymC.Q_rd hC hQ
  have HQ := Lib.hid hQ
  have HCK := Lib.hid hC
  obtain ⟨rl, rfl, hsame, hwz, hA, A, cA, vs, hBl, hOw, rfl⟩ := hQ
  obtain ⟨x, n, B, m, dd, wL, ga, gl⟩ := C
  have hn1 : x.1 = (n : Int) := hC.hn
  have hp' : PermL x.1.toNat p := by rw [hn1]; simpa using hp
  have hsm : SmallP x := hC.small
  have hsm2 := hsm.2.1
  have hn5 : n ≤ 5 := by omega
  have HPL : Hid (p.length = n) := hp.1
  have hLb : (symL x d).length ≤ 4096 := by
    have := List.length_filter_le (symF x) d
    unfold symL
    omega
  have cA0 : w.cell? ⟨ga, 0, none⟩ = some (.int .i64 (n : Int)) := by have := hA.cell 0; simpa using this
  have cA1 : w.cell? ⟨ga, 1, none⟩ = some (.slice B m dd) := by have := hA.cell 1; simpa using this
  have HC1 : ∀ wz, Below w.heap.size w wz → Calls Try.prog 49 #[.agg #[.int .i64 (n : Int), .slice B m dd], .slice N n c] wz (AlgE wz (ren x p)) := fun wz hz => rename_any [.int .i64 (n : Int), .slice B m dd] x N n c p wz (shAlgebra.stab hrd hz.block) (hR.next stab_RI hz) hsm hp'
  have HC2 : ∀ wz v css bls, Below w.heap.size w wz → PO 0 wz v (ren x p).2 css bls → Calls Try.prog 31 #[.agg #[.int .i64 (ren x p).1, v], .agg #[.int .i64 (n : Int), .slice B m dd]] wz (Bl wz (.bool (symF x p))) := fun wz v css bls hz hP => by
    have := sameAlgebra_any [.int .i64 (ren x p).1, v] [.int .i64 (n : Int), .slice B m dd] (ren x p) x wz (hP.alg (show InR x.1 from small_R hsm)) (shAlgebra.stab hrd hz.block)
    exact this
  obtain ⟨sv, HSV⟩ : ∃ b, Hid (symF x p = b) := ⟨_, rfl⟩
  rw [HSV.out] at HC2
  clear hrd hp' hsm hsm2
  have Tk : Below w.heap.size w w := Below.refl _ _
  go_enter Try.func71, Try.ntmps71
  go_upto_region 0 with fail
  go_cut [8] (fun v8 wx => v8 = .bool sv ∧ Below w.heap.size w wx)
  case first =>
    go_region_held3 (fun w' => w'.cell? ⟨ga, 0, none⟩ = some (.int .i64 (n : Int)) ∧ w'.cell? ⟨ga, 1, none⟩ = some (.slice B m dd)) (first | go_keep | exact ⟨keepc Tk cA0, keepc Tk cA1⟩) (first
      | (go_at_call 49; (with_reducible refine (HC1 _ ?_).mono ?_); (first | exact Tk | exact Below.drew Tk); rintro e wn ⟨vv, css, bls, rfl, hPn, hbn⟩; replace Tk := below_next (by first | exact Tk | exact Below.drew Tk) hbn rfl)
      | (go_at_call 31; refine (HC2 _ _ _ _ (by first | exact Tk | exact Below.drew Tk) (by first | exact hPn.mono (Nat.zero_le _) | exact (hPn.mono (Nat.zero_le _)).next (Below.drew (Below.refl _ _)))).mono ?_; rintro e wm ⟨rfl, hbm⟩; replace Tk := below_next (by first | exact Tk | exact Below.drew Tk) hbm rfl))
    all_goals
      go_wp2_with fail
      go_meet
      exact ⟨rfl, by first | exact Tk | exact Below.drew Tk⟩
  case rest =>
    obtain ⟨rfl, hT1⟩ := hcut
    obtain ⟨w1, HWC⟩ : ∃ wq : World, wq = wc := ⟨_, rfl⟩
    subst HWC
    clear Tk HC1 HC2 cA0 cA1
    rcases sv with _ | _
    · go_wp2_with fail
      go_end0
      exact ⟨rfl, _, SymC.keep HQ.out hT1 HSV.out, ChgB.ofBelow hT1, fun b hb => .inl hb⟩
    · have hR1 := hR.next stab_RI hT1
      replace hBl : Blk w gl 31 #[.slice A (symL x d).length cA] := hBl
      replace hOw : OwMv 38 3 (.int .i64) wL.heap.size w (.slice A (symL x d).length cA) (symL x d).length vs (symL x d) := hOw
      replace hA : Blk w ga 26 #[.int .i64 (n : Int), .slice B m dd] := hA
      replace hwz : wL.heap.size ≤ w.heap.size := hwz
      have HSM := Lib.hid hsame
      have HA := Lib.hid hA
      have HBl := Lib.hid hBl
      have HOw := Lib.hid hOw
      obtain ⟨L, HL⟩ : ∃ L, Hid (symL x d = L) := ⟨_, rfl⟩
      rw [HL.out] at hBl hOw hLb
      have BL1 := hBl.next hT1
      have cL := BL1.c0
      have hz1 := hT1.size
      have hSN : Hid (symL x (d ++ [p]) = L ++ [p]) := by show _ = _; rw [symL_snoc, HSV.out, HL.out]; rfl
      clear hsame hA hp
      go_upto_region 1 with fail
      go_region_law (first
        | (refine step_app1y w4 rfl (.tmp 9) (.tmp 12) rfl wL.heap.size L.length cA A vs (by rfl) hvs (.slice A4 n c4) rfl (by rfl) (by omega) (by omega) ?_; intro A8 c8 w8 hown8 hg8 hf8; have BL8 := BL4.grown hg8 (fun e => own_off hvs BL4 (by decide) e.symm); have cL8 := BL8.cell 0; have fL8 := BL8.frozen 0; simp at cL8)
        | (go_simp; go_at_call 63; refine (clone_any _ _ _ p _ (by first | exact hR1 | exact hR1.drew stab_RI) (by omega)).mono ?_; rintro e w4 ⟨A4, c4, rfl, ho4, hbn⟩; have hb4 := below_next (by first | exact hT1 | exact Below.drew hT1) hbn rfl; have hu4 : w4.ownsRow w.heap.size 3 1 (.slice A4 n c4) p.length (ints p) := by rw [HPL.out]; exact own_mono ho4 hz1
           obtain ⟨hvs, HPU⟩ := hOw.push hb4 hwz hu4; have hz4 := hb4.size; have BL4 := hBl.next hb4; have cL4 := BL4.cell 0; have cL4a := (BL4.alloc (.cells #[.slice A4 n c4] 38)).cell 0; simp at cL4 cL4a))
      all_goals
        have hO8 := HPU hown8 hg8
        have HFIN := Lib.hid (And.intro hb4 (And.intro hu4 (And.intro hO8 (And.intro hg8 hf8))))
        clear hO8 hown8 hg8 hf8 hvs HPU hu4
        go_wp2_with fail
        go_end0
        obtain ⟨h1, h2, h3, h4, h5⟩ := HFIN.out
        subst HL
        exact ⟨rfl, SymC.finish HCK.out rfl HSM.out hwz HA.out HBl.out HOw.out h1 h2 h3 h4 h5 HSV.out⟩
theorem OwMv.empty {w : World} (lo b : Nat) (hown : w.ownsRow lo 38 1 (.slice (some ⟨b, 0, none⟩) 0 0) 0 []) : OwMv 38 3 (.int .i64) lo w (.slice (some ⟨b, 0, none⟩) 0 0) 0 [] ([] : List (List Int)) :=
  ⟨hown, rfl, fun k u xs h => by simp at h, List.nodup_nil⟩
/-- A slice of slices of the call's own is handed back. -/
def OwSS (w : World) (xss : List (List Int)) (e : Ending) (w' : World) : Prop :=
  ∃ A c vs, e = .returned (.slice A xss.length c) ∧ OwMv 38 3 (.int .i64) w.heap.size w' (.slice A xss.length c) xss.length vs xss ∧ Below w.heap.size w w'
def OwSB (w : World) (xss : List (List Int)) (r : Bool) (e : Ending) (w' : World) : Prop :=
  ∃ A c vs, e = .returned (.tuple #[.slice A xss.length c, .bool r]) ∧ OwMv 38 3 (.int .i64) w.heap.size w' (.slice A xss.length c) xss.length vs xss ∧ InHi w'.heap.size vs ∧ Below w.heap.size w w'
def RdSB (w : World) (xss : List (List Int)) (r : Bool) (e : Ending) (w' : World) : Prop :=
  ∃ A c, e = .returned (.tuple #[.slice A xss.length c, .bool r]) ∧ RdL (RV RI) w' A xss.length xss ∧ Below w.heap.size w w'
theorem OwMv.inHi {lo n : Nat} {w : World} {v : Value} {vs : List Value} {xss : List (List Int)} (h : OwMv 38 3 (.int .i64) lo w v n vs xss) : InHi w.heap.size vs := fun u hu b hb =>
  (h.lt b (List.mem_append_right _ (List.mem_filterMap.2 ⟨u, hu, hb⟩))).2
noncomputable def soM (x : AlgebraM) : List (List Int) := if smallB x then symL x (ords x.1.toNat x.1.toNat []) else []
theorem symEnter (args : Array Value) (w : World) : (callFunc 71 args).run Try.prog w = .ok (.enter 71 args) w := rfl
theorem symmetries_any (cs : List Value) (x : AlgebraM) (w : World) (h : shAlgebra.rd w cs x) (hx : SmallP x) :
    Calls Try.prog 41 #[.agg cs.toArray] w (OwSS w (symL x (ords x.1.toNat x.1.toNat []))) := by
  obtain ⟨n, hn⟩ : ∃ n : Nat, x.1 = (n : Int) := ⟨x.1.toNat, by have h1 := hx.1; omega⟩
  have hrd := h
  obtain ⟨B, m, d, rfl, qs, qo⟩ := rdAlgebra h
  have hnn : x.1.toNat = n := by omega
  rw [hn] at hrd qs ⊢
  have e0 : (n : Int).toNat = n := by omega
  rw [e0]
  have hn5 : n ≤ 5 := by have h1 := hx.2.1; omega
  have hNb : (ords n n []).length ≤ 4096 := Nat.le_trans (Nat.le_trans (ords_len n []) (pow5 hn5 hn5)) (by decide)
  obtain ⟨w5, hw5⟩ : ∃ w5, w5 = ((w.alloc (.cells #[.int .i64 (n : Int), .slice B m d] 26)).alloc (.cells #[] 38)).alloc (.cells #[.slice (some ⟨w.heap.size + 1, 0, none⟩) 0 0] 31) := ⟨_, rfl⟩
  have T5 : Below w.heap.size w w5 := by
    rw [hw5]
    exact ((below_box w _).alloc (by simp) _).alloc (by simp; omega) _
  have hz5 : w5.heap.size = w.heap.size + 3 := by rw [hw5]; simp
  have BA : Blk w5 w.heap.size 26 #[.int .i64 (n : Int), .slice B m d] := by
    rw [hw5]
    exact ((Blk.new w 26 #[.int .i64 (n : Int), .slice B m d]).alloc _).alloc _
  have BL : Blk w5 (w.heap.size + 1 + 1) 31 #[.slice (some ⟨w.heap.size + 1, 0, none⟩) 0 0] := by
    rw [hw5]
    have := Blk.new ((w.alloc (.cells #[.int .i64 (n : Int), .slice B m d] 26)).alloc (.cells #[] 38)) 31 #[.slice (some ⟨w.heap.size + 1, 0, none⟩) 0 0]
    simpa using this
  have own : w5.ownsRow w.heap.size 38 1 (.slice (some ⟨w.heap.size + 1, 0, none⟩) 0 0) 0 [] := by
    rw [hw5]
    have := ((World.ownsRow_lit (e := 38) (size := 1) (w.alloc (.cells #[.int .i64 (n : Int), .slice B m d] 26)) #[] 0 (show w.heap.size ≤ _ by simp) (Nat.zero_le _) rfl).alloc (.cells #[.slice (some ⟨w.heap.size + 1, 0, none⟩) 0 0] 31))
    rw [World.size_alloc] at this
    exact this
  obtain ⟨C, hCd⟩ : ∃ C : SymC, C = { x := x, n := n, B := B, m := m, d := d, wL := w, ga := w.heap.size, gl := w.heap.size + 1 + 1 } := ⟨_, rfl⟩
  have hC : C.Ok := by
    subst hCd
    exact ⟨hrd, hx, hn, by show w.heap.size ≠ w.heap.size + 1 + 1; omega, ⟨by show w.heap.size ≤ w.heap.size; omega, by show w.heap.size ≤ w.heap.size + 1 + 1; omega⟩⟩
  have hQ5 : C.Q w5 [] (List.range w.heap.size ++ ([w.heap.size, w.heap.size + 1 + 1] ++ (obl (.slice (some ⟨w.heap.size + 1, 0, none⟩) 0 0) ++ ([] : List Value).filterMap Value.ownBlock))) := by
    subst hCd
    exact ⟨_, rfl, fun b hb => T5.block b hb, T5.size, BA, some ⟨w.heap.size + 1, 0, none⟩, 0, [], BL, OwMv.empty w.heap.size _ own, rfl⟩
  have hF : FoundOk (ords n n []).length C.n 71 #[.pointer (some ⟨C.ga, 0, none⟩), .pointer (some ⟨C.gl, 0, none⟩)] C.Q := by
    refine ⟨symEnter, fun h1 h2 h3 => SymC.Q_stab h1 h2 h3, fun h1 => SymC.Q_lt h1, fun w1 d1 bl N c p hd h1 h2 h3 => ?_⟩
    exact symClo_any C hC w1 d1 bl N c p (by omega) h1 h2 h3
  have HC : Hid (Calls Try.prog 59 #[.int .i64 (n : Int), .func (.func 71) #[] #[.pointer (some ⟨w.heap.size, 0, none⟩), .pointer (some ⟨w.heap.size + 1 + 1, 0, none⟩)]] w5
      (fun e w' => e = .returned (.tuple #[]) ∧ ∃ bl', C.Q w' (ords n n []) bl' ∧ ChgB (List.range w.heap.size ++ ([w.heap.size, w.heap.size + 1 + 1] ++ (obl (.slice (some ⟨w.heap.size + 1, 0, none⟩) 0 0) ++ ([] : List Value).filterMap Value.ownBlock))) w5 w')) := by
    have := eachOrder_any hF (by rw [hCd]; exact hn5) (by rw [hCd]; exact Nat.le_refl _) w5 _ hQ5
    subst hCd
    exact this.mono fun e w' ⟨h1, bl', h2, h3, _⟩ => ⟨h1, bl', h2, h3⟩
  have cA0 := BA.cell 0
  simp at cA0
  rw [hw5] at cA0
  have HW5 := Lib.hid hw5
  have HT := Lib.hid (And.intro T5 hz5)
  have HCD := Lib.hid hCd
  have HNN := Lib.hid hnn
  clear hw5 T5 hz5 BA BL own hC hQ5 hF hCd h
  go_enter Try.func41, Try.ntmps41
  go_wp2_with fail
  rw [← HW5.out]
  refine HC.out.mono ?_
  rintro e w6 ⟨rfl, bl', hQ6, hc6⟩
  obtain ⟨T5, hz5⟩ := HT.out
  have hcd := HCD.out
  subst hcd
  obtain ⟨rl, -, hsame, hsz, -, hrest⟩ := hQ6
  obtain ⟨A, c, vs, h1, h2, -⟩ := hrest
  replace h1 : Blk w6 (w.heap.size + 1 + 1) 31 #[.slice A (symL x (ords n n [])).length c] := h1
  replace h2 : OwMv 38 3 (.int .i64) w.heap.size w6 (.slice A (symL x (ords n n [])).length c) (symL x (ords n n [])).length vs (symL x (ords n n [])) := h2
  have T6 : Below w.heap.size w w6 := ⟨hc6.os.trans T5.os, hc6.tape.trans T5.tape, hc6.output.trans T5.output, hsz, fun b hb => hsame b hb⟩
  have cL := h1.c0
  have HO := Lib.hid h2
  clear h1 h2 hsame T5 HC hc6
  go_wp2_with fail
  go_ret
  exact ⟨A, c, vs, rfl, HO.out, T6⟩
theorem implSO_any (cs : List Value) (x : AlgebraM) (w : World) (h : shAlgebra.rd w cs x) :
    Calls Try.prog 10 #[.agg cs.toArray] w (OwSB w (soM x) (smallB x)) := by
  have hrd := h
  obtain ⟨B, m, d, rfl, qs, qo⟩ := rdAlgebra h
  obtain ⟨w0, hw0, T0, hsz0, BP⟩ := boxes1 w #[.int .i64 x.1, .slice B m d] 26
  have HW0 := Lib.hid hw0
  clear hw0
  obtain ⟨r, hr⟩ : ∃ r, smallB x = r := ⟨_, rfl⟩
  have HM : Hid (soM x = if r then symL x (ords x.1.toNat x.1.toNat []) else []) := by show _ = _; unfold soM; rw [hr]
  have HS := Lib.hid hr
  rw [hr]
  clear hr
  go_enter Try.func10, Try.ntmps10
  go_wp2_with fail
  rw [← HW0.out]
  refine (isNamed_any _ x _ (shAlgebra.stab hrd T0.block)).mono ?_
  rintro e w1 ⟨rfl, hb1⟩
  rw [HS.out]
  have T1 := below_next T0 hb1 rfl
  have cP0 := (BP.next hb1).cell 0
  have cP1 := (BP.next hb1).cell 1
  simp at cP0 cP1
  rcases r with _ | _
  · have hl : (w1.alloc (.cells #[] 38)).ownsRow w.heap.size 38 1 (.slice (some ⟨w1.heap.size, 0, none⟩) 0 0) 0 [] := World.ownsRow_lit _ _ _ T1.size (Nat.zero_le _) rfl
    have HO := Lib.hid (OwMv.empty _ _ hl)
    clear hl
    have HM0 : Hid (soM x = []) := by show _ = _; rw [HM.out]; rfl
    go_wp2_with fail
    go_ret2
    rw [HM0.out]
    exact ⟨_, _, _, rfl, HO.out, HO.out.inHi, below_next T1 (below_box _ _) rfl⟩
  · have HM0 : Hid (soM x = symL x (ords x.1.toNat x.1.toNat [])) := by show _ = _; rw [HM.out]; rfl
    go_wp2_with fail
    refine (symmetries_any _ x _ (shAlgebra.stab hrd T1.block) (small_iff.1 HS.out)).mono ?_
    rintro e w2 ⟨A, c, vs, rfl, ho, hb2⟩
    have T2 := below_next T1 hb2 rfl
    have HO := Lib.hid ho
    have HZ := Lib.hid T1.size
    clear ho
    go_wp2_with fail
    go_ret2
    rw [HM0.out]
    exact ⟨_, _, _, rfl, HO.out.mono HZ.out, HO.out.inHi, T2⟩
theorem app1y (w0 : World) {ops : Array Oper} {rest : List Oper} {o : Oper} {a : Act} {Q : Exit → Act → World → Prop} (hgd : o.guard = none) (s x : Operand)
    (ho : o.op = .call { callee := .builtin .append, args := #[s, x], argTypes := #[31, 31] })
    (base n c : Nat) (A : Option Addr) (xs : List Value) (hs : a.eval s = .slice A n c) (hown : w0.ownsRow base 38 1 (.slice A n c) n xs) (u : Value) (hu : u.oneCell' = true) (hx : a.eval x = .slice (some ⟨w0.heap.size, 0, none⟩) 1 1)
    (hn : n ≤ 1048576) (hbase : base ≤ w0.heap.size)
    (hK : ∀ A' c' w', w'.ownsRow base 38 1 (.slice A' (n + 1) c') (n + 1) (xs ++ [u]) → w0.grownBy w' (Value.slice A n c).ownBlock → (∀ b ∈ obl (.slice A' (n + 1) c'), b ∈ obl (.slice A n c) ∨ w0.heap.size ≤ b) → wpList Try.prog ops Q rest (a.put o.dst (.slice A' (n + 1) c')) w') :
    wpList Try.prog ops Q (o :: rest) a (w0.alloc (.cells #[u] 38)) :=
  wpList_plain hgd fun K hK' => by
    have hw : Region.wanted o (yielded ops a.tmps) = true := by simp [Region.wanted, hgd]
    have := step_app1y (K := K) (Q := Q) (E := True) (ops := ops) w0 hgd s x ho base n c A xs hs hown u hu hx hn hbase fun A' c' w' h1 h2 h3 => hK' _ _ (hK A' c' w' h1 h2 h3)
    rwa [if_pos hw] at this
theorem ChgB.trans2b {l : List Nat} {g : Nat} {a b c : World} (h : ChgB [g] a b) (k : ChgB l b c) (hl : ∀ q ∈ l, q = g ∨ a.heap.size ≤ q) : ChgB [g] a c :=
  ⟨k.os.trans h.os, k.tape.trans h.tape, k.output.trans h.output, Nat.le_trans h.size k.size, fun i hi hn => (k.block i (Nat.lt_of_lt_of_le hi h.size) fun hh => by
    rcases hl i hh with h1 | h1
    · exact hn (by simpa using h1)
    · omega).trans (h.block i hi hn)⟩
theorem specSO_any (cs : List Value) (x : AlgebraM) (w : World) (h : shAlgebra.rd w cs x) :
    Calls Try.prog 11 #[.agg cs.toArray] w (RdSB w (soM x) (smallB x)) := by
  have hrd := h
  obtain ⟨B, m, d, rfl, qs, qo⟩ := rdAlgebra h
  obtain ⟨w0, hw0, T0, hsz0, BP⟩ := boxes1 w #[.int .i64 x.1, .slice B m d] 26
  have HW0 : Hid (_ = w0) := hw0.symm
  have hz0 : w0.heap.size = w.heap.size + 1 := hsz0
  obtain ⟨w1, hw1, T1, hsz1, BO⟩ := boxes1 w0 #[] 38
  have HW1 : Hid (_ = w1) := hw1.symm
  have ho1 : w1.ownsRow w.heap.size 38 1 (.slice (some ⟨w.heap.size + 1, 0, none⟩) 0 0) 0 [] := by
    rw [hw1]
    have := World.ownsRow_lit (e := 38) (size := 1) w0 #[] 0 (show w.heap.size ≤ _ by omega) (Nat.zero_le _) rfl
    rw [hz0] at this
    exact this
  have T1w := below_next T0 T1 rfl
  have cP0 := BP.cell 0
  have cP1 := BP.cell 1
  simp at cP0 cP1
  replace BP := BP.next T1
  have cQ0 := BP.cell 0
  have cQ1 := BP.cell 1
  simp at cQ0 cQ1
  obtain ⟨r, hr⟩ : ∃ r, smallB x = r := ⟨_, rfl⟩
  have HM : Hid (soM x = if r then symL x (ords x.1.toNat x.1.toNat []) else []) := by show _ = _; unfold soM; rw [hr]
  have HS := Lib.hid hr
  rw [hr]
  clear hr hw0 hw1 hsz0
  go_enter Try.func11, Try.ntmps11
  go_wp2_with fail
  rw [HW0.out, HW1.out]
  refine (l31Takes_any _ x _ (shAlgebra.stab hrd T1w.block)).mono ?_
  rintro e w2 ⟨rfl, hb2⟩
  rw [HS.out]
  have T2 := below_next T1w hb2 rfl
  have ho2 := own_next ho1 hb2
  replace BP := BP.next hb2
  clear cP0 cP1 cQ0 cQ1
  have cP0 := BP.cell 0
  have cP1 := BP.cell 1
  simp at cP0 cP1
  rcases r with _ | _
  · have HM0 : Hid (soM x = []) := by show _ = _; rw [HM.out]; rfl
    go_wp2_with fail
    go_ret2
    rw [HM0.out]
    exact ⟨_, _, rfl, RdL.nil _ _ _, T2⟩
  · have hx := small_iff.1 HS.out
    have HX := Lib.hid hx
    obtain ⟨n, hn⟩ : ∃ n : Nat, x.1 = (n : Int) := ⟨x.1.toNat, by have h1 := hx.1; omega⟩
    have hn5 : n ≤ 5 := by have h1 := hx.2.1; omega
    have HNN : Hid (x.1.toNat = n) := by show _ = _; omega
    obtain ⟨AL, HAL⟩ : ∃ AL, Hid (ords n n [] = AL) := ⟨_, rfl⟩
    have HM0 : Hid (soM x = symL x AL) := by show _ = _; rw [HM.out, HNN.out, HAL.out]; rfl
    have HALL : Hid (∀ p ∈ AL, PermL n p) := by have := all_perm (x := x); rw [HNN.out, HAL.out] at this; exact this
    have hALlen : AL.length ≤ 3125 := by rw [← HAL.out]; exact Nat.le_trans (ords_len n []) (pow5 hn5 hn5)
    rw [hn] at hrd cP0 qs BP
    obtain ⟨w3, hw3, T3, hsz3, -⟩ := boxes1 w2 #[] 3
    have HW3 : Hid (_ = w3) := hw3.symm
    have R3 : RdL RI w3 (some ⟨w2.heap.size, 0, none⟩) 0 [] := RdL.nil _ _ _
    have HNM : Hid (Calls Try.prog 42 #[.int .i64 n, .slice (some ⟨w2.heap.size, 0, none⟩) 0 0] w3 (NmE w3 AL)) := by
      have := l31Names_any n hn5 n _ 0 0 [] w3 R3 (Nat.zero_add _)
      rw [HAL.out] at this
      exact this
    have T3w := below_next T2 T3 rfl
    replace BP := BP.next T3
    have ho3 := own_next ho2 T3
    clear hw3 hsz3 R3 hx h ho1 ho2
    go_wp2_with fail
    rw [HW3.out]
    refine HNM.out.mono ?_
    rintro e w4 ⟨A4, c4, ts, rfl, hoT, hRT, hb4⟩
    have T4 := below_next T3w hb4 rfl
    replace BP := BP.next hb4
    have ho4 := own_next ho3 hb4
    have R4 := raw_rd hoT
    have hlit : w.heap.size + 1 < w3.heap.size := by have := T3.size; have := hb2.size; have := T1.size; omega
    have HDT : Hid (∀ b ∈ obl (.slice A4 AL.length c4), w3.heap.size ≤ b) := fun b hb => (hoT.lt b (mem_obl.1 hb)).1
    obtain ⟨lc, hlc⟩ : ∃ l, w.heap.size + 1 = l := ⟨_, rfl⟩
    have hlit4 : ∃ cur fr, w4.heap[lc]? = some (.cells cur 38 fr) := by rw [← hlc]; exact row_blk ho4 (mem_obl.2 rfl)
    have HLIT := Lib.hid hlit4
    rw [hlc] at ho4
    have HLC := Lib.hid hlc
    have HLC3 : Hid (lc < w3.heap.size ∧ lc ≠ w.heap.size ∧ w.heap.size ≤ lc) := ⟨by omega, by omega, by omega⟩
    clear hoT HNM hlit4 hlit ho3 hlc
    go_wp2_with fail
    go_loopw [4, 6] (fun v i wr => ∃ (k : Nat) (A : Option Addr) (c : Nat) (us : List SlT), k ≤ AL.length ∧ i = .int .i64 k ∧ v = .slice A us.length c ∧ wr.ownsRow w.heap.size 38 1 (.slice A us.length c) us.length (us.map slV) ∧ Rws wr us (symL x (AL.take k)) ∧ ChgB [lc] w4 wr ∧ (∀ b ∈ obl (.slice A us.length c), b = lc ∨ w4.heap.size ≤ b)) (fun _ i _ => AL.length - (intOf i).toNat)
    case atStart => exact ⟨0, some ⟨lc, 0, none⟩, 0, [], Nat.zero_le _, rfl, by rw [← HLC.out]; rfl, ho4, Rws.nil _, ChgB.refl _ _, fun b hb => .inl (by simpa [obl, Value.ownBlock] using hb)⟩
    case round =>
      obtain ⟨k, A, c, us, hk, rfl, rfl, ho, hR, hC, hob⟩ := hrel
      by_cases hlt : k < AL.length
      · have hk0 : (0 : Int) ≤ (k : Int) := by omega
        have hkl : (k : Int) < (AL.length : Int) := by omega
        obtain ⟨b2, o2, v2, t, hA4, hcp, hv2, -, htk⟩ := R4.at hlt
        subst hA4
        obtain ⟨Ap, mp, cp⟩ := t
        obtain rfl : v2 = .slice Ap mp cp := hv2
        have hb2 : b2 ≠ lc := fun e => by
          have h1 := HDT.out b2 (mem_obl.2 rfl)
          have h2 := HLC3.out.1
          omega
        have BPr : Blk wr w.heap.size 26 #[.int .i64 (n : Int), .slice B m d] := (hC.block _ BP.lt (by have := HLC3.out.2.1; simp; omega)).trans BP
        have hcr : wr.cell? ⟨b2, o2 + k, none⟩ = some (.slice Ap mp cp) := (World.cell?_of_block (w := w4) (w' := wr) (a := ⟨b2, o2 + k, none⟩) (hC.block b2 (cell_lt hcp) (by simpa using hb2))).trans hcp
        have hRr : Rws wr ts AL := hRT.same fun b cur fr hc => hC.block b (Array.getElem?_eq_some_iff.1 hc).1 (by
          obtain ⟨cur2, fr2, hc2⟩ := HLIT.out
          intro hb
          rw [List.mem_singleton] at hb
          subst hb
          rw [hc2] at hc
          injection hc with hc
          injection hc with _ h5
          exact absurd h5 (by decide))
        obtain ⟨p, hxp⟩ : ∃ p, AL[k]? = some p := ⟨_, List.getElem?_eq_getElem hlt⟩
        obtain ⟨rp, hpb⟩ := hRr.2 k _ p htk hxp
        replace rp : RdL RI wr Ap mp p := rp
        have hpm := HALL.out p (List.mem_of_getElem? hxp)
        obtain rfl : n = mp := by rw [← rp.len]; exact hpm.1.symm
        have hpmx : PermL x.1.toNat p := by rw [HNN.out]; exact hpm
        have HNX : Hid (symL x (AL.take (k + 1)) = if symF x p then symL x (AL.take k) ++ [p] else symL x (AL.take k)) := by show _ = _; rw [take_snoc hxp, symL_snoc]
        have hTw : Below w.heap.size w wr := ⟨hC.os.trans T4.os, hC.tape.trans T4.tape, hC.output.trans T4.output, Nat.le_trans T4.size hC.size, fun b hb => (hC.block b (by have := T4.size; omega) (by have := HLC3.out.2.2; simp; omega)).trans (T4.block b hb)⟩
        have hrr := shAlgebra.stab hrd hTw.block
        have hsm2 : ∀ {q : List Int}, (AL.take k).length = k := by intro q; rw [List.length_take]; omega
        have hul : us.length ≤ 4096 := by
          rw [hR.1]
          have h1 := List.length_filter_le (symF x) (AL.take k)
          have h2 : (AL.take k).length = k := by rw [List.length_take]; omega
          show (List.filter (symF x) (AL.take k)).length ≤ 4096
          omega
        obtain ⟨sv, HSV⟩ : ∃ b, Hid (symF x p = b) := ⟨_, rfl⟩
        rw [HSV.out] at HNX
        have HC1 : ∀ wz, Below wr.heap.size wr wz → Calls Try.prog 28 #[.agg #[.int .i64 (n : Int), .slice B m d], .slice Ap n cp] wz (AlgE wz (ren x p)) := fun wz hz => by
          have := l2Rename_any [.int .i64 (n : Int), .slice B m d] x Ap n cp p wz (shAlgebra.stab hrr hz.block) (rp.next stab_RI hz) HX.out hpmx
          exact this
        have HC2 : ∀ wz v css bls, Below wr.heap.size wr wz → PO 0 wz v (ren x p).2 css bls → Calls Try.prog 33 #[.agg #[.int .i64 (ren x p).1, v], .agg #[.int .i64 (n : Int), .slice B m d]] wz (Bl wz (.bool sv)) := fun wz v css bls hz hp => by
          have := l31Same_any [.int .i64 (ren x p).1, v] [.int .i64 (n : Int), .slice B m d] (ren x p) x wz (hp.alg (show InR x.1 from small_R HX.out)) (shAlgebra.stab hrr hz.block) (ren_small hpmx HX.out) HX.out
          rw [show eqC (ren x p) x = sv from HSV.out] at this
          exact this
        have Tk : Below wr.heap.size wr wr := Below.refl _ _
        have cP0 := BPr.cell 0
        have cP1 := BPr.cell 1
        simp at cP0 cP1
        clear hxp hpmx hsm2 hcp
        go_upto_region 8 with fail
        go_cut [29] from 16 to 36 (fun v29 wx => v29 = .bool sv ∧ Below wr.heap.size wr wx)
        case first =>
          go_region_held3 (fun w' => w'.cell? ⟨w.heap.size, 0, none⟩ = some (.int .i64 (n : Int)) ∧ w'.cell? ⟨w.heap.size, 1, none⟩ = some (.slice B m d) ∧ w'.cell? ⟨b2, o2 + k, none⟩ = some (.slice Ap n cp)) (first | go_keep | exact ⟨keepc Tk cP0, keepc Tk cP1, keepc Tk hcr⟩) (first
            | (go_at_call 28; (with_reducible refine (HC1 _ ?_).mono ?_); (first | exact Tk | exact Below.drew Tk); rintro e wn ⟨vv, css, bls, rfl, hPn, hbn⟩; replace Tk := below_next (by first | exact Tk | exact Below.drew Tk) hbn rfl)
            | (go_at_call 33; refine (HC2 _ _ _ _ (by first | exact Tk | exact Below.drew Tk) (by first | exact hPn.mono (Nat.zero_le _) | exact (hPn.mono (Nat.zero_le _)).next (Below.drew (Below.refl _ _)))).mono ?_; rintro e wm ⟨rfl, hbm⟩; replace Tk := below_next (by first | exact Tk | exact Below.drew Tk) hbm rfl))
          all_goals
            go_wp2_with fail
            go_meet
            exact ⟨rfl, by first | exact Tk | exact Below.drew Tk⟩
        case rest =>
          obtain ⟨rfl, hTc⟩ := hcut
          obtain ⟨w5, HWC⟩ : ∃ wq : World, wq = wc := ⟨_, rfl⟩
          subst HWC
          have ho5 := own_next ho hTc
          have hR5 := hR.next hTc
          have hC5 : ChgB [lc] w4 w5 := hC.trans (ChgB.ofBelow hTc)
          have hcr5 := keepc hTc hcr
          have hob5 := Lib.hid hob
          clear cP0 cP1 hcr Tk HC1 HC2 hob
          rcases sv with _ | _
          · go_wp2_with fail
            go_roundw
            case rel => exact ⟨k + 1, A, c, us, by omega, by go_num, rfl, own_same ho5 (fun _ _ => rfl), by rw [HNX.out]; exact hR5, hC5, hob5.out⟩
            case measure => simp [intOf]; omega
          · have hlo5 : w.heap.size ≤ w5.heap.size := by have := hTw.size; have := hTc.size; omega
            go_wp2_with (at_builtin; refine app1y w5 rfl _ _ rfl w.heap.size us.length c A (us.map slV) rfl ho5 (.slice Ap n cp) rfl rfl (by omega) hlo5 ?_; intro A8 c8 w8 hown8 hg8 hf8)
            have hR8 : Rws w8 (us ++ [(Ap, n, cp)]) (symL x (AL.take k) ++ [p]) := by
              refine Rws.grown (hR5.app ?_) ho5 (by decide) hg8
              refine ⟨rfl, fun j t xs h1 h2 => ?_⟩
              match j, h1, h2 with
              | 0, h1, h2 =>
                simp at h1 h2
                subst h1
                subst h2
                exact ⟨rp.next stab_RI hTc, fun q e => by
                  obtain ⟨cur, fr, hc⟩ := hpb q e
                  exact ⟨cur, fr, (hTc.block _ (Array.getElem?_eq_some_iff.1 hc).1).trans hc⟩⟩
              | j + 1, h1, h2 => simp at h1
            go_roundw
            case rel => exact ⟨k + 1, A8, c8, us ++ [(Ap, n, cp)], by omega, by go_num, by rw [List.length_append]; rfl, by rw [List.length_append, List.map_append]; exact hown8, by rw [HNX.out]; exact hR8, hC5.trans2b (ChgB.grown hg8) hob5.out, fun b hb => by
              rw [List.length_append] at hb
              rcases hf8 b hb with h1 | h1
              · exact hob5.out b h1
              · exact .inr (Nat.le_trans hC5.size h1)⟩
            case measure => simp [intOf]; omega
      · obtain rfl : k = AL.length := by omega
        have hlt' : ¬ (AL.length : Int) < (AL.length : Int) := by omega
        have hRR := rws_rd ho hR
        rw [List.take_of_length_le (Nat.le_refl _)] at hRR hR
        have hul : us.length = (symL x AL).length := hR.1
        have hTw : Below w.heap.size w wr := ⟨hC.os.trans T4.os, hC.tape.trans T4.tape, hC.output.trans T4.output, Nat.le_trans T4.size hC.size, fun b hb => (hC.block b (by have := T4.size; omega) (by have := HLC3.out.2.2; simp; omega)).trans (T4.block b hb)⟩
        rw [hul] at hRR
        have HUL := Lib.hid hul
        clear hul hR ho hob
        go_wp2_with fail
        go_ret2
        rw [HM0.out, HUL.out]
        exact ⟨_, _, rfl, hRR, hTw⟩
abbrev srB (n m1 d1 m2 d2 : Nat) (B1 B2 : Option Addr) (most t : Nat) (v : Value) : Array Value := #[.int .i64 (n : Int), .slice B1 m1 d1, .int .i64 (n : Int), .slice B2 m2 d2, .bool true, .bool false, .int .i64 (most : Int), .int .i64 (t : Int), v]
/-- The state of the search: the tries, what is found. -/
def WkQ (lo gs n m1 d1 m2 d2 : Nat) (B1 B2 : Option Addr) (most : Nat) (w : World) (s : SrS) (bl : List Nat) : Prop :=
  ∃ (A : Option Addr) (c : Nat) (ts : List SlT), Blk w gs 94 (srB n m1 d1 m2 d2 B1 B2 most s.1 (.slice A s.2.length c)) ∧ w.ownsRow lo 38 1 (.slice A s.2.length c) s.2.length (ts.map slV) ∧ Rws w ts s.2 ∧ bl = obl (.slice A s.2.length c)
section
variable {lo gs n m1 d1 m2 d2 most : Nat} {B1 B2 : Option Addr} {w w' : World} {s : SrS} {bl : List Nat}
theorem WkQ.next (h : WkQ lo gs n m1 d1 m2 d2 B1 B2 most w s bl) (hb : Below w.heap.size w w') : WkQ lo gs n m1 d1 m2 d2 B1 B2 most w' s bl := by
  obtain ⟨A, c, ts, h1, h2, h3, h4⟩ := h
  exact ⟨A, c, ts, h1.next hb, own_next h2 hb, h3.next hb, h4⟩
theorem WkQ.lt (h : WkQ lo gs n m1 d1 m2 d2 B1 B2 most w s bl) : gs < w.heap.size ∧ ∀ b ∈ bl, lo ≤ b ∧ b < w.heap.size ∧ b ≠ gs := by
  obtain ⟨A, c, ts, h1, h2, -, rfl⟩ := h
  exact ⟨h1.lt, fun b hb => ⟨(h2.lt b (mem_obl.1 hb)).1, (h2.lt b (mem_obl.1 hb)).2, fun e => by subst e; exact own_off h2 h1 (by decide) (mem_obl.1 hb)⟩⟩
theorem WkQ.off (h : WkQ lo gs n m1 d1 m2 d2 B1 B2 most w s bl) {base k : Nat} {v : Value} {xs : List Value} (ho : w.ownsRow base 3 1 v k xs) : ∀ b, v.ownBlock = some b → b ∉ gs :: bl := fun b hb hh => by
  obtain ⟨A, c, ts, h1, h2, -, rfl⟩ := h
  rcases List.mem_cons.1 hh with e | e
  · subst e; exact own_off ho h1 (by decide) hb
  · exact own_ne ho h2 (by decide) hb (mem_obl.1 e)
theorem WkQ.tick {t : Nat} {F : List (List Int)} (h : WkQ lo gs n m1 d1 m2 d2 B1 B2 most w (t, F) bl) : WkQ lo gs n m1 d1 m2 d2 B1 B2 most (w.setCell ⟨gs, 7, none⟩ (.int .i64 ((t : Int) + 1))) (t + 1, F) bl := by
  obtain ⟨A, c, ts, h1, h2, h3, h4⟩ := h
  have hb := h1.set_ 7 (.int .i64 ((t : Int) + 1))
  refine ⟨A, c, ts, by simpa [srB] using hb, own_set h2 (p := ⟨gs, 7, none⟩) (fun hh => own_off h2 h1 (by decide) hh) _, h3.same fun b cur fr hc => ?_, h4⟩
  exact Below.heap_setCell w ⟨gs, 7, none⟩ _ b fun e => by
    have e : b = gs := e
    subst e
    have h1 : w.heap[b]? = some (.cells (srB n m1 d1 m2 d2 B1 B2 most t (.slice A F.length c)) 94 _) := h1
    rw [hc] at h1
    injection h1 with h1
    injection h1 with _ h1
    exact absurd h1 (by decide)
theorem WkQ.leaf {t ga c cA c8 : Nat} {F : List (List Int)} {f : List Int} {A A8 : Option Addr} {ts : List SlT} {w8 : World} (hB : Blk w gs 94 (srB n m1 d1 m2 d2 B1 B2 most t (.slice A F.length cA))) (hO : w.ownsRow lo 38 1 (.slice A F.length cA) F.length (ts.map slV)) (hR : Rws w ts F) (hx : ∀ x ∈ f, InR x) (how : w.ownsRow 0 3 1 (.slice (some ⟨ga, 0, none⟩) n c) n (ints f))
    (h8 : w8.ownsRow lo 38 1 (.slice A8 (F.length + 1) c8) (F.length + 1) (ts.map slV ++ [.slice (some ⟨ga, 0, none⟩) n c])) (hg8 : w.grownBy w8 (Value.slice A F.length cA).ownBlock) (hf8 : ∀ b ∈ obl (.slice A8 (F.length + 1) c8), b ∈ obl (.slice A F.length cA) ∨ w.heap.size ≤ b) :
    ∃ bl', WkQ lo gs n m1 d1 m2 d2 B1 B2 most (w8.setCell ⟨gs, 8, none⟩ (.slice A8 (F.length + 1) c8)) (t, F ++ [f]) bl' ∧ ChgB (gs :: obl (.slice A F.length cA)) w (w8.setCell ⟨gs, 8, none⟩ (.slice A8 (F.length + 1) c8)) ∧ ∀ b ∈ bl', b ∈ obl (.slice A F.length cA) ∨ w.heap.size ≤ b := by
  have hB8 := hB.grown hg8 (fun e => own_off hO hB (by decide) e.symm)
  have hb := hB8.set_ 8 (.slice A8 (F.length + 1) c8)
  have hl : (F ++ [f]).length = F.length + 1 := by simp
  refine ⟨obl (.slice A8 (F.length + 1) c8), ⟨A8, c8, ts ++ [(some ⟨ga, 0, none⟩, n, c)], ?_, ?_, ?_, by simp only [hl]⟩, ?_, hf8⟩
  · simp only [hl]; simpa [srB] using hb
  · simp only [hl]
    have h9 := own_set h8 (p := ⟨gs, 8, none⟩) (fun hh => own_off h8 hB8 (by decide) hh) (.slice A8 (F.length + 1) c8)
    rw [List.map_append]
    exact h9
  · exact ((hR.app (Rws.one how hx)).grown hO (by decide) hg8).same fun b cur fr hc => Below.heap_setCell w8 ⟨gs, 8, none⟩ _ b fun e => by
      have e : b = gs := e
      subst e
      have h1 : w8.heap[b]? = some (.cells (srB n m1 d1 m2 d2 B1 B2 most t (.slice A F.length cA)) 94 _) := hB8
      rw [hc] at h1
      injection h1 with h1
      injection h1 with _ h1
      exact absurd h1 (by decide)
  · refine ⟨hg8.os, hg8.tape, hg8.output, by simpa using hg8.size, fun b hbz hn => ?_⟩
    rw [List.mem_cons, not_or] at hn
    rw [Below.heap_setCell w8 ⟨gs, 8, none⟩ _ b hn.1]
    exact hg8.block b hbz fun e => hn.2 (mem_obl.2 e.symm)
end
theorem own_cap {w : World} {base n c : Nat} {e : TypeId} {A : Option Addr} {xs : List Value} (h : w.ownsRow base e 1 (.slice A n c) n xs) : n ≤ c := by
  rcases h.2 with ⟨h0, h1⟩ | ⟨g, cap, cur, hv, h1, h2, h3, h4, h5, h6⟩
  · omega
  · injection hv with _ _ hv3
    subst hv3
    exact h3
theorem walk_any {n most lo : Nat} (x y : AlgebraM) (gs : Nat) (B1 B2 : Option Addr) (m1 d1 m2 d2 : Nat) (wa : World) (h : shAlgebra.rd wa [.int .i64 (n : Int), .slice B1 m1 d1] x) (h' : shAlgebra.rd wa [.int .i64 (n : Int), .slice B2 m2 d2] y) (H : AlkP n x.2 y.2) (hn : x.1 = (n : Int)) (hn' : y.1 = (n : Int)) (hn8 : n ≤ 8) (hx4 : x.2.length ≤ 4) (hlo : wa.heap.size ≤ lo) (hgs : lo ≤ gs) (hmost : most ≤ 1000) :
    ∀ (m ga c : Nat) (f : List Int) (bl : List Nat) (t : Nat) (F : List (List Int)) (w : World), Below wa.heap.size wa w → WkQ lo gs n m1 d1 m2 d2 B1 B2 most w (t, F) bl → w.ownsRow 0 3 1 (.slice (some ⟨ga, 0, none⟩) n c) n (ints f) → PaM n f → opens f < m → t ≤ 5000 → F.length < most →
      Calls Try.prog 94 #[.pointer (some ⟨gs, 0, none⟩), .slice (some ⟨ga, 0, none⟩) n c] w fun e w' => e = .returned (.tuple #[]) ∧ ∃ bl', WkQ lo gs n m1 d1 m2 d2 B1 B2 most w' (srch n x.2 y.2 most m f (t, F)) bl' ∧ ChgB (gs :: bl) w w' ∧ ∀ b ∈ bl', b ∈ bl ∨ w.heap.size ≤ b
  | 0, ga, c, f, bl, t, F, w, _, _, _, _, hm, _, _ => absurd hm (by omega)
  | m + 1, ga, c, f, bl, t, F, w, hT, hQ, hown, hf, hm, ht, hFl => by
    have ih := walk_any x y gs B1 B2 m1 d1 m2 d2 wa h h' H hn hn' hn8 hx4 hlo hgs hmost m
    have HCL := Lib.hid fun (A0 : Option Addr) (c : Nat) (f0 : List Int) (wz : World) (a1 : Below wa.heap.size wa wz) (a2 : RdL RI wz A0 n f0) (a3 : PaM n f0) => l7Close_any _ _ x y A0 n c f0 wz (shAlgebra.stab h a1.block) (shAlgebra.stab h' a1.block) H hn hn' hn8 hx4 a2 a3
    have HH := Lib.hid H
    have HPF := Lib.hid hf
    have hrf : RdL RI w (some ⟨ga, 0, none⟩) n f := rd_of_own (R := RI) hown (RI_ints (pam_R hf hn8))
    obtain ⟨R, HR⟩ : ∃ R, Hid (srch n x.2 y.2 most (m + 1) f (t, F) = R) := ⟨_, Lib.hid rfl⟩
    rw [HR.out]
    clear h h' hn hn' hx4 H hf
    go_enter Try.func94, Try.ntmps94
    go_wp2_with fail
    go_loop [4] (fun s5 => ∃ k : Nat, k ≤ n ∧ s5 = .int .i64 k ∧ Hid (∀ j, j < k → 0 ≤ gF f j)) (fun s5 => n - (intOf s5).toNat)
    case atStart => exact ⟨0, Nat.zero_le _, rfl, fun j h => absurd h (by omega)⟩
    case round =>
      obtain ⟨k, hk, rfl, HB⟩ := hrel
      by_cases hlt : k < n
      · have hk0 : (0 : Int) ≤ (k : Int) := by omega
        have hk1 : (k : Int) < (n : Int) := by omega
        obtain ⟨b, o, u, v, hbo, hc, ⟨rfl, hv0, hv1⟩, -, hx⟩ := hrf.at hlt
        injection hbo with hbo
        injection hbo with hbo1 hbo2
        subst hbo1 hbo2
        rw [Nat.zero_add] at hc
        have hgv := gF_get hx
        by_cases hv : v < 0
        · have hv2 : ¬ v ≥ 0 := by omega
          have HFO : Hid (fop f = k) := fop_eq (by rw [HPF.out.1]; omega) HB.out fun _ => by rw [hgv]; exact hv
          have HLT : Hid (fop f < f.length) := by show _ < _; rw [HFO.out, HPF.out.1]; exact hlt
          have HSR : Hid (R = lopS n x.2 y.2 most (srch n x.2 y.2 most m) f k (t, F) n) := by
            show _ = _
            rw [← HR.out, srch, if_neg (Nat.ne_of_lt HLT.out), HFO.out]
          have hke : ((k : Int) == (n : Int)) = false := beq_eq_false_iff_ne.2 (by omega)
          have hgv0 : gF f k < 0 := by rw [hgv]; exact hv
          clear hx hgv HB
          have hlts := hQ.lt
          have hgs0 : gs < w.heap.size := hlts.1
          have hkn : k < f.length := by rw [HPF.out.1]; exact hlt
          have HOFF := Lib.hid (hQ.off hown)
          have HLW : Hid (∀ b ∈ gs :: bl, wa.heap.size ≤ b) := fun b hb => by
            rcases List.mem_cons.1 hb with h1 | h1
            · rw [h1]; exact Nat.le_trans hlo hgs
            · exact Nat.le_trans hlo (hlts.2 b h1).1
          clear hrf
          go_wp2_with fail
          go_loopw [5] (fun s5 wr => ∃ (q : Nat) (st : SrS) (bl' : List Nat), q ≤ n ∧ s5 = .int .i64 q ∧ Hid (lopS n x.2 y.2 most (srch n x.2 y.2 most m) f k (t, F) q = st) ∧ WkQ lo gs n m1 d1 m2 d2 B1 B2 most wr st bl' ∧ ChgB (gs :: bl) w wr ∧ (∀ b ∈ bl', b ∈ bl ∨ w.heap.size ≤ b)) (fun s5 _ => n - (intOf s5).toNat)
          case atStart => exact ⟨0, (t, F), bl, Nat.zero_le _, rfl, rfl, hQ, ChgB.refl _ _, fun b hb => .inl hb⟩
          case round =>
            clear hQ
            obtain ⟨q, ⟨tq, Fq⟩, bq, hq, rfl, HL, hQq, hCq, hfq⟩ := hrel
            have HQq := Lib.hid hQq
            obtain ⟨A, cA, ts, hB, -, -, -⟩ := hQq
            simp only at hB
            have cS2 := hB.cell 2
            have cS6 := hB.cell 6
            have cS7 := hB.cell 7
            have cS8 := hB.cell 8
            simp at cS2 cS6 cS7 cS8
            obtain ⟨go, HGO⟩ : ∃ z, Hid ((decide (q < n) && decide (Fq.length < most) && decide (tq ≤ 5000)) = z) := ⟨_, Lib.hid rfl⟩
            have Tk : Below wr.heap.size wr wr := Below.refl _ _
            clear hB
            go_upto_region 7 with fail
            go_cut [75] from 50 to 75 (fun u75 wx => u75 = .bool go ∧ Below wr.heap.size wr wx)
            case first =>
              by_cases h1 : q < n
              · have e1 : decide (q < n) = true := decide_eq_true h1
                have e1i : decide ((q : Int) < (n : Int)) = true := decide_eq_true (by omega)
                by_cases h2 : Fq.length < most
                · have e2 : decide (Fq.length < most) = true := decide_eq_true h2
                  have e2i : decide ((Fq.length : Int) < (most : Int)) = true := decide_eq_true (by omega)
                  by_cases h3 : tq ≤ 5000
                  · have e3 : decide (tq ≤ 5000) = true := decide_eq_true h3
                    have e3i : decide ((tq : Int) ≤ 5000) = true := decide_eq_true (by omega)
                    have HG : Hid (true = go) := by show _ = _; rw [← HGO.out, decide_eq_true h1, decide_eq_true h2, decide_eq_true h3]; rfl
                    clear h1 h2 h3
                    go_quiet (fail)
                    go_wp2_with fail
                    go_meet
                    exact ⟨by rw [HG.out], by first | exact Tk | exact below_drewN Tk _⟩
                  · have e3 : decide (tq ≤ 5000) = false := decide_eq_false h3
                    have e3i : decide ((tq : Int) ≤ 5000) = false := decide_eq_false (by omega)
                    have HG : Hid (false = go) := by show _ = _; rw [← HGO.out, decide_eq_true h1, decide_eq_true h2, decide_eq_false h3]; rfl
                    clear h1 h2 h3
                    go_quiet (fail)
                    go_wp2_with fail
                    go_meet
                    exact ⟨by rw [HG.out], by first | exact Tk | exact below_drewN Tk _⟩
                · have e2 : decide (Fq.length < most) = false := decide_eq_false h2
                  have e2i : decide ((Fq.length : Int) < (most : Int)) = false := decide_eq_false (by omega)
                  have HG : Hid (false = go) := by show _ = _; rw [← HGO.out, decide_eq_true h1, decide_eq_false h2]; rfl
                  clear h1 h2
                  go_quiet (fail)
                  go_wp2_with fail
                  go_meet
                  exact ⟨by rw [HG.out], by first | exact Tk | exact below_drewN Tk _⟩
              · have e1 : decide (q < n) = false := decide_eq_false h1
                have e1i : decide ((q : Int) < (n : Int)) = false := decide_eq_false (by omega)
                have HG : Hid (false = go) := by show _ = _; rw [← HGO.out, decide_eq_false h1]; rfl
                clear h1
                go_quiet (fail)
                go_wp2_with fail
                go_meet
                exact ⟨by rw [HG.out], by first | exact Tk | exact below_drewN Tk _⟩
            case rest =>
              obtain ⟨rfl, hTd⟩ := hcut
              obtain ⟨w0, HWD⟩ : ∃ wq : World, wq = wc := ⟨_, rfl⟩
              subst HWD
              have hQ0 := HQq.out.next hTd
              have hC0 : ChgB (gs :: bl) w w0 := hCq.trans (ChgB.ofBelow hTd)
              clear cS2 cS6 cS7 cS8 Tk hCq
              rcases go with _ | _
              · have HRr : Hid (R = (tq, Fq)) := by
                  show _ = _
                  rw [HSR.out]
                  have hg := HGO.out
                  by_cases h1 : q < n
                  · rw [lop_over (k := q) (by
                      rw [HL.out]
                      unfold over
                      by_cases h3 : tq ≤ 5000
                      · rw [decide_eq_true h1, decide_eq_true h3] at hg
                        have : ¬ Fq.length < most := by simpa using hg
                        rw [decide_eq_true (show most ≤ (tq, Fq).2.length by show most ≤ Fq.length; omega), Bool.or_true]
                      · rw [decide_eq_true (show 5000 < (tq, Fq).1 by show 5000 < tq; omega), Bool.true_or]) n hq, HL.out]
                  · rw [← HL.out, show q = n by omega]
                go_wp2_with fail
                go_end0
                refine ⟨rfl, ?_⟩
                rw [HRr.out]
                exact ⟨bq, hQ0, hC0, hfq⟩
              · have hg := HGO.out
                have hq1 : q < n := by
                  by_cases h1 : q < n
                  · exact h1
                  · rw [decide_eq_false h1] at hg; simp at hg
                have hFq : Fq.length < most := by
                  by_cases h2 : Fq.length < most
                  · exact h2
                  · rw [decide_eq_false h2] at hg; simp at hg
                have htq : tq ≤ 5000 := by
                  by_cases h3 : tq ≤ 5000
                  · exact h3
                  · rw [decide_eq_false h3] at hg; simp at hg
                have HST : Hid (lopS n x.2 y.2 most (srch n x.2 y.2 most m) f k (t, F) (q + 1) = (if 5000 < tq + 1 then (tq + 1, Fq) else match fitS n x.2 y.2 (f.set k (q : Int)) with | none => (tq + 1, Fq) | some g => srch n x.2 y.2 most m g (tq + 1, Fq))) := by
                  show tryS n x.2 y.2 most (srch n x.2 y.2 most m) f k (lopS n x.2 y.2 most (srch n x.2 y.2 most m) f k (t, F) q) q = _
                  unfold tryS
                  rw [HL.out, if_neg (by rw [over_no.2 (show (tq, Fq).1 ≤ 5000 ∧ (tq, Fq).2.length < most from ⟨htq, hFq⟩)]; decide)]
                  rfl
                have HTQ := Lib.hid htq
                have hQ1 := hQ0.tick
                have hC1 : ChgB (gs :: bl) w (w0.setCell ⟨gs, 7, none⟩ (.int .i64 ((tq : Int) + 1))) := hC0.trans (ChgB.set (p := ⟨gs, 7, none⟩) (List.mem_cons_self ..) _)
                obtain ⟨A, cA, ts, hB, -, -, -⟩ := hQ0
                simp only at hB
                have cS7 := hB.cell 7
                have fS7 := hB.frozen 7
                simp at cS7
                clear hB hg HGO
                go_upto_region 10 with fail
                obtain ⟨w1, HW1⟩ : ∃ wz, Hid (wz = w0.setCell ⟨gs, 7, none⟩ (.int .i64 ((tq : Int) + 1))) := ⟨_, Lib.hid rfl⟩
                rw [← HW1.out] at hQ1 hC1 ⊢
                have HQ1 := Lib.hid hQ1
                obtain ⟨A, cA, ts, hB, -, -, -⟩ := hQ1
                simp only at hB
                have dS7 := hB.cell 7
                simp at dS7
                have hown1 := row_chg hown hC1 HOFF.out
                clear cS7 fS7 hC0
                by_cases ht5 : 5000 < tq + 1
                · have e : lopS n x.2 y.2 most (srch n x.2 y.2 most m) f k (t, F) (q + 1) = (tq + 1, Fq) := by rw [HST.out, if_pos ht5]
                  have HRr : Hid (R = (tq + 1, Fq)) := by
                    show _ = _
                    rw [HSR.out, lop_over (k := q + 1) (by rw [e]; unfold over; rw [decide_eq_true (show 5000 < (tq + 1, Fq).1 from ht5)]; rfl) n (by omega), e]
                  have hgt : (tq : Int) + 1 > 5000 := by omega
                  clear HST e hB htq
                  go_wp2_with fail
                  (try simp only [Exit.inBlock, Exit.then])
                  refine bodyPost_ret (results_none rfl _ _ _) rfl ?_
                  refine ⟨rfl, ?_⟩
                  rw [HRr.out]
                  exact ⟨bq, HQ1.out, hC1, hfq⟩
                · have hgt : ¬ (tq : Int) + 1 > 5000 := by omega
                  have HTQ2 : Hid (tq + 1 ≤ 5000) := by show _ ≤ _; omega
                  have hrf1 : RdL RI w1 (some ⟨ga, 0, none⟩) n f := rd_of_own (R := RI) hown1 (RI_ints (pam_R HPF.out hn8))
                  have HST2 : Hid (lopS n x.2 y.2 most (srch n x.2 y.2 most m) f k (t, F) (q + 1) = match fitS n x.2 y.2 (f.set k (q : Int)) with | none => (tq + 1, Fq) | some g => srch n x.2 y.2 most m g (tq + 1, Fq)) := by show _ = _; rw [HST.out, if_neg ht5]
                  have HB1 := Lib.hid hB
                  clear HST hB htq ht5
                  go_wp2_with fail
                  refine (l1Own_any _ n c f w1 hrf1 (by omega)).mono ?_
                  rintro e w2 ⟨A2, c2, rfl, ho2, hb2⟩
                  obtain ⟨g2, rfl, hg2a, hg2b⟩ := own_some ho2 (by omega)
                  have hfz := ho2.frozenAt k
                  have hcl2 := par_cell ho2 (gF_at hkn) hlt
                  have hst := (ho2.stored k (.int .i64 (q : Int))).1
                  rw [ints_set] at hst
                  have hsz1 : w.heap.size ≤ w1.heap.size := hC1.size
                  have T13 := hb2.setCell (p := ⟨g2, k, none⟩) hg2a (.int .i64 (q : Int))
                  obtain ⟨w3, HW3⟩ : ∃ wz, Hid (wz = w2.setCell ⟨g2, k, none⟩ (.int .i64 (q : Int))) := ⟨_, Lib.hid rfl⟩
                  rw [← HW3.out] at hst T13
                  have hpf3 : PaM n (f.set k (q : Int)) := HPF.out.set_ _ (by omega) (by omega)
                  have hC3 : ChgB (gs :: bl) w w3 := hC1.trans (ChgB.ofBelow T13)
                  have hT3 : Below wa.heap.size wa w3 := hC3.low hT HLW.out
                  have hr3 : RdL RI w3 (some ⟨g2, 0, none⟩) n (f.set k (q : Int)) := rd_of_own (R := RI) hst (RI_ints (pam_R hpf3 hn8))
                  have HC3 := Lib.hid fun (wz : World) (hz : Below w3.heap.size w3 wz) => HCL.out (some ⟨g2, 0, none⟩) c2 (f.set k (q : Int)) wz (below_next hT3 hz rfl) (hr3.next stab_RI hz) hpf3
                  have BS3 : Blk w3 gs 94 _ := HB1.out.next T13
                  have HQ3 := Lib.hid (HQ1.out.next T13)
                  have eS0 := BS3.cell 0
                  have eS1 := BS3.cell 1
                  have eS2 := BS3.cell 2
                  have eS3 := BS3.cell 3
                  simp at eS0 eS1 eS2 eS3
                  have HSE4 : Hid (∀ wz, Below w3.heap.size w3 wz → wz.cell? ⟨gs, 4, none⟩ = some (.bool true)) := fun wz hz => by
                    have := (BS3.next hz).cell 4
                    simpa using this
                  clear hst ho2 hb2 dS7 hown1 hrf1 T13 BS3 hr3
                  go_upto_region 13 with fail
                  rw [← HW3.out]
                  have Tk : Below w3.heap.size w3 w3 := Below.refl _ _
                  rcases hcs : cloS n x.2 y.2 (f.set k (q : Int)) with _ | z
                  · rw [hcs] at HC3
                    have HL2 : Hid (lopS n x.2 y.2 most (srch n x.2 y.2 most m) f k (t, F) (q + 1) = (tq + 1, Fq)) := by show _ = _; rw [HST2.out]; unfold fitS; rw [hcs]; rfl
                    clear hcs HST2
                    go_cut [8] from 96 to 108 (fun u8 wx => u8 = .bool false ∧ Below w3.heap.size w3 wx)
                    case first =>
                      go_region_law (first
                        | (go_simp; go_at_call 92; (with_reducible refine (HC3.out _ ?_).mono ?_); (first | exact Tk | exact Below.drew Tk); rintro e wu ⟨-, hno, hbu⟩; obtain ⟨Av, kv, cv, rfl⟩ := hno rfl))
                      all_goals
                        have hbw := below_next (by first | exact Tk | exact Below.drew Tk) hbu rfl
                        go_wp2_with fail
                        go_meet
                        exact ⟨rfl, by first | exact hbw | exact Below.drew hbw⟩
                    case rest =>
                      obtain ⟨rfl, hTe⟩ := hcut
                      have hQ6 := HQ3.out.next hTe
                      have hC6 := hC3.trans (ChgB.ofBelow hTe)
                      clear eS0 eS1 eS2 eS3
                      go_wp2_with fail
                      go_roundw
                      case rel => exact ⟨q + 1, (tq + 1, Fq), bq, by omega, by go_num, HL2, hQ6, hC6, hfq⟩
                      case measure => simp [intOf]; try omega
                  · rw [hcs] at HC3
                    have hz := clo_ok (f := f.set k (q : Int)) HH.out _ hpf3 (Nat.lt_succ_self _) hcs
                    have HPZ : Hid (PaM n z) := hz.1.1
                    have hopz : opens z < m := by
                      have h1 := opens_set hkn hgv0 (v := (q : Int)) (by omega)
                      rcases hz.1.2.2 with e | e
                      · rw [e]; omega
                      · omega
                    have HFI : Hid (fitS n x.2 y.2 (f.set k (q : Int)) = if injB z = true then some z else none) := by show _ = _; unfold fitS; rw [hcs]; rfl
                    clear hcs hz
                    go_cut [7, 8] from 96 to 108 (fun u7 u8 wx => ∃ g5 c5, u7 = .slice (some ⟨g5, 0, none⟩) n c5 ∧ u8 = .bool true ∧ wx.ownsRow w3.heap.size 3 1 (.slice (some ⟨g5, 0, none⟩) n c5) n (ints z) ∧ Below w3.heap.size w3 wx)
                    case first =>
                      go_region_law (first
                        | (go_simp; go_at_call 92; (with_reducible refine (HC3.out _ ?_).mono ?_); (first | exact Tk | exact Below.drew Tk); rintro e wu ⟨hyes, -, hbu⟩; obtain ⟨g5, c5, rfl, ho5⟩ := hyes z rfl))
                      all_goals
                        have hbw := below_next (by first | exact Tk | exact Below.drew Tk) hbu rfl
                        have HO5 := Lib.hid (own_mono ho5 (by first | exact Tk.size | exact (Below.drew Tk).size))
                        clear ho5
                        go_wp2_with fail
                        go_meet
                        exact ⟨g5, c5, rfl, rfl, HO5.out, by first | exact hbw | exact Below.drew hbw⟩
                    case rest =>
                      obtain ⟨g5, c5, rfl, rfl, ho5, hTe⟩ := hcut
                      obtain ⟨w4, HWE⟩ : ∃ wq : World, wq = wc := ⟨_, rfl⟩
                      subst HWE
                      have hQ6 := HQ3.out.next hTe
                      have hC6 := hC3.trans (ChgB.ofBelow hTe)
                      have eS4 := HSE4.out _ hTe
                      have hr5 : RdL RI w4 (some ⟨g5, 0, none⟩) n z := rd_of_own (R := RI) ho5 (RI_ints (pam_R HPZ.out hn8))
                      have HIN := Lib.hid (l7Into_any (some ⟨g5, 0, none⟩) n c5 z w4 hr5 (by omega) (own_cap ho5))
                      clear hr5 eS0 eS1 eS2 eS3
                      rcases hij : injB z with _ | _
                      · rw [hij] at HIN
                        have HL2 : Hid (lopS n x.2 y.2 most (srch n x.2 y.2 most m) f k (t, F) (q + 1) = (tq + 1, Fq)) := by show _ = _; rw [HST2.out, HFI.out, hij]; rfl
                        clear hij HST2 HFI
                        go_wp2_with fail
                        refine HIN.out.mono ?_
                        rintro e w5 ⟨rfl, zz, rfl⟩
                        have hD := below_drewN (Below.refl w4.heap.size w4) zz
                        have hQ7 := hQ6.next hD
                        have hC7 := hC6.trans (ChgB.ofBelow hD)
                        clear hQ6 hC6
                        go_wp2_with fail
                        go_roundw
                        case rel => exact ⟨q + 1, (tq + 1, Fq), bq, by omega, by go_num, HL2, hQ7, hC7, hfq⟩
                        case measure => simp [intOf]; try omega
                      · rw [hij] at HIN
                        have HL2 : Hid (lopS n x.2 y.2 most (srch n x.2 y.2 most m) f k (t, F) (q + 1) = srch n x.2 y.2 most m z (tq + 1, Fq)) := by show _ = _; rw [HST2.out, HFI.out, hij]; rfl
                        clear hij HST2 HFI
                        go_wp2_with fail
                        refine HIN.out.mono ?_
                        rintro e w5 ⟨rfl, zz, rfl⟩
                        have hD := below_drewN (Below.refl w4.heap.size w4) zz
                        have hQ7 := hQ6.next hD
                        have hC7 := hC6.trans (ChgB.ofBelow hD)
                        have ho7 := own_next ho5 hD
                        have HIH := Lib.hid (ih g5 c5 z bq (tq + 1) Fq (w4.drewN zz) (hC7.low hT HLW.out) hQ7 (own_mono ho7 (Nat.zero_le _)) HPZ.out hopz (by have := HTQ2.out; omega) hFq)
                        clear hQ6 hC6 ho5 ho7 hQ7
                        go_wp2_with fail
                        refine HIH.out.mono ?_
                        rintro e w6 ⟨rfl, b6, hQ8, hC8, hf8⟩
                        have hC9 : ChgB (gs :: bl) w w6 := hC7.lay hC8 (lay_in hfq)
                        have hf9 := fresh_in hfq hf8 hC7.size
                        clear hC7 hC8 HIH
                        go_wp2_with fail
                        go_roundw
                        case rel => exact ⟨q + 1, _, b6, by omega, by go_num, HL2, hQ8, hC9, hf9⟩
                        case measure => simp [intOf]; try omega
        · have HB2 : Hid (∀ j, j < k + 1 → 0 ≤ gF f j) := fun j hj => by
            by_cases e : j = k
            · rw [e, hgv]; omega
            · exact HB.out j (by omega)
          have hv2 : v ≥ 0 := by omega
          clear hx hgv
          go_wp2_with fail
          go_round
          case rel => exact ⟨k + 1, by omega, by go_num, HB2⟩
          case measure => simp [intOf]; try omega
      · obtain rfl : k = n := by omega
        have hk1 : ¬ (k : Int) < (k : Int) := by omega
        have HFO : Hid (fop f = f.length) := by show _ = _; rw [HPF.out.1]; exact fop_eq (by rw [HPF.out.1]; omega) HB.out fun h => absurd h (by rw [HPF.out.1]; omega)
        have HSR : Hid (R = (t, F ++ [f])) := by show _ = _; rw [← HR.out, srch, if_pos HFO.out]
        have hke : ((k : Int) == (k : Int)) = true := by simp
        have HQ := Lib.hid hQ
        obtain ⟨A, cA, ts, hB, hO, hR, hbl⟩ := hQ
        have cS5 := hB.cell 5
        have cS8 := hB.cell 8
        have fS8 := hB.frozen 8
        simp at cS5 cS8
        have HB1 := Lib.hid hB
        have HRW := Lib.hid hR
        have HBL := Lib.hid hbl
        have HOW := Lib.hid hown
        have hlow : lo ≤ w.heap.size := by have := hB.lt; omega
        simp only at hO cS8
        clear hB hR hbl hown hrf
        go_wp2_with (at_builtin; refine app1y w rfl _ _ rfl lo F.length cA A (ts.map slV) rfl hO (.slice (some ⟨ga, 0, none⟩) k c) rfl rfl (by omega) hlow ?_; intro A8 c8 w8 hown8 hg8 hf8; have BL8 := HB1.out.grown hg8 (fun e => own_off hO HB1.out (by decide) e.symm); have dS8 := BL8.cell 8; have eS8 := BL8.frozen 8; simp at dS8)
        (try simp only [Exit.inBlock, Exit.then])
        refine bodyPost_ret (results_none rfl _ _ _) rfl ?_
        refine ⟨rfl, ?_⟩
        rw [HSR.out, HBL.out]
        exact WkQ.leaf HB1.out hO HRW.out (pam_R HPF.out hn8) HOW.out hown8 hg8 hf8
theorem tk {P : Program} {md : Region.Mode} {ops : Array Oper} {Q : Exit → Act → World → Prop} {S : World → Prop} (i : Nat) (v : Value) {oi : Oper} {fuel : Nat} {listed : Array Bool} {a : Act} {w : World} (hi : ops[i]? = some oi) (hy : YieldsIf P ops S oi v a)
    (h : wpAnyH P md ops Q S fuel (listed.setIfInBounds i true) (a.put oi.dst v) w) (hs : Region.noSelect ops = true := by kernel_rfl) (hf : Region.free md ops listed i = true := by kernel_rfl) (hr : (Region.ready md ops listed).contains i = true := by kernel_rfl)
    (hQ : ∀ c a w, Q (.panic c) (a.put oi.dst v) w → Q (.panic c) a w := by exact fun _ _ _ h => h) (hS : S w := by assumption) : wpAnyH P md ops Q S (fuel + 1) listed a w := wpAnyH_take hi hs hf hr hQ hy hS h
theorem tp {P : Program} {md : Region.Mode} {ops : Array Oper} {Q : Exit → Act → World → Prop} {S : World → Prop} (i : Nat) (v : Value) {oi : Oper} {fuel : Nat} {listed : Array Bool} {a : Act} {w : World} (hi : ops[i]? = some oi)
    (h : wpAnyH P md ops Q S fuel (listed.setIfInBounds i true) (a.put oi.dst v) w) (hg : Region.wanted oi (yielded ops a.tmps) = true := by kernel_rfl) (he : ∀ w, S w → (execOp a.eval oi).run P w = .ok (.value v) w := by intro _ _; go_simp) (hs : Region.noSelect ops = true := by kernel_rfl) (hf : Region.free md ops listed i = true := by kernel_rfl) (hr : (Region.ready md ops listed).contains i = true := by kernel_rfl)
    (hQ : ∀ c a w, Q (.panic c) (a.put oi.dst v) w → Q (.panic c) a w := by exact fun _ _ _ h => h) (hS : S w := by assumption) : wpAnyH P md ops Q S (fuel + 1) listed a w := tk i v hi (.inl ⟨hg, he⟩) h hs hf hr hQ hS
section
variable {P : Program} {md : Region.Mode} {ops : Array Oper} {Q : Exit → Act → World → Prop} {S : World → Prop} {fuel : Nat} {listed : Array Bool} {a : Act} {w : World}
theorem r1 (i : Nat) {o : Oper} (ho : ops[i]? = some o) (h : ∀ K' : Act → World → Prop, Shut (∀ a w, S w → (S w → wpAnyH P md ops Q S fuel (listed.setIfInBounds i true) a w) → K' a w) → if Region.wanted o (yielded ops a.tmps) = true then Oper.wp P o a w K' Q else K' (a.put o.dst undef) w)
    (hr : Region.ready md ops listed = [i] := by kernel_rfl) : wpAnyH P md ops Q S (fuel + 1) listed a w := wpAnyH_ready hr (by simp) (.cons ho h .nil)
end
theorem al (w : World) (cs : Array Value) (t : TypeId) : ∃ x, Hid (x = w.alloc (.cells cs t)) ∧ Below w.heap.size w x ∧ Blk x w.heap.size t cs ∧ w.heap.size < x.heap.size :=
  ⟨_, Lib.hid rfl, below_box _ _, Blk.new _ _ _, (Blk.new w t cs).lt⟩
theorem zA {α : Type _} {xs : List α} {i : Nat} (h : i < xs.toArray.size) : xs.toArray[i] = xs[i]'(by simpa using h) := List.getElem_toArray h
theorem zD {α : Type _} (l : List α) (i : Nat) (a : α) : l.toArray.setIfInBounds i a = (l.set i a).toArray := List.setIfInBounds_toArray l i a
/-- The first places are open. -/
def MtTo (n : Nat) (L : List Int) (k : Nat) : Prop := L.length = n ∧ ∀ j, j < k → L[j]? = some (-1)
theorem MtTo.next {n k : Nat} {L : List Int} (h : MtTo n L k) (hk : k < n) : MtTo n (L.set k (-1)) (k + 1) := ⟨by rw [List.length_set]; exact h.1, fun j hj => by
  rw [List.getElem?_set]
  by_cases e : k = j
  · subst e; rw [if_pos rfl, if_pos (by rw [h.1]; exact hk)]
  · rw [if_neg e]; exact h.2 j (by omega)⟩
theorem MtTo.done {n : Nat} {L : List Int} (h : MtTo n L n) : L = mt n := by
  apply List.ext_getElem?
  intro j
  unfold mt
  rw [List.getElem?_replicate]
  by_cases hj : j < n
  · rw [if_pos hj, h.2 j hj]
  · rw [if_neg hj, List.getElem?_eq_none (by rw [h.1]; omega)]
theorem zeros_ints (n : Nat) : List.replicate n (Value.int .i64 0) = ints (List.replicate n 0) := by simp [ints]
theorem searchHoms_any {n most fid lo : Nat} {caps : Array Value} {Q : World → List (List Int) → List Nat → Prop} (hF : FndOk n most fid caps lo Q) (hm : 0 < most) (x y : AlgebraM) (B1 B2 : Option Addr) (m1 d1 m2 d2 : Nat) (wa w : World) (bl : List Nat) (h : shAlgebra.rd wa [.int .i64 (n : Int), .slice B1 m1 d1] x) (h' : shAlgebra.rd wa [.int .i64 (n : Int), .slice B2 m2 d2] y) (H : AlkP n x.2 y.2) (hn : x.1 = (n : Int)) (hn' : y.1 = (n : Int)) (hn8 : n ≤ 8) (hx4 : x.2.length ≤ 4) (hlo : wa.heap.size ≤ lo) (hT : Below wa.heap.size wa w) (hQ : Q w [] bl) :
    Calls Try.prog 69 #[.agg #[.int .i64 (n : Int), .slice B1 m1 d1], .agg #[.int .i64 (n : Int), .slice B2 m2 d2], .bool true, .func (.func fid) #[] caps] w fun e w' => ∃ bl', e = .returned (.bool (decide ((find n x.2 y.2 most).1 ≤ 5000))) ∧ Q w' (find n x.2 y.2 most).2 bl' ∧ ChgB bl w w' ∧ ∀ b ∈ bl', b ∈ bl ∨ w.heap.size ≤ b := by
  have hn0 := H.pos
  have HWA := Lib.hid hT.size
  have HFIT := Lib.hid fun (g gs c base t : Nat) (f0 : List Int) (wz : World) (a1 : Below wa.heap.size wa wz) (a2 : wa.heap.size ≤ base) (a3 : wz.ownsRow base 3 1 (.slice (some ⟨g, 0, none⟩) n c) n (ints f0)) (a4 : PaM n f0) (a5 : Blk wz gs 91 (srcA n m1 d1 m2 d2 B1 B2 t fid caps)) => fits_any [] [] x y g gs n c base t (.func (.func fid) #[] caps) f0 B1 B2 m1 d1 m2 d2 wa wz h h' H hn hn' hn8 hx4 a1 a2 a3 a4 a5
  have HEXT := Lib.hid fun (gs : Nat) (hgs : wa.heap.size ≤ gs) => extend_any hF x y gs B1 B2 m1 d1 m2 d2 wa h h' H hn hn' hn8 hx4 hlo hgs
  have HH := Lib.hid H
  obtain ⟨R, HR⟩ : ∃ R, Hid (find n x.2 y.2 most = R) := ⟨_, Lib.hid rfl⟩
  rw [HR.out]
  obtain ⟨w0, hw0, T0, hsz0, BP, BQ⟩ := boxes2 w #[.int .i64 (n : Int), .slice B1 m1 d1] #[.int .i64 (n : Int), .slice B2 m2 d2] 26 26
  have HW0 := Lib.hid hw0
  have cP0 := BP.cell 0
  have cP1 := BP.cell 1
  have cQ0 := BQ.cell 0
  have cQ1 := BQ.cell 1
  simp at cP0 cP1 cQ0 cQ1
  obtain ⟨w1, HW1, T1, BS', hz1⟩ := al w0 #[.int .i64 (n : Int), .slice B1 m1 d1, .int .i64 (n : Int), .slice B2 m2 d2, .bool true, .int .i64 0, .func (.func fid) #[] caps] 91
  have BS : Blk w1 w0.heap.size 91 (srcA n m1 d1 m2 d2 B1 B2 0 fid caps) := BS'
  clear BS'
  have dP0 := (BP.next T1).cell 0
  simp at dP0
  have T01 := below_next T0 T1 rfl
  have hgs0 : w.heap.size ≤ w0.heap.size := T0.size
  clear hw0 hsz0 h h' hn hn' hx4 H
  go_enter Try.func69, Try.ntmps69
  go_upto_region 1 with fail
  rw [← HW0.out]
  go_upto_region 2 with fail
  rw [← HW1.out]
  clear cP0 cP1 cQ0 cQ1
  go_wp2_with (at_make; refine make_ints _ rfl _ _ rfl n rfl rfl (by omega) ?_; intro w2 hown2 hg2)
  have T2 := (Below.refl w1.heap.size w1).grown hg2 (Nat.le_refl _) (by simp)
  have BS2 := BS.next T2
  rw [zeros_ints] at hown2
  clear hg2 dP0
  go_loopw [23] (fun i wr => ∃ (k : Nat) (L : List Int), k ≤ n ∧ i = .int .i64 k ∧ Hid (MtTo n L k) ∧ wr.ownsRow w1.heap.size 3 1 (.slice (some ⟨w1.heap.size, 0, none⟩) n n) n (ints L) ∧ Below w1.heap.size w1 wr) (fun i _ => n - (intOf i).toNat)
  case atStart => exact ⟨0, _, Nat.zero_le _, rfl, ⟨List.length_replicate, fun j h => absurd h (by omega)⟩, hown2, T2⟩
  case round =>
    clear hown2 T2 BS2
    obtain ⟨k, L, hk, rfl, HM, hown, hTr⟩ := hrel
    by_cases hlt : k < n
    · have hk0 : (0 : Int) ≤ (k : Int) := by omega
      have hk1 : (k : Int) < (n : Int) := by omega
      have hcl := par_cell hown (gF_at (f := L) (i := k) (by rw [HM.out.1]; exact hlt)) hlt
      have hfz := hown.frozenAt k
      have hst := (hown.stored k (.int .i64 (-1))).1
      rw [ints_set] at hst
      have HM2 := Lib.hid (HM.out.next hlt)
      have hTs := hTr.setCell (p := ⟨w1.heap.size, k, none⟩) (Nat.le_refl _) (.int .i64 (-1))
      clear hown hTr
      go_wp2_with fail
      go_roundw
      case rel => exact ⟨k + 1, _, by omega, by go_num, HM2, hst, hTs⟩
      case measure => simp [intOf]; try omega
    · have hkn : k = n := by omega
      have hL : L = mt n := by have := HM.out; rw [hkn] at this; exact this.done
      subst hL
      have hk1 : ¬ (k : Int) < (n : Int) := by omega
      have BS3 := BS.next hTr
      have T03 := below_next T01 hTr rfl
      have T3 : Below wa.heap.size wa wr := below_next hT T03 rfl
      have hQ3 : Q wr [] bl := hF.stab hQ T03.size fun b hb => T03.block b (hF.lt hQ b hb)
      have hgl := (hown.lt w1.heap.size rfl).2
      have hbl := hF.lt hQ
      have HF3 := Lib.hid (HFIT.out w1.heap.size w0.heap.size n w1.heap.size 0 (mt n) wr T3 (Nat.le_trans HWA.out T01.size) hown mt_pa BS3)
      have hngb : w1.heap.size ∉ bl := fun hh => by have := hbl _ hh; omega
      have hnsb : w0.heap.size ∉ bl := fun hh => by have := hbl _ hh; omega
      have hng : w0.heap.size ≠ w1.heap.size := by omega
      clear hown hkn HM
      rcases hfit : fitS n x.2 y.2 (mt n) with _ | z
      · rw [hfit] at HF3
        have HRr : Hid (R = (0, [])) := by show _ = _; rw [← HR.out]; unfold find; rw [hfit]
        clear hfit
        go_wp2_with fail
        refine HF3.out.mono ?_
        rintro e w4 ⟨rfl, hg4, -⟩
        have BS4 := BS3.grown hg4 (fun e => hng (by injection e))
        have hS4 : ChgB [w1.heap.size] wr w4 := ChgB.gkS hg4
        have hQ4 : Q w4 [] bl := hF.chg hQ3 hS4 fun b hb hh => hngb (by rw [List.mem_singleton] at hh; rw [← hh]; exact hb)
        have hC4 : ChgB bl w w4 := (ChgB.ofBelow T03).lay hS4 fun b hb => by rw [List.mem_singleton] at hb; subst hb; exact .inr T01.size
        have cS5 := BS4.cell 5
        simp [srcA] at cS5
        clear hg4 HF3
        go_wp2_with fail
        go_ret
        exact ⟨bl, ret_bool (by rw [HRr.out]; rfl), by rw [HRr.out]; exact hQ4, hC4, fun b hb => .inl hb⟩
      · rw [hfit] at HF3
        obtain ⟨gr, -, -⟩ := fit_ok HH.out mt_pa hfit
        have hop : opens z < n + 1 := by have := opens_le z; have := gr.1.1; omega
        have HRr : Hid (srch n x.2 y.2 most (n + 1) z (0, []) = R) := by show _ = _; rw [← HR.out]; unfold find; rw [hfit]
        clear hfit
        go_wp2_with fail
        refine HF3.out.mono ?_
        rintro e w4 ⟨rfl, hg4, f4, ho4, hpf4, hz4⟩
        obtain rfl := hz4 z rfl
        have BS4 := BS3.grown hg4 (fun e => hng (by injection e))
        have hS4 : ChgB [w1.heap.size] wr w4 := ChgB.gkS hg4
        have hQ4 : Q w4 [] bl := hF.chg hQ3 hS4 fun b hb hh => hngb (by rw [List.mem_singleton] at hh; rw [← hh]; exact hb)
        have hC4 : ChgB bl w w4 := (ChgB.ofBelow T03).lay hS4 fun b hb => by rw [List.mem_singleton] at hb; subst hb; exact .inr T01.size
        have hT4 : Below wa.heap.size wa w4 := hC4.low hT fun b hb => Nat.le_trans hlo (hF.low hQ b hb)
        have HX := Lib.hid (HEXT.out w0.heap.size (Nat.le_trans HWA.out hgs0) (n + 1) w1.heap.size n f4 bl 0 [] w4 hT4 BS4 hQ4 hnsb (own_mono ho4 (Nat.zero_le _)) hngb hpf4 hop (by decide) hm)
        rw [HRr.out] at HX
        clear hg4 HF3 ho4 hpf4 hz4 BS4 hQ4 hS4 BS3 hQ3 gr hop
        go_wp2_with fail
        refine HX.out.mono ?_
        rintro e w5 ⟨b5, rfl, BS5, hQ5, hC5, hf5⟩
        have hC6 : ChgB bl w w5 := hC4.lay hC5 fun b hb => by
          rcases List.mem_cons.1 hb with h1 | h1
          · exact .inr (by omega)
          · exact .inl h1
        have hf6 := fresh_in (fun b hb => .inl hb) hf5 hC4.size
        have cS5 := BS5.cell 5
        simp [srcA] at cS5
        clear HX hC4 hC5
        by_cases ht : R.1 ≤ 5000
        · have ht1 : (R.1 : Int) ≤ 5000 := by omega
          have HD : Hid (true = decide (R.1 ≤ 5000)) := (decide_eq_true ht).symm
          clear ht
          go_wp2_with fail
          go_ret
          exact ⟨b5, ret_bool HD.out, hQ5, hC6, hf6⟩
        · have ht1 : ¬ (R.1 : Int) ≤ 5000 := by omega
          have HT1 : Hid (decide ((R.1 : Int) ≤ 5000) = decide (R.1 ≤ 5000)) := by show _ = _; rw [decide_eq_false ht, decide_eq_false ht1]
          have HD : Hid (false = decide (R.1 ≤ 5000)) := (decide_eq_false ht).symm
          clear ht
          go_wp2_with fail
          go_ret
          exact ⟨b5, ret_bool (by first | exact HD.out | exact HT1.out), hQ5, hC6, hf6⟩
/-- The list so far, in the cell that the function value holds. -/
def LhQ (lo gl : Nat) (w : World) (L : List (List Int)) (bl : List Nat) : Prop :=
  ∃ (A : Option Addr) (c : Nat) (vs : List Value), Blk w gl 31 #[.slice A L.length c] ∧ OwMv 38 3 (.int .i64) lo w (.slice A L.length c) L.length vs L ∧ bl = gl :: (obl (.slice A L.length c) ++ vs.filterMap Value.ownBlock)
theorem LhQ.lt {lo gl : Nat} {w : World} {L : List (List Int)} {bl : List Nat} (h : LhQ lo gl w L bl) : ∀ b ∈ bl, b < w.heap.size := by
  obtain ⟨A, c, vs, h1, h2, rfl⟩ := h
  intro b hb
  rcases List.mem_cons.1 hb with rfl | hb
  · exact h1.lt
  · exact (h2.lt b hb).2
theorem LhQ.low {lo gl : Nat} {w : World} {L : List (List Int)} {bl : List Nat} (hg : lo ≤ gl) (h : LhQ lo gl w L bl) : ∀ b ∈ bl, lo ≤ b := by
  obtain ⟨A, c, vs, h1, h2, rfl⟩ := h
  intro b hb
  rcases List.mem_cons.1 hb with rfl | hb
  · exact hg
  · exact (h2.lt b hb).1
theorem LhQ.stab {lo gl : Nat} {w w' : World} {L : List (List Int)} {bl : List Nat} (h : LhQ lo gl w L bl) (hs : ∀ b ∈ bl, w'.heap[b]? = w.heap[b]?) : LhQ lo gl w' L bl := by
  obtain ⟨A, c, vs, h1, h2, rfl⟩ := h
  exact ⟨A, c, vs, (hs gl (List.mem_cons_self ..)).trans h1, h2.sameB fun b hb => hs b (List.mem_cons_of_mem _ hb), rfl⟩
theorem LhQ.finish {lo gl : Nat} {L : List (List Int)} {w w6 w8 : World} {p : List Int} {A : Option Addr} {c : Nat} {vs : List Value} {u : Value} {A8 : Option Addr} {c8 : Nat}
    (hBl : Blk w gl 31 #[.slice A L.length c]) (hOw : OwMv 38 3 (.int .i64) lo w (.slice A L.length c) L.length vs L)
    (T6 : Below w.heap.size w w6) (hu : w6.ownsRow w.heap.size 3 1 u p.length (ints p)) (ho8 : OwMv 38 3 (.int .i64) lo w8 (.slice A8 (L.length + 1) c8) (L.length + 1) (vs ++ [u]) (L ++ [p]))
    (hg8 : w6.grownBy w8 (Value.slice A L.length c).ownBlock) (hf8 : ∀ b ∈ obl (.slice A8 (L.length + 1) c8), b ∈ obl (.slice A L.length c) ∨ w6.heap.size ≤ b) :
    ∃ bl', LhQ lo gl (w8.setCell ⟨gl, 0, none⟩ (.slice A8 (L.length + 1) c8)) (L ++ [p]) bl' ∧ ChgB (gl :: (obl (.slice A L.length c) ++ vs.filterMap Value.ownBlock)) w (w8.setCell ⟨gl, 0, none⟩ (.slice A8 (L.length + 1) c8)) ∧
      ∀ b ∈ bl', b ∈ gl :: (obl (.slice A L.length c) ++ vs.filterMap Value.ownBlock) ∨ w.heap.size ≤ b := by
  have hz6 := T6.size
  have hz8 := hg8.size
  have hno := hOw.off hBl (by decide) (by decide)
  have hB6 := hBl.next T6
  have hB8 : Blk w8 gl 31 #[.slice A L.length c] := hB6.grown hg8 fun e => hno (List.mem_append_left _ (mem_obl.2 e.symm))
  have hno8 := ho8.off hB8 (by decide) (by decide)
  have hfar : ∀ b < w.heap.size, b ≠ gl → b ∉ obl (.slice A L.length c) → (w8.setCell ⟨gl, 0, none⟩ (.slice A8 (L.length + 1) c8)).heap[b]? = w.heap[b]? := by
    intro b hb h1 h2
    rw [Below.heap_setCell _ ⟨gl, 0, none⟩ _ b h1]
    exact (hg8.block b (by omega) fun e => h2 (mem_obl.2 e.symm)).trans (T6.block b hb)
  have hl : (L ++ [p]).length = L.length + 1 := by simp
  refine ⟨gl :: (obl (.slice A8 (L.length + 1) c8) ++ (vs ++ [u]).filterMap Value.ownBlock), ⟨A8, c8, vs ++ [u], ?_, ?_, by rw [hl]⟩, ⟨hg8.os.trans T6.os, hg8.tape.trans T6.tape, hg8.output.trans T6.output, by simp; omega, fun b hb hn => ?_⟩, fun b hb => ?_⟩
  · rw [hl]
    have := hB8.set_ 0 (.slice A8 (L.length + 1) c8)
    simpa using this
  · rw [hl]
    have := ho8.sameB (w' := w8.setCell ⟨gl, 0, none⟩ (.slice A8 (L.length + 1) c8)) fun b hb => Below.heap_setCell _ ⟨gl, 0, none⟩ _ b fun e => hno8 (by rw [← show b = gl from e]; exact hb)
    simpa using this
  · rw [List.mem_cons, List.mem_append] at hn
    exact hfar b hb (fun e => hn (.inl e)) fun hh => hn (.inr (.inl hh))
  · rcases List.mem_cons.1 hb with rfl | hb
    · exact .inl (List.mem_cons_self ..)
    · rcases List.mem_append.1 hb with hb | hb
      · rcases hf8 b hb with h1 | h1
        · exact .inl (List.mem_cons_of_mem _ (List.mem_append_left _ h1))
        · exact .inr (by omega)
      · rw [List.filterMap_append, List.mem_append] at hb
        rcases hb with hb | hb
        · exact .inl (List.mem_cons_of_mem _ (List.mem_append_right _ hb))
        · obtain ⟨y, hy, hyb⟩ := List.mem_filterMap.1 hb
          rw [List.mem_singleton] at hy
          subst hy
          exact .inr (hu.lt b hyb).1
theorem lhClo_any (n lo gl : Nat) (hn8 : n ≤ 8) (w : World) (L : List (List Int)) (bl : List Nat) (N : Option Addr) (c : Nat) (p : List Int) (hd : L.length < 301) (hQ : LhQ lo gl w L bl) (hlo : lo ≤ w.heap.size) (hR : RdL RI w N n p) (hp : p.length = n) :
    Calls Try.prog 74 #[.slice N n c, .pointer (some ⟨gl, 0, none⟩)] w fun e w' => e = .returned (.bool (decide (L.length + 1 < 301))) ∧ ∃ bl', LhQ lo gl w' (L ++ [p]) bl' ∧ ChgB bl w w' ∧ ∀ b ∈ bl', b ∈ bl ∨ w.heap.size ≤ b := by
  obtain ⟨A, cA, vs, hBl, hOw, hbl⟩ := hQ
  have HBL := Lib.hid hbl
  clear hbl
  have HBl := Lib.hid hBl
  have HOw := Lib.hid hOw
  have HPL := Lib.hid hp
  have cL := hBl.c0
  obtain ⟨bd, HBD⟩ : ∃ z, Hid (decide (L.length + 1 < 301) = z) := ⟨_, Lib.hid rfl⟩
  rw [HBD.out]
  have hT1 : Below w.heap.size w w := Below.refl _ _
  have hz1 : w.heap.size ≤ w.heap.size := Nat.le_refl _
  clear hp
  go_enter Try.func74, Try.ntmps74
  go_upto_region 1 with fail
  go_region_law (first
    | (refine step_app1y w4 rfl (.tmp 4) (.tmp 7) rfl lo L.length cA A vs (by rfl) hvs (.slice A4 n c4) rfl (by rfl) (by omega) (by omega) ?_; intro A8 c8 w8 hown8 hg8 hf8; have BL8 := BL4.grown hg8 (fun e => own_off hvs BL4 (by decide) e.symm); have cL8 := BL8.cell 0; have fL8 := BL8.frozen 0; simp at cL8)
    | (go_simp; go_at_call 63; refine (clone_any _ _ _ p _ (by first | exact hR | exact hR.drew stab_RI) (by omega)).mono ?_; rintro e w4 ⟨A4, c4, rfl, ho4, hbn⟩; have hb4 := below_next (by first | exact hT1 | exact Below.drew hT1) hbn rfl; have hu4 : w4.ownsRow w.heap.size 3 1 (.slice A4 n c4) p.length (ints p) := by rw [HPL.out]; exact own_mono ho4 hz1
       obtain ⟨hvs, HPU⟩ := hOw.push hb4 hlo hu4; have hz4 := hb4.size; have BL4 := hBl.next hb4; have cL4 := BL4.cell 0; have cL4a := (BL4.alloc (.cells #[.slice A4 n c4] 38)).cell 0; simp at cL4 cL4a))
  all_goals
    have hO8 := HPU hown8 hg8
    have HFIN := Lib.hid (And.intro hb4 (And.intro hu4 (And.intro hO8 (And.intro hg8 hf8))))
    clear hO8 hown8 hg8 hf8 hvs HPU hu4
    by_cases ht : L.length + 1 < 301
    · have HB2 : Hid (true = bd) := by show _ = _; rw [← HBD.out, decide_eq_true ht]
      have ht1 : (L.length : Int) + 1 ≤ 300 := by omega
      clear ht
      go_wp2_with fail
      go_ret
      obtain ⟨h1, h2, h3, h4, h5⟩ := HFIN.out
      exact ⟨ret_bool HB2.out, by rw [HBL.out]; exact LhQ.finish HBl.out HOw.out h1 h2 h3 h4 h5⟩
    · have HB2 : Hid (false = bd) := by show _ = _; rw [← HBD.out, decide_eq_false ht]
      have HT1 : Hid (decide ((L.length : Int) + 1 ≤ 300) = bd) := by show _ = _; rw [← HBD.out, decide_eq_false ht, decide_eq_false (by omega)]
      have ht1 : ¬ (L.length : Int) + 1 ≤ 300 := by omega
      clear ht
      go_wp2_with fail
      go_ret
      obtain ⟨h1, h2, h3, h4, h5⟩ := HFIN.out
      exact ⟨ret_bool (by first | exact HB2.out | exact HT1.out), by rw [HBL.out]; exact LhQ.finish HBl.out HOw.out h1 h2 h3 h4 h5⟩
theorem lhEnter (args : Array Value) (w : World) : (callFunc 74 args).run Try.prog w = .ok (.enter 74 args) w := rfl
theorem lh_ok (n lo gl : Nat) (hn8 : n ≤ 8) (hg : lo ≤ gl) : FndOk n 301 74 #[.pointer (some ⟨gl, 0, none⟩)] lo (LhQ lo gl) :=
  ⟨lhEnter, fun h1 _ h3 => h1.stab h3, fun h1 => h1.lt, fun h1 => h1.low hg, fun w d bl A c p hd h1 h2 h3 => lhClo_any n lo gl hn8 w d bl A c p hd h1 (by
    obtain ⟨_, _, _, g1, _, _⟩ := h1
    have := g1.lt
    omega) h2 h3⟩
theorem gF_nmI {n : Nat} {h : List Int} (hp : PermL n h) {j : Nat} (hj : j < n) (v : Int) (hv : v.toNat = j) : nmI h v = gF h j := by
  unfold nmI
  rw [hv, List.getD_eq_getElem?_getD, gF_at (by rw [hp.1]; exact hj)]
  rfl
theorem op_hom {n : Nat} {o o' : OpM} {h : List Int} (hn : 0 < n) (ho : OpP n o) (ho' : OpP n o') (ht : o.1 = o'.1) (hp : PermL n h) : (∀ i, i < o.2.length → gF h (nmAt o.2 i) = o'.2.getD (toI n o.1.toNat h i) 0) ↔ renOp n h o = o' := by
  have hl : o.2.length = n ^ o.1.toNat := ho.2.2.1
  constructor
  · intro H
    refine Prod.ext ht ?_
    apply List.ext_getElem?
    intro j
    by_cases hj : j < n ^ o.1.toNat
    · obtain ⟨i, hi, rfl⟩ := toI_surj hn hp hj
      have h1 := H i (by rw [hl]; exact hi)
      have h2 : toI n o.1.toNat h i < o'.2.length := by rw [ho'.2.2.1, ← ht]; exact toI_lt hn hp i
      rw [renOp_get hn hp ho hi, gF_nmI hp (op_val hn ho (by rw [hl]; exact hi)) _ rfl, h1, List.getD_eq_getElem?_getD, List.getElem?_eq_getElem h2]
      rfl
    · have e1 : (renOp n h o).2.length = n ^ o.1.toNat := (renOp_small hp ho).2.2.1
      have e2 : o'.2.length = n ^ o.1.toNat := by rw [ho'.2.2.1, ht]
      rw [List.getElem?_eq_none (by omega), List.getElem?_eq_none (by omega)]
  · rintro rfl i hi
    rw [List.getD_eq_getElem?_getD, renOp_get hn hp ho (by rw [← hl]; exact hi)]
    exact (gF_nmI hp (op_val hn ho hi) _ rfl).symm
theorem alk_of {x y : AlgebraM} (hx : SmallP x) (hy : SmallP y) (hn : x.1 = y.1) (ht : x.2.map (·.1) = y.2.map (·.1)) : AlkP x.1.toNat x.2 y.2 :=
  ⟨by have := hx.1; omega, hx.2.2.2, by rw [hn]; exact hy.2.2.2, ht⟩
theorem emb_ren {x y : AlgebraM} {h : List Int} (hx : SmallP x) (hy : SmallP y) (hn : x.1 = y.1) (ht : x.2.map (·.1) = y.2.map (·.1)) : EmbAB x.1.toNat x.2 y.2 h ↔ PermL x.1.toNat h ∧ ren x h = y := by
  have H := alk_of hx hy hn ht
  have hl : x.2.length = y.2.length := by have := congrArg List.length ht; simpa using this
  constructor
  · rintro ⟨hp, hh⟩
    refine ⟨hp, Prod.ext hn ?_⟩
    apply List.ext_getElem?
    intro k
    show (x.2.map (renOp x.1.toNat h))[k]? = _
    rw [List.getElem?_map]
    by_cases hk : k < x.2.length
    · obtain ⟨o, o', q1, q2, -, -, p1, p2, e, -, -⟩ := H.at hk
      rw [q1, q2, Option.map_some, (op_hom H.pos p1 p2 e hp).1 (hh k o o' q1 q2)]
    · rw [List.getElem?_eq_none (by omega), List.getElem?_eq_none (by omega)]
      rfl
  · rintro ⟨hp, rfl⟩
    refine ⟨hp, fun k o o' q1 q2 => ?_⟩
    have q2 : (x.2.map (renOp x.1.toNat h))[k]? = some o' := q2
    rw [List.getElem?_map, q1, Option.map_some] at q2
    injection q2 with q2
    have p1 := H.a o (List.mem_of_getElem? q1)
    subst q2
    exact (op_hom H.pos p1 (renOp_small hp p1) rfl hp).2 rfl
/-- Whether there is an isomorphism, by the search, is whether the forms are the same. -/
theorem iso_law {x y : AlgebraM} (hx : SmallP x) (hy : SmallP y) (hn : x.1 = y.1) (ht : x.2.map (·.1) = y.2.map (·.1)) (hok : (find x.1.toNat x.2 y.2 1).1 ≤ 5000) : 0 < (find x.1.toNat x.2 y.2 1).2.length ↔ canA x = canA y := by
  obtain ⟨h1, -, h3⟩ := find_spec (most := 1) (alk_of hx hy hn ht) (by decide)
  rw [canA_iff hx hy]
  constructor
  · intro hl
    have := h1 _ (List.getElem_mem hl)
    exact ⟨_, (emb_ren hx hy hn ht).1 this⟩
  · rintro ⟨s, hs⟩
    rcases Nat.eq_zero_or_pos (find x.1.toNat x.2 y.2 1).2.length with e | e
    · have := h3 (over_no.2 ⟨hok, by omega⟩) s ((emb_ren hx hy hn ht).2 hs)
      rw [List.eq_nil_of_length_eq_zero e] at this
      cases this
    · exact e
/-- What the search from an algebra to itself finds are its symmetries. -/
theorem aut_law {x : AlgebraM} (hx : SmallP x) (hok : (find x.1.toNat x.2 x.2 301).1 ≤ 5000) (hl : (find x.1.toNat x.2 x.2 301).2.length ≤ 300) : (find x.1.toNat x.2 x.2 301).2.length = (symL x (ords x.1.toNat x.1.toNat [])).length ∧ ∀ p ∈ symL x (ords x.1.toNat x.1.toNat []), p ∈ (find x.1.toNat x.2 x.2 301).2 := by
  obtain ⟨h1, h2, h3⟩ := find_spec (most := 301) (alk_of hx hx rfl rfl) (by decide)
  have h3 := h3 (over_no.2 ⟨hok, by omega⟩)
  have key : ∀ p, p ∈ symL x (ords x.1.toNat x.1.toNat []) ↔ EmbAB x.1.toNat x.2 x.2 p := fun p => by
    rw [emb_ren hx hx rfl rfl]
    unfold symL
    rw [List.mem_filter, ords_mem]
    show _ ∧ symF x p = true ↔ _
    unfold symF; rw [eqC_iff]
  refine ⟨Nat.le_antisymm (nodup_sub' h2 fun p hp => (key p).2 (h1 p hp)) (nodup_sub' ?_ fun p hp => h3 p ((key p).1 hp)), fun p hp => h3 p ((key p).1 hp)⟩
  exact (ords_nodup _ _).sublist List.filter_sublist
theorem try_le {n : Nat} {A B : List OpM} {most : Nat} {rec_ : List Int → SrS → SrS} {f : List Int} {p : Nat} {s : SrS} {x : Nat} (hs : s.1 ≤ 5001 ∧ s.2.length ≤ most) (hr : ∀ g s, s.1 ≤ 5001 → s.2.length < most → (rec_ g s).1 ≤ 5001 ∧ (rec_ g s).2.length ≤ most) : (tryS n A B most rec_ f p s x).1 ≤ 5001 ∧ (tryS n A B most rec_ f p s x).2.length ≤ most := by
  unfold tryS
  by_cases o : over most s = true
  · rw [if_pos o]; exact hs
  · have o' := over_no.1 (by simpa using o : over most s = false)
    rw [if_neg o]
    split
    · exact ⟨by show s.1 + 1 ≤ 5001; omega, hs.2⟩
    · split
      · exact ⟨by show s.1 + 1 ≤ 5001; omega, hs.2⟩
      · exact hr _ _ (by show s.1 + 1 ≤ 5001; omega) o'.2
theorem lop_le {n : Nat} {A B : List OpM} {most : Nat} {rec_ : List Int → SrS → SrS} {f : List Int} {p : Nat} {s : SrS} (hs : s.1 ≤ 5001 ∧ s.2.length ≤ most) (hr : ∀ g s, s.1 ≤ 5001 → s.2.length < most → (rec_ g s).1 ≤ 5001 ∧ (rec_ g s).2.length ≤ most) : ∀ k, (lopS n A B most rec_ f p s k).1 ≤ 5001 ∧ (lopS n A B most rec_ f p s k).2.length ≤ most
  | 0 => hs
  | k + 1 => try_le (lop_le hs hr k) hr
theorem srch_le {n : Nat} {A B : List OpM} {most : Nat} : ∀ m f s, s.1 ≤ 5001 → s.2.length < most → (srch n A B most m f s).1 ≤ 5001 ∧ (srch n A B most m f s).2.length ≤ most
  | 0, f, s, h1, h2 => ⟨h1, by unfold srch; omega⟩
  | m + 1, f, s, h1, h2 => by
    unfold srch
    split
    · exact ⟨h1, by rw [List.length_append]; simp; omega⟩
    · exact lop_le ⟨h1, by omega⟩ (srch_le m) n
theorem find_le {n : Nat} {A B : List OpM} {most : Nat} (hm : 0 < most) : (find n A B most).1 ≤ 5001 ∧ (find n A B most).2.length ≤ most := by
  unfold find
  split
  · exact ⟨by decide, by simp⟩
  · exact srch_le _ _ _ (by decide) hm
def lhB (s : SrS) : Bool := decide (s.1 ≤ 5000) && decide (s.2.length ≤ 300)
def lhL (s : SrS) : List (List Int) := if lhB s = true then s.2 else []
theorem ownE6 {w w6 : World} (h : Below w.heap.size w w6) : (w6.alloc (.cells #[] 38)).ownsRow w.heap.size 38 1 (.slice (some ⟨w6.heap.size, 0, none⟩) 0 0) 0 [] := World.ownsRow_lit (e := 38) (size := 1) w6 #[] 0 h.size (Nat.zero_le _) rfl
theorem below_box' {w w6 : World} (h : Below w.heap.size w w6) : Below w.heap.size w (w6.alloc (.cells #[] 38)) := below_next h (below_box w6 _) rfl
theorem listHoms_any (x y : AlgebraM) (n : Nat) (B1 B2 : Option Addr) (m1 d1 m2 d2 : Nat) (w : World) (h : shAlgebra.rd w [.int .i64 (n : Int), .slice B1 m1 d1] x) (h' : shAlgebra.rd w [.int .i64 (n : Int), .slice B2 m2 d2] y) (H : AlkP n x.2 y.2) (hn : x.1 = (n : Int)) (hn' : y.1 = (n : Int)) (hn8 : n ≤ 8) (hx4 : x.2.length ≤ 4) :
    Calls Try.prog 46 #[.agg #[.int .i64 (n : Int), .slice B1 m1 d1], .agg #[.int .i64 (n : Int), .slice B2 m2 d2], .bool true] w (OwSB w (lhL (find n x.2 y.2 301)) (lhB (find n x.2 y.2 301))) := by
  obtain ⟨w0, hw0, T0, hsz0, BP, BQ⟩ := boxes2 w #[.int .i64 (n : Int), .slice B1 m1 d1] #[.int .i64 (n : Int), .slice B2 m2 d2] 26 26
  have HW0 := Lib.hid hw0
  obtain ⟨w5, hw5⟩ : ∃ w5, w5 = (w0.alloc (.cells #[] 38)).alloc (.cells #[.slice (some ⟨w0.heap.size, 0, none⟩) 0 0] 31) := ⟨_, rfl⟩
  have T05 : Below w0.heap.size w0 w5 := by
    rw [hw5]
    exact (below_box w0 _).alloc (by simp) _
  have T5 := below_next T0 T05 rfl
  have hz5 : w5.heap.size = w0.heap.size + 2 := by rw [hw5]; simp
  have BL : Blk w5 (w0.heap.size + 1) 31 #[.slice (some ⟨w0.heap.size, 0, none⟩) 0 0] := by
    rw [hw5]
    have := Blk.new (w0.alloc (.cells #[] 38)) 31 #[.slice (some ⟨w0.heap.size, 0, none⟩) 0 0]
    simpa using this
  have own : w5.ownsRow w.heap.size 38 1 (.slice (some ⟨w0.heap.size, 0, none⟩) 0 0) 0 [] := by
    rw [hw5]
    exact (World.ownsRow_lit (e := 38) (size := 1) w0 #[] 0 T0.size (Nat.zero_le _) rfl).alloc (.cells #[.slice (some ⟨w0.heap.size, 0, none⟩) 0 0] 31)
  have hg : w.heap.size ≤ w0.heap.size + 1 := by have := T0.size; omega
  have hQ5 : LhQ w.heap.size (w0.heap.size + 1) w5 [] ((w0.heap.size + 1) :: (obl (.slice (some ⟨w0.heap.size, 0, none⟩) 0 0) ++ ([] : List Value).filterMap Value.ownBlock)) := ⟨_, 0, [], BL, OwMv.empty w.heap.size _ own, rfl⟩
  have HF := lh_ok n w.heap.size (w0.heap.size + 1) hn8 hg
  have HS := Lib.hid (searchHoms_any HF (by decide) x y B1 B2 m1 d1 m2 d2 w w5 _ h h' H hn hn' hn8 hx4 (Nat.le_refl _) T5 hQ5)
  have HLOW := Lib.hid (HF.low hQ5)
  obtain ⟨S, HSS⟩ : ∃ S, Hid (find n x.2 y.2 301 = S) := ⟨_, Lib.hid rfl⟩
  rw [HSS.out] at HS ⊢
  have HW5 := Lib.hid hw5
  have cP0 := BP.cell 0
  have cP1 := BP.cell 1
  have cQ0 := BQ.cell 0
  have cQ1 := BQ.cell 1
  have kP0 := (BP.next T05).cell 0
  have kP1 := (BP.next T05).cell 1
  have kQ0 := (BQ.next T05).cell 0
  have kQ1 := (BQ.next T05).cell 1
  simp at cP0 cP1 cQ0 cQ1 kP0 kP1 kQ0 kQ1
  have HT := Lib.hid T5
  clear hw0 hw5 hsz0 BP BQ BL own hQ5 HF h h' H hn hn' hx4 T05 T5 hz5
  go_enter Try.func46, Try.ntmps46
  go_upto_region 1 with fail
  rw [← HW0.out]
  go_upto_region 2 with fail
  rw [← HW5.out]
  clear cP0 cP1 cQ0 cQ1
  go_wp2_with fail
  refine HS.out.mono ?_
  rintro e w6 ⟨bl', rfl, hQ6, hC6, -⟩
  have T6 := hC6.low HT.out HLOW.out
  obtain ⟨A, c, vs, g1, g2, -⟩ := hQ6
  have cL := g1.c0
  have HO := Lib.hid g2
  clear g1 g2 hC6 kP0 kP1 kQ0 kQ1 HS
  by_cases h1 : S.1 ≤ 5000
  · have HD1 : Hid (decide (S.1 ≤ 5000) = true) := decide_eq_true h1
    rw [HD1.out]
    by_cases h2 : S.2.length ≤ 300
    · have HB : Hid (lhB S = true) := by show _ = _; unfold lhB; rw [HD1.out, decide_eq_true h2]; rfl
      have HL : Hid (lhL S = S.2) := by show _ = _; unfold lhL; rw [if_pos HB.out]
      have h3 : ¬ (S.2.length : Int) > 300 := by omega
      clear h1 h2
      go_wp2_with fail
      go_ret2
      show OwSB w (lhL S) (lhB S) _ _
      rw [HB.out, HL.out]
      exact ⟨A, c, vs, rfl, HO.out, HO.out.inHi, T6⟩
    · have HB : Hid (lhB S = false) := by show _ = _; unfold lhB; rw [decide_eq_false h2, Bool.and_false]
      have HL : Hid (lhL S = []) := by show _ = _; unfold lhL; rw [if_neg (by rw [HB.out]; decide)]
      have h3 : (S.2.length : Int) > 300 := by omega
      have own2 := ownE6 T6
      clear h1 h2
      go_wp2_with fail
      go_ret2
      show OwSB w (lhL S) (lhB S) _ _
      rw [HB.out, HL.out]
      exact ⟨_, _, [], rfl, OwMv.empty _ _ own2, (fun u hu => by cases hu), below_box' T6⟩
  · have HD1 : Hid (decide (S.1 ≤ 5000) = false) := decide_eq_false h1
    rw [HD1.out]
    have HB : Hid (lhB S = false) := by show _ = _; unfold lhB; rw [HD1.out]; rfl
    have HL : Hid (lhL S = []) := by show _ = _; unfold lhL; rw [if_neg (by rw [HB.out]; decide)]
    have own2 := ownE6 T6
    clear h1
    go_wp2_with fail
    go_ret2
    show OwSB w (lhL S) (lhB S) _ _
    rw [HB.out, HL.out]
    exact ⟨_, _, [], rfl, OwMv.empty _ _ own2, (fun u hu => by cases hu), below_box' T6⟩
/-- The automorphisms. -/
def auS (x : AlgebraM) : SrS := find x.1.toNat x.2 x.2 301
theorem implAu_any (cs : List Value) (x : AlgebraM) (w : World) (h : shAlgebra.rd w cs x) (hx : SmallP x) :
    Calls Try.prog 15 #[.agg cs.toArray] w (OwSB w (lhL (auS x)) (lhB (auS x))) := by
  obtain ⟨n, hn⟩ : ∃ n : Nat, x.1 = (n : Int) := ⟨x.1.toNat, by have h1 := hx.1; omega⟩
  have hnn : x.1.toNat = n := by omega
  have H := alk_of hx hx rfl rfl
  rw [hnn] at H
  have HAS : Hid (auS x = find n x.2 x.2 301) := by show _ = _; unfold auS; rw [hnn]
  rw [HAS.out]
  have hn8 : n ≤ 8 := by have h1 := hx.2.1; omega
  have hrd := h
  obtain ⟨B, m, d, rfl, qs, qo⟩ := rdAlgebra h
  rw [hn] at hrd ⊢
  obtain ⟨w0, hw0, T0, hsz0, BP⟩ := boxes1 w #[.int .i64 (n : Int), .slice B m d] 26
  have HW0 := Lib.hid hw0
  have hrd0 := shAlgebra.stab hrd T0.block
  have HI := Lib.hid (isAlgebra_any _ x w0 hrd0)
  have hal : algB x = true := alg_iff.2 ⟨hx.1, by have h1 := hx.2.1; omega, hx.2.2.1, hx.2.2.2⟩
  rw [hal] at HI
  have HL := Lib.hid fun (wz : World) (hz : Below w0.heap.size w0 wz) => listHoms_any x x n B B m d m d wz (shAlgebra.stab hrd0 hz.block) (shAlgebra.stab hrd0 hz.block) H hn hn hn8 hx.2.2.1
  have cP0 := BP.cell 0
  have cP1 := BP.cell 1
  simp at cP0 cP1
  clear hw0 hsz0 h hrd hrd0 qs qo hx H hn
  go_enter Try.func15, Try.ntmps15
  go_upto_region 1 with fail
  rw [← HW0.out]
  go_wp2_with fail
  refine HI.out.mono ?_
  rintro e w1 ⟨rfl, hb1⟩
  have jP0 := keepc hb1 cP0
  have jP1 := keepc hb1 cP1
  clear cP0 cP1 HI
  go_wp2_with fail
  refine (HL.out _ hb1).mono ?_
  rintro e w2 ⟨A, c, vs, rfl, ho, hi, hb2⟩
  have T2 := below_next (below_next T0 hb1 rfl) hb2 rfl
  have HO := Lib.hid (And.intro ho hi)
  have hbs := (below_next T0 hb1 rfl).size
  clear ho hi
  go_wp2_with fail
  go_ret2
  exact ⟨A, c, vs, rfl, HO.out.1.mono hbs, HO.out.2, T2⟩
/-- What a search hands back. -/
def FdR (w : World) (s : SrS) (e : Ending) (w' : World) : Prop := ∃ A c ts, e = .returned (.tuple #[.slice A s.2.length c, .bool (decide (s.1 ≤ 5000))]) ∧ w'.ownsRow w.heap.size 38 1 (.slice A s.2.length c) s.2.length (ts.map slV) ∧ Rws w' ts s.2 ∧ Below w.heap.size w w'
theorem l7Find_any {n most : Nat} (x y : AlgebraM) (B1 B2 : Option Addr) (m1 d1 m2 d2 : Nat) (w : World) (h : shAlgebra.rd w [.int .i64 (n : Int), .slice B1 m1 d1] x) (h' : shAlgebra.rd w [.int .i64 (n : Int), .slice B2 m2 d2] y) (H : AlkP n x.2 y.2) (hn : x.1 = (n : Int)) (hn' : y.1 = (n : Int)) (hn8 : n ≤ 8) (hx4 : x.2.length ≤ 4) (hm : 0 < most) (hmost : most ≤ 1000) :
    Calls Try.prog 75 #[.agg #[.int .i64 (n : Int), .slice B1 m1 d1], .agg #[.int .i64 (n : Int), .slice B2 m2 d2], .bool true, .bool false, .int .i64 (most : Int)] w (FdR w (find n x.2 y.2 most)) := by
  have hn0 := H.pos
  have hrd := h
  have hrd' := h'
  obtain ⟨R, HR⟩ : ∃ R, Hid (find n x.2 y.2 most = R) := ⟨_, Lib.hid rfl⟩
  rw [HR.out]
  obtain ⟨w0, hw0, T0, hsz0, BP, BQ⟩ := boxes2 w #[.int .i64 (n : Int), .slice B1 m1 d1] #[.int .i64 (n : Int), .slice B2 m2 d2] 26 26
  have HW0 := Lib.hid hw0
  have cP0 := BP.cell 0
  have cP1 := BP.cell 1
  have cQ0 := BQ.cell 0
  have cQ1 := BQ.cell 1
  simp at cP0 cP1 cQ0 cQ1
  clear hw0 hsz0
  go_enter Try.func75, Try.ntmps75
  go_upto_region 1 with fail
  rw [← HW0.out]
  go_upto_region 2 with fail
  obtain ⟨w1, HW1⟩ : ∃ wz, Hid (wz = (w0.alloc (.cells #[] 38)).alloc (.cells #[.int .i64 (n : Int), .slice B1 m1 d1, .int .i64 (n : Int), .slice B2 m2 d2, .bool true, .bool false, .int .i64 (most : Int), .int .i64 0, .slice (some ⟨w0.heap.size, 0, none⟩) 0 0] 94)) := ⟨_, Lib.hid rfl⟩
  rw [← HW1.out]
  have T1 : Below w0.heap.size w0 w1 := by rw [HW1.out]; exact (below_box w0 _).alloc (by simp) _
  have hz1 : w1.heap.size = w0.heap.size + 2 := by rw [HW1.out]; simp
  have hQ1 : WkQ w.heap.size (w0.heap.size + 1) n m1 d1 m2 d2 B1 B2 most w1 (0, []) (obl (.slice (some ⟨w0.heap.size, 0, none⟩) 0 0)) := by
    rw [HW1.out]
    refine ⟨some ⟨w0.heap.size, 0, none⟩, 0, [], ?_, ?_, Rws.nil _, rfl⟩
    · have := Blk.new (w0.alloc (.cells #[] 38)) 94 #[.int .i64 (n : Int), .slice B1 m1 d1, .int .i64 (n : Int), .slice B2 m2 d2, .bool true, .bool false, .int .i64 (most : Int), .int .i64 0, .slice (some ⟨w0.heap.size, 0, none⟩) 0 0]
      simpa [srB] using this
    · exact (World.ownsRow_lit (e := 38) (size := 1) w0 #[] 0 T0.size (Nat.zero_le _) rfl).alloc _
  have T01 := below_next T0 T1 rfl
  have dP0 := keepc T1 cP0
  have hL := World.ownsRow_lit (base := w1.heap.size) (e := 3) (size := 1) w1 #[] 0 (Nat.le_refl _) (Nat.zero_le _) rfl
  have hTL := below_box w1 (.cells #[] 3)
  have HZ1 := Lib.hid hz1
  clear hz1
  go_wp2_with fail
  go_loopw [13, 14] (fun s i wr => ∃ (k : Nat) (A : Option Addr) (c : Nat), k ≤ n ∧ i = .int .i64 k ∧ s = .slice A k c ∧ wr.ownsRow w1.heap.size 3 1 (.slice A k c) k (ints (mt k)) ∧ Below w1.heap.size w1 wr) (fun _ i _ => n - (intOf i).toNat)
  case atStart => exact ⟨0, _, _, Nat.zero_le _, rfl, rfl, hL, hTL⟩
  case round =>
    clear hL hTL
    obtain ⟨k, A, c, hk, rfl, rfl, hown, hTr⟩ := hrel
    have kP0 := keepc hTr dP0
    by_cases hlt : k < n
    · have hk0 : (0 : Int) ≤ (k : Int) := by omega
      have hk1 : (k : Int) < (n : Int) := by omega
      have HS : Hid (mt (k + 1) = mt k ++ [-1]) := by show _ = _; unfold mt; rw [List.replicate_succ']
      have hz := hTr.size
      go_wp2_with (at_builtin; refine app1 wr rfl _ _ 38 3 rfl (.int .i64 0) 8 Try.underlying38 info_int rfl (by decide) w1.heap.size k c A _ rfl hown (.int .i64 (-1)) rfl rfl (by omega) hz ?_; intro A2 c2 w2 hown2 hg2 hb2)
      go_roundw
      case rel => exact ⟨k + 1, A2, c2, by omega, by go_num, rfl, by rw [HS.out, ints_app]; exact hown2, hTr.trans hb2⟩
      case measure => simp [intOf]; try omega
    · obtain rfl : k = n := by omega
      have hk1 : ¬ (k : Int) < (k : Int) := by omega
      have T2 : Below w.heap.size w wr := below_next T01 hTr rfl
      have hQ2 := hQ1.next hTr
      have BPr := (BP.next T1).next hTr
      have BQr := (BQ.next T1).next hTr
      have eP0 := BPr.cell 0
      have eP1 := BPr.cell 1
      have eQ0 := BQr.cell 0
      have eQ1 := BQr.cell 1
      simp at eP0 eP1 eQ0 eQ1
      have hrf : RdL RI wr A k (mt k) := rd_of_own (R := RI) hown (RI_ints (pam_R mt_pa hn8))
      have HC := Lib.hid (l7Close_any _ _ x y A k c (mt k) wr (shAlgebra.stab hrd T2.block) (shAlgebra.stab hrd' T2.block) H hn hn' hn8 hx4 hrf mt_pa)
      have HQ2 := Lib.hid hQ2
      have HT2 := Lib.hid T2
      have HH := Lib.hid H
      have HRD := Lib.hid (And.intro hrd hrd')
      have HLS : w.heap.size ≤ w0.heap.size + 1 := by have := T0.size; omega
      have HLB : Hid (∀ q ∈ (w0.heap.size + 1) :: obl (.slice (some ⟨w0.heap.size, 0, none⟩) 0 0), w.heap.size ≤ q) := fun q hq => by
        rcases List.mem_cons.1 hq with e | e
        · rw [e]; exact HLS
        · exact (hQ2.lt.2 q e).1
      clear hown hrf hQ1 hQ2 BPr BQr BP BQ dP0 hTr T0 T1 T01 T2 H hrd hrd' h h' cP0 cP1 cQ0 cQ1
      rcases hcs : cloS k x.2 y.2 (mt k) with _ | z
      · rw [hcs] at HC
        have HRE : Hid ((0, []) = R) := by show _ = _; rw [← HR.out]; unfold find fitS; rw [hcs]; rfl
        clear hcs
        go_wp2_with fail
        refine HC.out.mono ?_
        rintro e w3 ⟨-, hno, hb3⟩
        obtain ⟨Av, kv, cv, rfl⟩ := hno rfl
        have HQF := Lib.hid (HQ2.out.next hb3)
        have HTF := Lib.hid (below_next HT2.out hb3 rfl)
        clear hno hb3 HQ2 HT2 HC eP0 eP1 eQ0 eQ1
        rw [HRE.out] at HQF
        obtain ⟨A9, c9, ts9, hB9, hO9, hR9, -⟩ := HQF.out
        have HD9 : Below w3.heap.size w3 (World.drew w3) := (Below.refl _ _).drew
        have hO8 := own_next hO9 HD9
        have hR8 := hR9.next HD9
        have T8 := below_next HTF.out HD9 rfl
        have cS7 := hB9.cell 7
        have cS8 := hB9.cell 8
        simp at cS7 cS8
        have HFIN := Lib.hid (And.intro hO8 (And.intro hR8 T8))
        clear hO8 hR8 T8 hO9 hR9 HD9
        go_wp2_with fail
        go_still (by kernel_rfl)
        show Exit.then _ _ Exit.normal _ (World.drew w3)
        go_wp2_with fail
        go_ret2
        exact ⟨A9, c9, ts9, by rw [show decide ((R.1 : Int) ≤ 5000) = decide (R.1 ≤ 5000) from decide_eq_decide.2 (by omega)]; rfl, HFIN.out⟩
      · rw [hcs] at HC
        have hz := clo_ok (f := mt k) HH.out _ mt_pa (Nat.lt_succ_self _) hcs
        have HPZ : Hid (PaM k z) := hz.1.1
        have HFI : Hid (fitS k x.2 y.2 (mt k) = if injB z = true then some z else none) := by show _ = _; unfold fitS; rw [hcs]; rfl
        have hoz : opens z < k + 1 := by have h1 := opens_le z; have h2 := HPZ.out.1; omega
        clear hcs hz
        go_wp2_with fail
        refine HC.out.mono ?_
        rintro e w3 ⟨hyes, -, hb3⟩
        obtain ⟨g5, c5, rfl, ho5⟩ := hyes z rfl
        have hQ3 := HQ2.out.next hb3
        have T3 := below_next HT2.out hb3 rfl
        have hr5 : RdL RI w3 (some ⟨g5, 0, none⟩) k z := rd_of_own (R := RI) ho5 (RI_ints (pam_R HPZ.out hn8))
        have HIN := Lib.hid (l7Into_any (some ⟨g5, 0, none⟩) k c5 z w3 hr5 (by omega) (own_cap ho5))
        clear hyes hr5 hb3 HQ2 HT2 HC eP0 eP1 eQ0 eQ1
        rcases hij : injB z with _ | _
        · rw [hij] at HIN
          have HRE : Hid ((0, []) = R) := by show _ = _; rw [← HR.out]; unfold find; rw [HFI.out, hij]; rfl
          have HQ3 := Lib.hid hQ3
          have HT3 := Lib.hid T3
          clear hij HFI ho5 hQ3 T3
          go_wp2_with fail
          refine HIN.out.mono ?_
          rintro e w5 ⟨rfl, zz, rfl⟩
          obtain ⟨w4, HW4⟩ : ∃ x, Hid (x = w3.drewN zz) := ⟨_, Lib.hid rfl⟩
          have hD : Below w3.heap.size w3 w4 := by rw [HW4.out]; exact below_drewN (Below.refl _ _) zz
          rw [← HW4.out]
          have HQF := Lib.hid (HQ3.out.next hD)
          have HTF := Lib.hid (below_next HT3.out hD rfl)
          clear hD HW4 HIN
          rw [HRE.out] at HQF
          obtain ⟨A9, c9, ts9, hB9, hO9, hR9, -⟩ := HQF.out
          have HD9 : Below w4.heap.size w4 (World.drew w4) := (Below.refl _ _).drew
          have hO8 := own_next hO9 HD9
          have hR8 := hR9.next HD9
          have T8 := below_next HTF.out HD9 rfl
          have cS7 := hB9.cell 7
          have cS8 := hB9.cell 8
          simp at cS7 cS8
          have HFIN := Lib.hid (And.intro hO8 (And.intro hR8 T8))
          clear hO8 hR8 T8 hO9 hR9 HD9
          go_wp2_with fail
          go_still (by kernel_rfl)
          show Exit.then _ _ Exit.normal _ (World.drew w4)
          go_wp2_with fail
          go_ret2
          exact ⟨A9, c9, ts9, by rw [show decide ((R.1 : Int) ≤ 5000) = decide (R.1 ≤ 5000) from decide_eq_decide.2 (by omega)]; rfl, HFIN.out⟩
        · rw [hij] at HIN
          have HRE : Hid (srch k x.2 y.2 most (k + 1) z (0, []) = R) := by show _ = _; rw [← HR.out]; unfold find; rw [HFI.out, hij]; rfl
          have HQ3 := Lib.hid hQ3
          have HT3 := Lib.hid T3
          have HO5 := Lib.hid ho5
          clear hij HFI ho5 hQ3 T3
          go_wp2_with fail
          refine HIN.out.mono ?_
          rintro e w5 ⟨rfl, zz, rfl⟩
          obtain ⟨w4, HW4⟩ : ∃ x, Hid (x = w3.drewN zz) := ⟨_, Lib.hid rfl⟩
          have hD : Below w3.heap.size w3 w4 := by rw [HW4.out]; exact below_drewN (Below.refl _ _) zz
          rw [← HW4.out]
          have T4 := below_next HT3.out hD rfl
          have HIH := Lib.hid (walk_any x y (w0.heap.size + 1) B1 B2 m1 d1 m2 d2 w HRD.out.1 HRD.out.2 HH.out hn hn' hn8 hx4 (Nat.le_refl _) HLS hmost (k + 1) g5 c5 z _ 0 [] w4 T4 (HQ3.out.next hD) (own_mono (own_next HO5.out hD) (Nat.zero_le _)) HPZ.out hoz (by omega) hm)
          rw [HRE.out] at HIH
          have HT4 := Lib.hid T4
          clear hD HW4 HIN T4 HQ3 HT3 HO5
          go_wp2_with fail
          refine HIH.out.mono ?_
          rintro e w6 ⟨rfl, b6, hQ6, hC6, -⟩
          have HQF := Lib.hid hQ6
          have HTF : Hid (Below w.heap.size w w6) := hC6.low HT4.out HLB.out
          clear hQ6 hC6 HIH
          obtain ⟨A9, c9, ts9, hB9, hO9, hR9, -⟩ := HQF.out
          have HD9 : Below w6.heap.size w6 (World.drew w6) := (Below.refl _ _).drew
          have hO8 := own_next hO9 HD9
          have hR8 := hR9.next HD9
          have T8 := below_next HTF.out HD9 rfl
          have cS7 := hB9.cell 7
          have cS8 := hB9.cell 8
          simp at cS7 cS8
          have HFIN := Lib.hid (And.intro hO8 (And.intro hR8 T8))
          clear hO8 hR8 T8 hO9 hR9 HD9
          go_wp2_with fail
          go_still (by kernel_rfl)
          show Exit.then _ _ Exit.normal _ (World.drew w6)
          go_wp2_with fail
          go_ret2
          exact ⟨A9, c9, ts9, by rw [show decide ((R.1 : Int) ≤ 5000) = decide (R.1 ≤ 5000) from decide_eq_decide.2 (by omega)]; rfl, HFIN.out⟩
theorem l7Auts_any (cs : List Value) (x : AlgebraM) (w : World) (h : shAlgebra.rd w cs x) (hx : SmallP x) :
    Calls Try.prog 47 #[.agg cs.toArray] w (RdSB w (lhL (auS x)) (lhB (auS x))) := by
  obtain ⟨n, hn⟩ : ∃ n : Nat, x.1 = (n : Int) := ⟨x.1.toNat, by have h1 := hx.1; omega⟩
  have hnn : x.1.toNat = n := by omega
  have H := alk_of hx hx rfl rfl
  rw [hnn] at H
  have HAS : Hid (auS x = find n x.2 x.2 301) := by show _ = _; unfold auS; rw [hnn]
  rw [HAS.out]
  have hn8 : n ≤ 8 := by have h1 := hx.2.1; omega
  obtain ⟨B, m, d, rfl, qs, qo⟩ := rdAlgebra h
  have hrd := h
  rw [hn] at hrd ⊢
  obtain ⟨w0, hw0, T0, hsz0, BP⟩ := boxes1 w #[.int .i64 (n : Int), .slice B m d] 26
  have HW0 := Lib.hid hw0
  have hrd0 := shAlgebra.stab hrd T0.block
  have HF := Lib.hid (l7Find_any (most := 301) x x B B m d m d w0 hrd0 hrd0 H hn hn hn8 hx.2.2.1 (by decide) (by decide))
  have HLE : Hid ((find n x.2 x.2 301).2.length ≤ 301) := (find_le (by decide)).2
  obtain ⟨S, HS⟩ : ∃ s, Hid (find n x.2 x.2 301 = s) := ⟨_, Lib.hid rfl⟩
  rw [HS.out] at HF HLE ⊢
  have cP0 := BP.cell 0
  have cP1 := BP.cell 1
  simp at cP0 cP1
  clear hw0 hsz0 h hrd hrd0 qs qo hx H hn HS
  go_enter Try.func47, Try.ntmps47
  go_upto_region 1 with fail
  rw [← HW0.out]
  go_wp2_with fail
  refine HF.out.mono ?_
  rintro e w6 ⟨A, c, ts, rfl, hO, hR, hb⟩
  have T6 := below_next T0 hb rfl
  have HRD := Lib.hid (rws_rd hO hR)
  have hl0 : S.2.length ≤ 301 := HLE.out
  clear HF hO hR cP0 cP1
  by_cases h1 : S.1 ≤ 5000
  · have HD1 : Hid (decide (S.1 ≤ 5000) = true) := decide_eq_true h1
    rw [HD1.out]
    by_cases h2 : S.2.length ≤ 300
    · have HB : Hid (lhB S = true) := by show _ = _; unfold lhB; rw [HD1.out, decide_eq_true h2]; rfl
      have HL : Hid (lhL S = S.2) := by show _ = _; unfold lhL; rw [if_pos HB.out]
      have h3 : ¬ (S.2.length : Int) > 300 := by omega
      clear h1 h2
      go_wp2_with fail
      go_ret2
      show RdSB w (lhL S) (lhB S) _ _
      rw [HB.out, HL.out]
      exact ⟨A, c, rfl, HRD.out, T6⟩
    · have HB : Hid (lhB S = false) := by show _ = _; unfold lhB; rw [decide_eq_false h2, Bool.and_false]
      have HL : Hid (lhL S = []) := by show _ = _; unfold lhL; rw [if_neg (by rw [HB.out]; decide)]
      have h3 : (S.2.length : Int) > 300 := by omega
      have own2 := ownE6 T6
      clear h1 h2
      go_wp2_with fail
      go_ret2
      show RdSB w (lhL S) (lhB S) _ _
      rw [HB.out, HL.out]
      exact ⟨_, _, rfl, rws_rd (ts := []) own2 (Rws.nil _), below_box' T6⟩
  · have HD1 : Hid (decide (S.1 ≤ 5000) = false) := decide_eq_false h1
    rw [HD1.out]
    have HB : Hid (lhB S = false) := by show _ = _; unfold lhB; rw [HD1.out]; rfl
    have HL : Hid (lhL S = []) := by show _ = _; unfold lhL; rw [if_neg (by rw [HB.out]; decide)]
    have own2 := ownE6 T6
    clear h1
    go_wp2_with fail
    go_ret2
    show RdSB w (lhL S) (lhB S) _ _
    rw [HB.out, HL.out]
    exact ⟨_, _, rfl, rws_rd (ts := []) own2 (Rws.nil _), below_box' T6⟩
theorem specAu_any (cs : List Value) (x : AlgebraM) (w : World) (h : shAlgebra.rd w cs x) (hx : SmallP x) :
    Calls Try.prog 16 #[.agg cs.toArray] w (RdSB w (lhL (auS x)) (lhB (auS x))) := by
  obtain ⟨B, m, d, rfl, qs, qo⟩ := rdAlgebra h
  obtain ⟨w0, hw0, T0, hsz0, BP⟩ := boxes1 w #[.int .i64 x.1, .slice B m d] 26
  have HW0 := Lib.hid hw0
  have hrd0 := shAlgebra.stab h T0.block
  have HI := Lib.hid (l2Good_any _ x w0 hrd0)
  have hal : algB x = true := alg_iff.2 ⟨hx.1, by have h1 := hx.2.1; omega, hx.2.2.1, hx.2.2.2⟩
  rw [hal] at HI
  have HL := Lib.hid fun (wz : World) (hz : Below w0.heap.size w0 wz) => l7Auts_any _ x wz (shAlgebra.stab hrd0 hz.block) hx
  obtain ⟨X, HX⟩ : ∃ s, Hid (lhL (auS x) = s) := ⟨_, Lib.hid rfl⟩
  obtain ⟨Y, HY⟩ : ∃ s, Hid (lhB (auS x) = s) := ⟨_, Lib.hid rfl⟩
  rw [HX.out, HY.out] at HL ⊢
  have cP0 := BP.cell 0
  have cP1 := BP.cell 1
  simp at cP0 cP1
  clear hw0 hsz0 h hrd0 qs qo hx
  go_enter Try.func16, Try.ntmps16
  go_upto_region 1 with fail
  rw [← HW0.out]
  go_wp2_with fail
  refine HI.out.mono ?_
  rintro e w1 ⟨rfl, hb1⟩
  have jP0 := keepc hb1 cP0
  have jP1 := keepc hb1 cP1
  clear cP0 cP1 HI
  go_wp2_with fail
  refine (HL.out _ hb1).mono ?_
  rintro e w2 ⟨A, c, rfl, hr, hb2⟩
  have HR := Lib.hid hr
  have T2 := below_next (below_next T0 hb1 rfl) hb2 rfl
  clear hr
  go_wp2_with fail
  go_ret2
  exact ⟨A, c, rfl, HR.out, T2⟩
theorem boxes3' (w : World) (cp cz co : Array Value) (tp tq tr : TypeId) : ∃ w3, w3 = ((w.alloc (.cells cp tp)).alloc (.cells cz tq)).alloc (.cells co tr) ∧ Below w.heap.size w w3 ∧ w3.heap.size = w.heap.size + 3 ∧ Blk w3 w.heap.size tp cp ∧ Blk w3 (w.heap.size + 1) tq cz ∧ Blk w3 (w.heap.size + 1 + 1) tr co := by
  refine ⟨_, rfl, below_box3 w _ _ _, by simp, ((Blk.new w tp cp).alloc _).alloc _, ?_, ?_⟩
  · have := ((Blk.new (w.alloc (.cells cp tp)) tq cz).alloc (.cells co tr))
    rwa [show (w.alloc (.cells cp tp)).heap.size = w.heap.size + 1 by simp] at this
  · have := Blk.new ((w.alloc (.cells cp tp)).alloc (.cells cz tq)) tr co
    rwa [show ((w.alloc (.cells cp tp)).alloc (.cells cz tq)).heap.size = w.heap.size + 1 + 1 by simp] at this
theorem run_append_where {P : Program} (w : World) (base : Nat) (t ty e : TypeId) (i : TypeInfo) (z : Value) (size bytes : Nat) (ht : P.underlying t = some (.slice e)) (hi : P.info? e = some i) (hz : i.zero = some z)
    (hsize : i.size = size) (hby : i.bytes = bytes) (hzs : z.cells.size = size) (hsz : 0 < size)
    (v : Value) (n : Nat) (xs : List Value) (hown : w.ownsRow base e size v n xs)
    (a : Addr) (m c : Nat) (news : List Value) (hl : news.length = m * size) (hnews : ∀ j u, news[j]? = some u → w.cell? (a.add j) = some u) (h1 : ∀ u ∈ news, u.oneCell' = true)
    (h63 : n + m ≤ maxLen) (hbytes : (n + m) * bytes ≤ 140737488355328) (v' : Value) (w' : World) (hrun : (Builtin.append_ #[t, t] ty #[v, .slice (some a) m c]).run P w = .ok v' w') :
    v'.ownBlock = v.ownBlock ∨ v'.ownBlock = some w.heap.size := by
  subst hsize
  subst hby
  have hsmall : n + m ≤ 9223372036854775807 := by simp only [maxLen] at h63; omega
  rcases hown.2 with ⟨rfl, rfl⟩ | ⟨g, cap, cur, rfl, hbg, hg, hnc, hcm, hcs, htake⟩
  · by_cases hm : m = 0
    · subst hm
      have hn : news = [] := List.eq_nil_of_length_eq_zero (by simpa using hl)
      subst hn
      have : (Builtin.append_ #[t, t] ty #[.slice none 0 0, .slice (some a) 0 c]).run P w = .ok (.slice none 0 0) w := by
        simp [Builtin.append_, run_underlying ht, sizeOf, typeInfo, hi, Builtin.lenOf, Builtin.firstCells, loadCells, loadCellsFrom]
      rw [this] at hrun
      injection hrun with h1 h2
      subst h1
      exact .inl rfl
    · have hr := run_append_nil (P := P) w t ty e i z ht hi hz a m c news hl hnews (by omega) (by omega) (by have hb := hbytes; simp only [Nat.zero_add] at hb; omega)
      rw [hr] at hrun
      injection hrun with h1 h2
      subst h1
      exact .inr rfl
  · by_cases hroom : n + m ≤ cap
    · have hfit : n * i.size + news.length ≤ cur.size := by rw [hl, hcs, ← Nat.add_mul]; exact Nat.mul_le_mul_right _ hroom
      have hr := run_append_room (P := P) w t ty e i ht hi g n cap cur hg a m c news hl hnews h1 hroom hfit
      rw [hr] at hrun
      injection hrun with h1 h2
      subst h1
      exact .inl rfl
    · have holds : ∀ j u, xs[j]? = some u → w.cell? ((⟨g, 0, none⟩ : Addr).add j) = some u := hown.cells (g := g) rfl
      have hr := run_append_grow (P := P) w t ty e i z ht hi hz ⟨g, 0, none⟩ n cap xs hown.1 holds a m c news hl hnews (by omega) (by omega) (growslice_fits (by omega) hbytes)
      rw [hr] at hrun
      injection hrun with h1 h2
      subst h1
      exact .inr rfl
/-- append, told where the row lies. -/
theorem wp_append_at {P : Program} (w : World) {o : Oper} {a : Act} {K : Act → World → Prop} {Q : Exit → Act → World → Prop} (s x : Operand) (t : TypeId)
    (ho : o.op = .call { callee := .builtin .append, args := #[s, x], argTypes := #[t, t] })
    (base : Nat) (e : TypeId) (i : TypeInfo) (z : Value) (size bytes : Nat) (ht : P.underlying t = some (.slice e)) (hi : P.info? e = some i) (hz : i.zero = some z)
    (hsize : i.size = size) (hby : i.bytes = bytes) (hzs : z.cells.size = size) (hsz : 0 < size)
    (v : Value) (n : Nat) (xs : List Value) (hs : a.eval s = v) (hown : w.ownsRow base e size v n xs)
    (ad : Addr) (m c : Nat) (news : List Value) (hx : a.eval x = .slice (some ad) m c) (hl : news.length = m * size) (hnews : ∀ j u, news[j]? = some u → w.cell? (ad.add j) = some u) (h1 : ∀ u ∈ news, u.oneCell' = true)
    (h63 : n + m ≤ maxLen) (hbytes : (n + m) * bytes ≤ 140737488355328) (hbase : base ≤ w.heap.size)
    (h : ∀ v' w', w'.ownsRow base e size v' (n + m) (xs ++ news) → w.grownBy w' v.ownBlock → (v'.ownBlock = v.ownBlock ∨ v'.ownBlock = some w.heap.size) → K (a.put o.dst v') w') : o.wp P a w K Q := by
  obtain ⟨v', w', hr, h2, h3, h4⟩ := run_append_own (P := P) w base t o.type e i z size bytes ht hi hz hsize hby hzs hsz v n xs hown ad m c news hl hnews h1 h63 hbytes hbase
  have h5 := run_append_where (P := P) w base t o.type e i z size bytes ht hi hz hsize hby hzs hsz v n xs hown ad m c news hl hnews h1 h63 hbytes v' w' hr
  unfold Oper.wp execOp
  simp only [ho, resolve, invoke, builtin, Sem.run_bind, Sem.run_pure, Result.andThen_ok, List.map_toArray, List.map_cons, List.map_nil, hs, hx, hr]
  exact h v' w' h2 h3 h5
theorem step_app1at {P : Program} (w0 : World) {ops : Array Oper} {o : Oper} {a : Act} {K : Act → World → Prop} {Q : Exit → Act → World → Prop} {E : Prop} (hgd : o.guard = none) (s x : Operand) (t e : TypeId)
    (ho : o.op = .call { callee := .builtin .append, args := #[s, x], argTypes := #[t, t] }) (z : Value) (bytes : Nat)
    (ht : P.underlying t = some (.slice e)) (hi : (P.info? e).map (fun i => (i.zero, i.size, i.bytes)) = some (some z, 1, bytes)) (hzs : z.cells.size = 1) (hbb : bytes ≤ 64)
    (base n c : Nat) (A : Option Addr) (xs : List Value) (hs : a.eval s = .slice A n c) (hown : w0.ownsRow base e 1 (.slice A n c) n xs) (u : Value) (h1 : u.oneCell' = true) (hx : a.eval x = .slice (some ⟨w0.heap.size, 0, none⟩) 1 1)
    (hn : n ≤ 1099511627776) (hbase : base ≤ w0.heap.size)
    (hK : ∀ A' c' w', w'.ownsRow base e 1 (.slice A' (n + 1) c') (n + 1) (xs ++ [u]) → w0.grownBy w' (Value.slice A n c).ownBlock → Below base w0 w' → ((Value.slice A' (n + 1) c').ownBlock = (Value.slice A n c).ownBlock ∨ (Value.slice A' (n + 1) c').ownBlock = some (w0.heap.size + 1)) → K (a.put o.dst (.slice A' (n + 1) c')) w') :
    if Region.wanted o (yielded ops a.tmps) = true then Oper.wp P o a (w0.alloc (.cells #[u] e)) K Q else E := by
  have hw : Region.wanted o (yielded ops a.tmps) = true := by simp [Region.wanted, hgd]
  rw [if_pos hw]
  obtain ⟨i, hi, hz, hsize, hby⟩ := info_parts hi
  have hbound : (n + 1) * bytes ≤ 140737488355328 := Nat.le_trans (Nat.mul_le_mul_left (n + 1) hbb) (by omega)
  refine wp_append_at (w0.alloc (.cells #[u] e)) s x t ho base e i z 1 bytes ht hi hz hsize hby hzs (by omega) (.slice A n c) n xs hs (hown.alloc _) ⟨w0.heap.size, 0, none⟩ 1 1 [u] hx rfl ?_ ?_ (by unfold maxLen; omega) hbound (by simp; omega) ?_
  · intro j v hj
    match j, hj with
    | 0, hj => simp at hj; subst hj; simp [Addr.add]
  · intro v hv; simp at hv; subst hv; exact h1
  · intro v' w' hown' hgrow hat
    obtain ⟨A', c', rfl⟩ := own_slice hown'
    have hg : w0.grownBy w' (Value.slice A n c).ownBlock :=
      ⟨hgrow.os, hgrow.tape, hgrow.output, Nat.le_trans (by simp) hgrow.size, fun k hk hne => (hgrow.block k (by simp; omega) hne).trans (Below.heap_alloc w0 _ k hk)⟩
    refine hK A' c' w' hown' hg ((Below.refl base w0).grown hg hbase (fun k hk => (hown.lt k hk).1)) ?_
    rcases hat with h | h
    · exact .inl h
    · exact .inr (by simpa using h)
def FhQ (lo gf g1 : Nat) (w : World) (L : List (List Int)) (bl : List Nat) : Prop :=
  ∃ v, Blk w gf 61 #[.func (.func 40) #[] #[]] ∧ Blk w g1 38 #[v] ∧ (L = [] → v = .slice none 0 0) ∧ (L ≠ [] → ∃ p n c, v = .slice (some p) n c) ∧ bl = [gf, g1]
theorem FhQ.lt {lo gf g1 : Nat} {w : World} {L : List (List Int)} {bl : List Nat} (h : FhQ lo gf g1 w L bl) : ∀ b ∈ bl, b < w.heap.size := by
  obtain ⟨v, h1, h2, -, -, rfl⟩ := h
  intro b hb
  rcases List.mem_cons.1 hb with rfl | hb
  · exact h1.lt
  · rw [List.mem_singleton] at hb
    subst hb
    exact h2.lt
theorem FhQ.stab {lo gf g1 : Nat} {w w' : World} {L : List (List Int)} {bl : List Nat} (h : FhQ lo gf g1 w L bl) (hs : ∀ b ∈ bl, w'.heap[b]? = w.heap[b]?) : FhQ lo gf g1 w' L bl := by
  obtain ⟨v, h1, h2, h3, h4, rfl⟩ := h
  exact ⟨v, (hs gf (by simp)).trans h1, (hs g1 (by simp)).trans h2, h3, h4, rfl⟩
theorem fhEnter (args : Array Value) (w : World) : (callFunc 70 args).run Try.prog w = .ok (.enter 70 args) w := rfl
theorem anyEnter (args : Array Value) (w : World) : (callFunc 40 args).run Try.prog w = .ok (.enter 40 args) w := rfl
theorem anyHom_any (v : Value) (w : World) : Calls Try.prog 40 #[v] w fun e w' => e = .returned (.bool true) ∧ w' = w := by
  go_enter Try.func40, Try.ntmps40
  go_wp2_with fail
  go_ret
  exact ⟨ret_bool rfl, rfl⟩
theorem fhClo_any (n lo gf g1 : Nat) (hn0 : 0 < n) (hn8 : n ≤ 8) (hne : gf ≠ g1) (w : World) (L : List (List Int)) (bl : List Nat) (N : Option Addr) (c : Nat) (p : List Int) (hd : L.length < 1) (hQ : FhQ lo gf g1 w L bl) (hR : RdL RI w N n p) :
    Calls Try.prog 70 #[.slice N n c, .pointer (some ⟨gf, 0, none⟩), .pointer (some ⟨g1, 0, none⟩)] w fun e w' => e = .returned (.bool (decide (L.length + 1 < 1))) ∧ ∃ bl', FhQ lo gf g1 w' (L ++ [p]) bl' ∧ ChgB bl w w' ∧ ∀ b ∈ bl', b ∈ bl ∨ w.heap.size ≤ b := by
  obtain ⟨v, h1, h2, -, -, hbl⟩ := hQ
  have HBL := Lib.hid hbl
  have H1 := Lib.hid h1
  have H2 := Lib.hid h2
  have cf := h1.c0
  have hen := anyEnter
  have HD : Hid (decide (L.length + 1 < 1) = false) := decide_eq_false (by omega)
  rw [HD.out]
  clear hbl h1 h2 hd
  go_enter Try.func70, Try.ntmps70
  go_wp2_with fail
  refine (anyHom_any _ _).mono ?_
  rintro e w' ⟨rfl, rfl⟩
  go_wp2_with fail
  refine (clone_any _ _ _ p _ hR (by omega)).mono ?_
  rintro e w4 ⟨A4, c4, rfl, ho4, hb4⟩
  obtain ⟨g4, rfl, -, -⟩ := own_some ho4 (by omega)
  have B1 := H1.out.next hb4
  have B2 := H2.out.next hb4
  have c2 := B2.cell 0
  have f2 := B2.frozen 0
  simp at c2
  have HF : Hid (FhQ lo gf g1 (w4.setCell ⟨g1, 0, none⟩ (.slice (some ⟨g4, 0, none⟩) n c4)) (L ++ [p]) [gf, g1] ∧ ChgB bl w' (w4.setCell ⟨g1, 0, none⟩ (.slice (some ⟨g4, 0, none⟩) n c4))) := by
    have b2 := B2.set_ 0 (.slice (some ⟨g4, 0, none⟩) n c4)
    refine ⟨⟨.slice (some ⟨g4, 0, none⟩) n c4, B1.far (p := ⟨g1, 0, none⟩) hne _, by simpa using b2, fun h => by simp at h, fun _ => ⟨_, _, _, rfl⟩, rfl⟩, ?_⟩
    rw [HBL.out]
    exact (ChgB.ofBelow hb4).trans (ChgB.set (p := ⟨g1, 0, none⟩) (by simp) _)
  clear B1 B2 ho4 hb4
  go_wp2_with fail
  go_ret
  exact ⟨ret_bool rfl, [gf, g1], HF.out.1, HF.out.2, fun b hb => .inl (by rw [HBL.out]; exact hb)⟩
theorem fh_ok (n lo gf g1 : Nat) (hn0 : 0 < n) (hn8 : n ≤ 8) (hne : gf ≠ g1) (hf : lo ≤ gf) (hg : lo ≤ g1) : FndOk n 1 70 #[.pointer (some ⟨gf, 0, none⟩), .pointer (some ⟨g1, 0, none⟩)] lo (FhQ lo gf g1) :=
  ⟨fhEnter, fun h1 _ h3 => h1.stab h3, fun h1 => h1.lt, fun {w d bl} h1 b hb => by
    obtain ⟨_, _, _, _, _, rfl⟩ := h1
    rcases List.mem_cons.1 hb with rfl | hb
    · exact hf
    · rw [List.mem_singleton] at hb; subst hb; exact hg, fun w d bl A c p hd h1 h2 _ => fhClo_any n lo gf g1 hn0 hn8 hne w d bl A c p hd h1 h2⟩
theorem firstHom_any (x y : AlgebraM) (n : Nat) (B1 B2 : Option Addr) (m1 d1 m2 d2 : Nat) (w : World) (h : shAlgebra.rd w [.int .i64 (n : Int), .slice B1 m1 d1] x) (h' : shAlgebra.rd w [.int .i64 (n : Int), .slice B2 m2 d2] y) (H : AlkP n x.2 y.2) (hn : x.1 = (n : Int)) (hn' : y.1 = (n : Int)) (hn8 : n ≤ 8) (hx4 : x.2.length ≤ 4) :
    Calls Try.prog 39 #[.agg #[.int .i64 (n : Int), .slice B1 m1 d1], .agg #[.int .i64 (n : Int), .slice B2 m2 d2], .bool true, .func (.func 40) #[] #[]] w fun e w' => ∃ v, e = .returned (.tuple #[v, .bool (decide ((find n x.2 y.2 1).1 ≤ 5000))]) ∧ ((find n x.2 y.2 1).2 = [] → v = .slice none 0 0) ∧ ((find n x.2 y.2 1).2 ≠ [] → ∃ p n c, v = .slice (some p) n c) ∧ Below w.heap.size w w' := by
  have hn0 := H.pos
  obtain ⟨w0, hw0, T0, hsz0, BP, BQ, Bfn⟩ := boxes3' w #[.int .i64 (n : Int), .slice B1 m1 d1] #[.int .i64 (n : Int), .slice B2 m2 d2] #[.func (.func 40) #[] #[]] 26 26 61
  have HW0 := Lib.hid hw0
  obtain ⟨w5, HW5, T05, BL, hz5⟩ := al w0 #[.slice none 0 0] 38
  have T5 := below_next T0 T05 rfl
  have Bfn5 := Bfn.next T05
  have hQ5 : FhQ w.heap.size (w.heap.size + 1 + 1) w0.heap.size w5 [] [w.heap.size + 1 + 1, w0.heap.size] := ⟨_, Bfn5, BL, fun _ => rfl, fun h => absurd rfl h, rfl⟩
  have HF := fh_ok n w.heap.size (w.heap.size + 1 + 1) w0.heap.size hn0 hn8 (by omega) (by omega) (by omega)
  have HS := Lib.hid (searchHoms_any HF (by decide) x y B1 B2 m1 d1 m2 d2 w w5 _ h h' H hn hn' hn8 hx4 (Nat.le_refl _) T5 hQ5)
  have HLOW := Lib.hid (HF.low hQ5)
  obtain ⟨S, HSS⟩ : ∃ S, Hid (find n x.2 y.2 1 = S) := ⟨_, Lib.hid rfl⟩
  rw [HSS.out] at HS ⊢
  have kP0 := (BP.next T05).cell 0
  have kP1 := (BP.next T05).cell 1
  have kQ0 := (BQ.next T05).cell 0
  have kQ1 := (BQ.next T05).cell 1
  simp at kP0 kP1 kQ0 kQ1
  have HT := Lib.hid T5
  obtain ⟨bo, HBO⟩ : ∃ z, Hid (decide (S.1 ≤ 5000) = z) := ⟨_, Lib.hid rfl⟩
  rw [HBO.out] at HS ⊢
  clear hw0 hsz0 BP BQ Bfn Bfn5 BL hQ5 HF h h' H hn hn' hx4 T05 T5 hz5
  go_enter Try.func39, Try.ntmps39
  go_upto_region 1 with fail
  rw [← HW0.out]
  go_upto_region 2 with fail
  rw [← HW5.out]
  go_wp2_with fail
  refine HS.out.mono ?_
  rintro e w6 ⟨bl', rfl, hQ6, hC6, -⟩
  have T6 := hC6.low HT.out HLOW.out
  obtain ⟨v, -, g2, g3, g4, -⟩ := hQ6
  have cL := g2.c0
  have HG := Lib.hid (And.intro g3 g4)
  clear g2 g3 g4 hC6 kP0 kP1 kQ0 kQ1 HS
  go_wp2_with fail
  go_ret2
  exact ⟨v, rfl, HG.out.1, HG.out.2, T6⟩
theorem typeOf_any (cs : List Value) (x : AlgebraM) (w : World) (h : shAlgebra.rd w cs x) (hn : x.2.length ≤ 1048576) :
    Calls Try.prog 37 #[.agg cs.toArray] w (fun e w' => ∃ A c, e = .returned (.slice A x.2.length c) ∧ RdL RI w' A x.2.length (tyL x.2) ∧ Below w.heap.size w w') := by
  obtain ⟨B, m, d, rfl, qs, qo⟩ := rdAlgebra h
  obtain rfl : x.2.length = m := qo.len
  have HTR := Lib.hid (tyL_R qo)
  have hle := qo.le
  obtain ⟨w0, hw0, T0, hsz0, BP⟩ := boxes1 w #[.int .i64 x.1, .slice B x.2.length d] 26
  have hown0 := lit_below T0
  have T1 := below_next T0 (below_box w0 (.cells #[] 3)) rfl
  obtain ⟨w1, hw1⟩ : ∃ wb, wb = w0.alloc (.cells #[] 3) := ⟨_, rfl⟩
  rw [← hw1] at hown0 T1
  rw [hsz0] at hown0
  have HW : Hid (w1 = (w.alloc (.cells #[.int .i64 x.1, .slice B x.2.length d] 26)).alloc (.cells #[] 3)) := by show _ = _; rw [hw1, hw0]
  clear hw0 hw1 T0 hsz0 BP
  go_enter Try.func37, Try.ntmps37
  go_wp2_with fail
  rw [← HW.out]
  go_loopw [3, 5, 10] (fun v _ i wr => ∃ (k : Nat) (A : Option Addr) (c : Nat), k ≤ x.2.length ∧ i = .int .i64 k ∧ v = .slice A k c ∧ wr.ownsRow w.heap.size 3 1 (.slice A k c) k (ints ((tyL x.2).take k)) ∧ Below w.heap.size w wr) (fun _ _ i _ => x.2.length - (intOf i).toNat)
  case atStart => exact ⟨0, _, _, Nat.zero_le _, rfl, rfl, hown0, T1⟩
  case round =>
    clear hown0 T1
    obtain ⟨k, A, c, hk, rfl, rfl, hown, hTw⟩ := hrel
    have q' := qo.next hTw
    by_cases hlt : k < x.2.length
    · obtain ⟨b, o, vs, u, rfl, -, hc, hr, -, hxu⟩ := q'.at hlt
      obtain ⟨B', m', d', rfl, qa, qt⟩ := rdOp hr
      have cc0 : wr.cell? ⟨b, o + k * 2, none⟩ = some (.int .i64 u.1) := hc 0 _ rfl
      have cc1 : wr.cell? ⟨b, o + k * 2 + 1, none⟩ = some (.slice B' m' d') := hc 1 _ rfl
      obtain ⟨wb, HWB⟩ : ∃ wb, Hid (wb = wr.alloc (.cells #[.int .i64 u.1, .slice B' m' d'] 72)) := ⟨_, rfl⟩
      have hb1 : Below wr.heap.size wr wb := by rw [HWB.out]; exact below_box _ _
      have BN : Blk wb wr.heap.size 72 #[.int .i64 u.1, .slice B' m' d'] := by rw [HWB.out]; exact Blk.new _ _ _
      have cN0 := BN.cell 0
      simp at cN0
      have hown1 := own_next hown hb1
      have hTw1 := below_next hTw hb1 rfl
      have hbase := hTw1.size
      have HS := Lib.hid (tyL_snoc hxu)
      clear hc hxu hb1
      have hk0 : (0 : Int) ≤ (k : Int) := by omega
      have hk1 : (k : Int) < (x.2.length : Int) := by omega
      go_upto_region 5 with fail
      rw [← HWB.out]
      go_wp2_with (at_builtin; refine app1 wb rfl _ _ 38 3 rfl (.int .i64 0) 8 Try.underlying38 info_int rfl (by decide) w.heap.size k c A (ints ((tyL x.2).take k)) rfl hown1 (.int .i64 u.1) rfl rfl (by omega) hbase ?_; intro A2 c2 w2 hown2 hg2 hb2)
      go_roundw
      case rel => exact ⟨k + 1, A2, c2, by omega, by go_num, rfl, by rw [HS.out, ints_snoc]; exact hown2, hTw1.trans hb2⟩
      case measure => simp [intOf]; omega
    · have hke : k = x.2.length := by omega
      have hlt' : ¬ (k : Int) < (x.2.length : Int) := by omega
      have HRR : Hid (RdL RI wr A x.2.length (tyL x.2)) := by
        show RdL _ _ _ _ _
        rw [hke, List.take_of_length_le (by rw [tyL_len]; exact Nat.le_refl _)] at hown
        exact rd_of_own (R := RI) hown (RI_ints HTR.out)
      have HK := Lib.hid hke
      clear hke
      go_wp2_with fail
      go_ret
      exact ⟨A, ⟨c, by rw [← HK.out]; rfl⟩, HRR.out, hTw⟩
end Go.Proofs.Ytbkgbckbbnflpaa
