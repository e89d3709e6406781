
/- Walks: CanonicalForm, in the reference. -/
import Derived.Test.YtppnmpeicmlneaaCForm
namespace Go.Proofs.Ytppnmpeicmlneaa
open Go.RowKit

set_option maxRecDepth 20000 in
set_option maxHeartbeats 4000000 in
theorem l31Form_any (cs : List Value) (x : AlgebraM) (w : World) (h : shAlgebra.rd w cs x) (hx : SmallP x) :
    Calls Try.prog 81 #[.agg cs.toArray] w (AlgE w (canA x)) := by
  have hrd := h
  obtain ⟨B, m, d, rfl, qs, qo⟩ := rdAlgebra h
  obtain ⟨n, hn⟩ : ∃ n : Nat, x.1 = (n : Int) := ⟨x.1.toNat, by have h1 := hx.1; omega⟩
  have HNN : Hid (x.1.toNat = n) := by show _ = _; omega
  rw [hn] at hrd qs ⊢
  have HX := Lib.hid hx
  have HN1 : Hid ((canA x).1 = (n : Int)) := hn
  have HPM := Lib.hid (canN_ok (x := x)).2
  obtain ⟨w0, hw0, T0, hsz0, BP, BR⟩ := boxes2 w #[.int .i64 (n : Int), .slice B m d] #[.int .i64 0, .slice none 0 0] 41 41
  have HW0 := Lib.hid hw0
  have cP0 := BP.cell 0
  have cP1 := BP.cell 1
  simp at cP0 cP1
  have HC1 : ∀ wz, Below w0.heap.size w0 wz → Calls Try.prog 92 #[.agg #[.int .i64 (n : Int), .slice B m d]] wz (fun e w' => ∃ A c, e = .returned (.slice A n c) ∧ RdL RI w' A n (canN x) ∧ Below wz.heap.size wz w') := fun wz hz => by
    have := l31First_any [.int .i64 (n : Int), .slice B m d] x wz (shAlgebra.stab (shAlgebra.stab hrd T0.block) hz.block) HX.out
    rw [HNN.out] at this
    exact this
  have HC2 : ∀ wz A c, Below w0.heap.size w0 wz → RdL RI wz A n (canN x) → Calls Try.prog 89 #[.agg #[.int .i64 (n : Int), .slice B m d], .slice A n c] wz (AlgE wz (ren x (canN x))) := fun wz A c hz hr =>
    l2Rename_any [.int .i64 (n : Int), .slice B m d] x A n c (canN x) wz (shAlgebra.stab (shAlgebra.stab hrd T0.block) hz.block) hr HX.out HPM.out
  clear hw0 hsz0 hx hn h
  go_enter Try.func81, Try.ntmps81
  go_upto_region 1 with fail
  rw [← HW0.out]
  have Tk : Below w0.heap.size w0 w0 := Below.refl _ _
  go_region_with (first
    | (go_at_call 92; (with_reducible refine (HC1 _ ?_).mono ?_); (first | exact Tk | exact Below.drew Tk); rintro e wn ⟨A1, c1, rfl, hR1, hbn⟩; have T1 := below_next (by first | exact Tk | exact Below.drew Tk) hbn rfl; have xP0 := (BP.next T1).cell 0; have xP1 := (BP.next T1).cell 1; simp at xP0 xP1)
    | (go_at_call 89; refine (HC2 _ _ _ (by first | exact T1 | exact Below.drew T1) (by first | exact hR1 | exact hR1.drew stab_RI)).mono ?_; rintro e wm ⟨v, css, bls, rfl, hP, hbm⟩; obtain ⟨VA, vc, rfl⟩ := own_slice hP.2.1; have T2 := below_next (by first | exact T1 | exact Below.drew T1) hbm rfl; have BR2 := BR.next T2; have yR0 := BR2.cell 0; have yR1 := BR2.cell 1; have yf0 := BR2.frozen 0; have yf1 := BR2.frozen 1; simp at yR0 yR1))
  all_goals
    have hlow : w.heap.size ≤ wn.heap.size := Nat.le_trans T0.size T1.size
    have hP3 := hP.mono hlow
    have e1 : (ren x (canN x)).1 = (n : Int) := HN1.out
    have hni := hP3.notin BR2 (by decide) (by decide)
    have hPF := (hP3.farB (k := 0) (u := .int .i64 (ren x (canN x)).1) hni).farB (k := 1) (u := .slice VA (ren x (canN x)).2.length vc) hni
    have hTF := ((below_next T0 T2 rfl).setCell (p := ⟨w.heap.size + 1, 0, none⟩) (by show w.heap.size ≤ w.heap.size + 1; omega) (.int .i64 (ren x (canN x)).1)).setCell (p := ⟨w.heap.size + 1, 1, none⟩) (by show w.heap.size ≤ w.heap.size + 1; omega) (.slice VA (ren x (canN x)).2.length vc)
    have BRR : Blk ((wm.setCell ⟨w.heap.size + 1, 0, none⟩ (.int .i64 (ren x (canN x)).1)).setCell ⟨w.heap.size + 1, 1, none⟩ (.slice VA (ren x (canN x)).2.length vc)) (w.heap.size + 1) 41 #[.int .i64 (ren x (canN x)).1, .slice VA (ren x (canN x)).2.length vc] := by simpa using ((BR2.set_ 0 (.int .i64 (ren x (canN x)).1)).set_ 1 (.slice VA (ren x (canN x)).2.length vc))
    go_wp2
    (try simp only [Exit.inBlock, Exit.then])
    refine bodyPost_ret (v := .agg #[.int .i64 (ren x (canN x)).1, .slice VA (ren x (canN x)).2.length vc]) (results_cell_row rfl _ _ (w.heap.size + 1) 41 #[.int .i64 (ren x (canN x)).1, .slice VA (ren x (canN x)).2.length vc] (0, 0) _ (by simp) BRR Try.underlying41 rfl (by kernel_rfl)) rfl ?_
    exact ⟨_, css, bls, rfl, hPF, hTF⟩

set_option maxRecDepth 20000 in
set_option maxHeartbeats 4000000 in
theorem specCF_any (cs : List Value) (x : AlgebraM) (w : World) (h : shAlgebra.rd w cs x) :
    Calls Try.prog 44 #[.agg cs.toArray] w (RdA shAlgebra w (cfM x) (smallB x)) := by
  have hrd := h
  obtain ⟨B, m, d, rfl, qs, qo⟩ := rdAlgebra h
  obtain ⟨w0, hw0, T0, hsz0, BP, BR⟩ := boxes2 w #[.int .i64 x.1, .slice B m d] #[.int .i64 0, .slice none 0 0] 41 41
  have HW0 := Lib.hid hw0
  have cP0 := BP.cell 0
  have cP1 := BP.cell 1
  simp at cP0 cP1
  rw [hw0] at cP0 cP1
  clear hw0 hsz0
  obtain ⟨r, hr⟩ : ∃ r, smallB x = r := ⟨_, rfl⟩
  have HM : Hid (cfM x = if r then canA x else (0, [])) := by show _ = _; unfold cfM; rw [hr]
  have HS := Lib.hid hr
  rw [hr]
  clear hr
  go_enter Try.func44, Try.ntmps44
  go_wp2_with fail
  rw [← HW0.out]
  refine (l31Takes_any _ x _ (shAlgebra.stab hrd T0.block)).mono ?_
  rintro e w1 ⟨rfl, hb1⟩
  rw [HS.out]
  have T1 := below_next T0 hb1 rfl
  have BR1 := BR.next hb1
  clear cP0 cP1
  have cP0 := (BP.next hb1).cell 0
  have cP1 := (BP.next hb1).cell 1
  have cR0 := BR1.cell 0
  have cR1 := BR1.cell 1
  have fR0 := BR1.frozen 0
  have fR1 := BR1.frozen 1
  simp at cP0 cP1 cR0 cR1
  rcases r with _ | _
  · have HM2 : Hid (cfM x = (0, [])) := HM.out
    have BRR : Blk ((w1.setCell ⟨w.heap.size + 1, 0, none⟩ (.int .i64 0)).setCell ⟨w.heap.size + 1, 1, none⟩ (.slice none 0 0)) (w.heap.size + 1) 41 #[.int .i64 0, .slice none 0 0] := by simpa using ((BR1.set_ 0 (.int .i64 0)).set_ 1 (.slice none 0 0))
    have hT := (T1.setCell (p := ⟨w.heap.size + 1, 0, none⟩) (by show w.heap.size ≤ w.heap.size + 1; omega) (.int .i64 0)).setCell (p := ⟨w.heap.size + 1, 1, none⟩) (by show w.heap.size ≤ w.heap.size + 1; omega) (.slice none 0 0)
    have HF := Lib.hid BRR
    have HT := Lib.hid hT
    clear BRR hT
    go_wp2_with fail
    (try simp only [Exit.inBlock, Exit.then])
    refine bodyPost_ret (v := .tuple #[.agg #[.int .i64 0, .slice none 0 0], .bool false]) (res_row_tmpC rfl _ _ (w.heap.size + 1) 41 #[.int .i64 0, .slice none 0 0] (0, 0) _ _ (by simp) HF.out Try.underlying41 rfl (by kernel_rfl) rfl) rfl ?_
    exact ⟨[.int .i64 0, .slice none 0 0], rfl, by rw [HM2.out]; exact shAlgebra.ord (nilAlg _), HT.out⟩
  · have hsm := small_iff.1 HS.out
    have HCAN := Lib.hid (l31Form_any [.int .i64 x.1, .slice B m d] x w1 (shAlgebra.stab hrd T1.block) hsm)
    have HM2 : Hid (cfM x = canA x) := HM.out
    have HSR : Hid (InR (canA x).1) := small_R (canA_small hsm)
    go_wp2_with fail
    refine HCAN.out.mono ?_
    rintro e w2 ⟨vb, css, bls, rfl, hP, hb2⟩
    have T2 := below_next T1 hb2 rfl
    obtain ⟨VA, vc, rfl⟩ := own_slice hP.2.1
    obtain ⟨LA, HLA⟩ : ∃ LA, Hid ((canA x).2.length = LA) := ⟨_, rfl⟩
    rw [HLA.out] at hP
    rw [HLA.out]
    have BR2 := BR1.next hb2
    have hP3 := hP.mono T1.size
    have hni : w.heap.size + 1 ∉ obl (.slice VA LA vc) ++ bls.flatten := hP3.notin BR2 (by decide) (by decide)
    have hPF := (hP3.farB (k := 0) (u := .int .i64 (canA x).1) hni).farB (k := 1) (u := .slice VA LA vc) hni
    have hTF := (T2.setCell (p := ⟨w.heap.size + 1, 0, none⟩) (by show w.heap.size ≤ w.heap.size + 1; omega) (.int .i64 (canA x).1)).setCell (p := ⟨w.heap.size + 1, 1, none⟩) (by show w.heap.size ≤ w.heap.size + 1; omega) (.slice VA LA vc)
    have BRR : Blk ((w2.setCell ⟨w.heap.size + 1, 0, none⟩ (.int .i64 (canA x).1)).setCell ⟨w.heap.size + 1, 1, none⟩ (.slice VA LA vc)) (w.heap.size + 1) 41 #[.int .i64 (canA x).1, .slice VA LA vc] := by simpa using ((BR2.set_ 0 (.int .i64 (canA x).1)).set_ 1 (.slice VA LA vc))
    have hRD : shAlgebra.rd ((w2.setCell ⟨w.heap.size + 1, 0, none⟩ (.int .i64 (canA x).1)).setCell ⟨w.heap.size + 1, 1, none⟩ (.slice VA LA vc)) [.int .i64 (canA x).1, .slice VA LA vc] (canA x) := hPF.alg HSR.out
    have HF1 := Lib.hid hRD
    have HF3 := Lib.hid hTF
    have HF4 := Lib.hid BRR
    have xR0 := BR2.cell 0
    have xR1 := BR2.cell 1
    have xf0 := BR2.frozen 0
    have xf1 := BR2.frozen 1
    simp at xR0 xR1
    clear hP hP3 hni hPF hTF BRR hRD cR0 cR1 fR0 fR1 cP0 cP1
    go_wp2_with fail
    (try simp only [Exit.inBlock, Exit.then])
    refine bodyPost_ret (v := .tuple #[.agg #[.int .i64 (canA x).1, .slice VA LA vc], .bool true]) (res_row_tmpC rfl _ _ (w.heap.size + 1) 41 #[.int .i64 (canA x).1, .slice VA LA vc] (0, 0) _ _ (by simp) HF4.out Try.underlying41 rfl (by kernel_rfl) rfl) rfl ?_
    exact ⟨[.int .i64 (canA x).1, .slice VA LA vc], rfl, by rw [HM2.out]; exact HF1.out, HF3.out⟩
end Go.Proofs.Ytppnmpeicmlneaa
