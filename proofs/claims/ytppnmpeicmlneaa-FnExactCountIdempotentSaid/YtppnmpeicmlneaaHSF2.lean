
/- Walks: HaveSameForm, in the reference. -/
import Derived.Test.YtppnmpeicmlneaaHSF
namespace Go.Proofs.Ytppnmpeicmlneaa
open Go.RowKit

set_option maxRecDepth 20000 in
set_option maxHeartbeats 8000000 in
theorem specHS_any (cs ds : List Value) (x y : AlgebraM) (w : World) (h : shAlgebra.rd w cs x) (h' : shAlgebra.rd w ds y) :
    Calls Try.prog 42 #[.agg cs.toArray, .agg ds.toArray] w (Bl w (.tuple #[.bool (hsM x y), .bool (hsOk x y)])) := by
  have hrd := h
  have hrd' := h'
  obtain ⟨B, n, c, rfl, qs, qo⟩ := rdAlgebra h
  obtain ⟨D, m, d, rfl, qs', qo'⟩ := rdAlgebra h'
  obtain ⟨w0, hw0, T0, hsz0, BP, BQ⟩ := boxes2 w #[.int .i64 x.1, .slice B n c] #[.int .i64 y.1, .slice D m d] 41 41
  have HW0 := Lib.hid hw0
  have cP0 := BP.cell 0
  have cP1 := BP.cell 1
  simp at cP0 cP1
  rw [hw0] at cP0 cP1
  clear hw0 hsz0 h h' qo qo'
  obtain ⟨r1, hr1⟩ : ∃ r, smallB x = r := ⟨_, rfl⟩
  obtain ⟨r2, hr2⟩ : ∃ r, smallB y = r := ⟨_, rfl⟩
  have HM : Hid (hsM x y = ((r1 && r2) && eqC (canA x) (canA y))) := by show _ = _; unfold hsM; rw [hr1, hr2]
  have HO : Hid (hsOk x y = (r1 && r2)) := by show _ = _; unfold hsOk; rw [hr1, hr2]
  have HS1 := Lib.hid hr1
  have HS2 := Lib.hid hr2
  rw [HM.out, HO.out]
  clear hr1 hr2 HM HO
  rcases r1 with _ | _
  · go_enter Try.func42, Try.ntmps42
    go_wp2_with fail
    rw [← HW0.out]
    refine (l31Takes_any _ x _ (shAlgebra.stab hrd T0.block)).mono ?_
    rintro e w1 ⟨rfl, hb1⟩
    rw [HS1.out]
    have T1 := below_next T0 hb1 rfl
    go_wp2_with fail
    go_ret2
    exact ⟨rfl, T1⟩
  · rcases r2 with _ | _
    · go_enter Try.func42, Try.ntmps42
      go_wp2_with fail
      rw [← HW0.out]
      refine (l31Takes_any _ x _ (shAlgebra.stab hrd T0.block)).mono ?_
      rintro e w1 ⟨rfl, hb1⟩
      rw [HS1.out]
      have T1 := below_next T0 hb1 rfl
      have cQ0 := (BQ.next hb1).cell 0
      have cQ1 := (BQ.next hb1).cell 1
      simp at cQ0 cQ1
      go_wp2_with fail
      refine (l31Takes_any _ y _ (shAlgebra.stab hrd' T1.block)).mono ?_
      rintro e w2 ⟨rfl, hb2⟩
      rw [HS2.out]
      have T2 := below_next T1 hb2 rfl
      go_wp2_with fail
      go_ret2
      exact ⟨rfl, T2⟩
    · have hsx := small_iff.1 HS1.out
      have hsy := small_iff.1 HS2.out
      have HRX : Hid (InR (canA x).1) := small_R (canA_small hsx)
      have HRY : Hid (InR (canA y).1) := small_R (canA_small hsy)
      have HCX : Hid (∀ wz, Below w.heap.size w wz → Calls Try.prog 81 #[.agg #[.int .i64 x.1, .slice B n c]] wz (AlgE wz (canA x))) := fun wz hz => l31Form_any [.int .i64 x.1, .slice B n c] x wz (shAlgebra.stab hrd hz.block) hsx
      have HCY : Hid (∀ wz, Below w.heap.size w wz → Calls Try.prog 81 #[.agg #[.int .i64 y.1, .slice D m d]] wz (AlgE wz (canA y))) := fun wz hz => l31Form_any [.int .i64 y.1, .slice D m d] y wz (shAlgebra.stab hrd' hz.block) hsy
      have HSX := Lib.hid (canA_small hsx)
      have HSY := Lib.hid (canA_small hsy)
      clear hsx hsy
      go_enter Try.func42, Try.ntmps42
      go_wp2_with fail
      rw [← HW0.out]
      refine (l31Takes_any _ x _ (shAlgebra.stab hrd T0.block)).mono ?_
      rintro e w1 ⟨rfl, hb1⟩
      rw [HS1.out]
      have T1 := below_next T0 hb1 rfl
      replace BP := BP.next hb1
      replace BQ := BQ.next hb1
      clear cP0 cP1
      have cQ0 := BQ.cell 0
      have cQ1 := BQ.cell 1
      simp at cQ0 cQ1
      go_wp2_with fail
      refine (l31Takes_any _ y _ (shAlgebra.stab hrd' T1.block)).mono ?_
      rintro e w2 ⟨rfl, hb2⟩
      rw [HS2.out]
      have T2 := below_next T1 hb2 rfl
      replace BP := BP.next hb2
      replace BQ := BQ.next hb2
      clear cQ0 cQ1
      have cP0 := BP.cell 0
      have cP1 := BP.cell 1
      have cQ0 := BQ.cell 0
      have cQ1 := BQ.cell 1
      simp at cP0 cP1 cQ0 cQ1
      have HC1 : ∀ wz, Below w2.heap.size w2 wz → Calls Try.prog 81 #[.agg #[.int .i64 x.1, .slice B n c]] wz (AlgE wz (canA x)) := fun wz hz => HCX.out wz (below_next T2 hz rfl)
      have HC2 : ∀ wz, Below w2.heap.size w2 wz → Calls Try.prog 81 #[.agg #[.int .i64 y.1, .slice D m d]] wz (AlgE wz (canA y)) := fun wz hz => HCY.out wz (below_next T2 hz rfl)
      have Tk : Below w2.heap.size w2 w2 := Below.refl _ _
      go_upto_region 3 with fail
      go_cut [4, 5] (fun v4 v5 wx => v4 = .bool (eqC (canA x) (canA y)) ∧ v5 = .bool true ∧ Below w2.heap.size w2 wx)
      case first =>
        go_region_held3 (fun w' => w'.cell? ⟨w.heap.size, 0, none⟩ = some (.int .i64 x.1) ∧ w'.cell? ⟨w.heap.size, 1, none⟩ = some (.slice B n c) ∧ w'.cell? ⟨w.heap.size + 1, 0, none⟩ = some (.int .i64 y.1) ∧ w'.cell? ⟨w.heap.size + 1, 1, none⟩ = some (.slice D m d)) (first | go_keep | exact ⟨keepc Tk cP0, keepc Tk cP1, keepc Tk cQ0, keepc Tk cQ1⟩) (first
          | (go_at_call 81; (with_reducible refine (HC1 _ ?_).mono ?_); (first | exact Tk | exact Below.drew Tk); rintro e wn ⟨v1, css1, bls1, rfl, hP1, hbn⟩; have R1 := hP1.alg HRX.out; clear hP1; (try replace R2 := (shAlgebra.stab R2 (fun b hb => hbn.block b hb))); replace Tk := below_next (by first | exact Tk | exact Below.drew Tk) hbn rfl)
          | (go_at_call 81; (with_reducible refine (HC2 _ ?_).mono ?_); (first | exact Tk | exact Below.drew Tk); rintro e wn ⟨v2, css2, bls2, rfl, hP2, hbn⟩; have R2 := hP2.alg HRY.out; clear hP2; (try replace R1 := (shAlgebra.stab R1 (fun b hb => hbn.block b hb))); replace Tk := below_next (by first | exact Tk | exact Below.drew Tk) hbn rfl)
          | (go_at_call 80; refine (l31Same_any _ _ (canA x) (canA y) _ (by first | exact R1 | exact shAlgebra.stab R1 (fun _ _ => rfl)) (by first | exact R2 | exact shAlgebra.stab R2 (fun _ _ => rfl)) HSX.out HSY.out).mono ?_; rintro e wm ⟨rfl, hbm⟩; replace Tk := below_next (by first | exact Tk | exact Below.drew Tk) hbm rfl))
        all_goals
          go_wp2_with fail
          go_meet
          exact ⟨rfl, rfl, by first | exact Tk | exact Below.drew Tk⟩
      case rest =>
        obtain ⟨rfl, rfl, hbc⟩ := hcut
        have hT := below_next T2 hbc rfl
        go_wp2_with fail
        go_ret2
        exact ⟨by simp, hT⟩
end Go.Proofs.Ytppnmpeicmlneaa
