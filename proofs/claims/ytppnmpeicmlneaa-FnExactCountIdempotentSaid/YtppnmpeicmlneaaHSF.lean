
/- Walks: HaveSameForm. -/
import Derived.Test.YtppnmpeicmlneaaSame3
namespace Go.Proofs.Ytppnmpeicmlneaa
open Go.RowKit

noncomputable def hsM (x y : AlgebraM) : Bool := (smallB x && smallB y) && eqC (canA x) (canA y)
def hsOk (x y : AlgebraM) : Bool := smallB x && smallB y

set_option maxRecDepth 20000 in
set_option maxHeartbeats 8000000 in
theorem implHS_any (cs ds : List Value) (x y : AlgebraM) (w : World) (h : shAlgebra.rd w cs x) (h' : shAlgebra.rd w ds y) :
    Calls Try.prog 43 #[.agg cs.toArray, .agg ds.toArray] w (Bl w (.tuple #[.bool (hsM x y), .bool (hsOk x y)])) := by
  have hrd := h
  have hrd' := h'
  obtain ⟨B, n, c, rfl, qs, qo⟩ := rdAlgebra h
  obtain ⟨D, m, d, rfl, qs', qo'⟩ := rdAlgebra h'
  obtain ⟨w0, hw0, T0, hsz0, BP, BQ⟩ := boxes2 w #[.int .i64 x.1, .slice B n c] #[.int .i64 y.1, .slice D m d] 41 41
  have HW0 := Lib.hid hw0
  have cP0 := BP.cell 0
  have cP1 := BP.cell 1
  simp at cP0 cP1
  rw [hw0] at cP0 cP1
  clear hw0 hsz0 h h' qo qo'
  obtain ⟨r1, hr1⟩ : ∃ r, smallB x = r := ⟨_, rfl⟩
  obtain ⟨r2, hr2⟩ : ∃ r, smallB y = r := ⟨_, rfl⟩
  have HM : Hid (hsM x y = ((r1 && r2) && eqC (canA x) (canA y))) := by show _ = _; unfold hsM; rw [hr1, hr2]
  have HO : Hid (hsOk x y = (r1 && r2)) := by show _ = _; unfold hsOk; rw [hr1, hr2]
  have HS1 := Lib.hid hr1
  have HS2 := Lib.hid hr2
  rw [HM.out, HO.out]
  clear hr1 hr2 HM HO
  rcases r1 with _ | _
  · go_enter Try.func43, Try.ntmps43
    go_wp2_with fail
    rw [← HW0.out]
    refine (isNamed_any _ x _ (shAlgebra.stab hrd T0.block)).mono ?_
    rintro e w1 ⟨rfl, hb1⟩
    rw [HS1.out]
    have T1 := below_next T0 hb1 rfl
    go_wp2_with fail
    go_ret2
    exact ⟨rfl, T1⟩
  · rcases r2 with _ | _
    · go_enter Try.func43, Try.ntmps43
      go_wp2_with fail
      rw [← HW0.out]
      refine (isNamed_any _ x _ (shAlgebra.stab hrd T0.block)).mono ?_
      rintro e w1 ⟨rfl, hb1⟩
      rw [HS1.out]
      have T1 := below_next T0 hb1 rfl
      have cQ0 := (BQ.next hb1).cell 0
      have cQ1 := (BQ.next hb1).cell 1
      simp at cQ0 cQ1
      go_wp2_with fail
      refine (isNamed_any _ y _ (shAlgebra.stab hrd' T1.block)).mono ?_
      rintro e w2 ⟨rfl, hb2⟩
      rw [HS2.out]
      have T2 := below_next T1 hb2 rfl
      go_wp2_with fail
      go_ret2
      exact ⟨rfl, T2⟩
    · have hsx := small_iff.1 HS1.out
      have hsy := small_iff.1 HS2.out
      obtain ⟨nx, hnx⟩ : ∃ n : Nat, x.1 = (n : Int) := ⟨x.1.toNat, by have h1 := hsx.1; omega⟩
      obtain ⟨ny, hny⟩ : ∃ n : Nat, y.1 = (n : Int) := ⟨y.1.toNat, by have h1 := hsy.1; omega⟩
      have HCX : Hid (∀ wz, Below w.heap.size w wz → Calls Try.prog 93 #[.agg #[.int .i64 x.1, .slice B n c]] wz (CanE wz x nx)) := fun wz hz => canonical_any [.int .i64 x.1, .slice B n c] x nx wz (shAlgebra.stab hrd hz.block) hsx hnx
      have HCY : Hid (∀ wz, Below w.heap.size w wz → Calls Try.prog 93 #[.agg #[.int .i64 y.1, .slice D m d]] wz (CanE wz y ny)) := fun wz hz => canonical_any [.int .i64 y.1, .slice D m d] y ny wz (shAlgebra.stab hrd' hz.block) hsy hny
      have HRX : Hid (InR (nx : Int)) := by show InR _; rw [← hnx]; exact small_R hsx
      have HRY : Hid (InR (ny : Int)) := by show InR _; rw [← hny]; exact small_R hsy
      have HEX : Hid (((nx : Int), (canA x).2) = canA x) := by show _ = _; rw [← hnx]; rfl
      have HEY : Hid (((ny : Int), (canA y).2) = canA y) := by show _ = _; rw [← hny]; rfl
      clear hnx hny hsx hsy
      go_enter Try.func43, Try.ntmps43
      go_wp2_with fail
      rw [← HW0.out]
      refine (isNamed_any _ x _ (shAlgebra.stab hrd T0.block)).mono ?_
      rintro e w1 ⟨rfl, hb1⟩
      rw [HS1.out]
      have T1 := below_next T0 hb1 rfl
      replace BP := BP.next hb1
      replace BQ := BQ.next hb1
      clear cP0 cP1
      have cQ0 := BQ.cell 0
      have cQ1 := BQ.cell 1
      simp at cQ0 cQ1
      go_wp2_with fail
      refine (isNamed_any _ y _ (shAlgebra.stab hrd' T1.block)).mono ?_
      rintro e w2 ⟨rfl, hb2⟩
      rw [HS2.out]
      have T2 := below_next T1 hb2 rfl
      replace BP := BP.next hb2
      replace BQ := BQ.next hb2
      clear cQ0 cQ1
      have cP0 := BP.cell 0
      have cP1 := BP.cell 1
      simp at cP0 cP1
      go_wp2_with fail
      refine (HCX.out _ T2).mono ?_
      rintro e w3 ⟨vx, cssx, blsx, Afx, cfx, rfl, hPx, -, hb3⟩
      have T3 := below_next T2 hb3 rfl
      obtain ⟨VX, vcx, rfl⟩ := own_slice hPx.2.1
      obtain ⟨LX, HLX⟩ : ∃ L, Hid ((canA x).2.length = L) := ⟨_, rfl⟩
      rw [HLX.out] at hPx
      rw [HLX.out]
      replace BP := BP.next hb3
      replace BQ := BQ.next hb3
      obtain ⟨w4, hw4, T4', -, BX⟩ := boxes1 w3 #[.int .i64 (nx : Int), .slice VX LX vcx] 41
      have HW4 := Lib.hid hw4
      have T4 := below_next T3 T4' rfl
      replace BQ := BQ.next T4'
      have rdx : shAlgebra.rd w4 [.int .i64 (nx : Int), .slice VX LX vcx] (canA x) := by
        have := (hPx.next T4').alg HRX.out
        rw [HEX.out] at this
        exact this
      have cQ0 := BQ.cell 0
      have cQ1 := BQ.cell 1
      simp at cQ0 cQ1
      rw [hw4] at cQ0 cQ1
      clear hw4 cP0 cP1 hPx
      go_wp2_with fail
      rw [← HW4.out]
      refine (HCY.out _ T4).mono ?_
      rintro e w5 ⟨vy, cssy, blsy, Afy, cfy, rfl, hPy, -, hb5⟩
      have T5 := below_next T4 hb5 rfl
      obtain ⟨VY, vcy, rfl⟩ := own_slice hPy.2.1
      obtain ⟨LY, HLY⟩ : ∃ L, Hid ((canA y).2.length = L) := ⟨_, rfl⟩
      rw [HLY.out] at hPy
      rw [HLY.out]
      replace BX := BX.next hb5
      obtain ⟨w6, hw6, T6', -, BY⟩ := boxes1 w5 #[.int .i64 (ny : Int), .slice VY LY vcy] 41
      have HW6 := Lib.hid hw6
      have T6 := below_next T5 T6' rfl
      replace BX := BX.next T6'
      have rdy : shAlgebra.rd w6 [.int .i64 (ny : Int), .slice VY LY vcy] (canA y) := by
        have := (hPy.next T6').alg HRY.out
        rw [HEY.out] at this
        exact this
      have rdx6 := shAlgebra.stab (shAlgebra.stab rdx hb5.block) T6'.block
      have cX0 := BX.cell 0
      have cX1 := BX.cell 1
      have cY0 := BY.cell 0
      have cY1 := BY.cell 1
      simp at cX0 cX1 cY0 cY1
      rw [hw6] at cX0 cX1 cY0 cY1
      clear hw6 cQ0 cQ1 hPy rdx
      go_wp2_with fail
      rw [← HW6.out]
      refine (sameAlgebra_any _ _ _ _ _ rdx6 rdy).mono ?_
      rintro e w7 ⟨rfl, hb7⟩
      have T7 := below_next T6 hb7 rfl
      go_wp2_with fail
      go_ret2
      exact ⟨by simp, T7⟩
end Go.Proofs.Ytppnmpeicmlneaa
