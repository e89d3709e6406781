
/- Walks: l31Same; HaveSameForm. -/
import Derived.Test.YtppnmpeicmlneaaSame2
namespace Go.Proofs.Ytppnmpeicmlneaa
open Go.RowKit

set_option maxRecDepth 20000 in
set_option maxHeartbeats 8000000 in
theorem l31Same_any (cs ds : List Value) (x y : AlgebraM) (w : World) (h : shAlgebra.rd w cs x) (h' : shAlgebra.rd w ds y) (hx : SmallP x) (hy : SmallP y) :
    Calls Try.prog 80 #[.agg cs.toArray, .agg ds.toArray] w (Bl w (.bool (eqC x y))) := by
  have hrd := h
  have hrd' := h'
  obtain ⟨B, n, c, rfl, qs, qo⟩ := rdAlgebra h
  obtain ⟨D, m, d, rfl, qs', qo'⟩ := rdAlgebra h'
  obtain ⟨w0, hw0, T0, hsz0, BP, BQ⟩ := boxes2 w #[.int .i64 x.1, .slice B n c] #[.int .i64 y.1, .slice D m d] 41 41
  have HW0 := Lib.hid hw0
  have cP0 := BP.cell 0
  have cP1 := BP.cell 1
  have cQ0 := BQ.cell 0
  have cQ1 := BQ.cell 1
  simp at cP0 cP1 cQ0 cQ1
  by_cases hs : x.1 = y.1
  rotate_left
  · have hbe : (x.1 == y.1) = false := by rw [beq_eq_false_iff_ne]; exact hs
    have HV : Hid (eqC x y = false) := by show _ = _; rw [eqC_no]; intro e; exact hs (by rw [e])
    rw [HV.out]
    clear hw0 hsz0 h h' qo qo' hx hy
    go_enter Try.func80, Try.ntmps80
    go_upto_region 1 with fail
    rw [← HW0.out]
    go_quiet (fail)
    go_wp2_with fail
    go_ret
    exact ⟨rfl, by first | exact T0 | exact below_drewN T0 _⟩
  · have hbe : (x.1 == y.1) = true := by rw [beq_iff_eq]; exact hs
    have hlx := code_small hx
    have hly := code_small hy
    have hx1 : x.2.length ≤ 1048576 := by have := hx.2.2.1; omega
    have hy1 : y.2.length ≤ 1048576 := by have := hy.2.2.1; omega
    have HRX := Lib.hid (code_R hx)
    have HRY := Lib.hid (code_R hy)
    obtain ⟨b1, HB1⟩ : ∃ b, Hid (eqL (tyL x.2) (tyL y.2) = b) := ⟨_, rfl⟩
    obtain ⟨b2, HB2⟩ : ∃ b, Hid (eqL (codeL x.2) (codeL y.2) = b) := ⟨_, rfl⟩
    have HV : Hid ((b1 && b2) = eqC x y) := same_val hx hy hs HB1.out fun _ => HB2.out
    obtain ⟨V, HVV⟩ : ∃ V, Hid (V = (b1 && b2)) := ⟨_, rfl⟩
    rw [← HV.out, ← HVV.out]
    have HC0 : ∀ wz, Below w0.heap.size w0 wz → Calls Try.prog 112 #[.agg #[.int .i64 x.1, .slice B n c], .agg #[.int .i64 y.1, .slice D m d]] wz (Bl wz (.bool b1)) := fun wz hz => by
      have := l2Same_any [.int .i64 x.1, .slice B n c] [.int .i64 y.1, .slice D m d] x y wz (shAlgebra.stab (shAlgebra.stab hrd T0.block) hz.block) (shAlgebra.stab (shAlgebra.stab hrd' T0.block) hz.block) hx1 hy1
      rw [HB1.out] at this
      exact this
    have HC1 : ∀ wz, Below w0.heap.size w0 wz → Calls Try.prog 72 #[.agg #[.int .i64 x.1, .slice B n c]] wz (CodeE wz x.2) := fun wz hz =>
      l31Code_any [.int .i64 x.1, .slice B n c] x wz (shAlgebra.stab (shAlgebra.stab hrd T0.block) hz.block) (cnt_small hx)
    have HC2 : ∀ wz, Below w0.heap.size w0 wz → Calls Try.prog 72 #[.agg #[.int .i64 y.1, .slice D m d]] wz (CodeE wz y.2) := fun wz hz =>
      l31Code_any [.int .i64 y.1, .slice D m d] y wz (shAlgebra.stab (shAlgebra.stab hrd' T0.block) hz.block) (cnt_small hy)
    clear hw0 hsz0 h h' qo qo' hs hx hy
    rcases b1 with _ | _
    · go_enter Try.func80, Try.ntmps80
      go_upto_region 1 with fail
      rw [← HW0.out]
      have Tk : Below w0.heap.size w0 w0 := Below.refl _ _
      go_cut [4] (fun v4 wx => v4 = .bool V ∧ Below w0.heap.size w0 wx)
      case first =>
        go_region_with (go_at_call 112; (with_reducible refine (HC0 _ ?_).mono ?_); (first | exact Tk | exact Below.drew Tk); rintro e wn ⟨rfl, hbn⟩; have T9 := below_next (by first | exact Tk | exact Below.drew Tk) hbn rfl)
        all_goals
          go_wp2_with fail
          go_meet
          exact ⟨by rw [HVV.out]; rfl, by first | exact T9 | exact Below.drew T9⟩
      case rest =>
        obtain ⟨rfl, hbc⟩ := hcut
        have hT := below_next T0 hbc rfl
        go_wp2_with fail
        go_ret
        exact ⟨rfl, hT⟩
    · go_enter Try.func80, Try.ntmps80
      go_upto_region 1 with fail
      rw [← HW0.out]
      have Tk : Below w0.heap.size w0 w0 := Below.refl _ _
      go_cut [4] (fun v4 wx => v4 = .bool V ∧ Below w0.heap.size w0 wx)
      case first =>
        go_region_held3 (fun w' => w'.cell? ⟨w.heap.size, 0, none⟩ = some (.int .i64 x.1) ∧ w'.cell? ⟨w.heap.size, 1, none⟩ = some (.slice B n c) ∧ w'.cell? ⟨w.heap.size + 1, 0, none⟩ = some (.int .i64 y.1) ∧ w'.cell? ⟨w.heap.size + 1, 1, none⟩ = some (.slice D m d)) (first | go_keep | exact ⟨keepc Tk cP0, keepc Tk cP1, keepc Tk cQ0, keepc Tk cQ1⟩) (first
          | (go_at_call 112; (with_reducible refine (HC0 _ ?_).mono ?_); (first | exact Tk | exact Below.drew Tk); rintro e wn ⟨rfl, hbn⟩; replace Tk := below_next (by first | exact Tk | exact Below.drew Tk) hbn rfl)
          | (go_at_call 72; (with_reducible refine (HC1 _ ?_).mono ?_); (first | exact Tk | exact Below.drew Tk); rintro e wn ⟨A1, c1, rfl, ho1, hbn⟩; have R1 := rd_of_own (R := RI) ho1 (RI_ints HRX.out); clear ho1; (try replace R2 := (by first | exact R2.next stab_RI hbn | exact (R2.drew stab_RI).next stab_RI hbn)); replace Tk := below_next (by first | exact Tk | exact Below.drew Tk) hbn rfl)
          | (go_at_call 72; (with_reducible refine (HC2 _ ?_).mono ?_); (first | exact Tk | exact Below.drew Tk); rintro e wn ⟨A2, c2, rfl, ho2, hbn⟩; have R2 := rd_of_own (R := RI) ho2 (RI_ints HRY.out); clear ho2; (try replace R1 := (by first | exact R1.next stab_RI hbn | exact (R1.drew stab_RI).next stab_RI hbn)); replace Tk := below_next (by first | exact Tk | exact Below.drew Tk) hbn rfl)
          | (go_at_call 113; refine (l1Same_any _ _ _ _ _ _ _ _ _ (by first | exact R1 | exact R1.drew stab_RI) (by first | exact R2 | exact R2.drew stab_RI)).mono ?_; rintro e wm ⟨rfl, z, rfl⟩; rw [HB2.out]; replace Tk := below_drewN (by first | exact Tk | exact Below.drew Tk) z))
        all_goals
          go_wp2_with fail
          go_meet
          exact ⟨by rw [HVV.out]; rfl, by first | exact Tk | exact Below.drew Tk⟩
      case rest =>
        obtain ⟨rfl, hbc⟩ := hcut
        have hT := below_next T0 hbc rfl
        go_wp2_with fail
        go_ret
        exact ⟨rfl, hT⟩
end Go.Proofs.Ytppnmpeicmlneaa
