
/- Walks: l24Known. Printed by genkn24.py. -/
import Derived.Test.YtlncpabnlnipoaaProd24
namespace Go.Proofs.Ytlncpabnlnipoaa
open Go.RowKit

theorem kn_fin {w w0 w7 : World} {A : Option Addr} {n c lo : Nat} {F : List (List Int)} (hb0 : Below w.heap.size w w0) (hT : Below w.heap.size w0 w7) (hlo : w.heap.size < lo) (hn : n ≤ 9) (hM : OwM 27 3 (.int .i64) lo w7 (.slice A n c) n F) (hF : ∀ p ∈ F, p.length ≤ 9 ∧ ∀ x ∈ p, 0 ≤ x ∧ x ≤ 9) {cs : Array Value} (B : Blk w7 w.heap.size 26 cs) :
    KnD w (.returned (.agg #[.slice A n c])) (w7.setCell ⟨w.heap.size, 0, none⟩ (.slice A n c)) :=
  ⟨A, n, c, F, rfl, hn, (hM.far B (by decide) (by decide) 0 _).mono (by omega), hF, (hb0.trans hT).setCell (p := ⟨w.heap.size, 0, none⟩) (Nat.le_refl _) _⟩
set_option linter.unusedVariables false in
set_option maxRecDepth 20000 in
set_option maxHeartbeats 8000000 in
theorem l24Known_any (k : Nat) (w : World) : Calls Try.prog 44 #[.int .i64 k] w (KnD w) := by
  obtain ⟨w0, HW0⟩ : ∃ wb, Hid (wb = w.alloc (.cells #[.slice none 0 0] 26)) := ⟨_, rfl⟩
  have hb0 : Below w.heap.size w w0 := by rw [HW0.out]; exact below_box _ _
  have B0 : Blk w0 w.heap.size 26 #[.slice none 0 0] := by rw [HW0.out]; exact Blk.new _ _ _
  have HSZ : w0.heap.size = w.heap.size + 1 := by rw [HW0.out]; simp
  rcases (by omega : k = 0 ∨ k = 1 ∨ k = 2 ∨ k = 3 ∨ k = 4 ∨ k = 5 ∨ k = 6 ∨ k = 7 ∨ k = 8 ∨ k = 9 ∨ k = 10 ∨ 10 < k) with hk | hk | hk | hk | hk | hk | hk | hk | hk | hk | hk | hk
  · have hq0 : ((k : Int) == 0) = true := by simp; omega
    have hq1 : ((k : Int) == 1) = false := by simp; omega
    have hq2 : ((k : Int) == 2) = false := by simp; omega
    have hq3 : ((k : Int) == 3) = false := by simp; omega
    have hq4 : ((k : Int) == 4) = false := by simp; omega
    have hq5 : ((k : Int) == 5) = false := by simp; omega
    have hq6 : ((k : Int) == 6) = false := by simp; omega
    have hq7 : ((k : Int) == 7) = false := by simp; omega
    have hq8 : ((k : Int) == 8) = false := by simp; omega
    have hq9 : ((k : Int) == 9) = false := by simp; omega
    have hq10 : ((k : Int) == 10) = false := by simp; omega
    clear hk
    have hP1 : RdPr 1 (w0.alloc (.cells #[] 83)) (some ⟨w.heap.size + 1, 0, none⟩) 0 := by
      have h1 := OwPr.lit w0 1 [] 0 (by decide) (by omega) rfl
      rw [HSZ] at h1
      exact h1.rd (by omega)
    have HL := Lib.hid (l23From_any 1 0 0 _ _ hP1 (by omega))
    have hb1 := below_box w0 (.cells #[] 83)
    clear hP1
    go_enter Try.func44, Try.ntmps44
    go_wp2_with fail
    rw [← HW0.out]
    refine HL.out.mono ?_
    rintro e w7 ⟨A7, c7, F, rfl, hM, hF, hT⟩
    have B7 := (B0.next hb1).next hT
    have kR := B7.cell 0
    have fR := B7.frozen 0
    simp at kR
    have HFIN := Lib.hid (kn_fin hb0 ((below_next hb1 hT rfl).mono (by omega)) (by simp; omega) (by omega) hM (fun p hp => ⟨by have := (hF p hp).1; omega, fun x hx => by have := (hF p hp).2 x hx; omega⟩) B7)
    clear hM hF
    go_wp2
    (try simp only [Exit.inBlock, Exit.then])
    refine bodyPost_ret (v := .agg #[.slice A7 1 c7]) (results_cell_row rfl _ _ w.heap.size 26 #[.slice A7 1 c7] (0, 0) _ (by simp) (B7.set_ 0 _) Try.underlying26 rfl (by kernel_rfl)) rfl ?_
    exact HFIN.out

  · have hq0 : ((k : Int) == 0) = false := by simp; omega
    have hq1 : ((k : Int) == 1) = true := by simp; omega
    have hq2 : ((k : Int) == 2) = false := by simp; omega
    have hq3 : ((k : Int) == 3) = false := by simp; omega
    have hq4 : ((k : Int) == 4) = false := by simp; omega
    have hq5 : ((k : Int) == 5) = false := by simp; omega
    have hq6 : ((k : Int) == 6) = false := by simp; omega
    have hq7 : ((k : Int) == 7) = false := by simp; omega
    have hq8 : ((k : Int) == 8) = false := by simp; omega
    have hq9 : ((k : Int) == 9) = false := by simp; omega
    have hq10 : ((k : Int) == 10) = false := by simp; omega
    clear hk
    have hP1 : RdPr 2 (w0.alloc (.cells #[.int .i64 0, .int .i64 1] 83)) (some ⟨w.heap.size + 1, 0, none⟩) 1 := by
      have h1 := OwPr.lit w0 2 [0, 1] 1 (by decide) (by omega) rfl
      rw [HSZ] at h1
      exact h1.rd (by omega)
    have HL := Lib.hid (l23From_any 2 1 1 _ _ hP1 (by omega))
    have hb1 := below_box w0 (.cells #[.int .i64 0, .int .i64 1] 83)
    clear hP1
    go_enter Try.func44, Try.ntmps44
    go_wp2_with fail
    rw [← HW0.out]
    refine HL.out.mono ?_
    rintro e w7 ⟨A7, c7, F, rfl, hM, hF, hT⟩
    have B7 := (B0.next hb1).next hT
    have kR := B7.cell 0
    have fR := B7.frozen 0
    simp at kR
    have HFIN := Lib.hid (kn_fin hb0 ((below_next hb1 hT rfl).mono (by omega)) (by simp; omega) (by omega) hM (fun p hp => ⟨by have := (hF p hp).1; omega, fun x hx => by have := (hF p hp).2 x hx; omega⟩) B7)
    clear hM hF
    go_wp2
    (try simp only [Exit.inBlock, Exit.then])
    refine bodyPost_ret (v := .agg #[.slice A7 2 c7]) (results_cell_row rfl _ _ w.heap.size 26 #[.slice A7 2 c7] (0, 0) _ (by simp) (B7.set_ 0 _) Try.underlying26 rfl (by kernel_rfl)) rfl ?_
    exact HFIN.out

  · have hq0 : ((k : Int) == 0) = false := by simp; omega
    have hq1 : ((k : Int) == 1) = false := by simp; omega
    have hq2 : ((k : Int) == 2) = true := by simp; omega
    have hq3 : ((k : Int) == 3) = false := by simp; omega
    have hq4 : ((k : Int) == 4) = false := by simp; omega
    have hq5 : ((k : Int) == 5) = false := by simp; omega
    have hq6 : ((k : Int) == 6) = false := by simp; omega
    have hq7 : ((k : Int) == 7) = false := by simp; omega
    have hq8 : ((k : Int) == 8) = false := by simp; omega
    have hq9 : ((k : Int) == 9) = false := by simp; omega
    have hq10 : ((k : Int) == 10) = false := by simp; omega
    clear hk
    have hP1 : RdPr 4 (w0.alloc (.cells #[.int .i64 0, .int .i64 1, .int .i64 1, .int .i64 2, .int .i64 2, .int .i64 3] 83)) (some ⟨w.heap.size + 1, 0, none⟩) 3 := by
      have h1 := OwPr.lit w0 4 [0, 1, 1, 2, 2, 3] 3 (by decide) (by omega) rfl
      rw [HSZ] at h1
      exact h1.rd (by omega)
    have HL := Lib.hid (l23From_any 4 3 3 _ _ hP1 (by omega))
    have hb1 := below_box w0 (.cells #[.int .i64 0, .int .i64 1, .int .i64 1, .int .i64 2, .int .i64 2, .int .i64 3] 83)
    clear hP1
    go_enter Try.func44, Try.ntmps44
    go_wp2_with fail
    rw [← HW0.out]
    refine HL.out.mono ?_
    rintro e w7 ⟨A7, c7, F, rfl, hM, hF, hT⟩
    have B7 := (B0.next hb1).next hT
    have kR := B7.cell 0
    have fR := B7.frozen 0
    simp at kR
    have HFIN := Lib.hid (kn_fin hb0 ((below_next hb1 hT rfl).mono (by omega)) (by simp; omega) (by omega) hM (fun p hp => ⟨by have := (hF p hp).1; omega, fun x hx => by have := (hF p hp).2 x hx; omega⟩) B7)
    clear hM hF
    go_wp2
    (try simp only [Exit.inBlock, Exit.then])
    refine bodyPost_ret (v := .agg #[.slice A7 4 c7]) (results_cell_row rfl _ _ w.heap.size 26 #[.slice A7 4 c7] (0, 0) _ (by simp) (B7.set_ 0 _) Try.underlying26 rfl (by kernel_rfl)) rfl ?_
    exact HFIN.out

  · have hq0 : ((k : Int) == 0) = false := by simp; omega
    have hq1 : ((k : Int) == 1) = false := by simp; omega
    have hq2 : ((k : Int) == 2) = false := by simp; omega
    have hq3 : ((k : Int) == 3) = true := by simp; omega
    have hq4 : ((k : Int) == 4) = false := by simp; omega
    have hq5 : ((k : Int) == 5) = false := by simp; omega
    have hq6 : ((k : Int) == 6) = false := by simp; omega
    have hq7 : ((k : Int) == 7) = false := by simp; omega
    have hq8 : ((k : Int) == 8) = false := by simp; omega
    have hq9 : ((k : Int) == 9) = false := by simp; omega
    have hq10 : ((k : Int) == 10) = false := by simp; omega
    clear hk
    have hP1 : RdPr 4 (w0.alloc (.cells #[.int .i64 0, .int .i64 1, .int .i64 0, .int .i64 2, .int .i64 1, .int .i64 3, .int .i64 2, .int .i64 3] 83)) (some ⟨w.heap.size + 1, 0, none⟩) 4 := by
      have h1 := OwPr.lit w0 4 [0, 1, 0, 2, 1, 3, 2, 3] 4 (by decide) (by omega) rfl
      rw [HSZ] at h1
      exact h1.rd (by omega)
    have HL := Lib.hid (l23From_any 4 4 4 _ _ hP1 (by omega))
    have hb1 := below_box w0 (.cells #[.int .i64 0, .int .i64 1, .int .i64 0, .int .i64 2, .int .i64 1, .int .i64 3, .int .i64 2, .int .i64 3] 83)
    clear hP1
    go_enter Try.func44, Try.ntmps44
    go_wp2_with fail
    rw [← HW0.out]
    refine HL.out.mono ?_
    rintro e w7 ⟨A7, c7, F, rfl, hM, hF, hT⟩
    have B7 := (B0.next hb1).next hT
    have kR := B7.cell 0
    have fR := B7.frozen 0
    simp at kR
    have HFIN := Lib.hid (kn_fin hb0 ((below_next hb1 hT rfl).mono (by omega)) (by simp; omega) (by omega) hM (fun p hp => ⟨by have := (hF p hp).1; omega, fun x hx => by have := (hF p hp).2 x hx; omega⟩) B7)
    clear hM hF
    go_wp2
    (try simp only [Exit.inBlock, Exit.then])
    refine bodyPost_ret (v := .agg #[.slice A7 4 c7]) (results_cell_row rfl _ _ w.heap.size 26 #[.slice A7 4 c7] (0, 0) _ (by simp) (B7.set_ 0 _) Try.underlying26 rfl (by kernel_rfl)) rfl ?_
    exact HFIN.out

  · have hq0 : ((k : Int) == 0) = false := by simp; omega
    have hq1 : ((k : Int) == 1) = false := by simp; omega
    have hq2 : ((k : Int) == 2) = false := by simp; omega
    have hq3 : ((k : Int) == 3) = false := by simp; omega
    have hq4 : ((k : Int) == 4) = true := by simp; omega
    have hq5 : ((k : Int) == 5) = false := by simp; omega
    have hq6 : ((k : Int) == 6) = false := by simp; omega
    have hq7 : ((k : Int) == 7) = false := by simp; omega
    have hq8 : ((k : Int) == 8) = false := by simp; omega
    have hq9 : ((k : Int) == 9) = false := by simp; omega
    have hq10 : ((k : Int) == 10) = false := by simp; omega
    clear hk
    have hP1 : RdPr 5 (w0.alloc (.cells #[.int .i64 0, .int .i64 1, .int .i64 0, .int .i64 2, .int .i64 0, .int .i64 3, .int .i64 1, .int .i64 4, .int .i64 2, .int .i64 4, .int .i64 3, .int .i64 4] 83)) (some ⟨w.heap.size + 1, 0, none⟩) 6 := by
      have h1 := OwPr.lit w0 5 [0, 1, 0, 2, 0, 3, 1, 4, 2, 4, 3, 4] 6 (by decide) (by omega) rfl
      rw [HSZ] at h1
      exact h1.rd (by omega)
    have HL := Lib.hid (l23From_any 5 6 6 _ _ hP1 (by omega))
    have hb1 := below_box w0 (.cells #[.int .i64 0, .int .i64 1, .int .i64 0, .int .i64 2, .int .i64 0, .int .i64 3, .int .i64 1, .int .i64 4, .int .i64 2, .int .i64 4, .int .i64 3, .int .i64 4] 83)
    clear hP1
    go_enter Try.func44, Try.ntmps44
    go_wp2_with fail
    rw [← HW0.out]
    refine HL.out.mono ?_
    rintro e w7 ⟨A7, c7, F, rfl, hM, hF, hT⟩
    have B7 := (B0.next hb1).next hT
    have kR := B7.cell 0
    have fR := B7.frozen 0
    simp at kR
    have HFIN := Lib.hid (kn_fin hb0 ((below_next hb1 hT rfl).mono (by omega)) (by simp; omega) (by omega) hM (fun p hp => ⟨by have := (hF p hp).1; omega, fun x hx => by have := (hF p hp).2 x hx; omega⟩) B7)
    clear hM hF
    go_wp2
    (try simp only [Exit.inBlock, Exit.then])
    refine bodyPost_ret (v := .agg #[.slice A7 5 c7]) (results_cell_row rfl _ _ w.heap.size 26 #[.slice A7 5 c7] (0, 0) _ (by simp) (B7.set_ 0 _) Try.underlying26 rfl (by kernel_rfl)) rfl ?_
    exact HFIN.out

  · have hq0 : ((k : Int) == 0) = false := by simp; omega
    have hq1 : ((k : Int) == 1) = false := by simp; omega
    have hq2 : ((k : Int) == 2) = false := by simp; omega
    have hq3 : ((k : Int) == 3) = false := by simp; omega
    have hq4 : ((k : Int) == 4) = false := by simp; omega
    have hq5 : ((k : Int) == 5) = true := by simp; omega
    have hq6 : ((k : Int) == 6) = false := by simp; omega
    have hq7 : ((k : Int) == 7) = false := by simp; omega
    have hq8 : ((k : Int) == 8) = false := by simp; omega
    have hq9 : ((k : Int) == 9) = false := by simp; omega
    have hq10 : ((k : Int) == 10) = false := by simp; omega
    clear hk
    have hP1 : RdPr 5 (w0.alloc (.cells #[.int .i64 0, .int .i64 1, .int .i64 1, .int .i64 2, .int .i64 0, .int .i64 3, .int .i64 2, .int .i64 4, .int .i64 3, .int .i64 4] 83)) (some ⟨w.heap.size + 1, 0, none⟩) 5 := by
      have h1 := OwPr.lit w0 5 [0, 1, 1, 2, 0, 3, 2, 4, 3, 4] 5 (by decide) (by omega) rfl
      rw [HSZ] at h1
      exact h1.rd (by omega)
    have HL := Lib.hid (l23From_any 5 5 5 _ _ hP1 (by omega))
    have hb1 := below_box w0 (.cells #[.int .i64 0, .int .i64 1, .int .i64 1, .int .i64 2, .int .i64 0, .int .i64 3, .int .i64 2, .int .i64 4, .int .i64 3, .int .i64 4] 83)
    clear hP1
    go_enter Try.func44, Try.ntmps44
    go_wp2_with fail
    rw [← HW0.out]
    refine HL.out.mono ?_
    rintro e w7 ⟨A7, c7, F, rfl, hM, hF, hT⟩
    have B7 := (B0.next hb1).next hT
    have kR := B7.cell 0
    have fR := B7.frozen 0
    simp at kR
    have HFIN := Lib.hid (kn_fin hb0 ((below_next hb1 hT rfl).mono (by omega)) (by simp; omega) (by omega) hM (fun p hp => ⟨by have := (hF p hp).1; omega, fun x hx => by have := (hF p hp).2 x hx; omega⟩) B7)
    clear hM hF
    go_wp2
    (try simp only [Exit.inBlock, Exit.then])
    refine bodyPost_ret (v := .agg #[.slice A7 5 c7]) (results_cell_row rfl _ _ w.heap.size 26 #[.slice A7 5 c7] (0, 0) _ (by simp) (B7.set_ 0 _) Try.underlying26 rfl (by kernel_rfl)) rfl ?_
    exact HFIN.out

  · have hq0 : ((k : Int) == 0) = false := by simp; omega
    have hq1 : ((k : Int) == 1) = false := by simp; omega
    have hq2 : ((k : Int) == 2) = false := by simp; omega
    have hq3 : ((k : Int) == 3) = false := by simp; omega
    have hq4 : ((k : Int) == 4) = false := by simp; omega
    have hq5 : ((k : Int) == 5) = false := by simp; omega
    have hq6 : ((k : Int) == 6) = true := by simp; omega
    have hq7 : ((k : Int) == 7) = false := by simp; omega
    have hq8 : ((k : Int) == 8) = false := by simp; omega
    have hq9 : ((k : Int) == 9) = false := by simp; omega
    have hq10 : ((k : Int) == 10) = false := by simp; omega
    clear hk
    have hP1 : RdPr 8 (w0.alloc (.cells #[.int .i64 0, .int .i64 1, .int .i64 0, .int .i64 2, .int .i64 0, .int .i64 3, .int .i64 1, .int .i64 4, .int .i64 1, .int .i64 5, .int .i64 2, .int .i64 4, .int .i64 2, .int .i64 6, .int .i64 3, .int .i64 5, .int .i64 3, .int .i64 6, .int .i64 4, .int .i64 7, .int .i64 5, .int .i64 7, .int .i64 6, .int .i64 7] 83)) (some ⟨w.heap.size + 1, 0, none⟩) 12 := by
      have h1 := OwPr.lit w0 8 [0, 1, 0, 2, 0, 3, 1, 4, 1, 5, 2, 4, 2, 6, 3, 5, 3, 6, 4, 7, 5, 7, 6, 7] 12 (by decide) (by omega) rfl
      rw [HSZ] at h1
      exact h1.rd (by omega)
    have HL := Lib.hid (l23From_any 8 12 12 _ _ hP1 (by omega))
    have hb1 := below_box w0 (.cells #[.int .i64 0, .int .i64 1, .int .i64 0, .int .i64 2, .int .i64 0, .int .i64 3, .int .i64 1, .int .i64 4, .int .i64 1, .int .i64 5, .int .i64 2, .int .i64 4, .int .i64 2, .int .i64 6, .int .i64 3, .int .i64 5, .int .i64 3, .int .i64 6, .int .i64 4, .int .i64 7, .int .i64 5, .int .i64 7, .int .i64 6, .int .i64 7] 83)
    clear hP1
    go_enter Try.func44, Try.ntmps44
    go_wp2_with fail
    rw [← HW0.out]
    refine HL.out.mono ?_
    rintro e w7 ⟨A7, c7, F, rfl, hM, hF, hT⟩
    have B7 := (B0.next hb1).next hT
    have kR := B7.cell 0
    have fR := B7.frozen 0
    simp at kR
    have HFIN := Lib.hid (kn_fin hb0 ((below_next hb1 hT rfl).mono (by omega)) (by simp; omega) (by omega) hM (fun p hp => ⟨by have := (hF p hp).1; omega, fun x hx => by have := (hF p hp).2 x hx; omega⟩) B7)
    clear hM hF
    go_wp2
    (try simp only [Exit.inBlock, Exit.then])
    refine bodyPost_ret (v := .agg #[.slice A7 8 c7]) (results_cell_row rfl _ _ w.heap.size 26 #[.slice A7 8 c7] (0, 0) _ (by simp) (B7.set_ 0 _) Try.underlying26 rfl (by kernel_rfl)) rfl ?_
    exact HFIN.out

  · have hq0 : ((k : Int) == 0) = false := by simp; omega
    have hq1 : ((k : Int) == 1) = false := by simp; omega
    have hq2 : ((k : Int) == 2) = false := by simp; omega
    have hq3 : ((k : Int) == 3) = false := by simp; omega
    have hq4 : ((k : Int) == 4) = false := by simp; omega
    have hq5 : ((k : Int) == 5) = false := by simp; omega
    have hq6 : ((k : Int) == 6) = false := by simp; omega
    have hq7 : ((k : Int) == 7) = true := by simp; omega
    have hq8 : ((k : Int) == 8) = false := by simp; omega
    have hq9 : ((k : Int) == 9) = false := by simp; omega
    have hq10 : ((k : Int) == 10) = false := by simp; omega
    clear hk
    have hP1 : RdPr 6 (w0.alloc (.cells #[.int .i64 0, .int .i64 1, .int .i64 0, .int .i64 2, .int .i64 1, .int .i64 3, .int .i64 2, .int .i64 3, .int .i64 2, .int .i64 4, .int .i64 3, .int .i64 5, .int .i64 4, .int .i64 5] 83)) (some ⟨w.heap.size + 1, 0, none⟩) 7 := by
      have h1 := OwPr.lit w0 6 [0, 1, 0, 2, 1, 3, 2, 3, 2, 4, 3, 5, 4, 5] 7 (by decide) (by omega) rfl
      rw [HSZ] at h1
      exact h1.rd (by omega)
    have HL := Lib.hid (l23From_any 6 7 7 _ _ hP1 (by omega))
    have hb1 := below_box w0 (.cells #[.int .i64 0, .int .i64 1, .int .i64 0, .int .i64 2, .int .i64 1, .int .i64 3, .int .i64 2, .int .i64 3, .int .i64 2, .int .i64 4, .int .i64 3, .int .i64 5, .int .i64 4, .int .i64 5] 83)
    clear hP1
    go_enter Try.func44, Try.ntmps44
    go_wp2_with fail
    rw [← HW0.out]
    refine HL.out.mono ?_
    rintro e w7 ⟨A7, c7, F, rfl, hM, hF, hT⟩
    have B7 := (B0.next hb1).next hT
    have kR := B7.cell 0
    have fR := B7.frozen 0
    simp at kR
    have HFIN := Lib.hid (kn_fin hb0 ((below_next hb1 hT rfl).mono (by omega)) (by simp; omega) (by omega) hM (fun p hp => ⟨by have := (hF p hp).1; omega, fun x hx => by have := (hF p hp).2 x hx; omega⟩) B7)
    clear hM hF
    go_wp2
    (try simp only [Exit.inBlock, Exit.then])
    refine bodyPost_ret (v := .agg #[.slice A7 6 c7]) (results_cell_row rfl _ _ w.heap.size 26 #[.slice A7 6 c7] (0, 0) _ (by simp) (B7.set_ 0 _) Try.underlying26 rfl (by kernel_rfl)) rfl ?_
    exact HFIN.out

  · have hq0 : ((k : Int) == 0) = false := by simp; omega
    have hq1 : ((k : Int) == 1) = false := by simp; omega
    have hq2 : ((k : Int) == 2) = false := by simp; omega
    have hq3 : ((k : Int) == 3) = false := by simp; omega
    have hq4 : ((k : Int) == 4) = false := by simp; omega
    have hq5 : ((k : Int) == 5) = false := by simp; omega
    have hq6 : ((k : Int) == 6) = false := by simp; omega
    have hq7 : ((k : Int) == 7) = false := by simp; omega
    have hq8 : ((k : Int) == 8) = true := by simp; omega
    have hq9 : ((k : Int) == 9) = false := by simp; omega
    have hq10 : ((k : Int) == 10) = false := by simp; omega
    clear hk
    have hP1 : RdPr 6 (w0.alloc (.cells #[.int .i64 0, .int .i64 1, .int .i64 0, .int .i64 2, .int .i64 1, .int .i64 3, .int .i64 2, .int .i64 4, .int .i64 3, .int .i64 5, .int .i64 4, .int .i64 5] 83)) (some ⟨w.heap.size + 1, 0, none⟩) 6 := by
      have h1 := OwPr.lit w0 6 [0, 1, 0, 2, 1, 3, 2, 4, 3, 5, 4, 5] 6 (by decide) (by omega) rfl
      rw [HSZ] at h1
      exact h1.rd (by omega)
    have HL := Lib.hid (l23From_any 6 6 6 _ _ hP1 (by omega))
    have hb1 := below_box w0 (.cells #[.int .i64 0, .int .i64 1, .int .i64 0, .int .i64 2, .int .i64 1, .int .i64 3, .int .i64 2, .int .i64 4, .int .i64 3, .int .i64 5, .int .i64 4, .int .i64 5] 83)
    clear hP1
    go_enter Try.func44, Try.ntmps44
    go_wp2_with fail
    rw [← HW0.out]
    refine HL.out.mono ?_
    rintro e w7 ⟨A7, c7, F, rfl, hM, hF, hT⟩
    have B7 := (B0.next hb1).next hT
    have kR := B7.cell 0
    have fR := B7.frozen 0
    simp at kR
    have HFIN := Lib.hid (kn_fin hb0 ((below_next hb1 hT rfl).mono (by omega)) (by simp; omega) (by omega) hM (fun p hp => ⟨by have := (hF p hp).1; omega, fun x hx => by have := (hF p hp).2 x hx; omega⟩) B7)
    clear hM hF
    go_wp2
    (try simp only [Exit.inBlock, Exit.then])
    refine bodyPost_ret (v := .agg #[.slice A7 6 c7]) (results_cell_row rfl _ _ w.heap.size 26 #[.slice A7 6 c7] (0, 0) _ (by simp) (B7.set_ 0 _) Try.underlying26 rfl (by kernel_rfl)) rfl ?_
    exact HFIN.out

  · have hq0 : ((k : Int) == 0) = false := by simp; omega
    have hq1 : ((k : Int) == 1) = false := by simp; omega
    have hq2 : ((k : Int) == 2) = false := by simp; omega
    have hq3 : ((k : Int) == 3) = false := by simp; omega
    have hq4 : ((k : Int) == 4) = false := by simp; omega
    have hq5 : ((k : Int) == 5) = false := by simp; omega
    have hq6 : ((k : Int) == 6) = false := by simp; omega
    have hq7 : ((k : Int) == 7) = false := by simp; omega
    have hq8 : ((k : Int) == 8) = false := by simp; omega
    have hq9 : ((k : Int) == 9) = true := by simp; omega
    have hq10 : ((k : Int) == 10) = false := by simp; omega
    clear hk
    have hP1 : RdPr 7 (w0.alloc (.cells #[.int .i64 0, .int .i64 1, .int .i64 0, .int .i64 2, .int .i64 0, .int .i64 3, .int .i64 1, .int .i64 4, .int .i64 2, .int .i64 4, .int .i64 3, .int .i64 5, .int .i64 2, .int .i64 5, .int .i64 4, .int .i64 6, .int .i64 5, .int .i64 6] 83)) (some ⟨w.heap.size + 1, 0, none⟩) 9 := by
      have h1 := OwPr.lit w0 7 [0, 1, 0, 2, 0, 3, 1, 4, 2, 4, 3, 5, 2, 5, 4, 6, 5, 6] 9 (by decide) (by omega) rfl
      rw [HSZ] at h1
      exact h1.rd (by omega)
    have HL := Lib.hid (l23From_any 7 9 9 _ _ hP1 (by omega))
    have hb1 := below_box w0 (.cells #[.int .i64 0, .int .i64 1, .int .i64 0, .int .i64 2, .int .i64 0, .int .i64 3, .int .i64 1, .int .i64 4, .int .i64 2, .int .i64 4, .int .i64 3, .int .i64 5, .int .i64 2, .int .i64 5, .int .i64 4, .int .i64 6, .int .i64 5, .int .i64 6] 83)
    clear hP1
    go_enter Try.func44, Try.ntmps44
    go_wp2_with fail
    rw [← HW0.out]
    refine HL.out.mono ?_
    rintro e w7 ⟨A7, c7, F, rfl, hM, hF, hT⟩
    have B7 := (B0.next hb1).next hT
    have kR := B7.cell 0
    have fR := B7.frozen 0
    simp at kR
    have HFIN := Lib.hid (kn_fin hb0 ((below_next hb1 hT rfl).mono (by omega)) (by simp; omega) (by omega) hM (fun p hp => ⟨by have := (hF p hp).1; omega, fun x hx => by have := (hF p hp).2 x hx; omega⟩) B7)
    clear hM hF
    go_wp2
    (try simp only [Exit.inBlock, Exit.then])
    refine bodyPost_ret (v := .agg #[.slice A7 7 c7]) (results_cell_row rfl _ _ w.heap.size 26 #[.slice A7 7 c7] (0, 0) _ (by simp) (B7.set_ 0 _) Try.underlying26 rfl (by kernel_rfl)) rfl ?_
    exact HFIN.out

  · have hq0 : ((k : Int) == 0) = false := by simp; omega
    have hq1 : ((k : Int) == 1) = false := by simp; omega
    have hq2 : ((k : Int) == 2) = false := by simp; omega
    have hq3 : ((k : Int) == 3) = false := by simp; omega
    have hq4 : ((k : Int) == 4) = false := by simp; omega
    have hq5 : ((k : Int) == 5) = false := by simp; omega
    have hq6 : ((k : Int) == 6) = false := by simp; omega
    have hq7 : ((k : Int) == 7) = false := by simp; omega
    have hq8 : ((k : Int) == 8) = false := by simp; omega
    have hq9 : ((k : Int) == 9) = false := by simp; omega
    have hq10 : ((k : Int) == 10) = true := by simp; omega
    clear hk
    have hP1 : RdPr 3 (w0.alloc (.cells #[.int .i64 0, .int .i64 1, .int .i64 1, .int .i64 2] 83)) (some ⟨w.heap.size + 1, 0, none⟩) 2 := by
      have h1 := OwPr.lit w0 3 [0, 1, 1, 2] 2 (by decide) (by omega) rfl
      rw [HSZ] at h1
      exact h1.rd (by omega)
    have HL := Lib.hid (l23From_any 3 2 2 _ _ hP1 (by omega))
    have hb1 := below_box w0 (.cells #[.int .i64 0, .int .i64 1, .int .i64 1, .int .i64 2] 83)
    clear hP1
    go_enter Try.func44, Try.ntmps44
    go_wp2_with fail
    rw [← HW0.out]
    refine HL.out.mono ?_
    rintro e w7 ⟨A7, c7, F, rfl, hM, hF, hT⟩
    have hT7 := below_next hb1 hT rfl
    have HF := Lib.hid hF
    have hP2 : RdPr 3 (w7.alloc (.cells #[.int .i64 0, .int .i64 1, .int .i64 1, .int .i64 2] 83)) (some ⟨w7.heap.size, 0, none⟩) 2 := (OwPr.lit w7 3 [0, 1, 1, 2] 2 (by decide) (by omega) rfl).rd (by omega)
    have HL2 := Lib.hid (l23From_any 3 2 2 _ _ hP2 (by omega))
    have hb2 := below_box w7 (.cells #[.int .i64 0, .int .i64 1, .int .i64 1, .int .i64 2] 83)
    have hz7 := hT7.size
    clear hP2 hF HL
    go_wp2_with fail
    refine HL2.out.mono ?_
    rintro e w8 ⟨A8, c8, G, rfl, hM8, hG, hT8⟩
    have hT78 := below_next hb2 hT8 rfl
    have hM78 := hM.next hT78
    have hr7 := hM78.rd (R := RI) fun p hp x hx => by have := (HF.out p hp).2 x hx; exact ⟨rfl, by omega, by omega⟩
    have hr8 := hM8.rd (R := RI) fun p hp x hx => by have := (hG p hp).2 x hx; exact ⟨rfl, by omega, by omega⟩
    have HPR := Lib.hid (l24Product_any A7 A8 c7 c8 F G w8 hr7 hr8 (fun p hp => ⟨(HF.out p hp).1.2, (HF.out p hp).2⟩) (fun p hp => ⟨(hG p hp).1.2, (hG p hp).2⟩))
    have hz78 := hT78.size
    clear hr7 hr8 hM hM8 hM78 hG HL2
    go_wp2_with fail
    refine HPR.out.mono ?_
    rintro e w9 ⟨A9, n9, c9, H, rfl, hn9, hM9, hH, hT9⟩
    have B9 := ((B0.next hT7).next hT78).next hT9
    have kR := B9.cell 0
    have fR := B9.frozen 0
    simp at kR
    have HFIN := Lib.hid (kn_fin hb0 ((below_next (below_next hT7 hT78 rfl) hT9 rfl).mono (by omega)) (by omega) hn9 hM9 hH B9)
    clear hM9 hH
    go_wp2
    (try simp only [Exit.inBlock, Exit.then])
    refine bodyPost_ret (v := .agg #[.slice A9 n9 c9]) (results_cell_row rfl _ _ w.heap.size 26 #[.slice A9 n9 c9] (0, 0) _ (by simp) (B9.set_ 0 _) Try.underlying26 rfl (by kernel_rfl)) rfl ?_
    exact HFIN.out

  · have hq0 : ((k : Int) == 0) = false := by simp; omega
    have hq1 : ((k : Int) == 1) = false := by simp; omega
    have hq2 : ((k : Int) == 2) = false := by simp; omega
    have hq3 : ((k : Int) == 3) = false := by simp; omega
    have hq4 : ((k : Int) == 4) = false := by simp; omega
    have hq5 : ((k : Int) == 5) = false := by simp; omega
    have hq6 : ((k : Int) == 6) = false := by simp; omega
    have hq7 : ((k : Int) == 7) = false := by simp; omega
    have hq8 : ((k : Int) == 8) = false := by simp; omega
    have hq9 : ((k : Int) == 9) = false := by simp; omega
    have hq10 : ((k : Int) == 10) = false := by simp; omega
    clear hk
    have hP1 : RdPr 3 (w0.alloc (.cells #[.int .i64 0, .int .i64 1, .int .i64 1, .int .i64 2] 83)) (some ⟨w.heap.size + 1, 0, none⟩) 2 := by
      have h1 := OwPr.lit w0 3 [0, 1, 1, 2] 2 (by decide) (by omega) rfl
      rw [HSZ] at h1
      exact h1.rd (by omega)
    have HL := Lib.hid (l23From_any 3 2 2 _ _ hP1 (by omega))
    have hb1 := below_box w0 (.cells #[.int .i64 0, .int .i64 1, .int .i64 1, .int .i64 2] 83)
    clear hP1
    go_enter Try.func44, Try.ntmps44
    go_wp2_with fail
    rw [← HW0.out]
    refine HL.out.mono ?_
    rintro e w7 ⟨A7, c7, F, rfl, hM, hF, hT⟩
    have B7 := (B0.next hb1).next hT
    have kR := B7.cell 0
    have fR := B7.frozen 0
    simp at kR
    have HFIN := Lib.hid (kn_fin hb0 ((below_next hb1 hT rfl).mono (by omega)) (by simp; omega) (by omega) hM (fun p hp => ⟨by have := (hF p hp).1; omega, fun x hx => by have := (hF p hp).2 x hx; omega⟩) B7)
    clear hM hF
    go_wp2
    (try simp only [Exit.inBlock, Exit.then])
    refine bodyPost_ret (v := .agg #[.slice A7 3 c7]) (results_cell_row rfl _ _ w.heap.size 26 #[.slice A7 3 c7] (0, 0) _ (by simp) (B7.set_ 0 _) Try.underlying26 rfl (by kernel_rfl)) rfl ?_
    exact HFIN.out

end Go.Proofs.Ytlncpabnlnipoaa
