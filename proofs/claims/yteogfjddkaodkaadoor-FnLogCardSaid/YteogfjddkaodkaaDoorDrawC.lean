
/- Walk: DrawCrashLog. -/
import Derived.Test.YteogfjddkaodkaaDoorDrawA
namespace Go.Proofs.YteogfjddkaodkaaDoor
open Go.RowKit

def DrawnC (w : World) (e : Ending) (w' : World) : Prop := ∃ (d p : ByteArray) (n k : Int) (b : Bool), d.size + p.size ≤ 900 ∧ 0 ≤ n ∧ n ≤ 8 ∧ -1 ≤ k ∧ k ≤ 2000 ∧ e = .returned (.tuple #[logV d p n, .int .i64 k, .bool b]) ∧ Below w.heap.size w w'

set_option maxRecDepth 20000 in
set_option maxHeartbeats 8000000 in
theorem drawCrash_any (A : Option Addr) (n c : Nat) (w : World) (h : CodeIn w A n) :
    Calls Tryd.prog 41 #[.slice A n c] w (DrawnC w) := by
  obtain ⟨w0, hw0, T0, hsz0, BX⟩ := boxL w ⟨#[]⟩ ⟨#[]⟩ 0
  have H0 : CurOk (w0.alloc (.cells #[.slice A n c, .int .i64 0, .int .u64 0] 75)) (w.heap.size + 1) 0 := CurOk.made (h.next T0) hsz0.symm
  obtain ⟨w1, hw1⟩ : ∃ w1, w1 = w0.alloc (.cells #[.slice A n c, .int .i64 0, .int .u64 0] 75) := ⟨_, rfl⟩
  have T1' : Below w0.heap.size w0 w1 := by rw [hw1]; exact below_box _ _
  have T1 := below_next T0 T1' rfl
  replace BX := BX.next T1'
  rw [← hw1] at H0
  have HW1 : Hid (w1 = (w.alloc (.cells #[.string ⟨#[]⟩, .string ⟨#[]⟩, .int .i64 0] 31)).alloc (.cells #[.slice A n c, .int .i64 0, .int .u64 0] 75)) := by show _ = _; rw [hw1, hw0]
  clear hw0 hw1 T1'
  go_enter Tryd.func41, Tryd.ntmps41
  go_wp2_with fail
  rw [← HW1.out]
  refine (anyLog_any (w.heap.size + 1) 0 _ H0 (by omega)).mono ?_
  rintro e w2 ⟨d, p, m, hdp, hm0, hm8, rfl, H2, g2⟩
  have T2 := below_grown T1 g2 (by omega) T1.size
  replace BX := BX.grown g2 (by simp)
  obtain ⟨w3, hw3, T3', hsz3, BL⟩ := boxL w2 d p m
  have T3 := below_next T2 T3' rfl
  have H3 := H2.next_ T3'
  replace BX := BX.next T3'
  have HW3 := Lib.hid hw3
  have hXL : w.heap.size ≠ w2.heap.size := by have := H2.lt; omega
  have hLg : w2.heap.size ≠ w.heap.size + 1 := by have := H2.lt; omega
  have cL1 := BL.cell 1
  simp at cL1
  rw [HW3.out] at cL1
  clear hw3
  go_wp2_with fail
  rw [← HW3.out]
  refine (pick_any (w.heap.size + 1) (0 + 108) ((p.size : Int) + 3) _ H3 (by omega) (by omega)).mono ?_
  rintro e w4 ⟨x, hx, rfl, H4, g4⟩
  have T4 := below_grown T3 g4 (by omega) T3.size
  replace BX := BX.grown g4 (by simp)
  replace BL := BL.grown g4 (by simp; omega)
  have hxp : x ≤ 1000 := by omega
  clear hx cL1
  have cL0 := BL.cell 0
  have cL1 := BL.cell 1
  have cL2 := BL.cell 2
  simp at cL0 cL1 cL2
  have H4' : CurOk w4.drew (w.heap.size + 1) (0 + 108 + 2) := H4.next_ (Below.drew (Below.refl _ _))
  have BL' : Blk w4.drew w2.heap.size 31 #[.string d, .string p, .int .i64 m] := BL.drew
  have BX' : Blk w4.drew w.heap.size 31 #[.string ⟨#[]⟩, .string ⟨#[]⟩, .int .i64 0] := BX.drew
  have T4' : Below w.heap.size w w4.drew := Below.drew T4
  go_upto_region 4 with fail
  go_cut [3, 4] (fun v3 v4 wx => ∃ b : Bool, v3 = .int .i64 ((x : Int) - 1) ∧ v4 = .bool b ∧ Blk wx w.heap.size 31 #[.string d, .string p, .int .i64 m] ∧ Below w.heap.size w wx)
  case first =>
    go_region_with (go_at_call 58; refine (one_any (w.heap.size + 1) _ 2 _ H4' (by omega) (by decide)).mono ?_; rintro e w5 ⟨b, rfl, H5, g5⟩; have BL5 := BL'.grown g5 (by simp; omega); have BX5 := BX'.grown g5 (by simp); have T5 := below_grown T4' g5 (by omega) T4'.size; have c50 := BL5.cell 0; have c51 := BL5.cell 1; have c52 := BL5.cell 2; have e50 := BX5.cell 0; have e51 := BX5.cell 1; have e52 := BX5.cell 2; have f50 := BX5.frozen 0; have f51 := BX5.frozen 1; have f52 := BX5.frozen 2; simp at c50 c51 c52 e50 e51 e52)
    all_goals
      go_wp2_with fail
      go_meet
      exact ⟨b, rfl, rfl, BX5.set3', ((T5.setCell (Nat.le_refl _) _).setCell (Nat.le_refl _) _).setCell (Nat.le_refl _) _⟩
  case rest =>
    obtain ⟨b, rfl, rfl, B6, T6⟩ := hcut
    go_wp2_with fail
    (try simp only [Exit.inBlock, Exit.then])
    refine bodyPost_ret (v := .tuple #[logV d p m, .int .i64 ((x : Int) - 1), .bool b]) (res_row_tmp2 rfl _ _ w.heap.size 31 #[.string d, .string p, .int .i64 m] (0, 0) _ _ _ (by simp) B6 Tryd.underlying31 rfl (by kernel_rfl) (by simp) (by simp)) rfl ?_
    exact ⟨d, p, m, (x : Int) - 1, b, hdp, hm0, hm8, by omega, by omega, rfl, T6⟩
end Go.Proofs.YteogfjddkaodkaaDoor
