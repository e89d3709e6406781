
/- Walks: any drawn log; DrawCrashLog. -/
import Derived.Test.YteogfjddkaodkaaDoorDrawL
import Derived.Test.YteogfjddkaodkaaDoorSpoilt
import Derived.Test.YteogfjddkaodkaaDoorDrawE
namespace Go.Proofs.YteogfjddkaodkaaDoor
open Go.RowKit

def AnyDrawn (w : World) (g t : Nat) (e : Ending) (w' : World) : Prop := ∃ (d p : ByteArray) (n : Int), d.size + p.size ≤ 900 ∧ 0 ≤ n ∧ n ≤ 8 ∧ e = .returned (logV d p n) ∧ CurOk w' g t ∧ w.grownBy w' (some g)
theorem grown_below {w w1 w2 : World} {r : Option Nat} (h : w.grownBy w1 r) (hb : Below w1.heap.size w1 w2) : w.grownBy w2 r := grown_trans h ⟨hb.os, hb.tape, hb.output, hb.size, fun b hbb _ => hb.block b hbb⟩
theorem boxL (w : World) (d p : ByteArray) (n : Int) : ∃ w3, w3 = w.alloc (.cells #[.string d, .string p, .int .i64 n] 31) ∧ Below w.heap.size w w3 ∧ w3.heap.size = w.heap.size + 1 ∧ Blk w3 w.heap.size 31 #[.string d, .string p, .int .i64 n] := ⟨_, rfl, below_box _ _, by simp, Blk.new _ _ _⟩
theorem CurOk.setLog {w : World} {g t e i : Nat} {ty : TypeId} {d p : ByteArray} {n : Int} (h : CurOk w g t) (hB : Blk w e ty #[.string d, .string p, .int .i64 n]) (hne : e ≠ g) (v : Value) : CurOk (w.setCell ⟨e, i, none⟩ v) g t := h.setBlk hB (log_no8 d p n) hne v
/-- The end: the log is copied into the result's box. -/
theorem fin_log {w wk : World} {g t : Nat} {a b d p : ByteArray} {m n : Int} (BX : Blk wk w.heap.size 31 #[.string a, .string b, .int .i64 m]) (H : CurOk wk g t) (G : w.grownBy wk (some g)) (hg : w.heap.size ≠ g) :
    Blk (((wk.setCell ⟨w.heap.size, 0, none⟩ (.string d)).setCell ⟨w.heap.size, 1, none⟩ (.string p)).setCell ⟨w.heap.size, 2, none⟩ (.int .i64 n)) w.heap.size 31 #[.string d, .string p, .int .i64 n] ∧ CurOk (((wk.setCell ⟨w.heap.size, 0, none⟩ (.string d)).setCell ⟨w.heap.size, 1, none⟩ (.string p)).setCell ⟨w.heap.size, 2, none⟩ (.int .i64 n)) g t ∧ w.grownBy (((wk.setCell ⟨w.heap.size, 0, none⟩ (.string d)).setCell ⟨w.heap.size, 1, none⟩ (.string p)).setCell ⟨w.heap.size, 2, none⟩ (.int .i64 n)) (some g) :=
  set_log (d := d) (p := p) (n := n) BX H G (Nat.le_refl _) hg

set_option maxRecDepth 20000 in
set_option maxHeartbeats 8000000 in
theorem anyLog_any (g t : Nat) (w : World) (h : CurOk w g t) (ht : t ≤ 999980000) :
    Calls Tryd.prog 59 #[.pointer (some ⟨g, 0, none⟩)] w (AnyDrawn w g (t + 108)) := by
  obtain ⟨w0, hw0, T0, hsz0, BX⟩ := boxL w ⟨#[]⟩ ⟨#[]⟩ 0
  have H0 := h.next_ T0
  have hgw := h.lt
  have HW0 := Lib.hid hw0
  have G0 : w.grownBy w0 (some g) := grown_below (grown_refl _ _) T0
  clear hw0
  go_enter Tryd.func59, Tryd.ntmps59
  go_wp2_with fail
  rw [← HW0.out]
  refine (log_any g t _ H0 (by omega)).mono ?_
  rintro e w1 ⟨d, p, n, hdp, hn0, hn7, rfl, H1, g1⟩
  have G1 := grown_trans G0 g1
  replace BX := BX.grown g1 (by simp; omega)
  obtain ⟨w2, hw2, T2, hsz2, BL⟩ := boxL w1 d p n
  have H2 := H1.next_ T2
  have G2 := grown_below G1 T2
  replace BX := BX.next T2
  have HW2 := Lib.hid hw2
  have hz1 := G1.size
  have hg1 := H1.lt
  clear hw2
  go_wp2_with fail
  rw [← HW2.out]
  refine (pick_any g (t + 100) 24 _ H2 (by omega) (by decide)).mono ?_
  rintro e w3 ⟨x, hx, rfl, H3, g3⟩
  have G3 := grown_trans G2 g3
  have hXg : w.heap.size ≠ g := by omega
  have hLg : w1.heap.size ≠ g := by omega
  replace BX := BX.grown g3 (by simp; omega)
  replace BL := BL.grown g3 (by simp; omega)
  have hXL : w.heap.size ≠ w1.heap.size := by have := g1.size; omega
  have kc := cat d p (by omega)
  by_cases x0 : x = 0
  · subst x0
    have cL0 := BL.cell 0
    have cL1 := BL.cell 1
    have cL2 := BL.cell 2
    have fL2 := BL.frozen 2
    have cX0 := BX.cell 0
    have cX1 := BX.cell 1
    have cX2 := BX.cell 2
    have fX0 := BX.frozen 0
    have fX1 := BX.frozen 1
    have fX2 := BX.frozen 2
    simp at cL0 cL1 cL2 cX0 cX1 cX2
    obtain ⟨w4, hw4⟩ : ∃ w4, w4 = w3.setCell ⟨w1.heap.size, 2, none⟩ (.int .i64 (n + 1)) := ⟨_, rfl⟩
    have BX4 : Blk w4 w.heap.size 31 #[.string ⟨#[]⟩, .string ⟨#[]⟩, .int .i64 0] := by rw [hw4]; exact BX.far (p := ⟨w1.heap.size, 2, none⟩) hXL _
    have H4 : CurOk w4 g (t + 100 + 2) := by rw [hw4]; exact H3.setLog BL hLg _
    have G4 : w.grownBy w4 (some g) := by rw [hw4]; exact grown_new G3 (p := ⟨w1.heap.size, 2, none⟩) (by show w.heap.size ≤ w1.heap.size; omega) _
    obtain ⟨B9, H9, G9⟩ := fin_log (d := d) (p := p) (n := n + 1) BX4 H4 G4 hXg
    rw [hw4] at B9 H9 G9
    clear hw4 BX4 H4 G4
    go_wp2_with fail
    (try simp only [Exit.inBlock, Exit.then])
    refine bodyPost_ret (v := logV d p (n + 1)) (results_cell_row rfl _ _ w.heap.size 31 #[.string d, .string p, .int .i64 (n + 1)] (0, 0) _ (by simp) B9 Tryd.underlying31 rfl (by kernel_rfl)) rfl ?_
    exact ⟨d, p, n + 1, by omega, by omega, by omega, rfl, H9.mono (by omega), G9⟩
  by_cases x1 : x = 1
  · subst x1
    have cL1 := BL.cell 1
    simp at cL1
    go_wp2_with fail
    refine (spoilt_any g (t + 100 + 2) p ⟨#[35, 64, 10, 48, 49]⟩ _ H3 (by omega) (by omega) (by decide) (by decide)).mono ?_
    rintro e w4 ⟨s, hs, rfl, H4, g4⟩
    have G4 := grown_trans G3 g4
    replace BX := BX.grown g4 (by simp; omega)
    replace BL := BL.grown g4 (by simp; omega)
    clear cL1
    have cL0 := BL.cell 0
    have cL1 := BL.cell 1
    have cL2 := BL.cell 2
    have fL1 := BL.frozen 1
    have cX0 := BX.cell 0
    have cX1 := BX.cell 1
    have cX2 := BX.cell 2
    have fX0 := BX.frozen 0
    have fX1 := BX.frozen 1
    have fX2 := BX.frozen 2
    simp at cL0 cL1 cL2 cX0 cX1 cX2
    obtain ⟨w5, hw5⟩ : ∃ w5, w5 = w4.setCell ⟨w1.heap.size, 1, none⟩ (.string s) := ⟨_, rfl⟩
    have BX5 : Blk w5 w.heap.size 31 #[.string ⟨#[]⟩, .string ⟨#[]⟩, .int .i64 0] := by rw [hw5]; exact BX.far (p := ⟨w1.heap.size, 1, none⟩) hXL _
    have H5 : CurOk w5 g (t + 100 + 2 + 6) := by rw [hw5]; exact H4.setLog BL hLg _
    have G5 : w.grownBy w5 (some g) := by rw [hw5]; exact grown_new G4 (p := ⟨w1.heap.size, 1, none⟩) (by show w.heap.size ≤ w1.heap.size; omega) _
    obtain ⟨B9, H9, G9⟩ := fin_log (d := d) (p := s) (n := n) BX5 H5 G5 hXg
    rw [hw5] at B9 H9 G9
    clear hw5 BX5 H5 G5
    go_wp2_with fail
    (try simp only [Exit.inBlock, Exit.then])
    refine bodyPost_ret (v := logV d s n) (results_cell_row rfl _ _ w.heap.size 31 #[.string d, .string s, .int .i64 n] (0, 0) _ (by simp) B9 Tryd.underlying31 rfl (by kernel_rfl)) rfl ?_
    exact ⟨d, s, n, by omega, by omega, by omega, rfl, H9.mono (by omega), G9⟩
  by_cases x2 : x = 2
  · subst x2
    have cL0 := BL.cell 0
    have cL1 := BL.cell 1
    have cL2 := BL.cell 2
    have fL0 := BL.frozen 0
    have cX0 := BX.cell 0
    have cX1 := BX.cell 1
    have cX2 := BX.cell 2
    have fX0 := BX.frozen 0
    have fX1 := BX.frozen 1
    have fX2 := BX.frozen 2
    simp at cL0 cL1 cL2 cX0 cX1 cX2
    have hS : (d ++ p).size ≤ 420 := by rw [size_app]; exact hdp
    obtain ⟨S, HS⟩ : ∃ S, Hid (d ++ p = S) := ⟨_, rfl⟩
    rw [HS.out] at kc hS
    obtain ⟨w4, hw4⟩ : ∃ w4, w4 = w3.setCell ⟨w1.heap.size, 0, none⟩ (.string S) := ⟨_, rfl⟩
    have BX4 : Blk w4 w.heap.size 31 #[.string ⟨#[]⟩, .string ⟨#[]⟩, .int .i64 0] := by rw [hw4]; exact BX.far (p := ⟨w1.heap.size, 0, none⟩) hXL _
    have H4 : CurOk w4 g (t + 100 + 2) := by rw [hw4]; exact H3.setLog BL hLg _
    have G4 : w.grownBy w4 (some g) := by rw [hw4]; exact grown_new G3 (p := ⟨w1.heap.size, 0, none⟩) (by show w.heap.size ≤ w1.heap.size; omega) _
    obtain ⟨B9, H9, G9⟩ := fin_log (d := S) (p := p) (n := n) BX4 H4 G4 hXg
    rw [hw4] at B9 H9 G9
    clear hw4 BX4 H4 G4
    go_wp2_with fail
    (try simp only [Exit.inBlock, Exit.then])
    refine bodyPost_ret (v := logV S p n) (results_cell_row rfl _ _ w.heap.size 31 #[.string S, .string p, .int .i64 n] (0, 0) _ (by simp) B9 Tryd.underlying31 rfl (by kernel_rfl)) rfl ?_
    exact ⟨S, p, n, by omega, by omega, by omega, rfl, H9.mono (by omega), G9⟩
  · have hx0 : ((x : Int) == 0) = false := by simp; omega
    have hx1 : ((x : Int) == 1) = false := by simp; omega
    have hx2 : ((x : Int) == 2) = false := by simp; omega
    have cL0 := BL.cell 0
    have cL1 := BL.cell 1
    have cL2 := BL.cell 2
    have cX0 := BX.cell 0
    have cX1 := BX.cell 1
    have cX2 := BX.cell 2
    have fX0 := BX.frozen 0
    have fX1 := BX.frozen 1
    have fX2 := BX.frozen 2
    simp at cL0 cL1 cL2 cX0 cX1 cX2
    obtain ⟨B9, H9, G9⟩ := fin_log (d := d) (p := p) (n := n) BX H3 G3 hXg
    go_wp2_with fail
    (try simp only [Exit.inBlock, Exit.then])
    refine bodyPost_ret (v := logV d p n) (results_cell_row rfl _ _ w.heap.size 31 #[.string d, .string p, .int .i64 n] (0, 0) _ (by simp) B9 Tryd.underlying31 rfl (by kernel_rfl)) rfl ?_
    exact ⟨d, p, n, by omega, by omega, by omega, rfl, H9.mono (by omega), G9⟩
end Go.Proofs.YteogfjddkaodkaaDoor
