
/- Walks: JoinOf and IsAtMost of the program, where they answer. -/
import Derived.Test.YtlncpabnlnipoaaLat2
import Derived.Test.YtlncpabnlnipoaaMono
namespace Go.Proofs.Ytlncpabnlnipoaa
open Go.RowKit

set_option maxHeartbeats 1000000 in
theorem atMost_any (A : Option Addr) (n c x y : Nat) (xss : List (List Int)) (w : World) (h : RdL (RV RI) w A n xss) (hg : GoodP xss) (hx : x < n) (hy : y < n) :
    Calls Try.prog 16 #[.agg #[.slice A n c], .int .i64 x, .int .i64 y] w (Bl w (.tuple #[.bool (leF xss x y), .bool true])) := by
  have hle := h.le
  have hb0 := below_box w (.cells #[.slice A n c] 26)
  have k0 := (Blk.new w 26 #[.slice A n c]).cell 0
  simp at k0
  have HO := Lib.hid (orderOf_any A n c xss _ (h.next stab_RVI hb0))
  have HT := Lib.hid (tt_true hg)
  have HG := Lib.hid hg
  have hx0 : (0 : Int) ≤ (x : Int) := by omega
  have hx1 : (x : Int) < (n : Int) := by omega
  have hy0 : (0 : Int) ≤ (y : Int) := by omega
  have hy1 : (y : Int) < (n : Int) := by omega
  have HIN : Hid (allIn 0 ((n : Int) - 1) [(x : Int), (y : Int)] = true) := allIn_iff.2 fun z hz => by
    simp only [List.mem_cons, List.not_mem_nil, or_false] at hz
    rcases hz with rfl | rfl <;> omega
  clear hg h
  go_enter Try.func16, Try.ntmps16
  go_wp2_with fail
  refine HO.out.mono ?_
  rintro e w2 ⟨A1, m1, c1, rfl, hr1, hb1⟩
  rw [← HT.out]
  obtain ⟨rfl, r1⟩ := hr1 HG.out
  have T1 := below_next hb0 hb1 rfl
  obtain ⟨b, o, v, row, rfl, hcr, ⟨R, j, dj, rfl, hrow⟩, -, hxr⟩ := r1.at hx
  rw [tab_get hx] at hxr
  injection hxr with hxr
  subst hxr
  have hj : j = m1 := by rw [← hrow.len]; simp
  subst hj
  obtain ⟨b2, o2, v2, bv, rfl, hcb, rfl, -, hbv⟩ := hrow.at hy
  rw [row_get hy] at hbv
  injection hbv with hbv
  subst hbv
  have hb2 := below_box w2 (.cells #[.int .i64 x, .int .i64 y] 3)
  have hl2 : RdL RI (w2.alloc (.cells #[.int .i64 x, .int .i64 y] 3)) (some ⟨w2.heap.size, 0, none⟩) 2 [(x : Int), (y : Int)] := rd_of_own (R := RI) (World.ownsRow_lit w2 #[.int .i64 x, .int .i64 y] 2 (base := 0) (Nat.zero_le _) (by unfold maxLen; omega) rfl) (RI_ints fun z hz => by
    simp only [List.mem_cons, List.not_mem_nil, or_false] at hz
    rcases hz with rfl | rfl <;> omega)
  have HH := Lib.hid (has_any (some ⟨b, o, none⟩) (some ⟨w2.heap.size, 0, none⟩) j c1 2 2 _ _ hl2)
  rw [HIN.out] at HH
  have hcr2 := (hb2.cell (p := ⟨b, o + x, none⟩) (cell_lt hcr)).trans hcr
  have hcb2 := (hb2.cell (p := ⟨b2, o2 + y, none⟩) (cell_lt hcb)).trans hcb
  clear hr1 r1 hrow hl2 k0 HO
  go_wp2_with fail
  refine HH.out.mono ?_
  rintro e w3 ⟨rfl, rfl⟩
  go_wp2_with fail
  go_ret2
  exact ⟨rfl, below_next T1 hb2 rfl⟩
def LatJ (w : World) (n : Nat) (xss : List (List Int)) (e : Ending) (w' : World) : Prop :=
  ∃ g A1 c1 A2 c2 A3 c3, e = .returned (.tuple #[.pointer (some ⟨g, 0, none⟩), .bool true]) ∧ Blk w' g 72 #[.slice A1 n c1, .slice A2 n c2, .slice A3 n c3] ∧ RdL (RV RI) w' A3 n (mtTab (duF (leF xss)) n n) ∧ Below w.heap.size w w'
set_option maxRecDepth 20000 in
set_option maxHeartbeats 2000000 in
theorem latticeJ_any (A : Option Addr) (n c : Nat) (xss : List (List Int)) (w : World) (h : RdL (RV RI) w A n xss) (hg : GoodP xss) (hL : LatP (leF xss) n) : Calls Try.prog 37 #[.agg #[.slice A n c]] w (LatJ w n xss) := by
  have hle := h.le
  have hlen := h.len
  have hn10 : n ≤ 10 := by have := hg.1; omega
  have hb0 := below_box w (.cells #[.slice A n c] 26)
  have BX := Blk.new w 26 #[.slice A n c]
  have c0 := BX.c0
  have h0 := h.next stab_RVI hb0
  have H1 : Hid (true = tt (GoodP xss)) := tt_true hg
  have HG := Lib.hid hg
  have hn0' : ¬ (n : Int) = 0 := by have := hL.1; omega
  obtain ⟨F, HF⟩ : ∃ F, Hid (leF xss = F) := ⟨_, rfl⟩
  rw [HF.out] at hL
  have HA : Hid (true = tt (MeetP F n)) := tt_true hL.2.1
  have HB : Hid (true = tt (MeetP (duF F) n)) := tt_true hL.2.2
  have HL := Lib.hid hL
  clear hg hL h hlen
  go_enter Try.func37, Try.ntmps37
  go_wp2_with fail
  refine (orderOf_any _ _ _ _ _ h0).mono ?_
  rintro e w2 ⟨A1, m1, c1, rfl, hr1, hb1⟩
  rw [← H1.out]
  obtain ⟨rfl, r1⟩ := hr1 HG.out
  rw [HF.out] at r1
  have T1 := below_next hb0 hb1 rfl
  clear hr1 hb1
  go_wp2_with fail
  refine (meetTable_any _ _ _ F _ r1 (by omega)).mono ?_
  rintro e w3 ⟨A2, m2, c2, rfl, hr2, hb2⟩
  rw [← HA.out]
  obtain ⟨rfl, -⟩ := hr2 HL.out.2.1
  have T2 := below_next T1 hb2 rfl
  replace r1 := r1.next stab_RVB hb2
  clear hr2
  go_wp2_with fail
  refine (dual_any _ _ _ F _ r1 (by omega)).mono ?_
  rintro e w4 ⟨g4, rfl, r4, hb4⟩
  have T4 := below_next T2 hb4 rfl
  go_wp2_with fail
  refine (meetTable_any _ _ _ (duF F) _ r4 (by omega)).mono ?_
  rintro e w5 ⟨A3, m3, c3, rfl, hr3, hb5⟩
  rw [← HB.out]
  obtain ⟨rfl, r3⟩ := hr3 HL.out.2.2
  have T5 := below_next T4 hb5 rfl
  clear hr3 r1 r4
  go_wp2_with fail
  go_ret2
  exact ⟨_, A1, c1, A2, c2, A3, c3, rfl, Blk.new _ _ _, by rw [HF.out]; exact r3.next stab_RVI (below_box _ _), below_next T5 (below_box _ _) rfl⟩
set_option maxHeartbeats 2000000 in
theorem joinOf_any (A : Option Addr) (n c x y : Nat) (xss : List (List Int)) (w : World) (h : RdL (RV RI) w A n xss) (hg : GoodP xss) (hL : LatP (leF xss) n) (hx : x < n) (hy : y < n) :
    Calls Try.prog 12 #[.agg #[.slice A n c], .int .i64 x, .int .i64 y] w (Bl w (.tuple #[.int .i64 (mt (duF (leF xss)) n x y), .bool true])) := by
  have hle := h.le
  have hb0 := below_box w (.cells #[.slice A n c] 26)
  have k0 := (Blk.new w 26 #[.slice A n c]).cell 0
  simp at k0
  have HO := Lib.hid (latticeJ_any A n c xss _ (h.next stab_RVI hb0) hg hL)
  have hx0 : (0 : Int) ≤ (x : Int) := by omega
  have hx1 : (x : Int) < (n : Int) := by omega
  have hy0 : (0 : Int) ≤ (y : Int) := by omega
  have hy1 : (y : Int) < (n : Int) := by omega
  have HIN : Hid (allIn 0 ((n : Int) - 1) [(x : Int), (y : Int)] = true) := allIn_iff.2 fun z hz => by
    simp only [List.mem_cons, List.not_mem_nil, or_false] at hz
    rcases hz with rfl | rfl <;> omega
  clear hg h hL
  go_enter Try.func12, Try.ntmps12
  go_wp2_with fail
  refine HO.out.mono ?_
  rintro e w2 ⟨g, A1, c1, A2, c2, A3, c3, rfl, BL, r3, hb1⟩
  have T1 := below_next hb0 hb1 rfl
  obtain ⟨b, o, v, row, rfl, hcr, ⟨R, j, dj, rfl, hrow⟩, -, hxr⟩ := r3.at hx
  rw [mtTab_get hx] at hxr
  injection hxr with hxr
  subst hxr
  have hj : j = n := by rw [← hrow.len]; simp [mtRow]
  subst hj
  obtain ⟨b2, o2, v2, bv, rfl, hcb, ⟨rfl, -, -⟩, -, hbv⟩ := hrow.at hy
  have HBV : Hid (mt (duF (leF xss)) j x y = bv) := by
    have h1 : (mtRow (duF (leF xss)) j x j)[y]? = some (mt (duF (leF xss)) j x y) := by simp [mtRow, List.getElem?_range hy]
    rw [h1] at hbv
    injection hbv
  have hb2 := below_box w2 (.cells #[.int .i64 x, .int .i64 y] 3)
  have hl2 : RdL RI (w2.alloc (.cells #[.int .i64 x, .int .i64 y] 3)) (some ⟨w2.heap.size, 0, none⟩) 2 [(x : Int), (y : Int)] := rd_of_own (R := RI) (World.ownsRow_lit w2 #[.int .i64 x, .int .i64 y] 2 (base := 0) (Nat.zero_le _) (by unfold maxLen; omega) rfl) (RI_ints fun z hz => by
    simp only [List.mem_cons, List.not_mem_nil, or_false] at hz
    rcases hz with rfl | rfl <;> omega)
  have HH := Lib.hid (has_any A1 (some ⟨w2.heap.size, 0, none⟩) j c1 2 2 _ _ hl2)
  rw [HIN.out] at HH
  have hcr2 := (hb2.cell (p := ⟨b, o + x, none⟩) (cell_lt hcr)).trans hcr
  have hcb2 := (hb2.cell (p := ⟨b2, o2 + y, none⟩) (cell_lt hcb)).trans hcb
  have kl0 := BL.cell 0
  have kl2 := (BL.next hb2).cell 2
  simp at kl0 kl2
  clear r3 hrow hl2 k0 HO hbv
  go_wp2_with fail
  refine HH.out.mono ?_
  rintro e w3 ⟨rfl, rfl⟩
  go_wp2_with fail
  go_ret2
  exact ⟨by rw [HBV.out]; rfl, below_next T1 hb2 rfl⟩
end Go.Proofs.Ytlncpabnlnipoaa
