
/- Walks: EncodeRecord in the reference and in the program. -/
import Derived.Test.YteogfjddkaodkaaDoorEnc2
namespace Go.Proofs.YteogfjddkaodkaaDoor
open Go.RowKit

set_option maxHeartbeats 1000000 in
theorem specEnc_any (k : Int) (c r : ByteArray) (w : World) (hc : c.size ≤ maxLen) (hr : r.size ≤ maxLen) :
    Calls Tryd.prog 14 #[.int .i64 k, .agg #[.string c, .string r]] w (Bl w (.tuple #[.string (encS k c r), .bool (encB k c r)])) := by
  have hb := below_box w (.cells #[.string c, .string r] 27)
  have BX := Blk.new w 27 #[.string c, .string r]
  have c0 := BX.cell 0
  have c1 := BX.cell 1
  simp at c0 c1
  rcases h1 : inB k 0 59 with _ | _
  · have hE : encB k c r = false := by unfold encB; rw [h1]; rfl
    have HE := Lib.hid hE
    have HS := Lib.hid (encS_no hE)
    have H1 := Lib.hid h1
    clear h1 hE
    go_enter Tryd.func14, Tryd.ntmps14
    go_wp2_with fail
    refine (l1In_any _ _ _ _).mono ?_
    rintro e w' ⟨rfl, rfl⟩
    rw [H1.out]
    go_wp2_with fail
    go_ret2
    exact ⟨ret_sb HS.out.symm HE.out.symm, hb⟩
  · rcases h2 : goodB c r with _ | _
    · have hE : encB k c r = false := by unfold encB; rw [h2, Bool.and_false]
      have HE := Lib.hid hE
      have HS := Lib.hid (encS_no hE)
      have H1 := Lib.hid h1
      have H2 := Lib.hid h2
      clear h1 hE h2
      go_enter Tryd.func14, Tryd.ntmps14
      go_wp2_with fail
      refine (l1In_any _ _ _ _).mono ?_
      rintro e w' ⟨rfl, rfl⟩
      rw [H1.out]
      go_wp2_with fail
      refine (l33Good_any _ _ _ hc hr).mono ?_
      rintro e w2 ⟨rfl, hb2⟩
      rw [H2.out]
      go_wp2_with fail
      go_ret2
      exact ⟨ret_sb HS.out.symm HE.out.symm, below_next hb hb2 rfl⟩
    · have hE : encB k c r = true := by unfold encB; rw [h1, h2]; rfl
      have HE := Lib.hid hE
      have HS := Lib.hid (encS_yes hE)
      have H1 := Lib.hid h1
      have H2 := Lib.hid h2
      obtain ⟨q, rfl⟩ : ∃ q : Nat, k = q := by
        unfold inB at h1
        simp at h1
        exact Int.eq_ofNat_of_zero_le h1.1
      have hq : q < 60 := by unfold inB at h1; simp at h1; omega
      obtain ⟨hc1, hr1⟩ := good_sz h2
      clear h1 hE h2
      go_enter Tryd.func14, Tryd.ntmps14
      go_wp2_with fail
      refine (l1In_any _ _ _ _).mono ?_
      rintro e w' ⟨rfl, rfl⟩
      rw [H1.out]
      go_wp2_with fail
      refine (l33Good_any _ _ _ hc hr).mono ?_
      rintro e w2 ⟨rfl, hb2⟩
      rw [H2.out]
      have BX2 := BX.next hb2
      have c0 := BX2.cell 0
      have c1 := BX2.cell 1
      simp at c0 c1
      go_wp2_with fail
      refine (l33Line_any q c r _ (by omega) (by omega) (by omega)).mono ?_
      rintro e w3 ⟨rfl, hb3⟩
      go_wp2_with fail
      go_ret2
      exact ⟨ret_sb HS.out.symm HE.out.symm, below_next (below_next hb hb2 rfl) hb3 rfl⟩

set_option maxHeartbeats 2000000 in
theorem implEnc_any (k : Int) (c r : ByteArray) (w : World) (hc : c.size ≤ maxLen) (hr : r.size ≤ maxLen) (ht : Tab w) :
    Calls Tryd.prog 16 #[.int .i64 k, .agg #[.string c, .string r]] w (Bl w (.tuple #[.string (encS k c r), .bool (encB k c r)])) := by
  have hb := below_box w (.cells #[.string c, .string r] 27)
  have BX := Blk.new w 27 #[.string c, .string r]
  have c0 := BX.cell 0
  have c1 := BX.cell 1
  simp at c0 c1
  by_cases h1 : 0 ≤ k ∧ k < 60
  rotate_left
  · have hE : encB k c r = false := by
      have : inB k 0 59 = false := by unfold inB; simp; omega
      unfold encB; rw [this]; rfl
    have HE := Lib.hid hE
    have HS := Lib.hid (encS_no hE)
    clear hE
    have hk1 : (0 ≤ k ∧ 60 ≤ k) ∨ k < 0 := by omega
    clear h1
    rcases hk1 with ⟨hk0, hk1⟩ | hk1
    all_goals
      go_enter Tryd.func16, Tryd.ntmps16
      go_wp2_with fail
      go_ret2
      exact ⟨ret_sb HS.out.symm HE.out.symm, hb⟩
  · obtain ⟨q, rfl⟩ := Int.eq_ofNat_of_zero_le h1.1
    have hq : q < 60 := by omega
    have hk0 : ¬ ((q : Int) < 0) := by omega
    have hk1 : (q : Int) < 60 := by omega
    have hin : inB (q : Int) 0 59 = true := by unfold inB; simp; omega
    rcases h2 : goodB c r with _ | _
    · have hE : encB (q : Int) c r = false := by unfold encB; rw [h2, Bool.and_false]
      have HE := Lib.hid hE
      have HS := Lib.hid (encS_no hE)
      have H2 := Lib.hid h2
      clear hE h2 h1 hin
      go_enter Tryd.func16, Tryd.ntmps16
      go_wp2_with fail
      refine (implValid_any _ _ _ hc hr).mono ?_
      rintro e w2 ⟨rfl, hb2⟩
      rw [H2.out]
      go_wp2_with fail
      go_ret2
      exact ⟨ret_sb HS.out.symm HE.out.symm, below_next hb hb2 rfl⟩
    · have hE : encB (q : Int) c r = true := by unfold encB; rw [h2, hin]; rfl
      have HE := Lib.hid hE
      have HS := Lib.hid (encS_yes hE)
      have H2 := Lib.hid h2
      obtain ⟨hc1, hr1⟩ := good_sz h2
      have hG := goodL_good (by rw [← goodB_eq]; exact h2)
      have HNO := Lib.hid (body_no (k := q) hG)
      have hbl := body_len hq hG
      have hd := dec_len (u := q) (by omega)
      have HB := body_eq q c r
      have hseal := seal_len (l := bodyL q (bs c) (bs r))
      have k1 := cat (mk (Lib.decDigits q)) ⟨#[32]⟩ (by rw [size_mk]; show _ + 1 ≤ _; omega)
      have k2 := cat (mk (Lib.decDigits q) ++ ⟨#[32]⟩) c (by rw [size_app, size_mk]; show _ + 1 + _ ≤ _; omega)
      have k3 := cat (mk (Lib.decDigits q) ++ ⟨#[32]⟩ ++ c) ⟨#[64]⟩ (by rw [size_app, size_app, size_mk]; show _ + 1 + _ + 1 ≤ _; omega)
      have k4 := cat (mk (Lib.decDigits q) ++ ⟨#[32]⟩ ++ c ++ ⟨#[64]⟩) r (by rw [size_app, size_app, size_app, size_mk]; show _ + 1 + _ + 1 + _ ≤ _; omega)
      have k5 := cat (mk (sealL (bodyL q (bs c) (bs r)))) ⟨#[10]⟩ (by rw [size_mk]; show _ + 1 ≤ _; omega)
      rw [HB] at k4
      have HL := Lib.hid (line_mk q (bs c) (bs r))
      clear hE h2 h1 hin HB hseal hd
      go_enter Tryd.func16, Tryd.ntmps16
      go_wp2_with fail
      refine (implValid_any _ _ _ hc hr).mono ?_
      rintro e w2 ⟨rfl, hb2⟩
      rw [H2.out]
      have hT := below_next hb hb2 rfl
      have ht2 := ht.next hT
      have BX2 := BX.next hb2
      have c0 := BX2.cell 0
      have c1 := BX2.cell 1
      simp at c0 c1
      go_wp2_with fail
      go_region_held3 (fun w' => w'.cell? ⟨w.heap.size, 0, none⟩ = some (.string c) ∧ w'.cell? ⟨w.heap.size, 1, none⟩ = some (.string r)) (first | go_keep | exact ⟨keepc hb3 c0, keepc hb3 c1⟩) (first | (go_at_call 46; refine (itoa_small q (by omega) _).mono ?_; rintro e w3 ⟨rfl, z, rfl⟩) | (go_at_call 45; refine (append_any (mk (bodyL q (bs c) (bs r))) _ (by rw [size_mk]; unfold maxLen; omega) (by first | exact ht2 | exact ht2.drewN _ | exact (ht2.drewN 1).drewN _)).mono ?_; rintro e w3 ⟨t, ok, rfl, har, hb3⟩))
      have hT3 : Below w.heap.size w w3 := by first | exact below_next (below_drewN hT _) hb3 rfl | exact below_next (below_drewN (Below.drew hT) _) hb3 rfl
      rcases ok with _ | _
      · exact absurd ⟨HNO.out.1, by rw [size_mk]; omega⟩ (har.2 rfl)
      · obtain rfl := har.1 rfl
        clear har
        rw [bs_of]
        go_wp2
        go_ret2
        exact ⟨ret_sb (by rw [HL.out, HS.out]; rfl) HE.out.symm, hT3⟩

theorem encS_len (k : Int) (c r : ByteArray) : (encS k c r).size ≤ 372 := by
  unfold encS
  split
  · rename_i h
    unfold encB at h
    rw [Bool.and_eq_true] at h
    have hk : k.toNat < 60 := by have := h.1; unfold inB at this; simp at this; omega
    have hG := goodL_good (by rw [← goodB_eq]; exact h.2)
    exact line_len hk hG
  · exact Nat.zero_le _
set_option maxHeartbeats 1000000 in
theorem lawEncodeRecord (k : Int) (c r : ByteArray) (w : World) (_l : -9223372036854775808 ≤ k) (_u : k ≤ 9223372036854775807) (hc : c.size ≤ maxLen) (hr : r.size ≤ maxLen) (ht : Tab w) :
    Calls Tryd.prog 3 #[.int .i64 k, .agg #[.string c, .string r]] w (Bl w (.bool true)) := by
  have hT0 := below_box w (.cells #[.string c, .string r] 23)
  have hK0 := Blk.new w 23 #[.string c, .string r]
  rcases h1 : decide (recSize c r 1048576 < 0) with _ | _
  · have h2 : ¬ recSize c r 1048576 < 0 := by simpa using h1
    clear h1
    obtain ⟨enc, HENC⟩ : ∃ s, Hid (encS k c r = s) := ⟨_, rfl⟩
    obtain ⟨ok, HOK⟩ : ∃ s, Hid (encB k c r = s) := ⟨_, rfl⟩
    go_enter Tryd.func3, Tryd.ntmps3
    go_wp2_with fail
    refine (szRec_any _ _ _ _ hc hr (by omega) (by omega)).mono ?_
    rintro e w1 ⟨rfl, hb1⟩
    have hT1 := below_next hT0 hb1 rfl
    have hK1 := hK0.next hb1
    have c10 : w1.cell? ⟨w.heap.size, 0, none⟩ = some (.string c) := hK1.cell 0
    have c11 : w1.cell? ⟨w.heap.size, 1, none⟩ = some (.string r) := hK1.cell 1
    go_wp2_with fail
    refine (toRec_any _ _ _).mono ?_
    rintro e w2 ⟨rfl, hb2⟩
    have hT2 := below_next hT1 hb2 rfl
    have hK2 := hK1.next hb2
    go_wp2_with fail
    refine (specEnc_any _ _ _ _ hc hr).mono ?_
    rintro e w3 ⟨rfl, hb3⟩
    rw [HENC.out, HOK.out]
    have hT3 := below_next hT2 hb3 rfl
    have hK3 := hK2.next hb3
    have c30 : w3.cell? ⟨w.heap.size, 0, none⟩ = some (.string c) := hK3.cell 0
    have c31 : w3.cell? ⟨w.heap.size, 1, none⟩ = some (.string r) := hK3.cell 1
    go_wp2_with fail
    refine (toRec_any _ _ _).mono ?_
    rintro e w4 ⟨rfl, hb4⟩
    have hT4 := below_next hT3 hb4 rfl
    go_wp2_with fail
    refine (implEnc_any _ _ _ _ hc hr (ht.next hT4)).mono ?_
    rintro e w5 ⟨rfl, hb5⟩
    rw [HENC.out, HOK.out]
    have hT5 := below_next hT4 hb5 rfl
    rcases ok with _ | _
    all_goals
      go_wp2_with fail
      go_ret
      exact ⟨rfl, hT5⟩
  · have h2 : recSize c r 1048576 < 0 := by simpa using h1
    go_enter Tryd.func3, Tryd.ntmps3
    go_wp2_with fail
    refine (szRec_any _ _ _ _ hc hr (by omega) (by omega)).mono ?_
    rintro e w1 ⟨rfl, hb1⟩
    have hT1 := below_next hT0 hb1 rfl
    go_wp2_with fail
    go_ret
    exact ⟨rfl, hT1⟩
end Go.Proofs.YteogfjddkaodkaaDoor
