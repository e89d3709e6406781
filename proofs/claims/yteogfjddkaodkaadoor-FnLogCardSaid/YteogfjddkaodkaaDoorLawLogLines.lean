
/- The walk of the law FnLogLines: an encoded line is read at its own place alone; a recovered log is left as it is by SyncLog. -/
import Derived.Test.YteogfjddkaodkaaDoorDrawR
import Derived.Test.YteogfjddkaodkaaDoorRecL
namespace Go.Proofs.YteogfjddkaodkaaDoor
open Go.RowKit

def RU8 (_ : World) (v : Value) (x : Int) : Prop := v = .int .u8 x ∧ 0 ≤ x ∧ x < 256
theorem code_in {w : World} {A : Option Addr} {n : Nat} {xs : List Int} (h : RdL RU8 w A n xs) (hn : n ≤ 65536) : CodeIn w A n := by
  refine ⟨hn, fun h0 => ?_⟩
  obtain ⟨b, o, v, x, rfl, -⟩ := h.at h0
  refine ⟨b, o, rfl, fun i hi => ?_⟩
  obtain ⟨v, x, hc, ⟨rfl, h1, h2⟩, -⟩ := h.at' hi
  obtain ⟨x, rfl⟩ := Int.eq_ofNat_of_zero_le h1
  exact ⟨x, by omega, hc⟩
set_option maxHeartbeats 400000 in
theorem vBig_any (A : Option Addr) (n c : Nat) (w : World) (hn : n ≤ 9223372036854775807) : Calls Tryd.prog 35 #[.slice A n c] w fun e w' => e = .returned (.bool (decide (65536 < n))) ∧ w = w' := by
  by_cases h : 65536 < n
  · have h' : (65536 : Int) < (n : Int) := by omega
    have hd : decide (65536 < n) = true := by simpa using h
    have HD := Lib.hid hd
    clear hd
    go_enter Tryd.func35, Tryd.ntmps35
    go_wp2
    go_ret
    exact ⟨ret_bool (by first | rfl | rw [HD.out]), rfl⟩
  · have h' : ¬ (65536 : Int) < (n : Int) := by omega
    have hd : decide (65536 < n) = false := by simpa using h
    have HD := Lib.hid hd
    clear hd
    go_enter Tryd.func35, Tryd.ntmps35
    go_wp2
    go_ret
    exact ⟨ret_bool (by first | rfl | rw [HD.out]), rfl⟩
theorem rec_len (s : ByteArray) : recE s ≤ s.size := by
  unfold recE
  split
  · exact Nat.zero_le _
  · exact endA_le s
theorem recD_size (s : ByteArray) : (recD s).size ≤ s.size := by
  unfold recD
  split
  · exact Nat.zero_le _
  · rw [ByteArray.size_extract]; omega
/-- An encoded record by itself: read if it is number 0. -/
theorem enc_read {k : Int} {c r : ByteArray} (h : encB k c r = true) (hs : (encS k c r).size ≤ 30000) : (k = 0 → 0 < recE (encS k c r) ∧ recN (encS k c r) = 1) ∧ (k ≠ 0 → recE (encS k c r) = 0) := by
  have hk : 0 ≤ k := by unfold encB inB at h; simp at h; omega
  have hg : goodL (bs c) (bs r) = true := by rw [← goodB_eq]; unfold encB at h; simp at h; exact h.2
  have hbs : bs (encS k c r) = lineL k.toNat (bs c) (bs r) := by rw [encS_yes h]; rfl
  unfold recE recN endA cntA
  rw [if_neg (by omega), if_neg (by omega), hbs]
  constructor
  · rintro rfl
    obtain ⟨h1, h2⟩ := line_zero hg
    exact ⟨by rw [show (0 : Int).toNat = 0 from rfl, h2]; exact line_pos _ _ _, h1⟩
  · intro h0
    rw [line_pos_read (by omega)]
    rfl
theorem encS_size {k : Int} {c r : ByteArray} (hc : c.size ≤ 20) (hr : r.size ≤ 20) : (encS k c r).size ≤ 1000 := by
  rcases h : encB k c r with _ | _
  · rw [encS_no h]; exact Nat.zero_le _
  · rw [encS_yes h, size_mk]
    have hk : k < 60 := by unfold encB inB at h; simp at h; omega
    have h1 : (bs c).length ≤ 20 := hc
    have h2 : (bs r).length ≤ 20 := hr
    have h3 := dec_len (u := k.toNat) (by omega)
    have h4 := seal_len (l := bodyL k.toNat (bs c) (bs r))
    simp only [lineL, bodyL, List.length_append, List.length_cons, List.length_nil] at h4 ⊢
    omega

set_option maxRecDepth 100000 in
set_option maxHeartbeats 16000000 in
theorem lawLogLines (A : Option Addr) (n c : Nat) (xs : List Int) (w : World) (h : RdL RU8 w A n xs) (ht : Tab w) :
    Calls Tryd.prog 10 #[.slice A n c] w (Bl w (.bool true)) := by
  have hle := h.le
  by_cases hbig : 65536 < n
  · go_enter Tryd.func10, Tryd.ntmps10
    have hd : decide (65536 < n) = true := by simpa using hbig
    go_wp2_with fail
    refine (vBig_any A n c _ hle).mono ?_
    rintro e w' ⟨rfl, rfl⟩
    rw [hd]
    go_wp2_with fail
    go_ret
    exact ⟨rfl, Below.refl _ _⟩
  have hC := code_in h (by omega)
  have HDb : Hid (decide (65536 < n) = false) := by show _ = _; simpa using hbig
  clear hbig
  go_enter Tryd.func10, Tryd.ntmps10
  go_wp2_with fail
  refine (vBig_any A n c _ hle).mono ?_
  rintro e w' ⟨rfl, rfl⟩
  rw [HDb.out]
  go_wp2_with fail
  refine (drawEncode_any A n c _ hC).mono ?_
  rintro e w1 ⟨k, x, y, hk0, hk1, hx, hy, rfl, T1⟩
  obtain ⟨w2, hw2, T2', hsz2, BE⟩ := boxes1' w1 #[.string x, .string y] 27
  have T2 := below_next T1 T2' rfl
  have HW2 := Lib.hid hw2
  have hSs := encS_size (k := k) hx hy
  obtain ⟨S, HS⟩ : ∃ S, Hid (encS k x y = S) := ⟨_, rfl⟩
  obtain ⟨ok, HOK⟩ : ∃ b, Hid (encB k x y = b) := ⟨_, rfl⟩
  rw [HS.out] at hSs
  have cE0 := BE.cell 0
  have cE1 := BE.cell 1
  simp at cE0 cE1
  rw [HW2.out] at cE0 cE1
  clear hw2
  go_wp2_with fail
  rw [← HW2.out]
  refine (implEnc_any k x y _ (by unfold maxLen; omega) (by unfold maxLen; omega) (ht.next T2)).mono ?_
  rintro e w3 ⟨rfl, hb3⟩
  rw [HS.out, HOK.out]
  have T3 := below_next T2 hb3 rfl
  replace BE := BE.next hb3
  clear cE0 cE1 hb3
  have cE0 := BE.cell 0
  have cE1 := BE.cell 1
  simp at cE0 cE1
  go_wp2_with fail
  refine (specEnc_any k x y _ (by unfold maxLen; omega) (by unfold maxLen; omega)).mono ?_
  rintro e w4 ⟨rfl, hb4⟩
  rw [HS.out, HOK.out]
  have T4 := below_next T3 hb4 rfl
  clear cE0 cE1 hb4 BE
  go_wp2_with fail
  refine (drawRecover_any A n c _ (hC.next T4)).mono ?_
  rintro e w5 ⟨Tt, hTt, rfl, hb5⟩
  have T5 := below_next T4 hb5 rfl
  clear hb5
  have hrl := recD_size Tt
  have hvv : ¬ 30000 < Tt.size → Hid (vS (recD Tt ++ ⟨#[]⟩) (recD Tt) (recN Tt) = true ∧ syncD (recD Tt) ⟨#[]⟩ (recN Tt) = recD Tt ∧ syncN (recD Tt) ⟨#[]⟩ (recN Tt) = recN Tt) := fun hh => ⟨rec_valid hh, rec_sync hh⟩
  obtain ⟨M, HM⟩ : ∃ M, Hid (recD Tt = M) := ⟨_, rfl⟩
  obtain ⟨N, HN⟩ : ∃ N, Hid (recN Tt = N) := ⟨_, rfl⟩
  obtain ⟨E, HE⟩ : ∃ E, Hid (recE Tt = E) := ⟨_, rfl⟩
  obtain ⟨told, HTo⟩ : ∃ b, Hid (recB Tt = b) := ⟨_, rfl⟩
  rw [HM.out, HN.out] at hvv
  rw [HM.out] at hrl
  go_wp2_with fail
  refine (implRecov_any Tt _ (by omega) (ht.next T5)).mono ?_
  rintro e w6 ⟨rfl, hb6⟩
  rw [HM.out, HN.out, HE.out, HTo.out]
  have T6 := below_next T5 hb6 rfl
  obtain ⟨w7, hw7, T7', hsz7, BM⟩ := boxes1' w6 #[.string M, .string ⟨#[]⟩, .int .i64 N] 31
  have T7 := below_next T6 T7' rfl
  have HW7 := Lib.hid hw7
  clear hw7
  go_wp2_with fail
  rw [← HW7.out]
  refine (specRecov_any Tt _ (by omega)).mono ?_
  rintro e w8 ⟨rfl, hb8⟩
  rw [HM.out, HN.out, HE.out, HTo.out]
  have T8 := below_next T7 hb8 rfl
  replace BM := BM.next hb8
  obtain ⟨w9, hw9, T9', hsz9, BN⟩ := boxes1' w8 #[.string M, .string ⟨#[]⟩, .int .i64 N] 31
  have T9 := below_next T8 T9' rfl
  have HW9 := Lib.hid hw9
  replace BM := BM.next T9'
  clear hw9
  have cM0 := BM.cell 0
  have cM1 := BM.cell 1
  have cM2 := BM.cell 2
  have cN0 := BN.cell 0
  have cN1 := BN.cell 1
  have cN2 := BN.cell 2
  simp at cM0 cM1 cM2 cN0 cN1 cN2
  rw [HW9.out] at cM0 cM1 cM2 cN0 cN1 cN2
  have hok1 : (ok != ok) = false := by cases ok <;> rfl
  have hto1 : (told != told) = false := by cases told <;> rfl
  have hkey : (ok = false ∧ S = ⟨#[]⟩) ∨ (ok = true ∧ k = 0 ∧ 0 < recE S ∧ recN S = 1) ∨ (ok = true ∧ k ≠ 0 ∧ recE S = 0) := by
    rcases hb : ok with _ | _
    · left
      refine ⟨rfl, ?_⟩
      rw [← HS.out]
      exact encS_no (HOK.out.trans hb)
    · right
      have h2 := enc_read (HOK.out.trans hb) (by rw [HS.out]; omega)
      rw [HS.out] at h2
      by_cases h0 : k = 0
      · exact .inl ⟨rfl, h0, h2.1 h0⟩
      · exact .inr ⟨rfl, h0, h2.2 h0⟩
  obtain ⟨F, HF⟩ : ∃ F, Hid (recE S = F) := ⟨_, rfl⟩
  obtain ⟨XN, HXN⟩ : ∃ N, Hid (recN S = N) := ⟨_, rfl⟩
  obtain ⟨XD, HXD⟩ : ∃ N, Hid (recD S = N) := ⟨_, rfl⟩
  rw [HF.out, HXN.out] at hkey
  have HKEY := Lib.hid hkey
  clear hkey
  go_wp2_with fail
  rw [← HW9.out]
  refine (implRecov_any S _ (by omega) (ht.next T9)).mono ?_
  rintro e w10 ⟨rfl, hb10⟩
  rw [HXD.out, HXN.out, HF.out]
  have T10 := below_next T9 hb10 rfl
  obtain ⟨w11, hw11, T11', hsz11, BX⟩ := boxes1' w10 #[.string XD, .string ⟨#[]⟩, .int .i64 XN] 31
  have T11 := below_next T10 T11' rfl
  have HW11 := Lib.hid hw11
  replace BM := (BM.next hb10).next T11'
  clear hw11 cM0 cM1 cM2 cN0 cN1 cN2 BN
  have cM0 := BM.cell 0
  have cM1 := BM.cell 1
  have cM2 := BM.cell 2
  have cX2 := BX.cell 2
  simp at cM0 cM1 cM2 cX2
  rw [HW11.out] at cM0 cM1 cM2 cX2
  rcases HKEY.out with ⟨rfl, rfl⟩ | ⟨rfl, hk, hF, hX⟩ | ⟨rfl, hk, hF⟩
  · have hse : (⟨#[]⟩ : ByteArray).toList.isEmpty = true := by kernel_rfl
    go_wp2_with fail
    rw [← HW11.out]
    refine (implSync_any M ⟨#[]⟩ N _ (by show M.size + 0 ≤ _; omega) (ht.next T11)).mono ?_
    rintro e w12 ⟨rfl, hb12⟩
    have T12 := below_next T11 hb12 rfl
    replace BM := BM.next hb12
    clear cM0 cM1 cM2 cX2 hb12
    obtain ⟨Y, HY⟩ : ∃ Y, Hid (syncD M ⟨#[]⟩ N = Y) := ⟨_, rfl⟩
    obtain ⟨YN, HYN⟩ : ∃ Y, Hid (syncN M ⟨#[]⟩ N = Y) := ⟨_, rfl⟩
    obtain ⟨V, HV⟩ : ∃ Y, Hid (vS (M ++ ⟨#[]⟩) M N = Y) := ⟨_, rfl⟩
    rw [HY.out, HYN.out, HV.out]
    obtain ⟨w13, hw13, T13', hsz13, BY⟩ := boxes1' w12 #[.string Y, .string ⟨#[]⟩, .int .i64 YN] 31
    have T13 := below_next T12 T13' rfl
    have HW13 := Lib.hid hw13
    replace BM := BM.next T13'
    clear hw13
    rcases told with _ | _
    · go_wp2_with fail
      go_ret
      exact ⟨rfl, by rw [← HW13.out]; exact T13⟩
    · have hnb : ¬ 30000 < Tt.size := by have := HTo.out; unfold recB at this; simpa using this
      obtain ⟨v1, v2, v3⟩ := (hvv hnb).out
      obtain rfl : M = Y := v2.symm.trans HY.out
      obtain rfl : (N : Int) = YN := v3.symm.trans HYN.out
      obtain rfl : V = true := HV.out.symm.trans v1
      have HV1 := Lib.hid v1
      clear v1 v2 v3 hvv
      have cM0 := BM.cell 0
      have cM1 := BM.cell 1
      have cM2 := BM.cell 2
      have cY0 := BY.cell 0
      have cY1 := BY.cell 1
      have cY2 := BY.cell 2
      simp at cM0 cM1 cM2 cY0 cY1 cY2
      rw [HW13.out] at cM0 cM1 cM2 cY0 cY1 cY2
      go_wp2_with fail
      rw [← HW13.out]
      refine (implValidLog_any M ⟨#[]⟩ N _ (by show M.size + 0 ≤ _; omega) (ht.next T13)).mono ?_
      rintro e w14 ⟨rfl, hb14⟩
      rw [HV1.out]
      have T14 := below_next T13 hb14 rfl
      go_wp2_with fail
      go_ret
      exact ⟨rfl, T14⟩
  · have hke : (k == 0) = true := by rw [hk]; rfl
    have hF' : (0 : Int) < (F : Int) := by omega
    have hX' : ((XN : Int) != 1) = false := by rw [hX]; rfl
    clear hk hF hX
    go_wp2_with fail
    rw [← HW11.out]
    refine (implSync_any M ⟨#[]⟩ N _ (by show M.size + 0 ≤ _; omega) (ht.next T11)).mono ?_
    rintro e w12 ⟨rfl, hb12⟩
    have T12 := below_next T11 hb12 rfl
    replace BM := BM.next hb12
    clear cM0 cM1 cM2 cX2 hb12
    obtain ⟨Y, HY⟩ : ∃ Y, Hid (syncD M ⟨#[]⟩ N = Y) := ⟨_, rfl⟩
    obtain ⟨YN, HYN⟩ : ∃ Y, Hid (syncN M ⟨#[]⟩ N = Y) := ⟨_, rfl⟩
    obtain ⟨V, HV⟩ : ∃ Y, Hid (vS (M ++ ⟨#[]⟩) M N = Y) := ⟨_, rfl⟩
    rw [HY.out, HYN.out, HV.out]
    obtain ⟨w13, hw13, T13', hsz13, BY⟩ := boxes1' w12 #[.string Y, .string ⟨#[]⟩, .int .i64 YN] 31
    have T13 := below_next T12 T13' rfl
    have HW13 := Lib.hid hw13
    replace BM := BM.next T13'
    clear hw13
    rcases told with _ | _
    · go_wp2_with fail
      go_ret
      exact ⟨rfl, by rw [← HW13.out]; exact T13⟩
    · have hnb : ¬ 30000 < Tt.size := by have := HTo.out; unfold recB at this; simpa using this
      obtain ⟨v1, v2, v3⟩ := (hvv hnb).out
      obtain rfl : M = Y := v2.symm.trans HY.out
      obtain rfl : (N : Int) = YN := v3.symm.trans HYN.out
      obtain rfl : V = true := HV.out.symm.trans v1
      have HV1 := Lib.hid v1
      clear v1 v2 v3 hvv
      have cM0 := BM.cell 0
      have cM1 := BM.cell 1
      have cM2 := BM.cell 2
      have cY0 := BY.cell 0
      have cY1 := BY.cell 1
      have cY2 := BY.cell 2
      simp at cM0 cM1 cM2 cY0 cY1 cY2
      rw [HW13.out] at cM0 cM1 cM2 cY0 cY1 cY2
      go_wp2_with fail
      rw [← HW13.out]
      refine (implValidLog_any M ⟨#[]⟩ N _ (by show M.size + 0 ≤ _; omega) (ht.next T13)).mono ?_
      rintro e w14 ⟨rfl, hb14⟩
      rw [HV1.out]
      have T14 := below_next T13 hb14 rfl
      go_wp2_with fail
      go_ret
      exact ⟨rfl, T14⟩
  · have hke : (k == 0) = false := by simpa using hk
    have hF' : ¬ (0 : Int) < (F : Int) := by omega
    clear hk hF
    go_wp2_with fail
    rw [← HW11.out]
    refine (implSync_any M ⟨#[]⟩ N _ (by show M.size + 0 ≤ _; omega) (ht.next T11)).mono ?_
    rintro e w12 ⟨rfl, hb12⟩
    have T12 := below_next T11 hb12 rfl
    replace BM := BM.next hb12
    clear cM0 cM1 cM2 cX2 hb12
    obtain ⟨Y, HY⟩ : ∃ Y, Hid (syncD M ⟨#[]⟩ N = Y) := ⟨_, rfl⟩
    obtain ⟨YN, HYN⟩ : ∃ Y, Hid (syncN M ⟨#[]⟩ N = Y) := ⟨_, rfl⟩
    obtain ⟨V, HV⟩ : ∃ Y, Hid (vS (M ++ ⟨#[]⟩) M N = Y) := ⟨_, rfl⟩
    rw [HY.out, HYN.out, HV.out]
    obtain ⟨w13, hw13, T13', hsz13, BY⟩ := boxes1' w12 #[.string Y, .string ⟨#[]⟩, .int .i64 YN] 31
    have T13 := below_next T12 T13' rfl
    have HW13 := Lib.hid hw13
    replace BM := BM.next T13'
    clear hw13
    rcases told with _ | _
    · go_wp2_with fail
      go_ret
      exact ⟨rfl, by rw [← HW13.out]; exact T13⟩
    · have hnb : ¬ 30000 < Tt.size := by have := HTo.out; unfold recB at this; simpa using this
      obtain ⟨v1, v2, v3⟩ := (hvv hnb).out
      obtain rfl : M = Y := v2.symm.trans HY.out
      obtain rfl : (N : Int) = YN := v3.symm.trans HYN.out
      obtain rfl : V = true := HV.out.symm.trans v1
      have HV1 := Lib.hid v1
      clear v1 v2 v3 hvv
      have cM0 := BM.cell 0
      have cM1 := BM.cell 1
      have cM2 := BM.cell 2
      have cY0 := BY.cell 0
      have cY1 := BY.cell 1
      have cY2 := BY.cell 2
      simp at cM0 cM1 cM2 cY0 cY1 cY2
      rw [HW13.out] at cM0 cM1 cM2 cY0 cY1 cY2
      go_wp2_with fail
      rw [← HW13.out]
      refine (implValidLog_any M ⟨#[]⟩ N _ (by show M.size + 0 ≤ _; omega) (ht.next T13)).mono ?_
      rintro e w14 ⟨rfl, hb14⟩
      rw [HV1.out]
      have T14 := below_next T13 hb14 rfl
      go_wp2_with fail
      go_ret
      exact ⟨rfl, T14⟩
end Go.Proofs.YteogfjddkaodkaaDoor
