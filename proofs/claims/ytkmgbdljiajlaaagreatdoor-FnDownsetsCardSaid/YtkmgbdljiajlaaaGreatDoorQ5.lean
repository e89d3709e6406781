/- Parts of the proof: LawDownsets, LaidN. -/
import Derived.Test.YtkmgbdljiajlaaaGreatDoorQ3
import Derived.Test.YtkmgbdljiajlaaaGreatDoorQ4
import Derived.BigGuardPart
import Derived.Test.YtkmgbdljiajlaaaGreatDoorRows
import Derived.ProofKit
import Derived.LaidMore
import Derived.OpenShut
import Derived.Stop.Joined
import Derived.MakeChecks
import Derived.Lib.LaidTab
namespace Go.Proofs.YtkmgbdljiajlaaaGreatDoor
open Go.RowKit
set_option linter.unusedVariables false
set_option linter.unusedSimpArgs false

theorem ownmb_lenD {w : World} {A : Option Addr} {n c lo : Nat} {xss : List (List Int)} (h : OwM 27 3 (.int .i64) lo w (.slice A n c) n xss) : xss.length = n ∧ n ≤ c := by
  obtain ⟨vs, h1, h2, -⟩ := h
  have := h1.1
  refine ⟨by rw [← h2]; simpa using this, ?_⟩
  rcases h1.2 with ⟨e', h0⟩ | ⟨g', cap, cur, e', hb', -, h1, -⟩
  · omega
  · injection e' with _ _ e3
    omega
theorem mat_rdD {w : World} {A : Option Addr} {n c lo N : Nat} {xss : List (List Int)} (h : OwM 27 3 (.int .i64) lo w (.slice A n c) n xss) (hb : ∀ s ∈ xss, IsSet N s) (hN : N ≤ 1048576) : RdL (RV RI) w A n xss :=
  h.rd (R := RI) fun s hs y hy => ⟨rfl, by have := (hb s hs).2 y hy; omega, by have := (hb s hs).2 y hy; omega⟩
theorem own_capD {w : World} {base : Nat} {e : TypeId} {size : Nat} {A : Option Addr} {n c : Nat} {xs : List Value} (h : w.ownsRow base e size (.slice A n c) n xs) : n ≤ c := by
  rcases h.2 with ⟨e', h0⟩ | ⟨g', cap, cur, e', hb', -, h1, -⟩
  · omega
  · injection e' with _ _ e3
    omega
theorem ds_okD {xss : List (List Int)} {L : List Int} (h : doOk xss L = true) : GoodP xss ∧ (∀ v ∈ L, 0 ≤ v ∧ v < (xss.length : Int)) ∧ doRes xss L = dwnL xss.length (leF xss) L := by
  have h0 := h
  unfold doOk at h
  simp only [Bool.and_eq_true] at h
  obtain ⟨h1, -, h3⟩ := h
  refine ⟨tt_iff.1 h1, fun v hv => ?_, by unfold doRes; rw [h0, if_pos rfl]⟩
  have := allIn_iff.1 h3 v hv
  omega
theorem do_bd (xss : List (List Int)) (L : List Int) (hm : xss.length ≤ 12) : ∀ v ∈ doRes xss L, -9223372036854775808 ≤ v ∧ v ≤ 9223372036854775807 := fun v hv => by
  unfold doRes at hv
  split at hv
  · have := markL_in v hv
    omega
  · cases hv
theorem ds_sets (xss : List (List Int)) : ∀ s ∈ dsRes xss, IsSet xss.length s := fun s hs => by
  unfold dsRes at hs
  split at hs
  · rename_i h
    exact ds_set (tt_iff.1 h).1 s hs
  · cases hs
theorem fe_bd (xss : List (List Int)) : ∀ v ∈ feRes xss, -9223372036854775808 ≤ v ∧ v ≤ 9223372036854775807 := fun v hv => by
  unfold feRes at hv
  split at hv
  · rename_i h
    have h1 := (tt_iff.1 h).1
    have := ext_rng (tt_iff.1 h).2.2 _ (Nat.le_refl _) v hv
    omega
  · cases hv
set_option maxRecDepth 100000 in
set_option maxHeartbeats 16000000 in
theorem lawDs (A : Option Addr) (n c : Nat) (code : List Int) (w : World) (h : RdL RU8 w A n code) :
    Calls Tryz.prog 3 #[.slice A n c] w (Bl w (.bool true)) := by
  have hle := h.le
  by_cases hbig : 65536 < n
  · go_enter Tryz.func3, Tryz.ntmps3
    have hd : decide (65536 < n) = true := by simpa using hbig
    go_wp2_with fail
    refine (rBig_any A n c _ hle).mono ?_
    rintro e w' ⟨rfl, rfl⟩
    rw [hd]
    go_wp2_with fail
    go_ret
    exact ⟨rfl, Below.refl _ _⟩
  have hC := code_inB h (by omega)
  have HDb : Hid (decide (65536 < n) = false) := by show _ = _; simpa using hbig
  clear hbig
  go_enter Tryz.func3, Tryz.ntmps3
  go_wp2_with fail
  refine (rBig_any A n c _ hle).mono ?_
  rintro e w' ⟨rfl, rfl⟩
  rw [HDb.out]
  go_wp2_with fail
  refine (drawDs_any A n c _ hC).mono ?_
  rintro e w1 ⟨AX, m, cX, xss, AL, k, cL, L, rfl, hA, hm12, hL, hk21, hLB, T1⟩
  have HXL := Lib.hid hA.len
  obtain ⟨w2, HW2⟩ : ∃ wb, Hid (wb = w1.alloc (.cells #[.slice AX m cX] 26)) := ⟨_, Lib.hid rfl⟩
  have hb2 : Below w1.heap.size w1 w2 := by rw [HW2.out]; exact below_box _ _
  have BX : Blk w2 w1.heap.size 26 #[.slice AX m cX] := by rw [HW2.out]; exact Blk.new _ _ _
  obtain ⟨gX, HGX⟩ : ∃ x, Hid (w1.heap.size = x) := ⟨_, Lib.hid rfl⟩
  go_upto_region 4 with fail
  rw [← HW2.out]
  rw [HGX.out] at BX ⊢
  replace hA := hA.next stab_RVI hb2
  replace hL := hL.next stab_RI hb2
  have T2 := below_next T1 hb2 rfl
  have cX0 := BX.cell 0
  simp at cX0
  clear hb2 T1 hLB hC
  have hx12 : xss.length ≤ 12 := by rw [HXL.out]; exact hm12
  obtain ⟨ok, HOK⟩ : ∃ b, Hid (doOk xss L = b) := ⟨_, Lib.hid rfl⟩
  obtain ⟨S, HS⟩ : ∃ b, Hid (doRes xss L = b) := ⟨_, Lib.hid rfl⟩
  obtain ⟨D, HD⟩ : ∃ b, Hid (dsRes xss = b) := ⟨_, Lib.hid rfl⟩
  obtain ⟨r, HR⟩ : ∃ b, Hid (tt (GoodP xss) = b) := ⟨_, Lib.hid rfl⟩
  have HSB : Hid (∀ v ∈ S, -9223372036854775808 ≤ v ∧ v ≤ 9223372036854775807) := by rw [← HS.out]; exact do_bd xss L hx12
  have HDS : Hid (∀ s ∈ D, IsSet xss.length s) := by rw [← HD.out]; exact ds_sets xss
  clear hx12
  have HC : Hid (Calls Tryz.prog 6 #[.agg #[.slice AX m cX], .slice AL k cL] w2 (OwnB w2 S ok)) := by
    have := implDo_any AX AL m cX k cL xss L w2 hA hL
    rw [HOK.out, HS.out] at this
    exact this
  go_wp2_with fail
  refine HC.out.mono ?_
  rintro e w3 ⟨A5, n5, c5, rfl, ho5, T⟩
  clear HC
  have h5 := rd_of_own (R := RI) ho5 (RI_ints HSB.out)
  clear ho5
  replace hA := hA.next stab_RVI T
  replace hL := hL.next stab_RI T
  replace BX := BX.next T
  replace T2 := below_next T2 T rfl
  clear cX0
  have cX0 := BX.cell 0
  simp at cX0
  clear T
  have HC : Hid (Calls Tryz.prog 7 #[.agg #[.slice AX m cX], .slice AL k cL] w3 (OwnB w3 S ok)) := by
    have := specDo_any AX AL m cX k cL xss L w3 hA hL
    rw [HOK.out, HS.out] at this
    exact this
  go_wp2_with fail
  refine HC.out.mono ?_
  rintro e w4 ⟨A7, n7, c7, rfl, ho7, T⟩
  clear HC
  have h7 := rd_of_own (R := RI) ho7 (RI_ints HSB.out)
  clear ho7
  replace hA := hA.next stab_RVI T
  replace hL := hL.next stab_RI T
  replace BX := BX.next T
  replace h5 := h5.next stab_RI T
  replace T2 := below_next T2 T rfl
  clear cX0
  have cX0 := BX.cell 0
  simp at cX0
  clear T
  have hbo : (ok != ok) = false := by cases ok <;> rfl
  have HC := Lib.hid (rInts_any A5 A7 n5 n7 c5 c7 S S w4 h5 h7)
  go_wp2_with fail
  refine HC.out.mono ?_
  rintro e wq ⟨rfl, zq, rfl⟩
  rw [eqL_self]
  have T : Below w4.heap.size w4 (w4.drewN zq) := below_drewN (Below.refl _ _) zq
  obtain ⟨w5, HWw5⟩ : ∃ x, Hid (x = w4.drewN zq) := ⟨_, Lib.hid rfl⟩
  rw [← HWw5.out] at T ⊢
  clear HC
  replace hA := hA.next stab_RVI T
  replace hL := hL.next stab_RI T
  replace BX := BX.next T
  replace h5 := h5.next stab_RI T
  replace T2 := below_next T2 T rfl
  clear cX0
  have cX0 := BX.cell 0
  simp at cX0
  clear T
  clear h7 hbo
  have HC : Hid (Calls Tryz.prog 9 #[.agg #[.slice AX m cX]] w5 (OwnMB w5 D r)) := by
    have := implDs_any AX m cX xss w5 hA
    rw [HR.out, HD.out] at this
    exact this
  go_wp2_with fail
  refine HC.out.mono ?_
  rintro e w6 ⟨A9, n9, c9, rfl, hM9, T⟩
  clear HC
  obtain ⟨-, hc9⟩ := ownmb_lenD hM9
  have h9 := mat_rdD hM9 HDS.out (by have := HXL.out; omega)
  clear hM9
  replace hA := hA.next stab_RVI T
  replace hL := hL.next stab_RI T
  replace BX := BX.next T
  replace h5 := h5.next stab_RI T
  replace T2 := below_next T2 T rfl
  clear cX0
  have cX0 := BX.cell 0
  simp at cX0
  clear T
  have HC : Hid (Calls Tryz.prog 10 #[.agg #[.slice AX m cX]] w6 (RdMB w6 D r)) := by
    have := specDs_any AX m cX xss w6 hA
    rw [HR.out, HD.out] at this
    exact this
  go_wp2_with fail
  refine HC.out.mono ?_
  rintro e w7 ⟨A11, n11, c11, rfl, h11, T⟩
  clear HC
  replace hA := hA.next stab_RVI T
  replace hL := hL.next stab_RI T
  replace BX := BX.next T
  replace h5 := h5.next stab_RI T
  replace h9 := h9.next stab_RVI T
  replace T2 := below_next T2 T rfl
  clear cX0
  have cX0 := BX.cell 0
  simp at cX0
  clear T
  have hbr : (r != r) = false := by cases r <;> rfl
  have HC := Lib.hid (rTable_any A9 A11 n9 n11 c9 c11 D D w7 h9 h11)
  go_wp2_with fail
  refine HC.out.mono ?_
  rintro e wq ⟨rfl, zq, rfl⟩
  rw [eqLL_self]
  have T : Below w7.heap.size w7 (w7.drewN zq) := below_drewN (Below.refl _ _) zq
  obtain ⟨w8, HWw8⟩ : ∃ x, Hid (x = w7.drewN zq) := ⟨_, Lib.hid rfl⟩
  rw [← HWw8.out] at T ⊢
  clear HC
  replace hA := hA.next stab_RVI T
  replace hL := hL.next stab_RI T
  replace BX := BX.next T
  replace h5 := h5.next stab_RI T
  replace h9 := h9.next stab_RVI T
  replace T2 := below_next T2 T rfl
  clear cX0
  have cX0 := BX.cell 0
  simp at cX0
  clear T
  clear h11 hbr
  rcases r with _ | _
  · go_wp2_with fail
    go_ret
    exact ⟨rfl, T2⟩
  have hgp := tt_iff.1 HR.out
  obtain ⟨F, HF⟩ : ∃ F, Hid (leF xss = F) := ⟨_, Lib.hid rfl⟩
  have HOP : Hid (OrdP m F) := by show OrdP _ _; rw [← HF.out, ← HXL.out]; exact hgp.2.2
  have hm10 : m ≤ 10 := by rw [← HXL.out]; exact hgp.1
  have HDD : Hid (D = dsL m F) := by show _ = _; rw [← HD.out]; unfold dsRes; rw [HR.out, if_pos rfl, HXL.out, HF.out]
  have HDC : Hid (∀ s ∈ D, s.length ≤ 1048576) := by rw [HDD.out]; exact ds_short hm10
  have HOKS : Hid (ok = true → (∀ v ∈ L, 0 ≤ v ∧ v < (m : Int)) ∧ S = dwnL m F L) := fun e => by
    obtain ⟨-, h2, h3⟩ := ds_okD (xss := xss) (L := L) (by rw [HOK.out, e])
    rw [HXL.out] at h2 h3
    rw [HS.out, HF.out] at h3
    exact ⟨h2, h3⟩
  clear hgp
  go_upto_region 14 with fail
  go_cut [92] from 80 to 91 (fun v wx => v = .bool false ∧ Below w8.heap.size w8 wx)
  case first =>
    rcases ok with _ | _
    · go_wp2_with fail
      go_meet
      exact ⟨rfl, Below.refl _ _⟩
    · obtain ⟨hLR, hSS⟩ := HOKS.out rfl
      obtain ⟨pl, HPL⟩ : ∃ q, Hid (place D S = q) := ⟨_, Lib.hid rfl⟩
      have hpl : 0 ≤ pl := by rw [← HPL.out, place_iff, HDD.out, hSS]; exact dwn_place HOP.out hm10 hLR
      have hpl2 : ¬ pl < 0 := by omega
      have HPA : Hid (partL S L = true) := by show _ = _; rw [hSS]; exact dwn_part HOP.out hLR
      have HP := rPlace_any A9 A5 n9 n5 c9 c5 D S w8 h9 h5
      rw [HPL.out] at HP
      have HP := Lib.hid HP
      clear hSS hLR
      go_wp2_with fail
      refine HP.out.mono ?_
      rintro e wq ⟨rfl, zq, rfl⟩
      have T : Below w8.heap.size w8 (w8.drewN zq) := below_drewN (Below.refl _ _) zq
      obtain ⟨wy, HWY⟩ : ∃ x, Hid (x = w8.drewN zq) := ⟨_, Lib.hid rfl⟩
      rw [← HWY.out] at T ⊢
      have HWI := rWithin_any AL A5 k n5 cL c5 L S wy (hL.next stab_RI T) (h5.next stab_RI T)
      rw [HPA.out] at HWI
      have HWI := Lib.hid HWI
      go_wp2_with fail
      refine HWI.out.mono ?_
      rintro e wq ⟨rfl, rfl⟩
      go_wp2_with fail
      go_meet
      exact ⟨rfl, T⟩
  case rest =>
    obtain ⟨rfl, hTc⟩ := hcut
    obtain ⟨w9, HCw9⟩ : ∃ wq : World, wq = wc := ⟨_, rfl⟩
    subst HCw9
    replace hA := hA.next stab_RVI hTc
    replace hL := hL.next stab_RI hTc
    replace BX := BX.next hTc
    replace h5 := h5.next stab_RI hTc
    replace h9 := h9.next stab_RVI hTc
    replace T2 := below_next T2 hTc rfl
    clear cX0
    have cX0 := BX.cell 0
    simp at cX0
    clear hTc
    obtain ⟨b6, HB6⟩ : ∃ b, Hid (decide ((m : Int) ≤ 6) = b) := ⟨_, Lib.hid rfl⟩
    go_upto_if 97 with fail
    rw [HB6.out]
    go_cut [14, 15, 16, 17, 18, 19] from 98 to 138 (fun _ _ _ _ _ _ wx => Below w9.heap.size w9 wx)
    case first =>
      rcases b6 with _ | _
      rotate_left
      · have h6i : (m : Int) ≤ 6 := by simpa using HB6.out
        have h6 : m ≤ 6 := by omega
        have HRES : Hid (sysRes (m : Int) D = true) := by show _ = _; rw [HDD.out]; exact ds_res HOP.out h6
        have HIN6 : Hid (inB (m : Int) 0 6 = true) := by show _ = _; unfold inB; simp; omega
        have T2 : Below w9.heap.size w9 w9 := Below.refl _ _
        have HC : Hid (Calls Tryz.prog 14 #[.int .i64 (m : Int), .slice A9 n9 c9] w9 (Bl w9 (.tuple #[.bool true, .bool true]))) := by
          have := implIsSys_any A9 n9 c9 D (m : Int) w9 h9 hc9 HDC.out
          rw [HRES.out, HIN6.out] at this
          exact this
        go_wp2_with fail
        refine HC.out.mono ?_
        rintro e w10 ⟨rfl, T⟩
        clear HC
        replace hA := hA.next stab_RVI T
        replace hL := hL.next stab_RI T
        replace BX := BX.next T
        replace h5 := h5.next stab_RI T
        replace h9 := h9.next stab_RVI T
        replace T2 := below_next T2 T rfl
        clear cX0
        have cX0 := BX.cell 0
        simp at cX0
        clear T
        rcases ok with _ | _
        · go_wp2_with fail
          go_meet
          exact T2
        · obtain ⟨hLR, hSS⟩ := HOKS.out rfl
          have HLR := Lib.hid hLR
          have HSS := Lib.hid hSS
          clear hLR hSS
          have hlit := World.ownsRow_lit (base := w10.heap.size) (e := 3) (size := 1) w10 #[] 0 (Nat.le_refl _) (Nat.zero_le _) rfl
          have hTl : Below w10.heap.size w10 (w10.alloc (.cells #[] 3)) := below_box _ _
          go_wp2_with fail
          go_loopw [16, 17] (fun s i wr => ∃ (j q c : Nat) (A : Option Addr), s = .slice A q c ∧ i = .int .i64 (j : Int) ∧ j ≤ m ∧ q ≤ j ∧ wr.ownsRow w10.heap.size 3 1 (.slice A q c) q (ints (markL j fun y => hasI (y : Int) L)) ∧ Below w10.heap.size w10 wr) (fun _ i _ => m - (intOf i).toNat)
          case atStart => exact ⟨0, 0, 0, _, rfl, rfl, Nat.zero_le _, Nat.le_refl _, hlit, hTl⟩
          case round =>
            clear hlit hTl
            obtain ⟨j, q, cs, AS, rfl, rfl, hj, hmj, hown, hTr⟩ := hrel
            have cX1 := cX0
            clear cX0
            have cX0 := (BX.next hTr).cell 0
            simp at cX0
            by_cases hlt : j < m
            · have hj0 : (0 : Int) ≤ (j : Int) := by omega
              have hj1 : (j : Int) < (m : Int) := by omega
              have HH := Lib.hid (rHas_any AL k cL L (j : Int) wr (hL.next stab_RI hTr))
              obtain ⟨hb, HHB⟩ : ∃ b, Hid (hasI (j : Int) L = b) := ⟨_, Lib.hid rfl⟩
              have HST : Hid (markL (j + 1) (fun y => hasI (y : Int) L) = markL j (fun y => hasI (y : Int) L) ++ if hb then [(j : Int)] else []) := by show _ = _; rw [markL_succ, HHB.out]
              obtain ⟨M, HM⟩ : ∃ M, Hid (markL j (fun y => hasI (y : Int) L) = M) := ⟨_, Lib.hid rfl⟩
              rw [HM.out] at hown HST
              have hz := hTr.size
              rcases hb with _ | _
              · have HS2 : Hid (markL (j + 1) (fun y => hasI (y : Int) L) = M) := by show _ = _; rw [HST.out]; simp
                go_wp2_with fail
                refine HH.out.mono ?_
                rintro e wq ⟨rfl, rfl⟩
                rw [HHB.out]
                go_wp2_with fail
                go_roundw
                case rel => exact ⟨j + 1, q, cs, AS, rfl, by go_num, by omega, by omega, by rw [HS2.out]; exact hown, hTr⟩
                case measure => simp [intOf]; omega
              · have HS2 : Hid (markL (j + 1) (fun y => hasI (y : Int) L) = M ++ [(j : Int)]) := by show _ = _; rw [HST.out]; simp
                go_wp2_with fail
                refine HH.out.mono ?_
                rintro e wq ⟨rfl, rfl⟩
                rw [HHB.out]
                go_wp2_with (at_builtin; refine app1 wr rfl _ _ 27 3 rfl (.int .i64 0) 8 Tryz.underlying27 info_int rfl (by decide) w10.heap.size q cs AS (ints M) rfl hown (.int .i64 (j : Int)) rfl rfl (by omega) hz ?_; intro A2 c2 wz hown9 hg9 hb9)
                rw [ints_snocG] at hown9
                have hT9 := hTr.trans hb9
                clear hown hg9 hb9
                go_roundw
                case rel => exact ⟨j + 1, q + 1, c2, A2, rfl, by go_num, by omega, by omega, by rw [HS2.out]; exact hown9, hT9⟩
                case measure => simp [intOf]; omega
            · obtain rfl : j = m := by omega
              have hj1 : ¬ (j : Int) < (j : Int) := by omega
              obtain ⟨M, HM⟩ : ∃ M, Hid (stL j L = M) := ⟨_, Lib.hid rfl⟩
              have hown' : wr.ownsRow w10.heap.size 3 1 (.slice AS q cs) q (ints M) := by rw [← HM.out]; exact hown
              have HMS : Hid (IsSet j M) := by show IsSet _ _; rw [← HM.out]; exact stL_set L
              have hM := rd_of_own (R := RI) hown' (RI_ints fun v hv => by have := HMS.out.2 v hv; omega)
              obtain ⟨hcr, hco⟩ := ds_close HOP.out h6 HLR.out
              rw [HM.out, ← HDD.out, ← HSS.out] at hcr
              rw [HM.out, ← HDD.out] at hco
              have HCR := Lib.hid hcr
              have HCO := Lib.hid hco
              clear hown hown' hcr hco
              obtain ⟨w90, HX9⟩ : ∃ x : World, x = wr := ⟨_, rfl⟩
              subst HX9
              replace hA := hA.next stab_RVI hTr
              replace hL := hL.next stab_RI hTr
              replace BX := BX.next hTr
              replace h5 := h5.next stab_RI hTr
              replace h9 := h9.next stab_RVI hTr
              replace T2 := below_next T2 hTr rfl
              clear cX0
              have cX0 := BX.cell 0
              simp at cX0
              have HC : Hid (Calls Tryz.prog 16 #[.int .i64 (j : Int), .slice A9 n9 c9, .slice AS q cs] w90 (OwnB w90 S true)) := by
                have := implClosureOf_any A9 AS n9 c9 q cs D M (j : Int) w90 h9 hc9 HDC.out hM
                rw [HCO.out, HCR.out] at this
                exact this
              go_wp2_with fail
              refine HC.out.mono ?_
              rintro e w91 ⟨A18, n18, c18, rfl, ho18, T⟩
              clear HC
              have h18 := rd_of_own (R := RI) ho18 (RI_ints HSB.out)
              clear ho18
              replace h5 := h5.next stab_RI T
              replace BX := BX.next T
              replace T2 := below_next T2 T rfl
              clear cX0
              have cX0 := BX.cell 0
              simp at cX0
              clear T
              have HC := Lib.hid (rInts_any A18 A5 n18 n5 c18 c5 S S w91 h18 h5)
              go_wp2_with fail
              refine HC.out.mono ?_
              rintro e wq ⟨rfl, zq, rfl⟩
              rw [eqL_self]
              have T : Below w91.heap.size w91 (w91.drewN zq) := below_drewN (Below.refl _ _) zq
              obtain ⟨w92, HWw92⟩ : ∃ x, Hid (x = w91.drewN zq) := ⟨_, Lib.hid rfl⟩
              rw [← HWw92.out] at T ⊢
              clear HC
              replace BX := BX.next T
              replace T2 := below_next T2 T rfl
              clear cX0
              have cX0 := BX.cell 0
              simp at cX0
              clear T
              go_wp2_with fail
              go_meet
              exact T2
      · go_wp2_with fail
        go_meet
        exact Below.refl _ _
    case rest =>
      have hTc := hcut
      obtain ⟨w50, HC50⟩ : ∃ wq : World, wq = wc := ⟨_, rfl⟩
      subst HC50
      replace hA := hA.next stab_RVI hTc
      replace BX := BX.next hTc
      replace h9 := h9.next stab_RVI hTc
      replace T2 := below_next T2 hTc rfl
      clear cX0
      have cX0 := BX.cell 0
      simp at cX0
      clear hTc
      obtain ⟨X, HX⟩ : ∃ b, Hid (feRes xss = b) := ⟨_, Lib.hid rfl⟩
      obtain ⟨E, HE⟩ : ∃ b, Hid (posT xss = b) := ⟨_, Lib.hid rfl⟩
      have HXE : Hid (X = extL m F m) := by show _ = _; rw [← HX.out]; unfold feRes; rw [HR.out, if_pos rfl, HXL.out, HF.out]
      have HXB : Hid (∀ v ∈ X, -9223372036854775808 ≤ v ∧ v ≤ 9223372036854775807) := by rw [← HX.out]; exact fe_bd xss
      have HXN : Hid (X.length = m) := by show _ = _; rw [HXE.out, extL_len]
      have HC : Hid (Calls Tryz.prog 17 #[.agg #[.slice AX m cX]] w50 (OwnB w50 X true)) := by
        have := implFe_any AX m cX xss w50 hA
        rw [HR.out, HX.out] at this
        exact this
      go_wp2_with fail
      refine HC.out.mono ?_
      rintro e w51 ⟨A20, n20, c20, rfl, ho20, T⟩
      clear HC
      have hcap := own_capD ho20
      have h20 := rd_of_own (R := RI) ho20 (RI_ints HXB.out)
      have hn20 := h20.len
      rw [HXN.out] at hn20
      subst hn20
      clear ho20
      replace hA := hA.next stab_RVI T
      replace BX := BX.next T
      replace h9 := h9.next stab_RVI T
      replace T2 := below_next T2 T rfl
      clear cX0
      have cX0 := BX.cell 0
      simp at cX0
      clear T
      have HC : Hid (Calls Tryz.prog 18 #[.agg #[.slice AX m cX]] w51 (OwnB w51 X true)) := by
        have := specFe_any AX m cX xss w51 hA
        rw [HR.out, HX.out] at this
        exact this
      go_wp2_with fail
      refine HC.out.mono ?_
      rintro e w52 ⟨A22, n22, c22, rfl, ho22, T⟩
      clear HC
      have h22 := rd_of_own (R := RI) ho22 (RI_ints HXB.out)
      clear ho22
      replace hA := hA.next stab_RVI T
      replace BX := BX.next T
      replace h9 := h9.next stab_RVI T
      replace h20 := h20.next stab_RI T
      replace T2 := below_next T2 T rfl
      clear cX0
      have cX0 := BX.cell 0
      simp at cX0
      clear T
      have HC := Lib.hid (rInts_any A20 A22 m n22 c20 c22 X X w52 h20 h22)
      go_wp2_with fail
      refine HC.out.mono ?_
      rintro e wq ⟨rfl, zq, rfl⟩
      rw [eqL_self]
      have T : Below w52.heap.size w52 (w52.drewN zq) := below_drewN (Below.refl _ _) zq
      obtain ⟨w53, HWw53⟩ : ∃ x, Hid (x = w52.drewN zq) := ⟨_, Lib.hid rfl⟩
      rw [← HWw53.out] at T ⊢
      clear HC
      replace hA := hA.next stab_RVI T
      replace BX := BX.next T
      replace h9 := h9.next stab_RVI T
      replace h20 := h20.next stab_RI T
      replace T2 := below_next T2 T rfl
      clear cX0
      have cX0 := BX.cell 0
      simp at cX0
      clear T
      clear h22
      go_wp2_with fail
      go_loopw [24, 25, 26] (fun i _ _ wr => ∃ k : Nat, k ≤ m + 1 ∧ i = .int .i64 (k : Int) ∧ Below w53.heap.size w53 wr) (fun i _ _ _ => m + 1 - (intOf i).toNat)
      case atStart => exact ⟨0, Nat.zero_le _, rfl, Below.refl _ _⟩
      case round =>
        obtain ⟨i, hi, rfl, hTi⟩ := hrel
        obtain ⟨wo, HWO⟩ : ∃ x : World, x = wr := ⟨_, rfl⟩
        subst HWO
        clear cX0
        have cX0 := (BX.next hTi).cell 0
        simp at cX0
        by_cases hlt : i ≤ m
        · have hi0 : (0 : Int) ≤ (i : Int) := by omega
          have hi1 : (i : Int) ≤ (m : Int) := by omega
          have hi2 : (i : Int) ≤ (c20 : Int) := by omega
          have hi3 : i ≤ c20 := by omega
          have HTK : Hid (∀ wz, Below wo.heap.size wo wz → RdL RI wz A20 i (X.take i)) := fun wz hz => (h20.next stab_RI (below_next hTi hz rfl)).take hlt
          obtain ⟨XT, HXT⟩ : ∃ b, Hid (X.take i = b) := ⟨_, Lib.hid rfl⟩
          rw [HXT.out] at HTK
          have HPL : Hid (stL m XT ∈ D) := by show _ ∈ _; rw [HDD.out, ← HXT.out, HXE.out]; exact ext_place HOP.out hm10 hlt
          have hlit := World.ownsRow_lit (base := wo.heap.size) (e := 3) (size := 1) wo #[] 0 (Nat.le_refl _) (Nat.zero_le _) rfl
          have hTl : Below wo.heap.size wo (wo.alloc (.cells #[] 3)) := below_box _ _
          go_wp2_with fail
          go_loopw [25, 26] (fun s x wr => ∃ (j q c : Nat) (A : Option Addr), s = .slice A q c ∧ x = .int .i64 (j : Int) ∧ j ≤ m ∧ q ≤ j ∧ wr.ownsRow wo.heap.size 3 1 (.slice A q c) q (ints (markL j fun y => hasI (y : Int) XT)) ∧ Below wo.heap.size wo wr) (fun _ x _ => m - (intOf x).toNat)
          case atStart => exact ⟨0, 0, 0, _, rfl, rfl, Nat.zero_le _, Nat.le_refl _, hlit, hTl⟩
          case round =>
            clear hlit hTl
            obtain ⟨j, q, cs, AS, rfl, rfl, hj, hmj, hown, hTr⟩ := hrel
            have hToi := below_next hTi hTr rfl
            clear cX0
            have cX0 := (BX.next hToi).cell 0
            simp at cX0
            by_cases hlj : j < m
            · have hj0 : (0 : Int) ≤ (j : Int) := by omega
              have hj1 : (j : Int) < (m : Int) := by omega
              have HH := Lib.hid (rHas_any A20 i c20 XT (j : Int) wr (HTK.out wr hTr))
              obtain ⟨hb, HHB⟩ : ∃ b, Hid (hasI (j : Int) XT = b) := ⟨_, Lib.hid rfl⟩
              have HST : Hid (markL (j + 1) (fun y => hasI (y : Int) XT) = markL j (fun y => hasI (y : Int) XT) ++ if hb then [(j : Int)] else []) := by show _ = _; rw [markL_succ, HHB.out]
              obtain ⟨M, HM⟩ : ∃ M, Hid (markL j (fun y => hasI (y : Int) XT) = M) := ⟨_, Lib.hid rfl⟩
              rw [HM.out] at hown HST
              have hz := hTr.size
              rcases hb with _ | _
              · have HS2 : Hid (markL (j + 1) (fun y => hasI (y : Int) XT) = M) := by show _ = _; rw [HST.out]; simp
                go_wp2_with fail
                refine HH.out.mono ?_
                rintro e wq ⟨rfl, rfl⟩
                rw [HHB.out]
                go_wp2_with fail
                go_roundw
                case rel => exact ⟨j + 1, q, cs, AS, rfl, by go_num, by omega, by omega, by rw [HS2.out]; exact hown, hTr⟩
                case measure => simp [intOf]; omega
              · have HS2 : Hid (markL (j + 1) (fun y => hasI (y : Int) XT) = M ++ [(j : Int)]) := by show _ = _; rw [HST.out]; simp
                go_wp2_with fail
                refine HH.out.mono ?_
                rintro e wq ⟨rfl, rfl⟩
                rw [HHB.out]
                go_wp2_with (at_builtin; refine app1 wr rfl _ _ 27 3 rfl (.int .i64 0) 8 Tryz.underlying27 info_int rfl (by decide) wo.heap.size q cs AS (ints M) rfl hown (.int .i64 (j : Int)) rfl rfl (by omega) hz ?_; intro A2 c2 wz hown9 hg9 hb9)
                rw [ints_snocG] at hown9
                have hT9 := hTr.trans hb9
                clear hown hg9 hb9
                go_roundw
                case rel => exact ⟨j + 1, q + 1, c2, A2, rfl, by go_num, by omega, by omega, by rw [HS2.out]; exact hown9, hT9⟩
                case measure => simp [intOf]; omega
            · obtain rfl : j = m := by omega
              have hj1 : ¬ (j : Int) < (j : Int) := by omega
              obtain ⟨M, HM⟩ : ∃ M, Hid (stL j XT = M) := ⟨_, Lib.hid rfl⟩
              have hown' : wr.ownsRow wo.heap.size 3 1 (.slice AS q cs) q (ints M) := by rw [← HM.out]; exact hown
              have HMS : Hid (IsSet j M) := by show IsSet _ _; rw [← HM.out]; exact stL_set XT
              have hM := rd_of_own (R := RI) hown' (RI_ints fun v hv => by have := HMS.out.2 v hv; omega)
              rw [HM.out] at HPL
              obtain ⟨pl, HPP⟩ : ∃ q, Hid (place D M = q) := ⟨_, Lib.hid rfl⟩
              have hpl : 0 ≤ pl := by rw [← HPP.out, place_iff]; exact HPL.out
              have hpl2 : ¬ pl < 0 := by omega
              have HP := rPlace_any A9 AS n9 q c9 cs D M wr (h9.next stab_RVI hToi) hM
              rw [HPP.out] at HP
              have HP := Lib.hid HP
              clear hown hown'
              go_wp2_with fail
              refine HP.out.mono ?_
              rintro e wq ⟨rfl, zq, rfl⟩
              have T : Below wr.heap.size wr (wr.drewN zq) := below_drewN (Below.refl _ _) zq
              obtain ⟨wy, HWY⟩ : ∃ x, Hid (x = wr.drewN zq) := ⟨_, Lib.hid rfl⟩
              rw [← HWY.out] at T ⊢
              have hTy := below_next hToi T rfl
              go_wp2_with fail
              go_roundw
              case rel => exact ⟨i + 1, by omega, by go_num, hTy⟩
              case measure => simp [intOf]; omega
        · have hi1 : ¬ (i : Int) ≤ (m : Int) := by omega
          obtain ⟨w70, HC70⟩ : ∃ x : World, x = wo := ⟨_, rfl⟩
          subst HC70
          replace hA := hA.next stab_RVI hTi
          replace BX := BX.next hTi
          replace T2 := below_next T2 hTi rfl
          clear cX0
          have cX0 := BX.cell 0
          simp at cX0
          clear hTi
          have HC : Hid (Calls Tryz.prog 19 #[.agg #[.slice AX m cX]] w70 (Bl w70 (.tuple #[.string E, .bool true]))) := by
            have := implPt_any AX m cX xss w70 hA
            rw [HR.out, HE.out] at this
            exact this
          go_wp2_with fail
          refine HC.out.mono ?_
          rintro e w71 ⟨rfl, T⟩
          clear HC
          replace hA := hA.next stab_RVI T
          replace BX := BX.next T
          replace T2 := below_next T2 T rfl
          clear cX0
          have cX0 := BX.cell 0
          simp at cX0
          clear T
          have HC : Hid (Calls Tryz.prog 20 #[.agg #[.slice AX m cX]] w71 (Bl w71 (.tuple #[.string E, .bool true]))) := by
            have := specPt_any AX m cX xss w71 hA
            rw [HR.out, HE.out] at this
            exact this
          go_wp2_with fail
          refine HC.out.mono ?_
          rintro e w72 ⟨rfl, T⟩
          clear HC
          replace BX := BX.next T
          replace T2 := below_next T2 T rfl
          clear cX0
          have cX0 := BX.cell 0
          simp at cX0
          clear T
          go_wp2_with fail
          go_ret
          exact ⟨rfl, T2⟩
theorem lawDsT (A : Option Addr) (n c : Nat) (code : List Int) (w : World) (h : RdL RU8 w A n code) (tab : Tab w) : Calls Tryz.prog 3 #[.slice A n c] w (Bl w (.bool true)) := lawDs A n c code w h
end Go.Proofs.YtkmgbdljiajlaaaGreatDoor
namespace Go.Proofs.YtkmgbdljiajlaaaGreatDoor
open Go.ChangeShapes Go.WideShapes Go.ChangeAt Go.RowKit

theorem own : ownKnob Tryz.prog.godebug = none := by kernel_rfl
theorem laidOut : laidOutB Tryz.prog = true := by kernel_rfl
def laidL : List (String × DataW Unit) := [("math/bits.deBruijn32tab", Rows.laid_math_bits_deBruijn32tab), ("math/bits.deBruijn64tab", Rows.laid_math_bits_deBruijn64tab), ("internal/strconv.uint64pow10", Rows.laid_internal_strconv_uint64pow10)]
set_option maxRecDepth 100000 in
theorem door_met (os : Os) (args : Array Value) : laidMetH Tryz.prog laidL ((World.doorLaid Tryz.prog 24 os).forCall (fun _ _ => 0) ⟨#[], args, []⟩).memory :=
  laidMetH_of_parts3 (fuel := 8) (laidMet_of_run' 8 (by kernel_rfl) (by kernel_rfl)) (by kernel_rfl) (by kernel_rfl)
theorem gT : Tryz.prog.globalNamed "internal/strconv.uint64pow10" = some 0 := by kernel_rfl
theorem gTType : (Tryz.prog.globals[0]?).map (·.type) = some 127 := by kernel_rfl
theorem tab_datum : (Rows.laid_internal_strconv_uint64pow10 : DataW Unit) = Lib.tabData .u64 Lib.pow10Tab := by
  unfold Rows.laid_internal_strconv_uint64pow10 Lib.tabData Lib.pow10Tab
  rfl
set_option maxRecDepth 100000 in
theorem tab_of_laid {W : World} (h : laidMetH Tryz.prog laidL W) : Tab W := by
  rw [MakeChecks.laidMetH_plain _ _ _ (by kernel_rfl)] at h
  unfold laidL at h
  rw [tab_datum] at h
  obtain ⟨ps, ⟨g0, t0, cs0, f0, p0, q0, hg0, ht0, hv0, hd0, ⟨g1, t1, cs1, f1, p1, q1, hg1, ht1, hv1, hd1, ⟨g2, t2, cs2, f2, p2, q2, hg2, ht2, hv2, hd2, _, _⟩, _⟩, _⟩, _⟩ := h
  obtain rfl := Option.some.inj (gT.symm.trans hg2)
  obtain rfl := Option.some.inj (gTType.symm.trans ht2)
  unfold Tab Lib.TabIs
  rw [hv2, ← Lib.cells_of_tab Tryz.underlying127 Tryz.underlying45 (by kernel_rfl) (by kernel_rfl) hd2]
end Go.Proofs.YtkmgbdljiajlaaaGreatDoor
