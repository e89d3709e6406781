
/- Walks: LeastFixedPoint (the reference's). -/
import Derived.Test.YtlncpabnlnipoaaLat8
namespace Go.Proofs.Ytlncpabnlnipoaa
open Go.RowKit

set_option maxRecDepth 20000 in
set_option maxHeartbeats 4000000 in
theorem specLf_any (A C : Option Addr) (n l c e : Nat) (xss : List (List Int)) (fs : List Int) (w : World) (h : RdL (RV RI) w A n xss) (hf : RdL RI w C l fs) :
    Calls Try.prog 15 #[.agg #[.slice A n c], .slice C l e] w (LfE w n l xss fs) := by
  obtain ⟨w0, hw0, T0, hsz0, BX⟩ := boxes1a w #[.slice A n c] 26
  have HW0 := Lib.hid hw0
  have cX := BX.c0
  rw [HW0.out] at cX
  have h0 := h.next stab_RVI T0
  have hf0 := hf.next stab_RI T0
  clear hw0 hsz0
  rcases h1 : tt (GoodP xss ∧ LatP (leF xss) n) with _ | _
  · have H0 : Hid (lfB n l xss fs = false) := by
      show _ = _
      rcases hq : lfB n l xss fs with _ | _
      · rfl
      · unfold lfB mapS at hq
        simp only [Bool.and_eq_true, tt_iff] at hq
        rw [← tt_true ⟨hq.1.1.1, hq.2.1⟩] at h1
        cases h1
    have H1 := Lib.hid h1
    clear h1
    go_enter Try.func15, Try.ntmps15
    go_wp2_with fail
    rw [← HW0.out]
    refine (l24Good_any _ _ _ _ _ h0).mono ?_
    rintro e w2 ⟨rfl, hb1⟩
    rw [H1.out]
    have T1 := below_next T0 hb1 rfl
    go_wp2_with fail
    go_ret2
    exact LfE.no H0.out T1
  · obtain ⟨hg, hL⟩ := tt_iff.1 h1
    have H1 := Lib.hid h1
    have HGL : Hid (GoodP xss ∧ LatP (leF xss) n) := ⟨hg, hL⟩
    have HORD : Hid (OrdP n (leF xss)) := by show OrdP _ _; rw [← h.len]; exact hg.2.2
    have HMI : Hid (tt (MonS xss xss fs n) = tt (MonP n (leF xss) (leF xss) fs)) := tt_congr (mon_iff h.len hg)
    have HB : Hid (∀ a b, mapS n n l xss xss fs = a → (a = true → tt (MonP n (leF xss) (leF xss) fs) = b) → lfB n l xss fs = (a && b)) := by
      intro a b ha hb
      unfold lfB
      rw [ha]
      rcases a with _ | _
      · rfl
      · rw [← hb rfl]
        exact tt_congr ⟨fun hh => hh.2, fun hh => ⟨hL, hh⟩⟩
    clear h1 hg hL
    have hle := h.le
    rcases h4 : mapS n n l xss xss fs with _ | _
    · have H4 := Lib.hid h4
      have H0 : Hid (lfB n l xss fs = false) := HB.out false false h4 (fun hh => by cases hh)
      clear h4
      go_enter Try.func15, Try.ntmps15
      go_wp2_with fail
      rw [← HW0.out]
      refine (l24Good_any _ _ _ _ _ h0).mono ?_
      rintro e w2 ⟨rfl, hb1⟩
      rw [H1.out]
      have T1 := below_next T0 hb1 rfl
      have cX2 := (BX.next hb1).c0
      have h2 := h0.next stab_RVI hb1
      have hf2 := hf0.next stab_RI hb1
      go_wp2_with fail
      refine (l30Map_any _ _ _ _ _ _ _ _ _ _ _ _ _ h2 h2 hf2).mono ?_
      rintro e w3 ⟨rfl, hb2⟩
      rw [H4.out]
      have T2 := below_next T1 hb2 rfl
      go_wp2_with fail
      go_ret2
      exact LfE.no H0.out T2
    · obtain ⟨-, -, -, rfl, hin, -⟩ := mapS_true h4
      have H4 := Lib.hid h4
      have HIN := Lib.hid hin
      rcases h5 : tt (MonP l (leF xss) (leF xss) fs) with _ | _
      · have H0 : Hid (lfB l l xss fs = false) := HB.out true false h4 (fun _ => h5)
        have H5 : Hid (tt (MonS xss xss fs l) = false) := by show _ = _; rw [HMI.out, h5]
        clear h4 h5 hin
        go_enter Try.func15, Try.ntmps15
        go_wp2_with fail
        rw [← HW0.out]
        refine (l24Good_any _ _ _ _ _ h0).mono ?_
        rintro e w2 ⟨rfl, hb1⟩
        rw [H1.out]
        have T1 := below_next T0 hb1 rfl
        have cX2 := (BX.next hb1).c0
        have h2 := h0.next stab_RVI hb1
        have hf2 := hf0.next stab_RI hb1
        go_wp2_with fail
        refine (l30Map_any _ _ _ _ _ _ _ _ _ _ _ _ _ h2 h2 hf2).mono ?_
        rintro e w3 ⟨rfl, hb2⟩
        rw [H4.out]
        have T2 := below_next T1 hb2 rfl
        have cX3 := ((BX.next hb1).next hb2).c0
        replace h2 := h2.next stab_RVI hb2
        replace hf2 := hf2.next stab_RI hb2
        go_wp2_with fail
        refine (l30Monotone_any _ _ _ _ _ _ _ _ _ _ _ _ h2 h2 hf2 HIN.out HGL.out.1).mono ?_
        rintro e w4 ⟨rfl, hb3⟩
        rw [H5.out]
        have T3 := below_next T2 hb3 rfl
        go_wp2_with fail
        go_ret2
        exact LfE.no H0.out T3
      · have H0 : Hid (lfB l l xss fs = true) := HB.out true true h4 (fun _ => h5)
        have HMON := Lib.hid (tt_iff.1 h5)
        have H5 : Hid (tt (MonS xss xss fs l) = true) := by show _ = _; rw [HMI.out, h5]
        have hbl : bot (leF xss) l < l := (botTo_ok HORD.out HGL.out.2.2.1 HGL.out.2.1 l (Nat.le_refl _)).1
        clear h4 h5 hin
        obtain ⟨b, HBo⟩ : ∃ b, Hid (bot (leF xss) l = b) := ⟨_, rfl⟩
        rw [HBo.out] at hbl
        have HST : Hid (LfpI (leF xss) fs l b 0 b) := by
          have h9 := fAt_lt (x := b) HIN.out (by rw [hf.len]; exact hbl)
          have := (botTo_ok HORD.out HGL.out.2.2.1 HGL.out.2.1 l (Nat.le_refl _)).2 _ h9
          have e9 : botTo (leF xss) l l = b := HBo.out
          rw [e9] at this
          exact LfpI.start HORD.out hbl this
        go_enter Try.func15, Try.ntmps15
        go_wp2_with fail
        rw [← HW0.out]
        refine (l24Good_any _ _ _ _ _ h0).mono ?_
        rintro e w2 ⟨rfl, hb1⟩
        rw [H1.out]
        have T1 := below_next T0 hb1 rfl
        have cX2 := (BX.next hb1).c0
        have h2 := h0.next stab_RVI hb1
        have hf2 := hf0.next stab_RI hb1
        go_wp2_with fail
        refine (l30Map_any _ _ _ _ _ _ _ _ _ _ _ _ _ h2 h2 hf2).mono ?_
        rintro e w3 ⟨rfl, hb2⟩
        rw [H4.out]
        have T2 := below_next T1 hb2 rfl
        have cX3 := ((BX.next hb1).next hb2).c0
        replace h2 := h2.next stab_RVI hb2
        replace hf2 := hf2.next stab_RI hb2
        go_wp2_with fail
        refine (l30Monotone_any _ _ _ _ _ _ _ _ _ _ _ _ h2 h2 hf2 HIN.out HGL.out.1).mono ?_
        rintro e w4 ⟨rfl, hb3⟩
        rw [H5.out]
        have T3 := below_next T2 hb3 rfl
        have cX4 := (((BX.next hb1).next hb2).next hb3).c0
        replace h2 := h2.next stab_RVI hb3
        replace hf2 := hf2.next stab_RI hb3
        clear cX cX2 cX3
        go_wp2_with fail
        refine (l24Bottom_any _ _ _ _ _ h2 HGL.out.1 HGL.out.2).mono ?_
        rintro e w5 ⟨rfl, hb4⟩
        rw [HBo.out]
        have T4 := below_next T3 hb4 rfl
        replace hf2 := hf2.next stab_RI hb4
        clear cX4
        go_wp2_with fail
        go_loop [6] (fun x => ∃ j y : Nat, x = .int .i64 y ∧ Hid (LfpI (leF xss) fs l b j y)) (fun x => l - rk (leF xss) l (intOf x).toNat)
        case atStart => exact ⟨0, b, rfl, HST⟩
        case round =>
          obtain ⟨j, y, rfl, HI⟩ := hrel
          have hyl : y < l := HI.out.1
          obtain ⟨fb, fo, v, y', rfl, hcf, ⟨rfl, -⟩, -, hy⟩ := hf2.at hyl
          have hym := HIN.out y' (List.mem_of_getElem? hy)
          obtain ⟨y', rfl⟩ := Int.eq_ofNat_of_zero_le hym.1
          have HY := Lib.hid (fAt_get hy)
          have hy0 : (0 : Int) ≤ (y : Int) := by omega
          have hy1 : (y : Int) < (l : Int) := by omega
          have hy2 : y' < l := by omega
          clear hy hym
          by_cases hne : y' = y
          · subst hne
            go_wp2
            go_ret2
            exact LfE.yes H0.out (by rw [HBo.out]; exact HI.out.done HY.out) T4
          · have hne' : ¬ (y' : Int) = (y : Int) := by omega
            have HNE := Lib.hid hne
            clear hne
            go_wp2
            go_round
            case rel => exact ⟨j + 1, y', rfl, HI.out.next HORD.out HMON.out hy2 HY.out HNE.out⟩
            case measure =>
              have h1 := HI.out.2.1
              rw [HY.out] at h1
              have h2 := rk_lt HORD.out hyl hy2 h1 (fun e => HNE.out e.symm)
              have h3 := rk_le (leF xss) l y'
              simp [intOf]
              omega
end Go.Proofs.Ytlncpabnlnipoaa
