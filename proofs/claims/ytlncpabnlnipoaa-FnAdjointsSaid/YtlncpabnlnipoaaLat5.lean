
/- Walks: LeastFixedPoint (the program's). -/
import Derived.Test.YtlncpabnlnipoaaLat2
namespace Go.Proofs.Ytlncpabnlnipoaa
open Go.RowKit

theorem fAt_lt {fs : List Int} {x n : Nat} (hin : ∀ v ∈ fs, 0 ≤ v ∧ v ≤ (n : Int) - 1) (hx : x < fs.length) : fAt fs x < n := by
  unfold fAt
  rw [List.getD_eq_getElem?_getD, List.getElem?_eq_getElem hx]
  have := hin _ (List.getElem_mem hx)
  show (fs[x]).toNat < n
  omega

set_option maxRecDepth 20000 in
set_option maxHeartbeats 4000000 in
theorem implLf_any (A C : Option Addr) (n l c e : Nat) (xss : List (List Int)) (fs : List Int) (w : World) (h : RdL (RV RI) w A n xss) (hf : RdL RI w C l fs) :
    Calls Try.prog 14 #[.agg #[.slice A n c], .slice C l e] w (LfE w n l xss fs) := by
  obtain ⟨w0, hw0, T0, hsz0, BX⟩ := boxes1a w #[.slice A n c] 26
  have HW0 := Lib.hid hw0
  have cX := BX.c0
  rw [HW0.out] at cX
  have h0 := h.next stab_RVI T0
  have hf0 := hf.next stab_RI T0
  clear hw0 hsz0
  rcases h1 : tt (GoodP xss ∧ LatP (leF xss) n) with _ | _
  · have H0 : Hid (lfB n l xss fs = false) := by
      show _ = _
      rcases hq : lfB n l xss fs with _ | _
      · rfl
      · unfold lfB mapS at hq
        simp only [Bool.and_eq_true, tt_iff] at hq
        rw [← tt_true ⟨hq.1.1.1, hq.2.1⟩] at h1
        cases h1
    have H1 := Lib.hid h1
    clear h1
    go_enter Try.func14, Try.ntmps14
    go_wp2_with fail
    rw [← HW0.out]
    refine (latticeOf_any _ _ _ _ _ h0).mono ?_
    rintro e w2 ⟨v, rfl, -, hb1⟩
    rw [H1.out]
    have T1 := below_next T0 hb1 rfl
    go_wp2_with fail
    go_quiet (fail)
    go_wp2_with fail
    go_ret2
    exact LfE.no H0.out (below_drewN T1 _)
  · obtain ⟨hg, hL⟩ := tt_iff.1 h1
    have H1 := Lib.hid h1
    have HGL : Hid (GoodP xss ∧ LatP (leF xss) n) := ⟨hg, hL⟩
    have HORD : Hid (OrdP n (leF xss)) := by show OrdP _ _; rw [← h.len]; exact hg.2.2
    have HB : Hid (∀ a b, mapB n n l fs = a → (a = true → tt (MonP n (leF xss) (leF xss) fs) = b) → lfB n l xss fs = (a && b)) := by
      intro a b ha hb
      unfold lfB mapS
      rw [← tt_true hg, ha]
      rcases a with _ | _
      · rfl
      · rw [← hb rfl]
        exact tt_congr ⟨fun hh => hh.2, fun hh => ⟨hL, hh⟩⟩
    clear h1 hg hL
    have hle := h.le
    rcases h4 : mapB n n l fs with _ | _
    · have H4 := Lib.hid h4
      have H0 : Hid (lfB n l xss fs = false) := HB.out false false h4 (fun hh => by cases hh)
      have HC : ∀ A1 c1 wz, RdL RI wz C l fs → Calls Try.prog 29 #[.slice A1 n c1, .slice A1 n c1, .slice C l e] wz (Qt wz (.bool false)) := fun A1 c1 wz hz => by
        have := quiet_same (isPosetMap_any A1 A1 C n n l c1 c1 e fs wz hz)
        rwa [H4.out] at this
      clear h4
      go_enter Try.func14, Try.ntmps14
      go_wp2_with fail
      rw [← HW0.out]
      refine (latticeOf_any _ _ _ _ _ h0).mono ?_
      rintro e w2 ⟨v, rfl, hv, hb1⟩
      rw [H1.out]
      obtain ⟨g, A1, c1, A2, c2, A3, m3, c3, rfl, BL, r1, r2⟩ := hv HGL.out
      have T1 := below_next T0 hb1 rfl
      have hf2 := hf0.next stab_RI hb1
      have q0 := BL.cell 0
      simp at q0
      go_wp2_with fail
      go_quiet ((go_at_call 29; exact quiet_one (HC _ _ _ (hf2.drewN stab_RI _))))
      go_wp2_with fail
      go_ret2
      exact LfE.no H0.out (below_drewN T1 _)
    · obtain ⟨rfl, hin⟩ := mapB_in h4
      have HIN := Lib.hid hin
      have HC : ∀ A1 c1 wz, RdL RI wz C l fs → Calls Try.prog 29 #[.slice A1 l c1, .slice A1 l c1, .slice C l e] wz (Qt wz (.bool true)) := fun A1 c1 wz hz => by
        have := quiet_same (isPosetMap_any A1 A1 C l l l c1 c1 e fs wz hz)
        rwa [h4] at this
      rcases h5 : tt (MonP l (leF xss) (leF xss) fs) with _ | _
      · have H0 : Hid (lfB l l xss fs = false) := HB.out true false h4 (fun _ => h5)
        have HC2 : ∀ A1 c1 wz, RdL (RV RB) wz A1 l (tab l (leF xss)) → RdL RI wz C l fs → Calls Try.prog 36 #[.slice A1 l c1, .slice A1 l c1, .slice C l e] wz (Qt wz (.bool false)) := fun A1 c1 wz h1 hz => by
          have := monotone_any A1 A1 C l l c1 c1 e (leF xss) (leF xss) fs wz h1 h1 hz HIN.out
          rwa [h5] at this
        clear h4 h5 hin
        go_enter Try.func14, Try.ntmps14
        go_wp2_with fail
        rw [← HW0.out]
        refine (latticeOf_any _ _ _ _ _ h0).mono ?_
        rintro e w2 ⟨v, rfl, hv, hb1⟩
        rw [H1.out]
        obtain ⟨g, A1, c1, A2, c2, A3, m3, c3, rfl, BL, r1, r2⟩ := hv HGL.out
        have T1 := below_next T0 hb1 rfl
        have hf2 := hf0.next stab_RI hb1
        have q0 := BL.cell 0
        simp at q0
        go_wp2_with fail
        go_quiet (first | (go_at_call 29; exact quiet_one (HC _ _ _ (hf2.drewN stab_RI _))) | (go_at_call 36; exact quiet_one (HC2 _ _ _ (r1.drewN stab_RVB _) (hf2.drewN stab_RI _))))
        go_wp2_with fail
        go_ret2
        exact LfE.no H0.out (below_drewN T1 _)
      · have H0 : Hid (lfB l l xss fs = true) := HB.out true true h4 (fun _ => h5)
        have HMON := Lib.hid (tt_iff.1 h5)
        have HC2 : ∀ A1 c1 wz, RdL (RV RB) wz A1 l (tab l (leF xss)) → RdL RI wz C l fs → Calls Try.prog 36 #[.slice A1 l c1, .slice A1 l c1, .slice C l e] wz (Qt wz (.bool true)) := fun A1 c1 wz h1 hz => by
          have := monotone_any A1 A1 C l l c1 c1 e (leF xss) (leF xss) fs wz h1 h1 hz HIN.out
          rwa [h5] at this
        have hbl : bot (leF xss) l < l := (botTo_ok HORD.out HGL.out.2.2.1 HGL.out.2.1 l (Nat.le_refl _)).1
        clear h4 h5 hin
        go_enter Try.func14, Try.ntmps14
        go_wp2_with fail
        rw [← HW0.out]
        refine (latticeOf_any _ _ _ _ _ h0).mono ?_
        rintro e w2 ⟨v, rfl, hv, hb1⟩
        rw [H1.out]
        obtain ⟨g, A1, c1, A2, c2, A3, m3, c3, rfl, BL, r1, r2⟩ := hv HGL.out
        have T1 := below_next T0 hb1 rfl
        have hf2 := hf0.next stab_RI hb1
        have q0 := BL.cell 0
        simp at q0
        go_wp2_with fail
        go_quiet (first | (go_at_call 29; exact quiet_one (HC _ _ _ (hf2.drewN stab_RI _))) | (go_at_call 36; exact quiet_one (HC2 _ _ _ (r1.drewN stab_RVB _) (hf2.drewN stab_RI _))))
        go_wp2_with fail
        refine (bottom_any A1 A2 A3 g l c1 c2 m3 c3 (leF xss) _ (BL.drewN _) (r2.drewN stab_RVI _) HORD.out HGL.out.2.2.1 HGL.out.2.1).mono ?_
        rintro e w4 ⟨rfl, rfl⟩
        obtain ⟨b, HBo⟩ : ∃ b, Hid (bot (leF xss) l = b) := ⟨_, rfl⟩
        rw [HBo.out] at hbl ⊢
        have HST : Hid (LfpI (leF xss) fs l b 0 b) := by
          have h9 := fAt_lt (x := b) HIN.out (by rw [hf.len]; exact hbl)
          have := (botTo_ok HORD.out HGL.out.2.2.1 HGL.out.2.1 l (Nat.le_refl _)).2 _ h9
          have e9 : botTo (leF xss) l l = b := HBo.out
          rw [e9] at this
          exact LfpI.start HORD.out hbl this
        go_wp2_with fail
        go_loop [8] (fun x => ∃ j y : Nat, x = .int .i64 y ∧ Hid (LfpI (leF xss) fs l b j y)) (fun x => l - rk (leF xss) l (intOf x).toNat)
        case atStart => exact ⟨0, b, rfl, HST⟩
        case round =>
          obtain ⟨j, y, rfl, HI⟩ := hrel
          have hyl : y < l := HI.out.1
          obtain ⟨fb, fo, v, y', rfl, hcf, ⟨rfl, -⟩, -, hy⟩ := hf2.at hyl
          have hym := HIN.out y' (List.mem_of_getElem? hy)
          obtain ⟨y', rfl⟩ := Int.eq_ofNat_of_zero_le hym.1
          have HY := Lib.hid (fAt_get hy)
          have hy0 : (0 : Int) ≤ (y : Int) := by omega
          have hy1 : (y : Int) < (l : Int) := by omega
          have hy2 : y' < l := by omega
          clear hy hym
          by_cases hne : y' = y
          · subst hne
            go_wp2
            go_ret2
            exact LfE.yes H0.out (by rw [HBo.out]; exact HI.out.done HY.out) (below_drewN T1 _)
          · have hne' : ¬ (y' : Int) = (y : Int) := by omega
            have HNE := Lib.hid hne
            clear hne
            go_wp2
            go_round
            case rel => exact ⟨j + 1, y', rfl, HI.out.next HORD.out HMON.out hy2 HY.out HNE.out⟩
            case measure =>
              have h1 := HI.out.2.1
              rw [HY.out] at h1
              have h2 := rk_lt HORD.out hyl hy2 h1 (fun e => HNE.out e.symm)
              have h3 := rk_le (leF xss) l y'
              simp [intOf]
              omega
end Go.Proofs.Ytlncpabnlnipoaa
