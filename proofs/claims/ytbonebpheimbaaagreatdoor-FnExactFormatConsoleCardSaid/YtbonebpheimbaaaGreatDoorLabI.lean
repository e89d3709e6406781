
/- Walk: IsLab in the program. isTrueOf's contract comes in as an argument; the facts' row has room for its own length. -/
import Derived.Test.YtbonebpheimbaaaGreatDoorFIdx
namespace Go.Proofs.YtbonebpheimbaaaGreatDoor
open Go.RowKit
set_option linter.unusedVariables false

theorem ret_b {b c : Bool} (h : b = c) : Ending.returned (.bool b) = .returned (.bool c) := by rw [h]
theorem RdN.take {α : Type} {m : Nat} {R : World → List Value → α → Prop} {w : World} {A : Option Addr} {n k : Nat} {xs : List α} (h : RdN m R w A n xs) (hk : k ≤ n) : RdN m R w A k (xs.take k) :=
  ⟨by rw [List.length_take, h.1]; omega, Nat.le_trans hk h.2.1, fun i x hi => h.2.2 i x (by
    rw [List.getElem?_take] at hi
    split at hi
    · exact hi
    · exact absurd hi (by simp))⟩
set_option maxRecDepth 20000 in
set_option maxHeartbeats 16000000 in
theorem implIsLab_any (HIT : ∀ (cs ds : List Value) (x : AlgebraM) (f : FactM) (w : World), shAlgebra.rd w cs x → shFact.rd w ds f → algB x = true → Calls Tryz.prog 36 #[.agg cs.toArray, .agg ds.toArray] w (Bl w (.bool (trueB x f)))) (cs : List Value) (x : LabM) (w : World) (h : shLab.rd w cs x) (hcap : ∀ F n c, cs[3]? = some (.slice F n c) → n ≤ c) :
    Calls Tryz.prog 17 #[.agg cs.toArray] w (Bl w (.bool (labB x))) := by
  obtain ⟨op, ⟨z, os⟩, fs, r⟩ := x
  obtain ⟨B, k, d, F, n, c, rfl, qz, qB, qF, qr⟩ := rdLab h
  have hcn : n ≤ c := hcap F n c rfl
  clear hcap
  have qA : shAlgebra.rd w [.int .i64 z, .slice B k d] (z, os) := mkAlgebra (x := (z, os)) qz qB
  have HLK : Hid (os.length = k) := qB.len
  have HLN : Hid (fs.length = n) := qF.len
  have hlk := qB.le
  have hln := qF.le
  have hr0 : -9223372036854775808 ≤ r := qr.1
  have hr1 : r ≤ 9223372036854775807 := qr.2
  show Calls Tryz.prog 17 #[.agg #[.bool op, .int .i64 z, .slice B k d, .slice F n c, .int .i64 r]] w (Bl w (.bool (labB (op, (z, os), fs, r))))
  obtain ⟨w0, hw0, T0, hsz0, BP⟩ := boxes1 w #[.bool op, .int .i64 z, .slice B k d, .slice F n c, .int .i64 r] 39
  have HW0 := Lib.hid hw0
  have H1 : Hid (∀ wz, Below w0.heap.size w0 wz → shAlgebra.rd wz [.int .i64 z, .slice B k d] (z, os)) := fun wz hz => shAlgebra.stab (shAlgebra.stab qA T0.block) hz.block
  have HIF := Lib.hid HIT
  have HQF := Lib.hid (qF.next T0)
  have cP0 := BP.cell 0
  have cP1 := BP.cell 1
  have cP2 := BP.cell 2
  have cP3 := BP.cell 3
  have cP4 := BP.cell 4
  simp at cP0 cP1 cP2 cP3 cP4
  clear hw0 hsz0 qz qB qF qr qA h HIT
  go_enter Tryz.func17, Tryz.ntmps17
  go_upto_region 1 with fail
  rw [← HW0.out]
  by_cases hlo : r < 0
  · have HL : Hid (false = labB (op, (z, os), fs, r)) := (labB_lo (x := (op, (z, os), fs, r)) hlo).symm
    go_wp2_with fail
    go_ret
    exact ⟨ret_bool HL.out, T0⟩
  by_cases hhi : 9999 < r
  · have HL : Hid (false = labB (op, (z, os), fs, r)) := (labB_hi (x := (op, (z, os), fs, r)) hhi).symm
    go_wp2_with fail
    go_ret
    exact ⟨ret_bool HL.out, T0⟩
  rcases op with _ | _
  · have HL : Hid (labB (false, (z, os), fs, r) = (decide (z = 0) && decide (k = 0) && decide (n = 0))) := by
      show _ = _
      rw [← HLK.out, ← HLN.out]
      exact labB_shut (x := (false, (z, os), fs, r)) (by show 0 ≤ r; omega) (by show r ≤ 9999; omega) rfl
    obtain ⟨b1, HB1⟩ : ∃ b, Hid (decide (z = 0) = b) := ⟨_, rfl⟩
    obtain ⟨b2, HB2⟩ : ∃ b, Hid (decide (k = 0) = b) := ⟨_, rfl⟩
    obtain ⟨b3, HB3⟩ : ∃ b, Hid (decide (n = 0) = b) := ⟨_, rfl⟩
    have e1 : (z == 0) = b1 := by rw [← HB1.out, Bool.eq_iff_iff, beq_iff_eq, decide_eq_true_iff]
    have e2 : ((k : Int) == 0) = b2 := eq0_nat HB2.out
    have e3 : ((n : Int) == 0) = b3 := eq0_nat HB3.out
    have HRES : Hid ((b1 && b2 && b3) = labB (false, (z, os), fs, r)) := by show _ = _; rw [HL.out, HB1.out, HB2.out, HB3.out]
    rcases b1 with _ | _ <;> rcases b2 with _ | _ <;> rcases b3 with _ | _
    all_goals
      go_wp2_with fail
      go_ret
      exact ⟨ret_bool HRES.out, T0⟩
  · have HL : Hid (labB (true, (z, os), fs, r) = (algB (z, os) && decide (n ≤ 12) && goFs (z, os) [] fs)) := by
      show _ = _
      rw [← HLN.out]
      exact labB_open (x := (true, (z, os), fs, r)) (by show 0 ≤ r; omega) (by show r ≤ 9999; omega) rfl
    have HA := Lib.hid (isAlgebra_any _ (z, os) w0 (H1.out _ (Below.refl _ _)))
    obtain ⟨ab, HAB⟩ : ∃ b, Hid (algB (z, os) = b) := ⟨_, rfl⟩
    rw [HAB.out] at HA
    have HLA : Hid ((ab && decide (n ≤ 12) && goFs (z, os) [] fs) = labB (true, (z, os), fs, r)) := by show _ = _; rw [HL.out, HAB.out]
    go_wp2_with fail
    refine HA.out.mono ?_
    rintro e w1 ⟨rfl, hb1⟩
    have kP0 := keepc hb1 cP0
    have kP1 := keepc hb1 cP1
    have kP2 := keepc hb1 cP2
    have kP3 := keepc hb1 cP3
    have T1 := below_next T0 hb1 rfl
    rcases ab with _ | _
    · go_wp2_with fail
      go_ret
      exact ⟨ret_bool HLA.out, T1⟩
    by_cases h12 : n ≤ 12
    case neg =>
      have hgt : (12 : Int) < (n : Int) := by omega
      have HRES : Hid (false = labB (true, (z, os), fs, r)) := by show _ = _; rw [← HLA.out, decide_eq_false h12]; rfl
      go_wp2_with fail
      go_ret
      exact ⟨ret_bool HRES.out, T1⟩
    have hgt : ¬ (12 : Int) < (n : Int) := by omega
    have HRES : Hid (goFs (z, os) [] fs = labB (true, (z, os), fs, r)) := by show _ = _; rw [← HLA.out, decide_eq_true h12]; rfl
    go_wp2_with fail
    go_loopw [46] (fun i wr => ∃ j : Nat, j ≤ n ∧ i = .int .i64 j ∧ Hid (FsAt (z, os) fs j) ∧ Below w0.heap.size w0 wr) (fun i _ => n - (intOf i).toNat)
    case atStart => exact ⟨0, Nat.zero_le _, rfl, FsAt.zero _ _, hb1⟩
    case round =>
      obtain ⟨j, hj, rfl, HF, hTr⟩ := hrel
      by_cases hlt : j < n
      · have hk0 : (0 : Int) ≤ (j : Int) := by omega
        have hk1 : (j : Int) < (n : Int) := by omega
        obtain ⟨b, o, vs, g, rfl, -, hc, hrr, hd, -⟩ := (HQF.out.next hTr).at hlt
        have hrg := hrr
        obtain ⟨BL, mL, eL, BR, mR, eR, BV, mV, eV, rfl, -, -, -, -⟩ := rdFact hrr
        have cc0 : wr.cell? ⟨b, o + j * 4, none⟩ = some (.int .i64 g.1) := hc 0 _ rfl
        have cc1 : wr.cell? ⟨b, o + j * 4 + 1, none⟩ = some (.slice BL mL eL) := hc 1 _ rfl
        have cc2 : wr.cell? ⟨b, o + j * 4 + 2, none⟩ = some (.slice BR mR eR) := hc 2 _ rfl
        have cc3 : wr.cell? ⟨b, o + j * 4 + 3, none⟩ = some (.slice BV mV eV) := hc 3 _ rfl
        have HD := Lib.hid hd
        obtain ⟨w2, hw2, T2, hsz2, BX⟩ := boxes1 wr #[.int .i64 g.1, .slice BL mL eL, .slice BR mR eR, .slice BV mV eV] 62
        have HW2 := Lib.hid hw2
        have T02 := below_next hTr T2 rfl
        have Hg : Hid (∀ wz, Below w2.heap.size w2 wz → shFact.rd wz [.int .i64 g.1, .slice BL mL eL, .slice BR mR eR, .slice BV mV eV] g) := fun wz hz => shFact.stab (shFact.stab hrg T2.block) hz.block
        obtain ⟨tb, HTB⟩ : ∃ b, Hid (trueB (z, os) g = b) := ⟨_, rfl⟩
        obtain ⟨p, HP⟩ : ∃ p, Hid (posF (fs.take j) g = p) := ⟨_, rfl⟩
        have HI : Hid (∀ wz, Below w2.heap.size w2 wz → Calls Tryz.prog 36 #[.agg #[.int .i64 z, .slice B k d], .agg #[.int .i64 g.1, .slice BL mL eL, .slice BR mR eR, .slice BV mV eV]] wz (Bl wz (.bool tb))) := fun wz hz => by
          have := HIF.out _ _ (z, os) g wz (H1.out _ (below_next T02 hz rfl)) (Hg.out _ hz) HAB.out
          rwa [HTB.out] at this
        have HX : Hid (∀ wz, Below w2.heap.size w2 wz → Calls Tryz.prog 37 #[.slice (some ⟨b, o, none⟩) j c, .agg #[.int .i64 g.1, .slice BL mL eL, .slice BR mR eR, .slice BV mV eV]] wz (Bl wz (.int .i64 p))) := fun wz hz => by
          have := factIndex_any (some ⟨b, o, none⟩) j c _ (fs.take j) g wz ((HQF.out.next (below_next T02 hz rfl)).take (by omega)) (Hg.out _ hz)
          rwa [HP.out] at this
        have dP1 := keepc T02 cP1
        have dP2 := keepc T02 cP2
        have dP3 := keepc T02 cP3
        have cX0 := BX.cell 0
        have cX1 := BX.cell 1
        have cX2 := BX.cell 2
        have cX3 := BX.cell 3
        simp at cX0 cX1 cX2 cX3
        have hjc : j ≤ c := by omega
        clear hc hrr hrg hd hw2 hsz2
        go_upto_region 10 with fail
        rw [← HW2.out]
        have Tk : Below w2.heap.size w2 w2 := Below.refl _ _
        have HM : Hid (memF (fs.take j) g = decide (0 ≤ p)) := by show _ = _; unfold memF; rw [HP.out]
        rcases tb with _ | _
        · have HO : Hid (false = labB (true, (z, os), fs, r)) := (HF.out.stop1 HD.out HTB.out).trans HRES.out
          first | (go_region_law (first
            | (go_simp; go_at_call 36; (with_reducible refine (HI.out _ ?_).mono ?_); (first | exact Tk | exact Below.drew Tk | exact below_drewN (Below.refl _ _) _ | exact below_drewN Tk _); rintro e1 wn ⟨rfl, hbn⟩; replace Tk := below_next (by first | exact Tk | exact Below.drew Tk | exact below_drewN (Below.refl _ _) _ | exact below_drewN Tk _) hbn rfl; have xP1 := keepc Tk dP1; have xP2 := keepc Tk dP2; have xP3 := keepc Tk dP3; have x0 := keepc Tk cX0; have x1 := keepc Tk cX1; have x2 := keepc Tk cX2; have x3 := keepc Tk cX3))) | fail
          all_goals
            go_wp2_with fail
            go_ret
            exact ⟨ret_bool HO.out, below_next T0 (below_next T02 (by first | exact Tk | exact Below.drew Tk) rfl) rfl⟩
        · by_cases hp : 0 ≤ p
          · first | (go_region_law (first
                | (go_simp; go_at_call 36; (with_reducible refine (HI.out _ ?_).mono ?_); (first | exact Tk | exact Below.drew Tk | exact below_drewN (Below.refl _ _) _ | exact below_drewN Tk _); rintro e1 wn ⟨rfl, hbn⟩; replace Tk := below_next (by first | exact Tk | exact Below.drew Tk | exact below_drewN (Below.refl _ _) _ | exact below_drewN Tk _) hbn rfl; have xP1 := keepc Tk dP1; have xP2 := keepc Tk dP2; have xP3 := keepc Tk dP3; have x0 := keepc Tk cX0; have x1 := keepc Tk cX1; have x2 := keepc Tk cX2; have x3 := keepc Tk cX3)
                | (go_simp; go_at_call 37; (with_reducible refine (HX.out _ ?_).mono ?_); (first | exact Tk | exact Below.drew Tk | exact below_drewN (Below.refl _ _) _ | exact below_drewN Tk _); rintro e1 wn ⟨rfl, hbn⟩; replace Tk := below_next (by first | exact Tk | exact Below.drew Tk | exact below_drewN (Below.refl _ _) _ | exact below_drewN Tk _) hbn rfl; have xP1 := keepc Tk dP1; have xP2 := keepc Tk dP2; have xP3 := keepc Tk dP3; have x0 := keepc Tk cX0; have x1 := keepc Tk cX1; have x2 := keepc Tk cX2; have x3 := keepc Tk cX3))) | fail
            all_goals
              go_wp2_with fail
              go_ret
              exact ⟨ret_bool ((HF.out.stop2 HD.out (by rw [HM.out, decide_eq_true hp])).trans HRES.out), below_next T0 (below_next T02 (by first | exact Tk | exact Below.drew Tk) rfl) rfl⟩
          · first | (go_region_law (first
                | (go_simp; go_at_call 36; (with_reducible refine (HI.out _ ?_).mono ?_); (first | exact Tk | exact Below.drew Tk | exact below_drewN (Below.refl _ _) _ | exact below_drewN Tk _); rintro e1 wn ⟨rfl, hbn⟩; replace Tk := below_next (by first | exact Tk | exact Below.drew Tk | exact below_drewN (Below.refl _ _) _ | exact below_drewN Tk _) hbn rfl; have xP1 := keepc Tk dP1; have xP2 := keepc Tk dP2; have xP3 := keepc Tk dP3; have x0 := keepc Tk cX0; have x1 := keepc Tk cX1; have x2 := keepc Tk cX2; have x3 := keepc Tk cX3)
                | (go_simp; go_at_call 37; (with_reducible refine (HX.out _ ?_).mono ?_); (first | exact Tk | exact Below.drew Tk | exact below_drewN (Below.refl _ _) _ | exact below_drewN Tk _); rintro e1 wn ⟨rfl, hbn⟩; replace Tk := below_next (by first | exact Tk | exact Below.drew Tk | exact below_drewN (Below.refl _ _) _ | exact below_drewN Tk _) hbn rfl; have xP1 := keepc Tk dP1; have xP2 := keepc Tk dP2; have xP3 := keepc Tk dP3; have x0 := keepc Tk cX0; have x1 := keepc Tk cX1; have x2 := keepc Tk cX2; have x3 := keepc Tk cX3))) | fail
            all_goals
              have HF2 := Lib.hid (HF.out.step HD.out HTB.out (by rw [HM.out, decide_eq_false hp]))
              have T3 := below_next T02 (by first | exact Tk | exact Below.drew Tk) rfl
              go_wp2_with fail
              go_roundw
              case rel => exact ⟨j + 1, by omega, by go_num, HF2, T3⟩
              case measure => simp [intOf]; try omega
      · have hk1 : ¬ (j : Int) < (n : Int) := by omega
        have HE : Hid (fs.drop j = []) := List.drop_eq_nil_of_le (by rw [HLN.out]; omega)
        go_wp2_with fail
        go_ret
        exact ⟨ret_bool ((HF.out.done HE.out).trans HRES.out), below_next T0 hTr rfl⟩
end Go.Proofs.YtbonebpheimbaaaGreatDoor
