
/- Walks: IsLab in the reference. l32True's contract comes in as an argument. -/
import Derived.Test.YtbonebpheimbaaaGreatDoorLabI
namespace Go.Proofs.YtbonebpheimbaaaGreatDoor
open Go.RowKit
set_option linter.unusedVariables false
set_option linter.unusedSimpArgs false

theorem labB_out {x : LabM} (h : inB x.2.2.2 0 9999 = false) : labB x = false := by
  unfold inB at h
  by_cases h0 : 0 ≤ x.2.2.2
  · exact labB_hi (by simp [h0] at h; omega)
  · exact labB_lo (by omega)
theorem labB_many {x : LabM} (h : ¬ x.2.2.1.length ≤ 12) : labB x = false := by
  unfold labB
  split
  · rw [decide_eq_false h, Bool.and_false, Bool.false_and, Bool.and_false]
  · rw [decide_eq_false (show ¬ x.2.2.1.length = 0 by omega), Bool.and_false, Bool.and_false]
set_option maxRecDepth 20000 in
set_option maxHeartbeats 16000000 in
theorem specGood_any (HIT : ∀ (cs ds : List Value) (x : AlgebraM) (f : FactM) (w : World), shAlgebra.rd w cs x → shFact.rd w ds f → algB x = true → Calls Tryz.prog 49 #[.agg cs.toArray, .agg ds.toArray] w (Bl w (.bool (trueB x f)))) (cs : List Value) (x : LabM) (w : World) (h : shLab.rd w cs x) :
    Calls Tryz.prog 31 #[.agg cs.toArray] w (Bl w (.bool (labB x))) := by
  obtain ⟨op, ⟨z, os⟩, fs, r⟩ := x
  obtain ⟨B, ol, d, F, n, c, rfl, qz, qB, qF, qr⟩ := rdLab h
  have qA : shAlgebra.rd w [.int .i64 z, .slice B ol d] (z, os) := mkAlgebra (x := (z, os)) qz qB
  have HLK : Hid (os.length = ol) := qB.len
  have HLN : Hid (fs.length = n) := qF.len
  have hlk := qB.le
  have hln := qF.le
  have hr0 : -9223372036854775808 ≤ r := qr.1
  have hr1 : r ≤ 9223372036854775807 := qr.2
  show Calls Tryz.prog 31 #[.agg #[.bool op, .int .i64 z, .slice B ol d, .slice F n c, .int .i64 r]] w (Bl w (.bool (labB (op, (z, os), fs, r))))
  obtain ⟨w0, hw0, T0, hsz0, BP⟩ := boxes1 w #[.bool op, .int .i64 z, .slice B ol d, .slice F n c, .int .i64 r] 39
  have HW0 := Lib.hid hw0
  have H1 : Hid (∀ wz, Below w0.heap.size w0 wz → shAlgebra.rd wz [.int .i64 z, .slice B ol d] (z, os)) := fun wz hz => shAlgebra.stab (shAlgebra.stab qA T0.block) hz.block
  have HIF := Lib.hid HIT
  have HQF := Lib.hid (qF.next T0)
  have cP0 := BP.cell 0
  have cP1 := BP.cell 1
  have cP2 := BP.cell 2
  have cP3 := BP.cell 3
  have cP4 := BP.cell 4
  simp at cP0 cP1 cP2 cP3 cP4
  clear hw0 hsz0 qz qB qF qr qA h HIT
  go_enter Tryz.func31, Tryz.ntmps31
  go_upto_region 1 with fail
  rw [← HW0.out]
  obtain ⟨ib, hib⟩ : ∃ b, inB r 0 9999 = b := ⟨_, rfl⟩
  have HI0 := Lib.hid hib
  rcases ib with _ | _
  · have HL : Hid (false = labB (op, (z, os), fs, r)) := (labB_out (x := (op, (z, os), fs, r)) hib).symm
    clear hib
    go_wp2_with (go_at_call 47; refine (l1In_any _ _ _ _).mono ?_; rintro e w' ⟨rfl, rfl⟩; rw [HI0.out])
    go_ret
    exact ⟨ret_bool HL.out, T0⟩
  have h09 : 0 ≤ r ∧ r ≤ 9999 := by unfold inB at hib; simpa using hib
  clear hib
  by_cases h12 : n ≤ 12
  case neg =>
    have HL : Hid (false = labB (op, (z, os), fs, r)) := (labB_many (x := (op, (z, os), fs, r)) (by rw [show (op, (z, os), fs, r).2.2.1 = fs from rfl, HLN.out]; exact h12)).symm
    have hgt : (12 : Int) < (n : Int) := by omega
    go_wp2_with (go_at_call 47; refine (l1In_any _ _ _ _).mono ?_; rintro e w' ⟨rfl, rfl⟩; rw [HI0.out])
    go_ret
    exact ⟨ret_bool HL.out, T0⟩
  have hgt : ¬ (12 : Int) < (n : Int) := by omega
  rcases op with _ | _
  · have HL : Hid (labB (false, (z, os), fs, r) = (decide (z = 0) && decide (ol = 0) && decide (n = 0))) := by
      show _ = _
      rw [← HLK.out, ← HLN.out]
      exact labB_shut (x := (false, (z, os), fs, r)) h09.1 h09.2 rfl
    obtain ⟨b1, HB1⟩ : ∃ b, Hid (decide (z = 0) = b) := ⟨_, rfl⟩
    obtain ⟨b2, HB2⟩ : ∃ b, Hid (decide (ol = 0) = b) := ⟨_, rfl⟩
    obtain ⟨b3, HB3⟩ : ∃ b, Hid (decide (n = 0) = b) := ⟨_, rfl⟩
    have e1 : (z == 0) = b1 := by rw [← HB1.out, Bool.eq_iff_iff, beq_iff_eq, decide_eq_true_iff]
    have e2 : ((ol : Int) == 0) = b2 := eq0_nat HB2.out
    have e3 : ((n : Int) == 0) = b3 := eq0_nat HB3.out
    have HRES : Hid ((b1 && b2 && b3) = labB (false, (z, os), fs, r)) := by show _ = _; rw [HL.out, HB1.out, HB2.out, HB3.out]
    rcases b1 with _ | _ <;> rcases b2 with _ | _ <;> rcases b3 with _ | _
    all_goals
      go_wp2_with (go_at_call 47; refine (l1In_any _ _ _ _).mono ?_; rintro e w' ⟨rfl, rfl⟩; rw [HI0.out])
      go_ret
      exact ⟨ret_bool HRES.out, T0⟩
  · have HL : Hid (labB (true, (z, os), fs, r) = (algB (z, os) && decide (n ≤ 12) && goFs (z, os) [] fs)) := by
      show _ = _
      rw [← HLN.out]
      exact labB_open (x := (true, (z, os), fs, r)) h09.1 h09.2 rfl
    have HA := Lib.hid (l2Good_any _ (z, os) w0 (H1.out _ (Below.refl _ _)))
    obtain ⟨ab, HAB⟩ : ∃ b, Hid (algB (z, os) = b) := ⟨_, rfl⟩
    rw [HAB.out] at HA
    have HLA : Hid ((ab && decide (n ≤ 12) && goFs (z, os) [] fs) = labB (true, (z, os), fs, r)) := by show _ = _; rw [HL.out, HAB.out]
    go_wp2_with (go_at_call 47; refine (l1In_any _ _ _ _).mono ?_; rintro e w' ⟨rfl, rfl⟩; rw [HI0.out])
    refine HA.out.mono ?_
    rintro e w1 ⟨rfl, hb1⟩
    have kP0 := keepc hb1 cP0
    have kP1 := keepc hb1 cP1
    have kP2 := keepc hb1 cP2
    have kP3 := keepc hb1 cP3
    have T1 := below_next T0 hb1 rfl
    rcases ab with _ | _
    · go_wp2_with fail
      go_ret
      exact ⟨ret_bool HLA.out, T1⟩
    have HRES : Hid (goFs (z, os) [] fs = labB (true, (z, os), fs, r)) := by show _ = _; rw [← HLA.out, decide_eq_true h12]; rfl
    go_wp2_with fail
    go_loopw [3] (fun i wr => ∃ k : Nat, k ≤ n ∧ i = .int .i64 k ∧ Hid (FsAt (z, os) fs k) ∧ Below w0.heap.size w0 wr) (fun i _ => n - (intOf i).toNat)
    case atStart => exact ⟨0, Nat.zero_le _, rfl, FsAt.zero _ _, hb1⟩
    case round =>
      obtain ⟨k, hj, rfl, HF, hTr⟩ := hrel
      have dP1 := keepc hTr cP1
      have dP2 := keepc hTr cP2
      have dP3 := keepc hTr cP3
      by_cases hlt : k < n
      · have hk0 : (0 : Int) ≤ (k : Int) := by omega
        have hk1 : (k : Int) < (n : Int) := by omega
        obtain ⟨b, o, vs, g, rfl, -, hc, hrr, hd, -⟩ := (HQF.out.next hTr).at hlt
        have hrg := hrr
        obtain ⟨BL, mL, eL, BR, mR, eR, BV, mV, eV, rfl, -, -, -, -⟩ := rdFact hrr
        have cc0 : wr.cell? ⟨b, o + k * 4, none⟩ = some (.int .i64 g.1) := hc 0 _ rfl
        have cc1 : wr.cell? ⟨b, o + k * 4 + 1, none⟩ = some (.slice BL mL eL) := hc 1 _ rfl
        have cc2 : wr.cell? ⟨b, o + k * 4 + 2, none⟩ = some (.slice BR mR eR) := hc 2 _ rfl
        have cc3 : wr.cell? ⟨b, o + k * 4 + 3, none⟩ = some (.slice BV mV eV) := hc 3 _ rfl
        have HD := Lib.hid hd
        have Hg : Hid (∀ wz, Below wr.heap.size wr wz → shFact.rd wz [.int .i64 g.1, .slice BL mL eL, .slice BR mR eR, .slice BV mV eV] g) := fun wz hz => shFact.stab hrg hz.block
        obtain ⟨tb, HTB⟩ : ∃ b, Hid (trueB (z, os) g = b) := ⟨_, rfl⟩
        obtain ⟨p, HP⟩ : ∃ p, Hid (posF fs g = p) := ⟨_, rfl⟩
        have HI : Hid (∀ wz, Below wr.heap.size wr wz → Calls Tryz.prog 49 #[.agg #[.int .i64 z, .slice B ol d], .agg #[.int .i64 g.1, .slice BL mL eL, .slice BR mR eR, .slice BV mV eV]] wz (Bl wz (.bool tb))) := fun wz hz => by
          have := HIF.out _ _ (z, os) g wz (H1.out _ (below_next hTr hz rfl)) (Hg.out _ hz) HAB.out
          rwa [HTB.out] at this
        have HX : Hid (∀ wz, Below wr.heap.size wr wz → Calls Tryz.prog 50 #[.slice (some ⟨b, o, none⟩) n c, .agg #[.int .i64 g.1, .slice BL mL eL, .slice BR mR eR, .slice BV mV eV]] wz (Bl wz (.int .i64 p))) := fun wz hz => by
          have := l32Find_any (some ⟨b, o, none⟩) n c _ fs g wz (HQF.out.next (below_next hTr hz rfl)) (Hg.out _ hz)
          rwa [HP.out] at this
        clear hc hrr hrg hd
        go_upto_region 10 with fail
        have Tk : Below wr.heap.size wr wr := Below.refl _ _
        rcases tb with _ | _
        · have HO : Hid (false = labB (true, (z, os), fs, r)) := (HF.out.stop1 HD.out HTB.out).trans HRES.out
          refine wp_region_held_drew (S := fun w' => w'.cell? ⟨w.heap.size, 1, none⟩ = some (.int .i64 z) ∧ w'.cell? ⟨w.heap.size, 2, none⟩ = some (.slice B ol d) ∧ w'.cell? ⟨w.heap.size, 3, none⟩ = some (.slice (some ⟨b, o, none⟩) n c) ∧ w'.cell? ⟨b, o + k * 4, none⟩ = some (.int .i64 g.1) ∧ w'.cell? ⟨b, o + k * 4 + 1, none⟩ = some (.slice BL mL eL) ∧ w'.cell? ⟨b, o + k * 4 + 2, none⟩ = some (.slice BR mR eR) ∧ w'.cell? ⟨b, o + k * 4 + 3, none⟩ = some (.slice BV mV eV)) (by kernel_rfl) ⟨dP1, dP2, dP3, cc0, cc1, cc2, cc3⟩ (fun hHeld0 => ?_)
          refine wpAnyH_take (i := 0) (v := .pointer (some ⟨w.heap.size, 1, none⟩)) rfl (by kernel_rfl) (by kernel_rfl) (by kernel_rfl) (fun _ _ _ h => h) (Or.inl ⟨by kernel_rfl, fun _ _ => by go_simp⟩) (by assumption) ?_
          (try simp only [Act.put, List.getElem_toArray, List.getElem_cons_zero, List.getElem_cons_succ, List.setIfInBounds_toArray, List.set_cons_zero, List.set_cons_succ])
          refine wpAnyH_take (i := 1) (v := .agg #[.int .i64 z, .slice B ol d]) rfl (by kernel_rfl) (by kernel_rfl) (by kernel_rfl) (fun _ _ _ h => h) (Or.inl ⟨by kernel_rfl, fun wv hSw => by (obtain ⟨hS0, hS1, hS2, hS3, hS4, hS5, hS6⟩ := hSw); go_simp⟩) (by assumption) ?_
          (try simp only [Act.put, List.getElem_toArray, List.getElem_cons_zero, List.getElem_cons_succ, List.setIfInBounds_toArray, List.set_cons_zero, List.set_cons_succ])
          refine wpAnyH_take (i := 2) (v := .pointer (some ⟨w.heap.size, 3, none⟩)) rfl (by kernel_rfl) (by kernel_rfl) (by kernel_rfl) (fun _ _ _ h => h) (Or.inl ⟨by kernel_rfl, fun _ _ => by go_simp⟩) (by assumption) ?_
          (try simp only [Act.put, List.getElem_toArray, List.getElem_cons_zero, List.getElem_cons_succ, List.setIfInBounds_toArray, List.set_cons_zero, List.set_cons_succ])
          refine wpAnyH_take (i := 3) (v := .slice (some ⟨b, o, none⟩) n c) rfl (by kernel_rfl) (by kernel_rfl) (by kernel_rfl) (fun _ _ _ h => h) (Or.inl ⟨by kernel_rfl, fun wv hSw => by (obtain ⟨hS0, hS1, hS2, hS3, hS4, hS5, hS6⟩ := hSw); go_simp⟩) (by assumption) ?_
          (try simp only [Act.put, List.getElem_toArray, List.getElem_cons_zero, List.getElem_cons_succ, List.setIfInBounds_toArray, List.set_cons_zero, List.set_cons_succ])
          refine wpAnyH_take (i := 4) (v := .int .i64 k) rfl (by kernel_rfl) (by kernel_rfl) (by kernel_rfl) (fun _ _ _ h => h) (Or.inl ⟨by kernel_rfl, fun _ _ => by go_simp⟩) (by assumption) ?_
          (try simp only [Act.put, List.getElem_toArray, List.getElem_cons_zero, List.getElem_cons_succ, List.setIfInBounds_toArray, List.set_cons_zero, List.set_cons_succ])
          refine wpAnyH_take (i := 5) (v := .pointer (some ⟨b, o + k * 4, none⟩)) rfl (by kernel_rfl) (by kernel_rfl) (by kernel_rfl) (fun _ _ _ h => h) (Or.inl ⟨by kernel_rfl, fun _ _ => by go_simp⟩) (by assumption) ?_
          (try simp only [Act.put, List.getElem_toArray, List.getElem_cons_zero, List.getElem_cons_succ, List.setIfInBounds_toArray, List.set_cons_zero, List.set_cons_succ])
          refine wpAnyH_take (i := 6) (v := .agg #[.int .i64 g.1, .slice BL mL eL, .slice BR mR eR, .slice BV mV eV]) rfl (by kernel_rfl) (by kernel_rfl) (by kernel_rfl) (fun _ _ _ h => h) (Or.inl ⟨by kernel_rfl, fun wv hSw => by (obtain ⟨hS0, hS1, hS2, hS3, hS4, hS5, hS6⟩ := hSw); go_simp⟩) (by assumption) ?_
          (try simp only [Act.put, List.getElem_toArray, List.getElem_cons_zero, List.getElem_cons_succ, List.setIfInBounds_toArray, List.set_cons_zero, List.set_cons_succ])
          refine wpAnyH_ready (rs := [7]) (by kernel_rfl) (by simp) ?_
          refine AllReadyH.cons rfl (fun K hK => ?_) AllReadyH.nil
          go_simp
          refine (HI.out _ (by first | exact Tk | exact Below.drew Tk | exact below_drewN (Below.refl _ _) _ | exact below_drewN Tk _)).mono ?_
          rintro e' wn ⟨rfl, hbn⟩
          replace Tk := below_next (by first | exact Tk | exact Below.drew Tk | exact below_drewN (Below.refl _ _) _ | exact below_drewN Tk _) hbn rfl
          go_wp2_with fail
          refine hK.out _ _ ⟨keepc Tk dP1, keepc Tk dP2, keepc Tk dP3, keepc Tk cc0, keepc Tk cc1, keepc Tk cc2, keepc Tk cc3⟩ (fun hHeld1 => ?_)
          clear hK K hHeld0
          (try simp only [Act.put, List.getElem_toArray, List.getElem_cons_zero, List.getElem_cons_succ, List.setIfInBounds_toArray, List.set_cons_zero, List.set_cons_succ])
          refine wpAnyH_take (i := 8) (v := .bool true) rfl (by kernel_rfl) (by kernel_rfl) (by kernel_rfl) (fun _ _ _ h => h) (Or.inl ⟨by kernel_rfl, fun _ _ => by go_simp⟩) (by assumption) ?_
          (try simp only [Act.put, List.getElem_toArray, List.getElem_cons_zero, List.getElem_cons_succ, List.setIfInBounds_toArray, List.set_cons_zero, List.set_cons_succ])
          refine wpAnyH_take (i := 9) (v := .bool true) rfl (by kernel_rfl) (by kernel_rfl) (by kernel_rfl) (fun _ _ _ h => h) (Or.inl ⟨by kernel_rfl, fun _ _ => by go_simp⟩) (by assumption) ?_
          (try simp only [Act.put, List.getElem_toArray, List.getElem_cons_zero, List.getElem_cons_succ, List.setIfInBounds_toArray, List.set_cons_zero, List.set_cons_succ])
          refine wpAnyH_take (i := 10) (v := undef) rfl (by kernel_rfl) (by kernel_rfl) (by kernel_rfl) (fun _ _ _ h => h) (Or.inr ⟨by kernel_rfl, rfl⟩) (by assumption) ?_
          (try simp only [Act.put, List.getElem_toArray, List.getElem_cons_zero, List.getElem_cons_succ, List.setIfInBounds_toArray, List.set_cons_zero, List.set_cons_succ])
          refine wpAnyH_take (i := 11) (v := undef) rfl (by kernel_rfl) (by kernel_rfl) (by kernel_rfl) (fun _ _ _ h => h) (Or.inr ⟨by kernel_rfl, rfl⟩) (by assumption) ?_
          (try simp only [Act.put, List.getElem_toArray, List.getElem_cons_zero, List.getElem_cons_succ, List.setIfInBounds_toArray, List.set_cons_zero, List.set_cons_succ])
          refine wpAnyH_take (i := 12) (v := undef) rfl (by kernel_rfl) (by kernel_rfl) (by kernel_rfl) (fun _ _ _ h => h) (Or.inr ⟨by kernel_rfl, rfl⟩) (by assumption) ?_
          (try simp only [Act.put, List.getElem_toArray, List.getElem_cons_zero, List.getElem_cons_succ, List.setIfInBounds_toArray, List.set_cons_zero, List.set_cons_succ])
          refine wpAnyH_take (i := 13) (v := undef) rfl (by kernel_rfl) (by kernel_rfl) (by kernel_rfl) (fun _ _ _ h => h) (Or.inr ⟨by kernel_rfl, rfl⟩) (by assumption) ?_
          (try simp only [Act.put, List.getElem_toArray, List.getElem_cons_zero, List.getElem_cons_succ, List.setIfInBounds_toArray, List.set_cons_zero, List.set_cons_succ])
          refine wpAnyH_take (i := 14) (v := undef) rfl (by kernel_rfl) (by kernel_rfl) (by kernel_rfl) (fun _ _ _ h => h) (Or.inr ⟨by kernel_rfl, rfl⟩) (by assumption) ?_
          (try simp only [Act.put, List.getElem_toArray, List.getElem_cons_zero, List.getElem_cons_succ, List.setIfInBounds_toArray, List.set_cons_zero, List.set_cons_succ])
          refine wpAnyH_take (i := 15) (v := undef) rfl (by kernel_rfl) (by kernel_rfl) (by kernel_rfl) (fun _ _ _ h => h) (Or.inr ⟨by kernel_rfl, rfl⟩) (by assumption) ?_
          (try simp only [Act.put, List.getElem_toArray, List.getElem_cons_zero, List.getElem_cons_succ, List.setIfInBounds_toArray, List.set_cons_zero, List.set_cons_succ])
          refine wpAnyH_take (i := 16) (v := undef) rfl (by kernel_rfl) (by kernel_rfl) (by kernel_rfl) (fun _ _ _ h => h) (Or.inr ⟨by kernel_rfl, rfl⟩) (by assumption) ?_
          (try simp only [Act.put, List.getElem_toArray, List.getElem_cons_zero, List.getElem_cons_succ, List.setIfInBounds_toArray, List.set_cons_zero, List.set_cons_succ])
          refine wpAnyH_take (i := 17) (v := undef) rfl (by kernel_rfl) (by kernel_rfl) (by kernel_rfl) (fun _ _ _ h => h) (Or.inr ⟨by kernel_rfl, rfl⟩) (by assumption) ?_
          (try simp only [Act.put, List.getElem_toArray, List.getElem_cons_zero, List.getElem_cons_succ, List.setIfInBounds_toArray, List.set_cons_zero, List.set_cons_succ])
          refine wpAnyH_take (i := 18) (v := undef) rfl (by kernel_rfl) (by kernel_rfl) (by kernel_rfl) (fun _ _ _ h => h) (Or.inr ⟨by kernel_rfl, rfl⟩) (by assumption) ?_
          (try simp only [Act.put, List.getElem_toArray, List.getElem_cons_zero, List.getElem_cons_succ, List.setIfInBounds_toArray, List.set_cons_zero, List.set_cons_succ])
          refine wpAnyH_take (i := 19) (v := undef) rfl (by kernel_rfl) (by kernel_rfl) (by kernel_rfl) (fun _ _ _ h => h) (Or.inr ⟨by kernel_rfl, rfl⟩) (by assumption) ?_
          (try simp only [Act.put, List.getElem_toArray, List.getElem_cons_zero, List.getElem_cons_succ, List.setIfInBounds_toArray, List.set_cons_zero, List.set_cons_succ])
          refine wpAnyH_take (i := 20) (v := .bool true) rfl (by kernel_rfl) (by kernel_rfl) (by kernel_rfl) (fun _ _ _ h => h) (Or.inl ⟨by kernel_rfl, fun _ _ => by go_simp⟩) (by assumption) ?_
          (try simp only [Act.put, List.getElem_toArray, List.getElem_cons_zero, List.getElem_cons_succ, List.setIfInBounds_toArray, List.set_cons_zero, List.set_cons_succ])
          refine wpAnyH_done (by kernel_rfl) ?_ _
          go_wp2_with fail
          go_ret
          exact ⟨ret_bool HO.out, below_next T0 (below_next hTr (by first | exact Tk | exact Below.drew Tk) rfl) rfl⟩
        · have HPM := Lib.hid (posF_mem (fs := fs) (k := k) (g := g) HD.out)
          obtain ⟨bb, hbb⟩ : ∃ b, (p != (k : Int)) = b := ⟨_, rfl⟩
          have HBB := Lib.hid hbb
          refine wp_region_held_drew (S := fun w' => w'.cell? ⟨w.heap.size, 1, none⟩ = some (.int .i64 z) ∧ w'.cell? ⟨w.heap.size, 2, none⟩ = some (.slice B ol d) ∧ w'.cell? ⟨w.heap.size, 3, none⟩ = some (.slice (some ⟨b, o, none⟩) n c) ∧ w'.cell? ⟨b, o + k * 4, none⟩ = some (.int .i64 g.1) ∧ w'.cell? ⟨b, o + k * 4 + 1, none⟩ = some (.slice BL mL eL) ∧ w'.cell? ⟨b, o + k * 4 + 2, none⟩ = some (.slice BR mR eR) ∧ w'.cell? ⟨b, o + k * 4 + 3, none⟩ = some (.slice BV mV eV)) (by kernel_rfl) ⟨dP1, dP2, dP3, cc0, cc1, cc2, cc3⟩ (fun hHeld0 => ?_)
          refine wpAnyH_take (i := 0) (v := .pointer (some ⟨w.heap.size, 1, none⟩)) rfl (by kernel_rfl) (by kernel_rfl) (by kernel_rfl) (fun _ _ _ h => h) (Or.inl ⟨by kernel_rfl, fun _ _ => by go_simp⟩) (by assumption) ?_
          (try simp only [Act.put, List.getElem_toArray, List.getElem_cons_zero, List.getElem_cons_succ, List.setIfInBounds_toArray, List.set_cons_zero, List.set_cons_succ])
          refine wpAnyH_take (i := 1) (v := .agg #[.int .i64 z, .slice B ol d]) rfl (by kernel_rfl) (by kernel_rfl) (by kernel_rfl) (fun _ _ _ h => h) (Or.inl ⟨by kernel_rfl, fun wv hSw => by (obtain ⟨hS0, hS1, hS2, hS3, hS4, hS5, hS6⟩ := hSw); go_simp⟩) (by assumption) ?_
          (try simp only [Act.put, List.getElem_toArray, List.getElem_cons_zero, List.getElem_cons_succ, List.setIfInBounds_toArray, List.set_cons_zero, List.set_cons_succ])
          refine wpAnyH_take (i := 2) (v := .pointer (some ⟨w.heap.size, 3, none⟩)) rfl (by kernel_rfl) (by kernel_rfl) (by kernel_rfl) (fun _ _ _ h => h) (Or.inl ⟨by kernel_rfl, fun _ _ => by go_simp⟩) (by assumption) ?_
          (try simp only [Act.put, List.getElem_toArray, List.getElem_cons_zero, List.getElem_cons_succ, List.setIfInBounds_toArray, List.set_cons_zero, List.set_cons_succ])
          refine wpAnyH_take (i := 3) (v := .slice (some ⟨b, o, none⟩) n c) rfl (by kernel_rfl) (by kernel_rfl) (by kernel_rfl) (fun _ _ _ h => h) (Or.inl ⟨by kernel_rfl, fun wv hSw => by (obtain ⟨hS0, hS1, hS2, hS3, hS4, hS5, hS6⟩ := hSw); go_simp⟩) (by assumption) ?_
          (try simp only [Act.put, List.getElem_toArray, List.getElem_cons_zero, List.getElem_cons_succ, List.setIfInBounds_toArray, List.set_cons_zero, List.set_cons_succ])
          refine wpAnyH_take (i := 4) (v := .int .i64 k) rfl (by kernel_rfl) (by kernel_rfl) (by kernel_rfl) (fun _ _ _ h => h) (Or.inl ⟨by kernel_rfl, fun _ _ => by go_simp⟩) (by assumption) ?_
          (try simp only [Act.put, List.getElem_toArray, List.getElem_cons_zero, List.getElem_cons_succ, List.setIfInBounds_toArray, List.set_cons_zero, List.set_cons_succ])
          refine wpAnyH_take (i := 5) (v := .pointer (some ⟨b, o + k * 4, none⟩)) rfl (by kernel_rfl) (by kernel_rfl) (by kernel_rfl) (fun _ _ _ h => h) (Or.inl ⟨by kernel_rfl, fun _ _ => by go_simp⟩) (by assumption) ?_
          (try simp only [Act.put, List.getElem_toArray, List.getElem_cons_zero, List.getElem_cons_succ, List.setIfInBounds_toArray, List.set_cons_zero, List.set_cons_succ])
          refine wpAnyH_take (i := 6) (v := .agg #[.int .i64 g.1, .slice BL mL eL, .slice BR mR eR, .slice BV mV eV]) rfl (by kernel_rfl) (by kernel_rfl) (by kernel_rfl) (fun _ _ _ h => h) (Or.inl ⟨by kernel_rfl, fun wv hSw => by (obtain ⟨hS0, hS1, hS2, hS3, hS4, hS5, hS6⟩ := hSw); go_simp⟩) (by assumption) ?_
          (try simp only [Act.put, List.getElem_toArray, List.getElem_cons_zero, List.getElem_cons_succ, List.setIfInBounds_toArray, List.set_cons_zero, List.set_cons_succ])
          refine wpAnyH_ready (rs := [7]) (by kernel_rfl) (by simp) ?_
          refine AllReadyH.cons rfl (fun K hK => ?_) AllReadyH.nil
          go_simp
          refine (HI.out _ (by first | exact Tk | exact Below.drew Tk | exact below_drewN (Below.refl _ _) _ | exact below_drewN Tk _)).mono ?_
          rintro e' wn ⟨rfl, hbn⟩
          replace Tk := below_next (by first | exact Tk | exact Below.drew Tk | exact below_drewN (Below.refl _ _) _ | exact below_drewN Tk _) hbn rfl
          go_wp2_with fail
          refine hK.out _ _ ⟨keepc Tk dP1, keepc Tk dP2, keepc Tk dP3, keepc Tk cc0, keepc Tk cc1, keepc Tk cc2, keepc Tk cc3⟩ (fun hHeld1 => ?_)
          clear hK K hHeld0
          (try simp only [Act.put, List.getElem_toArray, List.getElem_cons_zero, List.getElem_cons_succ, List.setIfInBounds_toArray, List.set_cons_zero, List.set_cons_succ])
          refine wpAnyH_take (i := 8) (v := .bool false) rfl (by kernel_rfl) (by kernel_rfl) (by kernel_rfl) (fun _ _ _ h => h) (Or.inl ⟨by kernel_rfl, fun _ _ => by go_simp⟩) (by assumption) ?_
          (try simp only [Act.put, List.getElem_toArray, List.getElem_cons_zero, List.getElem_cons_succ, List.setIfInBounds_toArray, List.set_cons_zero, List.set_cons_succ])
          refine wpAnyH_take (i := 9) (v := .bool false) rfl (by kernel_rfl) (by kernel_rfl) (by kernel_rfl) (fun _ _ _ h => h) (Or.inl ⟨by kernel_rfl, fun _ _ => by go_simp⟩) (by assumption) ?_
          (try simp only [Act.put, List.getElem_toArray, List.getElem_cons_zero, List.getElem_cons_succ, List.setIfInBounds_toArray, List.set_cons_zero, List.set_cons_succ])
          refine wpAnyH_take (i := 10) (v := .pointer (some ⟨w.heap.size, 3, none⟩)) rfl (by kernel_rfl) (by kernel_rfl) (by kernel_rfl) (fun _ _ _ h => h) (Or.inl ⟨by kernel_rfl, fun _ _ => by go_simp⟩) (by assumption) ?_
          (try simp only [Act.put, List.getElem_toArray, List.getElem_cons_zero, List.getElem_cons_succ, List.setIfInBounds_toArray, List.set_cons_zero, List.set_cons_succ])
          refine wpAnyH_take (i := 11) (v := .slice (some ⟨b, o, none⟩) n c) rfl (by kernel_rfl) (by kernel_rfl) (by kernel_rfl) (fun _ _ _ h => h) (Or.inl ⟨by kernel_rfl, fun wv hSw => by (obtain ⟨hS0, hS1, hS2, hS3, hS4, hS5, hS6⟩ := hSw); go_simp⟩) (by assumption) ?_
          (try simp only [Act.put, List.getElem_toArray, List.getElem_cons_zero, List.getElem_cons_succ, List.setIfInBounds_toArray, List.set_cons_zero, List.set_cons_succ])
          refine wpAnyH_take (i := 12) (v := .pointer (some ⟨w.heap.size, 3, none⟩)) rfl (by kernel_rfl) (by kernel_rfl) (by kernel_rfl) (fun _ _ _ h => h) (Or.inl ⟨by kernel_rfl, fun _ _ => by go_simp⟩) (by assumption) ?_
          (try simp only [Act.put, List.getElem_toArray, List.getElem_cons_zero, List.getElem_cons_succ, List.setIfInBounds_toArray, List.set_cons_zero, List.set_cons_succ])
          refine wpAnyH_take (i := 13) (v := .slice (some ⟨b, o, none⟩) n c) rfl (by kernel_rfl) (by kernel_rfl) (by kernel_rfl) (fun _ _ _ h => h) (Or.inl ⟨by kernel_rfl, fun wv hSw => by (obtain ⟨hS0, hS1, hS2, hS3, hS4, hS5, hS6⟩ := hSw); go_simp⟩) (by assumption) ?_
          (try simp only [Act.put, List.getElem_toArray, List.getElem_cons_zero, List.getElem_cons_succ, List.setIfInBounds_toArray, List.set_cons_zero, List.set_cons_succ])
          refine wpAnyH_take (i := 14) (v := .int .i64 k) rfl (by kernel_rfl) (by kernel_rfl) (by kernel_rfl) (fun _ _ _ h => h) (Or.inl ⟨by kernel_rfl, fun _ _ => by go_simp⟩) (by assumption) ?_
          (try simp only [Act.put, List.getElem_toArray, List.getElem_cons_zero, List.getElem_cons_succ, List.setIfInBounds_toArray, List.set_cons_zero, List.set_cons_succ])
          refine wpAnyH_take (i := 15) (v := .pointer (some ⟨b, o + k * 4, none⟩)) rfl (by kernel_rfl) (by kernel_rfl) (by kernel_rfl) (fun _ _ _ h => h) (Or.inl ⟨by kernel_rfl, fun _ _ => by go_simp⟩) (by assumption) ?_
          (try simp only [Act.put, List.getElem_toArray, List.getElem_cons_zero, List.getElem_cons_succ, List.setIfInBounds_toArray, List.set_cons_zero, List.set_cons_succ])
          refine wpAnyH_take (i := 16) (v := .agg #[.int .i64 g.1, .slice BL mL eL, .slice BR mR eR, .slice BV mV eV]) rfl (by kernel_rfl) (by kernel_rfl) (by kernel_rfl) (fun _ _ _ h => h) (Or.inl ⟨by kernel_rfl, fun wv hSw => by (obtain ⟨hS0, hS1, hS2, hS3, hS4, hS5, hS6⟩ := hSw); go_simp⟩) (by assumption) ?_
          (try simp only [Act.put, List.getElem_toArray, List.getElem_cons_zero, List.getElem_cons_succ, List.setIfInBounds_toArray, List.set_cons_zero, List.set_cons_succ])
          refine wpAnyH_take (i := 18) (v := .int .i64 k) rfl (by kernel_rfl) (by kernel_rfl) (by kernel_rfl) (fun _ _ _ h => h) (Or.inl ⟨by kernel_rfl, fun _ _ => by go_simp⟩) (by assumption) ?_
          (try simp only [Act.put, List.getElem_toArray, List.getElem_cons_zero, List.getElem_cons_succ, List.setIfInBounds_toArray, List.set_cons_zero, List.set_cons_succ])
          refine wpAnyH_ready (rs := [17]) (by kernel_rfl) (by simp) ?_
          refine AllReadyH.cons rfl (fun K hK => ?_) AllReadyH.nil
          go_simp
          refine (HX.out _ (by first | exact Tk | exact Below.drew Tk | exact below_drewN (Below.refl _ _) _ | exact below_drewN Tk _)).mono ?_
          rintro e' wn ⟨rfl, hbn⟩
          replace Tk := below_next (by first | exact Tk | exact Below.drew Tk | exact below_drewN (Below.refl _ _) _ | exact below_drewN Tk _) hbn rfl
          go_wp2_with fail
          refine hK.out _ _ ⟨keepc Tk dP1, keepc Tk dP2, keepc Tk dP3, keepc Tk cc0, keepc Tk cc1, keepc Tk cc2, keepc Tk cc3⟩ (fun hHeld2 => ?_)
          clear hK K hHeld1
          (try simp only [Act.put, List.getElem_toArray, List.getElem_cons_zero, List.getElem_cons_succ, List.setIfInBounds_toArray, List.set_cons_zero, List.set_cons_succ])
          refine wpAnyH_take (i := 19) (v := .bool bb) rfl (by kernel_rfl) (by kernel_rfl) (by kernel_rfl) (fun _ _ _ h => h) (Or.inl ⟨by kernel_rfl, fun _ _ => by go_simp⟩) (by assumption) ?_
          (try simp only [Act.put, List.getElem_toArray, List.getElem_cons_zero, List.getElem_cons_succ, List.setIfInBounds_toArray, List.set_cons_zero, List.set_cons_succ])
          refine wpAnyH_take (i := 20) (v := .bool bb) rfl (by kernel_rfl) (by kernel_rfl) (by kernel_rfl) (fun _ _ _ h => h) (Or.inl ⟨by kernel_rfl, fun _ _ => by go_simp⟩) (by assumption) ?_
          (try simp only [Act.put, List.getElem_toArray, List.getElem_cons_zero, List.getElem_cons_succ, List.setIfInBounds_toArray, List.set_cons_zero, List.set_cons_succ])
          refine wpAnyH_done (by kernel_rfl) ?_ _
          clear hbb
          rcases bb with _ | _
          · have HP2 : Hid (p = (k : Int)) := by have := HBB.out; show p = (k : Int); simpa [bne_iff_ne] using this
            have HF2 := Lib.hid (HF.out.step HD.out HTB.out (HPM.out.1 (HP.out.trans HP2.out)))
            have T3 := below_next hTr (by first | exact Tk | exact Below.drew Tk) rfl
            go_wp2_with fail
            go_roundw
            case rel => exact ⟨k + 1, by omega, by go_num, HF2, T3⟩
            case measure => simp [intOf]; try omega
          · have HP2 : Hid (¬ p = (k : Int)) := by have := HBB.out; show ¬ p = (k : Int); simpa [bne_iff_ne] using this
            have HM : Hid (memF (fs.take k) g = true) := by
              show _ = _
              rcases hm : memF (fs.take k) g with _ | _
              · exact absurd (HP.out.symm.trans (HPM.out.2 hm)) HP2.out
              · rfl
            go_wp2_with fail
            go_ret
            exact ⟨ret_bool ((HF.out.stop2 HD.out HM.out).trans HRES.out), below_next T0 (below_next hTr (by first | exact Tk | exact Below.drew Tk) rfl) rfl⟩
      · have hk1 : ¬ (k : Int) < (n : Int) := by omega
        have HE : Hid (fs.drop k = []) := List.drop_eq_nil_of_le (by rw [HLN.out]; omega)
        go_wp2_with fail
        go_ret
        exact ⟨ret_bool ((HF.out.done HE.out).trans HRES.out), below_next T0 hTr rfl⟩
end Go.Proofs.YtbonebpheimbaaaGreatDoor
