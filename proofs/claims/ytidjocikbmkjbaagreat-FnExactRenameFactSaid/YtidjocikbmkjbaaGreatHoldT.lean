
/- Walks: l3Holds, l32Fails (the reference). Printed by genholds.py. -/
import Derived.Test.YtidjocikbmkjbaaGreatHoldS
namespace Go.Proofs.YtidjocikbmkjbaaGreat
open Go.RowKit
set_option linter.unusedVariables false

set_option maxHeartbeats 2000000 in
theorem l3Holds_any (cs ds : List Value) (x : AlgebraM) (e : IdentityM) (w : World) (h : shAlgebra.rd w cs x) (h' : shIdentity.rd w ds e) (hx : AlgP x) (hA : askB x.1.toNat x.2 e.1 e.2 = true) :
    Calls Tryz.prog 41 #[.agg cs.toArray, .agg ds.toArray] w (Bl w (.bool (tt (HoldP x.1.toNat x.2 e.1 e.2)))) := by
  have hrd := h
  have hrd' := h'
  obtain ⟨B, m, d, rfl, -, qo⟩ := rdAlgebra h
  obtain ⟨AL, nL, cL, AR, nR, cR, rfl, rL, rR⟩ := rdIdentity h'
  obtain ⟨w0, hw0, T0, hsz0, BP, BQ⟩ := boxes2 w #[.int .i64 x.1, .slice B m d] #[.slice AL nL cL, .slice AR nR cR] 39 32
  have HW0 := Lib.hid hw0
  have HC := Lib.hid (l3Counter_any _ _ x e w0 (shAlgebra.stab hrd T0.block) (shIdentity.stab hrd' T0.block) hx hA)
  have cP0 := BP.cell 0
  have cP1 := BP.cell 1
  have cQ0 := BQ.cell 0
  have cQ1 := BQ.cell 1
  simp at cP0 cP1 cQ0 cQ1
  obtain ⟨b, HB⟩ : ∃ b, Hid (tt (HoldP x.1.toNat x.2 e.1 e.2) = b) := ⟨_, rfl⟩
  clear hw0 hsz0 hrd hrd' qo rL rR h h' hx hA
  go_enter Tryz.func41, Tryz.ntmps41
  go_upto_region 1 with fail
  rw [← HW0.out]
  go_wp2_with fail
  refine HC.out.mono ?_
  rintro e1 w1 ⟨v, rfl, hb1⟩
  rw [HB.out]
  rcases b with _ | _
  all_goals
    go_wp2_with fail
    go_ret
    exact ⟨ret_bool (by rw [HB.out]), below_next T0 hb1 rfl⟩
set_option maxRecDepth 20000 in
set_option maxHeartbeats 8000000 in
theorem l32Fails_any (cs ds : List Value) (x : AlgebraM) (e : IdentityM) (A0 : Option Addr) (n0 c0 : Nat) (V : List Int) (w : World) (h : shAlgebra.rd w cs x) (h' : shIdentity.rd w ds e) (hv : RdL RI w A0 n0 V) (hx : AlgP x) (hA : askB x.1.toNat x.2 e.1 e.2 = true) :
    Calls Tryz.prog 42 #[.agg cs.toArray, .agg ds.toArray, .slice A0 n0 c0] w (Bl w (.bool (failB x.1.toNat x.2 e.1 e.2 V))) := by
  have hrd := h
  have hrd' := h'
  obtain ⟨B, m, d, rfl, -, qo⟩ := rdAlgebra h
  obtain ⟨AL, nL, cL, AR, nR, cR, rfl, rL, rR⟩ := rdIdentity h'
  obtain ⟨w0, hw0, T0, hsz0, BP, BQ⟩ := boxes2 w #[.int .i64 x.1, .slice B m d] #[.slice AL nL cL, .slice AR nR cR] 39 32
  have HW0 := Lib.hid hw0
  have H1 : Hid (∀ wz, Below w0.heap.size w0 wz → shAlgebra.rd wz [.int .i64 x.1, .slice B m d] x) := fun wz hz => shAlgebra.stab (shAlgebra.stab hrd T0.block) hz.block
  have HLL : Hid (∀ wz, Below w0.heap.size w0 wz → RdL RI wz AL nL e.1) := fun wz hz => (rL.next stab_RI T0).next stab_RI hz
  have HR : Hid (∀ wz, Below w0.heap.size w0 wz → RdL RI wz AR nR e.2) := fun wz hz => (rR.next stab_RI T0).next stab_RI hz
  have HLB := Lib.hid rL.bounds
  have HRB := Lib.hid rR.bounds
  have HNL := Lib.hid rL.len
  have HNR := Lib.hid rR.len
  have HX := Lib.hid hx
  have cP0 := BP.cell 0
  have cP1 := BP.cell 1
  have cQ0 := BQ.cell 0
  have cQ1 := BQ.cell 1
  simp at cP0 cP1 cQ0 cQ1
  obtain ⟨N, hN⟩ : ∃ N : Nat, x.1 = (N : Int) := ⟨x.1.toNat, by have := hx.1; omega⟩
  have HNN := Lib.hid hN
  have hN8 : N ≤ 8 := by have := hx.2.1; omega
  have hN1 : 1 ≤ N := by have := hx.1; omega
  have hN0 : 0 < N := hN1
  have HNT : Hid (x.1.toNat = N) := by show _ = _; omega
  rw [hN] at cP0
  rw [HNT.out]
  rw [hN] at HW0
  obtain ⟨vars, HVS⟩ : ∃ l, Hid (varsL e.1 e.2 = l) := ⟨_, rfl⟩
  have HV6 : Hid (vars.length ≤ 6) := by show _ ≤ 6; rw [← HVS.out]; exact vars_le _ _
  have HVI : Hid (∀ v ∈ vars, 0 ≤ v ∧ v ≤ 5) := by rw [← HVS.out]; exact vars_in _ _
  have HT1 := Lib.hid (ask_terms hA).1
  have HT2 := Lib.hid (ask_terms hA).2
  have hnL : nL ≤ 60 := by have := (term_end HT1.out).1; have := HNL.out; omega
  have hnR : nR ≤ 60 := by have := (term_end HT2.out).1; have := HNR.out; omega
  have HV : Hid (∀ wz, Below w0.heap.size w0 wz → RdL RI wz A0 n0 V) := fun wz hz => (hv.next stab_RI T0).next stab_RI hz
  have HVL := Lib.hid hv.len
  have hnle := hv.le
  have HVL0 : Hid (∀ v ∈ e.1, v < (mxV vars : Int)) := by rw [← HVS.out]; exact fun v hv => var_lt HT1.out HT2.out (.inl hv)
  have HVR0 : Hid (∀ v ∈ e.2, v < (mxV vars : Int)) := by rw [← HVS.out]; exact fun v hv => var_lt HT1.out HT2.out (.inr hv)
  rw [hN]
  clear hw0 hsz0 hrd hrd' rL rR qo hx h h' hN hA hv
  obtain ⟨wv, HWV⟩ : ∃ wv : World, wv = w0 := ⟨_, rfl⟩
  rw [← HWV] at cP0 cP1 cQ0 cQ1
  have TV : Below w0.heap.size w0 wv := by rw [HWV]; exact Below.refl _ _
  rw [← HWV] at HW0
  have TV0 : Below w.heap.size w wv := by rw [HWV]; exact T0
  clear HWV
  go_enter Tryz.func42, Tryz.ntmps42
  go_upto_region 1 with fail
  rw [← HW0.out]
  have HO1 : Hid (∀ wz, Below wv.heap.size wv wz → Calls Tryz.prog 74 #[.slice AL nL cL] wz fun e1 w' => ∃ A' c', e1 = .returned (.slice A' nL c') ∧ w'.ownsRow wz.heap.size 3 1 (.slice A' nL c') nL (ints e.1) ∧ Below wz.heap.size wz w') := fun wz hz => l1Own_any AL nL cL e.1 wz ((HLL.out wv TV).next stab_RI hz) (by omega)
  have HRR : Hid (∀ wz, Below wv.heap.size wv wz → RdL RI wz AR nR e.2) := fun wz hz => (HR.out wv TV).next stab_RI hz
  have KQ0 : Hid (∀ wz, Below wv.heap.size wv wz → wz.cell? ⟨w.heap.size + 1, 0, none⟩ = some (.slice AL nL cL)) := fun wz hz => keepc hz cQ0
  have KQ1 : Hid (∀ wz, Below wv.heap.size wv wz → wz.cell? ⟨w.heap.size + 1, 1, none⟩ = some (.slice AR nR cR)) := fun wz hz => keepc hz cQ1
  have HVV : Hid (∀ (A : Option Addr) (c : Nat) (wz : World), Below wv.heap.size wv wz → wz.ownsRow wv.heap.size 3 1 (.slice A (nL + nR) c) (nL + nR) (ints (e.1 ++ e.2)) → Calls Tryz.prog 73 #[.slice A (nL + nR) c] wz (OwI wz vars)) := fun A c wz hz ho => by
    have := l3Vars_any A (nL + nR) c (e.1 ++ e.2) wz (rd_of_own (R := RI) ho (RI_ints fun v hv => by
      rcases List.mem_append.1 hv with hv | hv
      · exact HLB.out v hv
      · exact HRB.out v hv)) (fun v hv => by
      rcases List.mem_append.1 hv with hv | hv
      · exact (badV_parts (term_mem HT1.out v hv)).1
      · exact (badV_parts (term_mem HT2.out v hv)).1)
    rwa [show markL 6 (varM (e.1 ++ e.2)) = vars from (markL_congr fun y _ => varM_app e.1 e.2 y).trans HVS.out] at this
  have HVB : Hid (∀ v ∈ vars, -9223372036854775808 ≤ v ∧ v ≤ 9223372036854775807) := by rw [← HVS.out]; exact fun v hv => by have := vars_in e.1 e.2 v hv; omega
  go_upto_region 1 with fail
  go_cut [7] from 9 to 15 (fun u7 wx => ∃ A7 c7, u7 = .slice A7 vars.length c7 ∧ RdL RI wx A7 vars.length vars ∧ Below wv.heap.size wv wx)
  case first =>
    have Tk : Below wv.heap.size wv wv := Below.refl _ _
    go_region_law (first
      | (go_simp; go_at_call 74; (with_reducible refine (HO1.out _ ?_).mono ?_); (first | exact Tk | exact below_drewN Tk _); rintro e1 w5 ⟨A5, c5, rfl, ho5, hb5⟩; replace Tk := below_next (by first | exact Tk | exact below_drewN Tk _) hb5 rfl; have cE0 := KQ0.out _ Tk; have cE1 := KQ1.out _ Tk)
      | (refine step_appAny (R := RI) _ rfl (.tmp 11) (.tmp 13) 25 3 rfl (.int .i64 0) 8 Tryz.underlying25 info_int rfl (by decide) wv.heap.size nL c5 A5 (ints e.1) (by rfl) (by exact ho5) AR nR cR e.2 (fun y => .int .i64 y) (fun _ => rfl) (by rfl) (HRR.out _ (by first | exact Tk | exact below_drewN Tk _)) (fun _ _ _ hr => hr.1) (by omega) (by exact Tk.size) ?_; intro A6 c6 w6 hown6 hg6 hb6; have T6 : Below wv.heap.size wv w6 := (by first | exact Tk.trans hb6 | exact (below_drewN Tk _).trans hb6); have hown7 : w6.ownsRow wv.heap.size 3 1 (.slice A6 (nL + nR) c6) (nL + nR) (ints (e.1 ++ e.2)) := (by simpa [ints] using hown6))
      | (go_simp; go_at_call 73; refine (HVV.out A6 c6 _ ?_ ?_).mono ?_; (first | exact T6 | exact below_drewN T6 _); (exact hown7); rintro e2 w7 ⟨A7, c7, rfl, ho7, hb7⟩; have T7 := below_next (by first | exact T6 | exact below_drewN T6 _) hb7 rfl; have r7 := rd_of_own (R := RI) ho7 (RI_ints HVB.out)))
    all_goals
      go_wp2_with fail
      go_meet
      exact ⟨A7, c7, rfl, r7, T7⟩
  case rest =>
    obtain ⟨A7, c7, rfl, r7, T7⟩ := hcut
    obtain ⟨wr, HWC⟩ : ∃ wq : World, wq = wc := ⟨_, rfl⟩
    subst HWC
    obtain ⟨q, HQ⟩ : ∃ q, Hid (vars.length = q) := ⟨_, rfl⟩
    rw [HQ.out] at r7 HV6 ⊢
    have hq6 := HV6.out
    have dP0 := keepc T7 cP0
    have dP1 := keepc T7 cP1
    have dQ0 := keepc T7 cQ0
    have dQ1 := keepc T7 cQ1
    have TT := below_next TV T7 rfl
    have T02 := below_next TV0 T7 rfl
    obtain ⟨mx, HMX⟩ : ∃ mx, Hid (mxV vars = mx) := ⟨_, rfl⟩
    have hm6 : mx ≤ 6 := by rw [← HMX.out, ← HVS.out]; exact mx_le _ _
    clear KQ0 KQ1 HO1 HRR HVV cP0 cP1 cQ0 cQ1
    go_upto_if 18 with fail
    go_cut [8, 18] from 19 to 25 (fun u8 _ wx => u8 = .int .i64 (mx : Int) ∧ wx = wr)
    case first =>
      rcases Nat.eq_zero_or_pos q with h0 | h0
      · have hv0 : vars = [] := List.eq_nil_of_length_eq_zero (by rw [HQ.out]; exact h0)
        have hm0 : mx = 0 := by rw [← HMX.out, hv0]; rfl
        subst h0
        subst hm0
        go_wp2_with fail
        go_meet
        exact ⟨rfl, rfl⟩
      · have hq0 : (0 : Int) < (q : Int) := by omega
        obtain ⟨b, o, vv, v, rfl, hc, ⟨rfl, hv0, hv1⟩, -, hxv⟩ := r7.at (k := q - 1) (by omega)
        have hvi := HVI.out v (List.mem_of_getElem? hxv)
        have hmx : (mx : Int) = v + 1 := by rw [← HMX.out]; exact mx_last (by rw [List.getLast?_eq_getElem?, HQ.out]; exact hxv) hvi.1
        obtain ⟨p, hp⟩ : ∃ p, p = q - 1 := ⟨_, rfl⟩
        rw [← hp] at hc
        have ep : (q : Int) - 1 = (p : Int) := by omega
        have hp0 : (0 : Int) ≤ (p : Int) := by omega
        have hp1 : (p : Int) < (q : Int) := by omega
        have em : v + 1 = (mx : Int) := by omega
        clear hxv hp hmx
        go_wp2_with fail
        go_meet
        exact ⟨rfl, rfl⟩
    case rest =>
      obtain ⟨rfl, hwc⟩ := hcut
      subst hwc
      obtain ⟨ins, HIN⟩ : ∃ b, Hid (allIn 0 ((N : Int) - 1) V = b) := ⟨_, rfl⟩
      obtain ⟨wr, HWC⟩ : ∃ wq : World, wq = wc := ⟨_, rfl⟩
      subst HWC
      by_cases hnm : n0 = mx
      rotate_left
      · have HRES : Hid (failB N x.2 e.1 e.2 V = false) := by show _ = _; unfold failB; rw [HVS.out, HMX.out, HVL.out, decide_eq_false hnm, Bool.false_and, Bool.and_false]
        have hd1 : ((n0 : Int) == (mx : Int)) = false := by rw [beq_eq_false_iff_ne]; omega
        clear r7
        go_upto_region 5 with fail
        go_quiet (fail)
        go_wp2_with fail
        go_ret
        exact ⟨ret_bool HRES.out.symm, (by first | exact T02 | exact below_drewN (T02) _ | exact below_drewN (below_drewN (T02) _) _ | exact below_drewN (below_drewN (below_drewN (T02) _) _) _)⟩
      subst hnm
      have hd1 : ((n0 : Int) == (n0 : Int)) = true := by rw [beq_iff_eq]
      have HEl : Hid (∀ wz, Calls Tryz.prog 50 #[.int .i64 (N : Int), .slice A0 n0 c0] wz (fun e1 w' => e1 = .returned (.bool ins) ∧ wz = w') ∨ True) := fun wz => .inr trivial
      have HE2 : Hid (∀ wz, Below wr.heap.size wr wz → Calls Tryz.prog 50 #[.int .i64 (N : Int), .slice A0 n0 c0] wz (Qt wz (.bool ins))) := fun wz hz => by
        have := l2Elements_any A0 n0 c0 V (N : Int) wz (HV.out wz (below_next TT hz rfl)) (by omega) (by omega)
        rw [HIN.out] at this
        first | exact this | exact quiet_same this
      clear HEl
      rcases ins with _ | _
      · have HRES : Hid (failB N x.2 e.1 e.2 V = false) := by show _ = _; unfold failB; rw [HIN.out]; rfl
        clear r7
        go_upto_region 5 with fail
        go_quiet ((go_at_call 50; first | exact quiet_one (HE2.out _ (by first | exact Below.refl _ _ | exact below_drewN (Below.refl _ _) _)) | exact quiet_add (HE2.out _ (by first | exact Below.refl _ _ | exact below_drewN (Below.refl _ _) _))))
        go_wp2_with fail
        go_ret
        exact ⟨ret_bool HRES.out.symm, (by first | exact T02 | exact below_drewN (T02) _ | exact below_drewN (below_drewN (T02) _) _ | exact below_drewN (below_drewN (below_drewN (T02) _) _) _)⟩
      · obtain ⟨eL, HEL⟩ : ∃ z, Hid (evT N x.2 V e.1 = z) := ⟨_, rfl⟩
        obtain ⟨eR, HER⟩ : ∃ z, Hid (evT N x.2 V e.2 = z) := ⟨_, rfl⟩
        obtain ⟨bb, HBB⟩ : ∃ b, Hid (((eL : Int) != (eR : Int)) = b) := ⟨_, rfl⟩
        have HIV := Lib.hid (allIn_m.1 HIN.out)
        have HVIN : Hid (∀ y ∈ V, 0 ≤ y ∧ y ≤ x.1 - 1) := fun y hy => by have := HIV.out y hy; rw [HNN.out]; exact this
        have HVL1 : Hid (∀ v ∈ e.1, v < (V.length : Int)) := fun v hv => by rw [HVL.out]; have := HVL0.out v hv; rw [HMX.out] at this; exact this
        have HVR1 : Hid (∀ v ∈ e.2, v < (V.length : Int)) := fun v hv => by rw [HVL.out]; have := HVR0.out v hv; rw [HMX.out] at this; exact this
        have HRES : Hid (failB N x.2 e.1 e.2 V = bb) := by
          show _ = _
          unfold failB
          rw [HIN.out, HVS.out, HMX.out, HVL.out, HEL.out, HER.out, ← HBB.out, decide_eq_true rfl, Bool.true_and, Bool.true_and]
          rw [Bool.eq_iff_iff, decide_eq_true_iff, bne_iff_ne]
          exact ⟨fun h hh => h (by omega), fun h hh => h (by omega)⟩
        have rV := HV.out wr TT
        have HC1 : Hid (∀ wz, Below wr.heap.size wr wz → Calls Tryz.prog 76 #[.agg #[.int .i64 (N : Int), .slice B m d], .slice AL nL cL, .slice A0 n0 c0] wz (Bl wz (.int .i64 (eL : Int)))) := fun wz hz => by
          have := l3Value_any _ x AL A0 nL cL n0 c0 e.1 V wz (H1.out wz (below_next TT hz rfl)) HX.out (HLL.out wz (below_next TT hz rfl)) (rV.next stab_RI hz) HT1.out HVL1.out HVIN.out
          rw [HNT.out, HEL.out, HNN.out] at this
          exact this
        have HC2 : Hid (∀ wz, Below wr.heap.size wr wz → Calls Tryz.prog 76 #[.agg #[.int .i64 (N : Int), .slice B m d], .slice AR nR cR, .slice A0 n0 c0] wz (Bl wz (.int .i64 (eR : Int)))) := fun wz hz => by
          have := l3Value_any _ x AR A0 nR cR n0 c0 e.2 V wz (H1.out wz (below_next TT hz rfl)) HX.out (HR.out wz (below_next TT hz rfl)) (rV.next stab_RI hz) HT2.out HVR1.out HVIN.out
          rw [HNT.out, HER.out, HNN.out] at this
          exact this
        have Tk : Below wr.heap.size wr wr := Below.refl _ _
        clear rV r7
        go_upto_region 5 with fail
        go_region_held3 (fun w' => w'.cell? ⟨w.heap.size, 0, none⟩ = some (.int .i64 (N : Int)) ∧ w'.cell? ⟨w.heap.size, 1, none⟩ = some (.slice B m d) ∧ w'.cell? ⟨w.heap.size + 1, 0, none⟩ = some (.slice AL nL cL) ∧ w'.cell? ⟨w.heap.size + 1, 1, none⟩ = some (.slice AR nR cR)) (first | go_keep | exact ⟨keepc Tk dP0, keepc Tk dP1, keepc Tk dQ0, keepc Tk dQ1⟩) (first
          | (go_at_call 76; (with_reducible refine (HC1.out _ ?_).mono ?_); (first | exact Tk | exact Below.drew Tk | exact below_drewN (Below.refl _ _) _ | exact below_drewN Tk _); rintro e1 wn ⟨rfl, hbn⟩; replace Tk := below_next (by first | exact Tk | exact Below.drew Tk | exact below_drewN (Below.refl _ _) _ | exact below_drewN Tk _) hbn rfl)
          | (go_at_call 76; (with_reducible refine (HC2.out _ ?_).mono ?_); (first | exact Tk | exact Below.drew Tk | exact below_drewN (Below.refl _ _) _ | exact below_drewN Tk _); rintro e1 wn ⟨rfl, hbn⟩; replace Tk := below_next (by first | exact Tk | exact Below.drew Tk | exact below_drewN (Below.refl _ _) _ | exact below_drewN Tk _) hbn rfl)
          | (go_at_call 50; (refine (HE2.out _ ?_).mono ?_); (first | exact Tk | exact Below.drew Tk | exact below_drewN (Below.refl _ _) _ | exact below_drewN Tk _); rintro e1 wn ⟨rfl, zn, rfl⟩))
        all_goals
          go_wp2_with fail
          go_ret
          exact ⟨ret_bool (by rw [HRES.out, ← HBB.out]), below_next T02 (by first | exact Tk | exact Below.drew Tk) rfl⟩
end Go.Proofs.YtidjocikbmkjbaaGreat
