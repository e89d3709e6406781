
/- Walks: does an identity hold, do values refute it (the reference). Printed by genholds.py. -/
import Derived.Test.YtidjocikbmkjbaaGreatHold
import Derived.Test.YtidjocikbmkjbaaGreatEval
namespace Go.Proofs.YtidjocikbmkjbaaGreat
open Go.RowKit
set_option linter.unusedVariables false

set_option maxRecDepth 20000 in
set_option maxHeartbeats 8000000 in
theorem l3Asked_any (cs ds : List Value) (x : AlgebraM) (e : IdentityM) (w : World) (h : shAlgebra.rd w cs x) (h' : shIdentity.rd w ds e) (hx : AlgP x) :
    Calls Tryz.prog 40 #[.agg cs.toArray, .agg ds.toArray] w (Bl w (.bool (askB x.1.toNat x.2 e.1 e.2))) := by
  have hrd := h
  have hrd' := h'
  obtain ⟨B, m, d, rfl, -, qo⟩ := rdAlgebra h
  obtain ⟨AL, nL, cL, AR, nR, cR, rfl, rL, rR⟩ := rdIdentity h'
  obtain ⟨w0, hw0, T0, hsz0, BP, BQ⟩ := boxes2 w #[.int .i64 x.1, .slice B m d] #[.slice AL nL cL, .slice AR nR cR] 39 32
  have HW0 := Lib.hid hw0
  have H1 : Hid (∀ wz, Below w0.heap.size w0 wz → shAlgebra.rd wz [.int .i64 x.1, .slice B m d] x) := fun wz hz => shAlgebra.stab (shAlgebra.stab hrd T0.block) hz.block
  have HLL : Hid (∀ wz, Below w0.heap.size w0 wz → RdL RI wz AL nL e.1) := fun wz hz => (rL.next stab_RI T0).next stab_RI hz
  have HR : Hid (∀ wz, Below w0.heap.size w0 wz → RdL RI wz AR nR e.2) := fun wz hz => (rR.next stab_RI T0).next stab_RI hz
  have HLB := Lib.hid rL.bounds
  have HRB := Lib.hid rR.bounds
  have HNL := Lib.hid rL.len
  have HNR := Lib.hid rR.len
  have HX := Lib.hid hx
  have cP0 := BP.cell 0
  have cP1 := BP.cell 1
  have cQ0 := BQ.cell 0
  have cQ1 := BQ.cell 1
  simp at cP0 cP1 cQ0 cQ1
  obtain ⟨N, hN⟩ : ∃ N : Nat, x.1 = (N : Int) := ⟨x.1.toNat, by have := hx.1; omega⟩
  have HNN := Lib.hid hN
  have hN8 : N ≤ 8 := by have := hx.2.1; omega
  have hN1 : 1 ≤ N := by have := hx.1; omega
  have hN0 : 0 < N := hN1
  have HNT : Hid (x.1.toNat = N) := by show _ = _; omega
  rw [hN] at cP0
  rw [HNT.out]
  rw [hN] at HW0
  obtain ⟨vars, HVS⟩ : ∃ l, Hid (varsL e.1 e.2 = l) := ⟨_, rfl⟩
  have HV6 : Hid (vars.length ≤ 6) := by show _ ≤ 6; rw [← HVS.out]; exact vars_le _ _
  have HVI : Hid (∀ v ∈ vars, 0 ≤ v ∧ v ≤ 5) := by rw [← HVS.out]; exact vars_in _ _
  have HG1 := Lib.hid (l3Good_any _ x AL nL cL e.1 w0 (H1.out _ (Below.refl _ _)) (HLL.out _ (Below.refl _ _)) _ hx.ops hx.2.2.1)
  have HG2 := Lib.hid fun (wz : World) (hz : Below w0.heap.size w0 wz) => l3Good_any _ x AR nR cR e.2 wz (H1.out _ hz) (HR.out _ hz) _ hx.ops hx.2.2.1
  obtain ⟨b1, HB1⟩ : ∃ b, Hid (termB x.2 e.1 = b) := ⟨_, rfl⟩
  obtain ⟨b2, HB2⟩ : ∃ b, Hid (termB x.2 e.2 = b) := ⟨_, rfl⟩
  rw [HB1.out, hN] at HG1
  rw [HB2.out, hN] at HG2
  rw [hN]
  have HASK : Hid (askB N x.2 e.1 e.2 = ((b1 && b2) && decide (N ^ vars.length ≤ 5000))) := by show _ = _; unfold askB; rw [HB1.out, HB2.out, HVS.out]
  clear hw0 hsz0 hrd hrd' rL rR qo hx h h' hN
  go_enter Tryz.func40, Tryz.ntmps40
  go_upto_region 1 with fail
  rw [← HW0.out]
  go_wp2_with fail
  refine HG1.out.mono ?_
  rintro e1 w1 ⟨rfl, hb1⟩
  replace cP0 := keepc hb1 cP0
  replace cP1 := keepc hb1 cP1
  replace cQ0 := keepc hb1 cQ0
  replace cQ1 := keepc hb1 cQ1
  rcases b1 with _ | _
  · go_wp2_with fail
    go_ret
    exact ⟨ret_bool (by rw [HASK.out]; rfl), below_next T0 hb1 rfl⟩
  go_wp2_with fail
  refine (HG2.out _ hb1).mono ?_
  rintro e2 wv ⟨rfl, hb2⟩
  replace cP0 := keepc hb2 cP0
  replace cP1 := keepc hb2 cP1
  replace cQ0 := keepc hb2 cQ0
  replace cQ1 := keepc hb2 cQ1
  have TV := below_next hb1 hb2 rfl
  rcases b2 with _ | _
  · go_wp2_with fail
    go_ret
    exact ⟨ret_bool (by rw [HASK.out]; rfl), below_next T0 TV rfl⟩
  have HT1 := HB1
  have HT2 := HB2
  have hnL : nL ≤ 60 := by have := (term_end HT1.out).1; have := HNL.out; omega
  have hnR : nR ≤ 60 := by have := (term_end HT2.out).1; have := HNR.out; omega
  have HO1 : Hid (∀ wz, Below wv.heap.size wv wz → Calls Tryz.prog 74 #[.slice AL nL cL] wz fun e1 w' => ∃ A' c', e1 = .returned (.slice A' nL c') ∧ w'.ownsRow wz.heap.size 3 1 (.slice A' nL c') nL (ints e.1) ∧ Below wz.heap.size wz w') := fun wz hz => l1Own_any AL nL cL e.1 wz ((HLL.out wv TV).next stab_RI hz) (by omega)
  have HRR : Hid (∀ wz, Below wv.heap.size wv wz → RdL RI wz AR nR e.2) := fun wz hz => (HR.out wv TV).next stab_RI hz
  have KQ0 : Hid (∀ wz, Below wv.heap.size wv wz → wz.cell? ⟨w.heap.size + 1, 0, none⟩ = some (.slice AL nL cL)) := fun wz hz => keepc hz cQ0
  have KQ1 : Hid (∀ wz, Below wv.heap.size wv wz → wz.cell? ⟨w.heap.size + 1, 1, none⟩ = some (.slice AR nR cR)) := fun wz hz => keepc hz cQ1
  have HVV : Hid (∀ (A : Option Addr) (c : Nat) (wz : World), Below wv.heap.size wv wz → wz.ownsRow wv.heap.size 3 1 (.slice A (nL + nR) c) (nL + nR) (ints (e.1 ++ e.2)) → Calls Tryz.prog 73 #[.slice A (nL + nR) c] wz (OwI wz vars)) := fun A c wz hz ho => by
    have := l3Vars_any A (nL + nR) c (e.1 ++ e.2) wz (rd_of_own (R := RI) ho (RI_ints fun v hv => by
      rcases List.mem_append.1 hv with hv | hv
      · exact HLB.out v hv
      · exact HRB.out v hv)) (fun v hv => by
      rcases List.mem_append.1 hv with hv | hv
      · exact (badV_parts (term_mem HT1.out v hv)).1
      · exact (badV_parts (term_mem HT2.out v hv)).1)
    rwa [show markL 6 (varM (e.1 ++ e.2)) = vars from (markL_congr fun y _ => varM_app e.1 e.2 y).trans HVS.out] at this
  have HVB : Hid (∀ v ∈ vars, -9223372036854775808 ≤ v ∧ v ≤ 9223372036854775807) := by rw [← HVS.out]; exact fun v hv => by have := vars_in e.1 e.2 v hv; omega
  obtain ⟨q, HQ⟩ : ∃ q, Hid (vars.length = q) := ⟨_, rfl⟩
  go_upto_region 3 with fail
  go_cut [5, 6] from 20 to 26 (fun u5 u6 wx => ∃ A7 c7, u5 = .slice A7 vars.length c7 ∧ u6 = .int .i64 1 ∧ RdL RI wx A7 vars.length vars ∧ Below wv.heap.size wv wx)
  case first =>
    have Tk : Below wv.heap.size wv wv := Below.refl _ _
    go_region_law (first
      | (go_simp; go_at_call 74; (with_reducible refine (HO1.out _ ?_).mono ?_); (first | exact Tk | exact below_drewN Tk _); rintro e1 w5 ⟨A5, c5, rfl, ho5, hb5⟩; replace Tk := below_next (by first | exact Tk | exact below_drewN Tk _) hb5 rfl; have cE0 := KQ0.out _ Tk; have cE1 := KQ1.out _ Tk)
      | (refine step_appAny (R := RI) _ rfl (.tmp 22) (.tmp 24) 25 3 rfl (.int .i64 0) 8 Tryz.underlying25 info_int rfl (by decide) wv.heap.size nL c5 A5 (ints e.1) (by rfl) (by exact ho5) AR nR cR e.2 (fun y => .int .i64 y) (fun _ => rfl) (by rfl) (HRR.out _ (by first | exact Tk | exact below_drewN Tk _)) (fun _ _ _ hr => hr.1) (by omega) (by exact Tk.size) ?_; intro A6 c6 w6 hown6 hg6 hb6; have T6 : Below wv.heap.size wv w6 := (by first | exact Tk.trans hb6 | exact (below_drewN Tk _).trans hb6); have hown7 : w6.ownsRow wv.heap.size 3 1 (.slice A6 (nL + nR) c6) (nL + nR) (ints (e.1 ++ e.2)) := (by simpa [ints] using hown6))
      | (go_simp; go_at_call 73; refine (HVV.out A6 c6 _ ?_ ?_).mono ?_; (first | exact T6 | exact below_drewN T6 _); (exact hown7); rintro e2 w7 ⟨A7, c7, rfl, ho7, hb7⟩; have T7 := below_next (by first | exact T6 | exact below_drewN T6 _) hb7 rfl; have r7 := rd_of_own (R := RI) ho7 (RI_ints HVB.out)))
    all_goals
      go_wp2_with fail
      go_meet
      exact ⟨A7, c7, rfl, rfl, r7, T7⟩
  case rest =>
    obtain ⟨A7, c7, rfl, rfl, r7, T7⟩ := hcut
    obtain ⟨w8, HWC⟩ : ∃ wq : World, wq = wc := ⟨_, rfl⟩
    subst HWC
    rw [HQ.out] at r7 HASK HV6 ⊢
    have hq6 := HV6.out
    replace cP0 := keepc T7 cP0
    have T8 := below_next T0 (below_next TV T7 rfl) rfl
    go_wp2_with fail
    go_loop [6, 7] (fun p i => ∃ (k P : Nat), k ≤ q ∧ i = .int .i64 k ∧ p = .int .i64 P ∧ Hid (P = N ^ k)) (fun _ i => q - (intOf i).toNat)
    case atStart => exact ⟨0, 1, Nat.zero_le _, rfl, rfl, (by show _ = _; rw [Nat.pow_zero])⟩
    case round =>
      obtain ⟨k, P, hk, rfl, rfl, HP⟩ := hrel
      by_cases hlt : k < q
      · have hk1 : (k : Int) < (q : Int) := by omega
        have hk0 : (0 : Int) ≤ (k : Int) := by omega
        have hP : P ≤ 262144 := by rw [HP.out]; exact pow6_bd hN8 (by omega)
        have hM : P * N ≤ 262144 * 8 := Nat.mul_le_mul hP hN8
        have hm0 : (0 : Int) ≤ (P : Int) * (N : Int) := by rw [← Int.natCast_mul]; omega
        have hm1 : (P : Int) * (N : Int) ≤ 2097152 := by rw [← Int.natCast_mul]; omega
        have HE : Hid ((P : Int) * (N : Int) = ((P * N : Nat) : Int)) := (Int.natCast_mul _ _).symm
        have HF : Hid (P * N = N ^ (k + 1)) := by show _ = _; rw [HP.out, Nat.pow_succ]
        clear hM
        go_wp2_with fail
        go_round
        case rel => exact ⟨k + 1, P * N, by omega, by go_num, by rw [HE.out], HF⟩
        case measure => simp [intOf]; try omega
      · obtain rfl : k = q := by omega
        have hk1 : ¬ (k : Int) < (k : Int) := by omega
        go_wp2_with fail
        go_ret
        exact ⟨ret_bool (by rw [HASK.out, ← HP.out, Bool.true_and, Bool.true_and]; exact decide_eq_decide.2 (by omega)), T8⟩
def lenV : Value → Nat | .slice _ n _ => n | _ => 0
/-- What l3Counter answers. -/
def CsE (w : World) (hold : Prop) (e : Ending) (w' : World) : Prop := ∃ v, e = .returned (.tuple #[v, .bool (!(tt hold))]) ∧ Below w.heap.size w w'
set_option maxRecDepth 20000 in
set_option maxHeartbeats 8000000 in
theorem l3Counter_any (cs ds : List Value) (x : AlgebraM) (e : IdentityM) (w : World) (h : shAlgebra.rd w cs x) (h' : shIdentity.rd w ds e) (hx : AlgP x) (hA : askB x.1.toNat x.2 e.1 e.2 = true) :
    Calls Tryz.prog 75 #[.agg cs.toArray, .agg ds.toArray] w (CsE w (HoldP x.1.toNat x.2 e.1 e.2)) := by
  have hrd := h
  have hrd' := h'
  obtain ⟨B, m, d, rfl, -, qo⟩ := rdAlgebra h
  obtain ⟨AL, nL, cL, AR, nR, cR, rfl, rL, rR⟩ := rdIdentity h'
  obtain ⟨w0, hw0, T0, hsz0, BP, BQ⟩ := boxes2 w #[.int .i64 x.1, .slice B m d] #[.slice AL nL cL, .slice AR nR cR] 39 32
  have HW0 := Lib.hid hw0
  have H1 : Hid (∀ wz, Below w0.heap.size w0 wz → shAlgebra.rd wz [.int .i64 x.1, .slice B m d] x) := fun wz hz => shAlgebra.stab (shAlgebra.stab hrd T0.block) hz.block
  have HLL : Hid (∀ wz, Below w0.heap.size w0 wz → RdL RI wz AL nL e.1) := fun wz hz => (rL.next stab_RI T0).next stab_RI hz
  have HR : Hid (∀ wz, Below w0.heap.size w0 wz → RdL RI wz AR nR e.2) := fun wz hz => (rR.next stab_RI T0).next stab_RI hz
  have HLB := Lib.hid rL.bounds
  have HRB := Lib.hid rR.bounds
  have HNL := Lib.hid rL.len
  have HNR := Lib.hid rR.len
  have HX := Lib.hid hx
  have cP0 := BP.cell 0
  have cP1 := BP.cell 1
  have cQ0 := BQ.cell 0
  have cQ1 := BQ.cell 1
  simp at cP0 cP1 cQ0 cQ1
  obtain ⟨N, hN⟩ : ∃ N : Nat, x.1 = (N : Int) := ⟨x.1.toNat, by have := hx.1; omega⟩
  have HNN := Lib.hid hN
  have hN8 : N ≤ 8 := by have := hx.2.1; omega
  have hN1 : 1 ≤ N := by have := hx.1; omega
  have hN0 : 0 < N := hN1
  have HNT : Hid (x.1.toNat = N) := by show _ = _; omega
  rw [hN] at cP0
  rw [HNT.out]
  rw [hN] at HW0
  obtain ⟨vars, HVS⟩ : ∃ l, Hid (varsL e.1 e.2 = l) := ⟨_, rfl⟩
  have HV6 : Hid (vars.length ≤ 6) := by show _ ≤ 6; rw [← HVS.out]; exact vars_le _ _
  have HVI : Hid (∀ v ∈ vars, 0 ≤ v ∧ v ≤ 5) := by rw [← HVS.out]; exact vars_in _ _
  have HT1 := Lib.hid (ask_terms hA).1
  have HT2 := Lib.hid (ask_terms hA).2
  have hnL : nL ≤ 60 := by have := (term_end HT1.out).1; have := HNL.out; omega
  have hnR : nR ≤ 60 := by have := (term_end HT2.out).1; have := HNR.out; omega
  obtain ⟨r, HPW⟩ : ∃ r, Hid (N ^ vars.length = r) := ⟨_, rfl⟩
  have HR5 : Hid (r ≤ 5000) := by
    show r ≤ 5000
    unfold askB at hA
    rw [Bool.and_eq_true, decide_eq_true_iff, HNT.out, HVS.out, HPW.out] at hA
    exact hA.2
  have HVM : Hid (∀ v ∈ vars, v < (mxV vars : Int)) := by rw [← HVS.out]; exact fun v hv => vars_mx hv
  have HM6 : Hid (mxV vars ≤ 6) := by show _ ≤ 6; rw [← HVS.out]; exact mx_le _ _
  have HVLL : Hid (∀ v ∈ e.1, v < (mxV vars : Int)) := by rw [← HVS.out]; exact fun v hv => var_lt HT1.out HT2.out (.inl hv)
  have HVRR : Hid (∀ v ∈ e.2, v < (mxV vars : Int)) := by rw [← HVS.out]; exact fun v hv => var_lt HT1.out HT2.out (.inr hv)
  have HHOLD : Hid (HoldP N x.2 e.1 e.2 ↔ ∀ i, i < r → evT N x.2 (Wb N vars (i + 1)) e.1 = evT N x.2 (Wb N vars (i + 1)) e.2) := by
    show _ ↔ _
    unfold HoldP TryP
    rw [HVS.out, HPW.out]
  rw [hN]
  clear hw0 hsz0 hrd hrd' rL rR qo hx h h' hN hA
  obtain ⟨wv, HWV⟩ : ∃ wv : World, wv = w0 := ⟨_, rfl⟩
  rw [← HWV] at cP0 cP1 cQ0 cQ1
  have TV : Below w0.heap.size w0 wv := by rw [HWV]; exact Below.refl _ _
  rw [← HWV] at HW0
  have TV0 : Below w.heap.size w wv := by rw [HWV]; exact T0
  clear HWV
  go_enter Tryz.func75, Tryz.ntmps75
  go_upto_region 1 with fail
  rw [← HW0.out]
  have HO1 : Hid (∀ wz, Below wv.heap.size wv wz → Calls Tryz.prog 74 #[.slice AL nL cL] wz fun e1 w' => ∃ A' c', e1 = .returned (.slice A' nL c') ∧ w'.ownsRow wz.heap.size 3 1 (.slice A' nL c') nL (ints e.1) ∧ Below wz.heap.size wz w') := fun wz hz => l1Own_any AL nL cL e.1 wz ((HLL.out wv TV).next stab_RI hz) (by omega)
  have HRR : Hid (∀ wz, Below wv.heap.size wv wz → RdL RI wz AR nR e.2) := fun wz hz => (HR.out wv TV).next stab_RI hz
  have KQ0 : Hid (∀ wz, Below wv.heap.size wv wz → wz.cell? ⟨w.heap.size + 1, 0, none⟩ = some (.slice AL nL cL)) := fun wz hz => keepc hz cQ0
  have KQ1 : Hid (∀ wz, Below wv.heap.size wv wz → wz.cell? ⟨w.heap.size + 1, 1, none⟩ = some (.slice AR nR cR)) := fun wz hz => keepc hz cQ1
  have HVV : Hid (∀ (A : Option Addr) (c : Nat) (wz : World), Below wv.heap.size wv wz → wz.ownsRow wv.heap.size 3 1 (.slice A (nL + nR) c) (nL + nR) (ints (e.1 ++ e.2)) → Calls Tryz.prog 73 #[.slice A (nL + nR) c] wz (OwI wz vars)) := fun A c wz hz ho => by
    have := l3Vars_any A (nL + nR) c (e.1 ++ e.2) wz (rd_of_own (R := RI) ho (RI_ints fun v hv => by
      rcases List.mem_append.1 hv with hv | hv
      · exact HLB.out v hv
      · exact HRB.out v hv)) (fun v hv => by
      rcases List.mem_append.1 hv with hv | hv
      · exact (badV_parts (term_mem HT1.out v hv)).1
      · exact (badV_parts (term_mem HT2.out v hv)).1)
    rwa [show markL 6 (varM (e.1 ++ e.2)) = vars from (markL_congr fun y _ => varM_app e.1 e.2 y).trans HVS.out] at this
  have HVB : Hid (∀ v ∈ vars, -9223372036854775808 ≤ v ∧ v ≤ 9223372036854775807) := by rw [← HVS.out]; exact fun v hv => by have := vars_in e.1 e.2 v hv; omega
  go_upto_region 1 with fail
  go_cut [6] from 11 to 17 (fun u6 wx => ∃ A7 c7, u6 = .slice A7 vars.length c7 ∧ RdL RI wx A7 vars.length vars ∧ Below wv.heap.size wv wx)
  case first =>
    have Tk : Below wv.heap.size wv wv := Below.refl _ _
    go_region_law (first
      | (go_simp; go_at_call 74; (with_reducible refine (HO1.out _ ?_).mono ?_); (first | exact Tk | exact below_drewN Tk _); rintro e1 w5 ⟨A5, c5, rfl, ho5, hb5⟩; replace Tk := below_next (by first | exact Tk | exact below_drewN Tk _) hb5 rfl; have cE0 := KQ0.out _ Tk; have cE1 := KQ1.out _ Tk)
      | (refine step_appAny (R := RI) _ rfl (.tmp 13) (.tmp 15) 25 3 rfl (.int .i64 0) 8 Tryz.underlying25 info_int rfl (by decide) wv.heap.size nL c5 A5 (ints e.1) (by rfl) (by exact ho5) AR nR cR e.2 (fun y => .int .i64 y) (fun _ => rfl) (by rfl) (HRR.out _ (by first | exact Tk | exact below_drewN Tk _)) (fun _ _ _ hr => hr.1) (by omega) (by exact Tk.size) ?_; intro A6 c6 w6 hown6 hg6 hb6; have T6 : Below wv.heap.size wv w6 := (by first | exact Tk.trans hb6 | exact (below_drewN Tk _).trans hb6); have hown7 : w6.ownsRow wv.heap.size 3 1 (.slice A6 (nL + nR) c6) (nL + nR) (ints (e.1 ++ e.2)) := (by simpa [ints] using hown6))
      | (go_simp; go_at_call 73; refine (HVV.out A6 c6 _ ?_ ?_).mono ?_; (first | exact T6 | exact below_drewN T6 _); (exact hown7); rintro e2 w7 ⟨A7, c7, rfl, ho7, hb7⟩; have T7 := below_next (by first | exact T6 | exact below_drewN T6 _) hb7 rfl; have r7 := rd_of_own (R := RI) ho7 (RI_ints HVB.out)))
    all_goals
      go_wp2_with fail
      go_meet
      exact ⟨A7, c7, rfl, r7, T7⟩
  case rest =>
    obtain ⟨A7, c7, rfl, r7, T7⟩ := hcut
    obtain ⟨w2, HWC⟩ : ∃ wq : World, wq = wc := ⟨_, rfl⟩
    subst HWC
    obtain ⟨q, HQ⟩ : ∃ q, Hid (vars.length = q) := ⟨_, rfl⟩
    rw [HQ.out] at r7 HV6 HPW ⊢
    have hq6 := HV6.out
    replace cP0 := keepc T7 cP0
    replace cP1 := keepc T7 cP1
    replace cQ0 := keepc T7 cQ0
    replace cQ1 := keepc T7 cQ1
    have T2 := below_next TV T7 rfl
    have T02 := below_next TV0 T7 rfl
    have hr5 := HR5.out
    obtain ⟨mx, HMX⟩ : ∃ mx, Hid (mxV vars = mx) := ⟨_, rfl⟩
    rw [HMX.out] at HM6 HVM HVLL HVRR
    have hm6 := HM6.out
    have HWL : Hid (∀ i, (Wb N vars i).length = mx) := fun i => by rw [Wb_len, HMX.out]
    have HMQ : Hid (q = 0 → mx = 0) := fun h0 => by rw [← HMX.out, List.eq_nil_of_length_eq_zero (HQ.out.trans h0)]; rfl
    have HML : Hid (∀ v, vars[q - 1]? = some v → (mx : Int) = v + 1 ∧ 0 ≤ v) := fun v hv => by
      have hvi := HVI.out v (List.mem_of_getElem? hv)
      exact ⟨by rw [← HMX.out]; exact mx_last (by rw [List.getLast?_eq_getElem?, HQ.out]; exact hv) hvi.1, hvi.1⟩
    have T3 := below_box w2 (.cells #[] 3)
    have hO := World.ownsRow_lit (base := w2.heap.size) (e := 3) (size := 1) w2 #[] 0 (Nat.le_refl _) (Nat.zero_le _) rfl
    clear KQ0 KQ1 HO1 HRR HVV
    go_wp2_with fail
    go_loopw [7] (fun s wr => ∃ (k b c : Nat), k ≤ mx ∧ s = .slice (some ⟨b, 0, none⟩) k c ∧ wr.ownsRow w2.heap.size 3 1 (.slice (some ⟨b, 0, none⟩) k c) k (ints (List.replicate k 0)) ∧ Below w2.heap.size w2 wr) (fun s _ => mx - lenV s)
    case atStart => exact ⟨0, _, _, Nat.zero_le _, rfl, hO, T3⟩
    case round =>
      clear hO T3
      obtain ⟨k, b, c, hk, rfl, hV, hTr⟩ := hrel
      have dP0 := keepc hTr cP0
      by_cases hlt : k < mx
      · have hq0 : 0 < q := by
          rcases Nat.eq_zero_or_pos q with h | h
          · have := HMQ.out h; omega
          · exact h
        obtain ⟨b2, o2, vv, v, rfl, hc, ⟨rfl, hv0, hv1⟩, -, hxv⟩ := r7.at (k := q - 1) (by omega)
        have hmv := HML.out v hxv
        obtain ⟨p, hp⟩ : ∃ p, p = q - 1 := ⟨_, rfl⟩
        rw [← hp] at hc
        replace hc := keepc hTr hc
        have ep : (q : Int) - 1 = (p : Int) := by omega
        have hp0 : (0 : Int) ≤ (p : Int) := by omega
        have hp1 : (p : Int) < (q : Int) := by omega
        have hq1 : (0 : Int) < (q : Int) := by omega
        have hkv : (k : Int) ≤ v := by omega
        have hz := hTr.size
        clear hxv hp hmv dP0
        go_wp2_with (at_builtin; refine app1 wr rfl _ _ 25 3 rfl (.int .i64 0) 8 Tryz.underlying25 info_int rfl (by decide) w2.heap.size k c _ _ rfl hV (.int .i64 0) rfl rfl (by omega) hz ?_; intro A3 c3 w3 hown3 hg3 hb3)
        obtain ⟨b3, rfl, -, -⟩ := own_form hown3 (by omega)
        go_roundw
        case rel => exact ⟨k + 1, b3, c3, by omega, rfl, by rw [List.replicate_succ', ints_app]; exact hown3, hTr.trans hb3⟩
        case measure => simp [lenV]; try omega
      · obtain rfl : k = mx := by omega
        have hW0 : (ints (List.replicate k 0)) = ints (Wb N vars 0) := by rw [Wb_zero, HMX.out, ints_rep]
        rw [hW0] at hV
        have hk5 : ¬ k < k := by omega
        clear hlt hW0 hk5
        rcases Nat.eq_zero_or_pos q with hq0 | hq0
        case' inl =>
          have hq1 : ¬ (0 : Int) < (q : Int) := by omega
          clear hq0 dP0
          go_wp2_with fail
        case' inr =>
          have hq1 : (0 : Int) < (q : Int) := by omega
          obtain ⟨b2, o2, vv, v, e7, hc, ⟨rfl, hv0, hv1⟩, -, hxv⟩ := r7.at (k := q - 1) (by omega)
          have hmv := HML.out v hxv
          subst e7
          obtain ⟨p, hp⟩ : ∃ p, p = q - 1 := ⟨_, rfl⟩
          rw [← hp] at hc
          replace hc := keepc hTr hc
          have ep : (q : Int) - 1 = (p : Int) := by omega
          have hp0 : (0 : Int) ≤ (p : Int) := by omega
          have hp1 : (p : Int) < (q : Int) := by omega
          have hkv : ¬ (k : Int) ≤ v := by omega
          clear hxv hp hmv dP0
          go_wp2_with fail
          clear ep hp0 hp1 hkv hc hv0 hv1 hq0
        all_goals
          clear hq1
          go_loopw [8] (fun i wr => ∃ j : Nat, j ≤ r ∧ i = .int .i64 j ∧ Hid (∀ i, i < j → evT N x.2 (Wb N vars (i + 1)) e.1 = evT N x.2 (Wb N vars (i + 1)) e.2) ∧ wr.ownsRow w2.heap.size 3 1 (.slice (some ⟨b, 0, none⟩) k c) k (ints (Wb N vars j)) ∧ Below w2.heap.size w2 wr) (fun i _ => r - (intOf i).toNat)
          case atStart => exact ⟨0, Nat.zero_le _, rfl, (fun i hi => absurd hi (by omega)), hV, hTr⟩
          case round =>
            clear hV hTr
            obtain ⟨j, hj, rfl, HALL, hV, hTr⟩ := hrel
            have kP0 := keepc hTr cP0
            by_cases hlt : j < r
            · have hj0 : (0 : Int) ≤ (j : Int) := by omega
              have hj1 : (j : Int) < (r : Int) := by omega
              have HA := Lib.hid (l2Args_any j q N wr hN0 (by omega) (by omega) (by omega))
              have hgV := (hV.lt b rfl)
              go_wp2_with fail
              refine (l2Pow6_any N q r _ HPW.out hN8 HV6.out).mono ?_
              rintro e1 w' ⟨rfl, rfl⟩
              go_wp2_with fail
              refine HA.out.mono ?_
              rintro e1 w4 ⟨g, rfl, hoA, hb4⟩
              have hgA := hoA.lt g rfl
              have hV4 := own_next hV hb4
              have hT4 : Below w2.heap.size w2 w4 := hTr.trans (hb4.mono hTr.size)
              obtain ⟨ds, HDS⟩ : ∃ ds, Hid (digs N q j = ds) := ⟨_, rfl⟩
              have HDL : Hid (ds.length = q) := by show _ = _; rw [← HDS.out, digs_len]
              have HDN : Hid (∀ dd ∈ ds, dd < N) := fun dd hdd => by rw [← HDS.out] at hdd; exact digs_lt hN0 hdd
              rw [HDS.out] at hoA
              have hgg : g ≠ b := by omega
              clear hV kP0 HA
              go_wp2_with fail
              go_loopw [10] (fun i wi => ∃ p : Nat, p ≤ q ∧ i = .int .i64 p ∧ wi.ownsRow wr.heap.size 3 1 (.slice (some ⟨g, 0, none⟩) q q) q (ints (nats ds)) ∧ wi.ownsRow w2.heap.size 3 1 (.slice (some ⟨b, 0, none⟩) k c) k (ints (setV vars ds p (Wb N vars j))) ∧ Below w2.heap.size w2 wi) (fun i _ => q - (intOf i).toNat)
              case atStart => exact ⟨0, Nat.zero_le _, rfl, hoA, hV4, hT4⟩
              case round =>
                clear hoA hV4 hT4 hTr hb4
                obtain ⟨p, hp, rfl, hoA, hV, hTi⟩ := hrel
                by_cases hlp : p < q
                · have hp0 : (0 : Int) ≤ (p : Int) := by omega
                  have hp1 : (p : Int) < (q : Int) := by omega
                  obtain ⟨b9, o9, vv, v, e8, hc, ⟨rfl, hv0, hv1⟩, -, hxv⟩ := r7.at hlp
                  first | subst e8 | (injection e8 with e8; injection e8 with e81 e82; subst e81; subst e82)
                  have hvi := HVI.out v (List.mem_of_getElem? hxv)
                  have hvm := HVM.out v (List.mem_of_getElem? hxv)
                  obtain ⟨y, rfl⟩ := Int.eq_ofNat_of_zero_le hvi.1
                  have hym : y < k := by omega
                  have hpl : p < ds.length := by rw [HDL.out]; exact hlp
                  have hdp : ds[p]? = some ds[p] := List.getElem?_eq_getElem hpl
                  have hdn := HDN.out _ (List.getElem_mem hpl)
                  generalize ds[p] = dd at hdp hdn
                  have hcd : wr.cell? ⟨g, p, none⟩ = some (.int .i64 (dd : Int)) := by
                    rw [hoA.cellAt p (by omega)]
                    unfold ints nats
                    rw [List.getElem?_map, List.getElem?_map, hdp]
                    rfl
                  have hSL : (setV vars ds p (Wb N vars j)).length = k := by rw [setV_len, HWL.out]
                  obtain ⟨u, hcell⟩ : ∃ u, wr.cell? ⟨b, y, none⟩ = some u := ⟨_, (hV.cellAt y (by omega)).trans (List.getElem?_eq_getElem (by rw [ints_len]; omega))⟩
                  have hfz := hV.frozenAt y
                  have hst := (hV.stored y (.int .i64 (dd : Int))).1
                  rw [ints_set] at hst
                  have HST := Lib.hid hst
                  have HSET : Hid (setV vars ds (p + 1) (Wb N vars j) = (setV vars ds p (Wb N vars j)).set y (dd : Int)) := by
                    show _ = _
                    rw [setV, List.getD_eq_getElem?_getD, hxv, List.getD_eq_getElem?_getD, hdp]
                    simp
                  replace hc := keepc hTi hc
                  have HOA2 := Lib.hid (own_set hoA (p := ⟨b, y, none⟩) (by simp [Value.ownBlock]; exact hgg) (.int .i64 (dd : Int)))
                  have hy0 : (0 : Int) ≤ (y : Int) := by omega
                  have hy1 : (y : Int) < (k : Int) := by omega
                  clear hxv hdp hoA hV hvm hst
                  go_upto_region 12 with fail
                  go_region
                  all_goals
                    go_wp2_with fail
                    go_roundw
                    case rel => exact ⟨p + 1, by omega, by go_num, HOA2.out, by rw [HSET.out]; exact HST.out, by first | exact hTi.setCell hgV.1 _ | exact (hTi.drew).setCell hgV.1 _ | exact (below_drewN hTi _).setCell hgV.1 _⟩
                    case measure => simp [intOf]; try omega
                · obtain rfl : p = q := by omega
                  have hp1 : ¬ (p : Int) < (p : Int) := by omega
                  have HW1 : Hid (setV vars ds p (Wb N vars j) = Wb N vars (j + 1)) := by show _ = _; rw [Wb, HQ.out, HDS.out]
                  rw [HW1.out] at hV
                  obtain ⟨VL, HVLE⟩ : ∃ l, Hid (Wb N vars (j + 1) = l) := ⟨_, rfl⟩
                  obtain ⟨eL, HEL⟩ : ∃ z, Hid (evT N x.2 VL e.1 = z) := ⟨_, rfl⟩
                  obtain ⟨eR, HER⟩ : ∃ z, Hid (evT N x.2 VL e.2 = z) := ⟨_, rfl⟩
                  have HVIN : Hid (∀ y ∈ VL, 0 ≤ y ∧ y ≤ x.1 - 1) := fun y hy => by rw [← HVLE.out] at hy; have := Wb_in hN0 vars (j + 1) y hy; rw [HNN.out]; exact this
                  have HVLEN : Hid (VL.length = k) := by show _ = _; rw [← HVLE.out, HWL.out]
                  have HVL1 : Hid (∀ v ∈ e.1, v < (VL.length : Int)) := fun v hv => by rw [HVLEN.out]; exact HVLL.out v hv
                  have HVR1 : Hid (∀ v ∈ e.2, v < (VL.length : Int)) := fun v hv => by rw [HVLEN.out]; exact HVRR.out v hv
                  have rV : RdL RI wr (some ⟨b, 0, none⟩) k VL := by
                    rw [HVLE.out] at hV
                    exact rd_of_own (R := RI) hV (RI_ints fun v hv => by have := HVIN.out v hv; rw [HNN.out] at this; omega)
                  have TT := below_next T2 hTi rfl
                  have HC1 : Hid (∀ wz, Below wr.heap.size wr wz → Calls Tryz.prog 76 #[.agg #[.int .i64 (N : Int), .slice B m d], .slice AL nL cL, .slice (some ⟨b, 0, none⟩) k c] wz (Bl wz (.int .i64 (eL : Int)))) := fun wz hz => by
                    have := l3Value_any _ x AL (some ⟨b, 0, none⟩) nL cL k c e.1 VL wz (H1.out wz (below_next TT hz rfl)) HX.out (HLL.out wz (below_next TT hz rfl)) (rV.next stab_RI hz) HT1.out HVL1.out HVIN.out
                    rw [HNT.out, HEL.out, HNN.out] at this
                    exact this
                  have HC2 : Hid (∀ wz, Below wr.heap.size wr wz → Calls Tryz.prog 76 #[.agg #[.int .i64 (N : Int), .slice B m d], .slice AR nR cR, .slice (some ⟨b, 0, none⟩) k c] wz (Bl wz (.int .i64 (eR : Int)))) := fun wz hz => by
                    have := l3Value_any _ x AR (some ⟨b, 0, none⟩) nR cR k c e.2 VL wz (H1.out wz (below_next TT hz rfl)) HX.out (HR.out wz (below_next TT hz rfl)) (rV.next stab_RI hz) HT2.out HVR1.out HVIN.out
                    rw [HNT.out, HER.out, HNN.out] at this
                    exact this
                  have dP0 := keepc hTi cP0
                  have dP1 := keepc hTi cP1
                  have dQ0 := keepc hTi cQ0
                  have dQ1 := keepc hTi cQ1
                  obtain ⟨bb, HBB⟩ : ∃ b, Hid (((eL : Int) != (eR : Int)) = b) := ⟨_, rfl⟩
                  have Tk : Below wr.heap.size wr wr := Below.refl _ _
                  clear rV hoA
                  go_upto_region 13 with fail
                  go_cut [77] from 67 to 78 (fun u77 wx => u77 = .bool bb ∧ Below wr.heap.size wr wx)
                  case first =>
                    go_region_held3 (fun w' => w'.cell? ⟨w.heap.size, 0, none⟩ = some (.int .i64 (N : Int)) ∧ w'.cell? ⟨w.heap.size, 1, none⟩ = some (.slice B m d) ∧ w'.cell? ⟨w.heap.size + 1, 0, none⟩ = some (.slice AL nL cL) ∧ w'.cell? ⟨w.heap.size + 1, 1, none⟩ = some (.slice AR nR cR)) (first | go_keep | exact ⟨keepc Tk dP0, keepc Tk dP1, keepc Tk dQ0, keepc Tk dQ1⟩) (first
                      | (go_at_call 76; (with_reducible refine (HC1.out _ ?_).mono ?_); (first | exact Tk | exact Below.drew Tk | exact below_drewN (Below.refl _ _) _ | exact below_drewN Tk _); rintro e1 wn ⟨rfl, hbn⟩; replace Tk := below_next (by first | exact Tk | exact Below.drew Tk | exact below_drewN (Below.refl _ _) _ | exact below_drewN Tk _) hbn rfl)
                      | (go_at_call 76; (with_reducible refine (HC2.out _ ?_).mono ?_); (first | exact Tk | exact Below.drew Tk | exact below_drewN (Below.refl _ _) _ | exact below_drewN Tk _); rintro e1 wn ⟨rfl, hbn⟩; replace Tk := below_next (by first | exact Tk | exact Below.drew Tk | exact below_drewN (Below.refl _ _) _ | exact below_drewN Tk _) hbn rfl))
                    all_goals
                      go_wp2_with fail
                      go_meet
                      exact ⟨by rw [← HBB.out], by first | exact Tk | exact Below.drew Tk⟩
                  case rest =>
                    obtain ⟨rfl, hTc⟩ := hcut
                    have hTn := below_next hTi hTc rfl
                    have hVc := own_next hV hTc
                    obtain ⟨w9, HWC⟩ : ∃ wq : World, wq = wc := ⟨_, rfl⟩
                    subst HWC
                    rcases bb with _ | _
                    · have HEQ : Hid (evT N x.2 (Wb N vars (j + 1)) e.1 = evT N x.2 (Wb N vars (j + 1)) e.2) := by
                        show _ = _
                        have := HBB.out
                        rw [HVLE.out, HEL.out, HER.out]
                        have h2 : (eL : Int) = (eR : Int) := by simpa using this
                        omega
                      have HALL2 : Hid (∀ i, i < j + 1 → evT N x.2 (Wb N vars (i + 1)) e.1 = evT N x.2 (Wb N vars (i + 1)) e.2) := fun i hi => by
                        by_cases e : i = j
                        · subst e; exact HEQ.out
                        · exact HALL.out i (by omega)
                      go_wp2_with fail
                      go_roundw
                      case rel => exact ⟨j + 1, by omega, by go_num, HALL2, hVc, hTn⟩
                      case measure => simp [intOf]; try omega
                    · have HNE : Hid (tt (HoldP N x.2 e.1 e.2) = false) := by
                        refine (tt_false fun hh => ?_).symm
                        have h1 := HHOLD.out.1 hh j hlt
                        have := HBB.out
                        rw [HVLE.out, HEL.out, HER.out] at h1
                        rw [h1] at this
                        simp at this
                      go_wp2_with fail
                      go_ret2
                      exact ⟨_, by rw [HNE.out]; rfl, below_next T02 hTn rfl⟩
            · have hj1 : ¬ (j : Int) < (r : Int) := by omega
              have HYES : Hid (tt (HoldP N x.2 e.1 e.2) = true) := (tt_true (HHOLD.out.2 fun i hi => HALL.out i (by omega))).symm
              go_wp2_with fail
              refine (l2Pow6_any N q r _ HPW.out hN8 HV6.out).mono ?_
              rintro e1 w' ⟨rfl, rfl⟩
              go_wp2_with fail
              go_ret2
              exact ⟨_, by rw [HYES.out]; rfl, (below_next T02 hTr rfl).alloc (Nat.le_trans T02.size hTr.size) _⟩
end Go.Proofs.YtidjocikbmkjbaaGreat
