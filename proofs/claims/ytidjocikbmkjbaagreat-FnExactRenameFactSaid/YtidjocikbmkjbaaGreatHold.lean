
/- Walks: does an identity hold, do values refute it (the program). -/
import Derived.Test.YtidjocikbmkjbaaGreatVarS
namespace Go.Proofs.YtidjocikbmkjbaaGreat
open Go.RowKit
set_option linter.unusedVariables false

theorem pow6_bd {n k : Nat} (hn : n ≤ 8) (hk : k ≤ 6) : n ^ k ≤ 262144 := by
  have h1 : n ^ k ≤ 8 ^ k := Nat.pow_le_pow_left hn k
  have h2 : 8 ^ k ≤ 8 ^ 6 := Nat.pow_le_pow_right (by decide) hk
  exact Nat.le_trans h1 h2
set_option maxHeartbeats 400000 in
theorem power6_any (n k r : Nat) (w : World) (hr : n ^ k = r) (hn : n ≤ 8) (hk : k ≤ 6) :
    Calls Tryz.prog 85 #[.int .i64 n, .int .i64 k] w fun e w' => e = .returned (.int .i64 r) ∧ w = w' := by
  have HR := Lib.hid hr
  clear hr
  go_enter Tryz.func85, Tryz.ntmps85
  go_wp2
  go_loop [1, 5] (fun k' p => ∃ (j P : Nat), j ≤ k ∧ k' = .int .i64 j ∧ p = .int .i64 P ∧ Hid (P = n ^ (k - j))) (fun k' _ => (intOf k').toNat)
  case atStart => exact ⟨k, 1, Nat.le_refl _, rfl, rfl, by show _ = _; rw [Nat.sub_self, Nat.pow_zero]⟩
  case round =>
    obtain ⟨j, P, hj, rfl, rfl, HP⟩ := hrel
    by_cases hlt : 0 < j
    · have hP : P ≤ 262144 := by rw [HP.out]; exact pow6_bd hn (by omega)
      have hM : P * n ≤ 262144 * 8 := Nat.mul_le_mul hP hn
      have hm0 : (0 : Int) ≤ (P : Int) * (n : Int) := by rw [← Int.natCast_mul]; omega
      have hm1 : (P : Int) * (n : Int) ≤ 2097152 := by rw [← Int.natCast_mul]; omega
      have HE : Hid ((P : Int) * (n : Int) = ((P * n : Nat) : Int)) := (Int.natCast_mul _ _).symm
      have HF : Hid (P * n = n ^ (k - (j - 1))) := by show _ = _; rw [HP.out]; exact pow_step hlt hj
      have hj' : (0 : Int) < (j : Int) := by omega
      clear hM
      go_wp2
      go_round
      case rel => exact ⟨j - 1, P * n, by omega, by rw [show ((j - 1 : Nat) : Int) = (j : Int) - 1 by omega], by rw [HE.out], HF⟩
      case measure => simp [intOf]; try omega
    · have hj' : ¬ (0 : Int) < (j : Int) := by omega
      have hj0 : (j : Int) ≤ 0 := by omega
      go_wp2
      go_ret
      exact ⟨ret_int (by rw [HP.out, show k - j = k by omega, HR.out]), rfl⟩
set_option maxHeartbeats 400000 in
theorem l2Pow6_any (n k r : Nat) (w : World) (hr : n ^ k = r) (hn : n ≤ 8) (hk : k ≤ 6) :
    Calls Tryz.prog 71 #[.int .i64 n, .int .i64 k] w fun e w' => e = .returned (.int .i64 r) ∧ w = w' := by
  have HR := Lib.hid hr
  clear hr
  go_enter Tryz.func71, Tryz.ntmps71
  go_wp2
  go_loop [1, 5] (fun k' p => ∃ (j P : Nat), j ≤ k ∧ k' = .int .i64 j ∧ p = .int .i64 P ∧ Hid (P = n ^ (k - j))) (fun k' _ => (intOf k').toNat)
  case atStart => exact ⟨k, 1, Nat.le_refl _, rfl, rfl, by show _ = _; rw [Nat.sub_self, Nat.pow_zero]⟩
  case round =>
    obtain ⟨j, P, hj, rfl, rfl, HP⟩ := hrel
    by_cases hlt : 0 < j
    · have hP : P ≤ 262144 := by rw [HP.out]; exact pow6_bd hn (by omega)
      have hM : P * n ≤ 262144 * 8 := Nat.mul_le_mul hP hn
      have hm0 : (0 : Int) ≤ (P : Int) * (n : Int) := by rw [← Int.natCast_mul]; omega
      have hm1 : (P : Int) * (n : Int) ≤ 2097152 := by rw [← Int.natCast_mul]; omega
      have HE : Hid ((P : Int) * (n : Int) = ((P * n : Nat) : Int)) := (Int.natCast_mul _ _).symm
      have HF : Hid (P * n = n ^ (k - (j - 1))) := by show _ = _; rw [HP.out]; exact pow_step hlt hj
      have hj' : (0 : Int) < (j : Int) := by omega
      clear hM
      go_wp2
      go_round
      case rel => exact ⟨j - 1, P * n, by omega, by rw [show ((j - 1 : Nat) : Int) = (j : Int) - 1 by omega], by rw [HE.out], HF⟩
      case measure => simp [intOf]; try omega
    · have hj' : ¬ (0 : Int) < (j : Int) := by omega
      have hj0 : (j : Int) ≤ 0 := by omega
      go_wp2
      go_ret
      exact ⟨ret_int (by rw [HP.out, show k - j = k by omega, HR.out]), rfl⟩
theorem AlgP.ops {x : AlgebraM} (h : AlgP x) : ∀ o ∈ x.2, OpP x.1.toNat o := h.2.2.2
set_option maxHeartbeats 2000000 in
theorem isIdentity_any (cs ds : List Value) (x : AlgebraM) (e : IdentityM) (w : World) (h : shAlgebra.rd w cs x) (h' : shIdentity.rd w ds e) (hx : AlgP x) :
    Calls Tryz.prog 86 #[.agg cs.toArray, .agg ds.toArray] w (Bl w (.bool (termB x.2 e.1 && termB x.2 e.2))) := by
  have hrd := h
  obtain ⟨B, m, d, rfl, -, qo⟩ := rdAlgebra h
  obtain ⟨AL, nL, cL, AR, nR, cR, rfl, rL, rR⟩ := rdIdentity h'
  obtain ⟨w0, hw0, T0, hsz0, BP, BQ⟩ := boxes2 w #[.int .i64 x.1, .slice B m d] #[.slice AL nL cL, .slice AR nR cR] 39 32
  have HW0 := Lib.hid hw0
  have cP0 := BP.cell 0
  have cP1 := BP.cell 1
  have cQ0 := BQ.cell 0
  have cQ1 := BQ.cell 1
  simp at cP0 cP1 cQ0 cQ1
  rw [HW0.out] at cP0 cP1 cQ0 cQ1
  have HC1 := Lib.hid (isTerm_any _ x AL nL cL e.1 w0 (shAlgebra.stab hrd T0.block) (rL.next stab_RI T0) _ hx.ops hx.2.2.1)
  have HC2 := Lib.hid fun (wz : World) (hz : Below w0.heap.size w0 wz) => isTerm_any _ x AR nR cR e.2 wz (shAlgebra.stab (shAlgebra.stab hrd T0.block) hz.block) ((rR.next stab_RI T0).next stab_RI hz) _ hx.ops hx.2.2.1
  obtain ⟨b1, HB1⟩ : ∃ b, Hid (termB x.2 e.1 = b) := ⟨_, rfl⟩
  obtain ⟨b2, HB2⟩ : ∃ b, Hid (termB x.2 e.2 = b) := ⟨_, rfl⟩
  rw [HB1.out] at HC1
  rw [HB2.out] at HC2
  rw [HB1.out, HB2.out]
  clear hw0 hsz0 qo rL rR hrd
  go_enter Tryz.func86, Tryz.ntmps86
  go_wp2_with fail
  rw [← HW0.out]
  refine HC1.out.mono ?_
  rintro e w1 ⟨rfl, hb1⟩
  rw [← HW0.out] at cP0 cP1 cQ0 cQ1
  replace cP0 := keepc hb1 cP0
  replace cP1 := keepc hb1 cP1
  replace cQ1 := keepc hb1 cQ1
  clear cQ0
  rcases b1 with _ | _
  · go_wp2_with fail
    go_ret
    exact ⟨rfl, below_next T0 hb1 rfl⟩
  · go_wp2_with fail
    refine (HC2.out _ hb1).mono ?_
    rintro e w2 ⟨rfl, hb2⟩
    go_wp2_with fail
    go_ret
    exact ⟨rfl, below_next (below_next T0 hb1 rfl) hb2 rfl⟩
theorem rd_two (AL AR : Option Addr) (nL nR cL cR : Nat) (L R : List Int) (w0 : World) (t : TypeId) (rL : RdL RI w0 AL nL L) (rR : RdL RI w0 AR nR R) : RdL (RV RI) (w0.alloc (.cells #[.slice AL nL cL, .slice AR nR cR] t)) (some ⟨w0.heap.size, 0, none⟩) 2 [L, R] := by
  have hb := below_box w0 (.cells #[.slice AL nL cL, .slice AR nR cR] t)
  refine ⟨rfl, by unfold maxLen; omega, fun k s hk => ?_⟩
  rcases k with _ | _ | k
  · simp only [List.getElem?_cons_zero, Option.some.injEq] at hk
    subst hk
    exact ⟨w0.heap.size, 0, .slice AL nL cL, rfl, by simp, AL, nL, cL, rfl, rL.next stab_RI hb⟩
  · simp only [List.getElem?_cons_succ, List.getElem?_cons_zero, Option.some.injEq] at hk
    subst hk
    exact ⟨w0.heap.size, 0, .slice AR nR cR, rfl, by simp, AR, nR, cR, rfl, rR.next stab_RI hb⟩
  · simp at hk
/-- What counterOf answers. -/
def CtE (w : World) (ask : Bool) (hold : Prop) (e : Ending) (w' : World) : Prop := ∃ A n c, e = .returned (.tuple #[.slice A n c, .bool ask]) ∧ (ask = true → (hold ∧ A = none ∧ n = 0 ∧ c = 0) ∨ (¬ hold ∧ ∃ p, A = some p)) ∧ Below w.heap.size w w'
theorem Wb_zero (N : Nat) (vars : List Int) : ints (Wb N vars 0) = List.replicate (mxV vars) (.int .i64 0) := by rw [Wb, ints_rep]
set_option maxRecDepth 20000 in
set_option maxHeartbeats 8000000 in
theorem counterOf_any (cs ds : List Value) (x : AlgebraM) (e : IdentityM) (w : World) (h : shAlgebra.rd w cs x) (h' : shIdentity.rd w ds e) (hx : AlgP x) (hT1 : termB x.2 e.1 = true) (hT2 : termB x.2 e.2 = true) :
    Calls Tryz.prog 87 #[.agg cs.toArray, .agg ds.toArray] w (CtE w (askB x.1.toNat x.2 e.1 e.2) (HoldP x.1.toNat x.2 e.1 e.2)) := by
  have hrd := h
  have hx0 := hx
  obtain ⟨a, ops⟩ := x
  obtain ⟨L, R⟩ := e
  obtain ⟨hx1, hx2, hx3, hx4⟩ := hx
  simp only at hx1 hx2 hx3 hx4 hT1 hT2
  obtain ⟨N, rfl⟩ := Int.eq_ofNat_of_zero_le (show 0 ≤ a by omega)
  show Calls Tryz.prog 87 _ w (CtE w (askB (Int.toNat (N : Int)) ops L R) (HoldP (Int.toNat (N : Int)) ops L R))
  rw [Int.toNat_natCast]
  have hN0 : 0 < N := by omega
  have hN8 : N ≤ 8 := by omega
  obtain ⟨B, m, d, rfl, -, qo⟩ := rdAlgebra h
  obtain ⟨AL, nL, cL, AR, nR, cR, rfl, rL, rR⟩ := rdIdentity h'
  simp only at rL rR
  obtain ⟨vars, HVS⟩ : ∃ l, Hid (varsL L R = l) := ⟨_, rfl⟩
  obtain ⟨r, HPW⟩ : ∃ r, Hid (N ^ vars.length = r) := ⟨_, rfl⟩
  have HV6 : Hid (vars.length ≤ 6) := by show _ ≤ 6; rw [← HVS.out]; exact vars_le L R
  have HVI : Hid (∀ v ∈ vars, 0 ≤ v ∧ v ≤ 5) := by rw [← HVS.out]; exact vars_in L R
  have HVM : Hid (∀ v ∈ vars, v < (mxV vars : Int)) := by rw [← HVS.out]; exact fun v hv => vars_mx hv
  have HM6 : Hid (mxV vars ≤ 6) := by show _ ≤ 6; rw [← HVS.out]; exact mx_le L R
  have HVL : Hid (∀ v ∈ L, v < (mxV vars : Int)) := by rw [← HVS.out]; exact fun v hv => var_lt hT1 hT2 (.inl hv)
  have HVR : Hid (∀ v ∈ R, v < (mxV vars : Int)) := by rw [← HVS.out]; exact fun v hv => var_lt hT1 hT2 (.inr hv)
  have HASK : Hid (askB N ops L R = decide (r ≤ 5000)) := by
    show _ = _
    unfold askB
    rw [hT1, hT2, HVS.out, HPW.out]
    rfl
  have HHOLD : Hid (HoldP N ops L R ↔ ∀ i, i < r → evT N ops (Wb N vars (i + 1)) L = evT N ops (Wb N vars (i + 1)) R) := by
    show _ ↔ _
    unfold HoldP TryP
    rw [HVS.out, HPW.out]
  rw [HASK.out]
  obtain ⟨w0, hw0, T0, hsz0, BP, BQ⟩ := boxes2 w #[.int .i64 (N : Int), .slice B m d] #[.slice AL nL cL, .slice AR nR cR] 39 32
  have HW0 := Lib.hid hw0
  have HRD : Hid (∀ wz, Below w0.heap.size w0 wz → shAlgebra.rd wz [.int .i64 (N : Int), .slice B m d] ((N : Int), ops)) := fun wz hz => shAlgebra.stab (shAlgebra.stab hrd T0.block) hz.block
  have HL := Lib.hid (rL.next stab_RI T0)
  have HR := Lib.hid (rR.next stab_RI T0)
  have HX0 := Lib.hid hx0
  have HT1 := Lib.hid hT1
  have HT2 := Lib.hid hT2
  -- the two lists handed to varsOf
  have T1 := below_box w0 (.cells #[.slice AL nL cL, .slice AR nR cR] 25)
  have HV := Lib.hid (varsOf_any (some ⟨w0.heap.size, 0, none⟩) 2 2 [L, R] _ (rd_two AL AR nL nR cL cR L R w0 25 HL.out HR.out) (fun t ht v hv => by
    rcases List.mem_cons.1 ht with rfl | ht
    · exact (badV_parts (term_mem hT1 v hv)).1
    · rw [List.mem_singleton] at ht
      subst ht
      exact (badV_parts (term_mem hT2 v hv)).1) (by omega))
  have HVE : Hid (markL 6 (vmTo [L, R] 2) = vars) := by show _ = _; rw [← HVS.out]; exact markL_congr fun y hy => vmTo_two L R y
  rw [HVE.out] at HV
  have cP0 := BP.cell 0
  have cP1 := BP.cell 1
  have cQ0 := BQ.cell 0
  have cQ1 := BQ.cell 1
  simp at cP0 cP1 cQ0 cQ1
  clear hw0 hsz0 hrd hx0 hx4 hT1 hT2 hx3 rL rR qo h h'
  go_enter Tryz.func87, Tryz.ntmps87
  go_upto_region 1 with fail
  rw [← HW0.out]
  go_wp2_with fail
  refine HV.out.mono ?_
  rintro e w2 ⟨A6, c6, rfl, ho6, hb2⟩
  have r6 := rd_of_own (R := RI) ho6 (RI_ints fun v hv => by have := HVI.out v hv; omega)
  have T2 := below_next T1 hb2 rfl
  replace cP0 := keepc T2 cP0
  replace cP1 := keepc T2 cP1
  replace cQ0 := keepc T2 cQ0
  replace cQ1 := keepc T2 cQ1
  obtain ⟨q, HQ⟩ : ∃ q, Hid (vars.length = q) := ⟨_, rfl⟩
  rw [HQ.out] at r6 HPW HV6 ⊢
  have hq6 := HV6.out
  clear ho6
  go_wp2_with fail
  refine (power6_any N q r w2 HPW.out hN8 HV6.out).mono ?_
  rintro e w3 ⟨rfl, rfl⟩
  by_cases h5 : 5000 < r
  · have hr5 : (5000 : Int) < (r : Int) := by omega
    go_wp2_with fail
    go_ret2
    exact ⟨none, 0, 0, by rw [decide_eq_false (show ¬ r ≤ 5000 by omega)]; rfl, (fun h => by rw [decide_eq_false (show ¬ r ≤ 5000 by omega)] at h; cases h), below_next T0 T2 rfl⟩
  have hr5 : ¬ (5000 : Int) < (r : Int) := by omega
  obtain ⟨mx, HMX⟩ : ∃ mx, Hid (mxV vars = mx) := ⟨_, rfl⟩
  rw [HMX.out] at HM6 HVM HVL HVR
  have hm6 := HM6.out
  have HWL : Hid (∀ i, (Wb N vars i).length = mx) := fun i => by rw [Wb_len, HMX.out]
  have T3 := below_box w2 (.cells #[] 3)
  have hz2 := T3.size
  go_upto_if 28 with fail
  go_cut [8, 28] from 29 to 36 (fun u8 _ wx => ∃ gV cV, u8 = .slice (some ⟨gV, 0, none⟩) mx cV ∧ wx.ownsRow w2.heap.size 3 1 (.slice (some ⟨gV, 0, none⟩) mx cV) mx (ints (Wb N vars 0)) ∧ Below w2.heap.size w2 wx)
  case first =>
    rcases Nat.eq_zero_or_pos q with h0 | h0
    · have hv0 : vars = [] := List.eq_nil_of_length_eq_zero (by rw [HQ.out]; exact h0)
      have hm0 : mx = 0 := by rw [← HMX.out, hv0]; rfl
      subst h0
      subst hm0
      have HO : Hid ((w2.alloc (.cells #[] 3)).ownsRow w2.heap.size 3 1 (.slice (some ⟨w2.heap.size, 0, none⟩) 0 0) 0 (ints (Wb N vars 0))) := by
        have e : Wb N vars 0 = [] := List.eq_nil_of_length_eq_zero (HWL.out 0)
        show World.ownsRow _ _ _ _ _ _ _
        rw [e]
        exact World.ownsRow_lit w2 #[] 0 (Nat.le_refl _) (Nat.zero_le _) rfl
      go_wp2_with fail
      go_meet
      exact ⟨_, _, rfl, HO.out, T3⟩
    · have hq0 : (0 : Int) < (q : Int) := by omega
      have hlast : vars[q - 1]? = vars.getLast? := by rw [List.getLast?_eq_getElem?, HQ.out]
      obtain ⟨b, o, vv, v, rfl, hc, ⟨rfl, hv0, hv1⟩, -, hxv⟩ := r6.at (k := q - 1) (by omega)
      have hvi := HVI.out v (List.mem_of_getElem? hxv)
      have hmx : (mx : Int) = v + 1 := by rw [← HMX.out]; exact mx_last (hlast ▸ hxv) hvi.1
      obtain ⟨p, hp⟩ : ∃ p, p = q - 1 := ⟨_, rfl⟩
      rw [← hp] at hc
      have ep : (q : Int) - 1 = (p : Int) := by omega
      have hp0 : (0 : Int) ≤ (p : Int) := by omega
      have hp1 : (p : Int) < (q : Int) := by omega
      have em : v + 1 = (mx : Int) := by omega
      have hc3 := keepc T3 hc
      clear hc hlast hxv hp hmx
      go_wp2_with (at_make; refine make_ints _ rfl _ _ rfl mx rfl rfl (by omega) ?_; intro w4 hown4 hg4)
      go_meet
      have hT4 : Below w2.heap.size w2 w4 := T3.trans ((Below.refl _ _).grown hg4 hz2 (by simp))
      exact ⟨_, _, rfl, by rw [Wb_zero, HMX.out]; have h4 := hown4; rw [World.size_alloc] at h4; exact own_mono h4 (by omega), hT4⟩
  case rest =>
    obtain ⟨gV, cV, rfl, hV, hT3⟩ := hcut
    obtain ⟨w3, HWC⟩ : ∃ wq : World, wq = wc := ⟨_, rfl⟩
    subst HWC
    clear T3 hz2
    go_wp2_with fail
    go_loopw [9] (fun i wr => ∃ k : Nat, k ≤ r ∧ i = .int .i64 k ∧ Hid (∀ i, i < k → evT N ops (Wb N vars (i + 1)) L = evT N ops (Wb N vars (i + 1)) R) ∧ wr.ownsRow w2.heap.size 3 1 (.slice (some ⟨gV, 0, none⟩) mx cV) mx (ints (Wb N vars k)) ∧ Below w2.heap.size w2 wr) (fun i _ => r - (intOf i).toNat)
    case atStart => exact ⟨0, Nat.zero_le _, rfl, (fun i hi => absurd hi (by omega)), hV, hT3⟩
    case round =>
      clear hV hT3
      obtain ⟨k, hk, rfl, HALL, hV, hTr⟩ := hrel
      have kP0 := keepc hTr cP0
      by_cases hlt : k < r
      · have hk0 : (0 : Int) ≤ (k : Int) := by omega
        have hk1 : (k : Int) < (r : Int) := by omega
        have HA := Lib.hid (argsAt_any k q N wr hN0 (by omega) (by omega) (by omega))
        have hgV := (hV.lt gV rfl)
        go_wp2_with fail
        refine HA.out.mono ?_
        rintro e w4 ⟨g, rfl, hoA, hb4⟩
        have hgA := hoA.lt g rfl
        have hV4 := own_next hV hb4
        have hT4 : Below w2.heap.size w2 w4 := hTr.trans (hb4.mono hTr.size)
        obtain ⟨ds, HDS⟩ : ∃ ds, Hid (digs N q k = ds) := ⟨_, rfl⟩
        have HDL : Hid (ds.length = q) := by show _ = _; rw [← HDS.out, digs_len]
        have HDN : Hid (∀ dd ∈ ds, dd < N) := fun dd hdd => by rw [← HDS.out] at hdd; exact digs_lt hN0 hdd
        rw [HDS.out] at hoA
        have hgg : g ≠ gV := by omega
        clear hV kP0 HA
        go_wp2_with fail
        go_loopw [49] (fun j wi => ∃ p : Nat, p ≤ q ∧ j = .int .i64 p ∧ wi.ownsRow wr.heap.size 3 1 (.slice (some ⟨g, 0, none⟩) q q) q (ints (nats ds)) ∧ wi.ownsRow w2.heap.size 3 1 (.slice (some ⟨gV, 0, none⟩) mx cV) mx (ints (setV vars ds p (Wb N vars k))) ∧ Below w2.heap.size w2 wi) (fun j _ => q - (intOf j).toNat)
        case atStart => exact ⟨0, Nat.zero_le _, rfl, hoA, hV4, hT4⟩
        case round =>
          clear hoA hV4 hT4 hTr hb4
          obtain ⟨p, hp, rfl, hoA, hV, hTi⟩ := hrel
          by_cases hlp : p < q
          · have hp0 : (0 : Int) ≤ (p : Int) := by omega
            have hp1 : (p : Int) < (q : Int) := by omega
            obtain ⟨b, o, vv, v, rfl, hc, ⟨rfl, hv0, hv1⟩, -, hxv⟩ := r6.at hlp
            have hvi := HVI.out v (List.mem_of_getElem? hxv)
            have hvm := HVM.out v (List.mem_of_getElem? hxv)
            obtain ⟨y, rfl⟩ := Int.eq_ofNat_of_zero_le hvi.1
            have hym : y < mx := by omega
            have hpl : p < ds.length := by rw [HDL.out]; exact hlp
            have hdp : ds[p]? = some ds[p] := List.getElem?_eq_getElem hpl
            have hdn := HDN.out _ (List.getElem_mem hpl)
            generalize ds[p] = dd at hdp hdn
            have hcd : wr.cell? ⟨g, p, none⟩ = some (.int .i64 (dd : Int)) := by
              rw [hoA.cellAt p (by omega)]
              unfold ints nats
              rw [List.getElem?_map, List.getElem?_map, hdp]
              rfl
            have hSL : (setV vars ds p (Wb N vars k)).length = mx := by rw [setV_len, HWL.out]
            have hcell : ∃ u, wr.cell? ⟨gV, y, none⟩ = some u := ⟨_, (hV.cellAt y (by omega)).trans (List.getElem?_eq_getElem (by rw [ints_len]; omega))⟩
            obtain ⟨u, hcell⟩ := hcell
            have hfz := hV.frozenAt y
            have hst := (hV.stored y (.int .i64 (dd : Int))).1
            rw [ints_set] at hst
            have HSET : Hid (setV vars ds (p + 1) (Wb N vars k) = (setV vars ds p (Wb N vars k)).set y (dd : Int)) := by
              show _ = _
              rw [setV, List.getD_eq_getElem?_getD, hxv, List.getD_eq_getElem?_getD, hdp]
              simp
            replace hc := keepc hTi hc
            have hoA2 := own_set hoA (p := ⟨gV, y, none⟩) (by simp [Value.ownBlock]; exact hgg) (.int .i64 (dd : Int))
            have hy0 : (0 : Int) ≤ (y : Int) := by omega
            have hy1 : (y : Int) < (mx : Int) := by omega
            clear hxv hdp hoA hV hvm
            go_wp2_with fail
            go_roundw
            case rel => exact ⟨p + 1, by omega, by go_num, hoA2, by rw [HSET.out]; exact hst, hTi.setCell hgV.1 _⟩
            case measure => simp [intOf]; try omega
          · obtain rfl : p = q := by omega
            have hp1 : ¬ (p : Int) < (p : Int) := by omega
            have HW1 : Hid (setV vars ds p (Wb N vars k) = Wb N vars (k + 1)) := by show _ = _; rw [Wb, HQ.out, HDS.out]
            rw [HW1.out] at hV
            have rV := rd_of_own (R := RI) hV (RI_ints fun v hv => by have := Wb_in hN0 vars (k + 1) v hv; omega)
            have TT := below_next T2 hTi rfl
            obtain ⟨eL, HEL⟩ : ∃ e, Hid (evT N ops (Wb N vars (k + 1)) L = e) := ⟨_, rfl⟩
            obtain ⟨eR, HER⟩ : ∃ e, Hid (evT N ops (Wb N vars (k + 1)) R = e) := ⟨_, rfl⟩
            have HC1 : Hid (∀ wz, Below wr.heap.size wr wz → Calls Tryz.prog 89 #[.agg #[.int .i64 (N : Int), .slice B m d], .slice AL nL cL, .slice (some ⟨gV, 0, none⟩) mx cV] wz (Bl wz (.int .i64 (eL : Int)))) := fun wz hz => by
              have := eval_any _ _ AL (some ⟨gV, 0, none⟩) nL cL mx cV L (Wb N vars (k + 1)) wz (HRD.out wz (below_next TT hz rfl)) HX0.out ((HL.out.next stab_RI TT).next stab_RI hz) (rV.next stab_RI hz) HT1.out (fun v hv => by rw [HWL.out]; exact HVL.out v hv) (fun y hy => Wb_in hN0 vars (k + 1) y hy)
              simp only [Int.toNat_natCast] at this
              rwa [HEL.out] at this
            have HC2 : Hid (∀ wz, Below wr.heap.size wr wz → Calls Tryz.prog 89 #[.agg #[.int .i64 (N : Int), .slice B m d], .slice AR nR cR, .slice (some ⟨gV, 0, none⟩) mx cV] wz (Bl wz (.int .i64 (eR : Int)))) := fun wz hz => by
              have := eval_any _ _ AR (some ⟨gV, 0, none⟩) nR cR mx cV R (Wb N vars (k + 1)) wz (HRD.out wz (below_next TT hz rfl)) HX0.out ((HR.out.next stab_RI TT).next stab_RI hz) (rV.next stab_RI hz) HT2.out (fun v hv => by rw [HWL.out]; exact HVR.out v hv) (fun y hy => Wb_in hN0 vars (k + 1) y hy)
              simp only [Int.toNat_natCast] at this
              rwa [HER.out] at this
            have dP0 := keepc hTi cP0
            have dP1 := keepc hTi cP1
            have dQ0 := keepc hTi cQ0
            have dQ1 := keepc hTi cQ1
            obtain ⟨bb, HBB⟩ : ∃ b, Hid (((eL : Int) != (eR : Int)) = b) := ⟨_, rfl⟩
            have Tk : Below wr.heap.size wr wr := Below.refl _ _
            clear rV hoA
            go_upto_region 16 with fail
            go_cut [72] from 62 to 73 (fun u72 wx => u72 = .bool bb ∧ Below wr.heap.size wr wx)
            case first =>
              go_region_held3 (fun w' => w'.cell? ⟨w.heap.size, 0, none⟩ = some (.int .i64 (N : Int)) ∧ w'.cell? ⟨w.heap.size, 1, none⟩ = some (.slice B m d) ∧ w'.cell? ⟨w.heap.size + 1, 0, none⟩ = some (.slice AL nL cL) ∧ w'.cell? ⟨w.heap.size + 1, 1, none⟩ = some (.slice AR nR cR)) (first | go_keep | exact ⟨keepc Tk dP0, keepc Tk dP1, keepc Tk dQ0, keepc Tk dQ1⟩) (first
                | (go_at_call 89; (with_reducible refine (HC1.out _ ?_).mono ?_); (first | exact Tk | exact Below.drew Tk); rintro e wn ⟨rfl, hbn⟩; replace Tk := below_next (by first | exact Tk | exact Below.drew Tk) hbn rfl)
                | (go_at_call 89; (with_reducible refine (HC2.out _ ?_).mono ?_); (first | exact Tk | exact Below.drew Tk); rintro e wn ⟨rfl, hbn⟩; replace Tk := below_next (by first | exact Tk | exact Below.drew Tk) hbn rfl))
              all_goals
                go_wp2_with fail
                go_meet
                exact ⟨by rw [← HBB.out], by first | exact Tk | exact Below.drew Tk⟩
            case rest =>
              obtain ⟨rfl, hTc⟩ := hcut
              have hTn := below_next hTi hTc rfl
              have hVc := own_next hV hTc
              obtain ⟨w9, HWC⟩ : ∃ wq : World, wq = wc := ⟨_, rfl⟩
              subst HWC
              rcases bb with _ | _
              · have HEQ : Hid (evT N ops (Wb N vars (k + 1)) L = evT N ops (Wb N vars (k + 1)) R) := by
                  show _ = _
                  have := HBB.out
                  rw [HEL.out, HER.out]
                  have h2 : (eL : Int) = (eR : Int) := by simpa using this
                  omega
                have HALL2 : Hid (∀ i, i < k + 1 → evT N ops (Wb N vars (i + 1)) L = evT N ops (Wb N vars (i + 1)) R) := fun i hi => by
                  by_cases e : i = k
                  · subst e; exact HEQ.out
                  · exact HALL.out i (by omega)
                go_wp2_with fail
                go_roundw
                case rel => exact ⟨k + 1, by omega, by go_num, HALL2, hVc, hTn⟩
                case measure => simp [intOf]; try omega
              · have HNE : Hid (¬ HoldP N ops L R) := fun hh => by
                  have h1 := HHOLD.out.1 hh k hlt
                  have := HBB.out
                  rw [HEL.out, HER.out] at h1
                  rw [h1] at this
                  simp at this
                go_wp2_with fail
                go_ret2
                exact ⟨_, _, _, by rw [decide_eq_true (show r ≤ 5000 by omega)]; rfl, fun _ => .inr ⟨HNE.out, _, rfl⟩, below_next T0 (below_next T2 hTn rfl) rfl⟩
      · have hk1 : ¬ (k : Int) < (r : Int) := by omega
        have HYES : Hid (HoldP N ops L R) := HHOLD.out.2 fun i hi => HALL.out i (by omega)
        go_wp2_with fail
        go_ret2
        exact ⟨_, _, _, by rw [decide_eq_true (show r ≤ 5000 by omega)]; rfl, fun _ => .inl ⟨HYES.out, rfl, rfl, rfl⟩, below_next T0 (below_next T2 hTr rfl) rfl⟩
end Go.Proofs.YtidjocikbmkjbaaGreat
namespace Go.Proofs.YtidjocikbmkjbaaGreat
open Go.RowKit
set_option linter.unusedVariables false

theorem alg_iff {x : AlgebraM} : algB x = true ↔ AlgP x := by
  have hop : ∀ n o, opB n o = true ↔ OpP n o := fun n o => by
    unfold opB OpP inB
    rw [Bool.and_eq_true, Bool.and_eq_true, Bool.and_eq_true, decide_eq_true_eq, decide_eq_true_eq, decide_eq_true_eq, allIn_m]
    exact ⟨fun ⟨⟨a, b⟩, c, d⟩ => ⟨a, b, c, d⟩, fun ⟨a, b, c, d⟩ => ⟨⟨a, b⟩, c, d⟩⟩
  unfold algB AlgP inB
  simp only [Bool.and_eq_true, decide_eq_true_eq, List.all_eq_true, hop]
  exact ⟨fun ⟨⟨a, b⟩, c, d⟩ => ⟨a, b, c, d⟩, fun ⟨a, b, c, d⟩ => ⟨⟨a, b⟩, c, d⟩⟩
set_option maxRecDepth 20000 in
theorem nil_eq (w : World) : (binOp BinOp.eql 25 (Value.slice none 0 0) (Value.slice none 0 0)).run Tryz.prog w = .ok (.bool true) w := by rfl
set_option maxRecDepth 20000 in
theorem nil_ne (w : World) (p : Addr) (n c : Nat) : (binOp BinOp.eql 25 (Value.slice (some p) n c) (Value.slice none 0 0)).run Tryz.prog w = .ok (.bool false) w := by rfl
theorem ret_b2 {a b c d : Bool} (h : a = c) (h' : b = d) : Ending.returned (.tuple #[.bool a, .bool b]) = .returned (.tuple #[.bool c, .bool d]) := by rw [h, h']
theorem ask_terms {n : Nat} {ops : List OpM} {L R : List Int} (h : askB n ops L R = true) : termB ops L = true ∧ termB ops R = true := by
  unfold askB at h
  rw [Bool.and_eq_true, Bool.and_eq_true] at h
  exact h.1
set_option maxRecDepth 20000 in
set_option maxHeartbeats 4000000 in
theorem doesHold_any (cs ds : List Value) (x : AlgebraM) (e : IdentityM) (w : World) (h : shAlgebra.rd w cs x) (h' : shIdentity.rd w ds e) (hx : AlgP x) :
    Calls Tryz.prog 57 #[.agg cs.toArray, .agg ds.toArray] w (Bl w (.tuple #[.bool (holdB x.1.toNat x.2 e.1 e.2), .bool (askB x.1.toNat x.2 e.1 e.2)])) := by
  have hrd := h
  have hrd' := h'
  obtain ⟨B, m, d, rfl, -, qo⟩ := rdAlgebra h
  obtain ⟨AL, nL, cL, AR, nR, cR, rfl, rL, rR⟩ := rdIdentity h'
  obtain ⟨w0, hw0, T0, hsz0, BP, BQ⟩ := boxes2 w #[.int .i64 x.1, .slice B m d] #[.slice AL nL cL, .slice AR nR cR] 39 32
  have HW0 := Lib.hid hw0
  have H1 : Hid (∀ wz, Below w0.heap.size w0 wz → shAlgebra.rd wz [.int .i64 x.1, .slice B m d] x) := fun wz hz => shAlgebra.stab (shAlgebra.stab hrd T0.block) hz.block
  have H2 : Hid (∀ wz, Below w0.heap.size w0 wz → shIdentity.rd wz [.slice AL nL cL, .slice AR nR cR] e) := fun wz hz => shIdentity.stab (shIdentity.stab hrd' T0.block) hz.block
  have HX := Lib.hid hx
  have HA := Lib.hid (isAlgebra_any _ x w0 (H1.out _ (Below.refl _ _)))
  rw [alg_iff.2 hx] at HA
  have cP0 := BP.cell 0
  have cP1 := BP.cell 1
  have cQ0 := BQ.cell 0
  have cQ1 := BQ.cell 1
  simp at cP0 cP1 cQ0 cQ1
  obtain ⟨ok, HOK⟩ : ∃ b, Hid ((termB x.2 e.1 && termB x.2 e.2) = b) := ⟨_, rfl⟩
  obtain ⟨ask, HASK⟩ : ∃ b, Hid (askB x.1.toNat x.2 e.1 e.2 = b) := ⟨_, rfl⟩
  have HHB : Hid (holdB x.1.toNat x.2 e.1 e.2 = (ask && tt (HoldP x.1.toNat x.2 e.1 e.2))) := by show _ = _; unfold holdB; rw [HASK.out]
  rw [HASK.out, HHB.out]
  clear hw0 hsz0 hrd hrd' rL rR qo hx h h'
  go_enter Tryz.func57, Tryz.ntmps57
  go_upto_region 1 with fail
  rw [← HW0.out]
  go_wp2_with fail
  refine HA.out.mono ?_
  rintro e1 w1 ⟨rfl, hb1⟩
  replace cP0 := keepc hb1 cP0
  replace cP1 := keepc hb1 cP1
  replace cQ0 := keepc hb1 cQ0
  replace cQ1 := keepc hb1 cQ1
  have HC := Lib.hid (isIdentity_any _ _ x e w1 (H1.out _ hb1) (H2.out _ hb1) HX.out)
  rw [HOK.out] at HC
  go_wp2_with fail
  refine HC.out.mono ?_
  rintro e2 w2 ⟨rfl, hb2⟩
  have T2 := below_next hb1 hb2 rfl
  replace cP0 := keepc hb2 cP0
  replace cP1 := keepc hb2 cP1
  replace cQ0 := keepc hb2 cQ0
  replace cQ1 := keepc hb2 cQ1
  rcases ok with _ | _
  · have h0 : ask = false := by
      rcases ask with _ | _
      · rfl
      · have := ask_terms HASK.out
        rw [this.1, this.2] at HOK
        exact absurd HOK.out (by decide)
    subst h0
    go_wp2_with fail
    go_ret2
    exact ⟨rfl, below_next T0 T2 rfl⟩
  · have hok := HOK.out
    rw [Bool.and_eq_true] at hok
    have HK := Lib.hid (counterOf_any _ _ x e w2 (H1.out _ T2) (H2.out _ T2) HX.out hok.1 hok.2)
    rw [HASK.out] at HK
    obtain ⟨t, HT⟩ : ∃ t, Hid (tt (HoldP x.1.toNat x.2 e.1 e.2) = t) := ⟨_, rfl⟩
    clear hok
    go_wp2_with fail
    refine HK.out.mono ?_
    rintro e3 w3 ⟨A3, n3, c3, rfl, hA, hb3⟩
    have T3 := below_next T2 hb3 rfl
    rcases ask with _ | _
    · clear hA
      go_wp2_with fail
      go_ret2
      exact ⟨rfl, below_next T0 T3 rfl⟩
    · rcases hA rfl with ⟨hh, rfl, rfl, rfl⟩ | ⟨hh, p, rfl⟩
      · have ht : t = true := by rw [← HT.out]; exact tt_iff.2 hh
        subst ht
        have hE := nil_eq w3
        clear hA hh
        go_wp2_with fail
        go_ret2
        exact ⟨ret_b2 (by rw [HT.out]; rfl) rfl, below_next T0 T3 rfl⟩
      · have ht : t = false := by rw [← HT.out]; exact (tt_false hh).symm
        subst ht
        have hE := nil_ne w3 p n3 c3
        clear hA hh
        go_wp2_with fail
        go_ret2
        exact ⟨ret_b2 (by rw [HT.out]; rfl) rfl, below_next T0 T3 rfl⟩
set_option maxRecDepth 20000 in
set_option maxHeartbeats 8000000 in
theorem isCounter_any (cs ds : List Value) (x : AlgebraM) (e : IdentityM) (A0 : Option Addr) (n0 c0 : Nat) (V : List Int) (w : World) (h : shAlgebra.rd w cs x) (h' : shIdentity.rd w ds e) (hv : RdL RI w A0 n0 V) (hx : AlgP x) :
    Calls Tryz.prog 58 #[.agg cs.toArray, .agg ds.toArray, .slice A0 n0 c0] w (Bl w (.bool (askB x.1.toNat x.2 e.1 e.2 && failB x.1.toNat x.2 e.1 e.2 V))) := by
  have hrd := h
  have hrd' := h'
  obtain ⟨B, m, d, rfl, -, qo⟩ := rdAlgebra h
  obtain ⟨AL, nL, cL, AR, nR, cR, rfl, rL, rR⟩ := rdIdentity h'
  obtain ⟨w0, hw0, T0, hsz0, BP, BQ⟩ := boxes2 w #[.int .i64 x.1, .slice B m d] #[.slice AL nL cL, .slice AR nR cR] 39 32
  have HW0 := Lib.hid hw0
  have H1 : Hid (∀ wz, Below w0.heap.size w0 wz → shAlgebra.rd wz [.int .i64 x.1, .slice B m d] x) := fun wz hz => shAlgebra.stab (shAlgebra.stab hrd T0.block) hz.block
  have H2 : Hid (∀ wz, Below w0.heap.size w0 wz → shIdentity.rd wz [.slice AL nL cL, .slice AR nR cR] e) := fun wz hz => shIdentity.stab (shIdentity.stab hrd' T0.block) hz.block
  have HL : Hid (∀ wz, Below w0.heap.size w0 wz → RdL RI wz AL nL e.1) := fun wz hz => (rL.next stab_RI T0).next stab_RI hz
  have HR : Hid (∀ wz, Below w0.heap.size w0 wz → RdL RI wz AR nR e.2) := fun wz hz => (rR.next stab_RI T0).next stab_RI hz
  have HV : Hid (∀ wz, Below w0.heap.size w0 wz → RdL RI wz A0 n0 V) := fun wz hz => (hv.next stab_RI T0).next stab_RI hz
  have HVL := Lib.hid hv.len
  have HX := Lib.hid hx
  have hnle := hv.le
  have HA := Lib.hid (doesHold_any _ _ x e w0 (H1.out _ (Below.refl _ _)) (H2.out _ (Below.refl _ _)) hx)
  have cP0 := BP.cell 0
  have cP1 := BP.cell 1
  have cQ0 := BQ.cell 0
  have cQ1 := BQ.cell 1
  simp at cP0 cP1 cQ0 cQ1
  obtain ⟨ask, HASK⟩ : ∃ b, Hid (askB x.1.toNat x.2 e.1 e.2 = b) := ⟨_, rfl⟩
  obtain ⟨hb, HHB⟩ : ∃ b, Hid (holdB x.1.toNat x.2 e.1 e.2 = b) := ⟨_, rfl⟩
  rw [HASK.out, HHB.out] at HA
  rw [HASK.out]
  clear hw0 hsz0 hrd hrd' rL rR qo hx h h' hv
  go_enter Tryz.func58, Tryz.ntmps58
  go_upto_region 1 with fail
  rw [← HW0.out]
  go_wp2_with fail
  refine HA.out.mono ?_
  rintro e1 w1 ⟨rfl, hb1⟩
  replace cP0 := keepc hb1 cP0
  replace cP1 := keepc hb1 cP1
  replace cQ0 := keepc hb1 cQ0
  replace cQ1 := keepc hb1 cQ1
  rcases ask with _ | _
  · go_wp2_with fail
    go_ret
    exact ⟨rfl, below_next T0 hb1 rfl⟩
  obtain ⟨N, hN⟩ : ∃ N : Nat, x.1 = (N : Int) := ⟨x.1.toNat, by have := HX.out.1; omega⟩
  have HNN := Lib.hid hN
  have hN8 : N ≤ 8 := by have := HX.out.2.1; omega
  have hN1 : 1 ≤ N := by have := HX.out.1; omega
  have HNT : Hid (x.1.toNat = N) := by show _ = _; omega
  rw [hN] at cP0
  obtain ⟨ins, HIN⟩ : ∃ b, Hid (allIn 0 ((N : Int) - 1) V = b) := ⟨_, rfl⟩
  have HC := Lib.hid (inSize_any A0 n0 c0 V (N : Int) w1 (HV.out _ hb1))
  rw [HIN.out] at HC
  clear hN
  go_wp2_with fail
  refine HC.out.mono ?_
  rintro e2 w2 ⟨rfl, rfl⟩
  rcases ins with _ | _
  · have HRES : Hid (failB N x.2 e.1 e.2 V = false) := by show _ = _; unfold failB; rw [HIN.out]; rfl
    go_wp2_with fail
    go_ret
    exact ⟨ret_bool (by rw [HNT.out, HRES.out]; rfl), below_next T0 hb1 rfl⟩
  have ht := ask_terms HASK.out
  have HT1 := Lib.hid ht.1
  have HT2 := Lib.hid ht.2
  obtain ⟨vars, HVS⟩ : ∃ l, Hid (varsL e.1 e.2 = l) := ⟨_, rfl⟩
  have HV6 : Hid (vars.length ≤ 6) := by show _ ≤ 6; rw [← HVS.out]; exact vars_le _ _
  have HVI : Hid (∀ v ∈ vars, 0 ≤ v ∧ v ≤ 5) := by rw [← HVS.out]; exact vars_in _ _
  have HVL1 : Hid (∀ v ∈ e.1, v < (mxV vars : Int)) := by rw [← HVS.out]; exact fun v hv => var_lt ht.1 ht.2 (.inl hv)
  have HVR1 : Hid (∀ v ∈ e.2, v < (mxV vars : Int)) := by rw [← HVS.out]; exact fun v hv => var_lt ht.1 ht.2 (.inr hv)
  have T1 := below_box w1 (.cells #[.slice AL nL cL, .slice AR nR cR] 25)
  have HVV := Lib.hid (varsOf_any (some ⟨w1.heap.size, 0, none⟩) 2 2 [e.1, e.2] _ (rd_two AL AR nL nR cL cR e.1 e.2 w1 25 (HL.out _ hb1) (HR.out _ hb1)) (fun t ht v hv => by
    rcases List.mem_cons.1 ht with rfl | ht
    · exact (badV_parts (term_mem HT1.out v hv)).1
    · rw [List.mem_singleton] at ht
      subst ht
      exact (badV_parts (term_mem HT2.out v hv)).1) (by omega))
  have HVE : Hid (markL 6 (vmTo [e.1, e.2] 2) = vars) := by show _ = _; rw [← HVS.out]; exact markL_congr fun y hy => vmTo_two _ _ y
  rw [HVE.out] at HVV
  clear ht
  go_wp2_with fail
  refine HVV.out.mono ?_
  rintro e w3 ⟨A6, c6, rfl, ho6, hb3⟩
  have r6 := rd_of_own (R := RI) ho6 (RI_ints fun v hv => by have := HVI.out v hv; omega)
  have T3 := below_next T1 hb3 rfl
  have T13 := below_next hb1 T3 rfl
  replace cP0 := keepc T3 cP0
  replace cP1 := keepc T3 cP1
  replace cQ0 := keepc T3 cQ0
  replace cQ1 := keepc T3 cQ1
  obtain ⟨q, HQ⟩ : ∃ q, Hid (vars.length = q) := ⟨_, rfl⟩
  rw [HQ.out] at r6 HV6 ⊢
  have hq6 := HV6.out
  clear ho6
  go_wp2_with fail
  go_loop [9, 34] (fun mm i => ∃ (k mx : Nat), k ≤ q ∧ i = .int .i64 k ∧ mm = .int .i64 mx ∧ Hid (mx = mxV (vars.take k)) ∧ mx ≤ 6) (fun _ i => q - (intOf i).toNat)
  case atStart => exact ⟨0, 0, Nat.zero_le _, rfl, rfl, rfl, Nat.zero_le _⟩
  case round =>
    obtain ⟨k, mx, hk, rfl, rfl, HMX, hm6⟩ := hrel
    by_cases hlt : k < q
    · have hk0 : (0 : Int) ≤ (k : Int) := by omega
      have hk1 : (k : Int) < (q : Int) := by omega
      obtain ⟨b, o, vv, v, rfl, hc, ⟨rfl, hv0, hv1⟩, -, hxv⟩ := r6.at hlt
      have hvi := HVI.out v (List.mem_of_getElem? hxv)
      have HM2 : Hid ((mxV (vars.take (k + 1)) : Int) = v + 1) := mx_last (by rw [List.take_add_one, hxv]; simp) hvi.1
      obtain ⟨y, rfl⟩ := Int.eq_ofNat_of_zero_le hvi.1
      clear hxv
      go_wp2_with fail
      go_round
      case rel => exact ⟨k + 1, y + 1, by omega, by go_num, by go_num, (by show _ = _; have := HM2.out; omega), by omega⟩
      case measure => simp [intOf]; try omega
    · obtain rfl : k = q := by omega
      have hk1 : ¬ (k : Int) < (k : Int) := by omega
      have HM2 : Hid (mxV vars = mx) := by
        show _ = _
        rw [HMX.out, List.take_of_length_le (by rw [HQ.out]; exact Nat.le_refl _)]
      obtain ⟨eL, HEL⟩ : ∃ z, Hid (evT N x.2 V e.1 = z) := ⟨_, rfl⟩
      obtain ⟨eR, HER⟩ : ∃ z, Hid (evT N x.2 V e.2 = z) := ⟨_, rfl⟩
      obtain ⟨bb, HBB⟩ : ∃ b, Hid (((eL : Int) != (eR : Int)) = b) := ⟨_, rfl⟩
      have HIV := Lib.hid (allIn_m.1 HIN.out)
      have HF : Hid (failB N x.2 e.1 e.2 V = (decide (n0 = mx) && bb)) := by
        show _ = _
        unfold failB
        rw [HIN.out, HVS.out, HM2.out, HVL.out, HEL.out, HER.out, ← HBB.out, Bool.true_and]
        congr 1
        rw [Bool.eq_iff_iff, decide_eq_true_iff, bne_iff_ne]
        exact ⟨fun h hh => h (by omega), fun h hh => h (by omega)⟩
      by_cases hnm : n0 = mx
      · subst hnm
        have hvl : ∀ v, v < (mxV vars : Int) → v < (V.length : Int) := fun v hv => by rw [HVL.out]; rw [HM2.out] at hv; exact hv
        have HC1 : Hid (∀ wz, Below w3.heap.size w3 wz → Calls Tryz.prog 89 #[.agg #[.int .i64 x.1, .slice B m d], .slice AL nL cL, .slice A0 n0 c0] wz (Bl wz (.int .i64 (eL : Int)))) := fun wz hz => by
          have := eval_any _ x AL A0 nL cL n0 c0 e.1 V wz (H1.out wz (below_next T13 hz rfl)) HX.out (HL.out wz (below_next T13 hz rfl)) (HV.out wz (below_next T13 hz rfl)) HT1.out (fun v hv => hvl v (HVL1.out v hv)) (fun y hy => by have := HIV.out y hy; rw [HNN.out]; exact this)
          rw [HNT.out, HEL.out] at this
          exact this
        have HC2 : Hid (∀ wz, Below w3.heap.size w3 wz → Calls Tryz.prog 89 #[.agg #[.int .i64 x.1, .slice B m d], .slice AR nR cR, .slice A0 n0 c0] wz (Bl wz (.int .i64 (eR : Int)))) := fun wz hz => by
          have := eval_any _ x AR A0 nR cR n0 c0 e.2 V wz (H1.out wz (below_next T13 hz rfl)) HX.out (HR.out wz (below_next T13 hz rfl)) (HV.out wz (below_next T13 hz rfl)) HT2.out (fun v hv => hvl v (HVR1.out v hv)) (fun y hy => by have := HIV.out y hy; rw [HNN.out]; exact this)
          rw [HNT.out, HER.out] at this
          exact this
        rw [HNN.out] at HC1 HC2
        have hd1 : ((n0 : Int) == (n0 : Int)) = true := by rw [beq_iff_eq]
        have Tk : Below w3.heap.size w3 w3 := Below.refl _ _
        have HRES : Hid (failB N x.2 e.1 e.2 V = bb) := by show _ = _; rw [HF.out, decide_eq_true rfl]; rfl
        clear hvl r6
        go_upto_region 10 with fail
        go_region_held3 (fun w' => w'.cell? ⟨w.heap.size, 0, none⟩ = some (.int .i64 (N : Int)) ∧ w'.cell? ⟨w.heap.size, 1, none⟩ = some (.slice B m d) ∧ w'.cell? ⟨w.heap.size + 1, 0, none⟩ = some (.slice AL nL cL) ∧ w'.cell? ⟨w.heap.size + 1, 1, none⟩ = some (.slice AR nR cR)) (first | go_keep | exact ⟨keepc Tk cP0, keepc Tk cP1, keepc Tk cQ0, keepc Tk cQ1⟩) (first
          | (go_at_call 89; (with_reducible refine (HC1.out _ ?_).mono ?_); (first | exact Tk | exact Below.drew Tk); rintro e wn ⟨rfl, hbn⟩; replace Tk := below_next (by first | exact Tk | exact Below.drew Tk) hbn rfl)
          | (go_at_call 89; (with_reducible refine (HC2.out _ ?_).mono ?_); (first | exact Tk | exact Below.drew Tk); rintro e wn ⟨rfl, hbn⟩; replace Tk := below_next (by first | exact Tk | exact Below.drew Tk) hbn rfl))
        all_goals
          go_wp2_with fail
          go_ret
          exact ⟨ret_bool (by rw [HNT.out, HRES.out, ← HBB.out]; rfl), below_next T0 (below_next T13 (by first | exact Tk | exact Below.drew Tk) rfl) rfl⟩
      · have hd1 : ((n0 : Int) == (mx : Int)) = false := by rw [beq_eq_false_iff_ne]; omega
        have HRES : Hid (failB N x.2 e.1 e.2 V = false) := by show _ = _; rw [HF.out, decide_eq_false hnm]; rfl
        clear r6
        go_upto_region 10 with fail
        go_quiet (fail)
        go_wp2_with fail
        go_ret
        exact ⟨ret_bool (by rw [HNT.out, HRES.out]), (by first | exact below_next T0 T13 rfl | exact below_drewN (below_next T0 T13 rfl) _ | exact below_drewN (below_drewN (below_next T0 T13 rfl) _) _ | exact below_drewN (below_drewN (below_drewN (below_next T0 T13 rfl) _) _) _)⟩
end Go.Proofs.YtidjocikbmkjbaaGreat
