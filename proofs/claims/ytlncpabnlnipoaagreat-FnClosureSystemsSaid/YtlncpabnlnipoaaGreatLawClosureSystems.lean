
/- The walk of the law FnClosureSystems. -/
import Derived.Test.YtlncpabnlnipoaaGreatDrawK
import Derived.Test.YtlncpabnlnipoaaGreatCsQ
import Derived.Test.YtlncpabnlnipoaaGreatIrrWalk
import Derived.Test.YtlncpabnlnipoaaGreatFreeP
import Derived.Test.YtlncpabnlnipoaaGreatFreeR
import Derived.Test.YtlncpabnlnipoaaGreatLat2
import Derived.Test.YtlncpabnlnipoaaGreatRl
import Derived.Test.YtlncpabnlnipoaaGreatWith
namespace Go.Proofs.YtlncpabnlnipoaaGreat
open Go.RowKit

def RU8 (_ : World) (v : Value) (x : Int) : Prop := v = .int .u8 x ∧ 0 ≤ x ∧ x < 256
theorem code_inB {w : World} {A : Option Addr} {n : Nat} {xs : List Int} (h : RdL RU8 w A n xs) (hn : n ≤ 65536) : CodeB w A n := by
  refine ⟨hn, fun h0 => ?_⟩
  obtain ⟨b, o, v, x, e, -⟩ := h.at h0
  subst e
  refine ⟨b, o, rfl, fun i hi => ?_⟩
  obtain ⟨v, x, hc, ⟨rfl, h1, h2⟩, -, -⟩ := h.at' hi
  exact ⟨x.toNat, by omega, by rw [hc, Int.toNat_of_nonneg h1]⟩
set_option maxHeartbeats 400000 in
theorem rBig_any (A : Option Addr) (n c : Nat) (w : World) (hn : n ≤ 9223372036854775807) : Calls Tryz.prog 4 #[.slice A n c] w fun e w' => e = .returned (.bool (decide (65536 < n))) ∧ w = w' := by
  go_enter Tryz.func4, Tryz.ntmps4
  go_wp2
  go_ret
  exact ⟨ret_bool (decide_eq_decide.2 (by omega)), rfl⟩
theorem ownmb_len {w : World} {A : Option Addr} {n c lo : Nat} {xss : List (List Int)} (h : OwM 25 3 (.int .i64) lo w (.slice A n c) n xss) : xss.length = n ∧ n ≤ c := by
  obtain ⟨vs, h1, h2, -⟩ := h
  have := h1.1
  refine ⟨by rw [← h2]; simpa using this, ?_⟩
  rcases h1.2 with ⟨e', h0⟩ | ⟨g', cap, cur, e', hb', -, h1, -⟩
  · omega
  · injection e' with _ _ e3
    omega
set_option maxHeartbeats 400000 in
theorem isLattice_any (A : Option Addr) (n c : Nat) (xss : List (List Int)) (w : World) (h : RdL (RV RI) w A n xss) : Calls Tryz.prog 18 #[.agg #[.slice A n c]] w (Bl w (.bool (tt (GoodP xss ∧ LatP (leF xss) n)))) := by
  have hb0 := below_box w (.cells #[.slice A n c] 37)
  go_enter Tryz.func18, Tryz.ntmps18
  go_wp2_with fail
  refine (latticeOf_any A n c xss _ (h.next stab_RVI hb0)).mono ?_
  rintro e w1 ⟨v, rfl, -, hb⟩
  go_wp2_with fail
  go_ret
  exact ⟨rfl, below_next hb0 hb rfl⟩
set_option linter.unusedVariables false in
set_option maxRecDepth 100000 in
set_option maxHeartbeats 16000000 in
theorem lawClosureSystems (A : Option Addr) (n c : Nat) (xs : List Int) (w : World) (h : RdL RU8 w A n xs) :
    Calls Tryz.prog 3 #[.slice A n c] w (Bl w (.bool true)) := by
  have hle := h.le
  by_cases hbig : 65536 < n
  · go_enter Tryz.func3, Tryz.ntmps3
    have hd : decide (65536 < n) = true := by simpa using hbig
    go_wp2_with fail
    refine (rBig_any A n c _ hle).mono ?_
    rintro e w' ⟨rfl, rfl⟩
    rw [hd]
    go_wp2_with fail
    go_ret
    exact ⟨rfl, Below.refl _ _⟩
  have hC := code_inB h (by omega)
  have HDb : Hid (decide (65536 < n) = false) := by show _ = _; simpa using hbig
  clear hbig
  go_enter Tryz.func3, Tryz.ntmps3
  go_wp2_with fail
  refine (rBig_any A n c _ hle).mono ?_
  rintro e w' ⟨rfl, rfl⟩
  rw [HDb.out]
  go_wp2_with fail
  refine (drawCO_any A n c _ hC).mono ?_
  rintro e w1 ⟨N, A1, m1, c1, S, A2, m2, c2, T, rfl, hS, hmc, hrow, hT, hjd, hj8, T1⟩
  have HR : Hid (∀ s ∈ S, s.length ≤ 1048576) := fun s hs => by have := hrow s hs; omega
  have HLS := Lib.hid hS.len
  have HLT := Lib.hid hT.len
  clear hrow
  obtain ⟨cl, HCL⟩ : ∃ l, Hid (closeRes N S T = l) := ⟨_, rfl⟩
  obtain ⟨ok, HOK⟩ : ∃ b, Hid (closeOk N S T = b) := ⟨_, rfl⟩
  have HBD := Lib.hid (cq_bd N S T)
  rw [HCL.out] at HBD
  have HC1 := Lib.hid (implClosureOf_any A1 A2 m1 c1 m2 c2 S T N w1 hS hmc HR.out hT)
  rw [HCL.out, HOK.out] at HC1
  go_wp2_with fail
  refine HC1.out.mono ?_
  rintro e w2 ⟨A3, n3, c3, rfl, hO3, T2⟩
  have H3 := rd_of_own (R := RI) hO3 (RI_ints HBD.out)
  clear hO3 HC1
  replace hS := hS.next stab_RVI T2
  replace hT := hT.next stab_RI T2
  have T12 := below_next T1 T2 rfl
  have HC2 := Lib.hid (specClosureOf_any A1 A2 m1 c1 m2 c2 S T N w2 hS HR.out hT)
  rw [HCL.out, HOK.out] at HC2
  go_wp2_with fail
  refine HC2.out.mono ?_
  rintro e w3 ⟨A4, n4, c4, rfl, H4, T3⟩
  clear HC2
  replace hS := hS.next stab_RVI T3
  replace hT := hT.next stab_RI T3
  replace H3 := H3.next stab_RI T3
  replace T12 := below_next T12 T3 rfl
  have hbb : (ok != ok) = false := by cases ok <;> rfl
  go_wp2_with fail
  refine (rInts_any A3 A4 n3 n4 c3 c4 _ _ w3 H3 H4).mono ?_
  rintro e w4 ⟨rfl, z4, rfl⟩
  rw [eqL_self]
  replace hS := hS.drewN stab_RVI z4
  replace hT := hT.drewN stab_RI z4
  replace H3 := H3.drewN stab_RI z4
  replace T12 := below_drewN T12 z4
  clear H4 T1 T2 T3 hbb
  obtain ⟨w5, HW5⟩ : ∃ w5, w5 = w3.drewN z4 := ⟨_, rfl⟩
  rw [← HW5] at hS hT H3 T12 ⊢
  clear HW5
  obtain ⟨is, HIS⟩ : ∃ b, Hid (sysRes N S = b) := ⟨_, rfl⟩
  obtain ⟨fine, HFI⟩ : ∃ b, Hid (inB N 0 6 = b) := ⟨_, rfl⟩
  have hb1 : (is != is) = false := by cases is <;> rfl
  have hb2 : (fine != fine) = false := by cases fine <;> rfl
  have HI1 := Lib.hid (implIsSys_any A1 m1 c1 S N w5 hS hmc HR.out)
  rw [HIS.out, HFI.out] at HI1
  go_wp2_with fail
  refine HI1.out.mono ?_
  rintro e w6 ⟨rfl, T6⟩
  replace hS := hS.next stab_RVI T6
  replace hT := hT.next stab_RI T6
  replace H3 := H3.next stab_RI T6
  replace T12 := below_next T12 T6 rfl
  clear HI1 T6
  have HI2 := Lib.hid (specIsSys_any A1 m1 c1 S N w6 hS)
  rw [HIS.out, HFI.out] at HI2
  go_wp2_with fail
  refine HI2.out.mono ?_
  rintro e w7 ⟨rfl, T7⟩
  replace hS := hS.next stab_RVI T7
  replace hT := hT.next stab_RI T7
  replace H3 := H3.next stab_RI T7
  replace T12 := below_next T12 T7 rfl
  clear HI2 T7
  go_upto_if 93 with fail
  go_cut [14, 15, 16, 17, 18] from 94 to 148 (fun _ _ _ _ _ wx => Below w7.heap.size w7 wx)
  case first =>
    rcases ok with _ | _
    · go_wp2_with fail
      go_meet
      exact Below.refl _ _
    · obtain ⟨hsys, -⟩ := cq_ok HOK.out
      rw [HIS.out] at hsys
      subst hsys
      have HAO := Lib.hid (cq_againOk HOK.out)
      have HAG := Lib.hid (cq_again HOK.out)
      have HWI := Lib.hid (cq_within HOK.out)
      have HSO := Lib.hid (cq_subOk HOK.out)
      have HSL := Lib.hid (cq_less HOK.out)
      rw [HCL.out] at HAO HAG HWI HSL
      have T8 : Below w7.heap.size w7 w7 := Below.refl _ _
      have HC3 := Lib.hid (implClosureOf_any A1 A3 m1 c1 n3 c3 S cl N w7 hS hmc HR.out H3)
      rw [HAG.out, HAO.out] at HC3
      go_wp2_with fail
      refine HC3.out.mono ?_
      rintro e w8 ⟨A8, n8, c8, rfl, hO8, T8'⟩
      have H8 := rd_of_own (R := RI) hO8 (RI_ints HBD.out)
      clear hO8 HC3
      replace hS := hS.next stab_RVI T8'
      replace hT := hT.next stab_RI T8'
      replace H3 := H3.next stab_RI T8'
      replace T8 := below_next T8 T8' rfl
      clear T8'
      go_wp2_with fail
      refine (rInts_any A8 A3 n8 n3 c8 c3 cl cl w8 H8 H3).mono ?_
      rintro e w9 ⟨rfl, z9, rfl⟩
      rw [eqL_self]
      replace hS := hS.drewN stab_RVI z9
      replace hT := hT.drewN stab_RI z9
      replace H3 := H3.drewN stab_RI z9
      replace T8 := below_drewN T8 z9
      clear H8
      obtain ⟨w9, HW9⟩ : ∃ w9, w9 = w8.drewN z9 := ⟨_, rfl⟩
      rw [← HW9] at hS hT H3 T8 ⊢
      clear HW9
      go_wp2_with fail
      refine (rWithin_any A2 A3 m2 n3 c2 c3 T cl w9 hT H3).mono ?_
      rintro e w10 ⟨rfl, rfl⟩
      rw [HWI.out]
      go_wp2_with fail
      go_loopw [16, 17, 18] (fun v _ _ wr => ∃ k : Nat, k ≤ m2 ∧ v = .int .i64 k ∧ Below w9.heap.size w9 wr) (fun v _ _ _ => m2 - (intOf v).toNat)
      case atStart => exact ⟨0, Nat.zero_le _, rfl, Below.refl _ _⟩
      case round =>
        obtain ⟨k, hk, rfl, hTr⟩ := hrel
        replace hS := hS.next stab_RVI hTr
        replace hT := hT.next stab_RI hTr
        replace H3 := H3.next stab_RI hTr
        by_cases hlt : k < m2
        · have hlt1 : (k : Int) < (m2 : Int) := by omega
          have hk0 : (0 : Int) ≤ (k : Int) := by omega
          have hkc : (k : Int) ≤ (c2 : Int) := by omega
          have hk2 : (0 : Int) ≤ (k : Int) + 1 := by omega
          have hk3 : (k : Int) + 1 ≤ (m2 : Int) := by omega
          have hwr : IntKind.i64.wrap ((k : Int) + 1) = (k : Int) + 1 := by rw [IntKind.wrap_i64]; omega
          obtain ⟨b, o, -, -, hA2, -⟩ := hT.at hlt
          subst hA2
          obtain ⟨wo, HWO⟩ : ∃ wo : World, wo = wr := ⟨_, rfl⟩
          subst HWO
          have H1 := Lib.hid (rdl_take hT (Nat.le_of_lt hlt))
          obtain ⟨ad, HIF, H2⟩ : ∃ ad, Hid ((if c2 = k + 1 then some (⟨b, o, none⟩ : Addr) else some ⟨b, o + (k + 1), none⟩) = ad) ∧ Hid (RdL RI wo ad (m2 - (k + 1)) (T.drop (k + 1))) := by
            by_cases hq : c2 = k + 1
            · refine ⟨some ⟨b, o, none⟩, if_pos hq, ?_⟩
              have e0 : m2 - (k + 1) = 0 := by omega
              have e1 : T.drop (k + 1) = [] := List.drop_eq_nil_of_le (by rw [hT.1]; omega)
              show RdL RI wo _ _ _
              rw [e0, e1]
              exact ⟨rfl, Nat.zero_le _, fun j x hj => by simp at hj⟩
            · exact ⟨_, if_neg hq, rdl_drop hT (k + 1)⟩
          obtain ⟨rs, HRS⟩ : ∃ l, Hid (closeRes N S (T.take k ++ T.drop (k + 1)) = l) := ⟨_, rfl⟩
          have HRB := Lib.hid (cq_bd N S (T.take k ++ T.drop (k + 1)))
          have HLE := Lib.hid (HSL.out k)
          rw [HRS.out] at HRB HLE
          have HTB : Hid (∀ y ∈ T.take k ++ T.drop (k + 1), -9223372036854775808 ≤ y ∧ y ≤ 9223372036854775807) := fun y hy => by
            have hy' : y ∈ T := by
              rcases List.mem_append.1 hy with hy | hy
              · exact List.mem_of_mem_take hy
              · exact List.mem_of_mem_drop hy
            obtain ⟨i, hi⟩ := List.getElem?_of_mem hy'
            obtain ⟨_, _, v, _, _, rfl, h1, h2⟩ := hT.2.2 i y hi
            exact ⟨h1, h2⟩
          have HCALL : Hid (∀ (A : Option Addr) (n c : Nat) (w' : World), Below wo.heap.size wo w' → RdL RI w' A n (T.take k ++ T.drop (k + 1)) → Calls Tryz.prog 6 #[.int .i64 N, .slice A1 m1 c1, .slice A n c] w' (OwnB w' rs true)) := fun A n c w' hb ht => by
            have := implClosureOf_any A1 A m1 c1 n c S _ N w' (hS.next stab_RVI hb) hmc HR.out ht
            rw [HSO.out k, HRS.out] at this
            exact this
          have HS := Lib.hid hS
          have H3H := Lib.hid H3
          have HTT := Lib.hid hT
          clear hS H3 hT
          go_upto_region 19 with fail
          go_cut [17, 18] from 119 to 148 (fun u17 u18 wx => ∃ A7 n7 c7, u17 = .slice A7 n7 c7 ∧ u18 = .bool true ∧ RdL RI wx A7 n7 rs ∧ Below wo.heap.size wo wx)
          case first =>
            go_region_law (first
              | (refine step_appAny (R := RI) _ rfl (.tmp 128) (.tmp 131) 25 3 rfl (.int .i64 0) 8 Tryz.underlying25 info_int rfl (by decide) wo.heap.size 0 0 (some ⟨wo.heap.size, 0, none⟩) [] (by rfl) (lit0 _ (by simp)) (some ⟨b, o, none⟩) k c2 (T.take k) (fun y => .int .i64 y) (fun _ => rfl) (by rfl) (H1.out.next stab_RI ((below_drewN (Below.refl _ _) _).alloc (by simp) _)) (fun _ _ _ hr => hr.1) (by omega) (by simp) ?_; intro A5 c5 w5 hown5 hg5 hb5; simp only [Nat.zero_add, List.nil_append] at hown5; have T5 : Below wo.heap.size wo w5 := ((below_drewN (Below.refl _ _) _).alloc (by simp) _).trans hb5)
              | (refine step_appAny (R := RI) _ rfl (.tmp 132) (.tmp 136) 25 3 rfl (.int .i64 0) 8 Tryz.underlying25 info_int rfl (by decide) wo.heap.size k c5 A5 ((T.take k).map fun y => .int .i64 y) (by rfl) (by exact hown5) ad (m2 - (k + 1)) (c2 - (k + 1)) (T.drop (k + 1)) (fun y => .int .i64 y) (fun _ => rfl) (by show Value.slice (if c2 = k + 1 then _ else _) _ _ = _; rw [HIF.out]) (H2.out.next stab_RI T5) (fun _ _ _ hr => hr.1) (by omega) (by exact T5.size) ?_; intro A6 c6 w6 hown6 hg6 hb6; have T6 := T5.trans hb6; have hrd6 : RdL RI w6 A6 (k + (m2 - (k + 1))) (T.take k ++ T.drop (k + 1)) := rd_of_own (R := RI) (show w6.ownsRow wo.heap.size 3 1 (.slice A6 (k + (m2 - (k + 1))) c6) (k + (m2 - (k + 1))) (ints (T.take k ++ T.drop (k + 1))) by simpa [ints] using hown6) (RI_ints HTB.out))
              | (go_simp; go_at_call 6; refine (HCALL.out _ _ _ _ T6 hrd6).mono ?_; rintro e w7 ⟨A7, n7, c7, rfl, hown7, hb7⟩; have T7 := below_next T6 hb7 rfl))
            all_goals
              rw [HIF.out]
              go_wp2_with fail
              go_meet
              exact ⟨A7, n7, c7, rfl, rfl, rd_of_own (R := RI) hown7 (RI_ints HRB.out), T7⟩
          case rest =>
            obtain ⟨A7, n7, c7, rfl, rfl, H7, hTc⟩ := hcut
            obtain ⟨w10, HWC⟩ : ∃ wq : World, wq = wc := ⟨_, rfl⟩
            subst HWC
            have H3 := H3H.out.next stab_RI hTc
            have hTn := below_next hTr hTc rfl
            go_wp2_with fail
            refine (rWithin_any A7 A3 n7 n3 c7 c3 rs cl w10 H7 H3).mono ?_
            rintro e w11 ⟨rfl, rfl⟩
            rw [HLE.out]
            go_wp2_with fail
            go_roundw
            case rel => exact ⟨k + 1, by omega, by go_num, hTn⟩
            case measure => simp [intOf]; omega
        · obtain rfl : k = m2 := by omega
          have hlt1 : ¬ (k : Int) < (k : Int) := by omega
          go_wp2_with fail
          go_meet
          exact below_next T8 hTr rfl
  case rest =>
    have hTc : Below w7.heap.size w7 wc := hcut
    obtain ⟨w8, HWC⟩ : ∃ wq : World, wq = wc := ⟨_, rfl⟩
    subst HWC
    replace hS := hS.next stab_RVI hTc
    replace T12 := below_next T12 hTc rfl
    clear hTc hT H3
    have HIF : Hid (is = true → fine = true) := by
      show is = true → fine = true
      intro hi
      rw [hi] at HIS
      rw [← HFI.out]
      exact cq_fine HIS.out
    go_upto_region 22 with fail
    go_cut [152] from 149 to 151 (fun u152 wx => u152 = .bool is ∧ wx = w8)
    case first =>
      rcases is with _ | _
      · rcases fine with _ | _
        all_goals
          go_wp2_with fail
          go_meet
          exact ⟨rfl, rfl⟩
      · have hfi := HIF.out rfl
        subst hfi
        go_wp2_with fail
        go_meet
        exact ⟨rfl, rfl⟩
    case rest =>
      obtain ⟨rfl, hwc⟩ := hcut
      subst hwc
      obtain ⟨w8, HWC⟩ : ∃ wq : World, wq = wc := ⟨_, rfl⟩
      subst HWC
      go_upto_if 152 with fail
      go_cut [19, 20, 21, 22, 23, 24, 25, 26, 27, 28, 29, 30, 31, 32] from 153 to 248 (fun _ _ _ _ _ _ _ _ _ _ _ _ _ _ wx => Below w8.heap.size w8 wx)
      case first =>
        rcases is with _ | _
        · go_wp2_with fail
          go_meet
          exact Below.refl _ _
        · have hfi := HIF.out rfl
          subst hfi
          have T9 : Below w8.heap.size w8 w8 := Below.refl _ _
          obtain ⟨ir, HIR⟩ : ∃ l, Hid (irrRes N S = l) := ⟨_, rfl⟩
          have HIB : Hid (∀ (w : World), ∀ p ∈ ir, ∀ y ∈ p, RI w (.int .i64 y) y) := by
            show ∀ (w : World), ∀ p ∈ ir, ∀ y ∈ p, RI w (.int .i64 y) y
            rw [← HIR.out]
            exact fun w => cq_irrRI' N S w
          have HSF : Hid (ir.length ≤ 20 → sfOk N ir = true ∧ sfRes N ir = S) := by
            show ir.length ≤ 20 → sfOk N ir = true ∧ sfRes N ir = S
            rw [← HIR.out]
            exact fun hl => ⟨cq_irrOk HIS.out hl, cq_irr HIS.out hl⟩
          have HM1 := Lib.hid (implIrr_any A1 m1 c1 S N w8 hS hmc HR.out)
          rw [HIR.out, HIS.out] at HM1
          go_wp2_with fail
          refine HM1.out.mono ?_
          rintro e w9 ⟨A9, n9, c9, rfl, hO9, T9'⟩
          have H9 := hO9.rd (R := RI) fun p hp y hy => HIB.out w9 p hp y hy
          obtain ⟨hl9, hc9⟩ := ownmb_len hO9
          have HL9 := Lib.hid hl9
          clear hO9 HM1 hl9
          replace hS := hS.next stab_RVI T9'
          replace T9 := below_next T9 T9' rfl
          clear T9'
          have HM2 := Lib.hid (specIrr_any A1 m1 c1 S N w9 hS)
          rw [HIR.out, HIS.out] at HM2
          go_wp2_with fail
          refine HM2.out.mono ?_
          rintro e w10 ⟨A10, n10, c10, rfl, H10, T10⟩
          clear HM2
          replace hS := hS.next stab_RVI T10
          replace H9 := H9.next stab_RVI T10
          replace T9 := below_next T9 T10 rfl
          clear T10
          go_wp2_with fail
          refine (rTable_any A9 A10 n9 n10 c9 c10 _ _ w10 H9 H10).mono ?_
          rintro e w11 ⟨rfl, z11, rfl⟩
          rw [eqLL_self]
          replace hS := hS.drewN stab_RVI z11
          replace H9 := H9.drewN stab_RVI z11
          replace T9 := below_drewN T9 z11
          clear H10
          obtain ⟨w11, HW11⟩ : ∃ w11, w11 = w10.drewN z11 := ⟨_, rfl⟩
          rw [← HW11] at hS H9 T9 ⊢
          clear HW11
          go_upto_if 180 with fail
          go_cut [23, 24] from 180 to 194 (fun _ _ wx => Below w11.heap.size w11 wx)
          case first =>
            by_cases h20 : n9 ≤ 20
            · have h20' : (n9 : Int) ≤ 20 := by omega
              obtain ⟨hs1, hs2⟩ := HSF.out (by rw [HL9.out]; exact h20)
              have HS1 := Lib.hid (implSF_any A9 n9 c9 ir N w11 H9)
              rw [hs1, hs2] at HS1
              have HSB : Hid (∀ (w : World), ∀ p ∈ S, ∀ y ∈ p, RI w (.int .i64 y) y) := by
                show ∀ (w : World), ∀ p ∈ S, ∀ y ∈ p, RI w (.int .i64 y) y
                rw [← hs2]
                exact fun w => sfRes_RI N ir w
              clear hs1 hs2
              go_wp2_with fail
              refine HS1.out.mono ?_
              rintro e w12 ⟨A12, n12, c12, rfl, hO12, T12'⟩
              have H12 := hO12.rd (R := RI) fun p hp y hy => HSB.out w12 p hp y hy
              clear hO12 HS1
              replace hS := hS.next stab_RVI T12'
              go_wp2_with fail
              refine (rTable_any A12 A1 n12 m1 c12 c1 _ _ w12 H12 hS).mono ?_
              rintro e w13 ⟨rfl, z13, rfl⟩
              rw [eqLL_self]
              go_wp2_with fail
              go_meet
              exact below_drewN T12' z13
            · have h20' : ¬ (n9 : Int) ≤ 20 := by omega
              go_wp2_with fail
              go_meet
              exact Below.refl _ _
          case rest =>
            have hTc : Below w11.heap.size w11 wc := hcut
            obtain ⟨w12, HWC⟩ : ∃ wq : World, wq = wc := ⟨_, rfl⟩
            subst HWC
            replace hS := hS.next stab_RVI hTc
            replace T9 := below_next T9 hTc rfl
            clear hTc H9
            obtain ⟨pp, HPP⟩ : ∃ l, Hid (posRes N S = l) := ⟨_, rfl⟩
            obtain ⟨pk, HPK⟩ : ∃ b, Hid (posOk N S = b) := ⟨_, rfl⟩
            have HPB : Hid (∀ (w : World), ∀ p ∈ pp, ∀ y ∈ p, RI w (.int .i64 y) y) := by
              show ∀ (w : World), ∀ p ∈ pp, ∀ y ∈ p, RI w (.int .i64 y) y
              rw [← HPP.out]
              exact fun w => posRes_RI N S w
            have HLA : Hid (pk = true → GoodP pp ∧ LatP (leF pp) pp.length) := by
              show pk = true → GoodP pp ∧ LatP (leF pp) pp.length
              rw [← HPP.out, ← HPK.out]
              exact fun h => cq_lat h
            have HP1 := Lib.hid (implSysPos_any A1 m1 c1 S N w12 hS hmc HR.out)
            rw [HPP.out, HPK.out] at HP1
            go_wp2_with fail
            refine HP1.out.mono ?_
            rintro e w13 ⟨A13, n13, c13, rfl, hO13, T13⟩
            have H13 := hO13.rd (R := RI) fun p hp y hy => HPB.out w13 p hp y hy
            clear hO13 HP1
            replace hS := hS.next stab_RVI T13
            replace T9 := below_next T9 T13 rfl
            clear T13
            obtain ⟨w14, HW14⟩ : ∃ wb, Hid (wb = w13.alloc (.cells #[.slice A13 n13 c13] 37)) := ⟨_, rfl⟩
            have hb14 : Below w13.heap.size w13 w14 := by rw [HW14.out]; exact below_box _ _
            have B14 : Blk w14 w13.heap.size 37 #[.slice A13 n13 c13] := by rw [HW14.out]; exact Blk.new _ _ _
            replace hS := hS.next stab_RVI hb14
            replace H13 := H13.next stab_RVI hb14
            replace T9 := below_next T9 hb14 rfl
            clear hb14
            go_upto_if 201 with fail
            rw [← HW14.out]
            go_cut [27, 28] from 201 to 223 (fun _ _ wx => Below w14.heap.size w14 wx)
            case first =>
              rcases pk with _ | _
              · go_wp2_with fail
                go_meet
                exact Below.refl _ _
              · have HL13 := Lib.hid H13.len
                have HLAT : Hid (GoodP pp ∧ LatP (leF pp) n13) := by
                  show GoodP pp ∧ LatP (leF pp) n13
                  rw [← HL13.out]
                  exact HLA.out rfl
                have HP2 := Lib.hid (specSysPos_any A1 m1 c1 S N w14 hS)
                rw [HPP.out, HPK.out] at HP2
                have T14 : Below w14.heap.size w14 w14 := Below.refl _ _
                go_wp2_with fail
                refine HP2.out.mono ?_
                rintro e w15 ⟨A15, n15, c15, rfl, H15, T15⟩
                obtain ⟨w16, HW16⟩ : ∃ wb, Hid (wb = w15.alloc (.cells #[.slice A15 n15 c15] 37)) := ⟨_, rfl⟩
                have hb16 : Below w15.heap.size w15 w16 := by rw [HW16.out]; exact below_box _ _
                have B16 : Blk w16 w15.heap.size 37 #[.slice A15 n15 c15] := by rw [HW16.out]; exact Blk.new _ _ _
                replace B14 := (B14.next T15).next hb16
                replace H13 := (H13.next stab_RVI T15).next stab_RVI hb16
                replace H15 := H15.next stab_RVI hb16
                replace T14 := below_next (below_next T14 T15 rfl) hb16 rfl
                have k14 := B14.cell 0
                have k16 := B16.cell 0
                simp at k14 k16
                rw [HW16.out] at k14 k16
                clear T15 hb16 HP2 hS
                go_wp2_with fail
                rw [← HW16.out]
                refine (rTable_any A13 A15 n13 n15 c13 c15 pp pp w16 H13 H15).mono ?_
                rintro e w17 ⟨rfl, z17, rfl⟩
                rw [eqLL_self]
                replace B14 := B14.drewN z17
                replace H13 := H13.drewN stab_RVI z17
                replace T14 := below_drewN T14 z17
                clear H15 B16 k14 k16
                obtain ⟨w17, HW17⟩ : ∃ w17, w17 = w16.drewN z17 := ⟨_, rfl⟩
                rw [← HW17] at B14 H13 T14 ⊢
                clear HW17
                have k14 := B14.cell 0
                simp at k14
                go_wp2_with fail
                refine (isLattice_any A13 n13 c13 pp w17 H13).mono ?_
                rintro e w18 ⟨rfl, T18⟩
                rw [← tt_true HLAT.out]
                go_wp2_with fail
                go_meet
                exact below_next T14 T18 rfl
            case rest =>
              have hTc : Below w14.heap.size w14 wc := hcut
              obtain ⟨w19, HWC⟩ : ∃ wq : World, wq = wc := ⟨_, rfl⟩
              subst HWC
              replace hS := hS.next stab_RVI hTc
              replace T9 := below_next T9 hTc rfl
              clear hTc H13 B14
              obtain ⟨fs, HFS⟩ : ∃ l, Hid (fsRes N S = l) := ⟨_, rfl⟩
              have HFB : Hid (∀ (w : World), ∀ p ∈ fs, ∀ y ∈ p, RI w (.int .i64 y) y) := by
                show ∀ (w : World), ∀ p ∈ fs, ∀ y ∈ p, RI w (.int .i64 y) y
                rw [← HFS.out]
                exact fun w => fsRes_RI N S w
              have HF1 := Lib.hid (implFS_any A1 m1 c1 N S w19 hS hmc HR.out)
              rw [HFS.out, HIS.out] at HF1
              go_wp2_with fail
              refine HF1.out.mono ?_
              rintro e w20 ⟨A20, n20, c20, rfl, hO20, T20⟩
              have H20 := hO20.rd (R := RI) fun p hp y hy => HFB.out w20 p hp y hy
              clear hO20 HF1
              replace hS := hS.next stab_RVI T20
              replace T9 := below_next T9 T20 rfl
              clear T20
              have HF2 := Lib.hid (specFS_any A1 m1 c1 S N w20 hS)
              rw [HFS.out, HIS.out] at HF2
              go_wp2_with fail
              refine HF2.out.mono ?_
              rintro e w21 ⟨A21, n21, c21, rfl, H21, T21⟩
              clear HF2
              replace H20 := H20.next stab_RVI T21
              replace T9 := below_next T9 T21 rfl
              clear T21
              go_wp2_with fail
              refine (rTable_any A20 A21 n20 n21 c20 c21 fs fs w21 H20 H21).mono ?_
              rintro e w22 ⟨rfl, z22, rfl⟩
              rw [eqLL_self]
              go_wp2_with fail
              go_meet
              exact below_drewN T9 z22
      case rest =>
        have hTc : Below w8.heap.size w8 wc := hcut
        obtain ⟨w9, HWC⟩ : ∃ wq : World, wq = wc := ⟨_, rfl⟩
        subst HWC
        replace T12 := below_next T12 hTc rfl
        have hC9 := hC.next T12
        clear hTc hS hC
        go_wp2_with fail
        refine (drawSF_any A n c _ hC9).mono ?_
        rintro e w10 ⟨M, B1, b1, d1, F, rfl, hF, T10⟩
        replace T12 := below_next T12 T10 rfl
        clear T10 hC9
        obtain ⟨sr, HSR⟩ : ∃ l, Hid (sfRes M F = l) := ⟨_, rfl⟩
        obtain ⟨told, HTO⟩ : ∃ b, Hid (sfOk M F = b) := ⟨_, rfl⟩
        have HSB : Hid (∀ (w : World), ∀ p ∈ sr, ∀ y ∈ p, RI w (.int .i64 y) y) := by
          show ∀ (w : World), ∀ p ∈ sr, ∀ y ∈ p, RI w (.int .i64 y) y
          rw [← HSR.out]
          exact fun w => sfRes_RI M F w
        have HS1 := Lib.hid (implSF_any B1 b1 d1 F M w10 hF)
        rw [HSR.out, HTO.out] at HS1
        go_wp2_with fail
        refine HS1.out.mono ?_
        rintro e w11 ⟨A11, n11, c11, rfl, hO11, T11⟩
        have H11 := hO11.rd (R := RI) fun p hp y hy => HSB.out w11 p hp y hy
        obtain ⟨hl11, hc11⟩ := ownmb_len hO11
        have HL11 := Lib.hid hl11
        clear hO11 HS1 hl11
        replace hF := hF.next stab_RVI T11
        replace T12 := below_next T12 T11 rfl
        clear T11
        have HS2 := Lib.hid (specSF_any B1 b1 d1 F M w11 hF)
        rw [HSR.out, HTO.out] at HS2
        go_wp2_with fail
        refine HS2.out.mono ?_
        rintro e w12 ⟨A12, n12, c12, rfl, H12, T12'⟩
        clear HS2
        replace hF := hF.next stab_RVI T12'
        replace H11 := H11.next stab_RVI T12'
        replace T12 := below_next T12 T12' rfl
        clear T12'
        have hbb : (told != told) = false := by cases told <;> rfl
        go_wp2_with fail
        refine (rTable_any A11 A12 n11 n12 c11 c12 sr sr w12 H11 H12).mono ?_
        rintro e w13 ⟨rfl, z13, rfl⟩
        rw [eqLL_self]
        replace hF := hF.drewN stab_RVI z13
        replace H11 := H11.drewN stab_RVI z13
        replace T12 := below_drewN T12 z13
        clear H12
        obtain ⟨w13, HW13⟩ : ∃ w13, w13 = w12.drewN z13 := ⟨_, rfl⟩
        rw [← HW13] at hF H11 T12 ⊢
        clear HW13 hbb
        rcases told with _ | _
        · go_wp2_with fail
          go_ret
          exact ⟨rfl, T12⟩
        · obtain ⟨hti, hts⟩ := cq_told HTO.out
          rw [HSR.out] at hts
          have HRR : Hid (∀ s ∈ sr, s.length ≤ 1048576) := fun s hs => by have := ((cq_len hts).2 s hs).1; omega
          have HI := Lib.hid (implIsSys_any A11 n11 c11 sr M w13 H11 hc11 HRR.out)
          rw [hts, hti] at HI
          clear hts hti
          go_wp2_with fail
          refine HI.out.mono ?_
          rintro e w14 ⟨rfl, T14⟩
          replace hF := hF.next stab_RVI T14
          replace H11 := H11.next stab_RVI T14
          replace T12 := below_next T12 T14 rfl
          clear T14 HI
          go_wp2_with fail
          go_loopw [41] (fun v wr => ∃ k : Nat, k ≤ b1 ∧ v = .int .i64 k ∧ Below w14.heap.size w14 wr) (fun v _ => b1 - (intOf v).toNat)
          case atStart => exact ⟨0, Nat.zero_le _, rfl, Below.refl _ _⟩
          case round =>
            obtain ⟨k, hk, rfl, hTr⟩ := hrel
            replace hF := hF.next stab_RVI hTr
            replace H11 := H11.next stab_RVI hTr
            have hlF := hF.le
            by_cases hlt : k < b1
            · have hlt1 : (k : Int) < (b1 : Int) := by omega
              have hk0 : (0 : Int) ≤ (k : Int) := by omega
              obtain ⟨b, o, v, s, rfl, hcs, ⟨B', j', d', rfl, hs'⟩, -, hx⟩ := hF.at hlt
              obtain ⟨pv, HPV⟩ : ∃ pv, Hid (place sr s = pv) := ⟨_, rfl⟩
              have hpv : ¬ pv < 0 := by
                have := cq_place HTO.out (List.mem_of_getElem? hx)
                rw [HSR.out, HPV.out] at this
                omega
              clear hx
              go_wp2_with fail
              refine (rPlace_any A11 B' n11 j' c11 d' sr s wr H11 hs').mono ?_
              rintro e w15 ⟨rfl, z15, rfl⟩
              rw [HPV.out]
              go_wp2_with fail
              go_roundw
              case rel => exact ⟨k + 1, by omega, by go_num, below_drewN hTr z15⟩
              case measure => simp [intOf]; omega
            · obtain rfl : k = b1 := by omega
              have hlt1 : ¬ (k : Int) < (k : Int) := by omega
              go_wp2_with fail
              go_ret
              exact ⟨rfl, below_next T12 hTr rfl⟩
end Go.Proofs.YtlncpabnlnipoaaGreat
