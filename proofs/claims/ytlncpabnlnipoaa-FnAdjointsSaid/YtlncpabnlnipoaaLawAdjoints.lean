
/- The walk of the law FnAdjoints. Printed by genadj.py. -/
import Derived.Test.YtlncpabnlnipoaaAdjQ
import Derived.Test.YtlncpabnlnipoaaCode
import Derived.Test.YtlncpabnlnipoaaLatJ
import Derived.Test.YtlncpabnlnipoaaDrawU
import Derived.Test.YtlncpabnlnipoaaLat5
import Derived.Test.YtlncpabnlnipoaaLat9
import Derived.Test.YtlncpabnlnipoaaRl
namespace Go.Proofs.Ytlncpabnlnipoaa
open Go.RowKit

theorem boxes2a (w : World) (ca cb : Array Value) (ta tb : TypeId) : ∃ w3, w3 = (w.alloc (.cells ca ta)).alloc (.cells cb tb) ∧ Below w.heap.size w w3 ∧ Blk w3 w.heap.size ta ca ∧ Blk w3 (w.heap.size + 1) tb cb := by
  refine ⟨_, rfl, below_box2 _ _ _, (Blk.new w _ _).next (below_box _ _), ?_⟩
  have := Blk.new (w.alloc (.cells ca ta)) tb cb
  rwa [World.size_alloc] at this
set_option maxHeartbeats 400000 in
theorem isLattice_any (A : Option Addr) (n c : Nat) (xss : List (List Int)) (w : World) (h : RdL (RV RI) w A n xss) : Calls Try.prog 11 #[.agg #[.slice A n c]] w (Bl w (.bool (tt (GoodP xss ∧ LatP (leF xss) n)))) := by
  have hb0 := below_box w (.cells #[.slice A n c] 26)
  go_enter Try.func11, Try.ntmps11
  go_wp2_with fail
  refine (latticeOf_any A n c xss _ (h.next stab_RVI hb0)).mono ?_
  rintro e w1 ⟨v, rfl, -, hb⟩
  go_wp2_with fail
  go_ret
  exact ⟨rfl, below_next hb0 hb rfl⟩
set_option linter.unusedVariables false in
set_option maxRecDepth 100000 in
set_option maxHeartbeats 16000000 in
theorem lawAdjoints (A : Option Addr) (n c : Nat) (xs : List Int) (w : World) (h : RdL RU8 w A n xs) :
    Calls Try.prog 3 #[.slice A n c] w (Bl w (.bool true)) := by
  have hle := h.le
  by_cases hbig : 65536 < n
  · go_enter Try.func3, Try.ntmps3
    have hd : decide (65536 < n) = true := by simpa using hbig
    go_wp2_with fail
    refine (rBig_any A n c _ hle).mono ?_
    rintro e w' ⟨rfl, rfl⟩
    rw [hd]
    go_wp2_with fail
    go_ret
    exact ⟨rfl, Below.refl _ _⟩
  have hC := code_inB h (by omega)
  have HDb : Hid (decide (65536 < n) = false) := by show _ = _; simpa using hbig
  clear hbig
  go_enter Try.func3, Try.ntmps3
  go_wp2_with fail
  refine (rBig_any A n c _ hle).mono ?_
  rintro e w' ⟨rfl, rfl⟩
  rw [HDb.out]
  go_wp2_with fail
  refine (drawUA_any A n c _ hC).mono ?_
  rintro e w1 ⟨A1, m, c1, F, B1, k, d1, G, C1, l, e1, L, rfl, hF, hG, hm, hk, hL, hl, T1⟩
  obtain ⟨w2, hw2, T2, BX, BY⟩ := boxes2a w1 #[.slice A1 m c1] #[.slice B1 k d1] 26 26
  have HW2 := Lib.hid hw2
  have cX := BX.c0
  have cY := BY.c0
  rw [HW2.out] at cX cY
  clear hw2
  replace hF := hF.next stab_RVI T2
  replace hG := hG.next stab_RVI T2
  replace hL := hL.next stab_RI T2
  have T12 := below_next T1 T2 rfl
  clear T1 T2
  have HM := Lib.hid (show m ≤ 20 by omega)
  obtain ⟨up, HUP⟩ : ∃ l', Hid (upL m k l F G L = l') := ⟨_, rfl⟩
  obtain ⟨ok, HOK⟩ : ∃ b, Hid (upB m k l F G L = b) := ⟨_, rfl⟩
  have HBD := Lib.hid (up_bd' (m := k) (l := l) (xss := F) (yss := G) (fs := L) HM.out)
  rw [HUP.out] at HBD
  have HC := Lib.hid (implUp_any A1 B1 C1 m k l c1 d1 e1 F G L w2 hF hG hL)
  go_wp2_with fail
  rw [← HW2.out]
  refine HC.out.mono ?_
  rintro e w3 ⟨A3, n3, c3, rfl, hO3, T3⟩
  rw [HUP.out] at hO3
  rw [HOK.out]
  have H3 := rd_of_own (R := RI) hO3 (RI_ints HBD.out)
  clear hO3 HC HW2
  replace hF := hF.next stab_RVI T3
  replace hG := hG.next stab_RVI T3
  replace hL := hL.next stab_RI T3
  replace BX := BX.next T3
  replace cX := BX.c0
  replace BY := BY.next T3
  replace cY := BY.c0
  replace T12 := below_next T12 T3 rfl
  clear T3
  have HC := Lib.hid (specUp_any A1 B1 C1 m k l c1 d1 e1 F G L w3 hF hG hL)
  go_wp2_with fail
  refine HC.out.mono ?_
  rintro e w4 ⟨A4, n4, c4, rfl, hO4, T4⟩
  rw [HUP.out] at hO4
  rw [HOK.out]
  have H4 := rd_of_own (R := RI) hO4 (RI_ints HBD.out)
  clear hO4 HC
  replace hF := hF.next stab_RVI T4
  replace hG := hG.next stab_RVI T4
  replace hL := hL.next stab_RI T4
  replace H3 := H3.next stab_RI T4
  replace BX := BX.next T4
  replace cX := BX.c0
  replace BY := BY.next T4
  replace cY := BY.c0
  replace T12 := below_next T12 T4 rfl
  clear T4
  have hbb : (ok != ok) = false := by cases ok <;> rfl
  go_wp2_with fail
  refine (rInts_any A3 A4 n3 n4 c3 c4 _ _ w4 H3 H4).mono ?_
  rintro e w5 ⟨rfl, z4, rfl⟩
  rw [eqL_self]
  have T5 : Below w4.heap.size w4 (w4.drewN z4) := below_drewN (Below.refl _ _) z4
  obtain ⟨w5, HW5⟩ : ∃ w5, w5 = w4.drewN z4 := ⟨_, rfl⟩
  rw [← HW5] at T5 ⊢
  clear HW5 H4 hbb
  replace hF := hF.next stab_RVI T5
  replace hG := hG.next stab_RVI T5
  replace hL := hL.next stab_RI T5
  replace H3 := H3.next stab_RI T5
  replace BX := BX.next T5
  replace cX := BX.c0
  replace BY := BY.next T5
  replace cY := BY.c0
  replace T12 := below_next T12 T5 rfl
  clear T5
  go_upto_if 74 with fail
  go_cut [10, 11, 12, 13, 14, 15, 16, 17, 18, 19, 20, 21] from 75 to 179 (fun _ _ _ _ _ _ _ _ _ _ _ _ wx => Below w5.heap.size w5 wx)
  case first =>
    rcases ok with _ | _
    · go_wp2_with fail
      go_meet
      exact Below.refl _ _
    · obtain ⟨HP, hul⟩ := LaP.up HOK.out hF.len hG.len hL.len
      rw [HUP.out] at HP hul
      obtain rfl : n3 = k := by rw [← H3.len, hul]
      have HP := Lib.hid HP
      have HAP := Lib.hid HP.out.ap
      have HM1 := Lib.hid HP.out.mono1
      have HM2 := Lib.hid HP.out.mono2
      clear hul
      have T12 : Below w5.heap.size w5 w5 := Below.refl _ _
      have HC := Lib.hid (implAP_any A1 B1 C1 A3 m n3 l n3 c1 d1 e1 c3 F G L up w5 hF hG hL H3)
      rw [HAP.out.1, HAP.out.2] at HC
      go_wp2_with fail
      refine HC.out.mono ?_
      rintro e w6 ⟨rfl, T6⟩
      clear HC
      replace hF := hF.next stab_RVI T6
      replace hG := hG.next stab_RVI T6
      replace hL := hL.next stab_RI T6
      replace H3 := H3.next stab_RI T6
      replace BX := BX.next T6
      replace cX := BX.c0
      replace BY := BY.next T6
      replace cY := BY.c0
      replace T12 := below_next T12 T6 rfl
      clear T6
      have HC := Lib.hid (implMono_any A1 B1 C1 m n3 l c1 d1 e1 F G L w6 hF hG hL)
      rw [HM1.out.1, HM1.out.2] at HC
      go_wp2_with fail
      refine HC.out.mono ?_
      rintro e w7 ⟨rfl, T7⟩
      clear HC
      replace hF := hF.next stab_RVI T7
      replace hG := hG.next stab_RVI T7
      replace hL := hL.next stab_RI T7
      replace H3 := H3.next stab_RI T7
      replace BX := BX.next T7
      replace cX := BX.c0
      replace BY := BY.next T7
      replace cY := BY.c0
      replace T12 := below_next T12 T7 rfl
      clear T7
      have HC := Lib.hid (implMono_any B1 A1 A3 n3 m n3 d1 c1 c3 G F up w7 hG hF H3)
      rw [HM2.out.1, HM2.out.2] at HC
      go_wp2_with fail
      refine HC.out.mono ?_
      rintro e w8 ⟨rfl, T8⟩
      clear HC
      replace hF := hF.next stab_RVI T8
      replace hG := hG.next stab_RVI T8
      replace hL := hL.next stab_RI T8
      replace BX := BX.next T8
      replace cX := BX.c0
      replace BY := BY.next T8
      replace cY := BY.c0
      replace T12 := below_next T12 T8 rfl
      clear T8
      obtain ⟨b1, HB1⟩ : ∃ b, Hid (tt (GoodP F ∧ LatP (leF F) m) = b) := ⟨_, rfl⟩
      obtain ⟨b2, HB2⟩ : ∃ b, Hid (tt (GoodP G ∧ LatP (leF G) n3) = b) := ⟨_, rfl⟩
      have HC := Lib.hid (isLattice_any A1 m c1 F w8 hF)
      rw [HB1.out] at HC
      go_wp2_with fail
      refine HC.out.mono ?_
      rintro e w9 ⟨rfl, T9⟩
      clear HC
      replace hF := hF.next stab_RVI T9
      replace hG := hG.next stab_RVI T9
      replace hL := hL.next stab_RI T9
      replace BX := BX.next T9
      replace cX := BX.c0
      replace BY := BY.next T9
      replace cY := BY.c0
      replace T12 := below_next T12 T9 rfl
      clear T9
      rcases b1 with _ | _
      · go_wp2_with fail
        go_meet
        exact T12
      have HC := Lib.hid (isLattice_any B1 n3 d1 G w9 hG)
      rw [HB2.out] at HC
      go_wp2_with fail
      refine HC.out.mono ?_
      rintro e w10 ⟨rfl, T10⟩
      clear HC
      replace hF := hF.next stab_RVI T10
      replace hG := hG.next stab_RVI T10
      replace hL := hL.next stab_RI T10
      replace BX := BX.next T10
      replace cX := BX.c0
      replace BY := BY.next T10
      replace cY := BY.c0
      replace T12 := below_next T12 T10 rfl
      clear T10
      rcases b2 with _ | _
      · go_wp2_with fail
        go_meet
        exact T12
      have HLF := Lib.hid (tt_iff.1 HB1.out).2
      have HLG := Lib.hid (tt_iff.1 HB2.out).2
      have hln := HP.out.ln
      subst hln
      go_wp2_with fail
      go_loopw [16, 17, 18, 19, 20, 21] (fun v _ _ _ _ _ wr => ∃ x : Nat, x ≤ l ∧ v = .int .i64 x ∧ Below w10.heap.size w10 wr) (fun v _ _ _ _ _ _ => l - (intOf v).toNat)
      case atStart => exact ⟨0, Nat.zero_le _, rfl, Below.refl _ _⟩
      case round =>
        obtain ⟨x, hx, rfl, hTr⟩ := hrel
        by_cases hlt : x < l
        · have hlt1 : (x : Int) < (l : Int) := by omega
          have hx0 : (0 : Int) ≤ (x : Int) := by omega
          obtain ⟨wo, HWO⟩ : ∃ wo : World, wo = wr := ⟨_, rfl⟩
          subst HWO
          go_wp2_with fail
          go_loopw [17, 18, 19, 20, 21] (fun v _ _ _ _ wi => ∃ y : Nat, y ≤ x ∧ v = .int .i64 y ∧ Below wo.heap.size wo wi) (fun v _ _ _ _ _ => x - (intOf v).toNat)
          case atStart => exact ⟨0, Nat.zero_le _, rfl, Below.refl _ _⟩
          case round =>
            obtain ⟨y, hy, rfl, hTi⟩ := hrel
            have hTT := below_next hTr hTi rfl
            replace hF := hF.next stab_RVI hTT
            replace hG := hG.next stab_RVI hTT
            replace hL := hL.next stab_RI hTT
            replace BX := BX.next hTT
            replace BY := BY.next hTT
            replace cX := BX.c0
            replace cY := BY.c0
            by_cases hlty : y < x
            · have hy1 : (y : Int) < (x : Int) := by omega
              have hy0 : (0 : Int) ≤ (y : Int) := by omega
              have hy2 : (y : Int) < (l : Int) := by omega
              have hyl : y < l := by omega
              obtain ⟨j, hj, hjl, hj2⟩ := adj_join HP.out.o1 HP.out.o2 HP.out.f HP.out.g HP.out.a HLF.out HLG.out hlt hyl
              have hfx := HP.out.f.at hlt
              have hfy := HP.out.f.at hyl
              have hfj := HP.out.f.at hjl
              obtain ⟨cb, co, vx, zx, rfl, hcx, ⟨rfl, -⟩, -, hxx⟩ := hL.at hlt
              obtain ⟨vy, zy, hcy, ⟨rfl, -⟩, -, hyy⟩ := hL.at' hyl
              obtain ⟨vj, zj, hcj, ⟨rfl, -⟩, -, hjj⟩ := hL.at' hjl
              rw [hfx.2] at hxx
              rw [hfy.2] at hyy
              rw [hfj.2] at hjj
              injection hxx with hxx
              injection hyy with hyy
              injection hjj with hjj
              subst hxx
              subst hyy
              subst hjj
              obtain ⟨fx, HFX⟩ : ∃ q, Hid (fAt L x = q) := ⟨_, rfl⟩
              obtain ⟨fy, HFY⟩ : ∃ q, Hid (fAt L y = q) := ⟨_, rfl⟩
              obtain ⟨fj, HFJ⟩ : ∃ q, Hid (fAt L j = q) := ⟨_, rfl⟩
              rw [HFX.out] at hcx hfx hj2
              rw [HFY.out] at hcy hfy hj2
              rw [HFJ.out] at hcj hj2
              have HJ := Lib.hid (joinOf_any A1 l c1 x y F wr hF HP.out.g1 HLF.out hlt hyl)
              rw [hj] at HJ
              have HK : Hid (∀ wz, Below wr.heap.size wr wz → Calls Try.prog 12 #[.agg #[.slice B1 n3 d1], .int .i64 (fx : Int), .int .i64 (fy : Int)] wz (Bl wz (.tuple #[.int .i64 (fj : Int), .bool true]))) := fun wz hz => by
                have := joinOf_any B1 n3 d1 fx fy G wz (hG.next stab_RVI hz) HP.out.g2 HLG.out hfx.1 hfy.1
                rwa [hj2] at this
              have hj0 : (0 : Int) ≤ (j : Int) := by omega
              have hjlt : (j : Int) < (l : Int) := by omega
              clear hj hj2 hfx hfy hfj hF hG hL
              go_wp2_with fail
              refine HJ.out.mono ?_
              rintro e wj ⟨rfl, Tj⟩
              replace hcx := keepP Tj hcx
              replace hcy := keepP Tj hcy
              replace hcj := keepP Tj hcj
              replace cY := keepP Tj cY
              have hK2 : ∀ wz, Below wj.heap.size wj wz → Calls Try.prog 12 #[.agg #[.slice B1 n3 d1], .int .i64 (fx : Int), .int .i64 (fy : Int)] wz (Bl wz (.tuple #[.int .i64 (fj : Int), .bool true])) := fun wz hz => HK.out wz (below_next Tj hz rfl)
              have HK2 := Lib.hid hK2
              clear hK2 HJ cX
              have Tk : Below wj.heap.size wj wj := Below.refl _ _
              go_upto_region 22 with fail
              go_cut [20, 21] from 143 to 179 (fun u20 u21 wx => u20 = .int .i64 (fj : Int) ∧ u21 = .bool true ∧ Below wj.heap.size wj wx)
              case first =>
                go_region_held3 (fun w' => w'.cell? ⟨w1.heap.size + 1, 0, none⟩ = some (.slice B1 n3 d1) ∧ w'.cell? ⟨cb, co + x, none⟩ = some (.int .i64 (fx : Int)) ∧ w'.cell? ⟨cb, co + y, none⟩ = some (.int .i64 (fy : Int))) (first | go_keep | exact ⟨keepP Tk cY, keepP Tk hcx, keepP Tk hcy⟩) (first
                  | (go_at_call 12; (with_reducible refine (HK2.out _ ?_).mono ?_); (first | exact Tk | exact Below.drew Tk); rintro e wn ⟨rfl, hbn⟩; replace Tk := below_next (by first | exact Tk | exact Below.drew Tk) hbn rfl))
                all_goals
                  go_wp2_with fail
                  go_meet
                  exact ⟨rfl, rfl, by first | exact Tk | exact Below.drew Tk⟩
              case rest =>
                obtain ⟨rfl, rfl, hTc⟩ := hcut
                obtain ⟨wq, HWC⟩ : ∃ wq : World, wq = wc := ⟨_, rfl⟩
                subst HWC
                replace hcj := keepP hTc hcj
                have hTn := below_next hTi (below_next Tj hTc rfl) rfl
                have hng : ¬ (j : Int) < 0 := by omega
                have hnl : ¬ (l : Int) ≤ (j : Int) := by omega
                have hwr : IntKind.i64.wrap ((y : Int) + 1) = (y : Int) + 1 := by rw [IntKind.wrap_i64]; omega
                go_wp2_with fail
                go_roundw
                case rel => exact ⟨y + 1, by omega, by go_num, hTn⟩
                case measure => simp [intOf]; omega
            · obtain rfl : y = x := by omega
              have hlt1 : ¬ (y : Int) < (y : Int) := by omega
              go_wp2_with fail
              go_roundw
              case rel => exact ⟨y + 1, by omega, by go_num, hTT⟩
              case measure => simp [intOf]; omega
        · obtain rfl : x = l := by omega
          have hlt1 : ¬ (x : Int) < (x : Int) := by omega
          go_wp2_with fail
          go_meet
          exact below_next T12 hTr rfl
  case rest =>
    have hTc : Below w5.heap.size w5 wc := hcut
    obtain ⟨w6, HWC⟩ : ∃ wq : World, wq = wc := ⟨_, rfl⟩
    subst HWC
    replace T12 := below_next T12 hTc rfl
    have hC9 := hC.next T12
    clear hTc hF hG hL BX BY cX cY H3 HUP HOK HBD HM
    go_wp2_with fail
    refine (drawLF_any A n c _ hC9).mono ?_
    rintro e w7 ⟨A2, m2, c2, F2, B2, l2, d2, L2, rfl, hF, hm2, -, hL, hl2, T7⟩
    replace T12 := below_next T12 T7 rfl
    obtain ⟨w8, hw2, T2, -, BX⟩ := boxes1a w7 #[.slice A2 m2 c2] 26
    have HW2 := Lib.hid hw2
    have cX := BX.c0
    rw [HW2.out] at cX
    clear hw2 T7 hC9
    replace hF := hF.next stab_RVI T2
    replace hL := hL.next stab_RI T2
    replace T12 := below_next T12 T2 rfl
    clear T2
    obtain ⟨va, HVA⟩ : ∃ v, Hid (lfV m2 l2 F2 L2 = v) := ⟨_, rfl⟩
    obtain ⟨fine, HFI⟩ : ∃ b, Hid (lfB m2 l2 F2 L2 = b) := ⟨_, rfl⟩
    have HC := Lib.hid (implLf_any A2 B2 m2 l2 c2 d2 F2 L2 w8 hF hL)
    go_wp2_with fail
    rw [← HW2.out]
    refine HC.out.mono ?_
    rintro e w9 ⟨rfl, T9⟩
    rw [HVA.out, HFI.out]
    clear HC HW2
    replace hF := hF.next stab_RVI T9
    replace hL := hL.next stab_RI T9
    replace BX := BX.next T9
    replace cX := BX.c0
    replace T12 := below_next T12 T9 rfl
    clear T9
    have HC := Lib.hid (specLf_any A2 B2 m2 l2 c2 d2 F2 L2 w9 hF hL)
    go_wp2_with fail
    refine HC.out.mono ?_
    rintro e w10 ⟨rfl, T10⟩
    rw [HVA.out, HFI.out]
    clear HC
    replace hF := hF.next stab_RVI T10
    replace hL := hL.next stab_RI T10
    replace BX := BX.next T10
    replace cX := BX.c0
    replace T12 := below_next T12 T10 rfl
    clear T10
    have hbb : (fine != fine) = false := by cases fine <;> rfl
    go_upto_if 205 with fail
    go_cut [28, 29, 30, 31, 32] from 206 to 257 (fun _ _ _ _ _ wx => Below w10.heap.size w10 wx)
    case first =>
      clear hbb
      rcases fine with _ | _
      · go_wp2_with fail
        go_meet
        exact Below.refl _ _
      · obtain ⟨x, hxv, HP⟩ := LfP.of HFI.out hF.len hL.len
        rw [HVA.out] at hxv
        subst hxv
        have hln := HP.ln
        subst hln
        have HP := Lib.hid HP
        have hxl := HP.out.lt
        have hx0 : (0 : Int) ≤ (x : Int) := by omega
        have hx1 : (x : Int) < (l2 : Int) := by omega
        have hxn : ¬ (x : Int) < 0 := by omega
        have hxg : ¬ (l2 : Int) ≤ (x : Int) := by omega
        obtain ⟨cb, co, vx, zx, rfl, hcx, ⟨rfl, -⟩, -, hxx⟩ := hL.at hxl
        rw [HP.out.fix] at hxx
        injection hxx with hxx
        subst hxx
        have HLE : Hid (∀ y (wz : World), y < l2 → Below w10.heap.size w10 wz → Calls Try.prog 16 #[.agg #[.slice A2 l2 c2], .int .i64 (x : Int), .int .i64 (y : Int)] wz (Bl wz (.tuple #[.bool (leF F2 x y), .bool true]))) := fun y wz hy hz => atMost_any A2 l2 c2 x y F2 wz (hF.next stab_RVI hz) HP.out.g1 hxl hy
        have HLU : Hid (∀ y (wz : World), y < l2 → Below w10.heap.size w10 wz → Calls Try.prog 16 #[.agg #[.slice A2 l2 c2], .int .i64 (fAt L2 y : Int), .int .i64 (y : Int)] wz (Bl wz (.tuple #[.bool (leF F2 (fAt L2 y) y), .bool true]))) := fun y wz hy hz => atMost_any A2 l2 c2 (fAt L2 y) y F2 wz (hF.next stab_RVI hz) HP.out.g1 (HP.out.f.at hy).1 hy
        clear hF
        go_wp2_with fail
        go_loopw [28, 29, 30, 31, 32] (fun v _ _ _ _ wr => ∃ y : Nat, y ≤ l2 ∧ v = .int .i64 y ∧ Below w10.heap.size w10 wr) (fun v _ _ _ _ _ => l2 - (intOf v).toNat)
        case atStart => exact ⟨0, Nat.zero_le _, rfl, Below.refl _ _⟩
        case round =>
          obtain ⟨y, hy, rfl, hTr⟩ := hrel
          clear hcx
          by_cases hlt : y < l2
          · have hlt1 : (y : Int) < (l2 : Int) := by omega
            have hy0 : (0 : Int) ≤ (y : Int) := by omega
            replace cX := keepP hTr cX
            obtain ⟨vy, zy, hcy, ⟨rfl, -⟩, -, hyy⟩ := (hL.next stab_RI hTr).at' hlt
            rw [(HP.out.f.at hlt).2] at hyy
            injection hyy with hyy
            subst hyy
            have HC1 := Lib.hid (HLU.out y)
            have HUL := Lib.hid (HP.out.least y hlt)
            obtain ⟨fy, HFY⟩ : ∃ q, Hid (fAt L2 y = q) := ⟨_, rfl⟩
            rw [HFY.out] at hcy HC1 HUL
            obtain ⟨b1, HB1⟩ : ∃ b, Hid (leF F2 fy y = b) := ⟨_, rfl⟩
            obtain ⟨b2, HB2⟩ : ∃ b, Hid (leF F2 x y = b) := ⟨_, rfl⟩
            rw [HB1.out] at HC1 HUL
            rw [HB2.out] at HUL
            have Tk : Below wr.heap.size wr wr := Below.refl _ _
            go_upto_region 36 with fail
            go_cut [29, 30] from 228 to 257 (fun u29 u30 wx => u29 = .bool b1 ∧ u30 = .bool true ∧ Below wr.heap.size wr wx)
            case first =>
              go_region_held3 (fun w' => w'.cell? ⟨w7.heap.size, 0, none⟩ = some (.slice A2 l2 c2) ∧ w'.cell? ⟨cb, co + y, none⟩ = some (.int .i64 (fy : Int))) (first | go_keep | exact ⟨keepP Tk cX, keepP Tk hcy⟩) (first
                | (go_at_call 16; (with_reducible refine (HC1.out _ hlt ?_).mono ?_); (first | exact below_next hTr Tk rfl | exact below_next hTr (Below.drew Tk) rfl); rintro e wn ⟨rfl, hbn⟩; replace Tk := below_next (by first | exact Tk | exact Below.drew Tk) hbn rfl))
              all_goals
                go_wp2_with fail
                go_meet
                exact ⟨rfl, rfl, by first | exact Tk | exact Below.drew Tk⟩
            case rest =>
              obtain ⟨rfl, rfl, hTc⟩ := hcut
              obtain ⟨wq, HWC⟩ : ∃ wq : World, wq = wc := ⟨_, rfl⟩
              subst HWC
              replace cX := keepP hTc cX
              have hTn := below_next hTr hTc rfl
              have HC2 := Lib.hid (HLE.out y wq hlt hTn)
              rw [HB2.out] at HC2
              clear hcy
              go_wp2_with fail
              refine HC2.out.mono ?_
              rintro e wn ⟨rfl, Tn⟩
              have hTn2 := below_next hTn Tn rfl
              have hwr : IntKind.i64.wrap ((y : Int) + 1) = (y : Int) + 1 := by rw [IntKind.wrap_i64]; omega
              rcases b1 with _ | _
              · go_wp2_with fail
                go_roundw
                case rel => exact ⟨y + 1, by omega, by go_num, hTn2⟩
                case measure => simp [intOf]; omega
              · have hb2 := HUL.out rfl
                subst hb2
                go_wp2_with fail
                go_roundw
                case rel => exact ⟨y + 1, by omega, by go_num, hTn2⟩
                case measure => simp [intOf]; omega
          · obtain rfl : y = l2 := by omega
            have hlt1 : ¬ (y : Int) < (y : Int) := by omega
            go_wp2_with fail
            go_meet
            exact hTr
    case rest =>
      have hTc : Below w10.heap.size w10 wc := hcut
      obtain ⟨w11, HWC⟩ : ∃ wq : World, wq = wc := ⟨_, rfl⟩
      subst HWC
      replace T12 := below_next T12 hTc rfl
      have hC9 := hC.next T12
      clear hTc hF hL BX cX HVA HFI hbb
      go_wp2_with fail
      refine (drawAP_any A n c _ hC9).mono ?_
      rintro e w12 ⟨A3, m3, c3, F, B3, k3, d3, G, C3, l3, e3, L, D3, j3, f3, M, rfl, hF, hG, hm3, hk3, hL, hl3, hM, T13⟩
      replace T12 := below_next T12 T13 rfl
      obtain ⟨w13, hw2, T2, BX, BY⟩ := boxes2a w12 #[.slice A3 m3 c3] #[.slice B3 k3 d3] 26 26
      have HW2 := Lib.hid hw2
      have cX := BX.c0
      have cY := BY.c0
      rw [HW2.out] at cX cY
      clear hw2 T13 hC9
      replace hF := hF.next stab_RVI T2
      replace hG := hG.next stab_RVI T2
      replace hL := hL.next stab_RI T2
      replace hM := hM.next stab_RI T2
      replace T12 := below_next T12 T2 rfl
      clear T2
      obtain ⟨is, HIS⟩ : ∃ b, Hid (apRes m3 k3 l3 j3 F G L M = b) := ⟨_, rfl⟩
      obtain ⟨told, HTO⟩ : ∃ b, Hid (apOk m3 k3 l3 j3 F G L M = b) := ⟨_, rfl⟩
      have HC := Lib.hid (implAP_any A3 B3 C3 D3 m3 k3 l3 j3 c3 d3 e3 f3 F G L M w13 hF hG hL hM)
      rw [HIS.out, HTO.out] at HC
      go_wp2_with fail
      rw [← HW2.out]
      refine HC.out.mono ?_
      rintro e w14 ⟨rfl, T14⟩
      clear HC HW2
      replace hF := hF.next stab_RVI T14
      replace hG := hG.next stab_RVI T14
      replace hL := hL.next stab_RI T14
      replace hM := hM.next stab_RI T14
      replace BX := BX.next T14
      replace cX := BX.c0
      replace BY := BY.next T14
      replace cY := BY.c0
      replace T12 := below_next T12 T14 rfl
      clear T14
      have HC := Lib.hid (specAP_any A3 B3 C3 D3 m3 k3 l3 j3 c3 d3 e3 f3 F G L M w14 hF hG hL hM)
      rw [HIS.out, HTO.out] at HC
      go_wp2_with fail
      refine HC.out.mono ?_
      rintro e w15 ⟨rfl, T15⟩
      clear HC
      replace hF := hF.next stab_RVI T15
      replace hG := hG.next stab_RVI T15
      replace hL := hL.next stab_RI T15
      replace hM := hM.next stab_RI T15
      replace BX := BX.next T15
      replace cX := BX.c0
      replace BY := BY.next T15
      replace cY := BY.c0
      replace T12 := below_next T12 T15 rfl
      clear T15
      rcases told with _ | _
      · rcases is with _ | _
        all_goals
          go_wp2_with fail
          go_ret
          exact ⟨rfl, T12⟩
      rcases is with _ | _
      · go_wp2_with fail
        go_ret
        exact ⟨rfl, T12⟩
      obtain ⟨HP, hub, hul⟩ := LaP.of_ap HIS.out hF.len hG.len hL.len hM.len
      have HUB := Lib.hid hub
      have HUL := Lib.hid hul
      have HBD := Lib.hid (up_bd' (m := k3) (l := l3) (xss := F) (yss := G) (fs := L) (show m3 ≤ 20 by omega))
      rw [HUL.out] at HBD
      have HC := Lib.hid (implUp_any A3 B3 C3 m3 k3 l3 c3 d3 e3 F G L w15 hF hG hL)
      clear HP hub hul
      go_wp2_with fail
      refine HC.out.mono ?_
      rintro e w16 ⟨A6, n6, c6, rfl, hO6, T16⟩
      rw [HUL.out] at hO6
      rw [HUB.out]
      have H6 := rd_of_own (R := RI) hO6 (RI_ints HBD.out)
      clear hO6 HC
      replace hM := hM.next stab_RI T16
      replace T12 := below_next T12 T16 rfl
      go_wp2_with fail
      refine (rInts_any A6 D3 n6 j3 c6 f3 _ _ w16 H6 hM).mono ?_
      rintro e w17 ⟨rfl, z17, rfl⟩
      rw [eqL_self]
      go_wp2_with fail
      go_ret
      exact ⟨rfl, below_drewN T12 z17⟩
end Go.Proofs.Ytlncpabnlnipoaa
