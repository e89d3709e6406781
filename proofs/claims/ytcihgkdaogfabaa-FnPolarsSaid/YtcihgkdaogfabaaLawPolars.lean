
/- The walk of the law FnPolars. -/
import Derived.Test.YtcihgkdaogfabaaDrawX
import Derived.Test.YtcihgkdaogfabaaRpV
import Derived.Test.YtcihgkdaogfabaaRl
import Derived.Test.YtcihgkdaogfabaaCrW
namespace Go.Proofs.Ytcihgkdaogfabaa
open Go.RowKit

def RU8 (_ : World) (v : Value) (x : Int) : Prop := v = .int .u8 x ∧ 0 ≤ x ∧ x < 256
theorem code_inB {w : World} {A : Option Addr} {n : Nat} {xs : List Int} (h : RdL RU8 w A n xs) (hn : n ≤ 65536) : CodeB w A n := by
  refine ⟨hn, fun h0 => ?_⟩
  obtain ⟨b, o, v, x, e, -⟩ := h.at h0
  subst e
  refine ⟨b, o, rfl, fun i hi => ?_⟩
  obtain ⟨v, x, hc, ⟨rfl, h1, h2⟩, -, -⟩ := h.at' hi
  exact ⟨x.toNat, by omega, by rw [hc, Int.toNat_of_nonneg h1]⟩
set_option maxHeartbeats 400000 in
theorem rBig_any (A : Option Addr) (n c : Nat) (w : World) (hn : n ≤ 9223372036854775807) : Calls Try.prog 5 #[.slice A n c] w fun e w' => e = .returned (.bool (decide (65536 < n))) ∧ w = w' := by
  go_enter Try.func5, Try.ntmps5
  go_wp2
  go_ret
  exact ⟨ret_bool (decide_eq_decide.2 (by omega)), rfl⟩
set_option maxHeartbeats 400000 in
theorem specIC_any (A : Option Addr) (n c : Nat) (F : List (List Bool)) (w : World) (h : RdL (RV RB) w A n F) : Calls Try.prog 20 #[.slice A n c] w (Qt w (.bool (ctxB F))) := by
  go_enter Try.func20, Try.ntmps20
  go_wp2_with fail
  refine (l30Context_any A n c F w h).mono ?_
  rintro e w1 ⟨rfl, z, rfl⟩
  go_wp2_with fail
  go_ret
  exact ⟨rfl, z, rfl⟩
theorem rpRes_bd (F : List (List Bool)) (R : List Int) (h : ctxB F = true) : ∀ x ∈ rpRes F R, -9223372036854775808 ≤ x ∧ x ≤ 9223372036854775807 := fun x hx => by
  unfold rpRes at hx
  split at hx
  · have h1 := (rpTo_set F R (colN F)).2 x hx
    have h2 := (ctx_parts h).2.1
    omega
  · simp at hx
theorem rpRes_bd' (F : List (List Bool)) (R : List Int) : ∀ x ∈ rpRes F R, -9223372036854775808 ≤ x ∧ x ≤ 9223372036854775807 := fun x hx => by
  cases h : ctxB F with
  | true => exact rpRes_bd F R h x hx
  | false => unfold rpRes at hx; rw [rp_no1 h] at hx; simp at hx
theorem cpRes_bd (F : List (List Bool)) (S : List Int) : ∀ x ∈ cpRes F S, -9223372036854775808 ≤ x ∧ x ≤ 9223372036854775807 := fun x hx => by
  unfold cpRes at hx
  split at hx
  · rename_i hh
    have h1 := (polTo_set F S F.length).2 x hx
    unfold cpOk at hh
    rw [Bool.and_eq_true] at hh
    have h2 := (ctx_parts hh.1).1
    omega
  · simp at hx
/-! ## What the law asks of a context and a set of rows -/
section
variable {F : List (List Bool)} {R : List Int}
theorem ok_parts (h : rpOk F R = true) : ctxB F = true ∧ IsSet F.length R := by
  unfold rpOk at h
  rw [Bool.and_eq_true] at h
  exact ⟨h.1, setB_iff.1 h.2⟩
theorem lp_cols (h : rpOk F R = true) : rpRes F R = rpTo F R (colN F) := by unfold rpRes; rw [h, if_pos rfl]
theorem lp_backOk (h : rpOk F R = true) : cpOk F (rpRes F R) = true := by
  rw [lp_cols h]
  exact cp_ok rfl (ok_parts h).1 (setB_iff.2 (rpTo_set F R _))
theorem lp_back (h : rpOk F R = true) : cpRes F (rpRes F R) = polTo F (rpTo F R (colN F)) F.length := by unfold cpRes; rw [lp_backOk h, if_pos rfl, lp_cols h]
theorem lp_againOk (h : rpOk F R = true) : rpOk F (cpRes F (rpRes F R)) = true := by
  rw [lp_back h]
  exact rp_ok rfl (ok_parts h).1 (setB_iff.2 (polTo_set F _ _))
theorem lp_again (h : rpOk F R = true) : rpRes F (cpRes F (rpRes F R)) = rpRes F R := by
  have e : rpRes F (cpRes F (rpRes F R)) = rpTo F (cpRes F (rpRes F R)) (colN F) := lp_cols (lp_againOk h)
  rw [e, lp_back h, gal_three (ok_parts h).2.2, lp_cols h]
theorem lp_within (h : rpOk F R = true) : partL (cpRes F (rpRes F R)) R = true := by
  rw [lp_back h]
  exact partL_iff.2 (gal_up (ok_parts h).2.2)
theorem lp_sys (h : rpOk F R = true) : crRes F = systemL F.length (colsL F F.length (colN F)) := by unfold crRes; rw [(ok_parts h).1, if_pos rfl]
theorem lp_place (h : rpOk F R = true) : 0 ≤ place (crRes F) (cpRes F (rpRes F R)) := by
  rw [place_iff, lp_back h, lp_sys h]
  exact pol_in_sys rp_in
theorem lp_closeOk (h : rpOk F R = true) : closeOk (F.length : Int) (crRes F) R = true := by
  unfold closeOk
  rw [lp_sys h, cr_sys (ctx_parts (ok_parts h).1).1, setB_iff.2 (ok_parts h).2]
  rfl
theorem lp_close (h : rpOk F R = true) : closeRes (F.length : Int) (crRes F) R = cpRes F (rpRes F R) := by
  unfold closeRes
  rw [lp_closeOk h, if_pos rfl, lp_sys h, close_pol (ctx_parts (ok_parts h).1).2.1 (ok_parts h).2, lp_back h]
theorem lp_turn (h : rpOk F R = true) (h0 : 0 < colN F) : ctxB (trM F F.length (colN F)) = true ∧ (crRes (trM F F.length (colN F))).length = (crRes F).length := by
  obtain ⟨h1, h2, h3⟩ := ctx_parts (ok_parts h).1
  have hc : ctxB (trM F F.length (colN F)) = true := by
    unfold ctxB
    rw [trM_len, trM_col h0, decide_eq_true h2, decide_eq_true h1, List.all_eq_true.2 fun row hr => decide_eq_true (trM_all row hr)]
    rfl
  refine ⟨hc, ?_⟩
  rw [lp_sys h]
  unfold crRes
  rw [hc, if_pos rfl, trM_len, trM_col h0]
  exact turn_eq rfl h1 h2 h3
end
theorem ownmb_len {w : World} {A : Option Addr} {n c lo : Nat} {xss : List (List Int)} (h : OwM 25 3 (.int .i64) lo w (.slice A n c) n xss) : xss.length = n ∧ n ≤ c := by
  obtain ⟨vs, h1, h2, -⟩ := h
  have := h1.1
  refine ⟨by rw [← h2]; simpa using this, ?_⟩
  rcases h1.2 with ⟨e', h0⟩ | ⟨g', cap, cur, e', hb', -, h1, -⟩
  · omega
  · injection e' with _ _ e3
    omega
set_option linter.unusedVariables false in
set_option maxRecDepth 100000 in
set_option maxHeartbeats 16000000 in
theorem lawPolars (A : Option Addr) (n c : Nat) (xs : List Int) (w : World) (h : RdL RU8 w A n xs) :
    Calls Try.prog 3 #[.slice A n c] w (Bl w (.bool true)) := by
  have hle := h.le
  by_cases hbig : 65536 < n
  · go_enter Try.func3, Try.ntmps3
    have hd : decide (65536 < n) = true := by simpa using hbig
    go_wp2_with fail
    refine (rBig_any A n c _ hle).mono ?_
    rintro e w' ⟨rfl, rfl⟩
    rw [hd]
    go_wp2_with fail
    go_ret
    exact ⟨rfl, Below.refl _ _⟩
  have hC := code_inB h (by omega)
  have HDb : Hid (decide (65536 < n) = false) := by show _ = _; simpa using hbig
  clear hbig
  go_enter Try.func3, Try.ntmps3
  go_wp2_with fail
  refine (rBig_any A n c _ hle).mono ?_
  rintro e w' ⟨rfl, rfl⟩
  rw [HDb.out]
  go_wp2_with fail
  refine (drawRP_any A n c _ hC).mono ?_
  rintro e w1 ⟨A1, n1, c1, F, A2, n2, c2, R, rfl, hF, hR, T1⟩
  have hC1 := hC.next T1
  have HLN := Lib.hid hF.len
  go_wp2_with fail
  refine (implRP_any A1 A2 n1 c1 n2 c2 F R w1 hF hR).mono ?_
  rintro e w2 ⟨A3, n3, c3, rfl, hO3, T2⟩
  have H3 := rd_of_own (R := RI) hO3 (RI_ints (rpRes_bd' F R))
  clear hO3
  replace hF := hF.next (stab_RV stab_RB) T2
  replace hR := hR.next stab_RI T2
  have T12 := below_next T1 T2 rfl
  go_wp2_with fail
  refine (specRP_any A1 A2 n1 c1 n2 c2 F R w2 hF hR).mono ?_
  rintro e w3 ⟨A4, n4, c4, rfl, hO4, T3⟩
  have H4 := rd_of_own (R := RI) hO4 (RI_ints (rpRes_bd' F R))
  clear hO4
  replace hF := hF.next (stab_RV stab_RB) T3
  replace hR := hR.next stab_RI T3
  replace H3 := H3.next stab_RI T3
  have T13 := below_next T12 T3 rfl
  obtain ⟨ok, HOK⟩ : ∃ b, Hid (rpOk F R = b) := ⟨_, rfl⟩
  rw [HOK.out]
  have hbb : (ok != ok) = false := by cases ok <;> rfl
  go_wp2_with fail
  refine (rInts_any A3 A4 n3 n4 c3 c4 _ _ w3 H3 H4).mono ?_
  rintro e w4 ⟨rfl, z4, rfl⟩
  rw [eqL_self]
  replace hF := hF.drewN (stab_RV stab_RB) z4
  replace hR := hR.drewN stab_RI z4
  replace H3 := H3.drewN stab_RI z4
  have T14 := below_drewN T13 z4
  clear H4 T1 T2 T3 T12 T13
  obtain ⟨w5, HW5⟩ : ∃ w5, w5 = w3.drewN z4 := ⟨_, rfl⟩
  rw [← HW5] at hF hR H3 T14 ⊢
  clear HW5
  go_upto_if 59 with fail
  go_cut [] (fun wx => Below w5.heap.size w5 wx)
  case first =>
    rcases ok with _ | _
    · go_wp2_with fail
      go_meet
      exact Below.refl _ _
    · have HBK := Lib.hid (lp_backOk HOK.out)
      have HAO := Lib.hid (lp_againOk HOK.out)
      have HAG := Lib.hid (lp_again HOK.out)
      have HWI := Lib.hid (lp_within HOK.out)
      have HPL := Lib.hid (lp_place HOK.out)
      have HCO := Lib.hid (lp_closeOk HOK.out)
      have HCL := Lib.hid (lp_close HOK.out)
      have HTU := Lib.hid (@lp_turn F R HOK.out)
      obtain ⟨hctx, hset⟩ := ok_parts HOK.out
      have HCTX := Lib.hid hctx
      obtain ⟨hn6, hm6, hrows⟩ := ctx_parts hctx
      have HROWS := Lib.hid hrows
      have HBB := Lib.hid (cpRes_bd F (rpRes F R))
      obtain ⟨co, HCOL⟩ : ∃ b, Hid (rpRes F R = b) := ⟨_, rfl⟩
      rw [HCOL.out] at H3 HBK HAO HAG HWI HPL HCL HBB
      obtain ⟨bk, HBKL⟩ : ∃ b, Hid (cpRes F co = b) := ⟨_, rfl⟩
      rw [HBKL.out] at HAO HAG HWI HPL HCL HBB
      clear hctx hset hrows
      have T5 : Below w5.heap.size w5 w5 := Below.refl _ _
      go_wp2_with fail
      refine (implCP_any A1 A3 n1 c1 n3 c3 F co w5 hF H3).mono ?_
      rintro e w6 ⟨A6, n6, c6, rfl, hO6, T6⟩
      rw [HBKL.out] at hO6
      rw [HBK.out]
      have H6 := rd_of_own (R := RI) hO6 (RI_ints HBB.out)
      clear hO6
      replace hF := hF.next (stab_RV stab_RB) T6
      replace hR := hR.next stab_RI T6
      replace H3 := H3.next stab_RI T6
      replace T5 := below_next T5 T6 rfl
      clear T6
      go_wp2_with fail
      refine (implRP_any A1 A6 n1 c1 n6 c6 F bk w6 hF H6).mono ?_
      rintro e w7 ⟨A7, n7, c7, rfl, hO7, T7⟩
      rw [HAG.out] at hO7
      rw [HAO.out]
      have H7 := rd_of_own (R := RI) hO7 (RI_ints (by rw [← HCOL.out]; exact rpRes_bd' F R))
      clear hO7
      replace hF := hF.next (stab_RV stab_RB) T7
      replace hR := hR.next stab_RI T7
      replace H3 := H3.next stab_RI T7
      replace H6 := H6.next stab_RI T7
      replace T5 := below_next T5 T7 rfl
      clear T7
      go_wp2_with fail
      refine (rWithin_any A2 A6 n2 n6 c2 c6 R bk w7 hR H6).mono ?_
      rintro e w8 ⟨rfl, rfl⟩
      rw [HWI.out]
      go_wp2_with fail
      refine (rInts_any A7 A3 n7 n3 c7 c3 co co w7 H7 H3).mono ?_
      rintro e w8 ⟨rfl, z8, rfl⟩
      rw [eqL_self]
      replace hF := hF.drewN (stab_RV stab_RB) z8
      replace hR := hR.drewN stab_RI z8
      replace H6 := H6.drewN stab_RI z8
      replace T5 := below_drewN T5 z8
      clear H7 H3
      obtain ⟨w8, HW8⟩ : ∃ w8, w8 = w7.drewN z8 := ⟨_, rfl⟩
      rw [← HW8] at hF hR H6 T5 ⊢
      clear HW8
      go_wp2_with fail
      refine (implCR_any A1 n1 c1 F w8 hF).mono ?_
      rintro e w9 ⟨A9, n9, c9, rfl, hO9, T9⟩
      rw [HCTX.out]
      have H9 := hO9.rd (R := RI) fun p hp y hy => crRes_RI F w9 p hp y hy
      obtain ⟨hl9, hc9⟩ := ownmb_len hO9
      have HL9 := Lib.hid hl9
      clear hO9 hl9
      replace hF := hF.next (stab_RV stab_RB) T9
      replace hR := hR.next stab_RI T9
      replace H6 := H6.next stab_RI T9
      replace T5 := below_next T5 T9 rfl
      clear T9
      go_wp2_with fail
      refine (specCR_any A1 n1 c1 F w9 hF).mono ?_
      rintro e w10 ⟨A10, n10, c10, rfl, H10, T10⟩
      rw [HCTX.out]
      replace hF := hF.next (stab_RV stab_RB) T10
      replace hR := hR.next stab_RI T10
      replace H6 := H6.next stab_RI T10
      replace H9 := H9.next stab_RVI T10
      replace T5 := below_next T5 T10 rfl
      clear T10
      go_wp2_with fail
      refine (rTable_any A9 A10 n9 n10 c9 c10 _ _ w10 H9 H10).mono ?_
      rintro e w11 ⟨rfl, z11, rfl⟩
      rw [eqLL_self]
      replace hF := hF.drewN (stab_RV stab_RB) z11
      replace hR := hR.drewN stab_RI z11
      replace H6 := H6.drewN stab_RI z11
      replace H9 := H9.drewN stab_RVI z11
      replace T5 := below_drewN T5 z11
      clear H10
      obtain ⟨w11, HW11⟩ : ∃ w11, w11 = w10.drewN z11 := ⟨_, rfl⟩
      rw [← HW11] at hF hR H6 H9 T5 ⊢
      clear HW11
      obtain ⟨pv, HPV⟩ : ∃ pv, Hid (place (crRes F) bk = pv) := ⟨_, rfl⟩
      have hpv : ¬ pv < 0 := by have := HPL.out; rw [HPV.out] at this; omega
      go_wp2_with fail
      refine (rPlace_any A9 A6 n9 n6 c9 c6 (crRes F) bk w11 H9 H6).mono ?_
      rintro e w12 ⟨rfl, z12, rfl⟩
      rw [HPV.out]
      replace hF := hF.drewN (stab_RV stab_RB) z12
      replace hR := hR.drewN stab_RI z12
      replace H6 := H6.drewN stab_RI z12
      replace H9 := H9.drewN stab_RVI z12
      replace T5 := below_drewN T5 z12
      obtain ⟨w12, HW12⟩ : ∃ w12, w12 = w11.drewN z12 := ⟨_, rfl⟩
      rw [← HW12] at hF hR H6 H9 T5 ⊢
      clear HW12
      have HCLO := Lib.hid (implClosureOf_any A9 A2 n9 c9 n2 c2 (crRes F) R (F.length : Int) w12 H9 hc9 (fun p hp => by obtain ⟨h1, h2⟩ := crRes_mem hp; have := isSet_len2 h2; omega) hR)
      rw [HCO.out, HCL.out, HLN.out] at HCLO
      go_wp2_with fail
      refine HCLO.out.mono ?_
      rintro e w13 ⟨A13, n13, c13, rfl, hO13, T13⟩
      have H13 := rd_of_own (R := RI) hO13 (RI_ints HBB.out)
      clear hO13 HCLO
      replace hF := hF.next (stab_RV stab_RB) T13
      replace H6 := H6.next stab_RI T13
      replace T5 := below_next T5 T13 rfl
      clear T13 hR H9
      go_wp2_with fail
      refine (rInts_any A13 A6 n13 n6 c13 c6 bk bk w13 H13 H6).mono ?_
      rintro e w14 ⟨rfl, z14, rfl⟩
      rw [eqL_self]
      replace hF := hF.drewN (stab_RV stab_RB) z14
      replace T5 := below_drewN T5 z14
      clear H13 H6
      obtain ⟨w14, HW14⟩ : ∃ w14, w14 = w13.drewN z14 := ⟨_, rfl⟩
      rw [← HW14] at hF T5 ⊢
      clear HW14 hC hC1
      have hlF : n1 ≤ 6 := by have := HLN.out; omega
      by_cases hn0 : 0 < n1
      · have hn0' : (0 : Int) < (n1 : Int) := by omega
        obtain ⟨b, o, B0, j0, d0, rfl, hc0, hj0⟩ := col_get hF hn0
        have HJ0 := Lib.hid hj0
        by_cases hj : 0 < j0
        · have hj' : (0 : Int) < (j0 : Int) := by omega
          have hj6 : j0 ≤ 6 := by have := HJ0.out; omega
          have hTU := HTU.out (by rw [HJ0.out]; exact hj)
          rw [HLN.out, HJ0.out] at hTU
          have HTC := Lib.hid hTU.1
          have HTL := Lib.hid hTU.2
          clear hTU hj0 hm6
          have hM0 : OwM 37 4 (.bool) w14.heap.size (w14.alloc (.cells #[] 37)) (.slice (some ⟨w14.heap.size, 0, none⟩) 0 0) 0 (trM F n1 0) := mat_litB
          have hTb := below_box w14 (.cells #[] 37)
          go_wp2_with fail
          go_loopw [19, 20, 21, 22] (fun v i _ _ wr => ∃ (k : Nat) (A' : Option Addr) (c' : Nat), k ≤ j0 ∧ i = .int .i64 k ∧ v = .slice A' k c' ∧ OwM 37 4 (.bool) w14.heap.size wr (.slice A' k c') k (trM F n1 k) ∧ Below w14.heap.size w14 wr) (fun _ i _ _ _ => j0 - (intOf i).toNat)
          case atStart => exact ⟨0, _, 0, Nat.zero_le _, rfl, rfl, hM0, hTb⟩
          case round =>
            clear hM0 hTb
            obtain ⟨k, A', c', hk, rfl, rfl, hM, hT⟩ := hrel
            have hc1 := keepS hT hc0
            have hFr := hF.next (stab_RV stab_RB) hT
            by_cases hlt : k < j0
            · have hk1 : (k : Int) < (j0 : Int) := by omega
              have hk0 : (0 : Int) ≤ (k : Int) := by omega
              have hlo := hT.size
              have HTK : Hid (trM F n1 (k + 1) = trM F n1 k ++ [(List.range n1).map fun r => cel F r k]) := by show _ = _; unfold trM; rw [List.range_succ, List.map_append]; rfl
              obtain ⟨wo, HWO⟩ : ∃ wo : World, wo = wr := ⟨_, rfl⟩
              subst HWO
              have hown0 : (wo.alloc (.cells #[] 4)).ownsRow wo.heap.size 4 1 (.slice (some ⟨wo.heap.size, 0, none⟩) 0 0) 0 (bls []) := World.ownsRow_lit wo #[] 0 (Nat.le_refl _) (Nat.zero_le _) rfl
              have hb0 := below_box wo (.cells #[] 4)
              go_wp2_with fail
              go_loopw [21, 22] (fun v i wi => ∃ (q : Nat) (A2 : Option Addr) (c2 : Nat), q ≤ n1 ∧ i = .int .i64 q ∧ v = .slice A2 q c2 ∧ wi.ownsRow wo.heap.size 4 1 (.slice A2 q c2) q (bls ((List.range q).map fun r => cel F r k)) ∧ Below wo.heap.size wo wi) (fun _ i _ => n1 - (intOf i).toNat)
              case atStart => exact ⟨0, _, 0, Nat.zero_le _, rfl, rfl, hown0, hb0⟩
              case round =>
                clear hown0 hb0
                obtain ⟨q, A2, c2, hq, rfl, rfl, hown, hTq⟩ := hrel
                by_cases hlq : q < n1
                · have hq1 : (q : Int) < (n1 : Int) := by omega
                  have hq0 : (0 : Int) ≤ (q : Int) := by omega
                  obtain ⟨v3, row, hc3, ⟨P3, j3, d3, rfl, hr3⟩, -, hx3⟩ := (hFr.next (stab_RV stab_RB) hTq).at' hlq
                  have hj3 : j3 = j0 := by rw [← hr3.len, HROWS.out row (List.mem_of_getElem? hx3), HJ0.out]
                  obtain ⟨b4, o4, v4, cb, rfl, hc4, rfl, -, hx4⟩ := hr3.at (k := k) (by omega)
                  have HCB := Lib.hid (cel_row hx3 hx4)
                  have hk3 : (k : Int) < (j3 : Int) := by omega
                  have hle3 := hr3.le
                  have hzq := hTq.size
                  have HRQ : Hid (bls ((List.range (q + 1)).map fun r => cel F r k) = bls ((List.range q).map fun r => cel F r k) ++ [.bool cb]) := by
                    show _ = _
                    rw [List.range_succ, List.map_append]
                    simp [bls, HCB.out]
                  obtain ⟨rs, HRS⟩ : ∃ rs, Hid (bls ((List.range q).map fun r => cel F r k) = rs) := ⟨_, rfl⟩
                  rw [HRS.out] at hown HRQ
                  clear hx3 hx4 hr3 hj3
                  go_wp2_with (at_builtin; refine app1 wr rfl _ _ 37 4 rfl (.bool false) 1 Try.underlying37 info_bool rfl (by decide) wo.heap.size q c2 A2 rs rfl hown (.bool cb) rfl rfl (by omega) hzq ?_; intro A5 c5 w16 hown5 hg5 hb5)
                  go_roundw
                  case rel => exact ⟨q + 1, A5, c5, by omega, by go_num, rfl, by rw [HRQ.out]; exact hown5, hTq.trans hb5⟩
                  case measure => simp [intOf]; omega
                · obtain rfl : q = n1 := by omega
                  have hq1 : ¬ (q : Int) < (q : Int) := by omega
                  obtain ⟨vs, hvs, HPU⟩ := hM.push (by decide) hTq hlo (xs := (List.range q).map fun r => cel F r k) (by rw [List.length_map, List.length_range]; exact hown)
                  have hT2 := below_next hT hTq rfl
                  have hz2 := hT2.size
                  go_wp2_with (at_builtin; refine app1 wr rfl _ _ 24 37 rfl (.slice none 0 0) 24 Try.underlying24 info_bools rfl (by decide) w14.heap.size k c' A' vs rfl hvs (.slice A2 q c2) rfl rfl (by omega) hz2 ?_; intro A5 c5 w16 hown5 hg5 hb5)
                  have HF5 := Lib.hid (HPU hown5 hg5)
                  clear HPU hown5 hg5 hvs
                  go_roundw
                  case rel => exact ⟨k + 1, A5, c5, by omega, by go_num, rfl, by rw [HTK.out]; exact HF5.out, hT2.trans hb5⟩
                  case measure => simp [intOf]; omega
            · obtain rfl : k = j0 := by omega
              have hk1 : ¬ (k : Int) < (k : Int) := by omega
              have HCR := Lib.hid (implCR_any A' k c' (trM F n1 k) wr (hM.rd (R := RB) fun _ _ _ _ => rfl))
              rw [HTC.out] at HCR
              clear hM
              go_wp2_with fail
              refine HCR.out.mono ?_
              rintro e w17 ⟨A17, n17, c17, rfl, hO17, T17⟩
              have hl17 := (ownmb_len hO17).1
              rw [HTL.out, HL9.out] at hl17
              subst hl17
              have hne : ((n9 : Int) != (n9 : Int)) = false := by simp
              clear hO17
              go_wp2_with fail
              go_meet
              exact below_next T5 (below_next hT T17 rfl) rfl
        · have hj' : ¬ (0 : Int) < (j0 : Int) := by omega
          go_wp2_with fail
          go_meet
          exact T5
      · have hn0' : ¬ (0 : Int) < (n1 : Int) := by omega
        go_wp2_with fail
        go_meet
        exact T5
  case rest =>
    have hTc : Below w5.heap.size w5 wc := hcut
    obtain ⟨w6, HWC⟩ : ∃ wq : World, wq = wc := ⟨_, rfl⟩
    subst HWC
    replace hF := hF.next (stab_RV stab_RB) hTc
    replace T14 := below_next T14 hTc rfl
    have hC6 := hC.next T14
    clear hTc hR H3 hC1 hC
    go_wp2_with fail
    refine (drawCP_any A n c _ hC6).mono ?_
    rintro e w7 ⟨B1, m1, d1, G, B2, m2, d2, S, rfl, hG, hS, T7⟩
    replace hF := hF.next (stab_RV stab_RB) T7
    replace T14 := below_next T14 T7 rfl
    go_wp2_with fail
    refine (implCP_any B1 B2 m1 d1 m2 d2 G S w7 hG hS).mono ?_
    rintro e w8 ⟨B3, m3, d3, rfl, hO8, T8⟩
    have H8 := rd_of_own (R := RI) hO8 (RI_ints (cpRes_bd G S))
    clear hO8
    replace hF := hF.next (stab_RV stab_RB) T8
    replace hG := hG.next (stab_RV stab_RB) T8
    replace hS := hS.next stab_RI T8
    replace T14 := below_next T14 T8 rfl
    go_wp2_with fail
    refine (specCP_any B1 B2 m1 d1 m2 d2 G S w8 hG hS).mono ?_
    rintro e w9 ⟨B4, m4, d4, rfl, hO9, T9⟩
    have H9 := rd_of_own (R := RI) hO9 (RI_ints (cpRes_bd G S))
    clear hO9
    replace hF := hF.next (stab_RV stab_RB) T9
    replace H8 := H8.next stab_RI T9
    replace T14 := below_next T14 T9 rfl
    clear T7 T8 T9
    obtain ⟨ok2, HOK2⟩ : ∃ b, Hid (cpOk G S = b) := ⟨_, rfl⟩
    rw [HOK2.out]
    have hbb2 : (ok2 != ok2) = false := by cases ok2 <;> rfl
    go_wp2_with fail
    refine (rInts_any B3 B4 m3 m4 d3 d4 _ _ w9 H8 H9).mono ?_
    rintro e w10 ⟨rfl, z10, rfl⟩
    rw [eqL_self]
    replace hF := hF.drewN (stab_RV stab_RB) z10
    replace T14 := below_drewN T14 z10
    obtain ⟨w10, HW10⟩ : ∃ w10, w10 = w9.drewN z10 := ⟨_, rfl⟩
    rw [← HW10] at hF T14 ⊢
    clear HW10
    obtain ⟨cx, HCX⟩ : ∃ b, Hid (ctxB F = b) := ⟨_, rfl⟩
    have hcx : (cx == cx) = true := by cases cx <;> rfl
    go_wp2_with fail
    refine (isContext_any A1 n1 c1 F w10 hF).mono ?_
    rintro e w11 ⟨rfl, rfl⟩
    rw [HCX.out]
    go_wp2_with fail
    refine (specIC_any A1 n1 c1 F w10 hF).mono ?_
    rintro e w12 ⟨rfl, z12, rfl⟩
    rw [HCX.out]
    go_wp2_with fail
    go_ret
    exact ⟨by first | rfl | rw [hcx], below_drewN T14 z12⟩
end Go.Proofs.Ytcihgkdaogfabaa
