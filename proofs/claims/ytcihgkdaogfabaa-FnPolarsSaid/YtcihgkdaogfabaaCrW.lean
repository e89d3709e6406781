
/- Walks: ClosedRows of the program and of the reference. -/
import Derived.Test.YtcihgkdaogfabaaCtxV
namespace Go.Proofs.Ytcihgkdaogfabaa
open Go.RowKit

theorem bits_below : ∀ c : Nat, c ≤ 6 → ∀ m, m < 64 → m < 2 ^ c → ∀ x ∈ bitsTo m 6, 0 ≤ x ∧ x < (c : Int) := by decide +kernel
theorem cols_bd {F : List (List Bool)} {n k : Nat} (hn : n ≤ 6) : ∀ p ∈ colsL F n k, ∀ x ∈ p, ∀ wz : World, RI wz (.int .i64 x) x := fun p hp x hx wz => by
  have := (colsL_set F n k p hp).2 x hx
  exact ⟨rfl, by omega, by omega⟩
set_option maxRecDepth 100000 in
set_option maxHeartbeats 4000000 in
theorem implCR_any (A : Option Addr) (n c : Nat) (F : List (List Bool)) (w : World) (h : RdL (RV RB) w A n F) :
    Calls Try.prog 12 #[.slice A n c] w (OwnMB w (crRes F) (ctxB F)) := by
  have hle := h.le
  have HLN := Lib.hid h.len
  have HIC := Lib.hid (isContext_any A n c F w h)
  obtain ⟨r, HR⟩ : ∃ r, Hid (ctxB F = r) := ⟨_, rfl⟩
  rw [HR.out] at HIC ⊢
  rcases r with _ | _
  · have HN := Lib.hid (crRes_no HR.out)
    go_enter Try.func12, Try.ntmps12
    go_wp2_with (go_at_call 19; refine HIC.out.mono ?_; rintro e w1 ⟨rfl, rfl⟩)
    go_ret2
    exact ⟨_, 0, 0, rfl, by rw [HN.out]; exact mat_lit (Below.refl _ _), below_box _ _⟩
  · obtain ⟨hn6', hc6, hF⟩ := ctx_parts HR.out
    have hn6 : n ≤ 6 := by have := HLN.out; omega
    have HF := Lib.hid hF
    obtain ⟨cn, HCN⟩ : ∃ cn, Hid (colN F = cn) := ⟨_, rfl⟩
    rw [HCN.out] at hc6
    have HCR : Hid (crRes F = systemL n (colsL F n cn)) := by show _ = _; unfold crRes; rw [HR.out, if_pos rfl, HLN.out, HCN.out]
    have hT0 := below_box w (.cells #[] 25)
    have hM0 : OwM 25 3 (.int .i64) w.heap.size (w.alloc (.cells #[] 25)) (.slice (some ⟨w.heap.size, 0, none⟩) 0 0) 0 [] := mat_lit (Below.refl _ _)
    clear hn6' hF
    go_enter Try.func12, Try.ntmps12
    go_wp2_with (go_at_call 19; refine HIC.out.mono ?_; rintro e w1 ⟨rfl, rfl⟩)
    go_loopw [4, 5] (fun v i wr => ∃ k : Nat, k ≤ cn ∧ i = .int .i64 k ∧ (∃ A' c', v = .slice A' k c' ∧ OwM 25 3 (.int .i64) w.heap.size wr (.slice A' k c') k (colsL F n k)) ∧ Below w.heap.size w wr) (fun _ i _ => cn - (intOf i).toNat)
    case atStart => exact ⟨0, Nat.zero_le _, rfl, ⟨_, 0, rfl, hM0⟩, hT0⟩
    case round =>
      clear hM0 hT0
      obtain ⟨k, hk, rfl, ⟨A', c', rfl, hown⟩, hT⟩ := hrel
      have hr := h.next (stab_RV stab_RB) hT
      have HCO := Lib.hid (columnsOf_any A n c F wr hr)
      rw [HCN.out] at HCO
      by_cases hlt : k < cn
      · have hk1 : (k : Int) < (cn : Int) := by omega
        obtain ⟨wb, HWB⟩ : ∃ wb, Hid (wb = wr.alloc (.cells #[.int .i64 k] 3)) := ⟨_, rfl⟩
        have hbb : Below wr.heap.size wr wb := by rw [HWB.out]; exact below_box _ _
        have hrd1 : RdL RI wb (some ⟨wr.heap.size, 0, none⟩) 1 [(k : Int)] := by
          rw [HWB.out]
          refine ⟨rfl, by unfold maxLen; omega, fun j x hj => ?_⟩
          have hj1 := (List.getElem?_eq_some_iff.1 hj).1
          simp at hj1
          subst hj1
          simp at hj
          subst hj
          exact ⟨wr.heap.size, 0, _, rfl, cell_new _ rfl, rfl, by omega, by omega⟩
        have HPL := Lib.hid (columnPolar_any A (some ⟨wr.heap.size, 0, none⟩) n c 1 1 F [(k : Int)] wb (hr.next (stab_RV stab_RB) hbb) hrd1 HF.out (fun x hx => by rw [List.mem_singleton.1 hx, HCN.out]; omega) (by omega))
        have Tb := below_next hT hbb rfl
        have hownb := hown.next hbb
        have hlen := polTo_len F [(k : Int)] n
        have hT2 := Tb.size
        have HCK : Hid (colsL F n (k + 1) = colsL F n k ++ [polTo F [(k : Int)] n]) := rfl
        obtain ⟨ps, HPS⟩ : ∃ ps, Hid (polTo F [(k : Int)] n = ps) := ⟨_, rfl⟩
        rw [HPS.out] at HPL hlen HCK
        go_wp2_with fail
        refine HCO.out.mono ?_
        rintro e w1 ⟨rfl, rfl⟩
        clear hrd1 hown
        go_wp2_with fail
        rw [← HWB.out]
        refine HPL.out.mono ?_
        rintro e w4 ⟨A4, n4, c4, rfl, how4, hb4⟩
        have hn4 : n4 = ps.length := by have := how4.1; simpa [ints] using this.symm
        subst hn4
        obtain ⟨vs, hvs, HPU⟩ := hownb.push (by decide) hb4 hT2 how4
        have hT4 := below_next Tb hb4 rfl
        have hsz4 := hT4.size
        clear hownb
        go_wp2_with (at_builtin; refine app1 w4 rfl _ _ 31 25 rfl (.slice none 0 0) 24 Try.underlying31 info_ints rfl (by decide) w.heap.size k c' A' vs rfl hvs (.slice A4 ps.length c4) rfl rfl (by omega) hsz4 ?_; intro A2 c2 w6 hown6 hg6 hb6)
        have HF6 := Lib.hid (HPU hown6 hg6)
        clear hown6 hvs HPU hg6
        go_roundw
        case rel => exact ⟨k + 1, by omega, by go_num, ⟨A2, c2, rfl, by rw [HCK.out]; exact HF6.out⟩, hT4.trans hb6⟩
        case measure => simp [intOf]; omega
      · obtain rfl : k = cn := by omega
        have hk1 : ¬ (k : Int) < (k : Int) := by omega
        have hlo := hT.size
        have HSF := Lib.hid (systemFrom_any n A' k c' (colsL F n k) wr (hown.rd (R := RI) fun p hp x hx => cols_bd hn6 p hp x hx wr) hn6 (colsL_set F n k))
        clear hown
        go_wp2_with fail
        refine HCO.out.mono ?_
        rintro e w1 ⟨rfl, rfl⟩
        go_wp2_with fail
        refine HSF.out.mono ?_
        rintro e w2 ⟨B, q, d, rfl, hM, hb2⟩
        go_wp2_with fail
        go_ret2
        exact ⟨B, q, d, rfl, by rw [HCR.out]; exact hM.mono hlo, below_next hT hb2 rfl⟩
set_option maxRecDepth 100000 in
set_option maxHeartbeats 4000000 in
theorem specCR_any (A : Option Addr) (n c : Nat) (F : List (List Bool)) (w : World) (h : RdL (RV RB) w A n F) :
    Calls Try.prog 13 #[.slice A n c] w (RdMB w (crRes F) (ctxB F)) := by
  have hle := h.le
  have HLN := Lib.hid h.len
  have hb0 := below_box w (.cells #[] 25)
  obtain ⟨w0, HW⟩ : ∃ w0, Hid (w0 = w.alloc (.cells #[] 25)) := ⟨_, rfl⟩
  rw [← HW.out] at hb0
  have HIC := Lib.hid (l30Context_any A n c F w0 (h.next (stab_RV stab_RB) hb0))
  obtain ⟨r, HR⟩ : ∃ r, Hid (ctxB F = r) := ⟨_, rfl⟩
  rw [HR.out] at HIC ⊢
  rcases r with _ | _
  · have HN := Lib.hid (crRes_no HR.out)
    go_enter Try.func13, Try.ntmps13
    go_wp2_with fail
    rw [← HW.out]
    refine HIC.out.mono ?_
    rintro e w1 ⟨rfl, z, rfl⟩
    go_wp2_with fail
    go_ret2
    exact ⟨_, 0, 0, rfl, by rw [HN.out]; exact RdL.nil _ _ _, below_drewN hb0 z⟩
  · obtain ⟨hn6', hc6, hF⟩ := ctx_parts HR.out
    have hn6 : n ≤ 6 := by have := HLN.out; omega
    have HF := Lib.hid hF
    obtain ⟨cn, HCN⟩ : ∃ cn, Hid (colN F = cn) := ⟨_, rfl⟩
    rw [HCN.out] at hc6
    obtain ⟨N, HN⟩ : ∃ N : Nat, Hid (2 ^ cn = N) := ⟨_, rfl⟩
    have hN : N ≤ 64 := by rw [← HN.out]; exact Nat.le_trans (Nat.pow_le_pow_right (by decide) hc6) (by decide)
    have HCR : Hid (crRes F = crI F n N) := by show _ = _; unfold crRes; rw [HR.out, if_pos rfl, HLN.out, HCN.out, ← HN.out, cr_eq F n cn hc6]
    have HBIT : Hid (∀ m, m < N → ∀ x ∈ bitsTo m 6, 0 ≤ x ∧ x < (cn : Int)) := fun m hm x hx => by
      have := bits_below cn (by omega) m (by omega) (by rw [HN.out]; exact hm) x hx
      exact this
    clear hn6' hF
    go_enter Try.func13, Try.ntmps13
    go_wp2_with fail
    rw [← HW.out]
    refine HIC.out.mono ?_
    rintro e w1 ⟨rfl, z, rfl⟩
    have hT1 := below_drewN hb0 z
    clear hb0 HIC
    go_wp2_with fail
    go_loopw [4, 5] (fun v i wr => ∃ k : Nat, k ≤ N ∧ i = .int .i64 k ∧ OutM wr v (crI F n k) ∧ Below w.heap.size w wr) (fun _ i _ => N - (intOf i).toNat)
    case atStart => exact ⟨0, Nat.zero_le _, rfl, ⟨_, _, _, _, rfl, Nat.le_refl _, RdL.nil _ _ _⟩, hT1⟩
    case round =>
      clear hT1
      obtain ⟨k, hk, rfl, ⟨ob, oo, on, oc, rfl, hoc, ho⟩, hT⟩ := hrel
      have hpw : (1 : Int) * 2 ^ cn = (N : Int) := by rw [← HN.out]; simp
      have hpw2 : (2 : Int) ^ cn = (N : Int) := by rw [← HN.out]; simp
      have hr := h.next (stab_RV stab_RB) hT
      have HCO := Lib.hid (l30Columns_any A n c F wr hr)
      rw [HCN.out] at HCO
      by_cases hlt : k < N
      · have hk1 : (k : Int) < (N : Int) := by omega
        have hol := inv_len (crI_inv F n k) hn6
        rw [ho.len] at hol
        have HST : Hid (crI F n (k + 1) = putL (polTo F (bitsTo k 6) n) (crI F n k)) := rfl
        have HBK := Lib.hid (HBIT.out k hlt)
        have HB1 := l5Bits_any k wr (by omega)
        have hps := polTo_set F (bitsTo k 6) n
        have HPB : Hid (∀ x ∈ polTo F (bitsTo k 6) n, -9223372036854775808 ≤ x ∧ x ≤ 9223372036854775807) := fun x hx => by have := hps.2 x hx; omega
        obtain ⟨acc, HA⟩ : ∃ acc, Hid (crI F n k = acc) := ⟨_, rfl⟩
        obtain ⟨xs, HX⟩ : ∃ xs, Hid (bitsTo k 6 = xs) := ⟨_, rfl⟩
        rw [HA.out] at ho HST
        rw [HX.out] at HST HBK HB1 HPB
        have HB := Lib.hid HB1
        clear HB1 hps
        go_wp2_with fail
        refine HCO.out.mono ?_
        rintro e w2 ⟨rfl, rfl⟩
        go_wp2_with fail
        refine HB.out.mono ?_
        rintro e w4 ⟨A4, c4, rfl, how4, hb4⟩
        have hT4 := below_next hT hb4 rfl
        have HCL := Lib.hid (l30Column_any A A4 n c xs.length c4 F xs w4 (h.next (stab_RV stab_RB) hT4) (rd_of_own (R := RI) how4 (RI_ints fun y hy => by have := HBK.out y hy; omega)) HF.out (fun x hx => by rw [HCN.out]; exact HBK.out x hx) (by omega))
        replace ho := ho.next stab_RVI hb4
        clear how4 hb4
        go_wp2_with fail
        refine HCL.out.mono ?_
        rintro e w5 ⟨A5, n5, c5, rfl, how5, hb5⟩
        have hT5 := below_next hT4 hb5 rfl
        replace ho := ho.next stab_RVI hb5
        have HPT := Lib.hid (l30Put_any _ _ _ oc _ _ c5 _ _ w5 ho (rd_of_own (R := RI) how5 (RI_ints HPB.out)) hoc (by omega))
        clear how5 hb5
        go_wp2_with fail
        refine HPT.out.mono ?_
        rintro e w6 ⟨b6, o6, n6, c6, rfl, hc6', hr6, hb6⟩
        have HR6 := Lib.hid hr6
        clear hr6
        go_wp2_with fail
        go_roundw
        case rel => exact ⟨k + 1, by omega, by go_num, by rw [HST.out]; exact ⟨_, _, _, _, rfl, hc6', HR6.out⟩, below_next hT5 hb6 rfl⟩
        case measure => simp [intOf]; omega
      · obtain rfl : k = N := by omega
        have hk1 : ¬ (k : Int) < (k : Int) := by omega
        have HO := Lib.hid ho
        clear ho
        go_wp2_with fail
        refine HCO.out.mono ?_
        rintro e w2 ⟨rfl, rfl⟩
        go_wp2_with fail
        go_ret2
        exact ⟨_, _, _, rfl, by rw [HCR.out]; exact HO.out, hT⟩
end Go.Proofs.Ytcihgkdaogfabaa
