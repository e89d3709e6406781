
/- Walks: FreeSets of the reference (begun: no system; the answer in the list's place). -/
import Derived.Test.YtlncpabnlnipoaaGreatFreeP
import Derived.Test.YtlncpabnlnipoaaGreatGood
import Derived.Test.YtlncpabnlnipoaaGreatSysF2
namespace Go.Proofs.YtlncpabnlnipoaaGreat
open Go.RowKit

theorem fs_no {n : Int} {S : List (List Int)} (h : sysRes n S = false) : fsRes n S = [] := by unfold fsRes; rw [h]; rfl
theorem fs_yes {k : Nat} {S : List (List Int)} (h : sysRes (k : Int) S = true) : fsRes (k : Int) S = frI S (2 ^ k) := by unfold fsRes; rw [h, if_pos rfl, Int.toNat_natCast]
set_option maxHeartbeats 4000000 in
theorem specFS_no (A : Option Addr) (m c : Nat) (n : Int) (S : List (List Int)) (w : World) (h : RdL (RV RI) w A m S) (h1 : sysRes n S = false) :
    Calls Tryz.prog 20 #[.int .i64 n, .slice A m c] w (RdMB w (fsRes n S) (sysRes n S)) := by
  have HR := Lib.hid h1
  have HF := Lib.hid (fs_no h1)
  rw [h1, HF.out]
  clear h1
  have hb0 := below_box w (.cells #[] 25)
  obtain ⟨w0, HW⟩ : ∃ w0, Hid (w0 = w.alloc (.cells #[] 25)) := ⟨_, rfl⟩
  rw [← HW.out] at hb0
  have HG := Lib.hid (l30GoodAll_any A m c S n w0 (h.next stab_RVI hb0))
  go_enter Tryz.func20, Tryz.ntmps20
  go_wp2_with fail
  rw [← HW.out]
  refine HG.out.mono ?_
  rintro e w1 ⟨rfl, hb1⟩
  rw [HR.out]
  go_wp2_with fail
  go_ret2
  exact ⟨_, 0, 0, rfl, RdL.nil _ _ _, below_next hb0 hb1 rfl⟩
end Go.Proofs.YtlncpabnlnipoaaGreat
namespace Go.Proofs.YtlncpabnlnipoaaGreat
open Go.RowKit

theorem frI_len (S : List (List Int)) : ∀ m, (frI S m).length ≤ m
  | 0 => Nat.le_refl _
  | m + 1 => by
    have ih := frI_len S m
    rw [frI]
    split
    · unfold insT
      have := insPos_le (bitsTo m 6) (frI S m) (frI S m).length
      simp only [List.length_append, List.length_take, List.length_cons, List.length_drop]
      omega
    · omega
theorem bits_lt6 : ∀ k, k < 64 → ∀ i, i < (bitsTo k 6).length → 0 ≤ (bitsTo k 6).getD i 0 ∧ (bitsTo k 6).getD i 0 ≤ 5 := by decide +kernel
set_option linter.unusedSimpArgs false in
set_option maxRecDepth 100000 in
set_option maxHeartbeats 8000000 in
theorem specFS_yes (A : Option Addr) (m c n : Nat) (S : List (List Int)) (w : World) (h : RdL (RV RI) w A m S) (hn6 : n ≤ 6) (hok : Hid (sysRes (n : Int) S = true)) :
    Calls Tryz.prog 20 #[.int .i64 n, .slice A m c] w (RdMB w (frI S (2 ^ n)) true) := by
  obtain ⟨N, HN⟩ : ∃ N : Nat, Hid (2 ^ n = N) := ⟨_, rfl⟩
  have hN : N ≤ 64 := by rw [← HN.out]; exact Nat.le_trans (Nat.pow_le_pow_right (by decide) hn6) (by decide)
  rw [HN.out]
  have hb0 := below_box w (.cells #[] 25)
  obtain ⟨w0, HW⟩ : ∃ w0, Hid (w0 = w.alloc (.cells #[] 25)) := ⟨_, rfl⟩
  rw [← HW.out] at hb0
  have HG := Lib.hid (l30GoodAll_any A m c S n w0 (h.next stab_RVI hb0))
  go_enter Tryz.func20, Tryz.ntmps20
  go_wp2_with fail
  rw [← HW.out]
  refine HG.out.mono ?_
  rintro e w1 ⟨rfl, hb1⟩
  rw [hok.out]
  have hT1 := below_next hb0 hb1 rfl
  clear hb0 hb1 HG
  go_wp2_with fail
  go_loopw [6, 7, 8, 9, 10] (fun v i _ _ _ wr => ∃ k : Nat, k ≤ N ∧ i = .int .i64 k ∧ OutM wr v (frI S k) ∧ Below w.heap.size w wr) (fun _ i _ _ _ _ => N - (intOf i).toNat)
  case atStart => exact ⟨0, Nat.zero_le _, rfl, ⟨_, _, _, _, rfl, Nat.le_refl _, RdL.nil _ _ _⟩, hT1⟩
  case round =>
    clear hT1
    obtain ⟨k, hk, rfl, ⟨ob, oo, on, oc, rfl, hoc, ho⟩, hT⟩ := hrel
    have hpw : (1 : Int) * 2 ^ n = (N : Int) := by rw [← HN.out]; simp
    have hpw2 : (2 : Int) ^ n = (N : Int) := by rw [← HN.out]; simp
    have hol := frI_len S k
    rw [ho.len] at hol
    by_cases hlt : k < N
    · have hk1 : (k : Int) < (N : Int) := by omega
      have HST : Hid (frI S (k + 1) = if freeB S (bitsTo k 6) then insT (bitsTo k 6) (frI S k) else frI S k) := rfl
      have hbl := bits_len k (by omega) 6 (by omega)
      have HBB : Hid (∀ x ∈ bitsTo k 6, -9223372036854775808 ≤ x ∧ x ≤ 9223372036854775807) := fun x hx => by
        have := bits_bd k (by omega) x hx
        omega
      have HLESS := Lib.hid (bits_less k (by omega))
      have HAND := Lib.hid (bits_andNot k (by omega))
      have HLT6 := Lib.hid (bits_lt6 k (by omega))
      obtain ⟨acc, HA⟩ : ∃ acc, Hid (frI S k = acc) := ⟨_, rfl⟩
      obtain ⟨xs, HX⟩ : ∃ xs, Hid (bitsTo k 6 = xs) := ⟨_, rfl⟩
      rw [HA.out] at ho HST
      rw [HX.out] at hbl HBB HST HLESS HAND HLT6
      obtain ⟨j, HJ⟩ : ∃ j, Hid (xs.length = j) := ⟨_, rfl⟩
      have HB1 := l5Bits_any k wr (by omega)
      rw [HX.out, HJ.out] at HB1
      rw [HJ.out] at hbl
      have HB := Lib.hid HB1
      clear HB1
      go_upto_region 8 with (go_at_call 54; refine HB.out.mono ?_; rintro e w4 ⟨A4, c4, rfl, how4, hb4⟩)
      have hrx := rd_of_own (R := RI) how4 (RI_ints HBB.out)
      have hT4 := below_next hT hb4 rfl
      have hS4 := h.next stab_RVI hT4
      replace ho := ho.next stab_RVI hb4
      clear hb4 how4 HB
      go_wp2_with fail
      go_loopw [9, 10] (fun f i wi => ∃ q : Nat, q ≤ j ∧ i = .int .i64 q ∧ f = .bool (freeTo S xs q) ∧ Below w4.heap.size w4 wi) (fun _ i _ => j - (intOf i).toNat)
      case atStart => exact ⟨0, Nat.zero_le _, rfl, rfl, Below.refl _ _⟩
      case round =>
        obtain ⟨q, hq, rfl, rfl, hTi⟩ := hrel
        by_cases hltq : q < j
        · have hq0 : (0 : Int) ≤ (q : Int) := by omega
          have hq1 : (q : Int) < (j : Int) := by omega
          have hql : q < xs.length := by rw [HJ.out]; exact hltq
          obtain ⟨b, o, v, x, rfl, hcx, ⟨rfl, -⟩, -, hx⟩ := hrx.at hltq
          have hgd : xs.getD q 0 = x := by simp [List.getD, hx]
          have hx6 := HLT6.out q hql
          rw [hgd] at hx6
          obtain ⟨x, rfl⟩ := Int.eq_ofNat_of_zero_le hx6.1
          have hx5 : x ≤ 5 := by omega
          have HS : Hid (freeTo S xs (q + 1) = (freeTo S xs q && !(hasI (x : Int) (closeL (xs.take q ++ xs.drop (q + 1)) S)))) := by show _ = _; rw [freeTo, hgd]
          obtain ⟨f, HF⟩ : ∃ f, Hid (freeTo S xs q = f) := ⟨_, rfl⟩
          rw [HF.out] at HS ⊢
          have hci : wr.cell? ⟨b, o + q, none⟩ = some (.int .i64 (x : Int)) := keepS hTi hcx
          rcases f with _ | _
          · have HS2 : Hid (freeTo S xs (q + 1) = false) := by show _ = _; rw [HS.out]; rfl
            clear hgd hx hcx hx6
            go_wp2_with fail
            go_quiet (fail)
            go_wp2_with fail
            go_roundw
            case rel => exact ⟨q + 1, by omega, by go_num, by rw [HS2.out], by first | exact hTi | exact below_drewN hTi _⟩
            case measure => simp [intOf]; omega
          · have HS2 : Hid (freeTo S xs (q + 1) = !(hasI (x : Int) (closeL (xs.take q ++ xs.drop (q + 1)) S))) := by show _ = _; rw [HS.out, Bool.true_and]
            have hand := HAND.out q hql
            have hless := HLESS.out q hql
            rw [hgd] at hand hless
            simp only [Int.toNat_natCast] at hand hless
            obtain ⟨P, HP⟩ : ∃ P : Nat, Hid (2 ^ x = P) := ⟨_, rfl⟩
            have hP : (2 : Int) ^ x = (P : Int) := by rw [← HP.out]; push_cast; rfl
            have hP2 : (1 : Int) * 2 ^ x = (P : Int) := by rw [hP, Int.one_mul]
            have hP32 : P ≤ 32 := by rw [← HP.out]; exact Nat.le_trans (Nat.pow_le_pow_right (by decide) hx5) (by decide)
            have hPw : IntKind.i64.wrap (P : Int) = (P : Int) := IntWalk.i64_in _ ⟨by omega, by omega⟩
            rw [HP.out] at hless hand
            rw [hP] at hand
            obtain ⟨k2, HK2⟩ : ∃ k2 : Nat, Hid (k - P = k2) := ⟨_, rfl⟩
            rw [HK2.out] at hless hand
            have hk2 : k2 < 64 := by rw [← HK2.out]; omega
            obtain ⟨ys, HY⟩ : ∃ ys, Hid (xs.take q ++ xs.drop (q + 1) = ys) := ⟨_, rfl⟩
            have HYB : Hid (∀ y ∈ ys, -9223372036854775808 ≤ y ∧ y ≤ 9223372036854775807) := fun y hy => by
              rw [← HY.out] at hy
              exact HBB.out y ((List.mem_append.1 hy).elim List.mem_of_mem_take List.mem_of_mem_drop)
            rw [HY.out] at hless HS2
            have HB2 : Hid (∀ wz, Calls Tryz.prog 54 #[.int .i64 k2] wz (OwnR wz ys)) := fun wz => by
              have h1 := l5Bits_any k2 wz hk2
              rw [hless] at h1
              exact h1.mono fun e w' ⟨A, c, e1, h1, h2⟩ => ⟨A, _, c, e1, h1, h2⟩
            obtain ⟨cl, HC⟩ : ∃ cl, Hid (closeL ys S = cl) := ⟨_, rfl⟩
            rw [HC.out] at HS2
            obtain ⟨r, HR⟩ : ∃ r, Hid (hasI (x : Int) cl = r) := ⟨_, rfl⟩
            rw [HR.out] at HS2
            have hSi := hS4.next stab_RVI hTi
            have Tk : Below wr.heap.size wr wr := Below.refl _ _
            clear hgd hx hcx hx6 hless
            go_wp2_with fail
            refine wp_region_held_drew (S := fun w' => w'.cell? ⟨b, o + q, none⟩ = some (.int .i64 x)) (by kernel_rfl) hci (fun hHeld0 => ?_)
            refine wpAnyH_take (i := 0) (v := .bool true) rfl (by kernel_rfl) (by kernel_rfl) (by kernel_rfl) (fun _ _ _ h => h) (Or.inl ⟨by kernel_rfl, fun _ _ => by go_simp⟩) (by assumption) ?_
            (try simp only [Act.put, List.setIfInBounds_toArray, List.set_cons_zero, List.set_cons_succ])
            refine wpAnyH_take (i := 1) (v := .bool true) rfl (by kernel_rfl) (by kernel_rfl) (by kernel_rfl) (fun _ _ _ h => h) (Or.inl ⟨by kernel_rfl, fun _ _ => by go_simp⟩) (by assumption) ?_
            (try simp only [Act.put, List.setIfInBounds_toArray, List.set_cons_zero, List.set_cons_succ])
            refine wpAnyH_take (i := 2) (v := .slice A m c) rfl (by kernel_rfl) (by kernel_rfl) (by kernel_rfl) (fun _ _ _ h => h) (Or.inl ⟨by kernel_rfl, fun _ _ => by go_simp⟩) (by assumption) ?_
            (try simp only [Act.put, List.setIfInBounds_toArray, List.set_cons_zero, List.set_cons_succ])
            refine wpAnyH_take (i := 3) (v := .int .i64 k) rfl (by kernel_rfl) (by kernel_rfl) (by kernel_rfl) (fun _ _ _ h => h) (Or.inl ⟨by kernel_rfl, fun _ _ => by go_simp⟩) (by assumption) ?_
            (try simp only [Act.put, List.setIfInBounds_toArray, List.set_cons_zero, List.set_cons_succ])
            refine wpAnyH_take (i := 4) (v := .slice (some ⟨b, o, none⟩) j c4) rfl (by kernel_rfl) (by kernel_rfl) (by kernel_rfl) (fun _ _ _ h => h) (Or.inl ⟨by kernel_rfl, fun _ _ => by go_simp⟩) (by assumption) ?_
            (try simp only [Act.put, List.setIfInBounds_toArray, List.set_cons_zero, List.set_cons_succ])
            refine wpAnyH_take (i := 5) (v := .int .i64 q) rfl (by kernel_rfl) (by kernel_rfl) (by kernel_rfl) (fun _ _ _ h => h) (Or.inl ⟨by kernel_rfl, fun _ _ => by go_simp⟩) (by assumption) ?_
            (try simp only [Act.put, List.setIfInBounds_toArray, List.set_cons_zero, List.set_cons_succ])
            refine wpAnyH_take (i := 6) (v := .pointer (some ⟨b, o + q, none⟩)) rfl (by kernel_rfl) (by kernel_rfl) (by kernel_rfl) (fun _ _ _ h => h) (Or.inl ⟨by kernel_rfl, fun _ _ => by go_simp⟩) (by assumption) ?_
            (try simp only [Act.put, List.setIfInBounds_toArray, List.set_cons_zero, List.set_cons_succ])
            refine wpAnyH_take (i := 7) (v := .int .i64 x) rfl (by kernel_rfl) (by kernel_rfl) (by kernel_rfl) (fun _ _ _ h => h) (Or.inl ⟨by kernel_rfl, fun wv hSw => by (have hS0 := hSw); go_simp⟩) (by assumption) ?_
            (try simp only [Act.put, List.setIfInBounds_toArray, List.set_cons_zero, List.set_cons_succ])
            refine wpAnyH_take (i := 8) (v := .int .i64 P) rfl (by kernel_rfl) (by kernel_rfl) (by kernel_rfl) (fun _ _ _ h => h) (Or.inl ⟨by kernel_rfl, fun _ _ => by go_simp⟩) (by assumption) ?_
            (try simp only [Act.put, List.setIfInBounds_toArray, List.set_cons_zero, List.set_cons_succ])
            refine wpAnyH_take (i := 9) (v := .int .i64 k2) rfl (by kernel_rfl) (by kernel_rfl) (by kernel_rfl) (fun _ _ _ h => h) (Or.inl ⟨by kernel_rfl, fun _ _ => by go_simp⟩) (by assumption) ?_
            (try simp only [Act.put, List.setIfInBounds_toArray, List.set_cons_zero, List.set_cons_succ])
            refine wpAnyH_take (i := 12) (v := .slice (some ⟨b, o, none⟩) j c4) rfl (by kernel_rfl) (by kernel_rfl) (by kernel_rfl) (fun _ _ _ h => h) (Or.inl ⟨by kernel_rfl, fun _ _ => by go_simp⟩) (by assumption) ?_
            (try simp only [Act.put, List.setIfInBounds_toArray, List.set_cons_zero, List.set_cons_succ])
            refine wpAnyH_take (i := 13) (v := .int .i64 q) rfl (by kernel_rfl) (by kernel_rfl) (by kernel_rfl) (fun _ _ _ h => h) (Or.inl ⟨by kernel_rfl, fun _ _ => by go_simp⟩) (by assumption) ?_
            (try simp only [Act.put, List.setIfInBounds_toArray, List.set_cons_zero, List.set_cons_succ])
            refine wpAnyH_take (i := 14) (v := .pointer (some ⟨b, o + q, none⟩)) rfl (by kernel_rfl) (by kernel_rfl) (by kernel_rfl) (fun _ _ _ h => h) (Or.inl ⟨by kernel_rfl, fun _ _ => by go_simp⟩) (by assumption) ?_
            (try simp only [Act.put, List.setIfInBounds_toArray, List.set_cons_zero, List.set_cons_succ])
            refine wpAnyH_take (i := 15) (v := .int .i64 x) rfl (by kernel_rfl) (by kernel_rfl) (by kernel_rfl) (fun _ _ _ h => h) (Or.inl ⟨by kernel_rfl, fun wv hSw => by (have hS0 := hSw); go_simp⟩) (by assumption) ?_
            (try simp only [Act.put, List.setIfInBounds_toArray, List.set_cons_zero, List.set_cons_succ])
            refine wpAnyH_ready (rs := [10]) (by kernel_rfl) (by simp) ?_
            refine AllReadyH.cons rfl (fun K hK => ?_) AllReadyH.nil
            go_simp
            refine (HB2.out _).mono ?_
            rintro e w5 ⟨A5, n5, c5, rfl, how5, hb5⟩
            replace Tk := below_next (Below.drew Tk) hb5 rfl
            go_wp2_with fail
            refine hK.out _ _ (keepS Tk hci) (fun hHeld1 => ?_)
            clear hK K hHeld0
            (try simp only [Act.put, List.setIfInBounds_toArray, List.set_cons_zero, List.set_cons_succ])
            refine wpAnyH_ready (rs := [11]) (by kernel_rfl) (by simp) ?_
            refine AllReadyH.cons rfl (fun K hK => ?_) AllReadyH.nil
            go_simp
            refine (l30Close_any _ _ _ _ _ _ S ys _ (hSi.next stab_RVI Tk) (rd_of_own (R := RI) how5 (RI_ints HYB.out))).mono ?_
            rintro e w6 ⟨A6, n6, c6, rfl, hr6, hb6⟩
            rw [HC.out] at hr6
            replace Tk := below_next Tk hb6 rfl
            go_wp2_with fail
            refine hK.out _ _ (keepS Tk hci) (fun hHeld2 => ?_)
            clear hK K hHeld1
            (try simp only [Act.put, List.setIfInBounds_toArray, List.set_cons_zero, List.set_cons_succ])
            refine wpAnyH_ready (rs := [16]) (by kernel_rfl) (by simp) ?_
            refine AllReadyH.cons rfl (fun K hK => ?_) AllReadyH.nil
            go_simp
            refine (l1Has_any _ _ _ _ _ _ hr6).mono ?_
            rintro e w7 ⟨rfl, rfl⟩
            rw [HR.out]
            go_wp2_with fail
            refine hK.out _ _ (keepS Tk hci) (fun hHeld3 => ?_)
            clear hK K hHeld2
            (try simp only [Act.put, List.setIfInBounds_toArray, List.set_cons_zero, List.set_cons_succ])
            refine wpAnyH_take (i := 17) (v := .bool (!r)) rfl (by kernel_rfl) (by kernel_rfl) (by kernel_rfl) (fun _ _ _ h => h) (Or.inl ⟨by kernel_rfl, fun _ _ => by go_simp⟩) (by assumption) ?_
            (try simp only [Act.put, List.setIfInBounds_toArray, List.set_cons_zero, List.set_cons_succ])
            refine wpAnyH_take (i := 18) (v := .bool (!r)) rfl (by kernel_rfl) (by kernel_rfl) (by kernel_rfl) (fun _ _ _ h => h) (Or.inl ⟨by kernel_rfl, fun _ _ => by go_simp⟩) (by assumption) ?_
            (try simp only [Act.put, List.setIfInBounds_toArray, List.set_cons_zero, List.set_cons_succ])
            refine wpAnyH_take (i := 19) (v := .bool (!r)) rfl (by kernel_rfl) (by kernel_rfl) (by kernel_rfl) (fun _ _ _ h => h) (Or.inl ⟨by kernel_rfl, fun _ _ => by go_simp⟩) (by assumption) ?_
            (try simp only [Act.put, List.setIfInBounds_toArray, List.set_cons_zero, List.set_cons_succ])
            refine wpAnyH_done (by kernel_rfl) ?_ _
            go_wp2_with fail
            go_roundw
            case rel => exact ⟨q + 1, by omega, by go_num, by rw [HS2.out], below_next hTi Tk rfl⟩
            case measure => simp [intOf]; omega
        · obtain rfl : q = j := by omega
          have hq1 : ¬ (q : Int) < (q : Int) := by omega
          have hT5 := below_next hT4 hTi rfl
          have hri := hrx.next stab_RI hTi
          have hoi := ho.next stab_RVI hTi
          have HFB : Hid (freeB S xs = freeTo S xs q) := by show _ = _; rw [freeB, HJ.out]
          rw [HFB.out] at HST
          obtain ⟨f, HF⟩ : ∃ f, Hid (freeTo S xs q = f) := ⟨_, rfl⟩
          rw [HF.out] at HST ⊢
          rcases f with _ | _
          · have HS2 : Hid (frI S (k + 1) = acc) := by show _ = _; rw [HST.out]; rfl
            go_wp2_with fail
            go_roundw
            case rel => exact ⟨k + 1, by omega, by go_num, by rw [HS2.out]; exact ⟨_, _, _, _, rfl, hoc, hoi⟩, hT5⟩
            case measure => simp [intOf]; omega
          · have HS2 : Hid (frI S (k + 1) = insT xs acc) := by show _ = _; rw [HST.out]; rfl
            go_wp2_with (go_at_call 56; refine (l5Sort_any _ _ _ _ _ _ _ _ _ _ hoi hri hoc (by omega)).mono ?_; rintro e w8 ⟨g8, c8, rfl, hc8, hr8, hb8⟩)
            go_roundw
            case rel => exact ⟨k + 1, by omega, by go_num, by rw [HS2.out]; exact ⟨_, _, _, _, rfl, hc8, hr8⟩, below_next hT5 hb8 rfl⟩
            case measure => simp [intOf]; omega
    · obtain rfl : k = N := by omega
      have hk1 : ¬ (k : Int) < (k : Int) := by omega
      go_wp2_with fail
      go_ret2
      exact ⟨_, _, _, rfl, ho, hT⟩
theorem specFS_any (A : Option Addr) (m c : Nat) (S : List (List Int)) (n : Int) (w : World) (h : RdL (RV RI) w A m S) :
    Calls Tryz.prog 20 #[.int .i64 n, .slice A m c] w (RdMB w (fsRes n S) (sysRes n S)) := by
  rcases h1 : sysRes n S with _ | _
  · rw [← h1]
    exact specFS_no A m c n S w h h1
  · have hr := sysRes_range h1
    obtain ⟨k, rfl⟩ := Int.eq_ofNat_of_zero_le hr.1
    rw [fs_yes h1]
    exact specFS_yes A m c k S w h (by omega) h1
theorem fsRes_mem {n : Int} {S : List (List Int)} {p : List Int} (h : p ∈ fsRes n S) : p.length ≤ 6 ∧ ∀ x ∈ p, 0 ≤ x ∧ x ≤ 5 := by
  unfold fsRes at h
  split at h
  · rename_i hh
    have hr := sysRes_range hh
    have hm : 2 ^ n.toNat ≤ 64 := Nat.le_trans (Nat.pow_le_pow_right (by decide) (by omega : n.toNat ≤ 6)) (by decide)
    obtain ⟨j, h1, rfl⟩ := frees_mem hm p ((frI_mem _ _).1 h)
    exact ⟨bits_len j (by omega) 6 (by omega), bits_bd j (by omega)⟩
  · simp at h
theorem fsRes_total (n : Int) (S : List (List Int)) : total (fsRes n S) ≤ 1099511627776 := by
  refine total_le (fun p hp => by have := (fsRes_mem hp).1; omega) ?_
  unfold fsRes
  split
  · rename_i hh
    have hr := sysRes_range hh
    have hm : 2 ^ n.toNat ≤ 64 := Nat.le_trans (Nat.pow_le_pow_right (by decide) (by omega : n.toNat ≤ 6)) (by decide)
    have := frI_len S (2 ^ n.toNat)
    omega
  · simp
theorem fsRes_RI (n : Int) (S : List (List Int)) (w : World) : ∀ p ∈ fsRes n S, ∀ y ∈ p, RI w (.int .i64 y) y := fun p hp y hy => by
  have := (fsRes_mem hp).2 y hy
  exact ⟨rfl, by omega, by omega⟩
end Go.Proofs.YtlncpabnlnipoaaGreat
