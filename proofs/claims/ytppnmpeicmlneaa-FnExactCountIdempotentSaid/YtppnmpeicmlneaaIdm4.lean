
/- Walks: CountIdempotent of the reference. (The cases are printed by a small program.) -/
import Derived.Test.YtppnmpeicmlneaaIdm3
namespace Go.Proofs.Ytppnmpeicmlneaa
open Go.RowKit

set_option maxRecDepth 100000 in
set_option maxHeartbeats 16000000 in
theorem specCI_any (x : Int) (w : World) (hx : InR x) :
    Calls Try.prog 36 #[.int .i64 x] w (Bl w (.tuple #[.int .i64 (ciM x), .bool (inB x 1 3)])) := by
  have hx1 := hx.1
  have hx2 := hx.2
  rcases h1 : inB x 1 3 with _ | _
  · have HC := Lib.hid (ci_no h1)
    have HI := Lib.hid h1
    rw [HC.out]
    clear h1
    go_enter Try.func36, Try.ntmps36
    go_wp2_with (go_at_call 66; refine (l1In_any _ _ _ _).mono ?_; rintro e w' ⟨rfl, rfl⟩; rw [HI.out])
    go_ret2
    exact ⟨rfl, Below.refl _ _⟩
  · have hr : 1 ≤ x ∧ x ≤ 3 := by unfold inB at h1; simpa using h1
    have HI := Lib.hid h1
    obtain ⟨n, rfl⟩ := Int.eq_ofNat_of_zero_le (show 0 ≤ x by omega)
    have n1 : 1 ≤ n := by omega
    have n3 : n ≤ 3 := by omega
    have HC := Lib.hid (ci_yes h1)
    obtain ⟨N, HN⟩ : ∃ N, Hid (n ^ prs n = N) := ⟨_, rfl⟩
    have hN : N ≤ 27 := pow27 n3 HN.out
    obtain ⟨p, HP⟩ : ∃ p, Hid (prs n = p) := ⟨_, rfl⟩
    have hp3 : p ≤ 3 := prs3 n3 HP.out
    obtain ⟨L, HL⟩ : ∃ L, Hid (n * n = L) := ⟨_, rfl⟩
    have hL9 : L ≤ 9 := by rw [← HL.out]; exact Nat.le_trans (Nat.mul_le_mul n3 n3) (by decide)
    have HNP : Hid (n ^ p = N) := by show _ = _; rw [← HP.out]; exact HN.out
    have HF : Hid (FamOk n 2 N (idT n)) := by show FamOk _ _ _ _; rw [← HN.out]; exact idm_ok n1 n3
    have HLL : Hid (wrap64 ((n : Int) * (n : Int)) = (L : Int)) := by
      show _ = _
      rw [← HL.out, show (n : Int) * (n : Int) = ((n * n : Nat) : Int) by simp, w64 (by rw [HL.out]; omega)]
    have HPI : Hid (wrap64 ((wrap64 ((n : Int) * ((n : Int) - 1))).tdiv 2) = (p : Int)) := by
      show _ = _
      rw [← HP.out]
      obtain rfl | rfl | rfl : n = 1 ∨ n = 2 ∨ n = 3 := by omega
      all_goals decide +kernel
    rw [HC.out, HN.out]
    clear h1 hr hx hx1 hx2
    go_enter Try.func36, Try.ntmps36
    go_upto_region 5 with (go_at_call 66; refine (l1In_any _ _ _ _).mono ?_; rintro e w' ⟨rfl, rfl⟩; rw [HI.out])
    rw [HPI.out]
    go_wp2_with fail
    go_loopw [4, 6] (fun ct i wr => ∃ k : Nat, k ≤ N ∧ i = .int .i64 k ∧ ct = .int .i64 ((famT n 2 (idT n) k : Nat) : Int) ∧ Below w.heap.size w wr) (fun _ i _ => N - (intOf i).toNat)
    case atStart => exact ⟨0, Nat.zero_le _, rfl, rfl, Below.refl _ _⟩
    case round =>
      obtain ⟨k, hk, rfl, rfl, hT⟩ := hrel
      obtain ⟨fk, HFK⟩ : ∃ fk, Hid (famT n 2 (idT n) k = fk) := ⟨_, rfl⟩
      have hfk : fk ≤ k := by rw [← HFK.out]; exact famT_le _ _ _ _
      rw [HFK.out]
      by_cases hlt : k < N
      · have hk1 : (k : Int) < (N : Int) := by omega
        have HSM := Lib.hid (HF.out.small hlt)
        have HSUC := Lib.hid (famT_succ n 2 (idT n) k)
        obtain ⟨y, HY⟩ : ∃ y, Hid (famA n 2 (idT n) k = y) := ⟨_, rfl⟩
        obtain ⟨sv, HSV⟩ : ∃ b, Hid (eqC (canA y) y = b) := ⟨_, rfl⟩
        rw [HFK.out, HY.out, HSV.out] at HSUC
        rw [HY.out] at HSM
        have HSC := Lib.hid (canA_small HSM.out)
        have HY1 : Hid (y.1 = (n : Int)) := by show _ = _; rw [← HY.out]; rfl
        obtain ⟨vs, HV⟩ : ∃ vs, Hid (idV n k = vs) := ⟨_, rfl⟩
        have HV2 : Hid (nats (digs n p k) = vs) := by show _ = _; rw [← HV.out, ← HP.out]; rfl
        have HR : Hid ((outS n vs n (List.replicate L 0, 0)).1 = idT n k) := by show _ = _; rw [← HV.out, ← HL.out]; exact outS_ok n1 n3 (by rw [HN.out]; exact hlt)
        obtain ⟨s0, HS0⟩ : ∃ s : List Int × Nat, Hid ((List.replicate L (0 : Int), 0) = s) := ⟨_, rfl⟩
        rw [HS0.out] at HR
        have HS1 : Hid (List.replicate L (0 : Int) = s0.1) := by show _ = _; rw [← HS0.out]
        have HB : Hid (∀ v ∈ (outS n vs n s0).1, -9223372036854775808 ≤ v ∧ v ≤ 9223372036854775807) := by
          show ∀ v ∈ _, _
          rw [HR.out]
          intro v hv
          have := HF.out.bd k hlt v hv
          omega
        go_upto_region 7 with (go_at_call 78; refine (l2Pow_any n p N _ HNP.out (by omega) (by omega)).mono ?_; rintro e w' ⟨rfl, rfl⟩)
        go_upto_region 9 with (go_at_call 79; refine (l2Args_any k p n _ (by omega) (by omega) (by omega) (by omega)).mono ?_; rintro e w1 ⟨gv, rfl, hov, hb1⟩)
        rw [HV2.out] at hov
        have T1 := below_next hT hb1 rfl
        clear hb1
        go_upto_region 10 with (at_make; refine make_ints _ rfl _ _ rfl L (by show Value.int _ _ = _; rw [HLL.out]) (by show Value.int _ _ = _; rw [HLL.out]) (by omega) ?_; intro w2 hot hg2)
        have hb2 := (Below.refl w1.heap.size w1).grown hg2 (Nat.le_refl _) (by simp)
        rw [← ints_rep, HS1.out] at hot
        have hgv : gv < w1.heap.size := (hov.lt gv rfl).2
        have hne1 : ¬ gv = w1.heap.size := by omega
        have hne2 : ¬ w1.heap.size = gv := by omega
        clear hg2 hgv
        go_wp2_with fail
        go_loopw [9, 10] (fun a j wr => ∃ x : Nat, x ≤ n ∧ j = .int .i64 x ∧ a = .int .i64 ((atO n x : Nat) : Int) ∧ wr.ownsRow w1.heap.size 3 1 (.slice (some ⟨w1.heap.size, 0, none⟩) L L) L (ints (outS n vs x s0).1) ∧ Below w1.heap.size w1 wr) (fun _ j _ => n - (intOf j).toNat)
        case atStart => exact ⟨0, Nat.zero_le _, rfl, rfl, hot, hb2⟩
        case round =>
          clear hot hb2
          obtain ⟨x, hx, rfl, rfl, hot, hb2⟩ := hrel
          by_cases hlt : x < n
          · have hx1 : (x : Int) < (n : Int) := by omega
            obtain ⟨S, HSS⟩ : ∃ S, Hid (outS n vs x s0 = S) := ⟨_, rfl⟩
            have HAT : Hid (S.2 = atO n x) := by
              show _ = _
              rw [← HSS.out, outS_at, ← HS0.out]
              exact Nat.zero_add _
            rw [HSS.out] at hot
            obtain ⟨a0, HA0⟩ : ∃ a, Hid (atO n x = a) := ⟨_, rfl⟩
            rw [HA0.out]
            have HAN : Hid (atO n (x + 1) = a0 + (n - 1 - x)) := by show _ = _; rw [atO, HA0.out]
            have HON : Hid (outS n vs (x + 1) s0 = inP n vs x (n - 1 - x) (dgP n x S)) := by show _ = _; rw [outS, HSS.out]
            rcases (show (n = 1 ∧ x = 0) ∨ (n = 2 ∧ x = 0) ∨ (n = 2 ∧ x = 1) ∨ (n = 3 ∧ x = 0) ∨ (n = 3 ∧ x = 1) ∨ (n = 3 ∧ x = 2) by omega) with ⟨rfl, rfl⟩ | ⟨rfl, rfl⟩ | ⟨rfl, rfl⟩ | ⟨rfl, rfl⟩ | ⟨rfl, rfl⟩ | ⟨rfl, rfl⟩
            · obtain rfl : 1 = L := HL.out
              obtain rfl : 0 = p := HP.out
              obtain rfl : 0 = a0 := HA0.out
              obtain ⟨D, HD⟩ : ∃ D, Hid (dgP 1 0 S = D) := ⟨_, rfl⟩
              have HD2 : Hid (D.2 = 0) := by show _ = _; rw [← HD.out]; exact HAT.out
              have hD : (wr.setCell ⟨w1.heap.size, 0, none⟩ (.int .i64 ((0 : Nat) : Int))).ownsRow w1.heap.size 3 1 (.slice (some ⟨w1.heap.size, 0, none⟩) 1 1) 1 (ints D.1) := by
                rw [← HD.out]
                exact put_own hot 0 _
              have ct := own_get hot (k := 0) (by decide)
              have ft : wr.frozen? ⟨w1.heap.size, 0, none⟩ = false := hot.frozenAt 0
              have hbD : Below w1.heap.size w1 (wr.setCell ⟨w1.heap.size, 0, none⟩ (.int .i64 ((0 : Nat) : Int))) := hb2.setCell (Nat.le_refl _) _
              rw [HD.out] at HON
              clear hot hb2
              go_wp2_with fail
              go_loopw [9, 11] (fun a j wq => ∃ m : Nat, m ≤ 0 ∧ j = .int .i64 ((1 + m : Nat) : Int) ∧ a = .int .i64 ((0 + m : Nat) : Int) ∧ wq.ownsRow w1.heap.size 3 1 (.slice (some ⟨w1.heap.size, 0, none⟩) 1 1) 1 (ints (inP 1 vs 0 m D).1) ∧ Below w1.heap.size w1 wq) (fun _ j _ => 1 - (intOf j).toNat)
              case atStart => exact ⟨0, Nat.zero_le _, by go_num, by go_num, hD, hbD⟩
              case round =>
                clear hD hbD ct ft
                obtain ⟨m, hm, rfl, rfl, hot, hb2⟩ := hrel
                by_cases hl2 : m < 0
                · omega
                · obtain rfl : m = 0 := by omega
                  have HO := Lib.hid hot
                  clear hot
                  go_wp2_with fail
                  go_roundw
                  case rel =>
                    first
                    | exact ⟨0 + 1, by omega, by go_num, by rw [HAN.out], by rw [HON.out]; exact HO.out, hb2⟩
                    | ((repeat apply Exists.intro); refine ⟨?_, rfl⟩; exact ⟨0 + 1, by omega, by go_num, by rw [HAN.out], by rw [HON.out]; exact HO.out, hb2⟩)
                  case measure => simp [intOf]
            · obtain rfl : 4 = L := HL.out
              obtain rfl : 1 = p := HP.out
              obtain rfl : 0 = a0 := HA0.out
              obtain ⟨D, HD⟩ : ∃ D, Hid (dgP 2 0 S = D) := ⟨_, rfl⟩
              have HD2 : Hid (D.2 = 0) := by show _ = _; rw [← HD.out]; exact HAT.out
              have hD : (wr.setCell ⟨w1.heap.size, 0, none⟩ (.int .i64 ((0 : Nat) : Int))).ownsRow w1.heap.size 3 1 (.slice (some ⟨w1.heap.size, 0, none⟩) 4 4) 4 (ints D.1) := by
                rw [← HD.out]
                exact put_own hot 0 _
              have ct := own_get hot (k := 0) (by decide)
              have ft : wr.frozen? ⟨w1.heap.size, 0, none⟩ = false := hot.frozenAt 0
              have hbD : Below w1.heap.size w1 (wr.setCell ⟨w1.heap.size, 0, none⟩ (.int .i64 ((0 : Nat) : Int))) := hb2.setCell (Nat.le_refl _) _
              rw [HD.out] at HON
              clear hot hb2
              go_wp2_with fail
              go_loopw [9, 11] (fun a j wq => ∃ m : Nat, m ≤ 1 ∧ j = .int .i64 ((1 + m : Nat) : Int) ∧ a = .int .i64 ((0 + m : Nat) : Int) ∧ wq.ownsRow w1.heap.size 3 1 (.slice (some ⟨w1.heap.size, 0, none⟩) 4 4) 4 (ints (inP 2 vs 0 m D).1) ∧ Below w1.heap.size w1 wq) (fun _ j _ => 2 - (intOf j).toNat)
              case atStart => exact ⟨0, Nat.zero_le _, by go_num, by go_num, hD, hbD⟩
              case round =>
                clear hD hbD ct ft
                obtain ⟨m, hm, rfl, rfl, hot, hb2⟩ := hrel
                by_cases hl2 : m < 1
                · rcases (show m = 0 by omega) with rfl
                  · obtain ⟨T, HT⟩ : ∃ T, Hid (inP 2 vs 0 0 D = T) := ⟨_, rfl⟩
                    rw [HT.out] at hot
                    obtain ⟨v, HVV⟩ : ∃ v, Hid (vs.getD 0 0 = v) := ⟨_, rfl⟩
                    have cv : wr.cell? ⟨gv, 0, none⟩ = some (.int .i64 v) := by rw [← HVV.out]; exact keepc hb2 (own_get hov (by decide))
                    have ct1 := own_get hot (k := 1) (by decide)
                    have ct2 := own_get hot (k := 2) (by decide)
                    have f1 : wr.frozen? ⟨w1.heap.size, 1, none⟩ = false := hot.frozenAt 1
                    have f2 : wr.frozen? ⟨w1.heap.size, 2, none⟩ = false := hot.frozenAt 2
                    have HT2 : Hid (T.2 = 0) := by show _ = _; rw [← HT.out, inP_at, HD2.out]
                    have HNX : Hid ((inP 2 vs 0 (0 + 1) D).1 = (T.1.set 1 v).set 2 v) := by
                      show _ = _
                      rw [inP, HT.out]
                      unfold putP
                      rw [HT2.out, HVV.out]
                    have HST : Hid (((wr.setCell ⟨w1.heap.size, 1, none⟩ (.int .i64 v)).setCell ⟨w1.heap.size, 2, none⟩ (.int .i64 v)).ownsRow w1.heap.size 3 1 (.slice (some ⟨w1.heap.size, 0, none⟩) 4 4) 4 (ints (inP 2 vs 0 (0 + 1) D).1)) := by
                      rw [HNX.out]
                      exact put_own (put_own hot 1 v) 2 v
                    clear hot
                    go_wp2_with fail
                    go_roundw
                    case rel => exact ⟨0 + 1, by omega, by go_num, by go_num, HST.out, (hb2.setCell (Nat.le_refl _) _).setCell (Nat.le_refl _) _⟩
                    case measure => simp [intOf]
                · obtain rfl : m = 1 := by omega
                  have HO := Lib.hid hot
                  clear hot
                  go_wp2_with fail
                  go_roundw
                  case rel =>
                    first
                    | exact ⟨0 + 1, by omega, by go_num, by rw [HAN.out], by rw [HON.out]; exact HO.out, hb2⟩
                    | ((repeat apply Exists.intro); refine ⟨?_, rfl⟩; exact ⟨0 + 1, by omega, by go_num, by rw [HAN.out], by rw [HON.out]; exact HO.out, hb2⟩)
                  case measure => simp [intOf]
            · obtain rfl : 4 = L := HL.out
              obtain rfl : 1 = p := HP.out
              obtain rfl : 1 = a0 := HA0.out
              obtain ⟨D, HD⟩ : ∃ D, Hid (dgP 2 1 S = D) := ⟨_, rfl⟩
              have HD2 : Hid (D.2 = 1) := by show _ = _; rw [← HD.out]; exact HAT.out
              have hD : (wr.setCell ⟨w1.heap.size, 3, none⟩ (.int .i64 ((1 : Nat) : Int))).ownsRow w1.heap.size 3 1 (.slice (some ⟨w1.heap.size, 0, none⟩) 4 4) 4 (ints D.1) := by
                rw [← HD.out]
                exact put_own hot 3 _
              have ct := own_get hot (k := 3) (by decide)
              have ft : wr.frozen? ⟨w1.heap.size, 3, none⟩ = false := hot.frozenAt 3
              have hbD : Below w1.heap.size w1 (wr.setCell ⟨w1.heap.size, 3, none⟩ (.int .i64 ((1 : Nat) : Int))) := hb2.setCell (Nat.le_refl _) _
              rw [HD.out] at HON
              clear hot hb2
              go_wp2_with fail
              go_loopw [9, 11] (fun a j wq => ∃ m : Nat, m ≤ 0 ∧ j = .int .i64 ((2 + m : Nat) : Int) ∧ a = .int .i64 ((1 + m : Nat) : Int) ∧ wq.ownsRow w1.heap.size 3 1 (.slice (some ⟨w1.heap.size, 0, none⟩) 4 4) 4 (ints (inP 2 vs 1 m D).1) ∧ Below w1.heap.size w1 wq) (fun _ j _ => 2 - (intOf j).toNat)
              case atStart => exact ⟨0, Nat.zero_le _, by go_num, by go_num, hD, hbD⟩
              case round =>
                clear hD hbD ct ft
                obtain ⟨m, hm, rfl, rfl, hot, hb2⟩ := hrel
                by_cases hl2 : m < 0
                · omega
                · obtain rfl : m = 0 := by omega
                  have HO := Lib.hid hot
                  clear hot
                  go_wp2_with fail
                  go_roundw
                  case rel =>
                    first
                    | exact ⟨1 + 1, by omega, by go_num, by rw [HAN.out], by rw [HON.out]; exact HO.out, hb2⟩
                    | ((repeat apply Exists.intro); refine ⟨?_, rfl⟩; exact ⟨1 + 1, by omega, by go_num, by rw [HAN.out], by rw [HON.out]; exact HO.out, hb2⟩)
                  case measure => simp [intOf]
            · obtain rfl : 9 = L := HL.out
              obtain rfl : 3 = p := HP.out
              obtain rfl : 0 = a0 := HA0.out
              obtain ⟨D, HD⟩ : ∃ D, Hid (dgP 3 0 S = D) := ⟨_, rfl⟩
              have HD2 : Hid (D.2 = 0) := by show _ = _; rw [← HD.out]; exact HAT.out
              have hD : (wr.setCell ⟨w1.heap.size, 0, none⟩ (.int .i64 ((0 : Nat) : Int))).ownsRow w1.heap.size 3 1 (.slice (some ⟨w1.heap.size, 0, none⟩) 9 9) 9 (ints D.1) := by
                rw [← HD.out]
                exact put_own hot 0 _
              have ct := own_get hot (k := 0) (by decide)
              have ft : wr.frozen? ⟨w1.heap.size, 0, none⟩ = false := hot.frozenAt 0
              have hbD : Below w1.heap.size w1 (wr.setCell ⟨w1.heap.size, 0, none⟩ (.int .i64 ((0 : Nat) : Int))) := hb2.setCell (Nat.le_refl _) _
              rw [HD.out] at HON
              clear hot hb2
              go_wp2_with fail
              go_loopw [9, 11] (fun a j wq => ∃ m : Nat, m ≤ 2 ∧ j = .int .i64 ((1 + m : Nat) : Int) ∧ a = .int .i64 ((0 + m : Nat) : Int) ∧ wq.ownsRow w1.heap.size 3 1 (.slice (some ⟨w1.heap.size, 0, none⟩) 9 9) 9 (ints (inP 3 vs 0 m D).1) ∧ Below w1.heap.size w1 wq) (fun _ j _ => 3 - (intOf j).toNat)
              case atStart => exact ⟨0, Nat.zero_le _, by go_num, by go_num, hD, hbD⟩
              case round =>
                clear hD hbD ct ft
                obtain ⟨m, hm, rfl, rfl, hot, hb2⟩ := hrel
                by_cases hl2 : m < 2
                · rcases (show m = 0 ∨ m = 1 by omega) with rfl | rfl
                  · obtain ⟨T, HT⟩ : ∃ T, Hid (inP 3 vs 0 0 D = T) := ⟨_, rfl⟩
                    rw [HT.out] at hot
                    obtain ⟨v, HVV⟩ : ∃ v, Hid (vs.getD 0 0 = v) := ⟨_, rfl⟩
                    have cv : wr.cell? ⟨gv, 0, none⟩ = some (.int .i64 v) := by rw [← HVV.out]; exact keepc hb2 (own_get hov (by decide))
                    have ct1 := own_get hot (k := 1) (by decide)
                    have ct2 := own_get hot (k := 3) (by decide)
                    have f1 : wr.frozen? ⟨w1.heap.size, 1, none⟩ = false := hot.frozenAt 1
                    have f2 : wr.frozen? ⟨w1.heap.size, 3, none⟩ = false := hot.frozenAt 3
                    have HT2 : Hid (T.2 = 0) := by show _ = _; rw [← HT.out, inP_at, HD2.out]
                    have HNX : Hid ((inP 3 vs 0 (0 + 1) D).1 = (T.1.set 1 v).set 3 v) := by
                      show _ = _
                      rw [inP, HT.out]
                      unfold putP
                      rw [HT2.out, HVV.out]
                    have HST : Hid (((wr.setCell ⟨w1.heap.size, 1, none⟩ (.int .i64 v)).setCell ⟨w1.heap.size, 3, none⟩ (.int .i64 v)).ownsRow w1.heap.size 3 1 (.slice (some ⟨w1.heap.size, 0, none⟩) 9 9) 9 (ints (inP 3 vs 0 (0 + 1) D).1)) := by
                      rw [HNX.out]
                      exact put_own (put_own hot 1 v) 3 v
                    clear hot
                    go_wp2_with fail
                    go_roundw
                    case rel => exact ⟨0 + 1, by omega, by go_num, by go_num, HST.out, (hb2.setCell (Nat.le_refl _) _).setCell (Nat.le_refl _) _⟩
                    case measure => simp [intOf]
                  · obtain ⟨T, HT⟩ : ∃ T, Hid (inP 3 vs 0 1 D = T) := ⟨_, rfl⟩
                    rw [HT.out] at hot
                    obtain ⟨v, HVV⟩ : ∃ v, Hid (vs.getD 1 0 = v) := ⟨_, rfl⟩
                    have cv : wr.cell? ⟨gv, 1, none⟩ = some (.int .i64 v) := by rw [← HVV.out]; exact keepc hb2 (own_get hov (by decide))
                    have ct1 := own_get hot (k := 2) (by decide)
                    have ct2 := own_get hot (k := 6) (by decide)
                    have f1 : wr.frozen? ⟨w1.heap.size, 2, none⟩ = false := hot.frozenAt 2
                    have f2 : wr.frozen? ⟨w1.heap.size, 6, none⟩ = false := hot.frozenAt 6
                    have HT2 : Hid (T.2 = 1) := by show _ = _; rw [← HT.out, inP_at, HD2.out]
                    have HNX : Hid ((inP 3 vs 0 (1 + 1) D).1 = (T.1.set 2 v).set 6 v) := by
                      show _ = _
                      rw [inP, HT.out]
                      unfold putP
                      rw [HT2.out, HVV.out]
                    have HST : Hid (((wr.setCell ⟨w1.heap.size, 2, none⟩ (.int .i64 v)).setCell ⟨w1.heap.size, 6, none⟩ (.int .i64 v)).ownsRow w1.heap.size 3 1 (.slice (some ⟨w1.heap.size, 0, none⟩) 9 9) 9 (ints (inP 3 vs 0 (1 + 1) D).1)) := by
                      rw [HNX.out]
                      exact put_own (put_own hot 2 v) 6 v
                    clear hot
                    go_wp2_with fail
                    go_roundw
                    case rel => exact ⟨1 + 1, by omega, by go_num, by go_num, HST.out, (hb2.setCell (Nat.le_refl _) _).setCell (Nat.le_refl _) _⟩
                    case measure => simp [intOf]
                · obtain rfl : m = 2 := by omega
                  have HO := Lib.hid hot
                  clear hot
                  go_wp2_with fail
                  go_roundw
                  case rel =>
                    first
                    | exact ⟨0 + 1, by omega, by go_num, by rw [HAN.out], by rw [HON.out]; exact HO.out, hb2⟩
                    | ((repeat apply Exists.intro); refine ⟨?_, rfl⟩; exact ⟨0 + 1, by omega, by go_num, by rw [HAN.out], by rw [HON.out]; exact HO.out, hb2⟩)
                  case measure => simp [intOf]
            · obtain rfl : 9 = L := HL.out
              obtain rfl : 3 = p := HP.out
              obtain rfl : 2 = a0 := HA0.out
              obtain ⟨D, HD⟩ : ∃ D, Hid (dgP 3 1 S = D) := ⟨_, rfl⟩
              have HD2 : Hid (D.2 = 2) := by show _ = _; rw [← HD.out]; exact HAT.out
              have hD : (wr.setCell ⟨w1.heap.size, 4, none⟩ (.int .i64 ((1 : Nat) : Int))).ownsRow w1.heap.size 3 1 (.slice (some ⟨w1.heap.size, 0, none⟩) 9 9) 9 (ints D.1) := by
                rw [← HD.out]
                exact put_own hot 4 _
              have ct := own_get hot (k := 4) (by decide)
              have ft : wr.frozen? ⟨w1.heap.size, 4, none⟩ = false := hot.frozenAt 4
              have hbD : Below w1.heap.size w1 (wr.setCell ⟨w1.heap.size, 4, none⟩ (.int .i64 ((1 : Nat) : Int))) := hb2.setCell (Nat.le_refl _) _
              rw [HD.out] at HON
              clear hot hb2
              go_wp2_with fail
              go_loopw [9, 11] (fun a j wq => ∃ m : Nat, m ≤ 1 ∧ j = .int .i64 ((2 + m : Nat) : Int) ∧ a = .int .i64 ((2 + m : Nat) : Int) ∧ wq.ownsRow w1.heap.size 3 1 (.slice (some ⟨w1.heap.size, 0, none⟩) 9 9) 9 (ints (inP 3 vs 1 m D).1) ∧ Below w1.heap.size w1 wq) (fun _ j _ => 3 - (intOf j).toNat)
              case atStart => exact ⟨0, Nat.zero_le _, by go_num, by go_num, hD, hbD⟩
              case round =>
                clear hD hbD ct ft
                obtain ⟨m, hm, rfl, rfl, hot, hb2⟩ := hrel
                by_cases hl2 : m < 1
                · rcases (show m = 0 by omega) with rfl
                  · obtain ⟨T, HT⟩ : ∃ T, Hid (inP 3 vs 1 0 D = T) := ⟨_, rfl⟩
                    rw [HT.out] at hot
                    obtain ⟨v, HVV⟩ : ∃ v, Hid (vs.getD 2 0 = v) := ⟨_, rfl⟩
                    have cv : wr.cell? ⟨gv, 2, none⟩ = some (.int .i64 v) := by rw [← HVV.out]; exact keepc hb2 (own_get hov (by decide))
                    have ct1 := own_get hot (k := 5) (by decide)
                    have ct2 := own_get hot (k := 7) (by decide)
                    have f1 : wr.frozen? ⟨w1.heap.size, 5, none⟩ = false := hot.frozenAt 5
                    have f2 : wr.frozen? ⟨w1.heap.size, 7, none⟩ = false := hot.frozenAt 7
                    have HT2 : Hid (T.2 = 2) := by show _ = _; rw [← HT.out, inP_at, HD2.out]
                    have HNX : Hid ((inP 3 vs 1 (0 + 1) D).1 = (T.1.set 5 v).set 7 v) := by
                      show _ = _
                      rw [inP, HT.out]
                      unfold putP
                      rw [HT2.out, HVV.out]
                    have HST : Hid (((wr.setCell ⟨w1.heap.size, 5, none⟩ (.int .i64 v)).setCell ⟨w1.heap.size, 7, none⟩ (.int .i64 v)).ownsRow w1.heap.size 3 1 (.slice (some ⟨w1.heap.size, 0, none⟩) 9 9) 9 (ints (inP 3 vs 1 (0 + 1) D).1)) := by
                      rw [HNX.out]
                      exact put_own (put_own hot 5 v) 7 v
                    clear hot
                    go_wp2_with fail
                    go_roundw
                    case rel => exact ⟨0 + 1, by omega, by go_num, by go_num, HST.out, (hb2.setCell (Nat.le_refl _) _).setCell (Nat.le_refl _) _⟩
                    case measure => simp [intOf]
                · obtain rfl : m = 1 := by omega
                  have HO := Lib.hid hot
                  clear hot
                  go_wp2_with fail
                  go_roundw
                  case rel =>
                    first
                    | exact ⟨1 + 1, by omega, by go_num, by rw [HAN.out], by rw [HON.out]; exact HO.out, hb2⟩
                    | ((repeat apply Exists.intro); refine ⟨?_, rfl⟩; exact ⟨1 + 1, by omega, by go_num, by rw [HAN.out], by rw [HON.out]; exact HO.out, hb2⟩)
                  case measure => simp [intOf]
            · obtain rfl : 9 = L := HL.out
              obtain rfl : 3 = p := HP.out
              obtain rfl : 3 = a0 := HA0.out
              obtain ⟨D, HD⟩ : ∃ D, Hid (dgP 3 2 S = D) := ⟨_, rfl⟩
              have HD2 : Hid (D.2 = 3) := by show _ = _; rw [← HD.out]; exact HAT.out
              have hD : (wr.setCell ⟨w1.heap.size, 8, none⟩ (.int .i64 ((2 : Nat) : Int))).ownsRow w1.heap.size 3 1 (.slice (some ⟨w1.heap.size, 0, none⟩) 9 9) 9 (ints D.1) := by
                rw [← HD.out]
                exact put_own hot 8 _
              have ct := own_get hot (k := 8) (by decide)
              have ft : wr.frozen? ⟨w1.heap.size, 8, none⟩ = false := hot.frozenAt 8
              have hbD : Below w1.heap.size w1 (wr.setCell ⟨w1.heap.size, 8, none⟩ (.int .i64 ((2 : Nat) : Int))) := hb2.setCell (Nat.le_refl _) _
              rw [HD.out] at HON
              clear hot hb2
              go_wp2_with fail
              go_loopw [9, 11] (fun a j wq => ∃ m : Nat, m ≤ 0 ∧ j = .int .i64 ((3 + m : Nat) : Int) ∧ a = .int .i64 ((3 + m : Nat) : Int) ∧ wq.ownsRow w1.heap.size 3 1 (.slice (some ⟨w1.heap.size, 0, none⟩) 9 9) 9 (ints (inP 3 vs 2 m D).1) ∧ Below w1.heap.size w1 wq) (fun _ j _ => 3 - (intOf j).toNat)
              case atStart => exact ⟨0, Nat.zero_le _, by go_num, by go_num, hD, hbD⟩
              case round =>
                clear hD hbD ct ft
                obtain ⟨m, hm, rfl, rfl, hot, hb2⟩ := hrel
                by_cases hl2 : m < 0
                · omega
                · obtain rfl : m = 0 := by omega
                  have HO := Lib.hid hot
                  clear hot
                  go_wp2_with fail
                  go_roundw
                  case rel =>
                    first
                    | exact ⟨2 + 1, by omega, by go_num, by rw [HAN.out], by rw [HON.out]; exact HO.out, hb2⟩
                    | ((repeat apply Exists.intro); refine ⟨?_, rfl⟩; exact ⟨2 + 1, by omega, by go_num, by rw [HAN.out], by rw [HON.out]; exact HO.out, hb2⟩)
                  case measure => simp [intOf]
          · obtain rfl : x = n := by omega
            have hxx : ¬ (x : Int) < (x : Int) := by omega
            have hT1 : RdL RI wr (some ⟨w1.heap.size, 0, none⟩) L (idT x k) := by rw [← HR.out]; exact rd_of_own (R := RI) hot (RI_ints HB.out)
            have T2 := below_next T1 hb2 rfl
            obtain ⟨wa, hwa⟩ : ∃ wa, wa = wr.alloc (.cells #[.int .i64 2, .slice (some ⟨w1.heap.size, 0, none⟩) L L] 102) := ⟨_, rfl⟩
            have hba : Below wr.heap.size wr wa := by rw [hwa]; exact below_box _ _
            have hza : wa.heap.size = wr.heap.size + 1 := by rw [hwa]; simp
            have BA : Blk wa wr.heap.size 102 #[.int .i64 ((2 : Nat) : Int), .slice (some ⟨w1.heap.size, 0, none⟩) L L] := by rw [hwa]; exact Blk.new _ _ _
            obtain ⟨wb, hwb⟩ : ∃ wb, wb = wa.alloc (.cells #[.int .i64 (x : Int), .slice (some ⟨wr.heap.size, 0, none⟩) 1 1] 41) := ⟨_, rfl⟩
            have hbb : Below wa.heap.size wa wb := by rw [hwb]; exact below_box _ _
            have BX : Blk wb (wr.heap.size + 1) 41 #[.int .i64 (x : Int), .slice (some ⟨wr.heap.size, 0, none⟩) 1 1] := by rw [hwb, ← hza]; exact Blk.new _ _ _
            have T3 := below_next (below_next T2 hba rfl) hbb rfl
            have hal : shAlgebra.rd wb [.int .i64 (x : Int), .slice (some ⟨wr.heap.size, 0, none⟩) 1 1] y := by
              rw [← HY.out]
              exact shAlgebra.stab (rdFam (tab := idT x) BA (by omega) (by omega) (hT1.next stab_RI hba)) hbb.block
            have HWB : Hid (wb = (wr.alloc (.cells #[.int .i64 2, .slice (some ⟨w1.heap.size, 0, none⟩) L L] 102)).alloc (.cells #[.int .i64 (x : Int), .slice (some ⟨wr.heap.size, 0, none⟩) 1 1] 41)) := by show _ = _; rw [hwb, hwa]
            have HC1 : ∀ wz, Below wb.heap.size wb wz → Calls Try.prog 81 #[.agg #[.int .i64 (x : Int), .slice (some ⟨wr.heap.size, 0, none⟩) 1 1]] wz (fun e w' => ∃ V L vc, e = .returned (.agg #[.int .i64 (canA y).1, .slice V L vc]) ∧ FormR y wz V L vc w') := fun wz hz => formR (shAlgebra.stab hal hz.block) HSM.out
            have HC2 : ∀ wz V L vc, Below wb.heap.size wb wz → shAlgebra.rd wz [.int .i64 (canA y).1, .slice V L vc] (canA y) → Calls Try.prog 80 #[.agg #[.int .i64 (canA y).1, .slice V L vc], .agg #[.int .i64 (x : Int), .slice (some ⟨wr.heap.size, 0, none⟩) 1 1]] wz (Bl wz (.bool sv)) := fun wz V L vc hz hr => by
              have := l31Same_any [.int .i64 (canA y).1, .slice V L vc] [.int .i64 (x : Int), .slice (some ⟨wr.heap.size, 0, none⟩) 1 1] (canA y) y wz hr (shAlgebra.stab hal hz.block) HSC.out HSM.out
              rw [HSV.out] at this
              exact this
            have cX0 := BX.cell 0
            have cX1 := BX.cell 1
            simp at cX0 cX1
            have Tk : Below wb.heap.size wb wb := Below.refl _ _
            clear hwa hwb hba hbb hza BA hal hT1 hot hb2
            go_upto_region 22 with fail
            rw [← HWB.out]
            go_cut [88] from 21 to 90 (fun v28 wx => v28 = .bool sv ∧ Below wb.heap.size wb wx)
            case first =>
              go_region_held3 (fun w' => w'.cell? ⟨wr.heap.size + 1, 0, none⟩ = some (.int .i64 (x : Int)) ∧ w'.cell? ⟨wr.heap.size + 1, 1, none⟩ = some (.slice (some ⟨wr.heap.size, 0, none⟩) 1 1)) (first | go_keep | exact ⟨keepc Tk cX0, keepc Tk cX1⟩) (first
                | (go_at_call 81; (with_reducible refine (HC1 _ ?_).mono ?_); (first | exact Tk | exact Below.drew Tk); rintro e wn ⟨V, Lx, vc, rfl, hFr, hbn⟩; replace Tk := below_next (by first | exact Tk | exact Below.drew Tk) hbn rfl)
                | (go_at_call 80; refine (HC2 _ _ _ _ (by first | exact Tk | exact Below.drew Tk) (by first | exact hFr | exact shAlgebra.stab hFr (fun _ _ => rfl))).mono ?_; rintro e wm ⟨rfl, hbm⟩; replace Tk := below_next (by first | exact Tk | exact Below.drew Tk) hbm rfl))
              all_goals
                go_wp2_with fail
                go_meet
                exact ⟨rfl, by first | exact Tk | exact Below.drew Tk⟩
            case rest =>
              obtain ⟨rfl, hTc⟩ := hcut
              have T4 := below_next T3 hTc rfl
              clear cX0 cX1 HC1 HC2 Tk
              rcases sv with _ | _
              · have HS2 : Hid (famT x 2 (idT x) (k + 1) = fk) := HSUC.out
                go_wp2_with fail
                go_roundw
                case rel => exact ⟨k + 1, by omega, by go_num, by rw [HS2.out], T4⟩
                case measure => simp [intOf]; omega
              · have HS2 : Hid (famT x 2 (idT x) (k + 1) = fk + 1) := HSUC.out
                go_wp2_with fail
                go_roundw
                case rel => exact ⟨k + 1, by omega, by go_num, by rw [HS2.out]; go_num, T4⟩
                case measure => simp [intOf]; omega
      · obtain rfl : k = N := by omega
        have hk1 : ¬ (k : Int) < (k : Int) := by omega
        have HE : Hid (famC n 2 k (idT n) = fk) := HFK.out
        go_wp2_with (go_at_call 78; refine (l2Pow_any n p k _ HNP.out (by omega) (by omega)).mono ?_; rintro e w' ⟨rfl, rfl⟩)
        go_ret2
        exact ⟨by rw [HE.out]; rfl, hT⟩
end Go.Proofs.Ytppnmpeicmlneaa
