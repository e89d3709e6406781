
/- Walks: the tables that CountIdempotent of the program lists. -/
import Derived.Test.YtppnmpeicmlneaaIdm1
import Derived.BigRegion
namespace Go.Proofs.Ytppnmpeicmlneaa
open Go.RowKit

theorem own_get {w : World} {base g L c : Nat} {T : List Int} (h : w.ownsRow base 3 1 (.slice (some ⟨g, 0, none⟩) L c) L (ints T)) {k : Nat} (hk : k < L) : w.cell? ⟨g, k, none⟩ = some (.int .i64 (T.getD k 0)) := by
  have hl : (ints T).length = L := by have := h.1; omega
  rw [ints_len] at hl
  rw [h.cellAt k (by omega)]
  unfold ints
  rw [List.getElem?_map, List.getElem?_eq_getElem (by omega)]
  simp [List.getD, List.getElem?_eq_getElem (show k < T.length by omega)]
theorem put_own {w : World} {base g L c : Nat} {T : List Int} (h : w.ownsRow base 3 1 (.slice (some ⟨g, 0, none⟩) L c) L (ints T)) (P : Nat) (v : Int) :
    (w.setCell ⟨g, P, none⟩ (.int .i64 v)).ownsRow base 3 1 (.slice (some ⟨g, 0, none⟩) L c) L (ints (T.set P v)) := by
  have := (h.stored P (.int .i64 v)).1
  rwa [ints_set] at this
set_option maxRecDepth 100000 in
set_option maxHeartbeats 4000000 in
theorem idTab (i n p L ga gb : Nat) (w : World) (hca : w.cell? ⟨ga, 0, none⟩ = some (.int .i64 (p : Int))) (hcb : w.cell? ⟨gb, 0, none⟩ = some (.int .i64 (n : Int))) (h1 : 1 ≤ n) (h3 : n ≤ 3) (hp : Hid (prs n = p)) (hL : Hid (n * n = L)) (hi : i < n ^ prs n) :
    Calls Try.prog 86 #[.int .i64 (i : Int), .pointer (some ⟨ga, 0, none⟩), .pointer (some ⟨gb, 0, none⟩)] w fun e w' => ∃ A c, e = .returned (.slice A L c) ∧ RdL RI w' A L (idT n i) ∧ Below w.heap.size w w' := by
  have hp3 : p ≤ 3 := by
    rw [← hp.out]
    obtain rfl | rfl | rfl : n = 1 ∨ n = 2 ∨ n = 3 := by omega
    all_goals decide
  have hL9 : L ≤ 9 := by rw [← hL.out]; exact Nat.le_trans (Nat.mul_le_mul h3 h3) (by decide)
  obtain ⟨vs, HV⟩ : ∃ vs, Hid (idV n i = vs) := ⟨_, rfl⟩
  have HV2 : Hid (nats (digs n p i) = vs) := by show _ = _; rw [← HV.out, ← hp.out]; rfl
  obtain ⟨s0, HS0⟩ : ∃ s : List Int × Nat, Hid ((idmT n n (List.replicate L (-1)), 0) = s) := ⟨_, rfl⟩
  have HS1 : Hid (idmT n n (List.replicate L (-1)) = s0.1) := by show _ = _; rw [← HS0.out]
  have HR : Hid ((outP n vs n s0).1 = idT n i) := by show _ = _; unfold idT; rw [HV.out, hL.out, HS0.out]
  have HB : Hid (∀ v ∈ (outP n vs n s0).1, -9223372036854775808 ≤ v ∧ v ≤ 9223372036854775807) := by
    show ∀ v ∈ _, _
    rw [HR.out]
    intro v hv
    have := (idm_ok h1 h3).bd i hi v hv
    omega
  have hi9 : i ≤ 1000 := by
    have key : ∀ n, n ≤ 3 → n ^ prs n ≤ 27 := by decide
    have := key n h3
    omega
  clear hi
  go_enter Try.func86, Try.ntmps86
  go_upto_region 2 with (go_at_call 85; refine (argsAt_any i p n _ (by omega) (by omega) (by omega) (by omega)).mono ?_; rintro e w1 ⟨gv, rfl, hov, hb1⟩)
  rw [HV2.out] at hov
  have cb1 := keepc hb1 hcb
  go_upto_region 3 with (go_at_call 87; refine (idemTable_any n L _ h1 h3 hL).mono ?_; rintro e w2 ⟨g, rfl, hot, hb2⟩)
  rw [HS1.out] at hot
  go_wp2_with fail
  go_loopw [7, 8] (fun a j wr => ∃ x : Nat, x ≤ n ∧ j = .int .i64 x ∧ a = .int .i64 ((atO n x : Nat) : Int) ∧ wr.ownsRow w1.heap.size 3 1 (.slice (some ⟨g, 0, none⟩) L L) L (ints (outP n vs x s0).1) ∧ Below w1.heap.size w1 wr) (fun _ j _ => n - (intOf j).toNat)
  case atStart => exact ⟨0, Nat.zero_le _, rfl, rfl, hot, hb2⟩
  case round =>
    clear hot hb2
    obtain ⟨x, hx, rfl, rfl, hot, hb2⟩ := hrel
    have cn := keepc hb2 cb1
    by_cases hlt : x < n
    · have hx1 : (x : Int) < (n : Int) := by omega
      obtain ⟨S, HSS⟩ : ∃ S, Hid (outP n vs x s0 = S) := ⟨_, rfl⟩
      have HAT : Hid (S.2 = atO n x) := by
        show _ = _
        rw [← HSS.out, outP_at, ← HS0.out]
        exact Nat.zero_add _
      rw [HSS.out] at hot
      obtain ⟨a0, HA0⟩ : ∃ a, Hid (atO n x = a) := ⟨_, rfl⟩
      rw [HA0.out]
      have HAN : Hid (atO n (x + 1) = a0 + (n - 1 - x)) := by show _ = _; rw [atO, HA0.out]
      have HON : Hid (outP n vs (x + 1) s0 = inP n vs x (n - 1 - x) S) := by show _ = _; rw [outP, HSS.out]
      have ha0 : a0 ≤ 3 := by
        rw [← HA0.out]
        have key : ∀ n, n ≤ 3 → ∀ x, x < n → atO n x ≤ 3 := by decide
        exact key n h3 x hlt
      go_wp2_with fail
      go_loopw [7, 9] (fun a j wq => ∃ m : Nat, m ≤ n - 1 - x ∧ j = .int .i64 ((x + 1 + m : Nat) : Int) ∧ a = .int .i64 ((a0 + m : Nat) : Int) ∧ wq.ownsRow w1.heap.size 3 1 (.slice (some ⟨g, 0, none⟩) L L) L (ints (inP n vs x m S).1) ∧ Below w1.heap.size w1 wq) (fun _ j _ => n - (intOf j).toNat)
      case atStart => exact ⟨0, Nat.zero_le _, by go_num, by go_num, hot, hb2⟩
      case round =>
        clear hot hb2 cn
        obtain ⟨m, hm, rfl, rfl, hot, hb2⟩ := hrel
        have cn := keepc hb2 cb1
        by_cases hl2 : m < n - 1 - x
        · have hy1 : ((x + 1 + m : Nat) : Int) < (n : Int) := by omega
          rcases (show (n = 2 ∧ x = 0 ∧ m = 0) ∨ (n = 3 ∧ x = 0 ∧ m = 0) ∨ (n = 3 ∧ x = 0 ∧ m = 1) ∨ (n = 3 ∧ x = 1 ∧ m = 0) by omega) with ⟨rfl, rfl, rfl⟩ | ⟨rfl, rfl, rfl⟩ | ⟨rfl, rfl, rfl⟩ | ⟨rfl, rfl, rfl⟩
          · obtain rfl : 4 = L := hL.out
            obtain rfl : 1 = p := hp.out
            obtain rfl : 0 = a0 := HA0.out
            obtain ⟨T, HT⟩ : ∃ T, Hid (inP 2 vs 0 0 S = T) := ⟨_, rfl⟩
            rw [HT.out] at hot
            obtain ⟨v, HVV⟩ : ∃ v, Hid (vs.getD 0 0 = v) := ⟨_, rfl⟩
            have cv : wr.cell? ⟨gv, 0, none⟩ = some (.int .i64 v) := by rw [← HVV.out]; exact keepc hb2 (own_get hov (by decide))
            have ct1 := own_get hot (k := 1) (by decide)
            have ct2 := own_get hot (k := 2) (by decide)
            have f1 : wr.frozen? ⟨g, 1, none⟩ = false := hot.frozenAt 1
            have f2 : wr.frozen? ⟨g, 2, none⟩ = false := hot.frozenAt 2
            have hgl := (hot.lt g rfl).1
            have HT2 : Hid (T.2 = 0) := by show _ = _; rw [← HT.out, inP_at, HAT.out]; rfl
            have HNX : Hid ((inP 2 vs 0 (0 + 1) S).1 = (T.1.set 1 v).set 2 v) := by
              show _ = _
              rw [inP, HT.out]
              unfold putP
              rw [HT2.out, HVV.out]
            have HST : Hid (((wr.setCell ⟨g, 1, none⟩ (.int .i64 v)).setCell ⟨g, 2, none⟩ (.int .i64 v)).ownsRow w1.heap.size 3 1 (.slice (some ⟨g, 0, none⟩) 4 4) 4 (ints (inP 2 vs 0 (0 + 1) S).1)) := by
              rw [HNX.out]
              exact put_own (put_own hot 1 v) 2 v
            clear hot
            go_upto_region 10 with fail
            go_region
            clear cv ct1 ct2 f1 f2
            go_wp2_with fail
            go_roundw
            case rel => exact ⟨0 + 1, by omega, by go_num, by go_num, by exact HST.out, ((Below.drew hb2).setCell hgl _).setCell hgl _⟩
            case measure => simp [intOf]
          · obtain rfl : 9 = L := hL.out
            obtain rfl : 3 = p := hp.out
            obtain rfl : 0 = a0 := HA0.out
            obtain ⟨T, HT⟩ : ∃ T, Hid (inP 3 vs 0 0 S = T) := ⟨_, rfl⟩
            rw [HT.out] at hot
            obtain ⟨v, HVV⟩ : ∃ v, Hid (vs.getD 0 0 = v) := ⟨_, rfl⟩
            have cv : wr.cell? ⟨gv, 0, none⟩ = some (.int .i64 v) := by rw [← HVV.out]; exact keepc hb2 (own_get hov (by decide))
            have ct1 := own_get hot (k := 1) (by decide)
            have ct2 := own_get hot (k := 3) (by decide)
            have f1 : wr.frozen? ⟨g, 1, none⟩ = false := hot.frozenAt 1
            have f2 : wr.frozen? ⟨g, 3, none⟩ = false := hot.frozenAt 3
            have hgl := (hot.lt g rfl).1
            have HT2 : Hid (T.2 = 0) := by show _ = _; rw [← HT.out, inP_at, HAT.out]; rfl
            have HNX : Hid ((inP 3 vs 0 (0 + 1) S).1 = (T.1.set 1 v).set 3 v) := by
              show _ = _
              rw [inP, HT.out]
              unfold putP
              rw [HT2.out, HVV.out]
            have HST : Hid (((wr.setCell ⟨g, 1, none⟩ (.int .i64 v)).setCell ⟨g, 3, none⟩ (.int .i64 v)).ownsRow w1.heap.size 3 1 (.slice (some ⟨g, 0, none⟩) 9 9) 9 (ints (inP 3 vs 0 (0 + 1) S).1)) := by
              rw [HNX.out]
              exact put_own (put_own hot 1 v) 3 v
            clear hot
            go_upto_region 10 with fail
            go_region
            clear cv ct1 ct2 f1 f2
            go_wp2_with fail
            go_roundw
            case rel => exact ⟨0 + 1, by omega, by go_num, by go_num, by exact HST.out, ((Below.drew hb2).setCell hgl _).setCell hgl _⟩
            case measure => simp [intOf]
          · obtain rfl : 9 = L := hL.out
            obtain rfl : 3 = p := hp.out
            obtain rfl : 0 = a0 := HA0.out
            obtain ⟨T, HT⟩ : ∃ T, Hid (inP 3 vs 0 1 S = T) := ⟨_, rfl⟩
            rw [HT.out] at hot
            obtain ⟨v, HVV⟩ : ∃ v, Hid (vs.getD 1 0 = v) := ⟨_, rfl⟩
            have cv : wr.cell? ⟨gv, 1, none⟩ = some (.int .i64 v) := by rw [← HVV.out]; exact keepc hb2 (own_get hov (by decide))
            have ct1 := own_get hot (k := 2) (by decide)
            have ct2 := own_get hot (k := 6) (by decide)
            have f1 : wr.frozen? ⟨g, 2, none⟩ = false := hot.frozenAt 2
            have f2 : wr.frozen? ⟨g, 6, none⟩ = false := hot.frozenAt 6
            have hgl := (hot.lt g rfl).1
            have HT2 : Hid (T.2 = 1) := by show _ = _; rw [← HT.out, inP_at, HAT.out]; rfl
            have HNX : Hid ((inP 3 vs 0 (1 + 1) S).1 = (T.1.set 2 v).set 6 v) := by
              show _ = _
              rw [inP, HT.out]
              unfold putP
              rw [HT2.out, HVV.out]
            have HST : Hid (((wr.setCell ⟨g, 2, none⟩ (.int .i64 v)).setCell ⟨g, 6, none⟩ (.int .i64 v)).ownsRow w1.heap.size 3 1 (.slice (some ⟨g, 0, none⟩) 9 9) 9 (ints (inP 3 vs 0 (1 + 1) S).1)) := by
              rw [HNX.out]
              exact put_own (put_own hot 2 v) 6 v
            clear hot
            go_upto_region 10 with fail
            go_region
            clear cv ct1 ct2 f1 f2
            go_wp2_with fail
            go_roundw
            case rel => exact ⟨1 + 1, by omega, by go_num, by go_num, by exact HST.out, ((Below.drew hb2).setCell hgl _).setCell hgl _⟩
            case measure => simp [intOf]
          · obtain rfl : 9 = L := hL.out
            obtain rfl : 3 = p := hp.out
            obtain rfl : 2 = a0 := HA0.out
            obtain ⟨T, HT⟩ : ∃ T, Hid (inP 3 vs 1 0 S = T) := ⟨_, rfl⟩
            rw [HT.out] at hot
            obtain ⟨v, HVV⟩ : ∃ v, Hid (vs.getD 2 0 = v) := ⟨_, rfl⟩
            have cv : wr.cell? ⟨gv, 2, none⟩ = some (.int .i64 v) := by rw [← HVV.out]; exact keepc hb2 (own_get hov (by decide))
            have ct1 := own_get hot (k := 5) (by decide)
            have ct2 := own_get hot (k := 7) (by decide)
            have f1 : wr.frozen? ⟨g, 5, none⟩ = false := hot.frozenAt 5
            have f2 : wr.frozen? ⟨g, 7, none⟩ = false := hot.frozenAt 7
            have hgl := (hot.lt g rfl).1
            have HT2 : Hid (T.2 = 2) := by show _ = _; rw [← HT.out, inP_at, HAT.out]; rfl
            have HNX : Hid ((inP 3 vs 1 (0 + 1) S).1 = (T.1.set 5 v).set 7 v) := by
              show _ = _
              rw [inP, HT.out]
              unfold putP
              rw [HT2.out, HVV.out]
            have HST : Hid (((wr.setCell ⟨g, 5, none⟩ (.int .i64 v)).setCell ⟨g, 7, none⟩ (.int .i64 v)).ownsRow w1.heap.size 3 1 (.slice (some ⟨g, 0, none⟩) 9 9) 9 (ints (inP 3 vs 1 (0 + 1) S).1)) := by
              rw [HNX.out]
              exact put_own (put_own hot 5 v) 7 v
            clear hot
            go_upto_region 10 with fail
            go_region
            clear cv ct1 ct2 f1 f2
            go_wp2_with fail
            go_roundw
            case rel => exact ⟨0 + 1, by omega, by go_num, by go_num, by exact HST.out, ((Below.drew hb2).setCell hgl _).setCell hgl _⟩
            case measure => simp [intOf]
        · obtain rfl : m = n - 1 - x := by omega
          have hy1 : ¬ ((x + 1 + (n - 1 - x) : Nat) : Int) < (n : Int) := by omega
          go_wp2_with fail
          go_roundw
          case rel => exact ⟨x + 1, by omega, by go_num, by rw [HAN.out], by rw [HON.out]; exact hot, hb2⟩
          case measure => simp [intOf]; try omega
    · obtain rfl : x = n := by omega
      have hk1 : ¬ (x : Int) < (x : Int) := by omega
      have HO := Lib.hid hot
      clear hot
      go_wp2_with fail
      go_ret
      refine ⟨_, ⟨L, rfl⟩, ?_, below_next hb1 hb2 rfl⟩
      rw [← HR.out]
      exact rd_of_own (R := RI) HO.out (RI_ints HB.out)
end Go.Proofs.Ytppnmpeicmlneaa
