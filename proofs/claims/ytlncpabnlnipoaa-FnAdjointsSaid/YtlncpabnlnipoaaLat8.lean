
/- Walks: the reference's test of a lattice, LeastFixedPoint. -/
import Derived.Test.YtlncpabnlnipoaaLat7
namespace Go.Proofs.Ytlncpabnlnipoaa
open Go.RowKit

theorem RI_two {x y : Nat} {n : Nat} (hx : x < n) (hy : y < n) (hn : n ≤ 1048576) {w : World} : ∀ v ∈ [(x : Int), (y : Int)], RI w (.int .i64 v) v := by
  intro v hv
  simp at hv
  exact ⟨rfl, by omega, by omega⟩
theorem box_two (w : World) (x y n : Nat) (hx : x < n) (hy : y < n) (hn : n ≤ 1048576) : ∃ w3, w3 = w.alloc (.cells #[.int .i64 x, .int .i64 y] 3) ∧ Below w.heap.size w w3 ∧ RdL RI w3 (some ⟨w.heap.size, 0, none⟩) 2 [(x : Int), (y : Int)] := by
  refine ⟨_, rfl, below_box _ _, ?_⟩
  have ho : (w.alloc (.cells #[.int .i64 x, .int .i64 y] 3)).ownsRow w.heap.size 3 1 (.slice (some ⟨w.heap.size, 0, none⟩) 2 2) 2 (ints [(x : Int), (y : Int)]) := World.ownsRow_lit w #[.int .i64 x, .int .i64 y] 2 (Nat.le_refl _) (by decide) rfl
  exact rd_of_own (R := RI) ho (RI_two hx hy hn)
def PairOk (F : Nat → Nat → Bool) (n x y : Nat) : Prop := 0 ≤ mt F n x y ∧ 0 ≤ mt (duF F) n x y
theorem lat_pairs {F : Nat → Nat → Bool} {n : Nat} (hO : OrdP n F) (hn : n ≠ 0) : (∀ x < n, ∀ y < x, PairOk F n x y) ↔ LatP F n := by
  unfold LatP
  rw [← meet_pairs hO, ← meet_pairs (ord_du hO)]
  constructor
  · intro h
    exact ⟨hn, fun x hx y hy => (h x hx y hy).1, fun x hx y hy => (h x hx y hy).2⟩
  · rintro ⟨-, h1, h2⟩ x hx y hy
    exact ⟨h1 x hx y hy, h2 x hx y hy⟩

set_option maxRecDepth 20000 in
set_option maxHeartbeats 4000000 in
theorem l24Good_any (A : Option Addr) (n c : Nat) (xss : List (List Int)) (w : World) (h : RdL (RV RI) w A n xss) :
    Calls Try.prog 21 #[.agg #[.slice A n c]] w (Bl w (.bool (tt (GoodP xss ∧ LatP (leF xss) n)))) := by
  have hle := h.le
  have hb0 := below_box w (.cells #[.slice A n c] 26)
  have BX := Blk.new w 26 #[.slice A n c]
  have c0 := BX.c0
  have h0 := h.next stab_RVI hb0
  rcases h1 : tt (GoodP xss) with _ | _
  · have H1 := Lib.hid h1
    have HN : Hid (¬ (GoodP xss ∧ LatP (leF xss) n)) := fun hh => by rw [← tt_true hh.1] at h1; cases h1
    clear h1
    go_enter Try.func21, Try.ntmps21
    go_wp2_with fail
    refine (l23Good_any _ _ _ _ _ h0).mono ?_
    rintro e w2 ⟨rfl, hb1⟩
    rw [H1.out]
    have T1 := below_next hb0 hb1 rfl
    go_wp2_with fail
    go_ret
    exact ⟨ret_bool (tt_false HN.out), T1⟩
  · have hg := tt_iff.1 h1
    have HG := Lib.hid hg
    have H1 := Lib.hid h1
    have hn10 : n ≤ 10 := by rw [← h.len]; exact hg.1
    have HORD : Hid (OrdP n (leF xss)) := by show OrdP _ _; rw [← h.len]; exact hg.2.2
    clear h1 hg
    by_cases hn0 : n = 0
    · have HN : Hid (¬ (GoodP xss ∧ LatP (leF xss) n)) := fun hh => hh.2.1 hn0
      subst hn0
      go_enter Try.func21, Try.ntmps21
      go_wp2_with fail
      refine (l23Good_any _ _ _ _ _ h0).mono ?_
      rintro e w2 ⟨rfl, hb1⟩
      rw [H1.out]
      have cX := (BX.next hb1).c0
      have T1 := below_next hb0 hb1 rfl
      go_wp2_with fail
      go_ret
      exact ⟨ret_bool (tt_false HN.out), T1⟩
    · have hn0' : ¬ (n : Int) = 0 := by omega
      have HNE := Lib.hid hn0
      have hn1 : n ≤ 1048576 := by omega
      clear hn0
      go_enter Try.func21, Try.ntmps21
      go_wp2_with fail
      refine (l23Good_any _ _ _ _ _ h0).mono ?_
      rintro e w2 ⟨rfl, hb1⟩
      rw [H1.out]
      replace BX := BX.next hb1
      have cX := BX.c0
      have T1 := below_next hb0 hb1 rfl
      replace h0 := h0.next stab_RVI hb1
      clear hb1
      go_wp2_with fail
      refine (l23Dual_any _ _ _ _ _ h0 hn1).mono ?_
      rintro e w3 ⟨A2, c2, rfl, r2, hb2⟩
      replace BX := BX.next hb2
      have T3 := below_next T1 hb2 rfl
      replace h0 := h0.next stab_RVI hb2
      obtain ⟨w4, hw4, T4, hs4, BDu⟩ := boxes1a w3 #[.slice A2 n c2] 26
      have HW4 : Hid (w3.alloc (.cells #[.slice A2 n c2] 26) = w4) := hw4.symm
      replace BX := BX.next T4
      have T5 := below_next T3 T4 rfl
      replace h0 := h0.next stab_RVI T4
      replace r2 := r2.next stab_RVI T4
      clear hw4 hs4 c0 cX hb2
      go_wp2_with fail
      go_loopw [4] (fun i wr => ∃ k : Nat, k ≤ n ∧ i = .int .i64 k ∧ Hid (∀ x < k, ∀ y < x, PairOk (leF xss) n x y) ∧ Below w4.heap.size w4 wr) (fun i _ => n - (intOf i).toNat)
      case atStart =>
        rw [HW4.out]
        exact ⟨0, Nat.zero_le _, rfl, upto0, Below.refl _ _⟩
      case round =>
        obtain ⟨k, hk, rfl, HH, hT⟩ := hrel
        have cX := (BX.next hT).c0
        by_cases hlt : k < n
        · have hk0 : (0 : Int) ≤ (k : Int) := by omega
          have hk1 : (k : Int) < (n : Int) := by omega
          go_wp2_with fail
          clear cX
          go_loopw [5] (fun i wr => ∃ q : Nat, q ≤ k ∧ i = .int .i64 q ∧ Hid (∀ y < q, PairOk (leF xss) n k y) ∧ Below w4.heap.size w4 wr) (fun i _ => k - (intOf i).toNat)
          case atStart => exact ⟨0, Nat.zero_le _, rfl, upto0, hT⟩
          case round =>
            clear hT
            obtain ⟨q, hq, rfl, HQ, hT⟩ := hrel
            by_cases hltq : q < k
            · have hq0 : (0 : Int) ≤ (q : Int) := by omega
              have hq1 : (q : Int) < (k : Int) := by omega
              have hqn : q < n := by omega
              have cX := (BX.next hT).c0
              obtain ⟨w6, hw6, T6, R6⟩ := box_two wr k q n hlt hqn hn1
              have HW6 := Lib.hid hw6
              obtain ⟨V, HV⟩ : ∃ V, Hid (mt (leF xss) n k q = V) := ⟨_, rfl⟩
              have HG1 : Hid (grI (leF xss) (rowTo (alB (leF xss) [(k : Int), (q : Int)]) 0 n) = V) := by show _ = _; rw [alB_two]; exact HV.out
              have hin2 : ∀ x ∈ [(k : Int), (q : Int)], 0 ≤ x ∧ x ≤ (n : Int) - 1 := by intro x hx; simp at hx; omega
              have HIN2 := Lib.hid hin2
              have h6 := (h0.next stab_RVI hT).next stab_RVI T6
              clear hw6 hin2
              go_wp2_with fail
              rw [← HW6.out]
              refine (l24Bound_any _ _ _ _ _ _ _ _ _ h6 R6 HIN2.out hn1).mono ?_
              rintro e w7 ⟨rfl, hb7⟩
              rw [HG1.out]
              have hT7 := below_next hT (below_next T6 hb7 rfl) rfl
              by_cases hv : V < 0
              · have HNO : Hid (¬ (GoodP xss ∧ LatP (leF xss) n)) := fun hh => by
                  have := ((lat_pairs HORD.out HNE.out).2 hh.2 k hlt q hltq).1
                  rw [HV.out] at this
                  omega
                go_wp2_with fail
                go_ret
                exact ⟨ret_bool (tt_false HNO.out), below_next T5 hT7 rfl⟩
              · have cD := (BDu.next hT7).c0
                clear cX
                obtain ⟨w8, hw8, T8, R8⟩ := box_two w7 k q n hlt hqn hn1
                have HW8 := Lib.hid hw8
                obtain ⟨V2, HV2⟩ : ∃ V, Hid (mt (duF (leF xss)) n k q = V) := ⟨_, rfl⟩
                have HG2 : Hid (grI (leF (posTo n (duF (leF xss)) n)) (rowTo (alB (leF (posTo n (duF (leF xss)) n)) [(k : Int), (q : Int)]) 0 n) = V2) := by
                  show _ = _
                  rw [alB_two, ← HV2.out]
                  exact mt_congr (fun x hx y hy => leF_pos hx hy) hlt hqn
                have h8 := (r2.next stab_RVI hT7).next stab_RVI T8
                clear hw8
                go_wp2_with fail
                rw [← HW8.out]
                refine (l24Bound_any _ _ _ _ _ _ _ _ _ h8 R8 HIN2.out hn1).mono ?_
                rintro e w9 ⟨rfl, hb9⟩
                rw [HG2.out]
                have hT9 := below_next hT7 (below_next T8 hb9 rfl) rfl
                clear cD
                by_cases hv2 : V2 < 0
                · have HNO : Hid (¬ (GoodP xss ∧ LatP (leF xss) n)) := fun hh => by
                    have := ((lat_pairs HORD.out HNE.out).2 hh.2 k hlt q hltq).2
                    rw [HV2.out] at this
                    omega
                  go_wp2_with fail
                  go_ret
                  exact ⟨ret_bool (tt_false HNO.out), below_next T5 hT9 rfl⟩
                · go_wp2_with fail
                  go_roundw
                  case rel => exact ⟨q + 1, by omega, by go_num, upto HQ.out ⟨by rw [HV.out]; omega, by rw [HV2.out]; omega⟩, hT9⟩
                  case measure => simp [intOf]; omega
            · obtain rfl : q = k := by omega
              have hlt' : ¬ (q : Int) < (q : Int) := by omega
              have HE : Hid (∀ y < q, PairOk (leF xss) n q y) := HQ
              go_wp2_with fail
              go_roundw
              case rel => exact ⟨q + 1, by omega, by go_num, upto HH.out HE.out, hT⟩
              case measure => simp [intOf]; omega
        · obtain rfl : k = n := by omega
          have hlt' : ¬ (k : Int) < (k : Int) := by omega
          have HY : Hid (GoodP xss ∧ LatP (leF xss) k) := ⟨HG.out, (lat_pairs HORD.out HNE.out).1 HH.out⟩
          go_wp2_with fail
          go_ret
          exact ⟨ret_bool (tt_true HY.out), below_next T5 hT rfl⟩
end Go.Proofs.Ytlncpabnlnipoaa
