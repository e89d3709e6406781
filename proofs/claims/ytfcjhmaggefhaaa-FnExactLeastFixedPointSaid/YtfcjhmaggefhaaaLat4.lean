
/- Walks: the lattice of a poset, its bottom, LeastFixedPoint (the program's). -/
import Derived.Test.YtfcjhmaggefhaaaLat3
namespace Go.Proofs.Ytfcjhmaggefhaaa
open Go.RowKit

def LatE (w : World) (n : Nat) (xss : List (List Int)) (e : Ending) (w' : World) : Prop :=
  ∃ v, e = .returned (.tuple #[v, .bool (tt (GoodP xss ∧ LatP (leF xss) n))]) ∧ (GoodP xss ∧ LatP (leF xss) n → ∃ g A1 c1 A2 c2 A3 m3 c3, v = .pointer (some ⟨g, 0, none⟩) ∧ Blk w' g 94 #[.slice A1 n c1, .slice A2 n c2, .slice A3 m3 c3] ∧ RdL (RV RB) w' A1 n (tab n (leF xss)) ∧ RdL (RV RI) w' A2 n (mtTab (leF xss) n n)) ∧ Below w.heap.size w w'

set_option maxRecDepth 20000 in
set_option maxHeartbeats 2000000 in
theorem latticeOf_any (A : Option Addr) (n c : Nat) (xss : List (List Int)) (w : World) (h : RdL (RV RI) w A n xss) : Calls Try.prog 99 #[.agg #[.slice A n c]] w (LatE w n xss) := by
  have hle := h.le
  have hb0 := below_box w (.cells #[.slice A n c] 29)
  have BX := Blk.new w 29 #[.slice A n c]
  have c0 := BX.c0
  have h0 := h.next stab_RVI hb0
  rcases h1 : tt (GoodP xss) with _ | _
  · have H1 := Lib.hid h1
    have HN : Hid (¬ (GoodP xss ∧ LatP (leF xss) n)) := fun hh => by rw [← tt_true hh.1] at h1; cases h1
    clear h1
    go_enter Try.func99, Try.ntmps99
    go_wp2_with fail
    refine (orderOf_any _ _ _ _ _ h0).mono ?_
    rintro e w2 ⟨A1, m1, c1, rfl, -, hb1⟩
    rw [H1.out]
    have T1 := below_next hb0 hb1 rfl
    go_wp2_with fail
    go_ret2
    exact ⟨_, by rw [← tt_false HN.out]; rfl, fun hg => absurd hg HN.out, T1⟩
  · have hg := tt_iff.1 h1
    have HG := Lib.hid hg
    have H1 := Lib.hid h1
    have hn10 : n ≤ 10 := by rw [← h.len]; exact hg.1
    clear h1 hg
    by_cases hn0 : n = 0
    · have HN : Hid (¬ (GoodP xss ∧ LatP (leF xss) n)) := fun hh => hh.2.1 hn0
      subst hn0
      go_enter Try.func99, Try.ntmps99
      go_wp2_with fail
      refine (orderOf_any _ _ _ _ _ h0).mono ?_
      rintro e w2 ⟨A1, m1, c1, rfl, hr1, hb1⟩
      rw [H1.out]
      obtain ⟨rfl, -⟩ := hr1 HG.out
      have T1 := below_next hb0 hb1 rfl
      go_wp2_with fail
      go_ret2
      exact ⟨_, by rw [← tt_false HN.out]; rfl, fun hg => absurd hg HN.out, T1⟩
    · have hn0' : ¬ (n : Int) = 0 := by omega
      obtain ⟨F, HF⟩ : ∃ F, Hid (leF xss = F) := ⟨_, rfl⟩
      have HR : Hid (∀ a b, tt (MeetP F n) = a → tt (MeetP (duF F) n) = b → (a && b) = tt (GoodP xss ∧ LatP (leF xss) n)) := by
        intro a b ha hb
        rw [← ha, ← hb, HF.out, Bool.eq_iff_iff, Bool.and_eq_true, tt_iff, tt_iff, tt_iff]
        exact ⟨fun hh => ⟨HG.out, hn0, hh.1, hh.2⟩, fun hh => ⟨hh.2.2.1, hh.2.2.2⟩⟩
      have HNE := Lib.hid hn0
      clear hn0
      rcases ha : tt (MeetP F n) with _ | _
      all_goals
        rcases hb : tt (MeetP (duF F) n) with _ | _
        all_goals
          have HA := Lib.hid ha
          have HB := Lib.hid hb
          clear ha hb
          go_enter Try.func99, Try.ntmps99
          go_wp2_with fail
          refine (orderOf_any _ _ _ _ _ h0).mono ?_
          rintro e w2 ⟨A1, m1, c1, rfl, hr1, hb1⟩
          rw [H1.out]
          obtain ⟨rfl, r1⟩ := hr1 HG.out
          rw [HF.out] at r1
          have T1 := below_next hb0 hb1 rfl
          clear hr1 hb1
          go_wp2_with fail
          refine (meetTable_any _ _ _ F _ r1 (by omega)).mono ?_
          rintro e w3 ⟨A2, m2, c2, rfl, hr2, hb2⟩
          rw [HA.out]
          have HR2 := Lib.hid hr2
          have T2 := below_next T1 hb2 rfl
          replace r1 := r1.next stab_RVB hb2
          clear hr2
          go_wp2_with fail
          refine (dual_any _ _ _ F _ r1 (by omega)).mono ?_
          rintro e w4 ⟨g4, rfl, r4, hb4⟩
          have T4 := below_next T2 hb4 rfl
          replace r1 := r1.next stab_RVB hb4
          go_wp2_with fail
          refine (meetTable_any _ _ _ (duF F) _ r4 (by omega)).mono ?_
          rintro e w5 ⟨A3, m3, c3, rfl, -, hb5⟩
          rw [HB.out]
          have T5 := below_next T4 hb5 rfl
          replace r1 := r1.next stab_RVB hb5
          go_wp2_with fail
          go_ret2
          refine ⟨_, by rw [← HR.out _ _ HA.out HB.out]; rfl, fun hg => ?_, below_next T5 (below_box _ _) rfl⟩
          first
            | (exfalso
               have := HR.out _ _ HA.out HB.out
               rw [← tt_true hg] at this
               exact absurd this (by decide))
            | (obtain ⟨rfl, r2⟩ := HR2.out (tt_iff.1 HA.out)
               refine ⟨_, A1, c1, A2, c2, A3, m3, c3, rfl, Blk.new _ _ _, ?_, ?_⟩
               · rw [HF.out]
                 exact r1.next stab_RVB (below_box _ _)
               · rw [HF.out]
                 exact (((r2.next stab_RVI hb4).next stab_RVI hb5).next stab_RVI (below_box _ _)))

set_option maxRecDepth 20000 in
set_option maxHeartbeats 1000000 in
theorem bottom_any (A1 A2 A3 : Option Addr) (g n c1 c2 m3 c3 : Nat) (F : Nat → Nat → Bool) (w : World) (B : Blk w g 94 #[.slice A1 n c1, .slice A2 n c2, .slice A3 m3 c3]) (r2 : RdL (RV RI) w A2 n (mtTab F n n)) (hO : OrdP n F) (hM : MeetP F n) (hn : n ≠ 0) :
    Calls Try.prog 100 #[.pointer (some ⟨g, 0, none⟩)] w fun e w' => e = .returned (.int .i64 (bot F n : Nat)) ∧ w = w' := by
  have hle := r2.le
  have q0 := B.cell 0
  have q1 := B.cell 1
  simp at q0 q1
  have HO := Lib.hid hO
  have HM := Lib.hid hM
  have HN := Lib.hid hn
  clear hO hM hn
  go_enter Try.func100, Try.ntmps100
  go_wp2
  go_loop [3, 10] (fun b i => ∃ k : Nat, k ≤ n ∧ i = .int .i64 k ∧ b = .int .i64 (botTo F n k)) (fun _ i => n - (intOf i).toNat)
  case atStart => exact ⟨0, Nat.zero_le _, rfl, rfl⟩
  case round =>
    obtain ⟨k, hk, rfl, rfl⟩ := hrel
    obtain ⟨b, HB⟩ : ∃ b, Hid (botTo F n k = b) := ⟨_, rfl⟩
    by_cases hlt : k < n
    · have hbn : b < n := by rw [← HB.out]; exact (botTo_ok HO.out HM.out HN.out k hk).1
      obtain ⟨bb, oo, v, row, rfl, hc, ⟨B3, m, d, rfl, hr⟩, -, hx⟩ := r2.at hbn
      rw [mtTab_get hbn] at hx
      injection hx with hx
      subst hx
      have hm : m = n := by have := hr.len; rw [mtRow_len] at this; exact this.symm
      subst hm
      obtain ⟨b4, o4, v, x', rfl, hc4, ⟨rfl, -⟩, -, hx⟩ := hr.at hlt
      rw [mtRow_get hlt] at hx
      injection hx with hx
      obtain ⟨z, hz, hzm, -, -⟩ := mt_ok (HM.out b hbn k hlt)
      rw [hz] at hx
      subst hx
      have HZ : Hid (botTo F m (k + 1) = z) := by show (mt F m (botTo F m k) k).toNat = z; rw [HB.out, hz, Int.toNat_natCast]
      have hb0 : (0 : Int) ≤ (b : Int) := by omega
      have hb1 : (b : Int) < (m : Int) := by omega
      have hk0 : (0 : Int) ≤ (k : Int) := by omega
      have hk1 : (k : Int) < (m : Int) := by omega
      clear hz
      rw [HB.out]
      go_wp2
      go_round
      case rel => exact ⟨k + 1, by omega, by go_num, by rw [HZ.out]⟩
      case measure => simp [intOf]; omega
    · obtain rfl : k = n := by omega
      have hlt' : ¬ (k : Int) < (k : Int) := by omega
      rw [HB.out]
      go_wp2
      go_ret
      exact ⟨by unfold bot; rw [HB.out]; rfl, rfl⟩
end Go.Proofs.Ytfcjhmaggefhaaa
