
/- The walk of the law FnExactIsClosureSystem. -/
import Derived.Test.YtfcjhmaggefhaaaGood
namespace Go.Proofs.Ytfcjhmaggefhaaa
open Go.RowKit

theorem ret_bool2 {a b c d : Bool} (h : a = c) (h' : b = d) : Ending.returned (.tuple #[.bool a, .bool b]) = .returned (.tuple #[.bool c, .bool d]) := by rw [h, h']
def sysRes (n : Int) (xss : List (List Int)) : Bool := inB n 0 6 && sysB n xss
set_option maxHeartbeats 400000 in
theorem implIsSys_any (A : Option Addr) (m c : Nat) (xss : List (List Int)) (n : Int) (w : World) (h : RdL (RV RI) w A m xss) (hm : m ≤ c) (hm2 : ∀ xs ∈ xss, xs.length ≤ 1048576) :
    Calls Try.prog 25 #[.int .i64 n, .slice A m c] w (Bl w (.tuple #[.bool (sysRes n xss), .bool (inB n 0 6)])) := by
  rcases h1 : inB n 0 6 with _ | _
  all_goals
    have H1 := Lib.hid h1
    go_enter Try.func25, Try.ntmps25
    go_wp2_with (first | (go_at_call 82; refine (isSystemSize_any _ _).mono ?_; rintro e w' ⟨rfl, rfl⟩) | (go_at_call 83; refine (isSystem_any _ _ _ _ _ _ h hm hm2).mono ?_; rintro e w1 ⟨rfl, hb1⟩))
    go_ret2
    exact ⟨ret_bool2 (by unfold sysRes; rw [H1.out]; rfl) rfl, by first | exact Below.refl _ _ | exact hb1⟩
set_option maxHeartbeats 400000 in
theorem specIsSys_any (A : Option Addr) (m c : Nat) (xss : List (List Int)) (n : Int) (w : World) (h : RdL (RV RI) w A m xss) :
    Calls Try.prog 23 #[.int .i64 n, .slice A m c] w (Bl w (.tuple #[.bool (sysRes n xss), .bool (inB n 0 6)])) := by
  rcases h1 : inB n 0 6 with _ | _
  · have H1 := Lib.hid h1
    go_enter Try.func23, Try.ntmps23
    go_wp2_with (go_at_call 80; refine (l30Size_any _ _).mono ?_; rintro e w' ⟨rfl, rfl⟩)
    go_ret2
    exact ⟨ret_bool2 (by unfold sysRes; rw [H1.out]; rfl) rfl, Below.refl _ _⟩
  · have H1 := Lib.hid h1
    have hb : 0 ≤ n ∧ n ≤ 6 := by unfold inB at h1; simpa using h1
    obtain ⟨k, rfl⟩ := Int.eq_ofNat_of_zero_le hb.1
    go_enter Try.func23, Try.ntmps23
    go_wp2_with (first | (go_at_call 80; refine (l30Size_any _ _).mono ?_; rintro e w' ⟨rfl, rfl⟩) | (go_at_call 81; refine (l30Good_any _ _ _ _ _ _ h (by omega)).mono ?_; rintro e w1 ⟨rfl, hb1⟩))
    go_ret2
    exact ⟨ret_bool2 (by unfold sysRes; rw [H1.out]; rfl) rfl, hb1⟩

theorem szRows_ge : ∀ {xss : List (List Int)} {left : Int}, left ≤ 1048576 → ¬ szRows xss left < 0 → ∀ xs ∈ xss, xs.length ≤ 1048576
  | [], _, _, _, xs, h => by simp at h
  | x :: l, left, hl, h, xs, hx => by
    rw [szRows] at h
    split at h
    · omega
    · rename_i h1
      have h2 : (x.length : Int) ≤ left := by unfold szInts at h1; split at h1 <;> omega
      rcases List.mem_cons.1 hx with rfl | hx
      · omega
      · exact szRows_ge (by unfold szInts at *; split <;> omega) h xs hx
theorem szIntss_ge {xss : List (List Int)} (h : ¬ szIntss xss 1048576 < 0) : xss.length ≤ 1048576 ∧ ∀ xs ∈ xss, xs.length ≤ 1048576 := by
  unfold szIntss at h
  split at h
  · omega
  · exact ⟨by omega, szRows_ge (by omega) h⟩

set_option maxHeartbeats 1000000 in
theorem lawIsClosureSystem (n : Int) (A : Option Addr) (m c : Nat) (xss : List (List Int)) (w : World) (_h0 : -9223372036854775808 ≤ n) (_h1 : n ≤ 9223372036854775807) (h : RdL (RV RI) w A m xss) :
    Calls Try.prog 4 #[.int .i64 n, .slice A m c] w (Bl w (.bool true)) := by
  rcases h1 : decide (szIntss xss 1048576 < 0) with _ | _
  · have h2 : ¬ szIntss xss 1048576 < 0 := by simpa using h1
    obtain ⟨hm1, hm2⟩ := szIntss_ge h2
    rw [h.len] at hm1
    have HM2 := Lib.hid hm2
    have hB := Lib.hid (bounds2 h)
    have HS := Lib.hid (eqLL_self xss)
    clear hm2 h1
    go_enter Try.func4, Try.ntmps4
    go_wp2_with fail
    refine (szIntSS_any _ _ _ _ _ _ h (by omega) (by omega)).mono ?_
    rintro e w' ⟨rfl, rfl⟩
    go_wp2_with fail
    refine (toIntSS_any _ _ _ _ _ h hm1 HM2.out).mono ?_
    rintro e w1 ⟨g1, rfl, ho1, hb1⟩
    have hT1 := hb1
    replace h := h.next stab_RVI hb1
    have hr1 := ho1.rd (R := RI) (fun xs hx x hxx => ⟨rfl, (hB.out xs hx x hxx).2⟩)
    go_wp2_with fail
    refine (specIsSys_any _ _ _ _ _ _ hr1).mono ?_
    rintro e w2 ⟨rfl, hb2⟩
    have hT2 := below_next hT1 hb2 rfl
    replace h := h.next stab_RVI hb2
    clear ho1 hr1
    go_wp2_with fail
    refine (toIntSS_any _ _ _ _ _ h hm1 HM2.out).mono ?_
    rintro e w3 ⟨g3, rfl, ho3, hb3⟩
    have hT3 := below_next hT2 hb3 rfl
    replace h := h.next stab_RVI hb3
    have hr3 := ho3.rd (R := RI) (fun xs hx x hxx => ⟨rfl, (hB.out xs hx x hxx).2⟩)
    go_wp2_with fail
    refine (implIsSys_any _ _ _ _ _ _ hr3 (Nat.le_refl _) HM2.out).mono ?_
    rintro e w4 ⟨rfl, hb4⟩
    have hT4 := below_next hT3 hb4 rfl
    replace h := h.next stab_RVI hb4
    replace hr3 := hr3.next stab_RVI hb4
    go_wp2_with fail
    refine (toIntSS_any _ _ _ _ _ h hm1 HM2.out).mono ?_
    rintro e w5 ⟨g5, rfl, ho5, hb5⟩
    have hT5 := below_next hT4 hb5 rfl
    replace hr3 := hr3.next stab_RVI hb5
    have hr5 := ho5.rd (R := RI) (fun xs hx x hxx => ⟨rfl, (hB.out xs hx x hxx).2⟩)
    have he := Lib.hid (bl_of_quiet (eqIntSS_any _ _ _ _ m m _ _ _ hr3 hr5))
    go_wp2_with fail
    refine (eqIntSS_any _ _ _ _ _ _ _ _ _ hr3 hr5).mono ?_
    rintro e w6 ⟨rfl, z, rfl⟩
    rw [HS.out]
    go_wp2_with fail
    go_ret
    exact ⟨rfl, below_drewN hT5 _⟩
  · have h2 : szIntss xss 1048576 < 0 := by simpa using h1
    go_enter Try.func4, Try.ntmps4
    go_wp2_with fail
    refine (szIntSS_any _ _ _ _ _ _ h (by omega) (by omega)).mono ?_
    rintro e w' ⟨rfl, rfl⟩
    go_wp2_with fail
    go_ret
    exact ⟨rfl, Below.refl _ _⟩
end Go.Proofs.Ytfcjhmaggefhaaa
