
/- The walk of the law FnExactIsClosureSystem. -/
import Derived.Test.YtlncpabnlnipoaaGreatGood
namespace Go.Proofs.YtlncpabnlnipoaaGreat
open Go.RowKit

theorem ret_bool2 {a b c d : Bool} (h : a = c) (h' : b = d) : Ending.returned (.tuple #[.bool a, .bool b]) = .returned (.tuple #[.bool c, .bool d]) := by rw [h, h']
def sysRes (n : Int) (xss : List (List Int)) : Bool := inB n 0 6 && sysB n xss
set_option maxHeartbeats 400000 in
theorem implIsSys_any (A : Option Addr) (m c : Nat) (xss : List (List Int)) (n : Int) (w : World) (h : RdL (RV RI) w A m xss) (hm : m ≤ c) (hm2 : ∀ xs ∈ xss, xs.length ≤ 1048576) :
    Calls Tryz.prog 9 #[.int .i64 n, .slice A m c] w (Bl w (.tuple #[.bool (sysRes n xss), .bool (inB n 0 6)])) := by
  rcases h1 : inB n 0 6 with _ | _
  all_goals
    have H1 := Lib.hid h1
    go_enter Tryz.func9, Tryz.ntmps9
    go_wp2_with (first | (go_at_call 34; refine (isSystemSize_any _ _).mono ?_; rintro e w' ⟨rfl, rfl⟩) | (go_at_call 35; refine (isSystem_any _ _ _ _ _ _ h hm hm2).mono ?_; rintro e w1 ⟨rfl, hb1⟩))
    go_ret2
    exact ⟨ret_bool2 (by unfold sysRes; rw [H1.out]; rfl) rfl, by first | exact Below.refl _ _ | exact hb1⟩
set_option maxHeartbeats 400000 in
theorem specIsSys_any (A : Option Addr) (m c : Nat) (xss : List (List Int)) (n : Int) (w : World) (h : RdL (RV RI) w A m xss) :
    Calls Tryz.prog 10 #[.int .i64 n, .slice A m c] w (Bl w (.tuple #[.bool (sysRes n xss), .bool (inB n 0 6)])) := by
  rcases h1 : inB n 0 6 with _ | _
  · have H1 := Lib.hid h1
    go_enter Tryz.func10, Tryz.ntmps10
    go_wp2_with (go_at_call 36; refine (l30Size_any _ _).mono ?_; rintro e w' ⟨rfl, rfl⟩)
    go_ret2
    exact ⟨ret_bool2 (by unfold sysRes; rw [H1.out]; rfl) rfl, Below.refl _ _⟩
  · have H1 := Lib.hid h1
    have hb : 0 ≤ n ∧ n ≤ 6 := by unfold inB at h1; simpa using h1
    obtain ⟨k, rfl⟩ := Int.eq_ofNat_of_zero_le hb.1
    go_enter Tryz.func10, Tryz.ntmps10
    go_wp2_with (first | (go_at_call 36; refine (l30Size_any _ _).mono ?_; rintro e w' ⟨rfl, rfl⟩) | (go_at_call 30; refine (l30Good_any _ _ _ _ _ _ h (by omega)).mono ?_; rintro e w1 ⟨rfl, hb1⟩))
    go_ret2
    exact ⟨ret_bool2 (by unfold sysRes; rw [H1.out]; rfl) rfl, hb1⟩

theorem szRows_ge : ∀ {xss : List (List Int)} {left : Int}, left ≤ 1048576 → ¬ szRows xss left < 0 → ∀ xs ∈ xss, xs.length ≤ 1048576
  | [], _, _, _, xs, h => by simp at h
  | x :: l, left, hl, h, xs, hx => by
    rw [szRows] at h
    split at h
    · omega
    · rename_i h1
      have h2 : (x.length : Int) ≤ left := by unfold szInts at h1; split at h1 <;> omega
      rcases List.mem_cons.1 hx with rfl | hx
      · omega
      · exact szRows_ge (by unfold szInts at *; split <;> omega) h xs hx
theorem szIntss_ge {xss : List (List Int)} (h : ¬ szIntss xss 1048576 < 0) : xss.length ≤ 1048576 ∧ ∀ xs ∈ xss, xs.length ≤ 1048576 := by
  unfold szIntss at h
  split at h
  · omega
  · exact ⟨by omega, szRows_ge (by omega) h⟩

end Go.Proofs.YtlncpabnlnipoaaGreat
