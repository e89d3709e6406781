
/- Walk of szPoset; facts that the laws on posets share. -/
import Derived.Test.YtfcjhmaggefhaaaSysPos
import Derived.Test.YtfcjhmaggefhaaaL23
import Derived.Deep.RegionHeld3
import Derived.Deep.DeepCutAuto
namespace Go.Proofs.Ytfcjhmaggefhaaa
open Go.RowKit

theorem szRows_neg : ∀ {xss : List (List Int)} {left : Int}, 0 ≤ left → szRows xss left < 0 → szRows xss left = -1
  | [], left, h, h1 => by rw [szRows] at h1; omega
  | x :: l, left, h, h1 => by
    rw [szRows] at h1 ⊢
    split
    · rfl
    · rename_i h2
      rw [if_neg h2] at h1
      exact szRows_neg (by omega) h1
theorem szIntss_neg {xss : List (List Int)} {left : Int} (h1 : szIntss xss left < 0) : szIntss xss left = -1 := by
  unfold szIntss at *
  split
  · rfl
  · rename_i h2
    rw [if_neg h2] at h1
    exact szRows_neg (by omega) h1
set_option maxHeartbeats 400000 in
theorem szPoset_any (A : Option Addr) (n c : Nat) (xss : List (List Int)) (left : Int) (w : World) (h : RdL (RV RI) w A n xss) (h0 : 0 ≤ left) (h1 : left ≤ 1048576) :
    Calls Try.prog 15 #[.agg #[.slice A n c], .int .i64 left] w (Bl w (.int .i64 (szIntss xss left))) := by
  have hb := below_box w (.cells #[.slice A n c] 24)
  by_cases hneg : szIntss xss left < 0
  · have HE := Lib.hid (szIntss_neg hneg)
    go_enter Try.func15, Try.ntmps15
    go_wp2_with (go_at_call 22; refine (szIntSS_any _ _ _ _ _ _ (h.next stab_RVI hb) h0 h1).mono ?_; rintro e w' ⟨rfl, rfl⟩)
    go_ret
    exact ⟨ret_int HE.out.symm, hb⟩
  · go_enter Try.func15, Try.ntmps15
    go_wp2_with (go_at_call 22; refine (szIntSS_any _ _ _ _ _ _ (h.next stab_RVI hb) h0 h1).mono ?_; rintro e w' ⟨rfl, rfl⟩)
    go_ret
    exact ⟨rfl, hb⟩
end Go.Proofs.Ytfcjhmaggefhaaa
