
/- Walks: FreeSets of the reference (begun: no system; the answer in the list's place). -/
import Derived.Test.YtbpdbimdefdefaaFreeP
import Derived.Test.YtbpdbimdefdefaaGood
namespace Go.Proofs.Ytbpdbimdefdefaa
open Go.RowKit

theorem fs_no {n : Int} {S : List (List Int)} (h : sysRes n S = false) : fsRes n S = [] := by unfold fsRes; rw [h]; rfl
theorem fs_yes {k : Nat} {S : List (List Int)} (h : sysRes (k : Int) S = true) : fsRes (k : Int) S = frI S (2 ^ k) := by unfold fsRes; rw [h, if_pos rfl, Int.toNat_natCast]
set_option maxHeartbeats 4000000 in
theorem specFS_no (A : Option Addr) (m c : Nat) (n : Int) (S : List (List Int)) (w : World) (h : RdL (RV RI) w A m S) (h1 : sysRes n S = false) :
    Calls Try.prog 37 #[.int .i64 n, .slice A m c] w (RdMB w (fsRes n S) (sysRes n S)) := by
  have HR := Lib.hid h1
  have HF := Lib.hid (fs_no h1)
  rw [h1, HF.out]
  clear h1
  have hb0 := below_box w (.cells #[] 75)
  obtain ⟨w0, HW⟩ : ∃ w0, Hid (w0 = w.alloc (.cells #[] 75)) := ⟨_, rfl⟩
  rw [← HW.out] at hb0
  have HG := Lib.hid (l30GoodAll_any A m c S n w0 (h.next stab_RVI hb0))
  go_enter Try.func37, Try.ntmps37
  go_wp2_with fail
  rw [← HW.out]
  refine HG.out.mono ?_
  rintro e w1 ⟨rfl, hb1⟩
  rw [HR.out]
  go_wp2_with fail
  go_ret2
  exact ⟨_, 0, 0, rfl, RdL.nil _ _ _, below_next hb0 hb1 rfl⟩
end Go.Proofs.Ytbpdbimdefdefaa
