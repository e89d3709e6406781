
/- Walks: SystemFrom of the program and of the reference. -/
import Derived.Test.YtcihgkdaogfabaaSysF
namespace Go.Proofs.Ytcihgkdaogfabaa
open Go.RowKit

def sfOk (n : Int) (xss : List (List Int)) : Bool := inB n 0 6 && (decide (xss.length ≤ 20) && allSets n xss)
def sfRes (n : Int) (xss : List (List Int)) : List (List Int) := if sfOk n xss then systemL n.toNat xss else []
theorem sf_no1 {n : Int} {xss : List (List Int)} (h : inB n 0 6 = false) : sfOk n xss = false := by unfold sfOk; rw [h]; rfl
theorem sf_no2 {n : Int} {xss : List (List Int)} (h : ¬ xss.length ≤ 20) : sfOk n xss = false := by unfold sfOk; rw [decide_eq_false h]; simp
theorem sf_is {n : Int} {xss : List (List Int)} (h : inB n 0 6 = true) (h2 : xss.length ≤ 20) : sfOk n xss = allSets n xss := by unfold sfOk; rw [h, decide_eq_true h2]; rfl
theorem sfRes_no {n : Int} {xss : List (List Int)} (h : sfOk n xss = false) : sfRes n xss = [] := by unfold sfRes; rw [h]; rfl
set_option maxHeartbeats 1000000 in
theorem isSetOf_r {A : Option Addr} {m c : Nat} {xs : List Int} {n : Nat} {w : World} (h : RdL RI w A m xs) : Calls Try.prog 36 #[.int .i64 n, .slice A m c] w (Qt w (.bool (setB n xs))) := isSetOf_any _ _ _ _ _ _ h
theorem sfOk_n {n : Int} {xss : List (List Int)} (h : sfOk n xss = true) : 0 ≤ n ∧ n ≤ 6 := by
  unfold sfOk inB at h
  simp at h
  omega
theorem sfRes_mem {n : Int} {xss : List (List Int)} {p : List Int} (h : p ∈ sfRes n xss) : sfOk n xss = true ∧ IsSet n.toNat p := by
  unfold sfRes at h
  split at h
  · rename_i hh
    exact ⟨hh, (systemL_inv _ _).2 p h⟩
  · simp at h
theorem sfRes_total (n : Int) (xss : List (List Int)) : total (sfRes n xss) ≤ 1099511627776 := by
  refine total_le (fun p hp => ?_) ?_
  · obtain ⟨h1, h2⟩ := sfRes_mem hp
    have := isSet_len h2
    have := sfOk_n h1
    omega
  · unfold sfRes
    split
    · rename_i hh
      have h1 := sfOk_n hh
      have := inv_len (systemL_inv n.toNat xss) (by omega)
      omega
    · simp
theorem sfRes_RI (n : Int) (xss : List (List Int)) (w : World) : ∀ p ∈ sfRes n xss, ∀ y ∈ p, RI w (.int .i64 y) y := fun p hp y hy => by
  obtain ⟨h1, h2⟩ := sfRes_mem hp
  have h3 := h2.2 y hy
  have h4 := sfOk_n h1
  exact ⟨rfl, by omega, by omega⟩
end Go.Proofs.Ytcihgkdaogfabaa
