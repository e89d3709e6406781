
/- Walks of IsClosureSystem in the program. -/
import Derived.Test.YtkmcdocbdhhfhaaGreatMeet
namespace Go.Proofs.YtkmcdocbdhhfhaaGreat
open Go.RowKit

/-- Is the list a set of numbers below n? -/
def setB (n : Int) (s : List Int) : Bool := allIn 0 (n - 1) s && risesL s
/-- Is the meet of s with each of some lists among xss? -/
def meetsIn (xss : List (List Int)) (s : List Int) : List (List Int) → Bool
  | [] => true
  | t :: l => if place xss (meetL t s) < 0 then false else meetsIn xss s l
/-- What the loop over the sets says from the k-th on. -/
def sysRest (n : Int) (xss : List (List Int)) : Nat → List (List Int) → Bool
  | _, [] => decide (0 < xss.length) && ((xss.getLast?.getD []).length : Int) == n
  | k, s :: l => setB n s && (k == 0 || decide (cmpT (xss.getD (k - 1) []) s < 0)) && meetsIn xss s (xss.take k) && sysRest n xss (k + 1) l
def sysB (n : Int) (xss : List (List Int)) : Bool := sysRest n xss 0 xss
def SysAt (n : Int) (xss : List (List Int)) (k : Nat) : Prop := sysRest n xss k (xss.drop k) = sysB n xss
theorem SysAt.step {n : Int} {xss : List (List Int)} {k : Nat} {s : List Int} (h : SysAt n xss k) (hd : xss.drop k = s :: xss.drop (k + 1)) (h1 : setB n s = true) (h2 : (k == 0 || decide (cmpT (xss.getD (k - 1) []) s < 0)) = true) (h3 : true = meetsIn xss s (xss.take k)) : SysAt n xss (k + 1) := by
  unfold SysAt at *; rw [← h, hd, sysRest, h1, h2, ← h3]; rfl
theorem SysAt.stop1 {n : Int} {xss : List (List Int)} {k : Nat} {s : List Int} (h : SysAt n xss k) (hd : xss.drop k = s :: xss.drop (k + 1)) (h1 : setB n s = false) : false = sysB n xss := by
  unfold SysAt at *; rw [← h, hd, sysRest, h1]; rfl
theorem SysAt.stop2 {n : Int} {xss : List (List Int)} {k : Nat} {s : List Int} (h : SysAt n xss k) (hd : xss.drop k = s :: xss.drop (k + 1)) (h2 : (k == 0 || decide (cmpT (xss.getD (k - 1) []) s < 0)) = false) : false = sysB n xss := by
  unfold SysAt at *; rw [← h, hd, sysRest, h2]; simp
theorem SysAt.stop3 {n : Int} {xss : List (List Int)} {k : Nat} {s : List Int} (h : SysAt n xss k) (hd : xss.drop k = s :: xss.drop (k + 1)) (h3 : false = meetsIn xss s (xss.take k)) : false = sysB n xss := by
  unfold SysAt at *; rw [← h, hd, sysRest, ← h3]; simp
theorem SysAt.done {n : Int} {xss : List (List Int)} {k : Nat} {r : Bool} (h : SysAt n xss k) (hd : xss.drop k = []) (hr : sysRest n xss k [] = r) : r = sysB n xss := by
  unfold SysAt at *; rw [← h, hd, hr]
theorem RdL.take {α : Type} {R : World → Value → α → Prop} {w : World} {A : Option Addr} {n : Nat} {xs : List α} (h : RdL R w A n xs) {k : Nat} (hk : k ≤ n) : RdL R w A k (xs.take k) := by
  refine ⟨by rw [List.length_take, h.1]; omega, Nat.le_trans hk h.2.1, fun j x hj => ?_⟩
  rw [List.getElem?_take] at hj
  split at hj
  · exact h.2.2 j x hj
  · cases hj

theorem meetL_mem {ys xs : List Int} {x : Int} (h : x ∈ meetL ys xs) : x ∈ xs := by
  induction xs with
  | nil => simp [meetL] at h
  | cons a l ih =>
    rw [meetL] at h
    split at h
    · rcases List.mem_cons.1 h with rfl | h
      · exact List.mem_cons_self ..
      · exact List.mem_cons_of_mem _ (ih h)
    · exact List.mem_cons_of_mem _ (ih h)
theorem meetL_bounds {w : World} {A : Option Addr} {n : Nat} {xs ys : List Int} (h : RdL RI w A n xs) : ∀ x ∈ meetL ys xs, -9223372036854775808 ≤ x ∧ x ≤ 9223372036854775807 :=
  fun x hx => h.bounds x (meetL_mem hx)

end Go.Proofs.YtkmcdocbdhhfhaaGreat
