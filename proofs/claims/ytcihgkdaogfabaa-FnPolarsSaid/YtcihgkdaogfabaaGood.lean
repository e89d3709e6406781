
/- Walks: the reference's closure systems and its test. -/
import Derived.Test.YtcihgkdaogfabaaClos
namespace Go.Proofs.Ytcihgkdaogfabaa
open Go.RowKit

/-- A slice of slices that is not nil, as it is handed from call to call. -/
def OutM (w : World) (v : Value) (out : List (List Int)) : Prop := ∃ b o n c, v = .slice (some ⟨b, o, none⟩) n c ∧ n ≤ c ∧ RdL (RV RI) w (some ⟨b, o, none⟩) n out
theorem inv_len {n : Nat} {out : List (List Int)} (h : Inv n out) (hn : n ≤ 6) : out.length ≤ 64 := by
  have h1 := sets_len h.1 h.2
  have h2 : 2 ^ n ≤ 2 ^ 6 := Nat.pow_le_pow_right (by omega) hn
  omega

theorem Inv.putMeet {n : Nat} {cur : List (List Int)} (h : Inv n cur) {t : List Int} (ht : IsSet n t) (s : List Int) : Inv n (putL (meetL s t) cur) := by
  refine ⟨h.1.putL, fun p hp => ?_⟩
  rcases mem_putL.1 hp with rfl | hp
  · exact ht.meet s
  · exact h.2 p hp

set_option maxHeartbeats 400000 in
theorem isSystemSize_any (n : Int) (w : World) : Calls Try.prog 90 #[.int .i64 n] w fun e w' => e = .returned (.bool (inB n 0 6)) ∧ w = w' := by
  unfold inB
  by_cases h : 0 ≤ n
  all_goals
    go_enter Try.func90, Try.ntmps90
    go_wp2
    go_ret
    exact ⟨ret_bool (by simp; omega), rfl⟩
set_option maxHeartbeats 400000 in
theorem l30Set_any (A : Option Addr) (m c : Nat) (xs : List Int) (n : Int) (w : World) (h : RdL RI w A m xs) (h0 : -1 ≤ n) (h1 : n ≤ 1048576) :
    Calls Try.prog 41 #[.int .i64 n, .slice A m c] w (Qt w (.bool (setB n xs))) := by
  go_enter Try.func41, Try.ntmps41
  go_wp2_with (go_at_call 80; refine (l1Rising_any _ _ _ _ _ _ _ h).mono ?_; rintro e w' ⟨rfl, z, rfl⟩)
  go_ret
  exact ⟨rfl, (by first | exact Drawn.zero _ | exact Drawn.at_ _ _ | exact (Drawn.at_ _ _).more _ | exact ((Drawn.at_ _ _).more _).more _)⟩

def allSets (n : Int) : List (List Int) → Bool
  | [] => true
  | s :: l => setB n s && allSets n l
theorem allSets_iff {n : Nat} : ∀ {xss : List (List Int)}, allSets n xss = true ↔ ∀ p ∈ xss, IsSet n p
  | [] => by simp [allSets]
  | s :: l => by simp [allSets, allSets_iff (xss := l), setB_iff]

theorem good_no {n : Nat} {xss : List (List Int)} (h : false = allSets n xss) : false = sysB n xss := by
  rcases e : sysB n xss with _ | _
  · rfl
  · have := allSets_iff.2 (sysB_iff.1 e).1.2
    rw [this] at h
    exact h
theorem good_eq {n : Nat} {xss : List (List Int)} (h : true = allSets n xss) : sysB n xss = eqLL (systemL n xss) xss := by
  rw [Bool.eq_iff_iff, sysB_iff, eqLL_iff, isSys_iff (allSets_iff.1 h.symm)]

end Go.Proofs.Ytcihgkdaogfabaa
