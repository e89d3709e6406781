
/- Walks: the reference's closure systems and its test. -/
import Derived.Test.YtlncpabnlnipoaaSys2
namespace Go.Proofs.Ytlncpabnlnipoaa
open Go.RowKit

/-- A slice of slices that is not nil, as it is handed from call to call. -/
def OutM (w : World) (v : Value) (out : List (List Int)) : Prop := ∃ b o n c, v = .slice (some ⟨b, o, none⟩) n c ∧ n ≤ c ∧ RdL (RV RI) w (some ⟨b, o, none⟩) n out
theorem inv_len {n : Nat} {out : List (List Int)} (h : Inv n out) (hn : n ≤ 6) : out.length ≤ 64 := by
  have h1 := sets_len h.1 h.2
  have h2 : 2 ^ n ≤ 2 ^ 6 := Nat.pow_le_pow_right (by omega) hn
  omega

theorem Inv.putMeet {n : Nat} {cur : List (List Int)} (h : Inv n cur) {t : List Int} (ht : IsSet n t) (s : List Int) : Inv n (putL (meetL s t) cur) := by
  refine ⟨h.1.putL, fun p hp => ?_⟩
  rcases mem_putL.1 hp with rfl | hp
  · exact ht.meet s
  · exact h.2 p hp

def allSets (n : Int) : List (List Int) → Bool
  | [] => true
  | s :: l => setB n s && allSets n l
theorem allSets_iff {n : Nat} : ∀ {xss : List (List Int)}, allSets n xss = true ↔ ∀ p ∈ xss, IsSet n p
  | [] => by simp [allSets]
  | s :: l => by simp [allSets, allSets_iff (xss := l), setB_iff]

theorem good_no {n : Nat} {xss : List (List Int)} (h : false = allSets n xss) : false = sysB n xss := by
  rcases e : sysB n xss with _ | _
  · rfl
  · have := allSets_iff.2 (sysB_iff.1 e).1.2
    rw [this] at h
    exact h
theorem good_eq {n : Nat} {xss : List (List Int)} (h : true = allSets n xss) : sysB n xss = eqLL (systemL n xss) xss := by
  rw [Bool.eq_iff_iff, sysB_iff, eqLL_iff, isSys_iff (allSets_iff.1 h.symm)]

end Go.Proofs.Ytlncpabnlnipoaa
