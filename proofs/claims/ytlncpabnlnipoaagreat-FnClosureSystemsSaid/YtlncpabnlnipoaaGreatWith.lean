
/- Walks: a list without one of its elements. -/
import Derived.Test.YtlncpabnlnipoaaGreatBits
import Derived.Test.YtlncpabnlnipoaaGreatMeet
import Derived.Test.YtlncpabnlnipoaaGreatClosure
import Derived.Deep.RegionLaw
import Derived.Deep.RegionHeld3
import Derived.Deep.DeepCutAuto
import Derived.BigGuardPart
namespace Go.Proofs.YtlncpabnlnipoaaGreat
open Go.RowKit

theorem rdl_take {w : World} {b o n : Nat} {xs : List Int} (h : RdL RI w (some ⟨b, o, none⟩) n xs) {k : Nat} (hk : k ≤ n) : RdL RI w (some ⟨b, o, none⟩) k (xs.take k) := by
  have hl := h.1
  refine ⟨by rw [List.length_take]; omega, Nat.le_trans hk h.2.1, fun j x hj => ?_⟩
  rw [List.getElem?_take] at hj
  split at hj
  · exact h.2.2 j x hj
  · cases hj
theorem rdl_drop {w : World} {b o n : Nat} {xs : List Int} (h : RdL RI w (some ⟨b, o, none⟩) n xs) (k : Nat) : RdL RI w (some ⟨b, o + k, none⟩) (n - k) (xs.drop k) := by
  refine ⟨by rw [List.length_drop, h.1], Nat.le_trans (Nat.sub_le _ _) h.2.1, fun j x hj => ?_⟩
  rw [List.getElem?_drop] at hj
  obtain ⟨b', o', v, e, hc, hr⟩ := h.2.2 (k + j) x hj
  simp only [Option.some.injEq, Addr.mk.injEq, and_true] at e
  obtain ⟨rfl, rfl⟩ := e
  exact ⟨b, o + k, v, rfl, by rw [Nat.add_assoc]; exact hc, hr⟩
set_option linter.unusedVariables false in
set_option maxRecDepth 100000 in
set_option maxHeartbeats 4000000 in
theorem without_any (b o n c k : Nat) (xs : List Int) (w : World) (h : RdL RI w (some ⟨b, o, none⟩) n xs) (hk : k < n) (hnc : n ≤ c) (hn : n ≤ 1048576) :
    Calls Tryz.prog 70 #[.slice (some ⟨b, o, none⟩) n c, .int .i64 k] w (OwnR w (xs.take k ++ xs.drop (k + 1))) := by
  have hk0 : (0 : Int) ≤ (k : Int) := by omega
  have hkc : (k : Int) ≤ (c : Int) := by omega
  have hk2 : (0 : Int) ≤ (k : Int) + 1 := by omega
  have hk3 : (k : Int) + 1 ≤ (n : Int) := by omega
  have hwr : IntKind.i64.wrap ((k : Int) + 1) = (k : Int) + 1 := by rw [IntKind.wrap_i64]; omega
  have H1 := Lib.hid (rdl_take h (Nat.le_of_lt hk))
  obtain ⟨ad, HIF, H2⟩ : ∃ ad, Hid ((if c = k + 1 then some (⟨b, o, none⟩ : Addr) else some ⟨b, o + (k + 1), none⟩) = ad) ∧ Hid (RdL RI w ad (n - (k + 1)) (xs.drop (k + 1))) := by
    by_cases hq : c = k + 1
    · refine ⟨some ⟨b, o, none⟩, if_pos hq, ?_⟩
      have e0 : n - (k + 1) = 0 := by omega
      have e1 : xs.drop (k + 1) = [] := List.drop_eq_nil_of_le (by rw [h.1]; omega)
      show RdL RI w _ _ _
      rw [e0, e1]
      exact ⟨rfl, Nat.zero_le _, fun j x hj => by simp at hj⟩
    · exact ⟨_, if_neg hq, rdl_drop h (k + 1)⟩
  clear h
  go_enter Tryz.func70, Tryz.ntmps70
  go_upto_region 1 with fail
  go_region_law (first
    | (go_simp; go_at_call 41; refine (clone_any _ _ _ (xs.take k) _ (by first | exact H1.out | exact H1.out.next stab_RI (Below.drew (Below.refl _ _))) (by omega)).mono ?_; rintro e w5 ⟨A5, c5, rfl, hown5, hb5⟩; have T5 : Below w.heap.size w w5 := (by first | exact hb5 | exact below_next (Below.drew (Below.refl _ _)) hb5 rfl))
    | (refine step_appAny (R := RI) _ rfl (.tmp 8) (.tmp 12) 25 3 rfl (.int .i64 0) 8 Tryz.underlying25 info_int rfl (by decide) w.heap.size k c5 A5 (ints (xs.take k)) (by rfl) (by exact hown5) ad (n - (k + 1)) (c - (k + 1)) (xs.drop (k + 1)) (fun y => .int .i64 y) (fun _ => rfl) (by show Value.slice (if c = k + 1 then _ else _) _ _ = _; rw [HIF.out]) (H2.out.next stab_RI T5) (fun _ _ _ hr => hr.1) (by omega) (by exact T5.size) ?_; intro A6 c6 w6 hown6 hg6 hb6; have T6 := T5.trans hb6))
  go_wp2_with fail
  all_goals
    go_ret
    exact ⟨_, _, _, rfl, by simpa [ints] using hown6, T6⟩
end Go.Proofs.YtlncpabnlnipoaaGreat
