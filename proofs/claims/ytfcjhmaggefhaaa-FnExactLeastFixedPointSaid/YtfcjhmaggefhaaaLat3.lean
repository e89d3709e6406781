
/- Walks: the dual of an order (the program's dual). -/
import Derived.Test.YtfcjhmaggefhaaaLat2
namespace Go.Proofs.Ytfcjhmaggefhaaa
open Go.RowKit

/-- The dual as far as it is laid: k rows, and j of the next. -/
def Dto (F : Nat → Nat → Bool) (k j : Nat) : Nat → Nat → Bool := fun x y => (decide (x < k) || (decide (x = k) && decide (y < j))) && F y x
theorem Dto_zero {n : Nat} (F : Nat → Nat → Bool) : tab n (Dto F 0 0) = tab n (fun _ _ => false) := by
  refine tab_ext fun y _ x _ => ?_
  unfold Dto
  simp
theorem Dto_step {n : Nat} (F : Nat → Nat → Bool) {k j : Nat} {b : Bool} (hb : F j k = b) : tab n (upd (Dto F k j) k j b) = tab n (Dto F k (j + 1)) := by
  refine tab_ext fun x _ y _ => ?_
  unfold upd Dto
  by_cases hx : x = k
  · subst hx
    by_cases hy : y = j
    · subst hy
      simp [hb]
    · by_cases h1 : y < j
      · simp [hy, h1, show y < j + 1 by omega]
      · simp [hy, h1, show ¬ y < j + 1 by omega]
  · simp [hx]
theorem Dto_next {n : Nat} (F : Nat → Nat → Bool) {k : Nat} : tab n (Dto F k n) = tab n (Dto F (k + 1) 0) := by
  refine tab_ext fun x _ y hy => ?_
  unfold Dto
  by_cases hx : x = k
  · subst hx
    simp [hy]
  · by_cases h1 : x < k
    · simp [h1, show x < k + 1 by omega]
    · simp [h1, hx, show ¬ x < k + 1 by omega]
theorem Dto_all {n : Nat} (F : Nat → Nat → Bool) : tab n (Dto F n 0) = tab n (duF F) := by
  refine tab_ext fun x hx y _ => ?_
  unfold Dto duF
  simp [hx]

set_option maxRecDepth 20000 in
set_option maxHeartbeats 1000000 in
theorem dual_any (A : Option Addr) (n c : Nat) (F : Nat → Nat → Bool) (w : World) (h : RdL (RV RB) w A n (tab n F)) (hn : n ≤ 1048576) :
    Calls Try.prog 151 #[.slice A n c] w fun e w' => ∃ g, e = .returned (.slice (some ⟨g, 0, none⟩) n n) ∧ RdL (RV RB) w' (some ⟨g, 0, none⟩) n (tab n (duF F)) ∧ Below w.heap.size w w' := by
  have hle := h.le
  go_enter Try.func151, Try.ntmps151
  go_wp2_with fail
  refine (newOrder_any n _ hn).mono ?_
  rintro e w2 ⟨g, rfl, ho2, hb2⟩
  have ho : OwT w.heap.size w2 g n (Dto F 0 0) := by
    show OwM _ _ _ _ _ _ _ (tab n (Dto F 0 0))
    rw [Dto_zero]
    exact ho2
  clear ho2
  go_wp2_with fail
  go_loopw [11] (fun i wr => ∃ k : Nat, k ≤ n ∧ i = .int .i64 k ∧ OwT w.heap.size wr g n (Dto F k 0) ∧ Below w.heap.size w wr) (fun i _ => n - (intOf i).toNat)
  case atStart => exact ⟨0, Nat.zero_le _, rfl, ho, hb2⟩
  case round =>
    clear ho hb2
    obtain ⟨k, hk, rfl, ho, hT⟩ := hrel
    by_cases hlt : k < n
    · have hk0 : (0 : Int) ≤ (k : Int) := by omega
      have hk1 : (k : Int) < (n : Int) := by omega
      go_wp2_with fail
      go_loopw [16] (fun i wi => ∃ q : Nat, q ≤ n ∧ i = .int .i64 q ∧ OwT w.heap.size wi g n (Dto F k q) ∧ Below w.heap.size w wi) (fun i _ => n - (intOf i).toNat)
      case atStart => exact ⟨0, Nat.zero_le _, rfl, ho, hT⟩
      case round =>
        clear ho hT
        obtain ⟨q, hq, rfl, ho, hT⟩ := hrel
        by_cases hltq : q < n
        · have hq0 : (0 : Int) ≤ (q : Int) := by omega
          have hq1 : (q : Int) < (n : Int) := by omega
          obtain ⟨b, o, r2, p2, d2, rfl, hc1, hc2⟩ := (h.next stab_RVB hT).atT hltq hlt
          obtain ⟨r, dr, hgr, hcell, hlo, hrl, hcs, hset⟩ := ho.get hlt
          obtain ⟨hcq, hfq⟩ := hcs q hltq
          have hst := hset q (F q k) hltq
          have hLS := Lib.hid (Dto_step (n := n) F (k := k) (j := q) rfl)
          clear hcs hset
          go_upto_region 8 with fail
          go_region
          go_wp2_with fail
          go_roundw
          case rel => exact ⟨q + 1, by omega, by go_num, by
            show OwM _ _ _ _ _ _ _ (tab n (Dto F k (q + 1)))
            rw [← hLS.out]
            first | exact hst | exact OwM.next hst (Below.drew (Below.refl _ _)), by first | exact hT.setCell (p := ⟨r, q, none⟩) hlo _ | exact Below.drew (hT.setCell (p := ⟨r, q, none⟩) hlo _)⟩
          case measure => simp [intOf]; omega
        · obtain rfl : q = n := by omega
          have hlt' : ¬ (q : Int) < (q : Int) := by omega
          go_wp2_with fail
          go_roundw
          case rel => exact ⟨k + 1, by omega, by go_num, by
            show OwM _ _ _ _ _ _ _ (tab q (Dto F (k + 1) 0))
            rw [← Dto_next F]
            exact ho, hT⟩
          case measure => simp [intOf]; omega
    · obtain rfl : k = n := by omega
      have hlt' : ¬ (k : Int) < (k : Int) := by omega
      have ho' : OwM 65 4 Value.bool w.heap.size wr (.slice (some ⟨g, 0, none⟩) k k) k (tab k (duF F)) := by
        rw [← Dto_all F]
        exact ho
      have hrd := ho'.rd (R := RB) (fun xs _ x _ => rfl)
      go_wp2_with fail
      go_ret
      exact ⟨_, rfl, hrd, hT⟩
end Go.Proofs.Ytfcjhmaggefhaaa
