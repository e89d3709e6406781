
/- Walks: idempotent tables of the program. -/
import Derived.Test.YtppnmpeicmlneaaIdmP
namespace Go.Proofs.Ytppnmpeicmlneaa
open Go.RowKit

def frL (L k : Nat) : List Int := List.replicate k (-1) ++ List.replicate (L - k) 0
theorem frL_step {L k : Nat} (h : k < L) : (frL L k).set k (-1) = frL L (k + 1) := by
  unfold frL
  rw [List.set_append_right _ _ (by simp), List.length_replicate, Nat.sub_self, show L - k = (L - (k + 1)) + 1 by omega, List.replicate_succ, List.set_cons_zero, List.replicate_succ', List.append_assoc]
  rfl
theorem frL_done (L : Nat) : frL L L = List.replicate L (-1) := by unfold frL; simp
theorem frL_zero (L : Nat) : frL L 0 = List.replicate L 0 := by unfold frL; simp
set_option maxHeartbeats 1000000 in
theorem freeTable_any (L : Nat) (w : World) (hL : L ≤ 1048576) :
    Calls Try.prog 115 #[.int .i64 L] w fun e w' => ∃ g, e = .returned (.slice (some ⟨g, 0, none⟩) L L) ∧ w'.ownsRow w.heap.size 3 1 (.slice (some ⟨g, 0, none⟩) L L) L (ints (List.replicate L (-1))) ∧ Below w.heap.size w w' := by
  go_enter Try.func115, Try.ntmps115
  go_wp2_with (at_make; refine make_ints _ rfl _ _ rfl L rfl rfl (by omega) ?_; intro w1 hown hg1)
  have hT := (Below.refl w.heap.size w).grown hg1 (Nat.le_refl _) (by simp)
  clear hg1
  go_loopw [9] (fun j wr => ∃ k : Nat, k ≤ L ∧ j = .int .i64 k ∧ wr.ownsRow w.heap.size 3 1 (.slice (some ⟨w.heap.size, 0, none⟩) L L) L (ints (frL L k)) ∧ Below w.heap.size w wr) (fun j _ => L - (intOf j).toNat)
  case atStart => exact ⟨0, Nat.zero_le _, by go_num, by rw [frL_zero, ints_rep]; exact hown, hT⟩
  case round =>
    clear hown hT
    obtain ⟨k, hk, rfl, hown, hT⟩ := hrel
    by_cases hlt : k < L
    · have hk0 : (0 : Int) ≤ (k : Int) := by omega
      have hk1 : (k : Int) < (L : Int) := by omega
      have hLl : k < (ints (frL L k)).length := by have := hown.1; omega
      have hcell : wr.cell? ⟨w.heap.size, k, none⟩ = some ((ints (frL L k))[k]) := (hown.cellAt k (by omega)).trans (List.getElem?_eq_getElem hLl)
      have hfz : wr.frozen? ⟨w.heap.size, k, none⟩ = false := hown.frozenAt k
      have hst := (hown.stored k (.int .i64 (-1))).1
      rw [ints_set, frL_step hlt] at hst
      have HST := Lib.hid hst
      clear hst hown
      go_wp2
      go_roundw
      case rel => exact ⟨k + 1, by omega, by go_num, HST.out, hT.setCell (Nat.le_refl _) _⟩
      case measure => simp [intOf]; try omega
    · obtain rfl : k = L := by omega
      have hk1 : ¬ (k : Int) < (k : Int) := by omega
      rw [frL_done] at hown
      go_wp2
      go_ret
      exact ⟨_, rfl, hown, hT⟩
set_option maxHeartbeats 2000000 in
theorem idemTable_any (n L : Nat) (w : World) (h1 : 1 ≤ n) (h3 : n ≤ 3) (hL : Hid (n * n = L)) :
    Calls Try.prog 87 #[.int .i64 n, .int .i64 2] w fun e w' => ∃ g, e = .returned (.slice (some ⟨g, 0, none⟩) L L) ∧ w'.ownsRow w.heap.size 3 1 (.slice (some ⟨g, 0, none⟩) L L) L (ints (idmT n n (List.replicate L (-1)))) ∧ Below w.heap.size w w' := by
  have HP : Hid (n ^ 2 = L) := by show _ = _; rw [Nat.pow_two]; exact hL.out
  have hL9 : L ≤ 9 := by rw [← hL.out]; exact Nat.le_trans (Nat.mul_le_mul h3 h3) (by decide)
  go_enter Try.func87, Try.ntmps87
  go_wp2_with (first
    | (go_at_call 83; refine (power_any n 2 L _ HP.out (by omega) (by omega)).mono ?_; rintro e w1 ⟨rfl, rfl⟩)
    | (go_at_call 115; refine (freeTable_any L _ (by omega)).mono ?_; rintro e w1 ⟨g, rfl, hown, hT⟩))
  go_loopw [6] (fun j wr => ∃ x : Nat, x ≤ n ∧ j = .int .i64 x ∧ wr.ownsRow w.heap.size 3 1 (.slice (some ⟨g, 0, none⟩) L L) L (ints (idmT n x (List.replicate L (-1)))) ∧ Below w.heap.size w wr) (fun j _ => n - (intOf j).toNat)
  case atStart => exact ⟨0, Nat.zero_le _, rfl, hown, hT⟩
  case round =>
    clear hown hT
    obtain ⟨x, hx, rfl, hown, hT⟩ := hrel
    have HOW := Lib.hid hown
    clear hown
    by_cases hlt : x < n
    · have hx1 : (x : Int) < (n : Int) := by omega
      go_wp2
      go_loopw [7, 8] (fun a i wq => ∃ q : Nat, q ≤ 2 ∧ i = .int .i64 q ∧ a = .int .i64 ((if q = 0 then 0 else if q = 1 then x else x * n + x : Nat) : Int) ∧ wq = wr) (fun _ i _ => 2 - (intOf i).toNat)
      case atStart => exact ⟨0, by omega, rfl, rfl, rfl⟩
      case round =>
        obtain ⟨q, hq, rfl, rfl, rfl⟩ := hrel
        obtain rfl | rfl | rfl : q = 0 ∨ q = 1 ∨ q = 2 := by omega
        · go_wp2
          go_roundw
          case rel => exact ⟨1, by omega, by go_num, by first | rfl | go_num, by first | rfl | trivial⟩
          case measure => simp [intOf]
        · have hxb : x * n ≤ 9 := Nat.le_trans (Nat.mul_le_mul (Nat.le_trans hx h3) h3) (by decide)
          have HW2 : Hid (wrap64 (wrap64 ((x : Int) * (n : Int)) + (x : Int)) = ((x * n + x : Nat) : Int)) := by
            show _ = _
            rw [show (x : Int) * (n : Int) = ((x * n : Nat) : Int) by simp, w64 (by omega), ← Int.natCast_add, w64 (by omega)]
          clear hxb
          go_wp2
          go_roundw
          case rel => exact ⟨2, by omega, by go_num, by rw [HW2.out]; rfl, by first | rfl | trivial⟩
          case measure => simp [intOf]
        · have hxn : x * n + x < L := by
            rw [← hL.out]
            have := Nat.mul_le_mul_right n (show x + 1 ≤ n by omega)
            rw [Nat.succ_mul] at this
            omega
          obtain ⟨P, HP2⟩ : ∃ P, Hid (x * n + x = P) := ⟨_, rfl⟩
          have HSX : Hid (idmT n (x + 1) (List.replicate L (-1)) = (idmT n x (List.replicate L (-1))).set P (x : Int)) := by show _ = _; rw [idmT, HP2.out]
          rw [HP2.out] at hxn
          obtain ⟨T, HT⟩ : ∃ T, Hid (idmT n x (List.replicate L (-1)) = T) := ⟨_, rfl⟩
          have hown := HOW.out
          rw [HT.out] at hown HSX
          have hp0 : (0 : Int) ≤ (P : Int) := by omega
          have hp1 : (P : Int) < (L : Int) := by omega
          have hLl : P < (ints T).length := by have := hown.1; omega
          have hcell : wr.cell? ⟨g, P, none⟩ = some ((ints T)[P]) := (hown.cellAt P (by omega)).trans (List.getElem?_eq_getElem hLl)
          have hfz : wr.frozen? ⟨g, P, none⟩ = false := hown.frozenAt P
          have hst := (hown.stored P (.int .i64 (x : Int))).1
          have hgl := (hown.lt g rfl).1
          rw [ints_set, ← HSX.out] at hst
          have HST := Lib.hid hst
          have HPI : Hid (((if 2 = 0 then 0 else if 2 = 1 then x else x * n + x : Nat) : Int) = (P : Int)) := by show _ = _; rw [← HP2.out]; rfl
          rw [HPI.out]
          clear hst hown
          go_wp2
          go_roundw
          case rel => exact ⟨x + 1, by omega, by go_num, HST.out, hT.setCell hgl _⟩
          case measure => simp [intOf]; try omega
    · obtain rfl : x = n := by omega
      have hk1 : ¬ (x : Int) < (x : Int) := by omega
      go_wp2
      go_ret
      exact ⟨_, rfl, HOW.out, hT⟩
end Go.Proofs.Ytppnmpeicmlneaa
