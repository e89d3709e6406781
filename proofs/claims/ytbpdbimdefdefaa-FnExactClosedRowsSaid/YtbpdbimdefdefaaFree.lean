
/- Walks: whether a set is free in a system (program). -/
import Derived.Test.YtbpdbimdefdefaaWith
import Derived.Test.YtbpdbimdefdefaaList
namespace Go.Proofs.Ytbpdbimdefdefaa
open Go.RowKit

/-- The first k elements of the set are each outside the closure of the others. -/
def freeTo (S : List (List Int)) (xs : List Int) : Nat → Bool
  | 0 => true
  | k + 1 => freeTo S xs k && !(hasI (xs.getD k 0) (closeL (xs.take k ++ xs.drop (k + 1)) S))
def freeB (S : List (List Int)) (xs : List Int) : Bool := freeTo S xs xs.length
theorem freeTo_no {S : List (List Int)} {xs : List Int} : ∀ {k j : Nat}, j ≤ k → freeTo S xs j = false → freeTo S xs k = false
  | 0, j, h, e => by
    obtain rfl : j = 0 := by omega
    exact e
  | k + 1, j, h, e => by
    by_cases hj : j = k + 1
    · subst hj; exact e
    · rw [freeTo, freeTo_no (k := k) (by omega) e, Bool.false_and]
theorem rdl_bd {w : World} {A : Option Addr} {n : Nat} {xs : List Int} (h : RdL RI w A n xs) : ∀ x ∈ xs, -9223372036854775808 ≤ x ∧ x ≤ 9223372036854775807 := fun x hx => by
  obtain ⟨k, hk⟩ := List.getElem?_of_mem hx
  obtain ⟨b, o, v, e, hc, hr⟩ := h.2.2 k x hk
  exact hr.2
theorem rdl_bd2 {w : World} {A : Option Addr} {n : Nat} {S : List (List Int)} (h : RdL (RV RI) w A n S) : ∀ xs ∈ S, ∀ x ∈ xs, -9223372036854775808 ≤ x ∧ x ≤ 9223372036854775807 := fun xs hx => by
  obtain ⟨k, hk⟩ := List.getElem?_of_mem hx
  obtain ⟨b, o, v, e, hc, B, m, c, -, hr⟩ := h.2.2 k xs hk
  exact rdl_bd hr
set_option maxHeartbeats 4000000 in
theorem isFree_any (A : Option Addr) (b o n m c d : Nat) (S : List (List Int)) (xs : List Int) (w : World) (h : RdL (RV RI) w A m S) (h' : RdL RI w (some ⟨b, o, none⟩) n xs) (hS : ∀ s ∈ S, s.length ≤ 1048576) (hnc : n ≤ c) (hn : n ≤ 1048576) :
    Calls Try.prog 91 #[.slice A m d, .slice (some ⟨b, o, none⟩) n c] w (Bl w (.bool (freeB S xs))) := by
  have hl : xs.length = n := h'.1
  have HL := Lib.hid hl
  have HB1 := Lib.hid (rdl_bd h')
  have HB2 := Lib.hid (rdl_bd2 h)
  clear hl
  go_enter Try.func91, Try.ntmps91
  go_wp2_with fail
  go_loopw [9] (fun i wr => ∃ k : Nat, k ≤ n ∧ i = .int .i64 k ∧ Hid (freeTo S xs k = true) ∧ Below w.heap.size w wr) (fun i _ => n - (intOf i).toNat)
  case atStart => exact ⟨0, Nat.zero_le _, by go_num, rfl, Below.refl _ _⟩
  case round =>
    obtain ⟨k, hk, rfl, HF, hT⟩ := hrel
    by_cases hlt : k < n
    · have hk0 : (0 : Int) ≤ (k : Int) := by omega
      have hk1 : (k : Int) < (n : Int) := by omega
      have hx : xs[k]? = some (xs.getD k 0) := by
        have := HL.out
        rw [List.getElem?_eq_getElem (by omega)]
        simp [List.getD, List.getElem?_eq_getElem (show k < xs.length by omega)]
      obtain ⟨x, HX⟩ : ∃ x, Hid (xs.getD k 0 = x) := ⟨_, rfl⟩
      rw [HX.out] at hx
      obtain ⟨b', o', v, e, hc, hr⟩ := h'.2.2 k x hx
      simp only [Option.some.injEq, Addr.mk.injEq, and_true] at e
      obtain ⟨rfl, rfl⟩ := e
      obtain ⟨rfl, hxr⟩ := hr
      have cx : wr.cell? ⟨b, o + k, none⟩ = some (.int .i64 x) := (hT.cell (cell_lt hc)).trans hc
      have HS : Hid (freeTo S xs (k + 1) = !(hasI x (closeL (xs.take k ++ xs.drop (k + 1)) S))) := by show _ = _; rw [freeTo, HF.out, HX.out, Bool.true_and]
      obtain ⟨cl, HC⟩ : ∃ cl, Hid (closeL (xs.take k ++ xs.drop (k + 1)) S = cl) := ⟨_, rfl⟩
      rw [HC.out] at HS
      obtain ⟨r, HR⟩ : ∃ r, Hid (hasI x cl = r) := ⟨_, rfl⟩
      rw [HR.out] at HS
      have hS' := h.next stab_RVI hT
      have hx' := h'.next stab_RI hT
      clear hx hc hxr
      rcases r with _ | _
      · go_wp2_with (first
          | (go_at_call 132; refine (without_any b o n c k xs _ hx' hlt hnc hn).mono ?_; rintro e w1 ⟨A1, n1, c1, rfl, hown1, hb1⟩; have T1 := below_next hT hb1 rfl)
          | (go_at_call 131; refine (closureIn_any _ _ _ _ _ _ S (xs.take k ++ xs.drop (k + 1)) _ (h.next stab_RVI T1) (rd_of_own (R := RI) hown1 (RI_ints fun y hy => HB1.out y ((List.mem_append.1 hy).elim List.mem_of_mem_take List.mem_of_mem_drop))) hS).mono ?_; rintro e w2 ⟨A2, n2, c2, rfl, hown2, hb2⟩; rw [HC.out] at hown2; have T2 := below_next T1 hb2 rfl)
          | (go_at_call 130; refine (hasNot_any _ _ _ cl x _ (rd_of_own (R := RI) hown2 (RI_ints fun y hy => by rw [← HC.out] at hy; exact closeL_bounds HB2.out y hy))).mono ?_; rintro e w3 ⟨rfl, rfl⟩; rw [HR.out]))
        go_roundw
        case rel => exact ⟨k + 1, by omega, by go_num, HS.out, T2⟩
        case measure => simp [intOf]; omega
      · go_wp2_with (first
          | (go_at_call 132; refine (without_any b o n c k xs _ hx' hlt hnc hn).mono ?_; rintro e w1 ⟨A1, n1, c1, rfl, hown1, hb1⟩; have T1 := below_next hT hb1 rfl)
          | (go_at_call 131; refine (closureIn_any _ _ _ _ _ _ S (xs.take k ++ xs.drop (k + 1)) _ (h.next stab_RVI T1) (rd_of_own (R := RI) hown1 (RI_ints fun y hy => HB1.out y ((List.mem_append.1 hy).elim List.mem_of_mem_take List.mem_of_mem_drop))) hS).mono ?_; rintro e w2 ⟨A2, n2, c2, rfl, hown2, hb2⟩; rw [HC.out] at hown2; have T2 := below_next T1 hb2 rfl)
          | (go_at_call 130; refine (hasNot_any _ _ _ cl x _ (rd_of_own (R := RI) hown2 (RI_ints fun y hy => by rw [← HC.out] at hy; exact closeL_bounds HB2.out y hy))).mono ?_; rintro e w3 ⟨rfl, rfl⟩; rw [HR.out]))
        go_ret
        exact ⟨by rw [freeB, HL.out, freeTo_no (j := k + 1) (by omega) HS.out]; rfl, T2⟩
    · obtain rfl : k = n := by omega
      have hk1 : ¬ (k : Int) < (k : Int) := by omega
      go_wp2_with fail
      go_ret
      exact ⟨by rw [freeB, HL.out, HF.out]; rfl, hT⟩
end Go.Proofs.Ytbpdbimdefdefaa
