
/- Walks: the bits of a mask (at most six). -/
import Derived.Test.YtlncpabnlnipoaaGreatMem
import Derived.Test.YtlncpabnlnipoaaGreatInts
namespace Go.Proofs.YtlncpabnlnipoaaGreat
open Go.RowKit

def bitsTo (m : Nat) : Nat → List Int
  | 0 => []
  | x + 1 => bitsTo m x ++ (if m / 2 ^ x % 2 = 1 then [(x : Int)] else [])
theorem bits_done : ∀ m, m < 64 → ∀ x, x ≤ 6 → m / 2 ^ x = 0 → bitsTo m x = bitsTo m 6 := by decide +kernel
theorem bits_len : ∀ m, m < 64 → ∀ x, x ≤ 6 → (bitsTo m x).length ≤ 6 := by decide +kernel
theorem bits_more : ∀ m, m < 64 → ∀ x, x ≤ 6 → ¬ m / 2 ^ x = 0 → x < 6 := by decide +kernel
theorem bits_one : ∀ q : Nat, q < 64 → bits .and .i64 (q : Int) 1 = ((q % 2 : Nat) : Int) := by decide +kernel
theorem bits_lit (w : World) : (w.alloc (.cells #[] 3)).ownsRow w.heap.size 3 1 (.slice (some ⟨w.heap.size, 0, none⟩) 0 0) 0 (ints []) := World.ownsRow_lit w #[] 0 (Nat.le_refl _) (Nat.zero_le _) rfl
set_option maxHeartbeats 2000000 in
theorem bitsOf_any (m : Nat) (w : World) (hm : m < 64) :
    Calls Tryz.prog 50 #[.int .i64 m] w fun e w' => ∃ A c, e = .returned (.slice A (bitsTo m 6).length c) ∧ w'.ownsRow w.heap.size 3 1 (.slice A (bitsTo m 6).length c) (bitsTo m 6).length (ints (bitsTo m 6)) ∧ Below w.heap.size w w' := by
  have hT0 := below_box w (.cells #[] 3)
  go_enter Tryz.func50, Tryz.ntmps50
  go_wp2_with fail
  go_loopw [3, 4] (fun v i wr => ∃ (x : Nat), x ≤ 6 ∧ i = .int .i64 x ∧ ∃ A c, v = .slice A (bitsTo m x).length c ∧ wr.ownsRow w.heap.size 3 1 v (bitsTo m x).length (ints (bitsTo m x)) ∧ Below w.heap.size w wr) (fun _ i _ => 7 - (intOf i).toNat)
  case atStart => exact ⟨0, by omega, rfl, _, 0, rfl, bits_lit w, hT0⟩
  case round =>
    clear hT0
    obtain ⟨x, hx, rfl, A, c, rfl, hown, hT⟩ := hrel
    obtain ⟨q, HQ⟩ : ∃ q, Hid (m / 2 ^ x = q) := ⟨_, rfl⟩
    have hq : (m : Int) / 2 ^ x = (q : Int) := by rw [← HQ.out]; push_cast; rfl
    have hq64 : q < 64 := by rw [← HQ.out]; exact Nat.lt_of_le_of_lt (Nat.div_le_self _ _) hm
    have HBS : Hid (bitsTo m (x + 1) = bitsTo m x ++ (if q % 2 = 1 then [(x : Int)] else [])) := by show _ = _; rw [bitsTo, HQ.out]
    have hlen := bits_len m hm x hx
    by_cases h0 : q = 0
    · have HD := Lib.hid (bits_done m hm x hx (by rw [HQ.out]; exact h0))
      subst h0
      have HO := Lib.hid hown
      clear hown
      go_wp2_with fail
      go_ret
      rw [HD.out] at HO ⊢
      exact ⟨_, _, rfl, HO.out, hT⟩
    · have hx6 := bits_more m hm x hx (by rw [HQ.out]; exact h0)
      have hqp : (0 : Int) < (q : Int) := by omega
      have hb1 := bits_one q hq64
      by_cases h1 : q % 2 = 1
      · have HB2 : Hid (bitsTo m (x + 1) = bitsTo m x ++ [(x : Int)]) := by show _ = _; rw [HBS.out, if_pos h1]
        rw [h1] at hb1
        obtain ⟨l, HL⟩ : ∃ l, Hid (bitsTo m x = l) := ⟨_, rfl⟩
        rw [HL.out] at hown hlen HB2 ⊢
        have hbase := hT.size
        clear HBS
        go_wp2_with (at_builtin; refine app1 wr rfl _ _ 25 3 rfl (.int .i64 0) 8 Tryz.underlying25 info_int rfl (by decide) w.heap.size l.length c A (ints l) rfl hown (.int .i64 x) rfl rfl (by omega) hbase ?_; intro A2 c2 w2 hown2 hg2 hb2)
        go_roundw
        case rel =>
          refine ⟨x + 1, by omega, by go_num, A2, c2, ?_, ?_, hT.trans hb2⟩
          · rw [HB2.out, List.length_append]; rfl
          · rw [HB2.out, List.length_append]
            have e : ints l ++ [.int .i64 (x : Int)] = ints (l ++ [(x : Int)]) := by simp [ints]
            rw [e] at hown2
            exact hown2
        case measure => simp [intOf]; omega
      · have h2 : q % 2 = 0 := by omega
        have HB2 : Hid (bitsTo m (x + 1) = bitsTo m x) := by show _ = _; rw [HBS.out, if_neg h1, List.append_nil]
        rw [h2] at hb1
        have HO := Lib.hid hown
        clear hown HBS
        go_wp2_with fail
        go_roundw
        case rel => exact ⟨x + 1, by omega, by go_num, A, c, by rw [HB2.out], by rw [HB2.out]; exact HO.out, hT⟩
        case measure => simp [intOf]; omega
set_option maxHeartbeats 2000000 in
theorem l5Bits_any (m : Nat) (w : World) (hm : m < 64) :
    Calls Tryz.prog 54 #[.int .i64 m] w fun e w' => ∃ A c, e = .returned (.slice A (bitsTo m 6).length c) ∧ w'.ownsRow w.heap.size 3 1 (.slice A (bitsTo m 6).length c) (bitsTo m 6).length (ints (bitsTo m 6)) ∧ Below w.heap.size w w' := by
  have hT0 := below_box w (.cells #[] 3)
  go_enter Tryz.func54, Tryz.ntmps54
  go_wp2_with fail
  go_loopw [3, 4] (fun v i wr => ∃ (x : Nat), x ≤ 6 ∧ i = .int .i64 x ∧ ∃ A c, v = .slice A (bitsTo m x).length c ∧ wr.ownsRow w.heap.size 3 1 v (bitsTo m x).length (ints (bitsTo m x)) ∧ Below w.heap.size w wr) (fun _ i _ => 7 - (intOf i).toNat)
  case atStart => exact ⟨0, by omega, rfl, _, 0, rfl, bits_lit w, hT0⟩
  case round =>
    clear hT0
    obtain ⟨x, hx, rfl, A, c, rfl, hown, hT⟩ := hrel
    obtain ⟨q, HQ⟩ : ∃ q, Hid (m / 2 ^ x = q) := ⟨_, rfl⟩
    have hq : (m : Int) / 2 ^ x = (q : Int) := by rw [← HQ.out]; push_cast; rfl
    have hq64 : q < 64 := by rw [← HQ.out]; exact Nat.lt_of_le_of_lt (Nat.div_le_self _ _) hm
    have HBS : Hid (bitsTo m (x + 1) = bitsTo m x ++ (if q % 2 = 1 then [(x : Int)] else [])) := by show _ = _; rw [bitsTo, HQ.out]
    have hlen := bits_len m hm x hx
    by_cases h0 : q = 0
    · have HD := Lib.hid (bits_done m hm x hx (by rw [HQ.out]; exact h0))
      subst h0
      have HO := Lib.hid hown
      clear hown
      go_wp2_with fail
      go_ret
      rw [HD.out] at HO ⊢
      exact ⟨_, _, rfl, HO.out, hT⟩
    · have hx6 := bits_more m hm x hx (by rw [HQ.out]; exact h0)
      have hqp : (0 : Int) < (q : Int) := by omega
      have hb1 := bits_one q hq64
      by_cases h1 : q % 2 = 1
      · have HB2 : Hid (bitsTo m (x + 1) = bitsTo m x ++ [(x : Int)]) := by show _ = _; rw [HBS.out, if_pos h1]
        rw [h1] at hb1
        obtain ⟨l, HL⟩ : ∃ l, Hid (bitsTo m x = l) := ⟨_, rfl⟩
        rw [HL.out] at hown hlen HB2 ⊢
        have hbase := hT.size
        clear HBS
        go_wp2_with (at_builtin; refine app1 wr rfl _ _ 25 3 rfl (.int .i64 0) 8 Tryz.underlying25 info_int rfl (by decide) w.heap.size l.length c A (ints l) rfl hown (.int .i64 x) rfl rfl (by omega) hbase ?_; intro A2 c2 w2 hown2 hg2 hb2)
        go_roundw
        case rel =>
          refine ⟨x + 1, by omega, by go_num, A2, c2, ?_, ?_, hT.trans hb2⟩
          · rw [HB2.out, List.length_append]; rfl
          · rw [HB2.out, List.length_append]
            have e : ints l ++ [.int .i64 (x : Int)] = ints (l ++ [(x : Int)]) := by simp [ints]
            rw [e] at hown2
            exact hown2
        case measure => simp [intOf]; omega
      · have h2 : q % 2 = 0 := by omega
        have HB2 : Hid (bitsTo m (x + 1) = bitsTo m x) := by show _ = _; rw [HBS.out, if_neg h1, List.append_nil]
        rw [h2] at hb1
        have HO := Lib.hid hown
        clear hown HBS
        go_wp2_with fail
        go_roundw
        case rel => exact ⟨x + 1, by omega, by go_num, A, c, by rw [HB2.out], by rw [HB2.out]; exact HO.out, hT⟩
        case measure => simp [intOf]; omega
end Go.Proofs.YtlncpabnlnipoaaGreat
