
/- Walks: drawn points of posets, covers, pairs. -/
import Derived.Test.YtlncpabnlnipoaaPos23
import Derived.Test.YtlncpabnlnipoaaLat8
namespace Go.Proofs.Ytlncpabnlnipoaa
open Go.RowKit

theorem nums2n (w : World) (g n : Nat) (hn : n ≤ 1000) (hg : g < w.heap.size) {k : Nat} (hk : k = w.heap.size) : NumsP (fun x => -1 ≤ x ∧ x ≤ (n : Int)) (w.alloc (.cells #[.int .i64 (-1), .int .i64 n] 3)) g k 2 := by
  subst hk
  refine ⟨by omega, by omega, by omega, fun i hi => ?_⟩
  have hc := (Blk.new w 3 #[.int .i64 (-1), .int .i64 n]).cell i
  rcases (by omega : i = 0 ∨ i = 1) with rfl | rfl
  · exact ⟨-1, ⟨by omega, by omega⟩, hc⟩
  · exact ⟨n, ⟨by omega, by omega⟩, hc⟩
def PntD (B n : Nat) (w : World) (g t : Nat) (e : Ending) (w' : World) : Prop := ∃ x : Int, (-1 ≤ x ∧ x ≤ (n : Int)) ∧ e = .returned (.int .i64 x) ∧ CurB B w' g t ∧ w.grownBy w' (some g)
set_option maxHeartbeats 4000000 in
theorem point23_any (B g t n c : Nat) (A : Option Addr) (w : World) (h : CurB B w g t) (ht : t ≤ 999980000) (hn : n ≤ 1000) :
    Calls Try.prog 50 #[.pointer (some ⟨g, 0, none⟩), .agg #[.slice A n c]] w (PntD B n w g (t + 4)) := by
  obtain ⟨w0, HW0⟩ : ∃ wb, Hid (wb = w.alloc (.cells #[.slice A n c] 26)) := ⟨_, rfl⟩
  have hb0 : Below w.heap.size w w0 := by rw [HW0.out]; exact below_box _ _
  have BX : Blk w0 w.heap.size 26 #[.slice A n c] := by rw [HW0.out]; exact Blk.new _ _ _
  have hc0 := h.next_ hb0
  have hg0 : w.grownBy w0 (some g) := toGr hb0
  have hgl := h.lt
  have k0 := BX.cell 0
  simp at k0
  have k1 := k0
  rw [HW0.out] at k1
  have HAM : Hid (∀ (wz : World) (t' k : Nat), k = wz.heap.size → CurB B wz g t' → w.grownBy wz (some g) → t' ≤ t + 2 → Calls Try.prog 61 #[.pointer (some ⟨g, 0, none⟩), .slice (some ⟨k, 0, none⟩) 2 2] (wz.alloc (.cells #[.int .i64 (-1), .int .i64 n] 3)) (PntD B n w g (t + 4))) := fun wz t' k hk hcz hgz ht' =>
    (amongB_any g t' k 2 2 _ (hcz.next_ (below_box _ _)) (by omega) _ (nums2n wz g n hn hcz.lt hk)).mono fun e w' ⟨x, hx, he, hc, hg⟩ => ⟨x, hx, he, hc.mono (by omega), growB_trans (growB_box hgz _) hg⟩
  by_cases hn0 : n = 0
  · subst hn0
    have HA := Lib.hid (HAM.out w0 t (w.heap.size + 1) (by rw [HW0.out]; simp) hc0 hg0 (by omega))
    rw [HW0.out] at HA
    go_enter Try.func50, Try.ntmps50
    go_wp2_with fail
    refine HA.out.mono ?_
    rintro e w1 ⟨x, hx, rfl, hc1, hg1⟩
    go_wp2_with fail
    go_ret
    exact ⟨x, hx, rfl, hc1, hg1⟩
  · have hn1 : ((n : Int) == 0) = false := by simp; omega
    have H1 := Lib.hid (oneB_any g t 24 w0 hc0 (by omega) (by omega))
    rw [HW0.out] at H1
    go_enter Try.func50, Try.ntmps50
    go_wp2_with fail
    refine H1.out.mono ?_
    rintro e w1 ⟨bb, rfl, hc1, hg1⟩
    rw [← HW0.out] at hg1
    have hg01 := growB_trans hg0 hg1
    have B1 := BX.grown hg1 (fun e => by injection e with e; omega)
    have k2 := B1.cell 0
    simp at k2
    have hz1 := hg01.size
    clear H1 k0 k1
    rcases bb with _ | _
    · have HP := Lib.hid (pickB_any g (t + 2) (n : Int) w1 hc1 (by omega) (by omega))
      go_wp2_with fail
      refine HP.out.mono ?_
      rintro e w2 ⟨x, hx, rfl, hc2, hg2⟩
      go_wp2_with fail
      go_ret
      exact ⟨x, ⟨by omega, by omega⟩, rfl, hc2, growB_trans hg01 hg2⟩
    · have HA := Lib.hid (HAM.out w1 (t + 2) w1.heap.size rfl hc1 hg01 (by omega))
      go_wp2_with fail
      refine HA.out.mono ?_
      rintro e w2 ⟨x, hx, rfl, hc2, hg2⟩
      go_wp2_with fail
      go_ret
      exact ⟨x, hx, rfl, hc2, hg2⟩
def BoolD (w : World) (e : Ending) (w' : World) : Prop := ∃ b : Bool, e = .returned (.bool b) ∧ Below w.heap.size w w'
set_option maxHeartbeats 400000 in
theorem l23Less_any (A : Option Addr) (n c : Nat) (xss : List (List Int)) (x y : Nat) (w : World) (h : RdL (RV RI) w A n xss) (hy : y < n) :
    Calls Try.prog 67 #[.agg #[.slice A n c], .int .i64 x, .int .i64 y] w (BoolD w) := by
  by_cases hxy : x = y
  · have h1 : ((x : Int) != (y : Int)) = false := by simp; omega
    go_enter Try.func67, Try.ntmps67
    go_wp2_with fail
    go_ret
    exact ⟨false, rfl, below_box _ _⟩
  · have h1 : ((x : Int) != (y : Int)) = true := by simp; omega
    have hb0 := below_box w (.cells #[.slice A n c] 26)
    have k0 := (Blk.new w 26 #[.slice A n c]).cell 0
    simp at k0
    go_enter Try.func67, Try.ntmps67
    go_wp2_with fail
    refine (l23Leq_any A n c xss (x : Int) y _ (h.next stab_RVI hb0) hy).mono ?_
    rintro e w1 ⟨rfl, hb⟩
    go_wp2_with fail
    go_ret
    exact ⟨_, rfl, below_next hb0 hb rfl⟩
set_option maxHeartbeats 2000000 in
theorem l23Covers_any (A : Option Addr) (n c : Nat) (xss : List (List Int)) (x y : Nat) (w : World) (h : RdL (RV RI) w A n xss) (hy : y < n) :
    Calls Try.prog 53 #[.agg #[.slice A n c], .int .i64 x, .int .i64 y] w (BoolD w) := by
  have hle := h.le
  have hb := below_box w (.cells #[.slice A n c] 26)
  have BX := Blk.new w 26 #[.slice A n c]
  have k0 := BX.cell 0
  simp at k0
  have h1 := h.next stab_RVI hb
  go_enter Try.func53, Try.ntmps53
  go_wp2_with fail
  refine (l23Less_any A n c xss x y _ h1 hy).mono ?_
  rintro e w1 ⟨b, rfl, hb1⟩
  have hT := below_next hb hb1 rfl
  have B1 := BX.next hb1
  have h2 := h1.next stab_RVI hb1
  clear k0 hb h1 BX hb1
  rcases b with _ | _
  · go_wp2_with fail
    go_ret
    exact ⟨false, rfl, hT⟩
  · go_wp2_with fail
    go_loopw [7] (fun i wr => ∃ z : Nat, z ≤ n ∧ i = .int .i64 z ∧ Below w1.heap.size w1 wr) (fun i _ => n - (intOf i).toNat)
    case atStart => exact ⟨0, Nat.zero_le _, rfl, Below.refl _ _⟩
    case round =>
      obtain ⟨z, hz, rfl, hTr⟩ := hrel
      replace h2 := h2.next stab_RVI hTr
      have k1 := (B1.next hTr).cell 0
      simp at k1
      have hT2 := below_next hT hTr rfl
      by_cases hlt : z < n
      · have hz1 : (z : Int) < (n : Int) := by omega
        go_wp2_with fail
        refine (l23Less_any A n c xss x z wr h2 hlt).mono ?_
        rintro e w2 ⟨b, rfl, hb2⟩
        have hTr2 := below_next hTr hb2 rfl
        have k2 := (B1.next hTr2).cell 0
        simp at k2
        rcases b with _ | _
        · go_wp2_with fail
          go_roundw
          case rel => exact ⟨z + 1, by omega, by go_num, hTr2⟩
          case measure => simp [intOf]; omega
        · go_wp2_with fail
          refine (l23Less_any A n c xss z y w2 (h2.next stab_RVI hb2) hy).mono ?_
          rintro e w3 ⟨b, rfl, hb3⟩
          have hTr3 := below_next hTr2 hb3 rfl
          rcases b with _ | _
          · go_wp2_with fail
            go_roundw
            case rel => exact ⟨z + 1, by omega, by go_num, hTr3⟩
            case measure => simp [intOf]; omega
          · go_wp2_with fail
            go_ret
            exact ⟨false, rfl, below_next hT hTr3 rfl⟩
      · obtain rfl : n = z := by omega
        have hz1 : ¬ (n : Int) < (n : Int) := by omega
        go_wp2_with fail
        go_ret
        exact ⟨true, rfl, hT2⟩
/-- The call hands back pairs of its own. -/
def PrsD (n : Nat) (w : World) (e : Ending) (w' : World) : Prop := ∃ A m c, e = .returned (.slice A m c) ∧ OwPr w.heap.size n w' (.slice A m c) m ∧ m ≤ n * n ∧ Below w.heap.size w w'
set_option maxHeartbeats 4000000 in
theorem l23Pairs_any (A : Option Addr) (n c : Nat) (xss : List (List Int)) (w : World) (h : RdL (RV RI) w A n xss) (hn : n ≤ 1000) :
    Calls Try.prog 48 #[.agg #[.slice A n c]] w (PrsD n w) := by
  have hle := h.le
  have hb := below_box w (.cells #[.slice A n c] 26)
  obtain ⟨w0, HW0⟩ : ∃ wb, Hid (wb = w.alloc (.cells #[.slice A n c] 26)) := ⟨_, rfl⟩
  have hb0 : Below w.heap.size w w0 := by rw [HW0.out]; exact below_box _ _
  have BX : Blk w0 w.heap.size 26 #[.slice A n c] := by rw [HW0.out]; exact Blk.new _ _ _
  obtain ⟨w1, HW1⟩ : ∃ wb, Hid (wb = w0.alloc (.cells #[] 83)) := ⟨_, rfl⟩
  have hb1 : Below w0.heap.size w0 w1 := by rw [HW1.out]; exact below_box _ _
  have hs0 : w0.heap.size = w.heap.size + 1 := by rw [HW0.out]; simp
  have hP1 : OwPr (w.heap.size + 1) n w1 (.slice (some ⟨w.heap.size + 1, 0, none⟩) 0 0) 0 := by rw [HW1.out, ← hs0]; exact OwPr.lit w0 n [] 0 (fun x hx => by simp at hx) (by omega) rfl
  have B1 := BX.next hb1
  have h1 := (h.next stab_RVI hb0).next stab_RVI hb1
  have hT1 := below_next hb0 hb1 rfl
  have hz1 : w.heap.size + 1 ≤ w1.heap.size := by have := hb1.size; omega
  have hTw := hT1
  clear hb BX hb1
  go_enter Try.func48, Try.ntmps48
  go_wp2_with fail
  rw [← HW0.out, ← HW1.out]
  go_loopw [3, 4, 5] (fun v i _ wr => ∃ (x : Nat) (A' : Option Addr) (m c' : Nat), x ≤ n ∧ i = .int .i64 x ∧ v = .slice A' m c' ∧ m ≤ n * x ∧ OwPr (w.heap.size + 1) n wr (.slice A' m c') m ∧ Below (w.heap.size + 1) w1 wr) (fun _ i _ _ => n - (intOf i).toNat)
  case atStart => exact ⟨0, _, 0, 0, Nat.zero_le _, rfl, rfl, Nat.zero_le _, hP1, Below.refl _ _⟩
  case round =>
    clear hP1
    obtain ⟨x, A', m, c', hx, rfl, rfl, hm, hP, hT⟩ := hrel
    have k1 := (B1.below hT (by omega)).cell 0
    simp at k1
    by_cases hlx : x < n
    · have hx1 : (x : Int) < (n : Int) := by omega
      go_wp2_with fail
      go_loopw [3, 5] (fun v i wr => ∃ (y : Nat) (A' : Option Addr) (m c' : Nat), y ≤ n ∧ i = .int .i64 y ∧ v = .slice A' m c' ∧ m ≤ n * x + y ∧ OwPr (w.heap.size + 1) n wr (.slice A' m c') m ∧ Below (w.heap.size + 1) w1 wr) (fun _ i _ => n - (intOf i).toNat)
      case atStart => exact ⟨0, A', m, c', Nat.zero_le _, rfl, rfl, by omega, hP, hT⟩
      case round =>
        clear hP hT hm k1
        obtain ⟨y, A', m, c', hy, rfl, rfl, hm, hP, hT⟩ := hrel
        have k1 := (B1.below hT (by omega)).cell 0
        simp at k1
        by_cases hly : y < n
        · have hy1 : (y : Int) < (n : Int) := by omega
          have hr := h.next stab_RVI (hTw.trans (hT.mono (by omega)))
          have hlo := Nat.le_trans hz1 hT.size
          go_wp2_with fail
          refine (l23Covers_any A n c xss x y wr hr hly).mono ?_
          rintro e w2 ⟨b, rfl, hb2⟩
          have hP2 := hP.next hb2
          have hT2 := hT.trans (hb2.mono hlo)
          rcases b with _ | _
          · go_wp2_with fail
            go_roundw
            case rel => exact ⟨y + 1, A', m, c', by omega, by go_num, rfl, by omega, hP2, hT2⟩
            case measure => simp [intOf]; omega
          · obtain ⟨ps, hps, hpb⟩ := hP2
            have HPB := Lib.hid hpb
            have hz2 := Nat.le_trans hlo hb2.size
            have hmm : m ≤ 1001000 := by have h1 := Nat.mul_le_mul hn (Nat.le_of_lt hlx); have : n * x ≤ 1000 * n := Nat.mul_le_mul hn (Nat.le_of_lt hlx); omega
            clear hpb hP
            go_wp2_with (at_builtin; refine app2p w2 rfl _ _ 81 83 rfl (.agg #[.int .i64 0, .int .i64 0]) 16 Try.underlying81 info_pair rfl (by decide) (w.heap.size + 1) m c' A' (ints ps) rfl hps (.int .i64 x) (.int .i64 y) rfl rfl rfl (by omega) hz2 ?_; intro A5 c5 w5 hown5 hg5 hb5)
            have hP5 := OwPr.snoc hown5 HPB.out hlx hly
            clear hown5 hg5 hps
            go_roundw
            case rel => exact ⟨y + 1, A5, m + 1, c5, by omega, by go_num, rfl, by omega, hP5, hT2.trans hb5⟩
            case measure => simp [intOf]; omega
        · obtain rfl : n = y := by omega
          have hy1 : ¬ (n : Int) < (n : Int) := by omega
          go_wp2_with fail
          go_roundw
          case rel => exact ⟨x + 1, A', m, c', by omega, by go_num, rfl, by rw [Nat.mul_succ]; exact hm, hP, hT⟩
          case measure => simp [intOf]; omega
    · obtain rfl : n = x := by omega
      have hx1 : ¬ (n : Int) < (n : Int) := by omega
      go_wp2_with fail
      go_ret
      exact ⟨A', m, c', rfl, by obtain ⟨ps, h1, h2⟩ := hP; exact ⟨ps, own_mono h1 (by omega), h2⟩, hm, hTw.trans (hT.mono (by omega))⟩
end Go.Proofs.Ytlncpabnlnipoaa
