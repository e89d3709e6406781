
/- Walks: the closure of UpperAdjoint, those, greatest. -/
import Derived.Test.YtfcjhmaggefhaaaMono
namespace Go.Proofs.Ytfcjhmaggefhaaa
open Go.RowKit

def upF (G : Nat → Nat → Bool) (fs : List Int) : Nat → Nat → Bool := fun a b => G (fAt fs a) b

set_option maxRecDepth 20000 in
set_option maxHeartbeats 1000000 in
theorem upClo_any (B C : Option Addr) (m n d e : Nat) (G : Nat → Nat → Bool) (fs : List Int) (x y g1 g2 g3 : Nat) (w : World) (hr : RdL (RV RB) w B m (tab m G)) (hf : RdL RI w C n fs) (hin : ∀ x ∈ fs, 0 ≤ x ∧ x ≤ (m : Int) - 1) (hx : x < n) (hy : y < m)
    (c1 : w.cell? ⟨g1, 0, none⟩ = some (.slice B m d)) (c2 : w.cell? ⟨g2, 0, none⟩ = some (.slice C n e)) (c3 : w.cell? ⟨g3, 0, none⟩ = some (.int .i64 y)) :
    Calls Try.prog 89 #[.int .i64 x, .pointer (some ⟨g1, 0, none⟩), .pointer (some ⟨g2, 0, none⟩), .pointer (some ⟨g3, 0, none⟩)] w (Qt w (.bool (upF G fs x y))) := by
  have hle := hr.le
  have hle' := hf.le
  obtain ⟨fb, fo, rfl⟩ := hf.addr hx
  obtain ⟨v, x', hcf, ⟨rfl, -⟩, -, hx'⟩ := hf.at' hx
  have hxm := hin x' (List.mem_of_getElem? hx')
  obtain ⟨x', rfl⟩ := Int.eq_ofNat_of_zero_le hxm.1
  have hx0 : (0 : Int) ≤ (x' : Int) := by omega
  have hx1 : (x' : Int) < (m : Int) := by omega
  have hxn : x' < m := by omega
  obtain ⟨b2, o2, rfl⟩ := hr.addr hxn
  obtain ⟨r2, p2, d2, hc2, hall2⟩ := hr.rowT hxn
  have HX := Lib.hid (fAt_get hx')
  have hkq := hall2 y hy
  have hy0 : (0 : Int) ≤ (y : Int) := by omega
  have hy1 : (y : Int) < (m : Int) := by omega
  have hk0 : (0 : Int) ≤ (x : Int) := by omega
  have hk1 : (x : Int) < (n : Int) := by omega
  clear hall2 hx' hxm hin
  go_enter Try.func89, Try.ntmps89
  go_wp2
  go_quiet (fail)
  go_wp2
  go_ret
  exact ⟨ret_bool (by unfold upF; rw [HX.out]), (by first | exact Drawn.zero _ | exact Drawn.at_ _ _ | exact (Drawn.at_ _ _).more _ | exact ((Drawn.at_ _ _).more _).more _)⟩

set_option maxRecDepth 20000 in
set_option maxHeartbeats 1000000 in
theorem those_any (A B C : Option Addr) (m n c d e : Nat) (G : Nat → Nat → Bool) (fs : List Int) (y g1 g2 g3 : Nat) (w : World) (hr : RdL (RV RB) w B m (tab m G)) (hf : RdL RI w C n fs) (hin : ∀ x ∈ fs, 0 ≤ x ∧ x ≤ (m : Int) - 1) (hn : n ≤ 1048576) (hy : y < m)
    (c1 : w.cell? ⟨g1, 0, none⟩ = some (.slice B m d)) (c2 : w.cell? ⟨g2, 0, none⟩ = some (.slice C n e)) (c3 : w.cell? ⟨g3, 0, none⟩ = some (.int .i64 y)) :
    Calls Try.prog 88 #[.slice A n c, .func (.func 89) #[] #[.pointer (some ⟨g1, 0, none⟩), .pointer (some ⟨g2, 0, none⟩), .pointer (some ⟨g3, 0, none⟩)]] w fun e w' => ∃ A' n' c', e = .returned (.slice A' n' c') ∧ (rowTo (upF G fs) y n).length = n' ∧ w'.ownsRow w.heap.size 3 1 (.slice A' n' c') n' (ints (rowTo (upF G fs) y n)) ∧ Below w.heap.size w w' := by
  have HIN := Lib.hid hin
  clear hin
  go_enter Try.func88, Try.ntmps88
  go_wp2
  go_loopw [5, 10] (fun v i wr => ∃ (k m : Nat) (acc : List Int), k ≤ n ∧ m ≤ k ∧ i = .int .i64 k ∧ acc = rowTo (upF G fs) y k ∧ Gat w.heap.size w wr v m acc) (fun _ i _ => n - (intOf i).toNat)
  case atStart => exact ⟨0, 0, [], Nat.zero_le _, Nat.le_refl _, rfl, rfl, _, _, rfl, rfl, World.ownsRow_lit _ _ _ (Nat.le_refl _) (Nat.zero_le _) rfl, below_box _ _⟩
  case round =>
    obtain ⟨k, m', acc, hk, hmk, rfl, hacc2, A', c', rfl, hacc, hown, hT⟩ := hrel
    replace hr := hr.next stab_RVB hT
    replace hf := hf.next stab_RI hT
    replace c1 := keepc hT c1
    replace c2 := keepc hT c2
    replace c3 := keepc hT c3
    have HA := Lib.hid hacc
    have HA2 := Lib.hid hacc2
    clear hacc hacc2
    by_cases hlt : k < n
    · have hbase := hT.size
      have hk1 : (k : Int) < (n : Int) := by omega
      go_wp2_with fail
      refine (upClo_any _ _ _ _ _ _ G fs k y g1 g2 g3 _ hr hf HIN.out hlt hy c1 c2 c3).mono ?_
      rintro e w2 ⟨rfl, z, rfl⟩
      rcases hb : upF G fs k y with _ | _
      · have HB := Lib.hid hb
        go_wp2_with fail
        go_roundw
        case rel => exact ⟨k + 1, m', acc, by omega, by omega, by go_num, by rw [rowTo_succ, if_neg (by rw [HB.out]; decide)]; exact HA2.out, A', c', rfl, HA.out, own_drewN hown z, below_drewN hT z⟩
        case measure => simp [intOf]; omega
      · have HB := Lib.hid hb
        have hown1 := own_drewN hown z
        have hT1 := below_drewN hT z
        have hbase1 := hT1.size
        obtain ⟨w3, hw3⟩ : ∃ w3, w3 = wr.drewN z := ⟨_, rfl⟩
        rw [← hw3] at hown1 hT1 hbase1 ⊢
        clear hw3
        go_wp2_with (at_builtin; refine app1 w3 rfl _ _ 25 3 rfl (.int .i64 0) 8 Try.underlying25 info_int rfl (by decide) w.heap.size m' c' A' (ints acc) rfl hown1 (.int .i64 k) rfl rfl (by omega) hbase1 ?_; intro A2 c2 w2 hown2 hg2 hb2)
        go_roundw
        case rel => exact ⟨k + 1, m' + 1, acc ++ [(k : Int)], by omega, by omega, by go_num, by rw [rowTo_succ, if_pos HB.out, HA2.out], A2, c2, rfl, by simp [HA.out], by rw [ints_snoc]; exact hown2, hT1.trans hb2⟩
        case measure => simp [intOf]; omega
    · obtain rfl : k = n := by omega
      have hlt' : ¬ (k : Int) < (k : Int) := by omega
      go_wp2
      go_ret
      exact ⟨_, _, _, rfl, by rw [← HA2.out]; exact HA.out, by rw [← HA2.out]; exact hown, hT⟩
end Go.Proofs.Ytfcjhmaggefhaaa
