
/- Walks: the harness's marks on records: writing and reading them. -/
import Derived.Test.YteogfjddkaodkaaDoorMarkT
import Derived.Deep.DeepCutAuto
namespace Go.Proofs.YteogfjddkaodkaaDoor
open Go.RowKit

def Mk2 (cur : Array Value) (k j : Nat) : Prop := ∀ i, i < j → cur[i * 2]? = some (.string (markB (k + 2 * i))) ∧ cur[i * 2 + 1]? = some (.string (markB (k + 2 * i + 1)))
theorem Mk2.step {cur : Array Value} {k j : Nat} (h : Mk2 cur k j) (hs : j * 2 + 1 < cur.size) : Mk2 ((cur.setIfInBounds (j * 2) (.string (markB (k + 2 * j)))).setIfInBounds (j * 2 + 1) (.string (markB (k + 2 * j + 1)))) k (j + 1) := by
  intro i hi
  by_cases hij : i = j
  · subst hij
    constructor
    · rw [Array.getElem?_setIfInBounds_ne (by omega), Array.getElem?_setIfInBounds_self_of_lt (by omega)]
    · rw [Array.getElem?_setIfInBounds_self_of_lt (by simp; omega)]
  · have := h i (by omega)
    constructor
    · rw [Array.getElem?_setIfInBounds_ne (by omega), Array.getElem?_setIfInBounds_ne (by omega)]
      exact this.1
    · rw [Array.getElem?_setIfInBounds_ne (by omega), Array.getElem?_setIfInBounds_ne (by omega)]
      exact this.2
/-- A row of records of a call's own, its first j records marked from k on. -/
def MRow (base : Nat) (w : World) (A : Option Addr) (n k j : Nat) : Prop := 0 < n → ∃ g cur, A = some ⟨g, 0, none⟩ ∧ base ≤ g ∧ Blk w g 27 cur ∧ n * 2 ≤ cur.size ∧ Mk2 cur k j
theorem MRow.start {base n c k : Nat} {w : World} {A : Option Addr} {xs : List Value} (h : w.ownsRow base 27 2 (.slice A n c) n xs) : MRow base w A n k 0 := by
  intro hn
  rcases h.2 with ⟨h1, h2⟩ | ⟨g, cap, cur, hv, hb, hg, hc, -, hs, -⟩
  · omega
  · injection hv with hA _ _
    exact ⟨g, cur, hA, hb, hg, by rw [hs]; exact Nat.mul_le_mul_right 2 hc, fun i hi => by omega⟩
theorem MRow.next {base n k j : Nat} {w w' : World} {A : Option Addr} (h : MRow base w A n k j) (hb : Below w.heap.size w w') : MRow base w' A n k j := by
  intro hn
  obtain ⟨g, cur, h1, h2, h3, h4, h5⟩ := h hn
  exact ⟨g, cur, h1, h2, h3.next hb, h4, h5⟩

theorem below_to {B : Nat} {a w w' : World} (h : Below B a w) (k : Below w.heap.size w w') (hB : B ≤ w.heap.size := by omega) : Below B a w' := ⟨k.os.trans h.os, k.tape.trans h.tape, k.output.trans h.output, Nat.le_trans h.size k.size, fun b hb => (k.block b (Nat.lt_of_lt_of_le hb hB)).trans (h.block b hb)⟩

set_option maxRecDepth 20000 in
set_option maxHeartbeats 4000000 in
theorem markRecs_any (base : Nat) (A : Option Addr) (n c k0 : Nat) (w : World) (h : MRow base w A n k0 0) (hbw : base ≤ w.heap.size) (hn : n ≤ 60) (hk0 : 0 < k0) (hk1 : k0 ≤ 100) :
    Calls Tryd.prog 33 #[.slice A n c, .int .i64 k0] w (fun e w' => e = .returned (.int .i64 ((k0 : Int) + 2 * n)) ∧ MRow base w' A n k0 n ∧ Below base w w') := by
  go_enter Tryd.func33, Tryd.ntmps33
  go_wp2
  go_loopw [1, 5] (fun v i wr => ∃ (j k : Nat), i = .int .i64 j ∧ v = .int .i64 k ∧ k = k0 + 2 * j ∧ j ≤ n ∧ MRow base wr A n k0 j ∧ Below base w wr) (fun _ i _ => n - (intOf i).toNat)
  case atStart => exact ⟨0, k0, rfl, rfl, by omega, Nat.zero_le _, h, Below.refl _ _⟩
  case round =>
    obtain ⟨j, k, rfl, rfl, hk, hj, H, hT⟩ := hrel
    have HK := Lib.hid hk
    have hkb : 0 < k ∧ k ≤ 300 := by omega
    have hsz := hT.size
    clear hk
    by_cases hlt : j < n
    · obtain ⟨g, cur, rfl, hg, BX, hcs, HM⟩ := H (by omega)
      have hj0 : (0 : Int) ≤ (j : Int) := by omega
      have hj1 : (j : Int) < (n : Int) := by omega
      go_wp2_with fail
      refine (markText_any k hkb.1 (by omega) _).mono ?_
      rintro e w1 ⟨rfl, hb1⟩
      have BX1 := BX.next hb1
      have c10 := BX1.cell (j * 2)
      have f10 := BX1.frozen (j * 2)
      rw [Array.getElem?_eq_getElem (by omega)] at c10
      go_wp2_with fail
      have BX2 := BX1.set_ (j * 2) (.string (markB k))
      have hT1 := below_to hT hb1 (Nat.le_trans hbw hT.size)
      have hT2 := Below.setCell hT1 (show base ≤ (⟨g, j * 2, none⟩ : Addr).block from hg) (.string (markB k))
      obtain ⟨w2, hw2⟩ : ∃ w2, Hid (w2 = w1.setCell ⟨g, j * 2, none⟩ (.string (markB k))) := ⟨_, rfl⟩
      rw [← hw2.out] at BX2 hT2 ⊢
      have e1 : ((k + 1 : Nat) : Int) = (k : Int) + 1 := by omega
      have hm2 := markText_any (k + 1) (by omega) (by omega) w2
      rw [e1] at hm2
      refine hm2.mono ?_
      rintro e w3 ⟨rfl, hb3⟩
      have BX3 := BX2.next hb3
      have hT3 := below_to hT2 hb3 (Nat.le_trans hbw hT2.size)
      have hcs2 : j * 2 + 1 < (cur.setIfInBounds (j * 2) (.string (markB k))).size := by simp; omega
      have c11 := BX3.cell (j * 2 + 1)
      have f11 := BX3.frozen (j * 2 + 1)
      rw [Array.getElem?_eq_getElem hcs2] at c11
      clear c10 f10 hb1 hb3 hm2
      go_wp2_with fail
      have BX4 := BX3.set_ (j * 2 + 1) (.string (markB (k + 1)))
      have hT4 := Below.setCell hT3 (show base ≤ (⟨g, j * 2 + 1, none⟩ : Addr).block from hg) (.string (markB (k + 1)))
      have HM' := HM.step (by omega)
      rw [← HK.out] at HM'
      have hk2 := HK.out
      go_roundw
      case rel => exact ⟨j + 1, k + 2, by go_num, by go_num, by omega, by omega, fun _ => ⟨g, _, rfl, hg, BX4, by simp; omega, HM'⟩, hT4⟩
      case measure => simp [intOf]; omega
    · obtain rfl : j = n := by omega
      have hjn : ¬ (j : Int) < (j : Int) := by omega
      go_wp2_with fail
      go_ret
      exact ⟨ret_int (by rw [HK.out]; omega), H, hT⟩

theorem str_self (s : ByteArray) : (s.toList != s.toList) = false := by simp
set_option maxRecDepth 20000 in
set_option maxHeartbeats 4000000 in
theorem heldRecs_any (base : Nat) (A : Option Addr) (n c k0 : Nat) (w : World) (h : MRow base w A n k0 n) (hn : n ≤ 60) (hk0 : 0 < k0) (hk1 : k0 ≤ 100) :
    Calls Tryd.prog 34 #[.slice A n c, .int .i64 k0] w (Bl w (.int .i64 ((k0 : Int) + 2 * n))) := by
  go_enter Tryd.func34, Tryd.ntmps34
  go_wp2
  go_loopw [1, 5] (fun v i wr => ∃ (j k : Nat), i = .int .i64 j ∧ v = .int .i64 k ∧ k = k0 + 2 * j ∧ j ≤ n ∧ Below w.heap.size w wr) (fun _ i _ => n - (intOf i).toNat)
  case atStart => exact ⟨0, k0, rfl, rfl, by omega, Nat.zero_le _, Below.refl _ _⟩
  case round =>
    obtain ⟨j, k, rfl, rfl, hk, hj, hT⟩ := hrel
    have HK := Lib.hid hk
    have hkb : 0 < k ∧ k ≤ 300 := by omega
    clear hk
    have H := h.next hT
    by_cases hlt : j < n
    · obtain ⟨g, cur, rfl, hg, BX, hcs, HM⟩ := H (by omega)
      have hj0 : (0 : Int) ≤ (j : Int) := by omega
      have hj1 : (j : Int) < (n : Int) := by omega
      have m0 : wr.cell? ⟨g, j * 2, none⟩ = some (.string (markB k)) := by rw [BX.cell, HK.out]; exact (HM j hlt).1
      have m1 : wr.cell? ⟨g, j * 2 + 1, none⟩ = some (.string (markB (k + 1))) := by rw [BX.cell, HK.out]; exact (HM j hlt).2
      have hm1 := fun W => markText_any k hkb.1 (by omega) W
      have hm2 := fun W => markText_any (k + 1) (by omega) (by omega) W
      have e1 : ((k + 1 : Nat) : Int) = (k : Int) + 1 := by omega
      simp only [e1] at hm2
      have s1 := str_self (markB k)
      have s2 := str_self (markB (k + 1))
      clear e1
      have Tk : Below wr.heap.size wr wr := Below.refl _ _
      go_upto_region 4 with fail
      go_region_held3 (fun w' => w'.cell? ⟨g, j * 2, none⟩ = some (.string (markB k))) (first | go_keep | exact keepc Tk m0) (first | (go_at_call 52; refine (hm1 _).mono ?_; rintro e w1 ⟨rfl, hb1⟩; replace Tk := below_next (by first | exact Tk | exact Below.drew Tk) hb1 rfl) | fail)
      have m3 := keepc Tk m1
      have hT1 := below_next hT Tk rfl
      clear m0 m1 Tk hm1 hb1 s1
      have Tj : Below w1.heap.size w1 w1 := Below.refl _ _
      go_upto_region 7 with fail
      go_region_held3 (fun w' => w'.cell? ⟨g, j * 2 + 1, none⟩ = some (.string (markB (k + 1)))) (first | go_keep | exact keepc Tj m3) (first | (go_at_call 52; refine (hm2 _).mono ?_; rintro e w2 ⟨rfl, hb2⟩; replace Tj := below_next (by first | exact Tj | exact Below.drew Tj) hb2 rfl) | fail)
      have hT2 := below_next hT1 Tj rfl
      have hk2 := HK.out
      go_wp2_with fail
      go_roundw
      case rel => exact ⟨j + 1, k + 2, by go_num, by go_num, by omega, by omega, hT2⟩
      case measure => simp [intOf]; omega
    · obtain rfl : j = n := by omega
      have hjn : ¬ (j : Int) < (j : Int) := by omega
      go_wp2_with fail
      go_ret
      exact ⟨ret_int (by rw [HK.out]; omega), hT⟩
end Go.Proofs.YteogfjddkaodkaaDoor
