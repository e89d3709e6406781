
/- Walks: what the cursor picks. -/
import Derived.Test.YteogfjddkaodkaaDoorCur
namespace Go.Proofs.YteogfjddkaodkaaDoor
open Go.RowKit

def PickE (w : World) (g t : Nat) (n : Int) (e : Ending) (w' : World) : Prop := ∃ x : Nat, ((x : Int) < n ∨ x = 0) ∧ e = .returned (.int .i64 x) ∧ CurOk w' g t ∧ w.grownBy w' (some g)

theorem mod_nat {x n : Int} (hn : 0 < n) : ∃ z : Nat, (z : Int) < n ∧ x % n = z := by
  have h1 := Int.emod_nonneg x (show n ≠ 0 by omega)
  have h2 := Int.emod_lt_of_pos x hn
  exact ⟨(x % n).toNat, by omega, by omega⟩

set_option maxRecDepth 20000 in
set_option maxHeartbeats 4000000 in
theorem pick_any (g t : Nat) (n : Int) (w : World) (h : CurOk w g t) (ht : t ≤ 999999998) (hn : n ≤ 9223372036854775807) :
    Calls Tryd.prog 56 #[.pointer (some ⟨g, 0, none⟩), .int .i64 n] w (PickE w g (t + 2) n) := by
  go_enter Tryd.func56, Tryd.ntmps56
  by_cases h1 : n ≤ 1
  · go_wp2_with fail
    go_ret
    exact ⟨0, .inr rfl, rfl, h.mono (by omega), grown_refl _ _⟩
  · go_wp2_with fail
    refine (cnext_any g t _ h (by omega)).mono ?_
    rintro e w1 ⟨x, hx, rfl, hc1, hg1⟩
    have hx0 : (0 : Int) ≤ (x : Int) := by omega
    have hx1 : (x : Int) < 256 := by omega
    by_cases h2 : 200 < n
    · go_wp2_with fail
      refine (cnext_any g (t + 1) _ hc1 (by omega)).mono ?_
      rintro e w2 ⟨y, hy, rfl, hc2, hg2⟩
      have hy0 : (0 : Int) ≤ (y : Int) := by omega
      have hy1 : (y : Int) < 256 := by omega
      have hG := grown_trans hg1 hg2
      go_wp2_with fail
      obtain ⟨z, hz, hze⟩ := mod_nat (x := (x : Int) * 256 + y) (n := n) (by omega)
      go_ret
      exact ⟨z, .inl hz, ret_int hze, hc2, hG⟩
    · go_wp2_with fail
      obtain ⟨z, hz, hze⟩ := mod_nat (x := (x : Int)) (n := n) (by omega)
      go_ret
      exact ⟨z, .inl hz, ret_int hze, hc1.mono (by omega), hg1⟩

set_option maxHeartbeats 1000000 in
theorem one_any (g t : Nat) (n : Int) (w : World) (h : CurOk w g t) (ht : t ≤ 999999998) (hn : n ≤ 9223372036854775807) :
    Calls Tryd.prog 58 #[.pointer (some ⟨g, 0, none⟩), .int .i64 n] w (fun e w' => ∃ b, e = .returned (.bool b) ∧ CurOk w' g (t + 2) ∧ w.grownBy w' (some g)) := by
  go_enter Tryd.func58, Tryd.ntmps58
  go_wp2_with fail
  refine (pick_any g t n _ h ht hn).mono ?_
  rintro e w1 ⟨x, -, rfl, hc1, hg1⟩
  go_wp2_with fail
  go_ret
  exact ⟨_, rfl, hc1, hg1⟩

/-- A list of texts that may be picked from: none longer than M. -/
def TextsIn (w : World) (g b n M : Nat) : Prop := b ≠ g ∧ 0 < n ∧ n ≤ 1000 ∧ ∀ i, i < n → ∃ s : ByteArray, s.size ≤ M ∧ w.cell? ⟨b, i, none⟩ = some (.string s)
set_option maxHeartbeats 1000000 in
theorem of_any (g t b n c M : Nat) (w : World) (h : CurOk w g t) (ht : t ≤ 999999998) (hl : TextsIn w g b n M) :
    Calls Tryd.prog 74 #[.pointer (some ⟨g, 0, none⟩), .slice (some ⟨b, 0, none⟩) n c] w (fun e w' => ∃ s : ByteArray, s.size ≤ M ∧ e = .returned (.string s) ∧ CurOk w' g (t + 2) ∧ w.grownBy w' (some g)) := by
  obtain ⟨hbg, hn0, hn1, hc⟩ := hl
  go_enter Tryd.func74, Tryd.ntmps74
  go_wp2_with fail
  refine (pick_any g t n _ h ht (by omega)).mono ?_
  rintro e w1 ⟨x, hx, rfl, hc1, hg1⟩
  have hxn : x < n := by omega
  have hx0 : (0 : Int) ≤ (x : Int) := by omega
  have hx1 : (x : Int) < (n : Int) := by omega
  obtain ⟨s, hs, hcs⟩ := hc x hxn
  have hcs1 : w1.cell? ⟨b, x, none⟩ = some (.string s) := (World.cell?_of_block (hg1.block b (cell_lt hcs) (by simpa using hbg))).trans hcs
  clear hx
  go_wp2_with fail
  go_ret
  exact ⟨s, hs, rfl, hc1, hg1⟩
/-- A list of numbers that may be picked from. -/
def NumsIn (w : World) (g b n : Nat) : Prop := b ≠ g ∧ 0 < n ∧ n ≤ 1000 ∧ ∀ i, i < n → ∃ x : Int, -1000 ≤ x ∧ x ≤ 1000 ∧ w.cell? ⟨b, i, none⟩ = some (.int .i64 x)
set_option maxHeartbeats 1000000 in
theorem among_any (g t b n c : Nat) (w : World) (h : CurOk w g t) (ht : t ≤ 999999998) (hl : NumsIn w g b n) :
    Calls Tryd.prog 53 #[.pointer (some ⟨g, 0, none⟩), .slice (some ⟨b, 0, none⟩) n c] w (fun e w' => ∃ x : Int, -1000 ≤ x ∧ x ≤ 1000 ∧ e = .returned (.int .i64 x) ∧ CurOk w' g (t + 2) ∧ w.grownBy w' (some g)) := by
  obtain ⟨hbg, hn0, hn1, hc⟩ := hl
  go_enter Tryd.func53, Tryd.ntmps53
  go_wp2_with fail
  refine (pick_any g t n _ h ht (by omega)).mono ?_
  rintro e w1 ⟨x, hx, rfl, hc1, hg1⟩
  have hxn : x < n := by omega
  have hx0 : (0 : Int) ≤ (x : Int) := by omega
  have hx1 : (x : Int) < (n : Int) := by omega
  obtain ⟨y, hy0, hy1, hcs⟩ := hc x hxn
  have hcs1 : w1.cell? ⟨b, x, none⟩ = some (.int .i64 y) := (World.cell?_of_block (hg1.block b (cell_lt hcs) (by simpa using hbg))).trans hcs
  clear hx
  go_wp2_with fail
  go_ret
  exact ⟨y, hy0, hy1, rfl, hc1, hg1⟩
end Go.Proofs.YteogfjddkaodkaaDoor
