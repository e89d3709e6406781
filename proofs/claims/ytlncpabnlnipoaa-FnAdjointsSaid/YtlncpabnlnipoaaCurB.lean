
/- Walks: the cursor over drawn bytes, its code below a bound. Printed by gencurb.py. -/
import Derived.Test.YtlncpabnlnipoaaMem
import Derived.Test.YtlncpabnlnipoaaProg
import Derived.Deep.DeepCutAuto
import Derived.StillTactics
import Derived.Laws.BitsAllLaws
namespace Go.Proofs.Ytlncpabnlnipoaa
open Go.RowKit

section
variable {B : Nat}
/-- A cursor in block g: its code stands in another block, it has gone on by t bytes at most. -/
def CurB (B : Nat) (w : World) (g t : Nat) : Prop := ∃ (A : Option Addr) (n c : Nat) (a : Nat) (s : Int), Blk w g 48 #[.slice A n c, .int .i64 a, .int .u64 s] ∧ n ≤ 65536 ∧ a ≤ t ∧ 0 ≤ s ∧ s < 18446744073709551616 ∧
  (0 < n → ∃ b o, A = some ⟨b, o, none⟩ ∧ b ≠ g ∧ b < B ∧ ∀ i, i < n → ∃ x : Nat, x < 256 ∧ w.cell? ⟨b, o + i, none⟩ = some (.int .u8 x))
theorem grown_setB {w w' : World} {g : Nat} (h : w.grownBy w' (some g)) {p : Addr} (hp : p.block = g) (v : Value) : w.grownBy (w'.setCell p v) (some g) :=
  ⟨h.os, h.tape, h.output, by simpa using h.size, fun k hk hne => (Below.heap_setCell w' p v k (by intro he; rw [he, hp] at hne; exact hne rfl)).trans (h.block k hk hne)⟩
theorem grown_reflB (w : World) (r : Option Nat) : w.grownBy w r := ⟨rfl, rfl, rfl, Nat.le_refl _, fun _ _ _ => rfl⟩
theorem grown_transB {w w1 w2 : World} {r : Option Nat} (h : w.grownBy w1 r) (k : w1.grownBy w2 r) : w.grownBy w2 r :=
  ⟨k.os.trans h.os, k.tape.trans h.tape, k.output.trans h.output, Nat.le_trans h.size k.size, fun b hb hne => (k.block b (Nat.lt_of_lt_of_le hb h.size) hne).trans (h.block b hb hne)⟩
theorem CurB.mono {w : World} {g t t' : Nat} (h : CurB B w g t) (ht : t ≤ t') : CurB B w g t' := by
  obtain ⟨A, n, c, a, s, h1, h2, h3, h4⟩ := h
  exact ⟨A, n, c, a, s, h1, h2, by omega, h4⟩
theorem CurB.next_ {w w' : World} {g t : Nat} (h : CurB B w g t) (hb : Below w.heap.size w w') : CurB B w' g t := by
  obtain ⟨A, n, c, a, s, h1, h2, h3, h4, h5, h6⟩ := h
  refine ⟨A, n, c, a, s, h1.next hb, h2, h3, h4, h5, fun hn => ?_⟩
  obtain ⟨b, o, e, hne, hbB, hc⟩ := h6 hn
  exact ⟨b, o, e, hne, hbB, fun i hi => by
    obtain ⟨x, hx, hcx⟩ := hc i hi
    exact ⟨x, hx, (hb.cell (cell_lt hcx)).trans hcx⟩⟩

theorem u64_rangeB (x : Int) : 0 ≤ IntKind.u64.wrap x ∧ IntKind.u64.wrap x < 18446744073709551616 := by
  unfold IntKind.wrap
  simp [IntKind.signed, IntKind.bits]
  omega
theorem low_byteB (U : Int) (h0 : 0 ≤ U) (h1 : U < 18446744073709551616) : ∃ y : Nat, y < 256 ∧ wrap64 (bits BinOp.and IntKind.u64 (U / 1099511627776) 255) = y := by
  refine ⟨(U / 1099511627776).toNat &&& 255, Nat.lt_succ_of_le (Nat.and_le_right), ?_⟩
  rw [u64_and _ _ (by omega) (by omega) (by decide) (by decide)]
  have := @Nat.and_le_right (U / 1099511627776).toNat 255
  show wrap64 (((U / 1099511627776).toNat &&& 255 : Nat) : Int) = _
  unfold wrap64
  omega
def NextB (B : Nat) (w : World) (g t : Nat) (e : Ending) (w' : World) : Prop := ∃ x : Nat, x < 256 ∧ e = .returned (.int .i64 x) ∧ CurB B w' g t ∧ w.grownBy w' (some g)

set_option maxRecDepth 20000 in
set_option maxHeartbeats 4000000 in
theorem cnextB_any (g t : Nat) (w : World) (h : CurB B w g t) (ht : t ≤ 1000000000) :
    Calls Try.prog 64 #[.pointer (some ⟨g, 0, none⟩)] w (NextB B w g (t + 1)) := by
  obtain ⟨A, n, c, a, s, BX, hn, ha, hs0, hs1, hcode⟩ := h
  have c0 := BX.cell 0
  have c1 := BX.cell 1
  have c2 := BX.cell 2
  have f1 := BX.frozen 1
  have f2 := BX.frozen 2
  simp at c0 c1 c2
  by_cases hlt : a < n
  · obtain ⟨b, o, rfl, hbg, hbB, hc⟩ := hcode (by omega)
    obtain ⟨x, hx, hcx⟩ := hc a hlt
    have ha0 : (0 : Int) ≤ (a : Int) := by omega
    have ha1 : (a : Int) < (n : Int) := by omega
    have ha2 : (a : Int) ≤ 1000000000 := by omega
    have ha3 : (a : Int) + 1 ≤ (n : Int) := by omega
    have hwx : IntKind.i64.wrap (x : Int) = x := by unfold IntKind.wrap; simp [IntKind.signed, IntKind.bits]; omega
    go_enter Try.func64, Try.ntmps64
    go_wp2_with fail
    go_still (by kernel_rfl)
    have BX1 : Blk w.drew g 48 #[.slice (some ⟨b, o, none⟩) n c, .int .i64 a, .int .u64 s] := BX.drew
    have hcx1 : w.drew.cell? ⟨b, o + a, none⟩ = some (.int .u8 x) := hcx
    have G1 : w.grownBy w.drew (some g) := ⟨rfl, rfl, rfl, Nat.le_refl _, fun _ _ _ => rfl⟩
    show Exit.then _ _ Exit.normal _ w.drew
    generalize w.drew = w1 at BX1 hcx1 G1 ⊢
    clear c0 c1 c2 f1 f2
    have c0 := BX1.cell 0
    have c1 := BX1.cell 1
    have c2 := BX1.cell 2
    have f1 := BX1.frozen 1
    have f2 := BX1.frozen 2
    simp at c0 c1 c2
    go_wp2_with fail
    go_still (by kernel_rfl)
    have BX2 : Blk w1.drew g 48 #[.slice (some ⟨b, o, none⟩) n c, .int .i64 a, .int .u64 s] := BX1.drew
    have G2 : w.grownBy w1.drew (some g) := grown_transB G1 ⟨rfl, rfl, rfl, Nat.le_refl _, fun _ _ _ => rfl⟩
    show Exit.then _ _ Exit.normal _ w1.drew
    generalize w1.drew = w2 at BX2 G2 ⊢
    clear c0 c1 c2 f1 f2
    have c0 := BX2.cell 0
    have c1 := BX2.cell 1
    have c2 := BX2.cell 2
    have f1 := BX2.frozen 1
    have f2 := BX2.frozen 2
    simp at c0 c1 c2
    go_wp2_with fail
    obtain ⟨U, HU⟩ : ∃ U, Hid (IntKind.u64.wrap (IntKind.u64.wrap (IntKind.u64.wrap (s * 6364136223846793005) + ↑x) + 550289) = U) := ⟨_, rfl⟩
    have hU : 0 ≤ U ∧ U < 18446744073709551616 := by rw [← HU.out]; exact u64_rangeB _
    rw [HU.out]
    have BX3 : Blk ((w2.setCell ⟨g, 1, none⟩ (.int .i64 ((a : Int) + 1))).setCell ⟨g, 2, none⟩ (.int .u64 U)) g 48 #[.slice (some ⟨b, o, none⟩) n c, .int .i64 ((a + 1 : Nat) : Int), .int .u64 U] := by
      have h2 := (BX2.set_ 1 (.int .i64 ((a : Int) + 1))).set_ 2 (.int .u64 U)
      simpa using h2
    have G3 := grown_setB (grown_setB G2 (p := ⟨g, 1, none⟩) rfl (.int .i64 ((a : Int) + 1))) (p := ⟨g, 2, none⟩) rfl (.int .u64 U)
    generalize (w2.setCell ⟨g, 1, none⟩ (.int .i64 ((a : Int) + 1))).setCell ⟨g, 2, none⟩ (.int .u64 U) = w3 at BX3 G3 ⊢
    clear c0 c1 c2 f1 f2
    have c0 := BX3.cell 0
    have c1 := BX3.cell 1
    simp at c0 c1
    go_still (by kernel_rfl)
    have BX4 : Blk w3.drew g 48 #[.slice (some ⟨b, o, none⟩) n c, .int .i64 ((a + 1 : Nat) : Int), .int .u64 U] := BX3.drew
    have G4 : w.grownBy w3.drew (some g) := grown_transB G3 ⟨rfl, rfl, rfl, Nat.le_refl _, fun _ _ _ => rfl⟩
    show Exit.then _ _ Exit.normal _ w3.drew
    generalize w3.drew = w4 at BX4 G4 ⊢
    go_wp2_with fail
    go_ret
    exact ⟨x, hx, rfl, ⟨_, n, c, a + 1, U, BX4, hn, by omega, hU.1, hU.2, fun _ => ⟨b, o, rfl, hbg, hbB, fun i hi => by
      obtain ⟨y, hy, hcy⟩ := hc i hi
      exact ⟨y, hy, (World.cell?_of_block (G4.block b (cell_lt hcy) (by simpa using hbg))).trans hcy⟩⟩⟩, G4⟩
  · have ha0 : (0 : Int) ≤ (a : Int) := by omega
    have ha1 : ¬ (a : Int) < (n : Int) := by omega
    have ha2 : (a : Int) ≤ 1000000000 := by omega
    have ha3 : ¬ (a : Int) + 1 ≤ (n : Int) := by omega
    go_enter Try.func64, Try.ntmps64
    go_wp2_with fail
    go_still (by kernel_rfl)
    have BX2 : Blk w.drew g 48 #[.slice A n c, .int .i64 a, .int .u64 s] := BX.drew
    have G2 : w.grownBy w.drew (some g) := ⟨rfl, rfl, rfl, Nat.le_refl _, fun _ _ _ => rfl⟩
    show Exit.then _ _ Exit.normal _ w.drew
    generalize w.drew = w2 at BX2 G2 ⊢
    clear c0 c1 c2 f1 f2
    have c0 := BX2.cell 0
    have c1 := BX2.cell 1
    have c2 := BX2.cell 2
    have f1 := BX2.frozen 1
    have f2 := BX2.frozen 2
    simp at c0 c1 c2
    go_wp2_with fail
    obtain ⟨U, HU⟩ : ∃ U, Hid (IntKind.u64.wrap (IntKind.u64.wrap (IntKind.u64.wrap (s * 6364136223846793005)) + 550289) = U) := ⟨_, rfl⟩
    have hU : 0 ≤ U ∧ U < 18446744073709551616 := by rw [← HU.out]; exact u64_rangeB _
    rw [HU.out]
    have BX3 : Blk ((w2.setCell ⟨g, 1, none⟩ (.int .i64 ((a : Int) + 1))).setCell ⟨g, 2, none⟩ (.int .u64 U)) g 48 #[.slice A n c, .int .i64 ((a + 1 : Nat) : Int), .int .u64 U] := by
      have h2 := (BX2.set_ 1 (.int .i64 ((a : Int) + 1))).set_ 2 (.int .u64 U)
      simpa using h2
    have G3 := grown_setB (grown_setB G2 (p := ⟨g, 1, none⟩) rfl (.int .i64 ((a : Int) + 1))) (p := ⟨g, 2, none⟩) rfl (.int .u64 U)
    generalize (w2.setCell ⟨g, 1, none⟩ (.int .i64 ((a : Int) + 1))).setCell ⟨g, 2, none⟩ (.int .u64 U) = w3 at BX3 G3 ⊢
    clear c0 c1 c2 f1 f2
    have c0 := BX3.cell 0
    have c1 := BX3.cell 1
    simp at c0 c1
    go_still (by kernel_rfl)
    have BX4 : Blk w3.drew g 48 #[.slice A n c, .int .i64 ((a + 1 : Nat) : Int), .int .u64 U] := BX3.drew
    have G4 : w.grownBy w3.drew (some g) := grown_transB G3 ⟨rfl, rfl, rfl, Nat.le_refl _, fun _ _ _ => rfl⟩
    show Exit.then _ _ Exit.normal _ w3.drew
    generalize w3.drew = w4 at BX4 G4 ⊢
    have c2 := BX4.cell 2
    simp at c2
    go_wp2_with fail
    obtain ⟨y, hy, hye⟩ := low_byteB U hU.1 hU.2
    go_ret
    refine ⟨y, hy, ret_int hye, ⟨_, n, c, a + 1, U, BX4, hn, by omega, hU.1, hU.2, fun hn => ?_⟩, G4⟩
    obtain ⟨b, o, e, hbg, hbB, hc⟩ := hcode hn
    exact ⟨b, o, e, hbg, hbB, fun i hi => by
      obtain ⟨y, hy, hcy⟩ := hc i hi
      exact ⟨y, hy, (World.cell?_of_block (G4.block b (cell_lt hcy) (by simpa using hbg))).trans hcy⟩⟩
def PickB (B : Nat) (w : World) (g t : Nat) (n : Int) (e : Ending) (w' : World) : Prop := ∃ x : Nat, ((x : Int) < n ∨ x = 0) ∧ e = .returned (.int .i64 x) ∧ CurB B w' g t ∧ w.grownBy w' (some g)

theorem mod_natB {x n : Int} (hn : 0 < n) : ∃ z : Nat, (z : Int) < n ∧ x % n = z := by
  have h1 := Int.emod_nonneg x (show n ≠ 0 by omega)
  have h2 := Int.emod_lt_of_pos x hn
  exact ⟨(x % n).toNat, by omega, by omega⟩

set_option maxRecDepth 20000 in
set_option maxHeartbeats 4000000 in
theorem pickB_any (g t : Nat) (n : Int) (w : World) (h : CurB B w g t) (ht : t ≤ 999999998) (hn : n ≤ 9223372036854775807) :
    Calls Try.prog 45 #[.pointer (some ⟨g, 0, none⟩), .int .i64 n] w (PickB B w g (t + 2) n) := by
  go_enter Try.func45, Try.ntmps45
  by_cases h1 : n ≤ 1
  · go_wp2_with fail
    go_ret
    exact ⟨0, .inr rfl, rfl, h.mono (by omega), grown_reflB _ _⟩
  · go_wp2_with fail
    refine (cnextB_any g t _ h (by omega)).mono ?_
    rintro e w1 ⟨x, hx, rfl, hc1, hg1⟩
    have hx0 : (0 : Int) ≤ (x : Int) := by omega
    have hx1 : (x : Int) < 256 := by omega
    by_cases h2 : 200 < n
    · go_wp2_with fail
      refine (cnextB_any g (t + 1) _ hc1 (by omega)).mono ?_
      rintro e w2 ⟨y, hy, rfl, hc2, hg2⟩
      have hy0 : (0 : Int) ≤ (y : Int) := by omega
      have hy1 : (y : Int) < 256 := by omega
      have hG := grown_transB hg1 hg2
      go_wp2_with fail
      obtain ⟨z, hz, hze⟩ := mod_natB (x := (x : Int) * 256 + y) (n := n) (by omega)
      go_ret
      exact ⟨z, .inl hz, ret_int hze, hc2, hG⟩
    · go_wp2_with fail
      obtain ⟨z, hz, hze⟩ := mod_natB (x := (x : Int)) (n := n) (by omega)
      go_ret
      exact ⟨z, .inl hz, ret_int hze, hc1.mono (by omega), hg1⟩

set_option maxHeartbeats 1000000 in
theorem oneB_any (g t : Nat) (n : Int) (w : World) (h : CurB B w g t) (ht : t ≤ 999999998) (hn : n ≤ 9223372036854775807) :
    Calls Try.prog 23 #[.pointer (some ⟨g, 0, none⟩), .int .i64 n] w (fun e w' => ∃ b, e = .returned (.bool b) ∧ CurB B w' g (t + 2) ∧ w.grownBy w' (some g)) := by
  go_enter Try.func23, Try.ntmps23
  go_wp2_with fail
  refine (pickB_any g t n _ h ht hn).mono ?_
  rintro e w1 ⟨x, -, rfl, hc1, hg1⟩
  go_wp2_with fail
  go_ret
  exact ⟨_, rfl, hc1, hg1⟩

/-- A list of numbers that may be picked from. -/
def NumsP (P : Int → Prop) (w : World) (g b n : Nat) : Prop := b ≠ g ∧ 0 < n ∧ n ≤ 1000 ∧ ∀ i, i < n → ∃ x : Int, P x ∧ w.cell? ⟨b, i, none⟩ = some (.int .i64 x)
set_option maxHeartbeats 1000000 in
theorem amongB_any (g t b n c : Nat) (w : World) (h : CurB B w g t) (ht : t ≤ 999999998) (P : Int → Prop) (hl : NumsP P w g b n) :
    Calls Try.prog 61 #[.pointer (some ⟨g, 0, none⟩), .slice (some ⟨b, 0, none⟩) n c] w (fun e w' => ∃ x : Int, P x ∧ e = .returned (.int .i64 x) ∧ CurB B w' g (t + 2) ∧ w.grownBy w' (some g)) := by
  obtain ⟨hbg, hn0, hn1, hc⟩ := hl
  go_enter Try.func61, Try.ntmps61
  go_wp2_with fail
  refine (pickB_any g t n _ h ht (by omega)).mono ?_
  rintro e w1 ⟨x, hx, rfl, hc1, hg1⟩
  have hxn : x < n := by omega
  have hx0 : (0 : Int) ≤ (x : Int) := by omega
  have hx1 : (x : Int) < (n : Int) := by omega
  obtain ⟨y, hy0, hcs⟩ := hc x hxn
  have hcs1 : w1.cell? ⟨b, x, none⟩ = some (.int .i64 y) := (World.cell?_of_block (hg1.block b (cell_lt hcs) (by simpa using hbg))).trans hcs
  clear hx
  go_wp2_with fail
  go_ret
  exact ⟨y, hy0, rfl, hc1, hg1⟩
theorem CurB.lt {w : World} {g t : Nat} (h : CurB B w g t) : g < w.heap.size := by
  obtain ⟨A, n, c, a, s, h1, -⟩ := h
  exact h1.lt
theorem CurB.grown {w w' : World} {g t : Nat} {row : Option Nat} (h : CurB B w g t) (hg : w.grownBy w' row) (hr : ∀ r, row = some r → B ≤ r ∧ r ≠ g) : CurB B w' g t := by
  obtain ⟨A, n, c, a, s, h1, h2, h3, h4, h5, h6⟩ := h
  refine ⟨A, n, c, a, s, h1.grown hg (fun e => (hr g e.symm).2 rfl), h2, h3, h4, h5, fun hn => ?_⟩
  obtain ⟨b, o, e, hne, hbB, hc⟩ := h6 hn
  exact ⟨b, o, e, hne, hbB, fun i hi => by
    obtain ⟨x, hx, hcx⟩ := hc i hi
    exact ⟨x, hx, (World.cell?_of_block (hg.block b (cell_lt hcx) (fun e => by have := (hr b e.symm).1; omega))).trans hcx⟩⟩
def CodeB (w : World) (A : Option Addr) (n : Nat) : Prop := n ≤ 65536 ∧ (0 < n → ∃ b o, A = some ⟨b, o, none⟩ ∧ ∀ i, i < n → ∃ x : Nat, x < 256 ∧ w.cell? ⟨b, o + i, none⟩ = some (.int .u8 x))
theorem CodeB.next {w w' : World} {A : Option Addr} {n : Nat} (h : CodeB w A n) (hb : Below w.heap.size w w') : CodeB w' A n := by
  refine ⟨h.1, fun hn => ?_⟩
  obtain ⟨b, o, e, hc⟩ := h.2 hn
  exact ⟨b, o, e, fun i hi => by
    obtain ⟨x, hx, hcx⟩ := hc i hi
    exact ⟨x, hx, (hb.cell (cell_lt hcx)).trans hcx⟩⟩
theorem CurB.made {w : World} {A : Option Addr} {n c : Nat} (h : CodeB w A n) {k : Nat} (hk : k = w.heap.size) : CurB k (w.alloc (.cells #[.slice A n c, .int .i64 0, .int .u64 0] 48)) k 0 := by
  subst hk
  refine ⟨A, n, c, 0, 0, Blk.new _ _ _, h.1, Nat.zero_le _, by omega, by omega, fun hn => ?_⟩
  obtain ⟨b, o, e, hc⟩ := h.2 hn
  obtain ⟨x0, -, hc0⟩ := hc 0 hn
  have hlt := cell_lt hc0
  exact ⟨b, o, e, Nat.ne_of_lt hlt, hlt, fun i hi => by
    obtain ⟨x, hx, hcx⟩ := hc i hi
    exact ⟨x, hx, ((below_box w _).cell (cell_lt hcx)).trans hcx⟩⟩
end
end Go.Proofs.Ytlncpabnlnipoaa
