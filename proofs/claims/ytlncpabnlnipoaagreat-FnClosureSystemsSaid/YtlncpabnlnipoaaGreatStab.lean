
/- Walks: sort.SliceStable at any number of elements, over any program in which the library's bodies lie. Printed by genstab.py. -/
import Derived.Test.YtlncpabnlnipoaaGreatMergeP
import Derived.Test.YtlncpabnlnipoaaGreatMem
import Derived.Shelf.GgSortMore.Stable
namespace Go.Proofs.YtlncpabnlnipoaaGreat
open Go.Shelf Go.RowKit Go.Lib Go.Sort
section
variable {P : Program} {ρ : Ren} {α : Type} [Inhabited α] {enc : α → Value} {lt : α → α → Bool} {g : Nat} {lb : Array Value} {sf : Nat} {sb : Array Value} {blk off : Nat} {d e f : Array α} {W W1 W2 : World}

/-- What the sort asks of its caller, at the world W in which the row holds d. -/
structure SCtx (P : Program) (enc : α → Value) (lt : α → α → Bool) (g : Nat) (lb : Array Value) (sf : Nat) (sb : Array Value) (blk off : Nat) (d : Array α) (W : World) : Prop where
  eg : ∀ args w, (callFunc g args).run P w = .ok (.enter g args) w
  less : LessReads P g lb enc lt blk off d.size W
  swap : SwapSwaps P sf sb enc blk off d.size
  hold : Holds enc W blk off d
  bl : blk < W.heap.size
  sz : d.size < 4611686018427387904
theorem SCtx.on (C : SCtx P enc lt g lb sf sb blk off d W) (h : SW enc W blk off e W1) (hs : e.size = d.size) : SCtx P enc lt g lb sf sb blk off e W1 :=
  ⟨C.eg, by rw [hs]; exact h.lessReads C.less C.bl hs, by rw [hs]; exact C.swap, h.holds C.bl C.hold hs, h.lt C.bl, by rw [hs]; exact C.sz⟩
theorem SCtx.start (C : SCtx P enc lt g lb sf sb blk off d W) : SW enc W blk off d W := SW.start C.hold
theorem swTr (h : SW enc W blk off e W1) (h2 : SW enc W1 blk off f W2) (hb : blk < W.heap.size) (hs : f.size = e.size) : SW enc W blk off f W2 := by
  obtain ⟨n, os, rfl⟩ := h2
  exact h.on hb n f os hs
theorem swCell (h : SW enc W blk off e W1) {b k : Nat} {v : Value} (hb : b ≠ blk) (hc : W.cell? ⟨b, k, none⟩ = some v) : W1.cell? ⟨b, k, none⟩ = some v := by
  have hlt := cell_lt hc
  obtain ⟨n, os, rfl⟩ := h
  unfold sortWorld
  rw [cell?_grow _ _ _ (by rw [size_putRow]; exact hlt), cell?_putRow_other enc _ blk off _ _ (Or.inl (by show b ≠ blk; exact hb))]
  exact hc
theorem SCtx.lessAt (C : SCtx P enc lt g lb sf sb blk off d W) (h : SW enc W blk off e W1) (hs : e.size = d.size) (i j : Nat) (hi : i < d.size) (hj : j < d.size) :
    Calls P g (#[.int .i64 i, .int .i64 j] ++ lb) W1 fun e' w' => e' = .returned (.bool (lt e[i]! e[j]!)) ∧ SW enc W blk off e w' ∧ ∀ p, w'.cell? p = W1.cell? p :=
  (h.less C.less hs i j hi hj).mono fun _ _ ⟨h1, q, h2⟩ => ⟨h1, by rw [h2]; exact h.drewN q, fun p => by rw [h2]; rfl⟩
/-- The box of 'data' holds its two functions. -/
def BoxD (g : Nat) (lb : Array Value) (sf : Nat) (sb : Array Value) (b : Nat) (w : World) : Prop := w.cell? ⟨b, 0, none⟩ = some (.func (.func g) #[] lb) ∧ w.cell? ⟨b, 1, none⟩ = some (.func (.func sf) #[] sb)
theorem BoxD.tr {b : Nat} (h : BoxD g lb sf sb b W) (hw : SW enc W blk off e W1) (hb : b ≠ blk) : BoxD g lb sf sb b W1 := ⟨swCell hw hb h.1, swCell hw hb h.2⟩
theorem BoxD.same {b : Nat} (h : BoxD g lb sf sb b W) (hc : ∀ p, W1.cell? p = W.cell? p) : BoxD g lb sf sb b W1 := ⟨(hc _).trans h.1, (hc _).trans h.2⟩
theorem BoxD.swap {b : Nat} (h : BoxD g lb sf sb b W) (hb : b ≠ blk) (i j : Nat) (u v : Value) : BoxD g lb sf sb b ((W.setCell ⟨blk, i, none⟩ u).setCell ⟨blk, j, none⟩ v) := by
  constructor
  · rw [World.cell?_setCell_other _ _ _ _ (by intro e; injection e with e1; omega), World.cell?_setCell_other _ _ _ _ (by intro e; injection e with e1; omega)]; exact h.1
  · rw [World.cell?_setCell_other _ _ _ _ (by intro e; injection e with e1; omega), World.cell?_setCell_other _ _ _ _ (by intro e; injection e with e1; omega)]; exact h.2
theorem BoxD.new (W : World) : BoxD g lb sf sb W.heap.size (W.alloc (.cells #[.func (.func g) #[] lb, .func (.func sf) #[] sb] (ρ.t 42))) := ⟨by simp, by simp⟩
set_option linter.unusedVariables false in
set_option maxHeartbeats 4000000 in
set_option maxRecDepth 100000 in
theorem swapRange_s (L : LaysGt.n49 P ρ) (C : SCtx P enc lt g lb sf sb blk off d W) (a b n : Nat) (hab : a + n ≤ b) (hb : b + n ≤ d.size) :
    Calls P (ρ.f 49) #[.agg #[.func (.func g) #[] lb, .func (.func sf) #[] sb], .int .i64 a, .int .i64 b, .int .i64 n] W fun e w' => e = .returned (.tuple #[]) ∧ ∃ d', SW enc W blk off d' w' ∧ SwR d a b n d' := by
  have mixed := L.mixed; have t0 := L.t0; have a0 := L.a0; have z0 := L.z0; have v0 := L.v0; have t3 := L.t3; have a3 := L.a3; have z3 := L.z3; have v3 := L.v3; have t4 := L.t4; have a4 := L.a4; have z4 := L.z4; have v4 := L.v4; have t26 := L.t26; have a26 := L.a26; have z26 := L.z26; have v26 := L.v26; have t38 := L.t38; have a38 := L.a38; have z38 := L.z38; have v38 := L.v38; have t42 := L.t42; have a42 := L.a42; have z42 := L.z42; have v42 := L.v42
  have u42 := run_underlying L.t42
  have S0 : SW enc W blk off d (W.alloc (.cells #[.func (.func g) #[] lb, .func (.func sf) #[] sb] (ρ.t 42))) := C.start.alloc _
  have B0 : BoxD g lb sf sb W.heap.size (W.alloc (.cells #[.func (.func g) #[] lb, .func (.func sf) #[] sb] (ρ.t 42))) := BoxD.new W
  have hbn : W.heap.size ≠ blk := by have := C.bl; omega
  have hsz := C.sz
  go_enter L.f49, BodyGt.n49_ntmps ρ
  go_wp2
  go_loopw [8] (fun vi wr => ∃ (k : Nat) (dk : Array α), vi = .int .i64 k ∧ k ≤ n ∧ SW enc W blk off dk wr ∧ SwR d a b k dk ∧ BoxD g lb sf sb W.heap.size wr) (fun vi _ => n - (intOf vi).toNat)
  case atStart => exact ⟨0, d, rfl, Nat.zero_le _, S0, SwR.zero d a b, B0⟩
  case round =>
    clear S0 B0
    obtain ⟨k, dk, rfl, hk, S, R, hB0, hB1⟩ := hrel
    have hds := R.size
    by_cases hlt : k < n
    · have hc1 : (k : Int) < (n : Int) := by omega
      have hs := C.swap wr dk (S.holds C.bl C.hold hds) hds (a + k) (b + k) (by omega) (by omega)
      rw [show ((a + k : Nat) : Int) = (a : Int) + (k : Int) by omega, show ((b + k : Nat) : Int) = (b : Int) + (k : Int) by omega] at hs
      have S2 := S.swap C.bl (a + k) (b + k) (by omega) (by omega)
      have hB' : BoxD g lb sf sb W.heap.size ((wr.setCell ⟨blk, off + (a + k), none⟩ (enc dk[b + k]!)).setCell ⟨blk, off + (b + k), none⟩ (enc dk[a + k]!)) := by
        have h0 := hB0; have h1 := hB1
        constructor
        · rw [World.cell?_setCell_other _ _ _ _ (by intro e; injection e with e1; omega), World.cell?_setCell_other _ _ _ _ (by intro e; injection e with e1; omega)]; exact h0
        · rw [World.cell?_setCell_other _ _ _ _ (by intro e; injection e with e1; omega), World.cell?_setCell_other _ _ _ _ (by intro e; injection e with e1; omega)]; exact h1
      go_wp2
      go_roundw
      case rel => exact ⟨k + 1, _, by go_num, by omega, S2, R.step hlt hab hb, hB'⟩
      case measure => simp [intOf]; omega
    · obtain rfl : k = n := by omega
      have hc1 : ¬ (k : Int) < (k : Int) := by omega
      go_wp2
      go_end0
      exact ⟨rfl, dk, S, R⟩
set_option linter.unusedVariables false in
set_option maxHeartbeats 4000000 in
set_option maxRecDepth 100000 in
theorem rotate_s (L : LaysGt.n42 P ρ) (C : SCtx P enc lt g lb sf sb blk off d W) (a m b : Nat) (ham : a < m) (hmb : m < b) (hb : b ≤ d.size) :
    Calls P (ρ.f 42) #[.agg #[.func (.func g) #[] lb, .func (.func sf) #[] sb], .int .i64 a, .int .i64 m, .int .i64 b] W fun e w' => e = .returned (.tuple #[]) ∧ ∃ d', SW enc W blk off d' w' ∧ Rot d a m b d' := by
  have mixed := L.mixed; have t0 := L.t0; have a0 := L.a0; have z0 := L.z0; have v0 := L.v0; have t3 := L.t3; have a3 := L.a3; have z3 := L.z3; have v3 := L.v3; have t4 := L.t4; have a4 := L.a4; have z4 := L.z4; have v4 := L.v4; have t26 := L.t26; have a26 := L.a26; have z26 := L.z26; have v26 := L.v26; have t38 := L.t38; have a38 := L.a38; have z38 := L.z38; have v38 := L.v38; have t42 := L.t42; have a42 := L.a42; have z42 := L.z42; have v42 := L.v42
  have u42 := run_underlying L.t42
  have S0 : SW enc W blk off d (W.alloc (.cells #[.func (.func g) #[] lb, .func (.func sf) #[] sb] (ρ.t 42))) := C.start.alloc _
  have B0 : BoxD g lb sf sb W.heap.size (W.alloc (.cells #[.func (.func g) #[] lb, .func (.func sf) #[] sb] (ρ.t 42))) := BoxD.new W
  have hbn : W.heap.size ≠ blk := by have := C.bl; omega
  have hsz := C.sz
  have e49 : ∀ args w, (callFunc (ρ.f 49) args).run P w = .ok (.enter (ρ.f 49) args) w := enters_of L.f49 (by kernel_rfl) rfl
  have L49 : LaysGt.n49 P ρ := { L with }
  go_enter L.f42, BodyGt.n42_ntmps ρ
  go_wp2
  go_loopw [8, 9] (fun vi vj wr => ∃ (i j : Nat) (dk : Array α), vi = .int .i64 i ∧ vj = .int .i64 j ∧ 0 < i ∧ 0 < j ∧ i ≤ m - a ∧ j ≤ b - m ∧ SW enc W blk off dk wr ∧ dk.size = d.size ∧ (∀ T, Rot dk (m - i) m (m + j) T → Rot d a m b T) ∧ BoxD g lb sf sb W.heap.size wr) (fun vi vj _ => (intOf vi).toNat + (intOf vj).toNat)
  case atStart => exact ⟨m - a, b - m, d, by go_num, by go_num, by omega, by omega, Nat.le_refl _, Nat.le_refl _, S0, rfl, fun T h => by rwa [show m - (m - a) = a by omega, show m + (b - m) = b by omega] at h, B0⟩
  case round =>
    clear S0 B0
    obtain ⟨i, j, dk, rfl, rfl, hi0, hj0, hi, hj, S, hds, HT, hB⟩ := hrel
    obtain ⟨hB0, hB1⟩ := hB
    have Ck := C.on S hds
    by_cases hij : i = j
    · subst hij
      have hc : ((i : Int) != (i : Int)) = false := by simp
      have hS := swapRange_s L49 Ck (m - i) m i (by omega) (by omega)
      rw [show ((m - i : Nat) : Int) = (m : Int) - (i : Int) by omega] at hS
      go_wp2_with (go_at_fn (ρ.f 49); refine hS.mono ?_; rintro e w1 ⟨rfl, dk', S', R'⟩)
      go_end0
      exact ⟨rfl, dk', swTr S S' C.bl (by rw [R'.size]), HT _ (rot_eq (by omega) (by omega) R')⟩
    · have hc : ((i : Int) != (j : Int)) = true := by simp; omega
      by_cases hgt : j < i
      · have hc2 : (j : Int) < (i : Int) := by omega
        have hS := swapRange_s L49 Ck (m - i) m j (by omega) (by omega)
        rw [show ((m - i : Nat) : Int) = (m : Int) - (i : Int) by omega] at hS
        go_wp2_with (go_at_fn (ρ.f 49); refine hS.mono ?_; rintro e w1 ⟨rfl, dk', S', R'⟩)
        have hB' := (show BoxD g lb sf sb W.heap.size wr from ⟨hB0, hB1⟩).tr S' hbn
        go_roundw
        case rel => exact ⟨i - j, j, dk', by go_num, rfl, by omega, hj0, by omega, hj, swTr S S' C.bl (by rw [R'.size]), by rw [R'.size]; exact hds, fun T h => HT T (rot_gt hgt (by omega) (by omega) R' h), hB'⟩
        case measure => simp [intOf]; omega
      · have hc2 : ¬ (j : Int) < (i : Int) := by omega
        have hS := swapRange_s L49 Ck (m - i) (m + j - i) i (by omega) (by omega)
        rw [show ((m - i : Nat) : Int) = (m : Int) - (i : Int) by omega, show ((m + j - i : Nat) : Int) = (m : Int) + (j : Int) - (i : Int) by omega] at hS
        go_wp2_with (go_at_fn (ρ.f 49); refine hS.mono ?_; rintro e w1 ⟨rfl, dk', S', R'⟩)
        have hB' := (show BoxD g lb sf sb W.heap.size wr from ⟨hB0, hB1⟩).tr S' hbn
        go_roundw
        case rel => exact ⟨i, j - i, dk', rfl, by go_num, hi0, by omega, hi, by omega, swTr S S' C.bl (by rw [R'.size]), by rw [R'.size]; exact hds, fun T h => HT T (rot_lt (by omega) (by omega) (by omega) R' h), hB'⟩
        case measure => simp [intOf]; omega
end
end Go.Proofs.YtlncpabnlnipoaaGreat
