
/- What the walks of the FnExact laws lean on beside the marks. -/
import Derived.Test.YtlncpabnlnipoaaMark
import Derived.Test.YtlncpabnlnipoaaLawIsClosureSystem
namespace Go.Proofs.Ytlncpabnlnipoaa
open Go.RowKit

section
variable {w w' : World} {base : Nat} {e : TypeId} {size : Nat} {v : Value} {n : Nat} {xs : List Value}
theorem own_kept (h : w.ownsRow base e size v n xs) {lo hi : Nat} (hc : Chg lo hi w w') (h1 : hi ≤ base) : w'.ownsRow base e size v n xs :=
  own_same h fun b hb => hc.block b (h.lt b hb).2 (.inr (by have := (h.lt b hb).1; omega))
/-- A slice's block, if it has one, lies below hi. -/
def BlkHi (hi : Nat) (v : Value) : Prop := ∀ b, v.ownBlock = some b → b < hi
theorem own_hi (h : w.ownsRow base e size v n xs) : BlkHi w.heap.size v := fun b hb => (h.lt b hb).2
end
theorem chg_of_grown {lo hi : Nat} {w w' : World} {v : Value} {e : TypeId} {n : Nat} {xs : List Value} (h : w.ownsRow lo e 1 v n xs) (hh : BlkHi hi v) (hg : w.grownBy w' v.ownBlock) : Chg lo hi w w' :=
  ⟨hg.os, hg.tape, hg.output, hg.size, fun b hb hbb => hg.block b hb (fun e => by
    have h1 := (h.lt b e.symm).1
    have h2 := hh b e.symm
    omega)⟩
theorem bl_of_same {P : Program} {f : FuncId} {args : Array Value} {w : World} {v : Value} (h : Calls P f args w fun e w' => e = .returned v ∧ w = w') : Calls P f args w (Bl w v) := bl_of_quiet (quiet_same h)

theorem szRows_le : ∀ (xss : List (List Int)) (left : Int), -1 ≤ left → szRows xss left ≤ left
  | [], _, _ => by simp [szRows]
  | x :: l, left, hl => by
    rw [szRows]
    split
    · omega
    · rename_i h1
      have h2 := szRows_le l (szInts x left) (by omega)
      have h3 : szInts x left ≤ left := by unfold szInts at *; split at h1 <;> omega
      omega
theorem szIntss_le {xss : List (List Int)} {left : Int} (h : 0 ≤ left) : szIntss xss left ≤ left := by
  unfold szIntss
  split
  · omega
  · have := szRows_le xss (left - xss.length) (by omega)
    omega
theorem szIntss_ge' {xss : List (List Int)} {left : Int} (h : ¬ szIntss xss left < 0) (hl : left ≤ 1048576) : xss.length ≤ 1048576 ∧ ∀ xs ∈ xss, xs.length ≤ 1048576 := by
  unfold szIntss at h
  split at h
  · omega
  · exact ⟨by omega, szRows_ge (by omega) h⟩
theorem total_le' : ∀ {xss : List (List Int)}, (∀ xs ∈ xss, xs.length ≤ 1048576) → total xss ≤ xss.length * 1048576
  | [], _ => by simp [total]
  | x :: l, h => by
    have h1 := h x (List.mem_cons_self ..)
    have h2 := total_le' (xss := l) fun xs hx => h xs (List.mem_cons_of_mem _ hx)
    rw [total, List.length_cons, Nat.succ_mul]
    omega
theorem total_le {xss : List (List Int)} (h : ∀ xs ∈ xss, xs.length ≤ 1048576) (hl : xss.length ≤ 1048576) : total xss ≤ 1099511627776 := by
  have h1 := total_le' h
  have h2 := Nat.mul_le_mul_right 1048576 hl
  omega
theorem numss_bounds : ∀ {xss : List (List Int)} {k : Int}, 0 ≤ k → k + total xss ≤ 4611686018427387904 → ∀ {w : World}, ∀ xs ∈ numss k xss, ∀ x ∈ xs, RI w (.int .i64 x) x
  | [], _, _, _, _, xs, hx => by simp [numss] at hx
  | y :: l, k, h0, h1, w, xs, hx => by
    rw [total] at h1
    rw [numss] at hx
    rcases List.mem_cons.1 hx with rfl | hx
    · intro x hxx
      exact ⟨rfl, nums_bounds h0 (by omega) x hxx⟩
    · exact numss_bounds (xss := l) (by omega) (by omega) xs hx
theorem bne_same (b : Bool) : (b != b) = false := by cases b <;> rfl
end Go.Proofs.Ytlncpabnlnipoaa
