
/- Walks: an order as a poset; SystemPoset. -/
import Derived.Test.YtlncpabnlnipoaaOrder
import Derived.Test.YtlncpabnlnipoaaIrrWalk
namespace Go.Proofs.Ytlncpabnlnipoaa
open Go.RowKit

/-- What stands below x, of 0, .. q - 1. -/
def rowTo (F : Nat → Nat → Bool) (x q : Nat) : List Int := ((List.range q).filter fun y => F y x).map fun (y : Nat) => (y : Int)
theorem rowTo_succ (F : Nat → Nat → Bool) (x q : Nat) : rowTo F x (q + 1) = if F q x then rowTo F x q ++ [(q : Int)] else rowTo F x q := by
  unfold rowTo
  rw [List.range_succ, List.filter_append]
  rcases h : F q x with _ | _ <;> simp [h]
theorem rowTo_len (F : Nat → Nat → Bool) (x q : Nat) : (rowTo F x q).length ≤ q := by
  unfold rowTo
  rw [List.length_map]
  have := List.length_filter_le (fun y => F y x) (List.range q)
  rwa [List.length_range] at this
theorem rowTo_mem {F : Nat → Nat → Bool} {x q : Nat} {v : Int} : v ∈ rowTo F x q ↔ ∃ y : Nat, y < q ∧ F y x = true ∧ v = y := by
  unfold rowTo
  simp only [List.mem_map, List.mem_filter, List.mem_range]
  constructor
  · rintro ⟨y, ⟨h1, h2⟩, h3⟩
    exact ⟨y, h1, h2, h3.symm⟩
  · rintro ⟨y, h1, h2, h3⟩
    exact ⟨y, ⟨h1, h2⟩, h3.symm⟩
def posTo (n : Nat) (F : Nat → Nat → Bool) (k : Nat) : List (List Int) := (List.range k).map fun x => rowTo F x n
theorem posTo_succ (n : Nat) (F : Nat → Nat → Bool) (k : Nat) : posTo n F (k + 1) = posTo n F k ++ [rowTo F k n] := by
  unfold posTo
  rw [List.range_succ, List.map_append]
  rfl
theorem posTo_len (n : Nat) (F : Nat → Nat → Bool) (k : Nat) : (posTo n F k).length = k := by simp [posTo]

theorem own_far {w : World} {base : Nat} {e : TypeId} {size : Nat} {v : Value} {n : Nat} {xs : List Value} (h : w.ownsRow base e size v n xs) {g : Nat} {t : TypeId} {cs : Array Value} (hB : Blk w g t cs) (hne : e ≠ t) : v.ownBlock ≠ some g := by
  rcases h.2 with ⟨rfl, _⟩ | ⟨g1, cap, cur, rfl, _, hh, _⟩
  · simp [Value.ownBlock]
  · intro hc
    simp only [Value.ownBlock, Option.some.injEq] at hc
    subst hc
    rw [hB] at hh
    injection hh with hh
    injection hh with _ ht
    exact hne ht.symm
theorem OwM.far {α : Type} {eo ei : TypeId} {f : α → Value} {lo : Nat} {w : World} {v : Value} {n : Nat} {xss : List (List α)} (h : OwM eo ei f lo w v n xss) {g : Nat} {t : TypeId} {cs : Array Value} (hB : Blk w g t cs) (h1 : eo ≠ t) (h2 : ei ≠ t) (k : Nat) (u : Value) : OwM eo ei f lo (w.setCell ⟨g, k, none⟩ u) v n xss := by
  obtain ⟨vs, ho, hl, hr, hd⟩ := h
  exact ⟨vs, own_set ho (own_far ho hB h1) u, hl, fun j y ys hy hx => own_set (hr j y ys hy hx) (own_far (hr j y ys hy hx) hB h2) u, hd⟩
theorem RdL.atT {w : World} {A : Option Addr} {n : Nat} {F : Nat → Nat → Bool} (h : RdL (RV RB) w A n (tab n F)) {i k : Nat} (hi : i < n) (hk : k < n) :
    ∃ b o r p d, A = some ⟨b, o, none⟩ ∧ w.cell? ⟨b, o + i, none⟩ = some (.slice (some ⟨r, p, none⟩) n d) ∧ w.cell? ⟨r, p + k, none⟩ = some (.bool (F i k)) := by
  obtain ⟨b, o, v, row, rfl, hc, ⟨B, m, d, rfl, hr⟩, -, hx⟩ := h.at hi
  rw [tab_get hi] at hx
  injection hx with hx
  subst hx
  have hm : m = n := by have := hr.len; simpa using this.symm
  subst hm
  obtain ⟨r, p, v, x, rfl, hc', hv, -, hx'⟩ := hr.at hk
  rw [row_get hk] at hx'
  injection hx' with hx'
  subst hx'
  rw [hv] at hc'
  exact ⟨b, o, r, p, d, rfl, hc, hc'⟩
theorem stab_RVB : Stab (RV RB) := stab_RV stab_RB

end Go.Proofs.Ytlncpabnlnipoaa
