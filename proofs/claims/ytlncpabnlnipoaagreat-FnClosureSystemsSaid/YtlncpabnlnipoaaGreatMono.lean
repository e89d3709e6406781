
/- Walks: maps between posets; IsMonotone, in the program and in the reference. -/
import Derived.Test.YtlncpabnlnipoaaGreatL23
import Derived.Deep.RegionHeld3
namespace Go.Proofs.YtlncpabnlnipoaaGreat
open Go.RowKit

theorem upto {P : Nat → Prop} {k : Nat} (h : ∀ x < k, P x) (hk : P k) : ∀ x < k + 1, P x := fun x hx => by
  rcases Nat.lt_or_ge x k with h1 | h1
  · exact h x h1
  · have : x = k := by omega
    subst this
    exact hk
theorem upto0 {P : Nat → Prop} : ∀ x < 0, P x := fun x hx => absurd hx (by omega)

/-- Two orders handed back, and whether both are orders. -/
def OrdR2 (w : World) (n m : Nat) (xss yss : List (List Int)) (e : Ending) (w' : World) : Prop :=
  ∃ A1 m1 c1 A2 m2 c2, e = .returned (.tuple #[.slice A1 m1 c1, .slice A2 m2 c2, .bool (tt (GoodP xss) && tt (GoodP yss))]) ∧ (GoodP xss → m1 = n ∧ RdL (RV RB) w' A1 n (tab n (leF xss))) ∧ (GoodP yss → m2 = m ∧ RdL (RV RB) w' A2 m (tab m (leF yss))) ∧ Below w.heap.size w w'

def mapB (n m l : Nat) (fs : List Int) : Bool := ((l : Int) == (n : Int)) && allIn 0 ((m : Int) - 1) fs
theorem mapB_in {n m l : Nat} {fs : List Int} (h : mapB n m l fs = true) : l = n ∧ ∀ x ∈ fs, 0 ≤ x ∧ x ≤ (m : Int) - 1 := by
  unfold mapB at h
  rw [Bool.and_eq_true, allIn_iff, beq_iff_eq] at h
  exact ⟨by omega, h.2⟩

def fAt (fs : List Int) (x : Nat) : Nat := (fs.getD x 0).toNat
theorem fAt_get {fs : List Int} {x y : Nat} (h : fs[x]? = some (y : Int)) : fAt fs x = y := by simp [fAt, List.getD_eq_getElem?_getD, h]
def MonXY (F G : Nat → Nat → Bool) (fs : List Int) (x y : Nat) : Prop := ¬ (F x y = true ∧ G (fAt fs x) (fAt fs y) = false)
def MonP (n : Nat) (F G : Nat → Nat → Bool) (fs : List Int) : Prop := ∀ x < n, ∀ y < n, MonXY F G fs x y
theorem MonXY.yes {F G : Nat → Nat → Bool} {fs : List Int} {x y x' y' : Nat} {a b : Bool} (hx : fAt fs x = x') (hy : fAt fs y = y') (h1 : F x y = a) (h2 : G x' y' = b) (h : (a && !b) = false) : MonXY F G fs x y := by
  unfold MonXY; rw [hx, hy, h1, h2]; rcases a with _ | _ <;> rcases b with _ | _ <;> simp at *
theorem MonXY.no {F G : Nat → Nat → Bool} {fs : List Int} {x y x' y' : Nat} {a b : Bool} (hx : fAt fs x = x') (hy : fAt fs y = y') (h1 : F x y = a) (h2 : G x' y' = b) (h : (a && !b) = true) : ¬ MonXY F G fs x y := by
  unfold MonXY; rw [hx, hy, h1, h2]; rcases a with _ | _ <;> rcases b with _ | _ <;> simp at *

/-! ## the reference -/
noncomputable def mapS (n m l : Nat) (xss yss : List (List Int)) (fs : List Int) : Bool := tt (GoodP xss) && tt (GoodP yss) && mapB n m l fs
def MonS (xss yss : List (List Int)) (fs : List Int) (n : Nat) : Prop := ∀ y < n, ∀ (i : Nat) v, (rowOf xss y)[i]? = some v → hasI (fAt fs v.toNat) (rowOf yss (fAt fs y)) = true
theorem mon_iff {n : Nat} {xss yss : List (List Int)} {fs : List Int} (hx : xss.length = n) (hg : GoodP xss) : MonS xss yss fs n ↔ MonP n (leF xss) (leF yss) fs := by
  constructor
  · rintro h x hxn y hyn ⟨h1, h2⟩
    obtain ⟨i, hi⟩ := List.getElem?_of_mem (hasI_iff.1 h1)
    have := h y hyn i _ hi
    rw [Int.toNat_natCast] at this
    unfold leF at h2
    rw [this] at h2
    exact absurd h2 (by decide)
  · intro h y hyn i v hv
    have hm := List.mem_of_getElem? hv
    have hb := allIn_iff.1 (hg.2.1 y (by omega)).2 v hm
    obtain ⟨v, rfl⟩ := Int.eq_ofNat_of_zero_le hb.1
    rw [Int.toNat_natCast]
    rcases e : hasI (fAt fs v) (rowOf yss (fAt fs y)) with _ | _
    · exact absurd ⟨hasI_iff.2 hm, e⟩ (h v (by omega) y hyn)
    · rfl

/-! ## IsMonotone -/
noncomputable def monRes (n m l : Nat) (xss yss : List (List Int)) (fs : List Int) : Bool := mapS n m l xss yss fs && tt (MonP n (leF xss) (leF yss) fs)
theorem mapS_false {n m l : Nat} {xss yss : List (List Int)} {fs : List Int} (h : mapS n m l xss yss fs = false) : monRes n m l xss yss fs = false := by unfold monRes; rw [h]; rfl
theorem mapS_true {n m l : Nat} {xss yss : List (List Int)} {fs : List Int} (h : mapS n m l xss yss fs = true) : GoodP xss ∧ GoodP yss ∧ mapB n m l fs = true ∧ l = n ∧ (∀ x ∈ fs, 0 ≤ x ∧ x ≤ (m : Int) - 1) ∧ monRes n m l xss yss fs = tt (MonP n (leF xss) (leF yss) fs) := by
  have h0 := h
  unfold mapS at h
  simp only [Bool.and_eq_true, tt_iff] at h
  obtain ⟨⟨h1, h2⟩, h3⟩ := h
  exact ⟨h1, h2, h3, (mapB_in h3).1, (mapB_in h3).2, by unfold monRes; rw [h0, Bool.true_and]⟩
theorem ret_bb {a b c d : Bool} (h : a = c) (h' : b = d) : Ending.returned (.tuple #[.bool a, .bool b]) = .returned (.tuple #[.bool c, .bool d]) := by rw [h, h']

end Go.Proofs.YtlncpabnlnipoaaGreat
