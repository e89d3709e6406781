
/- Walks: the reference's test of a poset. -/
import Derived.Test.YtlncpabnlnipoaaGreatIsOrder
namespace Go.Proofs.YtlncpabnlnipoaaGreat
open Go.RowKit

theorem keepc {w w' : World} {p : Addr} {v : Value} (hb : Below w.heap.size w w') (h : w.cell? p = some v) : w'.cell? p = some v := (hb.cell (cell_lt h)).trans h
theorem Blk.c0 {w : World} {g : Nat} {t : TypeId} {v : Value} (h : Blk w g t #[v]) : w.cell? ⟨g, 0, none⟩ = some v := by have := h.cell 0; simpa using this

def P1 (xss : List (List Int)) (x : Nat) : Prop := (allIn 0 ((xss.length : Int) - 1) (rowOf xss x) && risesL (rowOf xss x)) = true ∧ hasI x (rowOf xss x) = true
def P2 (xss : List (List Int)) (x : Nat) (y : Int) : Prop := ¬ (y ≠ x ∧ hasI x (rowOf xss y.toNat) = true) ∧ partL (rowOf xss x) (rowOf xss y.toNat) = true
def GoodQ (xss : List (List Int)) : Prop := xss.length ≤ 10 ∧ (∀ x < xss.length, P1 xss x) ∧ ∀ x < xss.length, ∀ (i : Nat) y, (rowOf xss x)[i]? = some y → P2 xss x y
theorem good_iff {xss : List (List Int)} : GoodQ xss ↔ GoodP xss := by
  constructor
  · rintro ⟨h1, h2, h3⟩
    have h3' : ∀ x < xss.length, ∀ y ∈ rowOf xss x, P2 xss x y := fun x hx y hy => by
      obtain ⟨i, hi⟩ := List.getElem?_of_mem hy
      exact h3 x hx i y hi
    refine ⟨h1, fun x hx => ?_, fun x hx => ⟨(h2 x hx).2, fun y hy => ⟨?_, fun z hz => ?_⟩⟩⟩
    · have := (h2 x hx).1
      simp only [Bool.and_eq_true] at this
      exact ⟨this.2, this.1⟩
    · rintro ⟨e1, e2, e3⟩
      have h4 := (h3' x hx y (hasI_iff.1 e3)).1
      exact h4 ⟨by omega, by simpa [leF] using e2⟩
    · rintro ⟨e1, e2, e3⟩
      have h4 := (h3' z hz y (hasI_iff.1 e2)).2
      have h5 := partL_iff.1 h4 x (by simpa [leF, hasI_iff] using e1)
      have : leF xss x z = true := hasI_iff.2 h5
      rw [this] at e3
      exact absurd e3 (by decide)
  · rintro ⟨h1, h2, h3⟩
    refine ⟨h1, fun x hx => ⟨by rw [(h2 x hx).1, (h2 x hx).2]; rfl, (h3 x hx).1⟩, fun x hx i y hy => ?_⟩
    have hm := List.mem_of_getElem? hy
    have hb := allIn_iff.1 (h2 x hx).2 y hm
    obtain ⟨y, rfl⟩ := Int.eq_ofNat_of_zero_le hb.1
    have hyn : y < xss.length := by omega
    refine ⟨?_, ?_⟩
    · rintro ⟨e1, e2⟩
      exact ((h3 x hx).2 y hyn).1 ⟨by omega, by simpa [leF] using e2, hasI_iff.2 hm⟩
    · rw [partL_iff]
      intro v hv
      have hvb := allIn_iff.1 (h2 y hyn).2 v (by simpa using hv)
      obtain ⟨v, rfl⟩ := Int.eq_ofNat_of_zero_le hvb.1
      have h4 := ((h3 v (by omega)).2 y hyn).2 x hx
      rcases e : leF xss v x with _ | _
      · exact absurd ⟨hasI_iff.2 (by simpa using hv), hasI_iff.2 hm, e⟩ h4
      · exact hasI_iff.1 e

theorem l1Has_is {A : Option Addr} {n c : Nat} {xs : List Int} {y : Int} {w : World} {r : Bool} (hr : hasI y xs = r) (h : RdL RI w A n xs) : Calls Tryz.prog 55 #[.slice A n c, .int .i64 y] w (Qt w (.bool r)) :=
  hr ▸ quiet_same (l1Has_any A n c xs y w h)
theorem l5Within_is {A B : Option Addr} {n m c d : Nat} {xs ys : List Int} {w : World} {r : Bool} (hr : partL ys xs = r) (h : RdL RI w A n xs) (h' : RdL RI w B m ys) : Calls Tryz.prog 43 #[.slice A n c, .slice B m d] w (Qt w (.bool r)) :=
  hr ▸ quiet_same (l5Within_any A B n m c d xs ys w h h')
theorem bad2 {xss : List (List Int)} {k i : Nat} {y : Int} (hk : k < xss.length) (hi : (rowOf xss k)[i]? = some y) (h : ¬ P2 xss k y) : ¬ GoodP xss := fun hg => h ((good_iff.2 hg).2.2 k hk i y hi)
theorem P2_iff {xss : List (List Int)} {k y : Nat} {s t : List Int} (hs : rowOf xss k = s) (ht : rowOf xss y = t) : P2 xss k (y : Int) ↔ ((((y : Int) != (k : Int)) && hasI k t) || !(partL s t)) = false := by
  unfold P2
  rw [Int.toNat_natCast, hs, ht]
  rcases hasI k t with _ | _ <;> rcases partL s t with _ | _ <;> simp
theorem P2_eq {xss : List (List Int)} {k y : Nat} {s t : List Int} {a b c : Bool} (hs : rowOf xss k = s) (ht : rowOf xss y = t) (ha : ((y : Int) != (k : Int)) = a) (hb : hasI k t = b) (hc : partL s t = c) (h : ((a && b) || !c) = true) : ¬ P2 xss k (y : Int) := by
  rw [P2_iff hs ht, ha, hb, hc, h]; decide
theorem P2_eq' {xss : List (List Int)} {k y : Nat} {s t : List Int} {a b c : Bool} (hs : rowOf xss k = s) (ht : rowOf xss y = t) (ha : ((y : Int) != (k : Int)) = a) (hb : hasI k t = b) (hc : partL s t = c) (h : ((a && b) || !c) = false) : P2 xss k (y : Int) := by
  rw [P2_iff hs ht, ha, hb, hc, h]

end Go.Proofs.YtlncpabnlnipoaaGreat
