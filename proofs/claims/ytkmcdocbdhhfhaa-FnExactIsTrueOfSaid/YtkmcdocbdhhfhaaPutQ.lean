
/- Plain laws: ascending lists, a number put into one, the variables of terms. -/
import Derived.Test.YtkmcdocbdhhfhaaPutX
import Derived.Test.YtkmcdocbdhhfhaaClsP
namespace Go.Proofs.Ytkmcdocbdhhfhaa
open Go.RowKit
set_option linter.unusedVariables false

theorem asc_ext : ∀ {l m : List Int}, l.Pairwise (· < ·) → m.Pairwise (· < ·) → (∀ x, x ∈ l ↔ x ∈ m) → l = m
  | [], [], _, _, _ => rfl
  | [], b :: m, _, _, h => by have := (h b).2 List.mem_cons_self; cases this
  | a :: l, [], _, _, h => by have := (h a).1 List.mem_cons_self; cases this
  | a :: l, b :: m, hl, hm, h => by
    rw [List.pairwise_cons] at hl hm
    have e : a = b := by
      rcases List.mem_cons.1 ((h a).1 List.mem_cons_self) with e | e
      · exact e
      · rcases List.mem_cons.1 ((h b).2 List.mem_cons_self) with e2 | e2
        · exact e2.symm
        · have h1 := hm.1 a e
          have h2 := hl.1 b e2
          omega
    subst e
    congr 1
    refine asc_ext hl.2 hm.2 fun x => ⟨fun hx => ?_, fun hx => ?_⟩
    · rcases List.mem_cons.1 ((h x).1 (List.mem_cons_of_mem _ hx)) with e | e
      · subst e; have := hl.1 x hx; omega
      · exact e
    · rcases List.mem_cons.1 ((h x).2 (List.mem_cons_of_mem _ hx)) with e | e
      · subst e; have := hm.1 x hx; omega
      · exact e
theorem put_asc {xs L : List Int} {y : Int} (h : xs.Pairwise (· < ·)) (hp : PutP xs y L) : L.Pairwise (· < ·) ∧ ∀ z, z ∈ L ↔ z ∈ xs ∨ z = y := by
  obtain ⟨k, hk, hlt, ⟨h1, rfl⟩ | ⟨h1, rfl⟩⟩ := hp
  · refine ⟨h, fun z => ⟨.inl, fun hz => ?_⟩⟩
    rcases hz with hz | rfl
    · exact hz
    · exact List.mem_of_getElem? h1
  · have h0 := h
    rw [← List.take_append_drop k xs, List.pairwise_append] at h0
    obtain ⟨p1, p2, p3⟩ := h0
    have hgt : ∀ z ∈ xs.drop k, y < z := fun z hz => by
      rcases e : xs.drop k with _ | ⟨c, l⟩
      · rw [e] at hz; cases hz
      · have hc : xs[k]? = some c := by
          have := congrArg (fun q => q[0]?) e
          simpa [List.getElem?_drop] using this
        have h2 := h1 c hc
        rw [e] at hz p2
        rcases List.mem_cons.1 hz with rfl | hz
        · exact h2
        · have := (List.pairwise_cons.1 p2).1 z hz
          omega
    have hle : ∀ z ∈ xs.take k, z < y := fun z hz => by
      obtain ⟨i, hi⟩ := List.getElem?_of_mem hz
      rw [List.getElem?_take] at hi
      split at hi
      · rename_i hik
        exact hlt i hik z hi
      · cases hi
    refine ⟨List.pairwise_append.2 ⟨p1, List.pairwise_cons.2 ⟨hgt, p2⟩, fun a ha b hb => ?_⟩, fun z => ?_⟩
    · rcases List.mem_cons.1 hb with rfl | hb
      · exact hle a ha
      · exact p3 a ha b hb
    · rw [List.mem_append, List.mem_cons]
      have e : z ∈ xs ↔ z ∈ xs.take k ∨ z ∈ xs.drop k := by rw [← List.mem_append, List.take_append_drop]
      rw [e]
      constructor
      · rintro (h | h | h)
        · exact .inl (.inl h)
        · exact .inr h
        · exact .inl (.inr h)
      · rintro ((h | h) | h)
        · exact .inl h
        · exact .inr (.inr h)
        · exact .inr (.inl h)
theorem markL_asc (n : Nat) (M : Nat → Bool) : (markL n M).Pairwise (· < ·) := by
  unfold markL
  rw [List.pairwise_map]
  exact ((List.pairwise_lt_range (n := n)).filter _).imp fun h => by omega
theorem put_mark {n : Nat} {M : Nat → Bool} {y : Nat} {L : List Int} (hy : y < n) (h : PutP (markL n M) (y : Int) L) : L = markL n (fun z => M z || z == y) := by
  obtain ⟨h1, h2⟩ := put_asc (markL_asc n M) h
  refine asc_ext h1 (markL_asc _ _) fun z => ?_
  rw [h2, markL_mem, markL_mem]
  constructor
  · rintro (⟨x, hx, hm, rfl⟩ | rfl)
    · exact ⟨x, hx, by rw [hm]; rfl, rfl⟩
    · exact ⟨y, hy, by simp, rfl⟩
  · rintro ⟨x, hx, hm, rfl⟩
    rw [Bool.or_eq_true, beq_iff_eq] at hm
    rcases hm with hm | rfl
    · exact .inl ⟨x, hx, hm, rfl⟩
    · exact .inr rfl
/-- The variables of two terms. -/
def varM (t : List Int) (y : Nat) : Bool := hasI (y : Int) t
def varsL (L R : List Int) : List Int := markL 6 fun y => varM L y || varM R y
/-- Marked so far: the variables of the first k numbers. -/
def varTo (t : List Int) (k : Nat) (y : Nat) : Bool := hasI (y : Int) (t.take k)
theorem varTo_zero (t : List Int) (y : Nat) : varTo t 0 y = false := rfl
theorem varTo_next {t : List Int} {k : Nat} {v : Int} (h : t[k]? = some v) (y : Nat) : varTo t (k + 1) y = (varTo t k y || decide (v = (y : Int))) := by
  unfold varTo
  rw [List.take_add_one, h, Bool.eq_iff_iff, Bool.or_eq_true, hasI_m, hasI_m, List.mem_append, decide_eq_true_iff]
  simp only [Option.toList_some, List.mem_singleton]
  exact ⟨fun h => h.imp id Eq.symm, fun h => h.imp id Eq.symm⟩
theorem varTo_all {t : List Int} {k : Nat} (h : t.length ≤ k) (y : Nat) : varTo t k y = varM t y := by unfold varTo varM; rw [List.take_of_length_le h]
theorem varM_app (L R : List Int) (y : Nat) : varM (L ++ R) y = (varM L y || varM R y) := by
  unfold varM
  rw [Bool.eq_iff_iff, Bool.or_eq_true, hasI_m, hasI_m, hasI_m, List.mem_append]
end Go.Proofs.Ytkmcdocbdhhfhaa
