
/- Matrices of the call's own: one row more; a matrix without rows. -/
import Derived.Test.YtbonebpheimbaaaGreatDoorMem
namespace Go.Proofs.YtbonebpheimbaaaGreatDoor
open Go.RowKit

/-- A matrix of the call's own, with one row more. -/
theorem OwM.push {α : Type} {eo ei : TypeId} {f : α → Value} {lo : Nat} {w w1 : World} {v : Value} {n : Nat} {xss : List (List α)} (hne : eo ≠ ei) (h : OwM eo ei f lo w v n xss) (hb : Below w.heap.size w w1) (hlo : lo ≤ w.heap.size) {u : Value} {xs : List α} (hu : w1.ownsRow w.heap.size ei 1 u xs.length (xs.map f)) :
    ∃ vs, w1.ownsRow lo eo 1 v n vs ∧ ∀ {w2 : World} {v' : Value}, w2.ownsRow lo eo 1 v' (n + 1) (vs ++ [u]) → w1.grownBy w2 v.ownBlock → OwM eo ei f lo w2 v' (n + 1) (xss ++ [xs]) := by
  obtain ⟨vs, h1, h2, h3, h4⟩ := h
  have hk1 := own_next h1 hb
  refine ⟨vs, hk1, fun {w2 v'} hown hg => ⟨vs ++ [u], hown, by simp [h2], ?_, ?_⟩⟩
  · have far : ∀ {base : Nat} {y : Value} {ys : List α}, w1.ownsRow base ei 1 y ys.length (ys.map f) → w2.ownsRow base ei 1 y ys.length (ys.map f) := fun ho =>
      own_same ho fun b hb => hg.block b (ho.lt b hb).2 (fun e => own_ne ho hk1 hne.symm hb e.symm)
    intro k y ys hy hx
    by_cases hk : k < vs.length
    · rw [List.getElem?_append_left hk] at hy
      rw [List.getElem?_append_left (by omega)] at hx
      exact far (own_next (h3 k y ys hy hx) hb)
    · have hk2 : k = vs.length := by
        have := (List.getElem?_eq_some_iff.1 hy).1
        simp at this
        omega
      subst hk2
      rw [List.getElem?_append_right (Nat.le_refl _)] at hy
      rw [h2, List.getElem?_append_right (Nat.le_refl _)] at hx
      simp at hy hx
      subst hy
      subst hx
      exact far (own_mono hu hlo)
  · rw [List.filterMap_append]
    cases hub : u.ownBlock with
    | none => simpa [hub] using h4
    | some g =>
      simp only [List.filterMap_cons, hub, List.filterMap_nil]
      rw [List.nodup_append]
      refine ⟨h4, by simp, fun a ha b hb' => ?_⟩
      simp at hb'
      subst hb'
      obtain ⟨y, hy, hyb⟩ := List.mem_filterMap.1 ha
      obtain ⟨k, hk⟩ := List.getElem?_of_mem hy
      have hkl : k < xss.length := by rw [← h2]; exact (List.getElem?_eq_some_iff.1 hk).1
      have h5 := ((h3 k y _ hk (List.getElem?_eq_getElem hkl)).lt a hyb).2
      have h6 := (hu.lt b hub).1
      omega
/-- A matrix being gathered. -/
def MatG (w wr : World) (v : Value) (m : Nat) (acc : List (List Int)) : Prop := ∃ A c, v = .slice A m c ∧ OwM 58 3 (.int .i64) w.heap.size wr (.slice A m c) m acc ∧ Below w.heap.size w wr
theorem mat_lit {w w1 : World} (h : Below w.heap.size w w1) : OwM 58 3 (.int .i64) w.heap.size (w1.alloc (.cells #[] 58)) (.slice (some ⟨w1.heap.size, 0, none⟩) 0 0) 0 [] :=
  ⟨[], World.ownsRow_lit _ _ _ h.size (Nat.zero_le _) rfl, rfl, fun k u xs hu => by simp at hu, by simp⟩
end Go.Proofs.YtbonebpheimbaaaGreatDoor
