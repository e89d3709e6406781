
/- MeetIrreducibleSets: what it answers, in plain lists; matrices that grow. -/
import Derived.Test.YtlncpabnlnipoaaKit
import Derived.Test.YtlncpabnlnipoaaClosure
namespace Go.Proofs.Ytlncpabnlnipoaa
open Go.RowKit

theorem partL_iff {ys : List Int} : ∀ {xs : List Int}, partL ys xs = true ↔ ∀ x ∈ xs, x ∈ ys
  | [] => by simp [partL]
  | x :: l => by
    rw [partL]
    simp only [Bool.and_eq_true, hasI_iff, List.mem_cons, forall_eq_or_imp]
    rw [partL_iff (xs := l)]
theorem part_sub {n m : Nat} {s t : List Int} (hs : IsSet n s) (ht : IsSet m t) (h : partL t s = true) : s.Sublist t := by
  have h1 := partL_iff.1 h
  have e : meetL s t = s := set_ext (n := m) (m := n) (ht.meet s) hs fun x => by rw [mem_meetL]; exact ⟨fun h => h.2, fun h => ⟨h1 x h, h⟩⟩
  rw [← e]
  exact meetL_sub s t
theorem part_len {n m : Nat} {s t : List Int} (hs : IsSet n s) (ht : IsSet m t) (h : partL t s = true) : s.length < t.length ↔ t ≠ s := by
  have h1 := part_sub hs ht h
  have h2 := h1.length_le
  constructor
  · intro hl e
    rw [e] at hl
    omega
  · intro hne
    rcases Nat.lt_or_ge s.length t.length with h3 | h3
    · exact h3
    · exact absurd (h1.eq_of_length (by omega)).symm hne
/-- The meet of all that lie properly above s. -/
def metF (s : List Int) : List (List Int) → List Int → List Int
  | [], m => m
  | t :: l, m => metF s l (if t ≠ s ∧ partL t s = true then meetL t m else m)
def irr (n : Nat) (full : List (List Int)) : List (List Int) → List (List Int)
  | [] => []
  | s :: l => if metF s full (upTo n) ≠ s then s :: irr n full l else irr n full l
theorem metF_set {n : Nat} {s : List Int} : ∀ {l : List (List Int)} {m : List Int}, IsSet n m → IsSet n (metF s l m)
  | [], _, h => h
  | t :: l, m, h => by
    rw [metF]
    split
    · exact metF_set (h.meet t)
    · exact metF_set h
theorem metF_sup {s : List Int} : ∀ {l : List (List Int)} {m : List Int}, (∀ x ∈ s, x ∈ m) → ∀ x ∈ s, x ∈ metF s l m
  | [], _, h => h
  | t :: l, m, h => by
    rw [metF]
    split
    · rename_i h1
      exact metF_sup fun x hx => mem_meetL.2 ⟨h x hx, partL_iff.1 h1.2 x hx⟩
    · exact metF_sup h
theorem metF_len {n : Nat} {s : List Int} {l : List (List Int)} (hs : IsSet n s) : (s.length < (metF s l (upTo n)).length ↔ metF s l (upTo n) ≠ s) :=
  part_len hs (metF_set (upTo_set n)) (partL_iff.2 (metF_sup fun x hx => mem_upTo.2 (hs.2 x hx)))
theorem isSet_len {n : Nat} {s : List Int} (h : IsSet n s) : s.length ≤ n := by
  have := (set_sub h).length_le
  rwa [upTo_len] at this
def irrRes (n : Int) (xss : List (List Int)) : List (List Int) := if sysRes n xss then irr n.toNat xss xss.dropLast else []
theorem mem_irr {n : Nat} {full : List (List Int)} {p : List Int} : ∀ {l : List (List Int)}, p ∈ irr n full l → p ∈ l
  | [], h => h
  | s :: l, h => by
    rw [irr] at h
    split at h
    · rcases List.mem_cons.1 h with rfl | h
      · exact List.mem_cons_self ..
      · exact List.mem_cons_of_mem _ (mem_irr h)
    · exact List.mem_cons_of_mem _ (mem_irr h)
theorem irr_len {n : Nat} {full : List (List Int)} : ∀ {l : List (List Int)}, (irr n full l).length ≤ l.length
  | [] => Nat.le_refl _
  | s :: l => by
    rw [irr]
    have := irr_len (n := n) (full := full) (l := l)
    split <;> simp <;> omega
theorem mem_irrRes {n : Int} {xss : List (List Int)} {p : List Int} (h : p ∈ irrRes n xss) : p ∈ xss := by
  unfold irrRes at h
  split at h
  · exact List.dropLast_subset _ (mem_irr h)
  · simp at h
theorem irrRes_total {n : Int} {xss : List (List Int)} (h : ∀ xs ∈ xss, xs.length ≤ 1048576) (hl : xss.length ≤ 1048576) : total (irrRes n xss) ≤ 1099511627776 := by
  refine total_le (fun p hp => h p (mem_irrRes hp)) ?_
  unfold irrRes
  split
  · have h1 := irr_len (n := n.toNat) (full := xss) (l := xss.dropLast)
    rw [List.length_dropLast] at h1
    omega
  · simp
theorem sysRes_iff {n : Nat} {xss : List (List Int)} (h : sysRes n xss = true) : n ≤ 6 ∧ IsSys n xss := by
  have h1 := sysRes_range h
  unfold sysRes at h
  simp at h
  exact ⟨by omega, sysB_iff.1 h.2⟩

/-- A matrix of the call's own, with one row more. -/
theorem OwM.push {α : Type} {eo ei : TypeId} {f : α → Value} {lo : Nat} {w w1 : World} {v : Value} {n : Nat} {xss : List (List α)} (hne : eo ≠ ei) (h : OwM eo ei f lo w v n xss) (hb : Below w.heap.size w w1) (hlo : lo ≤ w.heap.size) {u : Value} {xs : List α} (hu : w1.ownsRow w.heap.size ei 1 u xs.length (xs.map f)) :
    ∃ vs, w1.ownsRow lo eo 1 v n vs ∧ ∀ {w2 : World} {v' : Value}, w2.ownsRow lo eo 1 v' (n + 1) (vs ++ [u]) → w1.grownBy w2 v.ownBlock → OwM eo ei f lo w2 v' (n + 1) (xss ++ [xs]) := by
  obtain ⟨vs, h1, h2, h3, h4⟩ := h
  have hk1 := own_next h1 hb
  refine ⟨vs, hk1, fun {w2 v'} hown hg => ⟨vs ++ [u], hown, by simp [h2], ?_, ?_⟩⟩
  · have far : ∀ {base : Nat} {y : Value} {ys : List α}, w1.ownsRow base ei 1 y ys.length (ys.map f) → w2.ownsRow base ei 1 y ys.length (ys.map f) := fun ho =>
      own_same ho fun b hb => hg.block b (ho.lt b hb).2 (fun e => own_ne ho hk1 hne.symm hb e.symm)
    intro k y ys hy hx
    by_cases hk : k < vs.length
    · rw [List.getElem?_append_left hk] at hy
      rw [List.getElem?_append_left (by omega)] at hx
      exact far (own_next (h3 k y ys hy hx) hb)
    · have hk2 : k = vs.length := by
        have := (List.getElem?_eq_some_iff.1 hy).1
        simp at this
        omega
      subst hk2
      rw [List.getElem?_append_right (Nat.le_refl _)] at hy
      rw [h2, List.getElem?_append_right (Nat.le_refl _)] at hx
      simp at hy hx
      subst hy
      subst hx
      exact far (own_mono hu hlo)
  · rw [List.filterMap_append]
    cases hub : u.ownBlock with
    | none => simpa [hub] using h4
    | some g =>
      simp only [List.filterMap_cons, hub, List.filterMap_nil]
      rw [List.nodup_append]
      refine ⟨h4, by simp, fun a ha b hb' => ?_⟩
      simp at hb'
      subst hb'
      obtain ⟨y, hy, hyb⟩ := List.mem_filterMap.1 ha
      obtain ⟨k, hk⟩ := List.getElem?_of_mem hy
      have hkl : k < xss.length := by rw [← h2]; exact (List.getElem?_eq_some_iff.1 hk).1
      have h5 := ((h3 k y _ hk (List.getElem?_eq_getElem hkl)).lt a hyb).2
      have h6 := (hu.lt b hub).1
      omega
/-- A matrix being gathered. -/
def MatG (w wr : World) (v : Value) (m : Nat) (acc : List (List Int)) : Prop := ∃ A c, v = .slice A m c ∧ OwM 27 3 (.int .i64) w.heap.size wr (.slice A m c) m acc ∧ Below w.heap.size w wr
theorem mat_lit {w w1 : World} (h : Below w.heap.size w w1) : OwM 27 3 (.int .i64) w.heap.size (w1.alloc (.cells #[] 27)) (.slice (some ⟨w1.heap.size, 0, none⟩) 0 0) 0 [] :=
  ⟨[], World.ownsRow_lit _ _ _ h.size (Nat.zero_le _) rfl, rfl, fun k u xs hu => by simp at hu, by simp⟩
/-- The call hands back a matrix of its own and a bool. -/
def OwnMB (w : World) (xss : List (List Int)) (b : Bool) (e : Ending) (w' : World) : Prop := ∃ A n c, e = .returned (.tuple #[.slice A n c, .bool b]) ∧ OwM 27 3 (.int .i64) w.heap.size w' (.slice A n c) n xss ∧ Below w.heap.size w w'
/-- The call hands back a slice of slices that reads so, and a bool. -/
def RdMB (w : World) (xss : List (List Int)) (b : Bool) (e : Ending) (w' : World) : Prop := ∃ A n c, e = .returned (.tuple #[.slice A n c, .bool b]) ∧ RdL (RV RI) w' A n xss ∧ Below w.heap.size w w'
end Go.Proofs.Ytlncpabnlnipoaa
