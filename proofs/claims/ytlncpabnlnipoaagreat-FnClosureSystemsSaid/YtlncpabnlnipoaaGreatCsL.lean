
/- Plain law: the poset of a closure system is a lattice. -/
import Derived.Test.YtlncpabnlnipoaaGreatCsP
import Derived.Test.YtlncpabnlnipoaaGreatLat
import Derived.Test.YtlncpabnlnipoaaGreatSysPos
namespace Go.Proofs.YtlncpabnlnipoaaGreat
open Go.RowKit

theorem rowTo_rises (F : Nat → Nat → Bool) (x : Nat) (q : Nat) : risesL (rowTo F x q) = true := by
  rw [rises_iff]
  unfold rowTo
  rw [List.pairwise_map]
  exact (List.pairwise_lt_range.filter _).imp fun h => by omega
theorem pos_row {m x : Nat} {F : Nat → Nat → Bool} (hx : x < m) : rowOf (posTo m F m) x = rowTo F x m := by
  unfold rowOf posTo
  simp [List.getD, List.getElem?_map, List.getElem?_range hx]
theorem pos_leF {m x y : Nat} {F : Nat → Nat → Bool} (hy : y < m) (hx : x < m) : leF (posTo m F m) y x = F y x := by
  unfold leF
  rw [pos_row hx, Bool.eq_iff_iff, hasI_iff, rowTo_mem]
  constructor
  · rintro ⟨z, h1, h2, h3⟩
    obtain rfl : y = z := by omega
    exact h2
  · intro h
    exact ⟨y, hy, h, rfl⟩
theorem ord_congr {m : Nat} {F G : Nat → Nat → Bool} (h : ∀ x < m, ∀ y < m, F x y = G x y) (hF : OrdP m F) : OrdP m G := fun x hx => by
  obtain ⟨h1, h2⟩ := hF x hx
  refine ⟨by rw [← h x hx x hx]; exact h1, fun y hy => ?_⟩
  obtain ⟨h3, h4⟩ := h2 y hy
  refine ⟨by rw [← h x hx y hy, ← h y hy x hx]; exact h3, fun z hz => ?_⟩
  have := h4 z hz
  unfold TrP at *
  rw [← h x hx y hy, ← h y hy z hz, ← h x hx z hz]
  exact this
section
variable {n : Nat} {S : List (List Int)}
theorem incl_iff {i k : Nat} : incl S i k = true ↔ ∀ x ∈ S.getD i [], x ∈ S.getD k [] := partL_iff
theorem sys_get (hS : IsSys n S) {i : Nat} (hi : i < S.length) : S.getD i [] ∈ S ∧ IsSet n (S.getD i []) := by
  have e : S.getD i [] = S[i] := by simp [List.getD, List.getElem?_eq_getElem hi]
  rw [e]
  exact ⟨List.getElem_mem hi, hS.1.2 _ (List.getElem_mem hi)⟩
theorem sys_idx {p : List Int} (hp : p ∈ S) : ∃ z, z < S.length ∧ S.getD z [] = p := by
  obtain ⟨z, hz⟩ := List.getElem?_of_mem hp
  obtain ⟨h1, h2⟩ := List.getElem?_eq_some_iff.1 hz
  exact ⟨z, h1, by simp [List.getD, hz]⟩
theorem incl_ord (hS : IsSys n S) : OrdP S.length (incl S) := fun x hx => by
  refine ⟨incl_iff.2 fun _ h => h, fun y hy => ⟨?_, fun z hz => ?_⟩⟩
  · rintro ⟨hne, h1, h2⟩
    have hx' := sys_get hS hx
    have hy' := sys_get hS hy
    have e : S.getD x [] = S.getD y [] := set_ext hx'.2 hy'.2 fun v => ⟨fun h => incl_iff.1 h1 v h, fun h => incl_iff.1 h2 v h⟩
    simp only [List.getD, List.getElem?_eq_getElem hx, List.getElem?_eq_getElem hy, Option.getD_some] at e
    have hp := List.pairwise_iff_getElem.1 hS.1.1
    rcases Nat.lt_or_gt_of_ne hne with h | h
    · have := hp x y hx hy h
      rw [e] at this
      exact lessT_irr _ this
    · have := hp y x hy hx h
      rw [e] at this
      exact lessT_irr _ this
  · rintro ⟨h1, h2, h3⟩
    have : incl S x z = true := incl_iff.2 fun v hv => incl_iff.1 h2 v (incl_iff.1 h1 v hv)
    rw [this] at h3
    cases h3
theorem incl_meet (hS : IsSys n S) : MeetP (incl S) S.length := fun x hx y hy => by
  have hx' := sys_get hS hx
  have hy' := sys_get hS hy
  obtain ⟨z, hz, e⟩ := sys_idx (hS.2.1 _ hx'.1 _ hy'.1)
  have hm : ∀ v, v ∈ S.getD z [] ↔ v ∈ S.getD x [] ∧ v ∈ S.getD y [] := fun v => by rw [e, mem_meetL]
  unfold mt
  rw [gr_last (v := (z : Int)) (incl_ord hS) row_in (rowTo_mem.2 ⟨z, hz, by unfold mtF; rw [Bool.and_eq_true]; exact ⟨incl_iff.2 fun v hv => ((hm v).1 hv).1, incl_iff.2 fun v hv => ((hm v).1 hv).2⟩, rfl⟩) (below_mem.2 fun v hv => ?_)]
  · omega
  · obtain ⟨u, hu, h1, rfl⟩ := rowTo_mem.1 hv
    unfold mtF at h1
    rw [Bool.and_eq_true] at h1
    rw [Int.toNat_natCast, Int.toNat_natCast]
    exact incl_iff.2 fun t ht => (hm t).2 ⟨incl_iff.1 h1.1 t ht, incl_iff.1 h1.2 t ht⟩
theorem incl_join (hS : IsSys n S) : MeetP (duF (incl S)) S.length := fun x hx y hy => by
  have hx' := sys_get hS hx
  have hy' := sys_get hS hy
  have hu : ∀ v ∈ S.getD x [] ++ S.getD y [], 0 ≤ v ∧ v < (n : Int) := fun v hv => by
    rcases List.mem_append.1 hv with hv | hv
    · exact hx'.2.2 v hv
    · exact hy'.2.2 v hv
  obtain ⟨h1, h2⟩ := sys_close hS hu
  obtain ⟨z, hz, e⟩ := sys_idx h1
  have h2' := partL_iff.1 h2
  unfold mt
  rw [gr_last (v := (z : Int)) (ord_du (incl_ord hS)) row_in (rowTo_mem.2 ⟨z, hz, by
    unfold mtF duF
    rw [Bool.and_eq_true]
    exact ⟨incl_iff.2 fun v hv => by rw [e]; exact h2' v (List.mem_append_left _ hv), incl_iff.2 fun v hv => by rw [e]; exact h2' v (List.mem_append_right _ hv)⟩, rfl⟩) (below_mem.2 fun v hv => ?_)]
  · omega
  · obtain ⟨u, hu2, h3, rfl⟩ := rowTo_mem.1 hv
    unfold mtF duF at h3
    rw [Bool.and_eq_true] at h3
    rw [Int.toNat_natCast, Int.toNat_natCast]
    unfold duF
    refine incl_iff.2 fun t ht => ?_
    rw [e] at ht
    refine partL_iff.1 (close_least hS hu (sys_get hS hu2).1 (partL_iff.2 fun v hv => ?_)) t ht
    rcases List.mem_append.1 hv with hv | hv
    · exact incl_iff.1 h3.1 v hv
    · exact incl_iff.1 h3.2 v hv
/-- The poset of a closure system of ten sets at most is a lattice. -/
theorem pos_lat (hS : IsSys n S) (h10 : S.length ≤ 10) : GoodP (posTo S.length (incl S) S.length) ∧ LatP (leF (posTo S.length (incl S) S.length)) S.length := by
  have hc : ∀ x < S.length, ∀ y < S.length, incl S x y = leF (posTo S.length (incl S) S.length) x y := fun x hx y hy => (pos_leF hx hy).symm
  refine ⟨⟨by rw [posTo_len]; exact h10, fun x hx => ?_, ?_⟩, ?_, ?_, ?_⟩
  · rw [posTo_len] at hx
    unfold RowP
    rw [pos_row hx, posTo_len]
    exact ⟨rowTo_rises _ _ _, allIn_iff.2 fun v hv => row_in v hv⟩
  · rw [posTo_len]
    exact ord_congr hc (incl_ord hS)
  · intro h0
    have := hS.2.2
    rw [List.eq_nil_of_length_eq_zero h0] at this
    simp at this
  · exact (meet_congr hc).1 (incl_meet hS)
  · exact (meet_congr (fun x hx y hy => hc y hy x hx)).1 (incl_join hS)
end
end Go.Proofs.YtlncpabnlnipoaaGreat
