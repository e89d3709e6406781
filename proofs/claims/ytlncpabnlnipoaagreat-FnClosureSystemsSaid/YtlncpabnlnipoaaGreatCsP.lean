
/- Plain laws of closure systems, for FnClosureSystems: closures grow and are their own, the meet-irreducible sets generate the system. -/
import Derived.Test.YtlncpabnlnipoaaGreatIrr
import Derived.Test.YtlncpabnlnipoaaGreatClosP2
namespace Go.Proofs.YtlncpabnlnipoaaGreat
open Go.RowKit

section
variable {n : Nat} {S : List (List Int)}
theorem close_in {set : List Int} : ∀ {l : List (List Int)}, (∃ s ∈ l, partL s set = true) → closeL set l ∈ l ∧ partL (closeL set l) set = true
  | [], h => by obtain ⟨s, hs, -⟩ := h; simp at hs
  | s :: l, h => by
    rw [closeL]
    by_cases h1 : partL s set = true
    · rw [if_pos h1]; exact ⟨List.mem_cons_self .., h1⟩
    · rw [if_neg h1]
      obtain ⟨t, ht, hp⟩ := h
      rcases List.mem_cons.1 ht with rfl | ht
      · exact absurd hp h1
      · have := close_in ⟨t, ht, hp⟩
        exact ⟨List.mem_cons_of_mem _ this.1, this.2⟩
theorem sys_close (hS : IsSys n S) {set : List Int} (hs : ∀ x ∈ set, 0 ≤ x ∧ x < (n : Int)) : closeL set S ∈ S ∧ partL (closeL set S) set = true :=
  close_in ⟨upTo n, hS.2.2, partL_iff.2 fun x hx => mem_upTo.2 (hs x hx)⟩
theorem close_self (hS : IsSys n S) {s : List Int} (hs : s ∈ S) : closeL s S = s :=
  closeL_first2 hS.1.1 hs (partL_iff.2 fun _ h => h) fun t ht hp => less_of_sub2 (hS.1.2 s hs) (hS.1.2 t ht) (partL_iff.1 hp)
theorem close_idem (hS : IsSys n S) {set : List Int} (hs : ∀ x ∈ set, 0 ≤ x ∧ x < (n : Int)) : closeL (closeL set S) S = closeL set S := close_self hS (sys_close hS hs).1
/-- The closure is at most each closed set that has the set. -/
theorem close_first {set : List Int} : ∀ {l : List (List Int)}, Srt l → ∀ m ∈ l, partL m set = true → closeL set l = m ∨ lessT (closeL set l) m = true
  | s :: l, hs, m, hm, hp => by
    rw [closeL]
    by_cases h1 : partL s set = true
    · rw [if_pos h1]
      rcases List.mem_cons.1 hm with rfl | hm
      · exact .inl rfl
      · exact .inr ((List.pairwise_cons.1 hs).1 m hm)
    · rw [if_neg h1]
      rcases List.mem_cons.1 hm with rfl | hm
      · exact absurd hp h1
      · exact close_first (List.pairwise_cons.1 hs).2 m hm hp
theorem close_least (hS : IsSys n S) {set c : List Int} (hs : ∀ x ∈ set, 0 ≤ x ∧ x < (n : Int)) (hc : c ∈ S) (hp : partL c set = true) : partL c (closeL set S) = true := by
  obtain ⟨h1, h2⟩ := sys_close hS hs
  have hm := hS.2.1 _ h1 _ hc
  have hmp : partL (meetL c (closeL set S)) set = true := partL_iff.2 fun x hx => mem_meetL.2 ⟨partL_iff.1 h2 x hx, partL_iff.1 hp x hx⟩
  have hms := hS.1.2 _ hm
  have hcs := hS.1.2 _ h1
  have key : closeL set S = meetL c (closeL set S) := by
    rcases close_first hS.1.1 _ hm hmp with e | e
    · exact e
    · rcases less_of_sub2 hms hcs (fun x hx => (mem_meetL.1 hx).1) with e2 | e2
      · exact e2
      · exact absurd (lessT_trans _ _ _ e e2) (lessT_irr _)
  exact partL_iff.2 fun x hx => by rw [key] at hx; exact (mem_meetL.1 hx).2

/-! ## The meet-irreducible sets -/
theorem metF_in {Y : List (List Int)} (hY : Cl Y) {s : List Int} : ∀ {l : List (List Int)} {m : List Int}, (∀ t ∈ l, t ≠ s → partL t s = true → t ∈ Y) → m ∈ Y → metF s l m ∈ Y
  | [], _, _, h => h
  | t :: l, m, hl, h => by
    rw [metF]
    split
    · rename_i h1
      exact metF_in hY (fun u hu => hl u (List.mem_cons_of_mem _ hu)) (hY m h t (hl t (List.mem_cons_self ..) h1.1 h1.2))
    · exact metF_in hY (fun u hu => hl u (List.mem_cons_of_mem _ hu)) h
theorem mem_irr_iff {full : List (List Int)} {p : List Int} : ∀ {l : List (List Int)}, p ∈ irr n full l ↔ p ∈ l ∧ metF p full (upTo n) ≠ p
  | [] => by simp [irr]
  | s :: l => by
    rw [irr]
    split
    · rename_i h
      rw [List.mem_cons, List.mem_cons, mem_irr_iff]
      constructor
      · rintro (rfl | ⟨h1, h2⟩)
        · exact ⟨.inl rfl, h⟩
        · exact ⟨.inr h1, h2⟩
      · rintro ⟨rfl | h1, h2⟩
        · exact .inl rfl
        · exact .inr ⟨h1, h2⟩
    · rename_i h
      rw [List.mem_cons, mem_irr_iff]
      constructor
      · rintro ⟨h1, h2⟩; exact ⟨.inr h1, h2⟩
      · rintro ⟨rfl | h1, h2⟩
        · exact absurd h2 h
        · exact ⟨h1, h2⟩
theorem last_top (hS : IsSys n S) {s : List Int} (hs : s ∈ S) (hne : s ≠ upTo n) : s ∈ S.dropLast := by
  obtain ⟨⟨hsrt, hset⟩, -, htop⟩ := hS
  have hne2 : S ≠ [] := List.ne_nil_of_mem hs
  have e := List.dropLast_concat_getLast hne2
  rw [← e, List.mem_append, List.mem_singleton] at hs
  rcases hs with hs | hs
  · exact hs
  · exfalso
    have htop2 := htop
    rw [← e, List.mem_append, List.mem_singleton] at htop2
    rcases htop2 with h | h
    · have hp : (S.dropLast ++ [S.getLast hne2]).Pairwise fun p q => lessT p q = true := by rw [e]; exact hsrt
      have h1 := (List.pairwise_append.1 hp).2.2 _ h _ (List.mem_singleton.2 rfl)
      rw [← hs] at h1
      have hss : IsSet n s := by rw [hs]; exact hset _ (List.getLast_mem hne2)
      rcases less_of_sub2 hss (upTo_set n) (fun x hx => mem_upTo.2 (hss.2 x hx)) with e2 | e2
      · exact hne e2.symm
      · exact absurd (lessT_trans _ _ _ h1 e2) (lessT_irr _)
    · exact hne (hs.trans h.symm)
theorem irr_gen (hS : IsSys n S) : systemL n (irr n S S.dropLast) = S := by
  refine Srt.ext (systemL_inv _ _).1 hS.1.1 fun p => ⟨fun hp => ?_, fun hp => ?_⟩
  · refine systemTo_min (Y := S) hS.2.1 (fun q hq => List.dropLast_subset _ (mem_irr hq)) (fun q hq => ?_) p hp
    rw [List.mem_singleton.1 hq]
    exact hS.2.2
  · have key : ∀ k, ∀ s ∈ S, n - s.length ≤ k → s ∈ systemL n (irr n S S.dropLast) := by
      intro k
      induction k with
      | zero =>
        intro s hs hk
        have h1 := hS.1.2 s hs
        have h2 := isSet_len h1
        have e : s = upTo n := (set_sub h1).eq_of_length (by rw [upTo_len]; omega)
        rw [e]
        exact systemL_top _ _
      | succ k ih =>
        intro s hs hk
        have h1 := hS.1.2 s hs
        by_cases htop : s = upTo n
        · rw [htop]; exact systemL_top _ _
        · have hd := last_top hS hs htop
          by_cases hir : metF s S (upTo n) ≠ s
          · exact systemTo_has (List.mem_singleton.2 rfl) h1 (mem_irr_iff.2 ⟨hd, hir⟩)
          · have e : metF s S (upTo n) = s := Classical.byContradiction hir
            rw [← e]
            refine metF_in (systemL_cl _ _) (fun t ht hne hp => ih t ht ?_) (systemL_top _ _)
            have h2 := (part_len h1 (hS.1.2 t ht) hp).2 hne
            omega
    exact key _ p hp (Nat.le_refl _)
end
end Go.Proofs.YtlncpabnlnipoaaGreat
