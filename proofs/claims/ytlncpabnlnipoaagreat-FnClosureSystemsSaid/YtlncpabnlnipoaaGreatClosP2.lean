
/- Plain laws: the first closed set; a set within another goes ahead of it. Printed out of the text CtxG. -/
import Derived.Test.YtlncpabnlnipoaaGreatIrr
namespace Go.Proofs.YtlncpabnlnipoaaGreat
open Go.RowKit

theorem closeL_first2 {set : List Int} {b : List Int} : ∀ {l : List (List Int)}, Srt l → b ∈ l → partL b set = true → (∀ s ∈ l, partL s set = true → s = b ∨ lessT b s = true) → closeL set l = b
  | s :: l, hs, hb, hp, h => by
    rw [closeL]
    by_cases h1 : partL s set = true
    · rw [if_pos h1]
      rcases h s (List.mem_cons_self ..) h1 with e | e
      · exact e
      · rcases List.mem_cons.1 hb with e2 | hb
        · exact e2.symm
        · have := (List.pairwise_cons.1 hs).1 b hb
          exact absurd (lessT_trans _ _ _ e this) (lessT_irr b)
    · rw [if_neg h1]
      rcases List.mem_cons.1 hb with e2 | hb
      · subst e2; exact absurd hp h1
      · exact closeL_first2 (List.pairwise_cons.1 hs).2 hb hp fun t ht => h t (List.mem_cons_of_mem _ ht)
theorem less_of_sub2 {n : Nat} {b s : List Int} (hb : IsSet n b) (hs : IsSet n s) (h : ∀ x ∈ b, x ∈ s) : s = b ∨ lessT b s = true := by
  by_cases he : ∀ x ∈ s, x ∈ b
  · exact .inl (set_ext hs hb fun x => ⟨he x, h x⟩)
  · refine .inr (lessT_iff.2 (.inl ?_))
    have hnb : b.Nodup := hb.1.imp fun h => by omega
    have hns : s.Nodup := hs.1.imp fun h => by omega
    rcases Nat.lt_or_ge b.length s.length with h1 | h1
    · exact h1
    · exfalso
      refine he fun x hx => ?_
      refine Classical.byContradiction fun hxb => ?_
      have := nodup_len (l := x :: b) (m := s) (List.nodup_cons.2 ⟨hxb, hnb⟩) fun y hy => by
        rcases List.mem_cons.1 hy with rfl | hy
        · exact hx
        · exact h y hy
      simp at this
      omega
end Go.Proofs.YtlncpabnlnipoaaGreat
