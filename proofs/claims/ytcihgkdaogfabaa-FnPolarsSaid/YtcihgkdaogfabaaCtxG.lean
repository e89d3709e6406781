
/- Plain law of polars: rows and columns of a context are connected. -/
import Derived.Test.YtcihgkdaogfabaaCtxP
import Derived.Test.YtcihgkdaogfabaaClosure
namespace Go.Proofs.Ytcihgkdaogfabaa
open Go.RowKit

def allR (F : List (List Bool)) (R : List Int) (c : Nat) : Bool := R.all fun r => cel F r.toNat c
/-- The columns below c that all rows of R have. -/
def rpTo (F : List (List Bool)) (R : List Int) : Nat → List Int
  | 0 => []
  | c + 1 => rpTo F R c ++ if allR F R c then [(c : Int)] else []
theorem mem_rpTo {F : List (List Bool)} {R : List Int} {x : Int} : ∀ {m : Nat}, x ∈ rpTo F R m ↔ ∃ c : Nat, c < m ∧ x = (c : Int) ∧ allR F R c = true
  | 0 => by simp [rpTo]
  | m + 1 => by
    rw [rpTo, List.mem_append, mem_rpTo]
    constructor
    · rintro (⟨r, h1, h2⟩ | h)
      · exact ⟨r, by omega, h2⟩
      · split at h
        · rename_i h1
          exact ⟨m, by omega, List.mem_singleton.1 h, h1⟩
        · simp at h
    · rintro ⟨r, h1, h2, h3⟩
      by_cases hr : r = m
      · subst hr
        right
        rw [if_pos h3]
        exact List.mem_singleton.2 h2
      · exact .inl ⟨r, by omega, h2, h3⟩
theorem rpTo_set (F : List (List Bool)) (R : List Int) : ∀ m, IsSet m (rpTo F R m)
  | 0 => ⟨List.Pairwise.nil, fun x hx => by simp [rpTo] at hx⟩
  | m + 1 => by
    obtain ⟨h1, h2⟩ := rpTo_set F R m
    refine ⟨?_, fun x hx => ?_⟩
    · rw [rpTo, List.pairwise_append]
      refine ⟨h1, by split <;> simp, fun a ha b hb => ?_⟩
      split at hb
      · rw [List.mem_singleton.1 hb]; exact (h2 a ha).2
      · simp at hb
    · obtain ⟨r, h3, h4, -⟩ := mem_rpTo.1 hx
      omega
theorem allC_iff {F : List (List Bool)} {S : List Int} {r : Nat} : allC F S r = true ↔ ∀ c ∈ S, cel F r c.toNat = true := by unfold allC; rw [List.all_eq_true]
theorem allR_iff {F : List (List Bool)} {R : List Int} {c : Nat} : allR F R c = true ↔ ∀ r ∈ R, cel F r.toNat c = true := by unfold allR; rw [List.all_eq_true]
theorem bits_below2 : ∀ c : Nat, c ≤ 6 → ∀ m, m < 64 → m < 2 ^ c → ∀ x ∈ bitsTo m 6, 0 ≤ x ∧ x < (c : Int) := by decide +kernel
section
variable {F : List (List Bool)} {n m : Nat}
/-- Rows lie in a polar exactly if the columns lie in theirs. -/
theorem gal {R S : List Int} (hR : ∀ r ∈ R, 0 ≤ r ∧ r < (n : Int)) (hS : ∀ c ∈ S, 0 ≤ c ∧ c < (m : Int)) : (∀ r ∈ R, r ∈ polTo F S n) ↔ ∀ c ∈ S, c ∈ rpTo F R m := by
  constructor
  · intro h c hc
    have h1 := hS c hc
    refine mem_rpTo.2 ⟨c.toNat, by omega, by omega, allR_iff.2 fun r hr => ?_⟩
    obtain ⟨r', h2, h3, h4⟩ := mem_polTo.1 (h r hr)
    have := allC_iff.1 h4 c hc
    rw [h3, Int.toNat_natCast]
    exact this
  · intro h r hr
    have h1 := hR r hr
    refine mem_polTo.2 ⟨r.toNat, by omega, by omega, allC_iff.2 fun c hc => ?_⟩
    obtain ⟨c', h2, h3, h4⟩ := mem_rpTo.1 (h c hc)
    have := allR_iff.1 h4 r hr
    rw [h3, Int.toNat_natCast]
    exact this
theorem rp_in {R : List Int} : ∀ c ∈ rpTo F R m, 0 ≤ c ∧ c < (m : Int) := (rpTo_set F R m).2
theorem pol_in {S : List Int} : ∀ r ∈ polTo F S n, 0 ≤ r ∧ r < (n : Int) := (polTo_set F S n).2
theorem gal_up {R : List Int} (hR : ∀ r ∈ R, 0 ≤ r ∧ r < (n : Int)) : ∀ r ∈ R, r ∈ polTo F (rpTo F R m) n := (gal hR rp_in).2 fun _ h => h
theorem gal_up2 {S : List Int} (hS : ∀ c ∈ S, 0 ≤ c ∧ c < (m : Int)) : ∀ c ∈ S, c ∈ rpTo F (polTo F S n) m := (gal pol_in hS).1 fun _ h => h
theorem rp_anti {R R' : List Int} (h : ∀ r ∈ R, r ∈ R') : ∀ c ∈ rpTo F R' m, c ∈ rpTo F R m := fun c hc => by
  obtain ⟨c', h1, h2, h3⟩ := mem_rpTo.1 hc
  exact mem_rpTo.2 ⟨c', h1, h2, allR_iff.2 fun r hr => allR_iff.1 h3 r (h r hr)⟩
theorem pol_anti {S S' : List Int} (h : ∀ c ∈ S, c ∈ S') : ∀ r ∈ polTo F S' n, r ∈ polTo F S n := fun r hr => by
  obtain ⟨r', h1, h2, h3⟩ := mem_polTo.1 hr
  exact mem_polTo.2 ⟨r', h1, h2, allC_iff.2 fun c hc => allC_iff.1 h3 c (h c hc)⟩
theorem gal_three {R : List Int} (hR : ∀ r ∈ R, 0 ≤ r ∧ r < (n : Int)) : rpTo F (polTo F (rpTo F R m) n) m = rpTo F R m :=
  set_ext (rpTo_set F _ m) (rpTo_set F _ m) fun x => ⟨fun h => rp_anti (gal_up hR) x h, fun h => gal_up2 rp_in x h⟩
theorem gal_three2 {S : List Int} (hS : ∀ c ∈ S, 0 ≤ c ∧ c < (m : Int)) : polTo F (rpTo F (polTo F S n) m) n = polTo F S n :=
  set_ext (polTo_set F _ n) (polTo_set F _ n) fun x => ⟨fun h => pol_anti (gal_up2 hS) x h, fun h => gal_up pol_in x h⟩
theorem colsL_mem : ∀ {k : Nat} {c : Nat}, c < k → polTo F [(c : Int)] n ∈ colsL F n k
  | k + 1, c, h => by
    rw [colsL, List.mem_append, List.mem_singleton]
    by_cases hc : c = k
    · subst hc; exact .inr rfl
    · exact .inl (colsL_mem (by omega))
theorem pol_sys (S : List Int) (hS : ∀ c ∈ S, 0 ≤ c ∧ c < (m : Int)) : polTo F S.reverse n ∈ systemL n (colsL F n m) := by
  induction S with
  | nil => rw [List.reverse_nil, pol_nil]; exact systemL_top _ _
  | cons c S ih =>
    rw [List.reverse_cons, pol_snoc]
    have h1 := hS c (List.mem_cons_self ..)
    have h2 : polTo F [c] n ∈ systemL n (colsL F n m) := by
      obtain ⟨c', rfl⟩ := Int.eq_ofNat_of_zero_le h1.1
      exact systemTo_has (List.mem_singleton.2 rfl) (polTo_set F _ n) (colsL_mem (by omega))
    exact systemL_cl _ _ _ (ih fun c hc => hS c (List.mem_cons_of_mem _ hc)) _ h2
theorem pol_in_sys {S : List Int} (hS : ∀ c ∈ S, 0 ≤ c ∧ c < (m : Int)) : polTo F S n ∈ systemL n (colsL F n m) := by
  have := pol_sys (F := F) (n := n) (m := m) S.reverse fun c hc => hS c (List.mem_reverse.1 hc)
  rw [List.reverse_reverse] at this
  exact this
theorem sys_is_pol {p : List Int} (hm : m ≤ 6) (h : p ∈ systemL n (colsL F n m)) : ∃ S : List Int, (∀ c ∈ S, 0 ≤ c ∧ c < (m : Int)) ∧ p = polTo F S n := by
  obtain ⟨j, h1, h2⟩ := (mem_sysCols F n p m hm).1 h
  have h64 : 2 ^ m ≤ 64 := Nat.le_trans (Nat.pow_le_pow_right (by decide) hm) (by decide)
  exact ⟨bitsTo j 6, bits_below2 m hm j (by omega) h1, h2⟩
end
theorem closeL_first {set : List Int} {b : List Int} : ∀ {l : List (List Int)}, Srt l → b ∈ l → partL b set = true → (∀ s ∈ l, partL s set = true → s = b ∨ lessT b s = true) → closeL set l = b
  | s :: l, hs, hb, hp, h => by
    rw [closeL]
    by_cases h1 : partL s set = true
    · rw [if_pos h1]
      rcases h s (List.mem_cons_self ..) h1 with e | e
      · exact e
      · rcases List.mem_cons.1 hb with e2 | hb
        · exact e2.symm
        · have := (List.pairwise_cons.1 hs).1 b hb
          exact absurd (lessT_trans _ _ _ e this) (lessT_irr b)
    · rw [if_neg h1]
      rcases List.mem_cons.1 hb with e2 | hb
      · subst e2; exact absurd hp h1
      · exact closeL_first (List.pairwise_cons.1 hs).2 hb hp fun t ht => h t (List.mem_cons_of_mem _ ht)
theorem less_of_sub {n : Nat} {b s : List Int} (hb : IsSet n b) (hs : IsSet n s) (h : ∀ x ∈ b, x ∈ s) : s = b ∨ lessT b s = true := by
  by_cases he : ∀ x ∈ s, x ∈ b
  · exact .inl (set_ext hs hb fun x => ⟨he x, h x⟩)
  · refine .inr (lessT_iff.2 (.inl ?_))
    have hnb : b.Nodup := hb.1.imp fun h => by omega
    have hns : s.Nodup := hs.1.imp fun h => by omega
    rcases Nat.lt_or_ge b.length s.length with h1 | h1
    · exact h1
    · exfalso
      refine he fun x hx => ?_
      refine Classical.byContradiction fun hxb => ?_
      have := nodup_len (l := x :: b) (m := s) (List.nodup_cons.2 ⟨hxb, hnb⟩) fun y hy => by
        rcases List.mem_cons.1 hy with rfl | hy
        · exact hx
        · exact h y hy
      simp at this
      omega
/-- The closure of rows among the closed sets is their second polar. -/
theorem close_pol {F : List (List Bool)} {n m : Nat} {R : List Int} (hm : m ≤ 6) (hR : IsSet n R) : closeL R (systemL n (colsL F n m)) = polTo F (rpTo F R m) n := by
  refine closeL_first (systemL_inv _ _).1 (pol_in_sys rp_in) (partL_iff.2 (gal_up hR.2)) fun s hs hp => ?_
  obtain ⟨S, hS, rfl⟩ := sys_is_pol hm hs
  refine less_of_sub (polTo_set F _ n) (polTo_set F _ n) (pol_anti ?_)
  exact (gal hR.2 hS).1 (partL_iff.1 hp)
theorem cr_sys {F : List (List Bool)} {n m : Nat} (hn : n ≤ 6) : sysRes (n : Int) (systemL n (colsL F n m)) = true := by
  unfold sysRes inB
  have h1 : sysB (n : Int) (systemL n (colsL F n m)) = true := sysB_iff.2 ⟨systemL_inv _ _, systemL_cl _ _, systemL_top _ _⟩
  rw [h1]
  simp
  omega

/-! ## The turned context -/
def trM (F : List (List Bool)) (n m : Nat) : List (List Bool) := (List.range m).map fun c => (List.range n).map fun r => cel F r c
theorem trM_len (F : List (List Bool)) (n m : Nat) : (trM F n m).length = m := by simp [trM]
theorem trM_row {F : List (List Bool)} {n m c : Nat} (h : c < m) : (trM F n m)[c]? = some ((List.range n).map fun r => cel F r c) := by simp [trM, List.getElem?_range h]
theorem trM_cel {F : List (List Bool)} {n m r c : Nat} (hr : r < n) (hc : c < m) : cel (trM F n m) c r = cel F r c := by
  unfold cel
  simp only [List.getD, trM_row hc, Option.getD_some, List.getElem?_map, List.getElem?_range hr, Option.map_some]
  unfold cel
  simp only [List.getD]
theorem trM_all {F : List (List Bool)} {n m : Nat} : ∀ row ∈ trM F n m, row.length = n := fun row h => by
  unfold trM at h
  obtain ⟨c, -, rfl⟩ := List.mem_map.1 h
  simp
theorem trM_col {F : List (List Bool)} {n m : Nat} (hm : 0 < m) : colN (trM F n m) = n := by
  unfold colN
  rw [List.getD, trM_row hm]
  simp
theorem trM_pol {F : List (List Bool)} {n m : Nat} {R : List Int} (hR : ∀ r ∈ R, 0 ≤ r ∧ r < (n : Int)) : polTo (trM F n m) R m = rpTo F R m :=
  set_ext (polTo_set _ R m) (rpTo_set F R m) fun x => by
    rw [mem_polTo, mem_rpTo]
    constructor
    · rintro ⟨c, h1, h2, h3⟩
      exact ⟨c, h1, h2, allR_iff.2 fun r hr => by rw [← trM_cel (n := n) (m := m) (by have := hR r hr; omega) h1]; exact allC_iff.1 h3 r hr⟩
    · rintro ⟨c, h1, h2, h3⟩
      exact ⟨c, h1, h2, allC_iff.2 fun r hr => by rw [trM_cel (n := n) (m := m) (by have := hR r hr; omega) h1]; exact allR_iff.1 h3 r hr⟩
theorem nodup_map_len {l : List (List Int)} {k : List (List Int)} {f : List Int → List Int} (hl : l.Nodup) (hi : ∀ a ∈ l, ∀ b ∈ l, f a = f b → a = b) (hm : ∀ a ∈ l, f a ∈ k) : l.length ≤ k.length := by
  have hn : (l.map f).Nodup := by
    unfold List.Nodup at *
    rw [List.pairwise_map]
    exact hl.imp_of_mem fun {a b} ha hb h e => h (hi a ha b hb e)
  have := nodup_len hn (m := k) fun y hy => by
    obtain ⟨a, ha, rfl⟩ := List.mem_map.1 hy
    exact hm a ha
  simpa using this
theorem turn_le {F : List (List Bool)} {n m : Nat} (hm : m ≤ 6) : (systemL n (colsL F n m)).length ≤ (systemL m (colsL (trM F n m) m n)).length := by
  refine nodup_map_len (f := fun p => rpTo F p m) (systemL_inv _ _).1.nodup (fun a ha b hb e => ?_) fun a ha => ?_
  · obtain ⟨S, hS, rfl⟩ := sys_is_pol hm ha
    obtain ⟨T, hT, rfl⟩ := sys_is_pol hm hb
    have e : rpTo F (polTo F S n) m = rpTo F (polTo F T n) m := e
    rw [← gal_three2 hS, e, gal_three2 hT]
  · show rpTo F a m ∈ _
    have h := (systemL_inv n (colsL F n m)).2 a ha
    rw [← trM_pol (n := n) h.2]
    exact pol_in_sys h.2
theorem trM_two {F : List (List Bool)} {n m : Nat} (hn : F.length = n) (hF : ∀ row ∈ F, row.length = m) : trM (trM F n m) m n = F := by
  apply List.ext_getElem?
  intro r
  by_cases hr : r < n
  · rw [trM_row hr]
    have hx : F[r]? = some (F[r]'(by omega)) := List.getElem?_eq_getElem (by omega)
    rw [hx]
    have hl := hF _ (List.mem_of_getElem? hx)
    congr 1
    apply List.ext_getElem?
    intro c
    by_cases hc : c < m
    · rw [List.getElem?_map, List.getElem?_range hc, Option.map_some, trM_cel hr hc]
      unfold cel
      have hcc : (F[r]'(by omega))[c]? = some ((F[r]'(by omega))[c]'(by omega)) := List.getElem?_eq_getElem (by omega)
      simp [List.getD, hx, hcc]
    · rw [List.getElem?_eq_none (by simp; omega), List.getElem?_eq_none (by omega)]
  · rw [List.getElem?_eq_none (by rw [trM_len]; omega), List.getElem?_eq_none (by omega)]
theorem turn_eq {F : List (List Bool)} {n m : Nat} (hn : F.length = n) (hn6 : n ≤ 6) (hm : m ≤ 6) (hF : ∀ row ∈ F, row.length = m) : (systemL m (colsL (trM F n m) m n)).length = (systemL n (colsL F n m)).length := by
  refine Nat.le_antisymm ?_ (turn_le hm)
  have := turn_le (F := trM F n m) (n := m) (m := n) hn6
  rw [trM_two hn hF] at this
  exact this
end Go.Proofs.Ytcihgkdaogfabaa
