
/- Plain law of ClosedRows: the polars of single columns generate what the polars of all sets of columns are. -/
import Derived.Test.YtlncpabnlnipoaaGreatSysF
import Derived.Test.YtlncpabnlnipoaaGreatBits
import Derived.Test.YtlncpabnlnipoaaGreatFreeP
import Derived.Test.YtlncpabnlnipoaaGreatBools
import Derived.Test.YtlncpabnlnipoaaGreatFreeR
namespace Go.Proofs.YtlncpabnlnipoaaGreat
open Go.RowKit

def colN (F : List (List Bool)) : Nat := (F.getD 0 []).length
def cel (F : List (List Bool)) (r c : Nat) : Bool := (F.getD r []).getD c false
def ctxB (F : List (List Bool)) : Bool := decide (F.length ≤ 6) && (decide (colN F ≤ 6) && F.all fun row => decide (row.length = colN F))
def allC (F : List (List Bool)) (S : List Int) (r : Nat) : Bool := S.all fun c => cel F r c.toNat
/-- The rows below r that have all columns of S. -/
def polTo (F : List (List Bool)) (S : List Int) : Nat → List Int
  | 0 => []
  | r + 1 => polTo F S r ++ if allC F S r then [(r : Int)] else []
theorem mem_polTo {F : List (List Bool)} {S : List Int} {x : Int} : ∀ {n : Nat}, x ∈ polTo F S n ↔ ∃ r : Nat, r < n ∧ x = (r : Int) ∧ allC F S r = true
  | 0 => by simp [polTo]
  | n + 1 => by
    rw [polTo, List.mem_append, mem_polTo]
    constructor
    · rintro (⟨r, h1, h2⟩ | h)
      · exact ⟨r, by omega, h2⟩
      · split at h
        · rename_i h1
          exact ⟨n, by omega, List.mem_singleton.1 h, h1⟩
        · simp at h
    · rintro ⟨r, h1, h2, h3⟩
      by_cases hr : r = n
      · subst hr
        right
        rw [if_pos h3]
        exact List.mem_singleton.2 h2
      · exact .inl ⟨r, by omega, h2, h3⟩
theorem polTo_set (F : List (List Bool)) (S : List Int) : ∀ n, IsSet n (polTo F S n)
  | 0 => ⟨List.Pairwise.nil, fun x hx => by simp [polTo] at hx⟩
  | n + 1 => by
    obtain ⟨h1, h2⟩ := polTo_set F S n
    refine ⟨?_, fun x hx => ?_⟩
    · rw [polTo, List.pairwise_append]
      refine ⟨h1, by split <;> simp, fun a ha b hb => ?_⟩
      split at hb
      · rw [List.mem_singleton.1 hb]; exact (h2 a ha).2
      · simp at hb
    · obtain ⟨r, h3, h4, -⟩ := mem_polTo.1 hx
      omega
theorem pol_nil (F : List (List Bool)) (n : Nat) : polTo F [] n = upTo n :=
  set_ext (polTo_set F [] n) (upTo_set n) fun x => by
    rw [mem_polTo, mem_upTo]
    constructor
    · rintro ⟨r, h1, h2, -⟩; omega
    · rintro ⟨h1, h2⟩; exact ⟨x.toNat, by omega, by omega, rfl⟩
theorem pol_snoc (F : List (List Bool)) (S : List Int) (c : Int) (n : Nat) : polTo F (S ++ [c]) n = meetL (polTo F [c] n) (polTo F S n) := by
  refine set_ext (polTo_set F _ n) ((polTo_set F S n).meet _) fun x => ?_
  rw [mem_meetL, mem_polTo, mem_polTo, mem_polTo]
  unfold allC
  constructor
  · rintro ⟨r, h1, h2, h3⟩
    rw [List.all_append, Bool.and_eq_true] at h3
    exact ⟨⟨r, h1, h2, h3.1⟩, ⟨r, h1, h2, h3.2⟩⟩
  · rintro ⟨⟨r, h1, h2, h3⟩, ⟨r', h4, h5, h6⟩⟩
    obtain rfl : r = r' := by omega
    exact ⟨r, h1, h2, by rw [List.all_append, h3, h6]; rfl⟩
def colsL (F : List (List Bool)) (n : Nat) : Nat → List (List Int)
  | 0 => []
  | k + 1 => colsL F n k ++ [polTo F [(k : Int)] n]
theorem colsL_len (F : List (List Bool)) (n : Nat) : ∀ k, (colsL F n k).length = k
  | 0 => rfl
  | k + 1 => by rw [colsL, List.length_append, colsL_len F n k]; rfl
theorem colsL_set (F : List (List Bool)) (n : Nat) : ∀ k, ∀ p ∈ colsL F n k, IsSet n p
  | 0, p, h => by simp [colsL] at h
  | k + 1, p, h => by
    rw [colsL, List.mem_append, List.mem_singleton] at h
    rcases h with h | rfl
    · exact colsL_set F n k p h
    · exact polTo_set F _ n
theorem sysTo_snoc (s : List Int) : ∀ (l out : List (List Int)), systemTo (l ++ [s]) out = addTo s (systemTo l out) (systemTo l out)
  | [], _ => rfl
  | t :: l, out => sysTo_snoc s l (addTo t out out)
theorem bits_high : ∀ k : Nat, k < 6 → ∀ j, j < 64 → j < 2 ^ k → bitsTo (2 ^ k + j) 6 = bitsTo j 6 ++ [(k : Int)] := by decide +kernel
theorem mem_sysCols (F : List (List Bool)) (n : Nat) (p : List Int) : ∀ k, k ≤ 6 → (p ∈ systemTo (colsL F n k) [upTo n] ↔ ∃ j, j < 2 ^ k ∧ p = polTo F (bitsTo j 6) n)
  | 0, _ => by
    have e : bitsTo 0 6 = [] := by decide
    simp only [colsL, systemTo, List.mem_singleton]
    constructor
    · rintro rfl; exact ⟨0, by decide, by rw [e, pol_nil]⟩
    · rintro ⟨j, h1, h2⟩
      obtain rfl : j = 0 := by simpa using h1
      rw [h2, e, pol_nil]
  | k + 1, hk => by
    have h64 : 2 ^ k ≤ 32 := Nat.le_trans (Nat.pow_le_pow_right (by decide) (by omega : k ≤ 5)) (by decide)
    rw [colsL, sysTo_snoc, mem_addTo]
    have ih := fun p => mem_sysCols F n p k (by omega)
    have hp2 : 2 ^ (k + 1) = 2 ^ k + 2 ^ k := by rw [Nat.pow_succ]; omega
    constructor
    · rintro (h | ⟨t, ht, rfl⟩)
      · obtain ⟨j, h1, h2⟩ := (ih p).1 h
        exact ⟨j, by omega, h2⟩
      · obtain ⟨j, h1, rfl⟩ := (ih t).1 ht
        exact ⟨2 ^ k + j, by omega, by rw [bits_high k (by omega) j (by omega) h1, pol_snoc]⟩
    · rintro ⟨j, h1, rfl⟩
      by_cases hj : j < 2 ^ k
      · exact .inl ((ih _).2 ⟨j, hj, rfl⟩)
      · obtain ⟨i, rfl⟩ : ∃ i, j = 2 ^ k + i := ⟨j - 2 ^ k, by omega⟩
        exact .inr ⟨polTo F (bitsTo i 6) n, (ih _).2 ⟨i, by omega, rfl⟩, by rw [bits_high k (by omega) i (by omega) (by omega), pol_snoc]⟩
/-- The reference's list: the polar of each set of columns put in its place. -/
def crI (F : List (List Bool)) (n : Nat) : Nat → List (List Int)
  | 0 => []
  | m + 1 => putL (polTo F (bitsTo m 6) n) (crI F n m)
theorem crI_inv (F : List (List Bool)) (n : Nat) : ∀ m, Inv n (crI F n m)
  | 0 => ⟨List.Pairwise.nil, fun p hp => by simp [crI] at hp⟩
  | m + 1 => by
    have ih := crI_inv F n m
    refine ⟨ih.1.putL, fun p hp => ?_⟩
    rcases mem_putL.1 hp with rfl | hp
    · exact polTo_set F _ n
    · exact ih.2 p hp
theorem mem_crI {F : List (List Bool)} {n : Nat} {p : List Int} : ∀ {m : Nat}, p ∈ crI F n m ↔ ∃ j, j < m ∧ p = polTo F (bitsTo j 6) n
  | 0 => by simp [crI]
  | m + 1 => by
    rw [crI, mem_putL, mem_crI]
    constructor
    · rintro (h | ⟨j, h1, h2⟩)
      · exact ⟨m, by omega, h⟩
      · exact ⟨j, by omega, h2⟩
    · rintro ⟨j, h1, h2⟩
      by_cases hj : j = m
      · subst hj; exact .inl h2
      · exact .inr ⟨j, by omega, h2⟩
theorem cr_eq (F : List (List Bool)) (n c : Nat) (hc : c ≤ 6) : crI F n (2 ^ c) = systemL n (colsL F n c) :=
  Srt.ext (crI_inv F n _).1 (systemL_inv n _).1 fun p => by
    rw [mem_crI, show systemL n (colsL F n c) = systemTo (colsL F n c) [upTo n] from rfl, mem_sysCols F n p c hc]
/-- ClosedRows' answer. -/
def crRes (F : List (List Bool)) : List (List Int) := if ctxB F then systemL F.length (colsL F F.length (colN F)) else []
theorem ctx_parts {F : List (List Bool)} (h : ctxB F = true) : F.length ≤ 6 ∧ colN F ≤ 6 ∧ ∀ row ∈ F, row.length = colN F := by
  unfold ctxB at h
  simp only [Bool.and_eq_true, decide_eq_true_eq, List.all_eq_true] at h
  exact h
theorem crRes_no {F : List (List Bool)} (h : ctxB F = false) : crRes F = [] := by unfold crRes; rw [h]; rfl
theorem crRes_mem {F : List (List Bool)} {p : List Int} (h : p ∈ crRes F) : F.length ≤ 6 ∧ IsSet F.length p := by
  unfold crRes at h
  split at h
  · rename_i hh
    exact ⟨(ctx_parts hh).1, (systemL_inv _ _).2 p h⟩
  · simp at h
theorem isSet_len2 {n : Nat} {p : List Int} (h : IsSet n p) : p.length ≤ n := by
  have h1 := (set_sub h).length_le
  rw [upTo_len] at h1
  exact h1
theorem crRes_RI (F : List (List Bool)) (w : World) : ∀ p ∈ crRes F, ∀ y ∈ p, RI w (.int .i64 y) y := fun p hp y hy => by
  obtain ⟨h1, h2⟩ := crRes_mem hp
  have h3 := h2.2 y hy
  exact ⟨rfl, by omega, by omega⟩
theorem total_le2 : ∀ {xss : List (List Int)}, (∀ xs ∈ xss, xs.length ≤ 1048576) → total xss ≤ xss.length * 1048576
  | [], _ => by simp [total]
  | xs :: l, h => by
    have h1 := total_le2 (xss := l) fun xs hxs => h xs (List.mem_cons_of_mem _ hxs)
    have h2 := h xs (List.mem_cons_self ..)
    rw [total, List.length_cons, Nat.succ_mul]
    omega
theorem crRes_total (F : List (List Bool)) : total (crRes F) ≤ 1099511627776 := by
  have h1 : ∀ p ∈ crRes F, p.length ≤ 1048576 := fun p hp => by
    obtain ⟨h1, h2⟩ := crRes_mem hp
    have := isSet_len2 h2
    omega
  have h2 : (crRes F).length ≤ 64 := by
    unfold crRes
    split
    · rename_i hh
      have h3 := sets_len (systemL_inv F.length (colsL F F.length (colN F))).1 (systemL_inv _ _).2
      have h4 : 2 ^ F.length ≤ 64 := Nat.le_trans (Nat.pow_le_pow_right (by decide) (ctx_parts hh).1) (by decide)
      omega
    · simp
  have h3 := total_le2 h1
  have : (crRes F).length * 1048576 ≤ 64 * 1048576 := Nat.mul_le_mul_right _ h2
  omega
end Go.Proofs.YtlncpabnlnipoaaGreat
namespace Go.Proofs.YtlncpabnlnipoaaGreat
open Go.RowKit

theorem col_get {w : World} {A : Option Addr} {n : Nat} {F : List (List Bool)} (h : RdL (RV RB) w A n F) (hn : 0 < n) : ∃ b o B j d, A = some ⟨b, o, none⟩ ∧ w.cell? ⟨b, o, none⟩ = some (.slice B j d) ∧ colN F = j := by
  obtain ⟨b, o, v, x, rfl, hc, ⟨B, j, d, rfl, hr⟩, -, hx⟩ := h.at hn
  refine ⟨b, o, B, j, d, rfl, by simpa using hc, ?_⟩
  unfold colN
  rw [List.getD_eq_getElem?_getD, hx]
  exact hr.len
def CxAt (F : List (List Bool)) (k : Nat) : Prop := (∀ row ∈ F.take k, row.length = colN F) ∧ (0 < k → colN F ≤ 6)
theorem cx_big {F : List (List Bool)} (h : ¬ F.length ≤ 6) : false = ctxB F := by unfold ctxB; rw [decide_eq_false h]; rfl
theorem cx_stop {F : List (List Bool)} {k : Nat} {row : List Bool} (hx : F[k]? = some row) (h : ¬ (row.length = colN F ∧ colN F ≤ 6)) : false = ctxB F := by
  cases e : ctxB F with
  | false => rfl
  | true =>
    obtain ⟨-, h2, h3⟩ := ctx_parts e
    exact absurd ⟨h3 row (List.mem_of_getElem? hx), h2⟩ h
theorem CxAt.step {F : List (List Bool)} {k : Nat} {row : List Bool} (h : CxAt F k) (hx : F[k]? = some row) (h1 : row.length = colN F) (h2 : colN F ≤ 6) : CxAt F (k + 1) := by
  refine ⟨fun r hr => ?_, fun _ => h2⟩
  rw [take_snocL hx, List.mem_append, List.mem_singleton] at hr
  rcases hr with hr | rfl
  · exact h.1 r hr
  · exact h1
theorem CxAt.done {F : List (List Bool)} {k : Nat} (h : CxAt F k) (hk : F.length = k) (h6 : F.length ≤ 6) : true = ctxB F := by
  unfold ctxB
  have e : F.take k = F := List.take_of_length_le (by omega)
  have h1 := h.1
  rw [e] at h1
  have h2 : colN F ≤ 6 := by
    by_cases h0 : 0 < k
    · exact h.2 h0
    · have : F = [] := List.eq_nil_of_length_eq_zero (by omega)
      subst this
      decide
  rw [decide_eq_true h6, decide_eq_true h2, List.all_eq_true.2 fun r hr => decide_eq_true (h1 r hr)]
  rfl
end Go.Proofs.YtlncpabnlnipoaaGreat
namespace Go.Proofs.YtlncpabnlnipoaaGreat
open Go.RowKit

theorem boxes1c (w : World) (cp : Array Value) (tp : TypeId) : ∃ w3, w3 = w.alloc (.cells cp tp) ∧ Below w.heap.size w w3 ∧ w3.heap.size = w.heap.size + 1 ∧ Blk w3 w.heap.size tp cp := ⟨_, rfl, below_box _ _, by simp, Blk.new _ _ _⟩
theorem allC_snoc (F : List (List Bool)) (S : List Int) (x : Int) (r : Nat) : allC F (S ++ [x]) r = (allC F S r && cel F r x.toNat) := by simp [allC]
theorem cel_row {F : List (List Bool)} {r : Nat} {row : List Bool} {c : Nat} {b : Bool} (h1 : F[r]? = some row) (h2 : row[c]? = some b) : cel F r c = b := by
  unfold cel
  simp [List.getD, h1, h2]
theorem polTo_len (F : List (List Bool)) (S : List Int) : ∀ n, (polTo F S n).length ≤ n
  | 0 => Nat.le_refl _
  | n + 1 => by
    have := polTo_len F S n
    rw [polTo, List.length_append]
    split
    · simp; omega
    · simp; omega
theorem pol_yes {F : List (List Bool)} {S : List Int} {k : Nat} (h : allC F S k = true) : polTo F S (k + 1) = polTo F S k ++ [(k : Int)] := by rw [polTo, if_pos h]
theorem pol_no {F : List (List Bool)} {S : List Int} {k : Nat} (h : allC F S k = false) : polTo F S (k + 1) = polTo F S k := by rw [polTo, if_neg (by rw [h]; decide), List.append_nil]
theorem ints_snocC (xs : List Int) (y : Int) : ints xs ++ [.int .i64 y] = ints (xs ++ [y]) := by simp [ints]
/-- The list being gathered. -/
def GatP (w wr : World) (v : Value) (acc : List Int) : Prop := ∃ A c, v = .slice A acc.length c ∧ wr.ownsRow w.heap.size 3 1 (.slice A acc.length c) acc.length (ints acc) ∧ Below w.heap.size w wr
end Go.Proofs.YtlncpabnlnipoaaGreat
