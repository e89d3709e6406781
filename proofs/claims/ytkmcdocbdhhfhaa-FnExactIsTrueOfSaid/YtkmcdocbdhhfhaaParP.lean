
/- Plain laws: partitions, their blocks put into one, congruences. -/
import Derived.Test.YtkmcdocbdhhfhaaRenP
import Derived.Test.YtkmcdocbdhhfhaaTt
namespace Go.Proofs.Ytkmcdocbdhhfhaa
open Go.RowKit
set_option linter.unusedVariables false

/-- A partition of n elements: each is told by the least element of its block. -/
def ParI (p : List Int) (i : Nat) : Prop := 0 ≤ p.getD i 0 ∧ nmAt p i ≤ i ∧ nmAt p (nmAt p i) = nmAt p i
def ParP (n : Nat) (p : List Int) : Prop := p.length = n ∧ ∀ i, i < n → ParI p i
theorem ParP.at {n : Nat} {p : List Int} (h : ParP n p) {i : Nat} (hi : i < n) : p[i]? = some (nmAt p i : Int) ∧ nmAt p i ≤ i ∧ nmAt p (nmAt p i) = nmAt p i := by
  obtain ⟨h1, h2, h3⟩ := h.2 i hi
  refine ⟨?_, h2, h3⟩
  have hl : i < p.length := by rw [h.1]; exact hi
  unfold nmAt
  rw [List.getD_eq_getElem?_getD, List.getElem?_eq_getElem hl] at h1 ⊢
  simp only [Option.getD_some] at h1 ⊢
  congr 1
  omega
def uniV (a b v : Int) : Int := if v = (if a ≤ b then b else a) then (if a ≤ b then a else b) else v
/-- The blocks of two elements in one. -/
def uniL (p : List Int) (x y : Nat) : List Int := p.map (uniV (nmAt p x) (nmAt p y))
theorem uniL_len (p : List Int) (x y : Nat) : (uniL p x y).length = p.length := by simp [uniL]
theorem uni_same {p : List Int} {x y : Nat} (h : nmAt p x = nmAt p y) : uniL p x y = p := by
  unfold uniL
  rw [h]
  refine (List.map_congr_left (g := id) fun v _ => ?_).trans (List.map_id p)
  unfold uniV
  simp only [Int.le_refl, if_true]
  split
  · rename_i e; exact e.symm
  · rfl
section
variable {n : Nat} {p : List Int} (hp : ParP n p)
include hp
theorem uni_at {x y i : Nat} (hi : i < n) : nmAt (uniL p x y) i = if nmAt p i = max (nmAt p x) (nmAt p y) then min (nmAt p x) (nmAt p y) else nmAt p i := by
  have h1 : (uniL p x y)[i]? = some (uniV (nmAt p x) (nmAt p y) (nmAt p i)) := by
    unfold uniL
    rw [List.getElem?_map, (hp.at hi).1]
    rfl
  rw [nmAt_get h1]
  unfold uniV
  by_cases hxy : nmAt p x ≤ nmAt p y
  · have h2 : ((nmAt p x : Nat) : Int) ≤ ((nmAt p y : Nat) : Int) := by omega
    rw [if_pos h2, if_pos h2, Nat.max_eq_right hxy, Nat.min_eq_left hxy]
    by_cases e : nmAt p i = nmAt p y
    · rw [if_pos e, if_pos (by rw [e])]; omega
    · rw [if_neg e, if_neg (by omega)]; omega
  · have h2 : ¬ ((nmAt p x : Nat) : Int) ≤ ((nmAt p y : Nat) : Int) := by omega
    rw [if_neg h2, if_neg h2, Nat.max_eq_left (by omega), Nat.min_eq_right (by omega)]
    by_cases e : nmAt p i = nmAt p x
    · rw [if_pos e, if_pos (by rw [e])]; omega
    · rw [if_neg e, if_neg (by omega)]; omega
theorem par_lt {i : Nat} (hi : i < n) : nmAt p i < n := by have := (hp.at hi).2.1; omega
theorem uni_par {x y : Nat} (hx : x < n) (hy : y < n) : ParP n (uniL p x y) := by
  have hxl := par_lt hp hx
  have hyl := par_lt hp hy
  have hmin : min (nmAt p x) (nmAt p y) < n := by omega
  have hmm : nmAt p (min (nmAt p x) (nmAt p y)) = min (nmAt p x) (nmAt p y) := by
    rcases Nat.le_total (nmAt p x) (nmAt p y) with h | h
    · rw [Nat.min_eq_left h]; exact (hp.at hx).2.2
    · rw [Nat.min_eq_right h]; exact (hp.at hy).2.2
  refine ⟨by rw [uniL_len]; exact hp.1, fun i hi => ?_⟩
  have e := uni_at hp (x := x) (y := y) hi
  have h1 := hp.at hi
  refine ⟨?_, ?_, ?_⟩
  · unfold uniL
    rw [List.getD_eq_getElem?_getD, List.getElem?_map, h1.1]
    show 0 ≤ uniV _ _ _
    unfold uniV
    split
    · split <;> omega
    · omega
  · rw [e]
    split
    · omega
    · exact h1.2.1
  · rw [e]
    by_cases h2 : nmAt p i = max (nmAt p x) (nmAt p y)
    · rw [if_pos h2, uni_at hp hmin, hmm]
      split <;> rfl
    · rw [if_neg h2, uni_at hp (par_lt hp hi), h1.2.2, if_neg h2]
/-- Coarser. -/
theorem uni_keep {x y i j : Nat} (hi : i < n) (hj : j < n) (h : nmAt p i = nmAt p j) : nmAt (uniL p x y) i = nmAt (uniL p x y) j := by rw [uni_at hp hi, uni_at hp hj, h]
theorem uni_joins {x y : Nat} (hx : x < n) (hy : y < n) : nmAt (uniL p x y) x = nmAt (uniL p x y) y := by
  rw [uni_at hp hx, uni_at hp hy]
  rcases Nat.le_total (nmAt p x) (nmAt p y) with h | h
  · rw [Nat.max_eq_right h, Nat.min_eq_left h, if_pos rfl]
    split <;> omega
  · rw [Nat.max_eq_left h, Nat.min_eq_right h, if_pos rfl]
    split <;> omega
omit hp in
/-- The elements that tell blocks. -/
def fixs (n : Nat) (p : List Int) : Nat := ((List.range n).filter fun i => nmAt p i == i).length
omit hp in
theorem filter_lt {α : Type} {P Q : α → Bool} : ∀ {l : List α}, (∀ a ∈ l, P a = true → Q a = true) → (∃ a ∈ l, Q a = true ∧ P a = false) → (l.filter P).length < (l.filter Q).length
  | [], _, ⟨a, ha, _⟩ => by cases ha
  | b :: l, h, ⟨a, ha, h1, h2⟩ => by
    have hle : (l.filter P).length ≤ (l.filter Q).length := by
      rw [← List.countP_eq_length_filter, ← List.countP_eq_length_filter]
      exact List.countP_mono_left fun x hx => h x (List.mem_cons_of_mem _ hx)
    rcases List.mem_cons.1 ha with rfl | ha
    · rw [List.filter_cons_of_neg (by rw [h2]; decide), List.filter_cons_of_pos h1]
      simp only [List.length_cons]
      omega
    · have ih := filter_lt (fun x hx => h x (List.mem_cons_of_mem _ hx)) ⟨a, ha, h1, h2⟩
      have hb := h b List.mem_cons_self
      rcases e1 : P b with _ | _
      · rw [List.filter_cons_of_neg (by rw [e1]; decide)]
        rcases e2 : Q b with _ | _
        · rw [List.filter_cons_of_neg (by rw [e2]; decide)]; exact ih
        · rw [List.filter_cons_of_pos e2]; simp only [List.length_cons]; omega
      · rw [List.filter_cons_of_pos e1, List.filter_cons_of_pos (hb e1)]
        simp only [List.length_cons]
        omega
theorem uni_fixs {x y : Nat} (hx : x < n) (hy : y < n) (h : nmAt p x ≠ nmAt p y) : fixs n (uniL p x y) < fixs n p := by
  have hm : max (nmAt p x) (nmAt p y) < n := by have := par_lt hp hx; have := par_lt hp hy; omega
  have hmm : nmAt p (max (nmAt p x) (nmAt p y)) = max (nmAt p x) (nmAt p y) := by
    rcases Nat.le_total (nmAt p x) (nmAt p y) with h | h
    · rw [Nat.max_eq_right h]; exact (hp.at hy).2.2
    · rw [Nat.max_eq_left h]; exact (hp.at hx).2.2
  refine filter_lt (fun i hi h1 => ?_) ⟨max (nmAt p x) (nmAt p y), List.mem_range.2 hm, by simpa using hmm, ?_⟩
  · rw [List.mem_range] at hi
    rw [beq_iff_eq, uni_at hp hi] at h1
    rw [beq_iff_eq]
    split at h1
    · rename_i e
      have := (hp.at hi).2.1
      omega
    · exact h1
  · rw [beq_eq_false_iff_ne, uni_at hp hm, hmm, if_pos rfl]
    omega
end
/-! ## Pairs that a congruence must hold together -/
/-- The index with another digit. -/
def repI (n k : Nat) (p : List Int) (i j : Nat) : Nat := idx n ((digs n k i).set j (nmAt p ((digs n k i).getD j 0)))
def PrE (n : Nat) (p : List Int) (o : OpM) (i j : Nat) : Prop := nmAt p (nmAt o.2 i) = nmAt p (nmAt o.2 (repI n o.1.toNat p i j))
def CompP (n : Nat) (ops : List OpM) (p : List Int) : Prop := ∀ o ∈ ops, ∀ j, j < o.1.toNat → ∀ i, i < o.2.length → PrE n p o i j
theorem repI_lt {n k : Nat} {p : List Int} (hn : 0 < n) (hp : ParP n p) {i j : Nat} : repI n k p i j < n ^ k := by
  refine idx_lt k _ (by rw [List.length_set, digs_len]) fun d hd => ?_
  rcases List.mem_or_eq_of_mem_set hd with h | h
  · exact digs_lt hn h
  · subst h
    refine par_lt hp ?_
    rw [List.getD_eq_getElem?_getD]
    rcases e : (digs n k i)[j]? with _ | d
    · exact hn
    · exact digs_lt hn (List.mem_of_getElem? e)
/-- A digit, and the index with another one in its place. -/
theorem rep_step {n : Nat} : ∀ (k q i d : Nat), q < k → (digs n k i).getD (k - 1 - q) 0 = i / n ^ q % n ∧ idx n (digs n k i) + d * n ^ q = idx n ((digs n k i).set (k - 1 - q) d) + (i / n ^ q % n) * n ^ q
  | 0, q, i, d, h => by omega
  | k + 1, 0, i, d, h => by
    have hl : (digs n k (i / n)).length = k := digs_len n k _
    rw [digs]
    simp only [Nat.add_sub_cancel, Nat.sub_zero, Nat.pow_zero, Nat.div_one, Nat.mul_one]
    refine ⟨?_, ?_⟩
    · rw [List.getD_eq_getElem?_getD, List.getElem?_append_right (by omega), hl]
      simp
    · rw [List.set_append_right _ _ (by omega), hl]
      simp only [Nat.sub_self, List.set_cons_zero, idx_snoc]
      omega
  | k + 1, q + 1, i, d, h => by
    have hl : (digs n k (i / n)).length = k := digs_len n k _
    obtain ⟨h1, h2⟩ := rep_step (n := n) k q (i / n) d (by omega)
    have e1 : k + 1 - 1 - (q + 1) = k - 1 - q := by omega
    have e2 : i / n ^ (q + 1) = i / n / n ^ q := by rw [Nat.pow_succ, Nat.mul_comm, Nat.div_div_eq_div_mul]
    rw [digs, e1, e2]
    refine ⟨?_, ?_⟩
    · rw [List.getD_eq_getElem?_getD, List.getElem?_append_left (by omega), ← List.getD_eq_getElem?_getD]
      exact h1
    · rw [List.set_append_left _ _ (by omega), idx_snoc, idx_snoc]
      have h3 := congrArg (· * n) h2
      simp only [Nat.add_mul] at h3
      rw [Nat.pow_succ, ← Nat.mul_assoc, ← Nat.mul_assoc]
      omega
/-- As the program reckons it. -/
theorem rep_prog {n k q i : Nat} {p : List Int} (hn : 0 < n) (hq : q < k) (hi : i < n ^ k) : (repI n k p i (k - 1 - q) : Int) = (i : Int) + ((nmAt p (i / n ^ q % n) : Int) - ((i / n ^ q % n : Nat) : Int)) * ((n ^ q : Nat) : Int) := by
  obtain ⟨h1, h2⟩ := rep_step (n := n) k q i (nmAt p (i / n ^ q % n)) hq
  unfold repI
  rw [h1]
  rw [idx_digs hn hi] at h2
  have h3 : ((i + nmAt p (i / n ^ q % n) * n ^ q : Nat) : Int) = ((idx n ((digs n k i).set (k - 1 - q) (nmAt p (i / n ^ q % n))) + (i / n ^ q % n) * n ^ q : Nat) : Int) := by rw [h2]
  rw [Int.natCast_add, Int.natCast_mul, Int.natCast_add, Int.natCast_mul] at h3
  rw [Int.sub_mul]
  omega
/-! ## The reference's push -/
/-- out is what the partition p became: coarser; as p, where nothing was to be put together. -/
structure PuI (n : Nat) (p out : List Int) (all : Prop) : Prop where
  par : ParP n out
  keep : ∀ i j, i < n → j < n → nmAt p i = nmAt p j → nmAt out i = nmAt out j
  same : all → out = p
  back : out = p → all
theorem PuI.start {n : Nat} {p : List Int} (h : ParP n p) : PuI n p p True := ⟨h, fun _ _ _ _ h => h, fun _ => rfl, fun _ => trivial⟩
theorem PuI.congr {n : Nat} {p out : List Int} {a b : Prop} (h : PuI n p out a) (e : a ↔ b) : PuI n p out b := ⟨h.par, h.keep, fun hb => h.same (e.2 hb), fun hb => e.1 (h.back hb)⟩
theorem par_ext {n : Nat} {p q : List Int} (hp : ParP n p) (hq : ParP n q) (h : ∀ i, i < n → nmAt p i = nmAt q i) : p = q := by
  apply List.ext_getElem?
  intro i
  by_cases hi : i < n
  · rw [(hp.at hi).1, (hq.at hi).1, h i hi]
  · rw [List.getElem?_eq_none (by rw [hp.1]; omega), List.getElem?_eq_none (by rw [hq.1]; omega)]
/-- A strictly coarser one has fewer blocks: once they are put together, the partition is another one. -/
theorem fixs_keep {n : Nat} {p q : List Int} (hp : ParP n p) (hq : ParP n q) (hk : ∀ i j, i < n → j < n → nmAt p i = nmAt p j → nmAt q i = nmAt q j) {i : Nat} (hi : i < n) (h : nmAt q i = i) : nmAt p i = i := by
  have h1 := hp.at hi
  have h2 := hk (nmAt p i) i (by omega) hi h1.2.2
  have h3 := (hq.at (show nmAt p i < n by omega)).2.1
  omega
theorem PuI.next {n : Nat} {p out : List Int} {all : Prop} (hp : ParP n p) (h : PuI n p out all) {x y : Nat} (hx : x < n) (hy : y < n) : PuI n p (uniL out x y) (all ∧ nmAt p x = nmAt p y) := by
  refine ⟨uni_par h.par hx hy, fun i j hi hj e => uni_keep h.par hi hj (h.keep i j hi hj e), fun ⟨ha, hxy⟩ => ?_, fun e => ?_⟩
  · have := h.same ha
    subst this
    exact uni_same hxy
  · have h1 : nmAt p x = nmAt p y := by rw [← e]; exact uni_joins h.par hx hy
    refine ⟨h.back ?_, h1⟩
    -- out is between p and uniL out = p
    refine par_ext h.par hp fun i hi => ?_
    have h2 : ∀ i j, i < n → j < n → nmAt out i = nmAt out j → nmAt p i = nmAt p j := fun i j hi hj e2 => by
      rw [← e]; exact uni_keep h.par hi hj e2
    -- both tell the block of i by its least element
    have ho := h.par.at hi
    have hq := hp.at hi
    have k1 := h.keep (nmAt p i) i (by omega) hi hq.2.2
    have k2 := h2 (nmAt out i) i (by omega) hi ho.2.2
    have k3 := (h.par.at (show nmAt p i < n by omega)).2.1
    have k4 := (hp.at (show nmAt out i < n by omega)).2.1
    omega
end Go.Proofs.Ytkmcdocbdhhfhaa
