
/- Plain laws of renaming: digits, orders of names, renamed algebras. -/
import Derived.Test.YtidjocikbmkjbaaGreatCode
import Derived.Test.YtidjocikbmkjbaaGreatList
namespace Go.Proofs.YtidjocikbmkjbaaGreat
open Go.RowKit

theorem hasI_m {x : Int} : ∀ {l : List Int}, hasI x l = true ↔ x ∈ l
  | [] => by simp [hasI]
  | y :: l => by
    rw [hasI, Bool.or_eq_true, hasI_m, beq_iff_eq, List.mem_cons]
    exact ⟨fun h => h.imp Eq.symm id, fun h => h.imp Eq.symm id⟩
theorem allIn_m {a b : Int} : ∀ {l : List Int}, allIn a b l = true ↔ ∀ x ∈ l, a ≤ x ∧ x ≤ b
  | [] => by simp [allIn]
  | y :: l => by
    simp [allIn, inB, allIn_m (l := l)]

/-! ## Digits -/
def digs (n : Nat) : Nat → Nat → List Nat
  | 0, _ => []
  | k + 1, i => digs n k (i / n) ++ [i % n]
def idx (n : Nat) (l : List Nat) : Nat := l.foldl (fun a d => a * n + d) 0
theorem idx_snoc (n : Nat) (l : List Nat) (d : Nat) : idx n (l ++ [d]) = idx n l * n + d := by simp [idx, List.foldl_append]
theorem digs_len (n : Nat) : ∀ k i, (digs n k i).length = k
  | 0, _ => rfl
  | k + 1, i => by rw [digs, List.length_append, digs_len n k]; rfl
theorem digs_lt {n : Nat} (hn : 0 < n) : ∀ {k i d}, d ∈ digs n k i → d < n
  | 0, _, _, h => by cases h
  | k + 1, i, d, h => by
    rw [digs, List.mem_append] at h
    rcases h with h | h
    · exact digs_lt hn h
    · rw [List.mem_singleton] at h
      subst h
      exact Nat.mod_lt _ hn
theorem idx_digs {n : Nat} (hn : 0 < n) : ∀ {k i}, i < n ^ k → idx n (digs n k i) = i
  | 0, i, h => by
    simp at h
    subst h
    rfl
  | k + 1, i, h => by
    rw [digs, idx_snoc, idx_digs hn (k := k) (by rw [Nat.div_lt_iff_lt_mul hn, ← Nat.pow_succ]; exact h)]
    rw [Nat.mul_comm]
    exact Nat.div_add_mod i n
theorem idx_lt {n : Nat} : ∀ (k : Nat) (l : List Nat), l.length = k → (∀ d ∈ l, d < n) → idx n l < n ^ k
  | 0, l, hl, _ => by
    rw [List.length_eq_zero_iff] at hl
    subst hl
    simp [idx]
  | k + 1, l, hl, h => by
    obtain ⟨l', d, rfl⟩ : ∃ l' d, l = l' ++ [d] := by
      rcases List.eq_nil_or_concat l with rfl | ⟨l', d, rfl⟩
      · simp at hl
      · exact ⟨l', d, by simp⟩
    rw [idx_snoc]
    have h1 := idx_lt k l' (by simp at hl; exact hl) fun x hx => h x (by simp [hx])
    have h2 := h d (by simp)
    rw [Nat.pow_succ]
    have := Nat.mul_le_mul_right n (Nat.succ_le_of_lt h1)
    rw [Nat.succ_mul] at this
    omega
theorem digs_idx {n : Nat} (hn : 0 < n) : ∀ (k : Nat) (l : List Nat), l.length = k → (∀ d ∈ l, d < n) → digs n k (idx n l) = l
  | 0, l, hl, _ => by
    rw [List.length_eq_zero_iff] at hl
    subst hl
    rfl
  | k + 1, l, hl, h => by
    obtain ⟨l', d, rfl⟩ : ∃ l' d, l = l' ++ [d] := by
      rcases List.eq_nil_or_concat l with rfl | ⟨l', d, rfl⟩
      · simp at hl
      · exact ⟨l', d, by simp⟩
    have h2 := h d (by simp)
    rw [idx_snoc, digs, Nat.mul_comm, Nat.mul_add_div hn, Nat.div_eq_of_lt h2, Nat.add_zero, Nat.mul_add_mod, Nat.mod_eq_of_lt h2]
    rw [digs_idx hn k l' (by simp at hl; exact hl) fun x hx => h x (by simp [hx])]

/-! ## Names -/
def nmI (s : List Int) (v : Int) : Int := s.getD v.toNat 0
def nmAt (s : List Int) (x : Nat) : Nat := (s.getD x 0).toNat
def PermL (n : Nat) (s : List Int) : Prop := s.length = n ∧ (∀ v ∈ s, 0 ≤ v ∧ v ≤ (n : Int) - 1) ∧ s.Nodup
theorem nmAt_get {s : List Int} {x : Nat} {v : Int} (h : s[x]? = some v) : nmAt s x = v.toNat := by simp [nmAt, List.getD_eq_getElem?_getD, h]
theorem nmI_get {s : List Int} {x : Nat} {v : Int} (h : s[x]? = some v) : nmI s x = v := by simp [nmI, List.getD_eq_getElem?_getD, h]
theorem PermL.at {n : Nat} {s : List Int} (h : PermL n s) {x : Nat} (hx : x < n) : ∃ v : Nat, s[x]? = some (v : Int) ∧ v < n ∧ nmAt s x = v := by
  have hl : x < s.length := by rw [h.1]; exact hx
  have hv := h.2.1 s[x] (List.getElem_mem hl)
  refine ⟨(s[x]).toNat, ?_, by omega, ?_⟩
  · rw [List.getElem?_eq_getElem hl, Int.toNat_of_nonneg hv.1]
  · exact nmAt_get (List.getElem?_eq_getElem hl)
theorem nodup_sub : ∀ {l m : List Int}, l.Nodup → (∀ x ∈ l, x ∈ m) → l.length ≤ m.length
  | [], _, _, _ => Nat.zero_le _
  | a :: l, m, hn, hs => by
    rw [List.nodup_cons] at hn
    have hm := hs a (by simp)
    have ih := nodup_sub (m := m.erase a) hn.2 fun x hx => (List.mem_erase_of_ne (fun e => hn.1 (by rw [← e]; exact hx))).2 (hs x (by simp [hx]))
    rw [List.length_erase_of_mem hm] at ih
    have := List.length_pos_of_mem hm
    rw [List.length_cons]
    omega
theorem PermL.surj {n : Nat} {s : List Int} (h : PermL n s) {d : Nat} (hd : d < n) : ∃ x, x < n ∧ nmAt s x = d := by
  by_cases hm : (d : Int) ∈ s
  · obtain ⟨x, hx⟩ := List.getElem?_of_mem hm
    have := (List.getElem?_eq_some_iff.1 hx).1
    exact ⟨x, by rw [← h.1]; exact this, by rw [nmAt_get hx]; simp⟩
  · exfalso
    have hl : ((d : Int) :: s).length ≤ (upTo n).length := nodup_sub (List.nodup_cons.2 ⟨hm, h.2.2⟩) fun x hx => by
      have hb : 0 ≤ x ∧ x ≤ (n : Int) - 1 := by
        rcases List.mem_cons.1 hx with rfl | hx
        · omega
        · exact h.2.1 x hx
      unfold upTo
      rw [List.mem_map]
      exact ⟨x.toNat, List.mem_range.2 (by omega), by omega⟩
    rw [List.length_cons, upTo_len, h.1] at hl
    omega

/-! ## Renaming one table -/
def toI (n k : Nat) (s : List Int) (i : Nat) : Nat := idx n ((digs n k i).map (nmAt s))
theorem toI_lt {n k : Nat} {s : List Int} (hn : 0 < n) (hs : PermL n s) (i : Nat) : toI n k s i < n ^ k := by
  refine idx_lt k _ (by rw [List.length_map, digs_len]) fun d hd => ?_
  rw [List.mem_map] at hd
  obtain ⟨x, hx, rfl⟩ := hd
  obtain ⟨v, -, hv, e⟩ := hs.at (digs_lt hn hx)
  omega
theorem pre_list {n : Nat} {s : List Int} (hs : PermL n s) : ∀ {l : List Nat}, (∀ d ∈ l, d < n) → ∃ l' : List Nat, l'.length = l.length ∧ (∀ d ∈ l', d < n) ∧ l'.map (nmAt s) = l
  | [], _ => ⟨[], rfl, (fun d hd => by simp at hd), rfl⟩
  | d :: l, h => by
    obtain ⟨x, hx, e⟩ := hs.surj (h d (by simp))
    obtain ⟨l', h1, h2, h3⟩ := pre_list hs (l := l) fun y hy => h y (by simp [hy])
    refine ⟨x :: l', by simp [h1], fun y hy => ?_, by rw [List.map_cons, e, h3]⟩
    rcases List.mem_cons.1 hy with rfl | hy
    · exact hx
    · exact h2 y hy
theorem toI_surj {n k : Nat} {s : List Int} (hn : 0 < n) (hs : PermL n s) {j : Nat} (hj : j < n ^ k) : ∃ i, i < n ^ k ∧ toI n k s i = j := by
  obtain ⟨l', h1, h2, h3⟩ := pre_list hs (l := digs n k j) fun d hd => digs_lt hn hd
  rw [digs_len] at h1
  refine ⟨idx n l', idx_lt k l' h1 h2, ?_⟩
  unfold toI
  rw [digs_idx hn k l' h1 h2, h3, idx_digs hn hj]
def renTo (n k : Nat) (s t T : List Int) : Nat → List Int
  | 0 => T
  | m + 1 => (renTo n k s t T m).set (toI n k s m) (nmI s (t.getD m 0))
theorem renTo_len (n k : Nat) (s t T : List Int) : ∀ m, (renTo n k s t T m).length = T.length
  | 0 => rfl
  | m + 1 => by rw [renTo, List.length_set, renTo_len n k s t T m]
theorem renTo_eq {n k : Nat} {s t T T' : List Int} (hl : T.length = T'.length) : ∀ m j, (∃ i, i < m ∧ toI n k s i = j) → (renTo n k s t T m)[j]? = (renTo n k s t T' m)[j]?
  | 0, _, ⟨i, hi, _⟩ => absurd hi (by omega)
  | m + 1, j, ⟨i, hi, e⟩ => by
    rw [renTo, renTo, List.getElem?_set, List.getElem?_set, renTo_len, renTo_len, hl]
    by_cases h1 : toI n k s m = j
    · rw [if_pos h1, if_pos h1]
    · rw [if_neg h1, if_neg h1]
      refine renTo_eq hl m j ⟨i, ?_, e⟩
      rcases Nat.lt_or_ge i m with h2 | h2
      · exact h2
      · obtain rfl : i = m := by omega
        exact absurd e h1
theorem renTo_any {n k : Nat} {s t T T' : List Int} (hn : 0 < n) (hs : PermL n s) (h1 : T.length = n ^ k) (h2 : T'.length = n ^ k) : renTo n k s t T (n ^ k) = renTo n k s t T' (n ^ k) := by
  apply List.ext_getElem?
  intro j
  by_cases hj : j < n ^ k
  · exact renTo_eq (by rw [h1, h2]) _ _ (toI_surj hn hs hj)
  · rw [List.getElem?_eq_none (by rw [renTo_len]; omega), List.getElem?_eq_none (by rw [renTo_len]; omega)]
theorem renTo_in {n k : Nat} {s t T : List Int} (hs : PermL n s) (hT : ∀ v ∈ T, 0 ≤ v ∧ v ≤ (n : Int) - 1) (ht : ∀ v ∈ t, 0 ≤ v ∧ v ≤ (n : Int) - 1) : ∀ m, m ≤ t.length → ∀ v ∈ renTo n k s t T m, 0 ≤ v ∧ v ≤ (n : Int) - 1
  | 0, _ => hT
  | m + 1, hm => by
    intro v hv
    rw [renTo] at hv
    rcases List.mem_or_eq_of_mem_set hv with hv | rfl
    · exact renTo_in hs hT ht m (by omega) v hv
    · have h1 : t[m]? = some t[m] := List.getElem?_eq_getElem (by omega)
      have h2 := ht t[m] (List.getElem_mem _)
      rw [List.getD_eq_getElem?_getD, h1]
      obtain ⟨u, hu, hun, -⟩ := hs.at (x := (t[m]).toNat) (by omega)
      have := nmI_get hu
      rw [Int.toNat_of_nonneg h2.1] at this
      show 0 ≤ nmI s t[m] ∧ nmI s t[m] ≤ _
      rw [this]
      omega

/-! ## The identity -/
theorem upTo_perm (n : Nat) : PermL n (upTo n) := by
  refine ⟨upTo_len n, fun v hv => ?_, ?_⟩
  · unfold upTo at hv
    rw [List.mem_map] at hv
    obtain ⟨x, hx, rfl⟩ := hv
    have := List.mem_range.1 hx
    omega
  · unfold upTo
    rw [List.nodup_iff_pairwise_ne, List.pairwise_map]
    exact (List.nodup_iff_pairwise_ne.1 List.nodup_range).imp fun h e => h (by omega)
theorem nmAt_up {n x : Nat} (hx : x < n) : nmAt (upTo n) x = x := by rw [nmAt_get (upTo_get hx)]; simp
theorem toI_up {n k : Nat} (hn : 0 < n) {i : Nat} (hi : i < n ^ k) : toI n k (upTo n) i = i := by
  unfold toI
  have e : (digs n k i).map (nmAt (upTo n)) = digs n k i := by
    conv => rhs; rw [← List.map_id (digs n k i)]
    apply List.map_congr_left
    intro d hd
    rw [nmAt_up (digs_lt hn hd)]
    rfl
  rw [e, idx_digs hn hi]
theorem renTo_up {n k : Nat} {t : List Int} (hn : 0 < n) (hl : t.length = n ^ k) (ht : ∀ v ∈ t, 0 ≤ v ∧ v ≤ (n : Int) - 1) : ∀ m, m ≤ n ^ k → renTo n k (upTo n) t t m = t
  | 0, _ => rfl
  | m + 1, hm => by
    rw [renTo, renTo_up hn hl ht m (by omega), toI_up hn (by omega)]
    have hml : m < t.length := by omega
    have h2 := ht t[m] (List.getElem_mem hml)
    have e : nmI (upTo n) (t.getD m 0) = t[m] := by
      rw [List.getD_eq_getElem?_getD, List.getElem?_eq_getElem hml]
      show nmI (upTo n) t[m] = _
      have := nmI_get (upTo_get (n := n) (k := (t[m]).toNat) (by omega))
      rw [Int.toNat_of_nonneg h2.1] at this
      exact this
    rw [e]
    apply List.ext_getElem?
    intro j
    rw [List.getElem?_set]
    by_cases hj : m = j
    · subst hj
      rw [if_pos rfl, if_pos hml, List.getElem?_eq_getElem hml]
    · rw [if_neg hj]

/-! ## Renaming an algebra -/
def renOp (n : Nat) (s : List Int) (x : OpM) : OpM := (x.1, renTo n x.1.toNat s x.2 x.2 x.2.length)
def ren (x : AlgebraM) (s : List Int) : AlgebraM := (x.1, x.2.map (renOp x.1.toNat s))
def OpP (n : Nat) (x : OpM) : Prop := 0 ≤ x.1 ∧ x.1 ≤ 3 ∧ x.2.length = n ^ x.1.toNat ∧ ∀ v ∈ x.2, 0 ≤ v ∧ v ≤ (n : Int) - 1
def SmallP (x : AlgebraM) : Prop := 1 ≤ x.1 ∧ x.1 ≤ 5 ∧ x.2.length ≤ 4 ∧ ∀ o ∈ x.2, OpP x.1.toNat o
theorem small_iff {x : AlgebraM} : smallB x = true ↔ SmallP x := by
  have hop : ∀ n o, opB n o = true ↔ OpP n o := fun n o => by
    unfold opB OpP inB
    rw [Bool.and_eq_true, Bool.and_eq_true, Bool.and_eq_true, decide_eq_true_eq, decide_eq_true_eq, decide_eq_true_eq, allIn_m]
    exact ⟨fun ⟨⟨a, b⟩, c, d⟩ => ⟨a, b, c, d⟩, fun ⟨a, b, c, d⟩ => ⟨⟨a, b⟩, c, d⟩⟩
  unfold smallB algB SmallP inB
  simp only [Bool.and_eq_true, decide_eq_true_eq, List.all_eq_true, hop]
  exact ⟨fun ⟨⟨⟨a, b⟩, c, d⟩, e⟩ => ⟨a, e, c, d⟩, fun ⟨a, e, c, d⟩ => ⟨⟨⟨a, by omega⟩, c, d⟩, e⟩⟩
theorem renOp_small {n : Nat} {s : List Int} {x : OpM} (hs : PermL n s) (h : OpP n x) : OpP n (renOp n s x) :=
  ⟨h.1, h.2.1, by show (renTo _ _ _ _ _ _).length = _; rw [renTo_len]; exact h.2.2.1, renTo_in hs h.2.2.2 h.2.2.2 _ (Nat.le_refl _)⟩
theorem ren_small {x : AlgebraM} {s : List Int} (hs : PermL x.1.toNat s) (h : SmallP x) : SmallP (ren x s) := by
  refine ⟨h.1, h.2.1, by show (List.map _ _).length ≤ 4; rw [List.length_map]; exact h.2.2.1, fun o ho => ?_⟩
  have ho' : o ∈ x.2.map (renOp x.1.toNat s) := ho
  rw [List.mem_map] at ho'
  obtain ⟨o', h1, rfl⟩ := ho'
  exact renOp_small hs (h.2.2.2 o' h1)
theorem ren_up {x : AlgebraM} (h : SmallP x) : ren x (upTo x.1.toNat) = x := by
  obtain ⟨a, ops⟩ := x
  unfold ren
  show (a, ops.map (renOp a.toNat (upTo a.toNat))) = (a, ops)
  congr 1
  conv => rhs; rw [← List.map_id ops]
  apply List.map_congr_left
  intro o ho
  obtain ⟨k, t⟩ := o
  have h1 := h.2.2.2 (k, t) ho
  have hn : 0 < a.toNat := by have h0 : 1 ≤ a := h.1; omega
  show (k, renTo a.toNat k.toNat (upTo a.toNat) t t t.length) = (k, t)
  rw [renTo_up hn h1.2.2.1 h1.2.2.2 _ (Nat.le_of_eq h1.2.2.1)]
theorem ren_type {x : AlgebraM} {s : List Int} : (ren x s).2.map (·.1) = x.2.map (·.1) := by
  show (x.2.map (renOp x.1.toNat s)).map (·.1) = _
  rw [List.map_map]
  rfl
theorem code_eq {n : Nat} : ∀ {xs ys : List OpM}, (∀ o ∈ xs, OpP n o) → (∀ o ∈ ys, OpP n o) → xs.map (·.1) = ys.map (·.1) → codeL xs = codeL ys → xs = ys
  | [], [], _, _, _, _ => rfl
  | [], y :: ys, _, _, h, _ => by simp at h
  | x :: xs, [], _, _, h, _ => by simp at h
  | x :: xs, y :: ys, hx, hy, ht, hc => by
    rw [List.map_cons, List.map_cons] at ht
    injection ht with h1 h2
    have h3 := (hx x (by simp)).2.2.1
    have h4 := (hy y (by simp)).2.2.1
    rw [codeL, codeL] at hc
    obtain ⟨h5, h6⟩ := List.append_inj hc (by rw [h3, h4, h1])
    rw [code_eq (fun o ho => hx o (by simp [ho])) (fun o ho => hy o (by simp [ho])) h2 h6]
    congr 1
    exact Prod.ext h1 h5
theorem code_len_eq {n : Nat} : ∀ {xs ys : List OpM}, (∀ o ∈ xs, OpP n o) → (∀ o ∈ ys, OpP n o) → xs.map (·.1) = ys.map (·.1) → (codeL xs).length = (codeL ys).length
  | [], [], _, _, _ => rfl
  | [], y :: ys, _, _, h => by simp at h
  | x :: xs, [], _, _, h => by simp at h
  | x :: xs, y :: ys, hx, hy, ht => by
    rw [List.map_cons, List.map_cons] at ht
    injection ht with h1 h2
    rw [codeL, codeL, List.length_append, List.length_append, code_len_eq (fun o ho => hx o (by simp [ho])) (fun o ho => hy o (by simp [ho])) h2, (hx x (by simp)).2.2.1, (hy y (by simp)).2.2.1, h1]

/-! ## All orders of names -/
def ords (n : Nat) : Nat → List Int → List (List Int)
  | 0, s => [s]
  | r + 1, s => (List.range n).flatMap fun (x : Nat) => if hasI (x : Int) s then [] else ords n r (s ++ [(x : Int)])
def ordsTo (n r : Nat) (s : List Int) (k : Nat) : List (List Int) := (List.range k).flatMap fun (x : Nat) => if hasI (x : Int) s then [] else ords n r (s ++ [(x : Int)])
theorem ordsTo_succ (n r : Nat) (s : List Int) (k : Nat) : ordsTo n r s (k + 1) = ordsTo n r s k ++ if hasI k s then [] else ords n r (s ++ [(k : Int)]) := by
  unfold ordsTo
  rw [List.range_succ, List.flatMap_append]
  simp
theorem ords_perm {n : Nat} : ∀ (r : Nat) {s : List Int}, s.length + r = n → (∀ v ∈ s, 0 ≤ v ∧ v ≤ (n : Int) - 1) → s.Nodup → ∀ p ∈ ords n r s, PermL n p
  | 0, s, hl, hb, hn => by
    intro p hp
    rw [ords, List.mem_singleton] at hp
    subst hp
    exact ⟨by omega, hb, hn⟩
  | r + 1, s, hl, hb, hn => by
    intro p hp
    rw [ords, List.mem_flatMap] at hp
    obtain ⟨x, hx, hp⟩ := hp
    rw [List.mem_range] at hx
    split at hp
    · cases hp
    · rename_i h
      refine ords_perm r (by rw [List.length_append]; simp; omega) (fun v hv => ?_) ?_ p hp
      · rw [List.mem_append] at hv
        rcases hv with hv | hv
        · exact hb v hv
        · rw [List.mem_singleton] at hv
          omega
      · rw [List.nodup_append]
        refine ⟨hn, by simp, fun a ha b hb' e => ?_⟩
        rw [List.mem_singleton] at hb'
        subst hb'
        subst e
        exact h (hasI_m.2 ha)
theorem ords_head {n : Nat} : ∀ (r k : Nat), k + r = n → ∃ l, ords n r (upTo k) = upTo n :: l
  | 0, k, h => ⟨[], by rw [ords, show k = n by omega]⟩
  | r + 1, k, h => by
    have h0 : ∀ j, j ≤ k → ordsTo n r (upTo k) j = [] := by
      intro j
      induction j with
      | zero => intro _; rfl
      | succ j ih =>
        intro hj
        rw [ordsTo_succ, ih (by omega), if_pos (hasI_m.2 (List.mem_of_getElem? (upTo_get (by omega))))]
        rfl
    obtain ⟨l, hl⟩ := ords_head (n := n) r (k + 1) (by omega)
    have hno : hasI (k : Int) (upTo k) = false := by
      rcases e : hasI (k : Int) (upTo k) with _ | _
      · rfl
      · have := (upTo_perm k).2.1 _ (hasI_m.1 e)
        omega
    have h1 : ∀ j, k + 1 ≤ j → ∃ l, ordsTo n r (upTo k) j = upTo n :: l := by
      intro j
      induction j with
      | zero => intro h; omega
      | succ j ih =>
        intro hj
        rw [ordsTo_succ]
        rcases Nat.lt_or_ge k j with h2 | h2
        · obtain ⟨l', hl'⟩ := ih (by omega)
          rw [hl']
          exact ⟨_, rfl⟩
        · obtain rfl : j = k := by omega
          rw [h0 _ (Nat.le_refl _), hno, if_neg (by simp), ← upTo_succ, hl]
          exact ⟨_, rfl⟩
    exact h1 n (by omega)

/-! ## The first code -/
def better (x : AlgebraM) (b : Option (List Int)) (s : List Int) : Option (List Int) :=
  match b with
  | none => some s
  | some b => if lessL (codeL (ren x s).2) (codeL (ren x b).2) then some s else some b
def bestOf (x : AlgebraM) (l : List (List Int)) : Option (List Int) := l.foldl (better x) none
theorem bestOf_snoc (x : AlgebraM) (l : List (List Int)) (s : List Int) : bestOf x (l ++ [s]) = better x (bestOf x l) s := by simp [bestOf, List.foldl_append]
def canN (x : AlgebraM) : List Int := (bestOf x (ords x.1.toNat x.1.toNat [])).getD []
def canA (x : AlgebraM) : AlgebraM := ren x (canN x)
theorem lex_less : ∀ {xs ys : List Int}, xs.length = ys.length → (lexL xs ys < 0 ↔ lessL xs ys = true)
  | [], [], _ => by simp [lexL, lessL]
  | [], _ :: _, h => by simp at h
  | _ :: _, [], h => by simp at h
  | x :: l, y :: m, h => by
    rw [lexL, lessL]
    rcases e : (x == y) with _ | _
    · by_cases h1 : x < y
      · simp [h1]
      · simp [h1]
    · simp only [if_true]
      exact lex_less (by simpa using h)
theorem best_mem {x : AlgebraM} : ∀ {l : List (List Int)} {b : List Int}, bestOf x l = some b → b ∈ l := by
  have key : ∀ (l : List (List Int)) (a : Option (List Int)) (b : List Int), l.foldl (better x) a = some b → a = some b ∨ b ∈ l := by
    intro l
    induction l with
    | nil => intro a b h; exact .inl h
    | cons s l ih =>
      intro a b h
      rw [List.foldl_cons] at h
      rcases ih _ b h with h1 | h1
      · unfold better at h1
        split at h1
        · injection h1 with h1
          exact .inr (by rw [h1]; simp)
        · split at h1
          · injection h1 with h1
            exact .inr (by rw [h1]; simp)
          · exact .inl h1
      · exact .inr (by simp [h1])
  intro l b h
  rcases key l none b h with h1 | h1
  · cases h1
  · exact h1
theorem best_some {x : AlgebraM} {l : List (List Int)} (h : l ≠ []) : ∃ b, bestOf x l = some b := by
  have key : ∀ (l : List (List Int)) (b : List Int), ∃ c, l.foldl (better x) (some b) = some c := by
    intro l
    induction l with
    | nil => intro b; exact ⟨b, rfl⟩
    | cons s l ih =>
      intro b
      rw [List.foldl_cons]
      unfold better
      split
      · rename_i h; cases h
      · split
        · exact ih _
        · exact ih _
  rcases l with _ | ⟨s, l⟩
  · exact absurd rfl h
  · obtain ⟨c, hc⟩ := key l s
    exact ⟨c, hc⟩
theorem all_perm {x : AlgebraM} : ∀ p ∈ ords x.1.toNat x.1.toNat [], PermL x.1.toNat p := ords_perm _ (by simp) (fun v hv => by cases hv) List.nodup_nil
theorem canN_ok {x : AlgebraM} : bestOf x (ords x.1.toNat x.1.toNat []) = some (canN x) ∧ PermL x.1.toNat (canN x) := by
  obtain ⟨l, hl⟩ := ords_head x.1.toNat 0 (Nat.zero_add _) (n := x.1.toNat)
  have e : upTo 0 = [] := rfl
  rw [e] at hl
  obtain ⟨b, hb⟩ := best_some (x := x) (l := ords x.1.toNat x.1.toNat []) (by rw [hl]; simp)
  have : canN x = b := by unfold canN; rw [hb]; rfl
  rw [this]
  exact ⟨hb, all_perm _ (best_mem hb)⟩
end Go.Proofs.YtidjocikbmkjbaaGreat
namespace Go.Proofs.YtidjocikbmkjbaaGreat
open Go.RowKit

def nats (l : List Nat) : List Int := l.map fun (d : Nat) => (d : Int)
theorem nats_len (l : List Nat) : (nats l).length = l.length := by simp [nats]
/-- p places still to be laid; cur is what is left of the index. -/
def DgAt (n k i p cur : Nat) (L : List Int) : Prop := ∃ tl : List Nat, digs n k i = digs n p cur ++ tl ∧ L = List.replicate p 0 ++ nats tl ∧ p + tl.length = k ∧ cur ≤ i
theorem DgAt.start (n k i : Nat) : DgAt n k i k i (List.replicate k 0) := ⟨[], by simp, by simp [nats], rfl, Nat.le_refl _⟩
theorem DgAt.step {n k i p cur : Nat} {L : List Int} (h : DgAt n k i (p + 1) cur L) : DgAt n k i p (cur / n) (L.set p ((cur % n : Nat) : Int)) := by
  obtain ⟨tl, h1, rfl, h3, h4⟩ := h
  refine ⟨(cur % n) :: tl, by rw [h1, digs]; simp, ?_, by simp; omega, Nat.le_trans (Nat.div_le_self _ _) h4⟩
  rw [show List.replicate (p + 1) (0 : Int) = List.replicate p 0 ++ [0] by rw [List.replicate_succ'], List.append_assoc, List.set_append_right _ _ (by simp)]
  simp [nats]
theorem DgAt.done {n k i cur : Nat} {L : List Int} (h : DgAt n k i 0 cur L) : L = nats (digs n k i) := by
  obtain ⟨tl, h1, rfl, h3, -⟩ := h
  rw [h1, digs]
  simp
theorem ints_set (l : List Int) (p : Nat) (v : Int) : (ints l).set p (.int .i64 v) = ints (l.set p v) := by simp [ints, List.map_set]
theorem ints_rep (n : Nat) : ints (List.replicate n 0) = List.replicate n (.int .i64 0) := by simp [ints]
theorem ints_len (l : List Int) : (ints l).length = l.length := by simp [ints]

theorem w64 {x : Nat} (h : x ≤ 1048576) : wrap64 (x : Int) = x := by unfold wrap64; omega
set_option maxHeartbeats 1000000 in
theorem argsAt_any (i k n : Nat) (w : World) (hn : 0 < n) (hn8 : n ≤ 1048576) (hk : k ≤ 1048576) (hi : i ≤ 1048576) :
    Calls Tryz.prog 105 #[.int .i64 i, .int .i64 k, .int .i64 n] w fun e w' => ∃ g, e = .returned (.slice (some ⟨g, 0, none⟩) k k) ∧ w'.ownsRow w.heap.size 3 1 (.slice (some ⟨g, 0, none⟩) k k) k (ints (nats (digs n k i))) ∧ Below w.heap.size w w' := by
  go_enter Tryz.func105, Tryz.ntmps105
  go_wp2_with (at_make; refine make_ints _ rfl _ _ rfl k rfl rfl (by omega) ?_; intro w1 hown hg1)
  have hT := (Below.refl w.heap.size w).grown hg1 (Nat.le_refl _) (by simp)
  clear hg1
  go_loopw [0, 8] (fun c j wr => ∃ (p cur : Nat) (L : List Int), p ≤ k ∧ c = .int .i64 cur ∧ j = .int .i64 ((p : Int) - 1) ∧ Hid (DgAt n k i p cur L) ∧ cur ≤ 1048576 ∧ wr.ownsRow w.heap.size 3 1 (.slice (some ⟨w.heap.size, 0, none⟩) k k) k (ints L) ∧ Below w.heap.size w wr) (fun _ j _ => (intOf j + 1).toNat)
  case atStart => exact ⟨k, i, List.replicate k 0, Nat.le_refl _, rfl, by go_num, DgAt.start _ _ _, by omega, by rw [ints_rep]; exact hown, hT⟩
  case round =>
    clear hown hT
    obtain ⟨p, cur, L, hp, rfl, rfl, HD, hc, hown, hT⟩ := hrel
    rcases p with _ | p
    · have hl : Hid (L = nats (digs n k i)) := HD.out.done
      have h0 : ¬ (0 : Int) ≤ ((0 : Nat) : Int) - 1 := by omega
      go_wp2
      go_ret
      exact ⟨_, rfl, by rw [← hl.out]; exact hown, hT⟩
    · have h0 : (0 : Int) ≤ ((p + 1 : Nat) : Int) - 1 := by omega
      have hp0 : (0 : Int) ≤ (p : Int) := by omega
      have hp1 : (p : Int) < (k : Int) := by omega
      have HS : Hid (DgAt n k i p (cur / n) (L.set p ((cur % n : Nat) : Int))) := HD.out.step
      have e1 : ((p + 1 : Nat) : Int) - 1 = (p : Int) := by omega
      have hLl : p < (ints L).length := by have := hown.1; omega
      have hcell : wr.cell? ⟨w.heap.size, p, none⟩ = some ((ints L)[p]) := (hown.cellAt p (by omega)).trans (List.getElem?_eq_getElem hLl)
      have hfz : wr.frozen? ⟨w.heap.size, p, none⟩ = false := hown.frozenAt p
      have hst := (hown.stored p (.int .i64 ((cur % n : Nat) : Int))).1
      rw [ints_set] at hst
      have hnz : ¬ (n : Int) = 0 := by omega
      have hcd : cur / n ≤ 1048576 := Nat.le_trans (Nat.div_le_self _ _) hc
      have HQ : Hid (wrap64 ((cur : Int) / (n : Int)) = ((cur / n : Nat) : Int)) := by
        show _ = _
        have e : (cur : Int) / (n : Int) = ((cur / n : Nat) : Int) := by simp
        rw [e]
        exact w64 hcd
      rw [e1]
      clear h0 e1
      go_wp2
      go_roundw
      case rel => exact ⟨p, cur / n, _, by omega, by rw [HQ.out], by go_num, HS, hcd, hst, hT.setCell (Nat.le_refl _) _⟩
      case measure => simp [intOf]; try omega
set_option maxHeartbeats 1000000 in
theorem l2Args_any (i k n : Nat) (w : World) (hn : 0 < n) (hn8 : n ≤ 1048576) (hk : k ≤ 1048576) (hi : i ≤ 1048576) :
    Calls Tryz.prog 101 #[.int .i64 n, .int .i64 k, .int .i64 i] w fun e w' => ∃ g, e = .returned (.slice (some ⟨g, 0, none⟩) k k) ∧ w'.ownsRow w.heap.size 3 1 (.slice (some ⟨g, 0, none⟩) k k) k (ints (nats (digs n k i))) ∧ Below w.heap.size w w' := by
  go_enter Tryz.func101, Tryz.ntmps101
  go_wp2_with (at_make; refine make_ints _ rfl _ _ rfl k rfl rfl (by omega) ?_; intro w1 hown hg1)
  have hT := (Below.refl w.heap.size w).grown hg1 (Nat.le_refl _) (by simp)
  clear hg1
  go_loopw [2, 8] (fun c j wr => ∃ (p cur : Nat) (L : List Int), p ≤ k ∧ c = .int .i64 cur ∧ j = .int .i64 ((p : Int) - 1) ∧ Hid (DgAt n k i p cur L) ∧ cur ≤ 1048576 ∧ wr.ownsRow w.heap.size 3 1 (.slice (some ⟨w.heap.size, 0, none⟩) k k) k (ints L) ∧ Below w.heap.size w wr) (fun _ j _ => (intOf j + 1).toNat)
  case atStart => exact ⟨k, i, List.replicate k 0, Nat.le_refl _, rfl, by go_num, DgAt.start _ _ _, by omega, by rw [ints_rep]; exact hown, hT⟩
  case round =>
    clear hown hT
    obtain ⟨p, cur, L, hp, rfl, rfl, HD, hc, hown, hT⟩ := hrel
    rcases p with _ | p
    · have hl : Hid (L = nats (digs n k i)) := HD.out.done
      have h0 : ¬ (0 : Int) ≤ ((0 : Nat) : Int) - 1 := by omega
      go_wp2
      go_ret
      exact ⟨_, rfl, by rw [← hl.out]; exact hown, hT⟩
    · have h0 : (0 : Int) ≤ ((p + 1 : Nat) : Int) - 1 := by omega
      have hp0 : (0 : Int) ≤ (p : Int) := by omega
      have hp1 : (p : Int) < (k : Int) := by omega
      have HS : Hid (DgAt n k i p (cur / n) (L.set p ((cur % n : Nat) : Int))) := HD.out.step
      have e1 : ((p + 1 : Nat) : Int) - 1 = (p : Int) := by omega
      have hLl : p < (ints L).length := by have := hown.1; omega
      have hcell : wr.cell? ⟨w.heap.size, p, none⟩ = some ((ints L)[p]) := (hown.cellAt p (by omega)).trans (List.getElem?_eq_getElem hLl)
      have hfz : wr.frozen? ⟨w.heap.size, p, none⟩ = false := hown.frozenAt p
      have hst := (hown.stored p (.int .i64 ((cur % n : Nat) : Int))).1
      rw [ints_set] at hst
      have hnz : ¬ (n : Int) = 0 := by omega
      have hcd : cur / n ≤ 1048576 := Nat.le_trans (Nat.div_le_self _ _) hc
      have HQ : Hid (wrap64 ((cur : Int) / (n : Int)) = ((cur / n : Nat) : Int)) := by
        show _ = _
        have e : (cur : Int) / (n : Int) = ((cur / n : Nat) : Int) := by simp
        rw [e]
        exact w64 hcd
      rw [e1]
      clear h0 e1
      go_wp2
      go_roundw
      case rel => exact ⟨p, cur / n, _, by omega, by rw [HQ.out], by go_num, HS, hcd, hst, hT.setCell (Nat.le_refl _) _⟩
      case measure => simp [intOf]; try omega

theorem l1Own_any (A : Option Addr) (n c : Nat) (xs : List Int) (w : World) (h : RdL RI w A n xs) (hn : n ≤ 1048576) :
    Calls Tryz.prog 74 #[.slice A n c] w fun e w' => ∃ A' c', e = .returned (.slice A' n c') ∧ w'.ownsRow w.heap.size 3 1 (.slice A' n c') n (ints xs) ∧ Below w.heap.size w w' := by
  have hT := below_box w (.cells #[] 3)
  have hown : (w.alloc (.cells #[] 3)).ownsRow w.heap.size 3 1 (.slice (some ⟨w.heap.size, 0, none⟩) 0 0) 0 [] := World.ownsRow_lit _ _ _ (Nat.le_refl _) (Nat.zero_le _) rfl
  have h1 := h.next stab_RI hT
  go_enter Tryz.func74, Tryz.ntmps74
  go_wp2_with (at_builtin; refine appAny _ rfl _ _ 25 3 rfl (.int .i64 0) 8 Tryz.underlying25 info_int rfl (by decide) w.heap.size 0 0 (some ⟨w.heap.size, 0, none⟩) [] rfl hown A n c xs (.int .i64) (fun _ => rfl) rfl h1 (fun _ _ _ hr => hr.1) (by omega) hT.size ?_; intro A2 c2 w2 hown2 hg2 hb2)
  go_ret
  refine ⟨A2, c2, by simp, ?_, hT.trans hb2⟩
  simpa [ints] using hown2

/-- The index of a list of digits. -/
theorem idx_take {n : Nat} {l : List Nat} {k d : Nat} (h : l[k]? = some d) : idx n (l.take (k + 1)) = idx n (l.take k) * n + d := by
  rw [List.take_add_one, h]
  exact idx_snoc _ _ _
theorem nats_get {l : List Nat} {k : Nat} {v : Int} (h : (nats l)[k]? = some v) : ∃ d : Nat, l[k]? = some d ∧ v = d := by
  unfold nats at h
  rw [List.getElem?_map] at h
  rcases e : l[k]? with _ | d
  · rw [e] at h; simp at h
  · rw [e] at h
    simp at h
    exact ⟨d, rfl, h.symm⟩
theorem idx_small {n : Nat} (hn : n ≤ 8) {l : List Nat} (hl : l.length ≤ 4) (hd : ∀ d ∈ l, d < n) : idx n l < 4096 + 1 := by
  have := idx_lt l.length l rfl hd
  have h2 := pow_bd hn hl
  omega
end Go.Proofs.YtidjocikbmkjbaaGreat
