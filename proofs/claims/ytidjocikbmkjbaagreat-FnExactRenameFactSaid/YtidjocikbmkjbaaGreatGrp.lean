
/- Plain laws: the renamings of an algebra by all lists of names are a group's; the first form is the same for all renamed ones; how many copies there are. -/
import Derived.Test.YtidjocikbmkjbaaGreatRenP
import Derived.Test.YtidjocikbmkjbaaGreatTermP
namespace Go.Proofs.YtidjocikbmkjbaaGreat
open Go.RowKit

/-! ## Names one after the other -/
def comp (s t : List Int) : List Int := s.map (nmI t)
theorem PermL.atI {n : Nat} {s : List Int} (h : PermL n s) {v : Int} (h0 : 0 ≤ v) (h1 : v ≤ (n : Int) - 1) : ∃ hl : v.toNat < s.length, nmI s v = s[v.toNat] ∧ s[v.toNat]? = some (nmI s v) := by
  have hl : v.toNat < s.length := by rw [h.1]; omega
  have e : s[v.toNat]? = some s[v.toNat] := List.getElem?_eq_getElem hl
  have e2 : nmI s v = s[v.toNat] := by unfold nmI; rw [List.getD_eq_getElem?_getD, e]; rfl
  exact ⟨hl, e2, by rw [e2]; exact e⟩
theorem nmI_in {n : Nat} {s : List Int} (h : PermL n s) {v : Int} (h0 : 0 ≤ v) (h1 : v ≤ (n : Int) - 1) : 0 ≤ nmI s v ∧ nmI s v ≤ (n : Int) - 1 := by
  obtain ⟨hl, e, -⟩ := h.atI h0 h1
  rw [e]
  exact h.2.1 _ (List.getElem_mem hl)
theorem nodup_at {α : Type} : ∀ {l : List α}, l.Nodup → ∀ {i j : Nat} {v : α}, l[i]? = some v → l[j]? = some v → i = j
  | [], _, i, j, v, hi, _ => by simp at hi
  | x :: l, h, 0, 0, v, _, _ => rfl
  | x :: l, h, 0, j + 1, v, hi, hj => by
    rw [List.nodup_cons] at h
    simp at hi hj
    subst hi
    exact absurd (List.mem_of_getElem? hj) h.1
  | x :: l, h, i + 1, 0, v, hi, hj => by
    rw [List.nodup_cons] at h
    simp at hi hj
    subst hj
    exact absurd (List.mem_of_getElem? hi) h.1
  | x :: l, h, i + 1, j + 1, v, hi, hj => by
    rw [List.nodup_cons] at h
    simp at hi hj
    rw [nodup_at h.2 hi hj]
theorem nmI_inj {n : Nat} {s : List Int} (h : PermL n s) {a b : Int} (a0 : 0 ≤ a) (a1 : a ≤ (n : Int) - 1) (b0 : 0 ≤ b) (b1 : b ≤ (n : Int) - 1) (e : nmI s a = nmI s b) : a = b := by
  obtain ⟨-, -, ea⟩ := h.atI a0 a1
  obtain ⟨-, -, eb⟩ := h.atI b0 b1
  rw [e] at ea
  have := nodup_at h.2.2 ea eb
  omega
theorem nodup_map {α β : Type} {f : α → β} {l : List α} (h : l.Nodup) (hf : ∀ a ∈ l, ∀ b ∈ l, f a = f b → a = b) : (l.map f).Nodup := by
  induction l with
  | nil => simp
  | cons x l ih =>
    rw [List.nodup_cons] at h
    rw [List.map_cons, List.nodup_cons]
    refine ⟨fun hm => ?_, ih h.2 fun a ha b hb => hf a (by simp [ha]) b (by simp [hb])⟩
    obtain ⟨y, hy, e⟩ := List.mem_map.1 hm
    have := hf y (by simp [hy]) x (by simp) e
    subst this
    exact h.1 hy
theorem comp_perm {n : Nat} {s t : List Int} (hs : PermL n s) (ht : PermL n t) : PermL n (comp s t) := by
  refine ⟨by unfold comp; rw [List.length_map]; exact hs.1, fun v hv => ?_, nodup_map hs.2.2 fun a ha b hb e => ?_⟩
  · obtain ⟨y, hy, rfl⟩ := List.mem_map.1 hv
    have := hs.2.1 y hy
    exact nmI_in ht this.1 this.2
  · have h1 := hs.2.1 a ha
    have h2 := hs.2.1 b hb
    exact nmI_inj ht h1.1 h1.2 h2.1 h2.2 e
theorem comp_nmI {n : Nat} {s t : List Int} (hs : PermL n s) {v : Int} (h0 : 0 ≤ v) (h1 : v ≤ (n : Int) - 1) : nmI (comp s t) v = nmI t (nmI s v) := by
  obtain ⟨hl, e, e2⟩ := hs.atI h0 h1
  unfold comp
  have : (s.map (nmI t))[v.toNat]? = some (nmI t (nmI s v)) := by rw [List.getElem?_map, e2]; rfl
  exact nmI_get this
theorem nmAt_nmI {n : Nat} {s : List Int} (hs : PermL n s) {x : Nat} (hx : x < n) : (nmAt s x : Int) = nmI s (x : Int) := by
  obtain ⟨v, h1, h2, h3⟩ := hs.at hx
  rw [h3]
  have := nmI_get h1
  unfold nmI at this ⊢
  simp only [Int.toNat_natCast]
  exact this.symm
theorem nmAt_lt {n : Nat} {s : List Int} (hs : PermL n s) {x : Nat} (hx : x < n) : nmAt s x < n := by
  obtain ⟨v, h1, h2, h3⟩ := hs.at hx
  omega
theorem comp_nmAt {n : Nat} {s t : List Int} (hs : PermL n s) (ht : PermL n t) {x : Nat} (hx : x < n) : nmAt (comp s t) x = nmAt t (nmAt s x) := by
  have h1 := nmAt_nmI (comp_perm hs ht) hx
  have h2 := nmAt_nmI ht (nmAt_lt hs hx)
  have h3 := nmAt_nmI hs hx
  rw [comp_nmI hs (by omega) (by omega), ← h3, ← h2] at h1
  omega
theorem perm_ext {n : Nat} {s t : List Int} (hs : s.length = n) (ht : t.length = n) (h : ∀ x, x < n → nmI s (x : Int) = nmI t (x : Int)) : s = t := by
  apply List.ext_getElem?
  intro i
  by_cases hi : i < n
  · have := h i hi
    unfold nmI at this
    simp only [Int.toNat_natCast, List.getD_eq_getElem?_getD] at this
    rw [List.getElem?_eq_getElem (by omega), List.getElem?_eq_getElem (by omega)] at this ⊢
    simpa using this
  · rw [List.getElem?_eq_none (by omega), List.getElem?_eq_none (by omega)]
theorem upTo_nmI {n : Nat} {v : Int} (h0 : 0 ≤ v) (h1 : v ≤ (n : Int) - 1) : nmI (upTo n) v = v := by
  have := nmI_get (upTo_get (n := n) (k := v.toNat) (by omega))
  rw [Int.toNat_of_nonneg h0] at this
  exact this
theorem comp_len (s t : List Int) : (comp s t).length = s.length := by simp [comp]
theorem comp_up {n : Nat} {s : List Int} (hs : PermL n s) : comp s (upTo n) = s := by
  refine perm_ext (n := n) (by rw [comp_len]; exact hs.1) hs.1 fun x hx => ?_
  have := nmI_in hs (v := (x : Int)) (by omega) (by omega)
  rw [comp_nmI hs (by omega) (by omega), upTo_nmI this.1 this.2]
theorem up_comp {n : Nat} {s : List Int} (hs : PermL n s) : comp (upTo n) s = s := by
  refine perm_ext (n := n) (by rw [comp_len]; exact upTo_len n) hs.1 fun x hx => ?_
  rw [comp_nmI (upTo_perm n) (by omega) (by omega), upTo_nmI (by omega) (by omega)]
theorem comp_assoc {n : Nat} {a b c : List Int} (ha : PermL n a) (hb : PermL n b) : comp (comp a b) c = comp a (comp b c) := by
  refine perm_ext (n := n) (by rw [comp_len, comp_len]; exact ha.1) (by rw [comp_len]; exact ha.1) fun x hx => ?_
  have := nmI_in ha (v := (x : Int)) (by omega) (by omega)
  rw [comp_nmI (comp_perm ha hb) (by omega) (by omega), comp_nmI ha (by omega) (by omega), comp_nmI ha (by omega) (by omega), comp_nmI hb this.1 this.2]
/-- The place of a number in a list. -/
def posN : List Int → Int → Nat
  | [], _ => 0
  | x :: l, v => if x = v then 0 else posN l v + 1
theorem posN_get : ∀ {l : List Int} {v : Int}, v ∈ l → l[posN l v]? = some v
  | [], v, h => by simp at h
  | x :: l, v, h => by
    unfold posN
    by_cases e : x = v
    · rw [if_pos e, e]; rfl
    · rw [if_neg e, List.getElem?_cons_succ]
      refine posN_get ?_
      rcases List.mem_cons.1 h with h | h
      · exact absurd h.symm e
      · exact h
def inv (n : Nat) (s : List Int) : List Int := (List.range n).map fun (y : Nat) => (posN s (y : Int) : Int)
theorem PermL.mem {n : Nat} {s : List Int} (h : PermL n s) {y : Nat} (hy : y < n) : (y : Int) ∈ s := by
  obtain ⟨x, hx, e⟩ := h.surj hy
  obtain ⟨v, h1, h2, h3⟩ := h.at hx
  rw [← e, h3]
  exact List.mem_of_getElem? h1
theorem inv_nmI {n : Nat} {s : List Int} {y : Nat} (hy : y < n) : nmI (inv n s) (y : Int) = (posN s (y : Int) : Int) := by
  have : (inv n s)[y]? = some (posN s (y : Int) : Int) := by unfold inv; rw [List.getElem?_map, List.getElem?_range hy]; rfl
  have := nmI_get this
  unfold nmI at this ⊢
  simpa using this
theorem inv_perm {n : Nat} {s : List Int} (h : PermL n s) : PermL n (inv n s) := by
  refine ⟨by simp [inv], fun v hv => ?_, nodup_map List.nodup_range fun a ha b hb e => ?_⟩
  · obtain ⟨y, hy, rfl⟩ := List.mem_map.1 hv
    have := (List.getElem?_eq_some_iff.1 (posN_get (h.mem (List.mem_range.1 hy)))).1
    have := h.1
    omega
  · have h1 := posN_get (h.mem (List.mem_range.1 ha))
    have h2 := posN_get (h.mem (List.mem_range.1 hb))
    have e' : posN s (a : Int) = posN s (b : Int) := by omega
    rw [e', h2] at h1
    injection h1 with h1
    omega
theorem comp_inv {n : Nat} {s : List Int} (h : PermL n s) : comp s (inv n s) = upTo n := by
  refine perm_ext (n := n) (by rw [comp_len]; exact h.1) (upTo_len n) fun x hx => ?_
  rw [comp_nmI h (by omega) (by omega), upTo_nmI (by omega) (by omega)]
  obtain ⟨v, h1, h2, h3⟩ := h.at hx
  have e : nmI s (x : Int) = v := by have := nmI_get h1; unfold nmI at this ⊢; simpa using this
  rw [e, inv_nmI h2]
  have := nodup_at h.2.2 (posN_get (h.mem h2)) h1
  omega
theorem inv_comp {n : Nat} {s : List Int} (h : PermL n s) : comp (inv n s) s = upTo n := by
  refine perm_ext (n := n) (by rw [comp_len]; exact (inv_perm h).1) (upTo_len n) fun x hx => ?_
  rw [comp_nmI (inv_perm h) (by omega) (by omega), upTo_nmI (by omega) (by omega), inv_nmI hx]
  have := posN_get (h.mem hx)
  have := nmI_get this
  unfold nmI at this ⊢
  simpa using this

/-! ## Renaming by names one after the other -/
theorem toI_comp {n k : Nat} {s t : List Int} (hn : 0 < n) (hs : PermL n s) (ht : PermL n t) (i : Nat) : toI n k t (toI n k s i) = toI n k (comp s t) i := by
  unfold toI
  have h1 : ∀ d ∈ (digs n k i).map (nmAt s), d < n := fun d hd => by
    obtain ⟨y, hy, rfl⟩ := List.mem_map.1 hd
    exact nmAt_lt hs (digs_lt hn hy)
  rw [digs_idx hn k _ (by rw [List.length_map, digs_len]) h1, List.map_map]
  congr 1
  apply List.map_congr_left
  intro d hd
  rw [comp_nmAt hs ht (digs_lt hn hd)]
  rfl
theorem toI_inj {n k : Nat} {s : List Int} (hn : 0 < n) (hs : PermL n s) {i j : Nat} (hi : i < n ^ k) (hj : j < n ^ k) (e : toI n k s i = toI n k s j) : i = j := by
  have h1 := toI_comp (k := k) hn hs (inv_perm hs) i
  have h2 := toI_comp (k := k) hn hs (inv_perm hs) j
  rw [comp_inv hs, toI_up hn hi] at h1
  rw [comp_inv hs, toI_up hn hj] at h2
  rw [← h1, ← h2, e]
theorem renTo_get {n k : Nat} {s t T : List Int} (hn : 0 < n) (hs : PermL n s) (hT : T.length = n ^ k) : ∀ m, m ≤ n ^ k → ∀ i, i < m → (renTo n k s t T m)[toI n k s i]? = some (nmI s (t.getD i 0))
  | 0, _, i, hi => absurd hi (by omega)
  | m + 1, hm, i, hi => by
    rw [renTo, List.getElem?_set]
    by_cases h : toI n k s m = toI n k s i
    · obtain rfl : m = i := toI_inj hn hs (by omega) (by omega) h
      have := toI_lt (k := k) hn hs m
      rw [if_pos rfl, if_pos (by rw [renTo_len, hT]; exact this)]
    · rw [if_neg h]
      refine renTo_get hn hs hT m (by omega) i ?_
      rcases Nat.lt_or_ge i m with h2 | h2
      · exact h2
      · obtain rfl : i = m := by omega
        exact absurd rfl h
theorem renOp_get {n : Nat} {s : List Int} {x : OpM} (hn : 0 < n) (hs : PermL n s) (h : OpP n x) {i : Nat} (hi : i < n ^ x.1.toNat) : (renOp n s x).2[toI n x.1.toNat s i]? = some (nmI s (x.2.getD i 0)) :=
  renTo_get hn hs h.2.2.1 _ (Nat.le_of_eq h.2.2.1) i (by rw [h.2.2.1]; exact hi)
theorem renOp_comp {n : Nat} {s t : List Int} {x : OpM} (hn : 0 < n) (hs : PermL n s) (ht : PermL n t) (h : OpP n x) : renOp n t (renOp n s x) = renOp n (comp s t) x := by
  have h1 := renOp_small hs h
  have h2 := renOp_small ht h1
  have h3 := renOp_small (comp_perm hs ht) h
  refine Prod.ext rfl ?_
  apply List.ext_getElem?
  intro j
  by_cases hj : j < n ^ x.1.toNat
  · obtain ⟨i, hi, rfl⟩ := toI_surj hn (comp_perm hs ht) hj
    rw [renOp_get hn (comp_perm hs ht) h hi, ← toI_comp hn hs ht i]
    have e := renOp_get (x := renOp n s x) hn ht h1 (i := toI n x.1.toNat s i) (toI_lt hn hs i)
    have e1 : (renOp n s x).1 = x.1 := rfl
    rw [e1] at e
    rw [e, List.getD_eq_getElem?_getD, renOp_get hn hs h hi]
    have hx : 0 ≤ x.2.getD i 0 ∧ x.2.getD i 0 ≤ (n : Int) - 1 := by
      rw [List.getD_eq_getElem?_getD, List.getElem?_eq_getElem (by rw [h.2.2.1]; exact hi)]
      exact h.2.2.2 _ (List.getElem_mem _)
    rw [comp_nmI hs hx.1 hx.2]
    rfl
  · have e2 : (renOp n t (renOp n s x)).2.length = n ^ x.1.toNat := h2.2.2.1
    have e3 : (renOp n (comp s t) x).2.length = n ^ x.1.toNat := h3.2.2.1
    rw [List.getElem?_eq_none (by omega), List.getElem?_eq_none (by omega)]
theorem ren_comp {x : AlgebraM} {s t : List Int} (h : SmallP x) (hs : PermL x.1.toNat s) (ht : PermL x.1.toNat t) : ren (ren x s) t = ren x (comp s t) := by
  obtain ⟨a, ops⟩ := x
  have hn : 0 < a.toNat := by have h0 : 1 ≤ a := h.1; omega
  show (a, (ops.map (renOp a.toNat s)).map (renOp a.toNat t)) = (a, ops.map (renOp a.toNat (comp s t)))
  congr 1
  rw [List.map_map]
  apply List.map_congr_left
  intro o ho
  exact renOp_comp hn hs ht (h.2.2.2 o ho)
theorem ren_inv {x : AlgebraM} {s : List Int} (h : SmallP x) (hs : PermL x.1.toNat s) : ren (ren x s) (inv x.1.toNat s) = x := by
  rw [ren_comp h hs (inv_perm hs), comp_inv hs, ren_up h]

/-! ## All lists of names -/
theorem ords_all {n : Nat} : ∀ (r : Nat) {s q : List Int}, q.length = r → (s ++ q).Nodup → (∀ v ∈ q, 0 ≤ v ∧ v ≤ (n : Int) - 1) → s ++ q ∈ ords n r s
  | 0, s, q, hq, _, _ => by
    obtain rfl : q = [] := List.eq_nil_of_length_eq_zero hq
    simp [ords]
  | r + 1, s, q, hq, hn, hb => by
    rcases q with _ | ⟨v, q⟩
    · simp at hq
    · have hv := hb v (by simp)
      rw [ords, List.mem_flatMap]
      refine ⟨v.toNat, List.mem_range.2 (by omega), ?_⟩
      rw [Int.toNat_of_nonneg hv.1]
      have hno : hasI v s = false := by
        rcases e : hasI v s with _ | _
        · rfl
        · rw [List.nodup_append] at hn
          exact absurd rfl (hn.2.2 v (hasI_m.1 e) v (by simp))
      rw [hno, if_neg (by simp)]
      have := ords_all (n := n) r (s := s ++ [v]) (q := q) (by simpa using hq) (by simpa using hn) fun u hu => hb u (by simp [hu])
      simpa using this
theorem ords_mem {n : Nat} {p : List Int} : p ∈ ords n n [] ↔ PermL n p :=
  ⟨fun h => ords_perm n (by simp) (fun v hv => by cases hv) List.nodup_nil p h, fun h => ords_all n (s := []) h.1 (by simpa using h.2.2) h.2.1⟩
theorem ords_pre {n : Nat} : ∀ (r : Nat) {s p : List Int}, p ∈ ords n r s → ∃ q, p = s ++ q ∧ q.length = r
  | 0, s, p, h => ⟨[], by simpa [ords] using h, rfl⟩
  | r + 1, s, p, h => by
    rw [ords, List.mem_flatMap] at h
    obtain ⟨x, hx, h⟩ := h
    split at h
    · cases h
    · obtain ⟨q, e, hq⟩ := ords_pre r h
      exact ⟨(x : Int) :: q, by simpa using e, by simp [hq]⟩
theorem ords_nodup {n : Nat} : ∀ (r : Nat) (s : List Int), (ords n r s).Nodup
  | 0, s => by simp [ords]
  | r + 1, s => by
    rw [ords, List.nodup_iff_pairwise_ne, List.pairwise_flatMap]
    refine ⟨fun x hx => ?_, ?_⟩
    · split
      · simp
      · exact List.nodup_iff_pairwise_ne.1 (ords_nodup r _)
    · refine (List.nodup_iff_pairwise_ne.1 List.nodup_range).imp fun {a b} hab => ?_
      intro p hp q hq e
      subst e
      split at hp
      · cases hp
      · split at hq
        · cases hq
        · obtain ⟨u, e1, -⟩ := ords_pre r hp
          obtain ⟨v, e2, -⟩ := ords_pre r hq
          rw [e1] at e2
          simp at e2
          omega
def facN : Nat → Nat
  | 0 => 1
  | n + 1 => facN n * (n + 1)
theorem ords_fac {n : Nat} (hn : n ≤ 5) : (ords n n []).length = facN n := by
  have h : ∀ k : Fin 6, (ords k.val k.val []).length = facN k.val := by decide +kernel
  exact h ⟨n, by omega⟩

/-! ## The first form -/
theorem less_irr : ∀ l : List Int, lessL l l = false
  | [] => rfl
  | x :: l => by rw [lessL]; simp [less_irr l]
theorem less_trans : ∀ {a b c : List Int}, lessL a b = true → lessL b c = true → lessL a c = true
  | [], _, _, h, _ => by simp [lessL] at h
  | _ :: _, [], _, h, _ => by simp [lessL] at h
  | _ :: _, _ :: _, [], _, h => by simp [lessL] at h
  | x :: a, y :: b, z :: c, h1, h2 => by
    rw [lessL] at h1 h2 ⊢
    by_cases e1 : x = y
    · subst e1
      by_cases e2 : x = z
      · subst e2
        simp at h1 h2 ⊢
        exact less_trans h1 h2
      · simp [e2] at h1 h2 ⊢
        exact h2
    · simp [e1] at h1
      by_cases e2 : y = z
      · subst e2
        simp [e1]
        exact h1
      · simp [e2] at h2
        have e3 : ¬ x = z := by omega
        simp [e3]
        omega
theorem less_total : ∀ {a b : List Int}, a.length = b.length → lessL a b = false → lessL b a = false → a = b
  | [], [], _, _, _ => rfl
  | [], _ :: _, h, _, _ => by simp at h
  | _ :: _, [], h, _, _ => by simp at h
  | x :: a, y :: b, h, h1, h2 => by
    rw [lessL] at h1 h2
    by_cases e : x = y
    · subst e
      simp at h1 h2
      rw [less_total (by simpa using h) h1 h2]
    · have e' : ¬ y = x := fun h => e h.symm
      simp [e] at h1
      simp [e'] at h2
      omega
theorem less_le {a b c : List Int} (hl : a.length = b.length) (h1 : lessL a b = false) (h2 : lessL a c = true) : lessL b c = true := by
  rcases e : lessL b a with _ | _
  · rw [← less_total hl h1 e]
    exact h2
  · exact less_trans e h2
theorem code_ren_same {x y : AlgebraM} {s t : List Int} (hx : SmallP x) (hs : PermL x.1.toNat s) (ht : PermL x.1.toNat t) (hy : y = x) : (codeL (ren x s).2).length = (codeL (ren y t).2).length := by
  subst hy
  exact code_len_eq (n := y.1.toNat) (ren_small hs hx).2.2.2 (ren_small ht hx).2.2.2 (by rw [ren_type, ren_type])
theorem best_min {x : AlgebraM} (hx : SmallP x) {l : List (List Int)} (hl : ∀ p ∈ l, PermL x.1.toNat p) {b : List Int} (h : bestOf x l = some b) : ∀ p ∈ l, lessL (codeL (ren x p).2) (codeL (ren x b).2) = false := by
  have key : ∀ (l : List (List Int)) (a b : List Int), PermL x.1.toNat a → (∀ p ∈ l, PermL x.1.toNat p) → l.foldl (better x) (some a) = some b → PermL x.1.toNat b ∧ lessL (codeL (ren x a).2) (codeL (ren x b).2) = false ∧ ∀ p ∈ l, lessL (codeL (ren x p).2) (codeL (ren x b).2) = false := by
    intro l
    induction l with
    | nil =>
      intro a b ha _ h
      injection h with h
      subst h
      exact ⟨ha, less_irr _, fun p hp => by cases hp⟩
    | cons s l ih =>
      intro a b ha hl h
      rw [List.foldl_cons] at h
      have hs := hl s (by simp)
      have hl' : ∀ p ∈ l, PermL x.1.toNat p := fun p hp => hl p (by simp [hp])
      rcases e : lessL (codeL (ren x s).2) (codeL (ren x a).2) with _ | _
      · have e' : better x (some a) s = some a := by unfold better; simp [e]
        rw [e'] at h
        obtain ⟨hb, h1, h2⟩ := ih a b ha hl' h
        refine ⟨hb, h1, fun p hp => ?_⟩
        rcases List.mem_cons.1 hp with rfl | hp
        · rcases e2 : lessL (codeL (ren x p).2) (codeL (ren x b).2) with _ | _
          · rfl
          · have := less_le (code_ren_same hx hs ha rfl) e e2
            rw [h1] at this
            cases this
        · exact h2 p hp
      · have e' : better x (some a) s = some s := by unfold better; simp [e]
        rw [e'] at h
        obtain ⟨hb, h1, h2⟩ := ih s b hs hl' h
        refine ⟨hb, ?_, fun p hp => ?_⟩
        · rcases e2 : lessL (codeL (ren x a).2) (codeL (ren x b).2) with _ | _
          · rfl
          · have := less_trans e e2
            rw [h1] at this
            cases this
        · rcases List.mem_cons.1 hp with rfl | hp
          · exact h1
          · exact h2 p hp
  intro p hp
  rcases l with _ | ⟨s, l⟩
  · cases hp
  · obtain ⟨-, h1, h2⟩ := key l s b (hl s (by simp)) (fun q hq => hl q (by simp [hq])) h
    rcases List.mem_cons.1 hp with rfl | hp
    · exact h1
    · exact h2 p hp
theorem canA_min {x : AlgebraM} (hx : SmallP x) {p : List Int} (hp : PermL x.1.toNat p) : lessL (codeL (ren x p).2) (codeL (canA x).2) = false :=
  best_min hx all_perm (canN_ok (x := x)).1 p (ords_mem.2 hp)
theorem ren_eq {x : AlgebraM} (hx : SmallP x) {s t : List Int} (hs : PermL x.1.toNat s) (ht : PermL x.1.toNat t) (h : codeL (ren x s).2 = codeL (ren x t).2) : ren x s = ren x t :=
  Prod.ext rfl (code_eq (n := x.1.toNat) (ren_small hs hx).2.2.2 (ren_small ht hx).2.2.2 (by rw [ren_type, ren_type]) h)
theorem canA_ren {x : AlgebraM} (hx : SmallP x) {s : List Int} (hs : PermL x.1.toNat s) : canA (ren x s) = canA x := by
  have hy := ren_small hs hx
  have hc : PermL x.1.toNat (canN x) := (canN_ok (x := x)).2
  have hd : PermL x.1.toNat (canN (ren x s)) := (canN_ok (x := ren x s)).2
  have e1 : canA (ren x s) = ren x (comp s (canN (ren x s))) := ren_comp hx hs hd
  have e2 : canA x = ren (ren x s) (comp (inv x.1.toNat s) (canN x)) := by
    rw [ren_comp hx hs (comp_perm (inv_perm hs) hc), ← comp_assoc hs (inv_perm hs), comp_inv hs, up_comp hc]
    rfl
  have h1 := canA_min hx (comp_perm hs hd)
  rw [← e1] at h1
  have h2 := canA_min (x := ren x s) hy (p := comp (inv x.1.toNat s) (canN x)) (comp_perm (inv_perm hs) hc)
  rw [← e2] at h2
  rw [e1]
  refine ren_eq hx (comp_perm hs hd) hc ?_
  rw [← e1]
  refine less_total ?_ h1 h2
  rw [e1]
  exact code_ren_same hx (comp_perm hs hd) hc rfl
theorem canA_idem {x : AlgebraM} (hx : SmallP x) : canA (canA x) = canA x := canA_ren hx (canN_ok (x := x)).2
theorem canA_iff {x y : AlgebraM} (hx : SmallP x) (hy : SmallP y) : canA x = canA y ↔ ∃ s, PermL x.1.toNat s ∧ ren x s = y := by
  constructor
  · intro h
    have e : x.1 = y.1 := by show (canA x).1 = (canA y).1; rw [h]
    have hcx := (canN_ok (x := x)).2
    have hcy := (canN_ok (x := y)).2
    refine ⟨comp (canN x) (inv x.1.toNat (canN y)), comp_perm hcx (inv_perm (by rw [e]; exact hcy)), ?_⟩
    rw [← ren_comp hx hcx (inv_perm (by rw [e]; exact hcy))]
    show ren (canA x) _ = y
    rw [h, e]
    exact ren_inv hy hcy
  · rintro ⟨s, hs, rfl⟩
    exact (canA_ren hx hs).symm

/-! ## Counting -/
theorem nodup_sub' {α : Type} : ∀ {l m : List α}, l.Nodup → (∀ x ∈ l, x ∈ m) → l.length ≤ m.length
  | [], _, _, _ => Nat.zero_le _
  | a :: l, m, hn, hs => by
    rw [List.nodup_cons] at hn
    obtain ⟨u, v, rfl⟩ := List.append_of_mem (hs a (by simp))
    have ih := nodup_sub' (m := u ++ v) hn.2 fun x hx => by
      have := hs x (by simp [hx])
      have hne : x ≠ a := fun e => hn.1 (by rw [← e]; exact hx)
      simpa [hne] using this
    simp at ih ⊢
    omega
theorem length_by {α β : Type} (f : α → β) (m : Nat) (P : α → β → Bool) (hP : ∀ a b, P a b = true ↔ f a = b) : ∀ {cs : List β} {L : List α}, cs.Nodup → (∀ p ∈ L, f p ∈ cs) → (∀ c ∈ cs, (L.filter fun p => P p c).length = m) → L.length = cs.length * m
  | [], [], _, _, _ => by simp
  | [], p :: L, _, h, _ => by have := h p (by simp); cases this
  | c :: cs, L, hn, h, hm => by
    rw [List.nodup_cons] at hn
    have h1 := hm c (by simp)
    have h2 : (L.filter fun p => !P p c).length = cs.length * m := by
      refine length_by f m P hP hn.2 (fun p hp => ?_) fun d hd => ?_
      · rw [List.mem_filter] at hp
        rcases List.mem_cons.1 (h p hp.1) with e | e
        · have := (hP p c).2 e
          rw [this] at hp
          simp at hp
        · exact e
      · rw [List.filter_filter, ← hm d (by simp [hd])]
        congr 1
        apply List.filter_congr
        intro p _
        rcases e : P p d with _ | _
        · rfl
        · have h3 := (hP p d).1 e
          have h4 : P p c = false := by
            rcases e2 : P p c with _ | _
            · rfl
            · have := (hP p c).1 e2
              rw [← this, h3] at hn
              exact absurd hd hn.1
          rw [h4]
          rfl
    have h3 : L.length = (L.filter fun p => P p c).length + (L.filter fun p => !P p c).length := by
      clear h h1 h2 hm
      induction L with
      | nil => rfl
      | cons p L ih =>
        rw [List.filter_cons, List.filter_cons]
        rcases P p c with _ | _ <;> simp <;> omega
    rw [h3, h1, h2, List.length_cons, Nat.succ_mul]
    omega
theorem orbit_len {x : AlgebraM} (hx : SmallP x) {cs : List (List Int)} (hn : cs.Nodup) (h : ∀ c, c ∈ cs ↔ ∃ p ∈ ords x.1.toNat x.1.toNat [], codeL (ren x p).2 = c) :
    (ords x.1.toNat x.1.toNat []).length = cs.length * ((ords x.1.toNat x.1.toNat []).filter fun p => eqC (ren x p) x).length := by
  refine length_by (fun p => codeL (ren x p).2) _ (fun p c => eqC (codeL (ren x p).2) c) (fun a b => eqC_iff) hn (fun p hp => (h _).2 ⟨p, hp, rfl⟩) fun c hc => ?_
  obtain ⟨p, hp, rfl⟩ := (h c).1 hc
  have hp' := ords_mem.1 hp
  have hL := ords_nodup (n := x.1.toNat) x.1.toNat []
  apply Nat.le_antisymm
  · rw [← List.length_map (f := fun q => comp q (inv x.1.toNat p))]
    refine nodup_sub' (nodup_map (List.Nodup.sublist List.filter_sublist hL) fun a ha b hb e => ?_) fun q hq => ?_
    · have ha' := ords_mem.1 (List.mem_filter.1 ha).1
      have hb' := ords_mem.1 (List.mem_filter.1 hb).1
      have : comp (comp a (inv x.1.toNat p)) p = comp (comp b (inv x.1.toNat p)) p := congrArg (fun z => comp z p) e
      rwa [comp_assoc ha' (inv_perm hp'), comp_assoc hb' (inv_perm hp'), inv_comp hp', comp_up ha', comp_up hb'] at this
    · obtain ⟨q', hq', rfl⟩ := List.mem_map.1 hq
      rw [List.mem_filter] at hq' ⊢
      have h1 := ords_mem.1 hq'.1
      refine ⟨ords_mem.2 (comp_perm h1 (inv_perm hp')), eqC_iff.2 ?_⟩
      have h2 := ren_eq hx h1 hp' (eqC_iff.1 hq'.2)
      rw [← ren_comp hx h1 (inv_perm hp'), h2, ren_inv hx hp']
  · rw [← List.length_map (f := fun q => comp q p)]
    refine nodup_sub' (nodup_map (List.Nodup.sublist List.filter_sublist hL) fun a ha b hb e => ?_) fun q hq => ?_
    · have ha' := ords_mem.1 (List.mem_filter.1 ha).1
      have hb' := ords_mem.1 (List.mem_filter.1 hb).1
      have : comp (comp a p) (inv x.1.toNat p) = comp (comp b p) (inv x.1.toNat p) := congrArg (fun z => comp z (inv x.1.toNat p)) e
      rwa [comp_assoc ha' hp', comp_assoc hb' hp', comp_inv hp', comp_up ha', comp_up hb'] at this
    · obtain ⟨q', hq', rfl⟩ := List.mem_map.1 hq
      rw [List.mem_filter] at hq' ⊢
      have h1 := ords_mem.1 hq'.1
      refine ⟨ords_mem.2 (comp_perm h1 hp'), eqC_iff.2 ?_⟩
      rw [← ren_comp hx h1 hp', eqC_iff.1 hq'.2]
/-- The list of what f gives, each once, in the order of the first ones. -/
noncomputable def once {α β : Type} (f : α → β) (l : List α) : List β := l.foldl (fun acc p => if (acc.any fun c => eqC c (f p)) then acc else acc ++ [f p]) []
theorem once_snoc {α β : Type} (f : α → β) (l : List α) (p : α) : once f (l ++ [p]) = if ((once f l).any fun c => eqC c (f p)) then once f l else once f l ++ [f p] := by
  unfold once
  rw [List.foldl_append]
  rfl
theorem any_eqC {β : Type} {l : List β} {b : β} : (l.any fun c => eqC c b) = true ↔ b ∈ l := by
  rw [List.any_eq_true]
  exact ⟨fun ⟨c, h, e⟩ => by rw [← eqC_iff.1 e]; exact h, fun h => ⟨b, h, eqC_self b⟩⟩
theorem once_iff {α β : Type} (f : α → β) (l : List α) : (once f l).Nodup ∧ ∀ c, c ∈ once f l ↔ ∃ p ∈ l, f p = c := by
  have key : ∀ k, k ≤ l.length → (once f (l.take k)).Nodup ∧ ∀ c, c ∈ once f (l.take k) ↔ ∃ p ∈ l.take k, f p = c := by
    intro k
    induction k with
    | zero => intro _; simp [once]
    | succ k ih =>
      intro hk
      obtain ⟨h1, h2⟩ := ih (by omega)
      rw [List.take_succ_eq_append_getElem (by omega), once_snoc]
      rcases e : ((once f (l.take k)).any fun c => eqC c (f l[k])) with _ | _
      · have hno : f l[k] ∉ once f (l.take k) := fun h => by rw [any_eqC.2 h] at e; cases e
        rw [if_neg (by simp)]
        refine ⟨?_, fun c => ?_⟩
        · rw [List.nodup_append]
          refine ⟨h1, by simp, fun a ha b hb e => ?_⟩
          rw [List.mem_singleton] at hb
          subst hb
          subst e
          exact hno ha
        · rw [List.mem_append, h2, List.mem_singleton]
          constructor
          · rintro (⟨p, hp, e⟩ | e)
            · exact ⟨p, List.mem_append_left _ hp, e⟩
            · exact ⟨l[k], List.mem_append_right _ (List.mem_singleton.2 rfl), e.symm⟩
          · rintro ⟨p, hp, e⟩
            rw [List.mem_append, List.mem_singleton] at hp
            rcases hp with hp | rfl
            · exact .inl ⟨p, hp, e⟩
            · exact .inr e.symm
      · have hm := any_eqC.1 e
        rw [if_pos rfl]
        refine ⟨h1, fun c => ?_⟩
        rw [h2]
        constructor
        · rintro ⟨p, hp, e⟩
          exact ⟨p, List.mem_append_left _ hp, e⟩
        · rintro ⟨p, hp, e⟩
          rw [List.mem_append, List.mem_singleton] at hp
          rcases hp with hp | rfl
          · exact ⟨p, hp, e⟩
          · rw [← e]
            exact (h2 _).1 hm
  have := key l.length (Nat.le_refl _)
  rwa [List.take_length] at this
theorem copies {x : AlgebraM} (hx : SmallP x) : (ords x.1.toNat x.1.toNat []).length = (once (fun p => codeL (ren x p).2) (ords x.1.toNat x.1.toNat [])).length * ((ords x.1.toNat x.1.toNat []).filter fun p => eqC (ren x p) x).length :=
  orbit_len hx (once_iff _ _).1 (once_iff _ _).2
/-- As many first forms as there are algebras in a list that are first ones, where all first forms are in the list. -/
theorem forms_len {l : List AlgebraM} (hl : l.Nodup) (hs : ∀ x ∈ l, SmallP x) (hc : ∀ x ∈ l, canA x ∈ l) {β : Type} (f : AlgebraM → β) (hf : ∀ x ∈ l, ∀ y ∈ l, f x = f y → x = y) {cs : List β} (hn : cs.Nodup) (h : ∀ c, c ∈ cs ↔ ∃ x ∈ l, f (canA x) = c) :
    cs.length = (l.filter fun x => eqC (canA x) x).length := by
  apply Nat.le_antisymm
  · have em : (l.filter fun x => eqC (canA x) x).length = ((l.filter fun x => eqC (canA x) x).map f).length := by rw [List.length_map]
    rw [em]
    refine nodup_sub' hn fun c hc' => ?_
    obtain ⟨x, hx, rfl⟩ := (h c).1 hc'
    exact List.mem_map.2 ⟨canA x, List.mem_filter.2 ⟨hc x hx, eqC_iff.2 (canA_idem (hs x hx))⟩, rfl⟩
  · have em : (l.filter fun x => eqC (canA x) x).length = ((l.filter fun x => eqC (canA x) x).map f).length := by rw [List.length_map]
    rw [em]
    refine nodup_sub' (nodup_map (List.Nodup.sublist List.filter_sublist hl) fun a ha b hb e => hf a (List.mem_filter.1 ha).1 b (List.mem_filter.1 hb).1 e) fun c hc' => ?_
    obtain ⟨x, hx, rfl⟩ := List.mem_map.1 hc'
    rw [List.mem_filter] at hx
    exact (h _).2 ⟨x, hx.1, by rw [eqC_iff.1 hx.2]⟩
end Go.Proofs.YtidjocikbmkjbaaGreat
namespace Go.Proofs.YtidjocikbmkjbaaGreat
open Go.RowKit
set_option linter.unusedVariables false

/-- The kernel of a map: each element's first mate. -/
def kerL (q : List Int) : List Int := q.map fun v => (posN q v : Int)
theorem kerL_len (q : List Int) : (kerL q).length = q.length := List.length_map _
theorem posN_map {f : Int → Int} : ∀ {q : List Int} {v : Int}, (∀ a ∈ q, f a = f v → a = v) → posN (q.map f) (f v) = posN q v
  | [], v, _ => rfl
  | x :: l, v, h => by
    rw [List.map_cons, posN, posN]
    by_cases e : x = v
    · rw [if_pos e, if_pos (by rw [e])]
    · rw [if_neg e, if_neg fun e2 => e (h x (List.mem_cons_self ..) e2), posN_map fun a ha => h a (List.mem_cons_of_mem _ ha)]
theorem kerL_comp {n : Nat} {s q : List Int} (hs : PermL n s) (hq : ∀ v ∈ q, 0 ≤ v ∧ v ≤ (n : Int) - 1) : kerL (comp q s) = kerL q := by
  unfold kerL comp
  rw [List.map_map]
  refine List.map_congr_left fun v hv => ?_
  show (posN (q.map (nmI s)) (nmI s v) : Int) = posN q v
  rw [posN_map fun a ha e => ?_]
  have h1 := hq a ha
  have h2 := hq v hv
  exact nmI_inj hs h1.1 h1.2 h2.1 h2.2 e
/-- No mate stands ahead of the first one. -/
theorem posN_least : ∀ {q : List Int} {v : Int} {y : Nat}, q[y]? = some v → posN q v ≤ y
  | [], v, y, h => by simp at h
  | x :: l, v, 0, h => by
    simp at h
    rw [posN, if_pos h]; exact Nat.le_refl _
  | x :: l, v, y + 1, h => by
    rw [posN]
    split
    · omega
    · rw [List.getElem?_cons_succ] at h
      have := posN_least h
      omega
theorem posN_first {q : List Int} {v : Int} {y : Nat} (h : q[y]? = some v) (hb : ∀ z, z < y → q[z]? ≠ some v) : posN q v = y := by
  have h1 := posN_least h
  have h2 := posN_get (List.mem_of_getElem? h)
  rcases Nat.lt_or_ge (posN q v) y with hlt | hge
  · exact absurd h2 (hb _ hlt)
  · omega
/-- The list of a renamed fact. -/
def rfL (k : Int) (V s : List Int) : List Int :=
  if k = 2 then comp V s
  else if k = 3 ∨ k = 5 then markL s.length fun y => hasI (y : Int) (comp V s)
  else if k = 4 then kerL (comp (inv s.length s) V)
  else if k = 6 then comp (comp (inv s.length s) V) s
  else V
def rfF (f : FactM) (s : List Int) : FactM := (f.1, f.2.1, rfL f.1 f.2.2 s)
/-- Inside the numbers below n. -/
def InL (n : Nat) (V : List Int) : Prop := ∀ v ∈ V, 0 ≤ v ∧ v ≤ (n : Int) - 1
theorem comp_in {n : Nat} {V s : List Int} (hs : PermL n s) (hV : InL n V) : InL n (comp V s) := fun v hv => by
  obtain ⟨y, hy, rfl⟩ := List.mem_map.1 hv
  have := hV y hy
  exact nmI_in hs this.1 this.2
theorem comp_inM {n : Nat} {V f : List Int} (hf : f.length = n) (hf2 : InL n f) (hV : InL n V) : InL n (comp V f) := fun v hv => by
  obtain ⟨y, hy, rfl⟩ := List.mem_map.1 hv
  have h := hV y hy
  have hl : y.toNat < f.length := by omega
  have : nmI f y = f[y.toNat] := by unfold nmI; rw [List.getD_eq_getElem?_getD, List.getElem?_eq_getElem hl]; rfl
  rw [this]
  exact hf2 _ (List.getElem_mem hl)
theorem comp_nodup {n : Nat} {V s : List Int} (hs : PermL n s) (hV : InL n V) (hn : V.Nodup) : (comp V s).Nodup :=
  nodup_map hn fun a ha b hb e => by
    have h1 := hV a ha
    have h2 := hV b hb
    exact nmI_inj hs h1.1 h1.2 h2.1 h2.2 e
/-- What a fact that is true has in its list. -/
theorem true_in {x : AlgebraM} {f : FactM} (h : trueB x f = true) : InL x.1.toNat f.2.2 ∧ (f.1 = 1 → f.2.2 = []) ∧ (f.1 = 3 ∨ f.1 = 5 → risesL f.2.2 = true) ∧ (f.1 = 4 ∨ f.1 = 6 → f.2.2.length = x.1.toNat) ∧ 1 ≤ f.1 ∧ f.1 ≤ 6 := by
  have nil : ∀ {V : List Int}, V = [] → InL x.1.toNat V := fun e v hv => by rw [e] at hv; cases hv
  unfold trueB at h
  by_cases h1 : f.1 = 1
  · rw [if_pos h1, Bool.and_eq_true, decide_eq_true_iff] at h
    have e := List.length_eq_zero_iff.1 h.2
    exact ⟨nil e, fun _ => e, by omega, by omega, by omega, by omega⟩
  rw [if_neg h1] at h
  by_cases h2 : f.1 = 2
  · rw [if_pos h2, Bool.and_eq_true] at h
    have h3 := h.2
    unfold failB at h3
    rw [Bool.and_eq_true] at h3
    exact ⟨allIn_iff.1 h3.1, by omega, by omega, by omega, by omega, by omega⟩
  rw [if_neg h2, Bool.and_eq_true] at h
  replace h := h.2
  by_cases h3 : f.1 = 3
  · rw [if_pos h3] at h
    unfold subB at h
    rw [Bool.and_eq_true, Bool.and_eq_true] at h
    exact ⟨allIn_iff.1 h.1.1, by omega, fun _ => h.1.2, by omega, by omega, by omega⟩
  rw [if_neg h3] at h
  by_cases h4 : f.1 = 4
  · rw [if_pos h4] at h
    unfold congB at h
    rw [Bool.and_eq_true] at h
    have hp : ParP x.1.toNat f.2.2 := tt_iff.1 h.1
    refine ⟨fun v hv => ?_, by omega, by omega, fun _ => hp.1, by omega, by omega⟩
    obtain ⟨i, hi⟩ := List.getElem?_of_mem hv
    have hil := (List.getElem?_eq_some_iff.1 hi).1
    have hlen := hp.1
    obtain ⟨q0, q1, -⟩ := hp.2 i (by omega)
    have e : f.2.2.getD i 0 = v := by rw [List.getD_eq_getElem?_getD, hi]; rfl
    rw [e] at q0
    have e2 : nmAt f.2.2 i = v.toNat := nmAt_get hi
    rw [e2] at q1
    exact ⟨q0, by omega⟩
  rw [if_neg h4] at h
  by_cases h5 : f.1 = 5
  · rw [if_pos h5] at h
    unfold genB at h
    rw [Bool.and_eq_true, Bool.and_eq_true] at h
    exact ⟨allIn_iff.1 h.1.1, by omega, fun _ => h.1.2, by omega, by omega, by omega⟩
  rw [if_neg h5] at h
  by_cases h6 : f.1 = 6
  · rw [if_pos h6] at h
    unfold homB at h
    rw [Bool.and_eq_true, Bool.and_eq_true, decide_eq_true_iff] at h
    exact ⟨allIn_iff.1 h.1.2, by omega, by omega, fun _ => h.1.1, by omega, by omega⟩
  · rw [if_neg h6] at h
    cases h
/-! ## Sorted images -/
theorem sort_mark {n : Nat} {L : List Int} (hn : L.Nodup) (hL : InL n L) : L.mergeSort (fun x y => decide (x ≤ y)) = markL n fun y => hasI (y : Int) L := by
  have hp := List.mergeSort_perm L fun x y => decide (x ≤ y)
  have hs := List.pairwise_mergeSort (le := fun (x y : Int) => decide (x ≤ y)) (fun a b c h1 h2 => by simp at *; omega) (fun a b => by simp; omega) L
  have hnd : (L.mergeSort fun x y => decide (x ≤ y)).Nodup := hp.nodup_iff.2 hn
  refine asc_ext ?_ (markL_asc _ _) fun z => ?_
  · have := hs.and hnd
    exact this.imp fun h => by
      obtain ⟨h1, h2⟩ := h
      simp at h1
      omega
  · rw [hp.mem_iff, markL_mem]
    constructor
    · intro hz
      have := hL z hz
      refine ⟨z.toNat, by omega, ?_, by omega⟩
      rw [show ((z.toNat : Nat) : Int) = z by omega]
      exact hasI_iff.2 hz
    · rintro ⟨y, hy, hm, rfl⟩
      exact hasI_iff.1 hm
theorem mark_snoc {n : Nat} {L : List Int} {y : Nat} {P : List Int} (hy : y < n) (h : PutP (markL n fun z => hasI (z : Int) L) (y : Int) P) : P = markL n fun z => hasI (z : Int) (L ++ [(y : Int)]) := by
  rw [put_mark hy h]
  refine markL_congr fun z hz => ?_
  rw [Bool.eq_iff_iff, Bool.or_eq_true, hasI_iff, hasI_iff, beq_iff_eq, List.mem_append, List.mem_singleton]
  constructor
  · rintro (h | rfl)
    · exact .inl h
    · exact .inr rfl
  · rintro (h | h)
    · exact .inl h
    · exact .inr (by omega)
theorem mark_nil (n : Nat) : (markL n fun z => hasI (z : Int) []) = [] := by
  unfold markL
  rw [List.map_eq_nil_iff, List.filter_eq_nil_iff]
  intro a _ h
  exact absurd (hasI_iff.1 h) (by simp)
/-! ## Filled by the names -/
theorem inv_at {n : Nat} {s : List Int} (h : PermL n s) {x : Nat} (hx : x < n) : nmI (inv n s) (nmI s (x : Int)) = (x : Int) := by
  have hi := nmI_in h (v := (x : Int)) (by omega) (by omega)
  have : nmI (comp s (inv n s)) (x : Int) = nmI (upTo n) (x : Int) := by rw [comp_inv h]
  rwa [comp_nmI h (by omega) (by omega), upTo_nmI (by omega) (by omega)] at this
theorem fill_done {n : Nat} {s V out : List Int} (hs : PermL n s) (hV : V.length = n) (hl : out.length = n) (h : ∀ x, x < n → out[nmAt s x]? = some (nmI s (V.getD x 0))) : out = comp (comp (inv n s) V) s := by
  have hip := inv_perm hs
  refine perm_ext (n := n) hl (by rw [comp_len, comp_len]; exact hip.1) fun y hy => ?_
  obtain ⟨x, hx, e⟩ := hs.surj hy
  have h1 := h x hx
  rw [e] at h1
  have e1 : nmI out (y : Int) = nmI s (V.getD x 0) := by
    have := nmI_get h1
    unfold nmI at this ⊢
    simpa using this
  have e2 : nmI s (x : Int) = (y : Int) := by rw [← nmAt_nmI hs hx, e]
  have e3 : (inv n s)[y]? = some (x : Int) := by
    obtain ⟨hlt, -, e4⟩ := hip.atI (v := (y : Int)) (by omega) (by omega)
    rw [← e2, inv_at hs hx] at e4
    rw [e2] at e4
    simpa using e4
  have e4 : (comp (comp (inv n s) V) s)[y]? = some (nmI s (nmI V (x : Int))) := by
    unfold comp
    rw [List.getElem?_map, List.getElem?_map, e3]
    rfl
  rw [e1]
  have := nmI_get e4
  have e5 : nmI V (x : Int) = V.getD x 0 := by unfold nmI; simp
  rw [e5] at this
  unfold nmI at this ⊢
  simpa using this.symm
theorem set_fill {n : Nat} {s V out : List Int} (hs : PermL n s) (hl : out.length = n) {k : Nat} (hk : k < n) (h : ∀ x, x < k → out[nmAt s x]? = some (nmI s (V.getD x 0))) : ∀ x, x < k + 1 → (out.set (nmAt s k) (nmI s (V.getD k 0)))[nmAt s x]? = some (nmI s (V.getD x 0)) := fun x hx => by
  rw [List.getElem?_set]
  by_cases e : x = k
  · subst e
    rw [if_pos rfl, if_pos (by have := nmAt_lt hs hk; omega)]
  · rw [if_neg fun e2 => e ?_]
    · exact h x (by omega)
    · have h1 := nmAt_nmI hs (x := x) (by omega)
      have h2 := nmAt_nmI hs hk
      have := nmI_inj hs (a := (x : Int)) (b := (k : Int)) (by omega) (by omega) (by omega) (by omega) (by rw [← h1, ← h2, e2])
      omega
/-! ## Lists told by their numbers -/
theorem inv_in {n : Nat} {s : List Int} (hs : PermL n s) : InL n (inv n s) := (inv_perm hs).2.1
theorem kerL_in {n : Nat} {q : List Int} (hq : q.length = n) : InL n (kerL q) := fun v hv => by
  obtain ⟨y, hy, rfl⟩ := List.mem_map.1 hv
  have := (List.getElem?_eq_some_iff.1 (posN_get hy)).1
  exact ⟨by omega, by omega⟩
theorem rfL_in {n : Nat} {k : Int} {V s : List Int} (hs : PermL n s) (hV : InL n V) (h46 : k = 4 ∨ k = 6 → V.length = n) : InL n (rfL k V s) := by
  have hl : s.length = n := hs.1
  unfold rfL
  rw [hl]
  split
  · exact comp_in hs hV
  · split
    · exact fun v hv => markL_in v hv
    · split
      · rename_i h4
        exact kerL_in (by rw [comp_len]; exact (inv_perm hs).1)
      · split
        · rename_i h6
          exact comp_in hs (comp_inM (h46 (.inr h6)) hV (inv_in hs))
        · exact hV
end Go.Proofs.YtidjocikbmkjbaaGreat
