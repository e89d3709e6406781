import Derived.Test.YtbkgbckbbnflpaaQ1
import Derived.IntWalk
set_option linter.unusedVariables false
set_option linter.unusedSimpArgs false
set_option maxRecDepth 100000
set_option maxHeartbeats 32000000
namespace Go.Proofs.Ytbkgbckbbnflpaa
open Go.RowKit
def comp (s t : List Int) : List Int := s.map (nmI t)
theorem PermL.atI {n : Nat} {s : List Int} (h : PermL n s) {v : Int} (h0 : 0 ≤ v) (h1 : v ≤ (n : Int) - 1) : ∃ hl : v.toNat < s.length, nmI s v = s[v.toNat] ∧ s[v.toNat]? = some (nmI s v) := by
  have hl : v.toNat < s.length := by rw [h.1]; omega
  have e : s[v.toNat]? = some s[v.toNat] := List.getElem?_eq_getElem hl
  have e2 : nmI s v = s[v.toNat] := by unfold nmI; rw [List.getD_eq_getElem?_getD, e]; rfl
  exact ⟨hl, e2, by rw [e2]; exact e⟩
theorem nmI_in {n : Nat} {s : List Int} (h : PermL n s) {v : Int} (h0 : 0 ≤ v) (h1 : v ≤ (n : Int) - 1) : 0 ≤ nmI s v ∧ nmI s v ≤ (n : Int) - 1 := by
  obtain ⟨hl, e, -⟩ := h.atI h0 h1
  rw [e]
  exact h.2.1 _ (List.getElem_mem hl)
theorem nodup_at {α : Type} : ∀ {l : List α}, l.Nodup → ∀ {i j : Nat} {v : α}, l[i]? = some v → l[j]? = some v → i = j
  | [], _, i, j, v, hi, _ => by simp at hi
  | x :: l, h, 0, 0, v, _, _ => rfl
  | x :: l, h, 0, j + 1, v, hi, hj => by
    rw [List.nodup_cons] at h
    simp at hi hj
    subst hi
    exact absurd (List.mem_of_getElem? hj) h.1
  | x :: l, h, i + 1, 0, v, hi, hj => by
    rw [List.nodup_cons] at h
    simp at hi hj
    subst hj
    exact absurd (List.mem_of_getElem? hi) h.1
  | x :: l, h, i + 1, j + 1, v, hi, hj => by
    rw [List.nodup_cons] at h
    simp at hi hj
    rw [nodup_at h.2 hi hj]
theorem nmI_inj {n : Nat} {s : List Int} (h : PermL n s) {a b : Int} (a0 : 0 ≤ a) (a1 : a ≤ (n : Int) - 1) (b0 : 0 ≤ b) (b1 : b ≤ (n : Int) - 1) (e : nmI s a = nmI s b) : a = b := by
  obtain ⟨-, -, ea⟩ := h.atI a0 a1
  obtain ⟨-, -, eb⟩ := h.atI b0 b1
  rw [e] at ea
  have := nodup_at h.2.2 ea eb
  omega
theorem nodup_map {α β : Type} {f : α → β} {l : List α} (h : l.Nodup) (hf : ∀ a ∈ l, ∀ b ∈ l, f a = f b → a = b) : (l.map f).Nodup := by
  induction l with
  | nil => simp
  | cons x l ih =>
    rw [List.nodup_cons] at h
    rw [List.map_cons, List.nodup_cons]
    refine ⟨fun hm => ?_, ih h.2 fun a ha b hb => hf a (by simp [ha]) b (by simp [hb])⟩
    obtain ⟨y, hy, e⟩ := List.mem_map.1 hm
    have := hf y (by simp [hy]) x (by simp) e
    subst this
    exact h.1 hy
theorem comp_perm {n : Nat} {s t : List Int} (hs : PermL n s) (ht : PermL n t) : PermL n (comp s t) := by
  refine ⟨by unfold comp; rw [List.length_map]; exact hs.1, fun v hv => ?_, nodup_map hs.2.2 fun a ha b hb e => ?_⟩
  · obtain ⟨y, hy, rfl⟩ := List.mem_map.1 hv
    have := hs.2.1 y hy
    exact nmI_in ht this.1 this.2
  · have h1 := hs.2.1 a ha
    have h2 := hs.2.1 b hb
    exact nmI_inj ht h1.1 h1.2 h2.1 h2.2 e
theorem comp_nmI {n : Nat} {s t : List Int} (hs : PermL n s) {v : Int} (h0 : 0 ≤ v) (h1 : v ≤ (n : Int) - 1) : nmI (comp s t) v = nmI t (nmI s v) := by
  obtain ⟨hl, e, e2⟩ := hs.atI h0 h1
  unfold comp
  have : (s.map (nmI t))[v.toNat]? = some (nmI t (nmI s v)) := by rw [List.getElem?_map, e2]; rfl
  exact nmI_get this
theorem nmAt_nmI {n : Nat} {s : List Int} (hs : PermL n s) {x : Nat} (hx : x < n) : (nmAt s x : Int) = nmI s (x : Int) := by
  obtain ⟨v, h1, h2, h3⟩ := hs.at hx
  rw [h3]
  have := nmI_get h1
  unfold nmI at this ⊢
  simp only [Int.toNat_natCast]
  exact this.symm
theorem nmAt_lt {n : Nat} {s : List Int} (hs : PermL n s) {x : Nat} (hx : x < n) : nmAt s x < n := by
  obtain ⟨v, h1, h2, h3⟩ := hs.at hx
  omega
theorem comp_nmAt {n : Nat} {s t : List Int} (hs : PermL n s) (ht : PermL n t) {x : Nat} (hx : x < n) : nmAt (comp s t) x = nmAt t (nmAt s x) := by
  have h1 := nmAt_nmI (comp_perm hs ht) hx
  have h2 := nmAt_nmI ht (nmAt_lt hs hx)
  have h3 := nmAt_nmI hs hx
  rw [comp_nmI hs (by omega) (by omega), ← h3, ← h2] at h1
  omega
theorem perm_ext {n : Nat} {s t : List Int} (hs : s.length = n) (ht : t.length = n) (h : ∀ x, x < n → nmI s (x : Int) = nmI t (x : Int)) : s = t := by
  apply List.ext_getElem?
  intro i
  by_cases hi : i < n
  · have := h i hi
    unfold nmI at this
    simp only [Int.toNat_natCast, List.getD_eq_getElem?_getD] at this
    rw [List.getElem?_eq_getElem (by omega), List.getElem?_eq_getElem (by omega)] at this ⊢
    simpa using this
  · rw [List.getElem?_eq_none (by omega), List.getElem?_eq_none (by omega)]
theorem upTo_nmI {n : Nat} {v : Int} (h0 : 0 ≤ v) (h1 : v ≤ (n : Int) - 1) : nmI (upTo n) v = v := by
  have := nmI_get (upTo_get (n := n) (k := v.toNat) (by omega))
  rw [Int.toNat_of_nonneg h0] at this
  exact this
theorem comp_len (s t : List Int) : (comp s t).length = s.length := by simp [comp]
theorem comp_up {n : Nat} {s : List Int} (hs : PermL n s) : comp s (upTo n) = s := by
  refine perm_ext (n := n) (by rw [comp_len]; exact hs.1) hs.1 fun x hx => ?_
  have := nmI_in hs (v := (x : Int)) (by omega) (by omega)
  rw [comp_nmI hs (by omega) (by omega), upTo_nmI this.1 this.2]
theorem up_comp {n : Nat} {s : List Int} (hs : PermL n s) : comp (upTo n) s = s := by
  refine perm_ext (n := n) (by rw [comp_len]; exact upTo_len n) hs.1 fun x hx => ?_
  rw [comp_nmI (upTo_perm n) (by omega) (by omega), upTo_nmI (by omega) (by omega)]
theorem comp_assoc {n : Nat} {a b c : List Int} (ha : PermL n a) (hb : PermL n b) : comp (comp a b) c = comp a (comp b c) := by
  refine perm_ext (n := n) (by rw [comp_len, comp_len]; exact ha.1) (by rw [comp_len]; exact ha.1) fun x hx => ?_
  have := nmI_in ha (v := (x : Int)) (by omega) (by omega)
  rw [comp_nmI (comp_perm ha hb) (by omega) (by omega), comp_nmI ha (by omega) (by omega), comp_nmI ha (by omega) (by omega), comp_nmI hb this.1 this.2]
/-- The place of a number in a list. -/
def posN : List Int → Int → Nat
  | [], _ => 0
  | x :: l, v => if x = v then 0 else posN l v + 1
theorem posN_get : ∀ {l : List Int} {v : Int}, v ∈ l → l[posN l v]? = some v
  | [], v, h => by simp at h
  | x :: l, v, h => by
    unfold posN
    by_cases e : x = v
    · rw [if_pos e, e]; rfl
    · rw [if_neg e, List.getElem?_cons_succ]
      refine posN_get ?_
      rcases List.mem_cons.1 h with h | h
      · exact absurd h.symm e
      · exact h
def inv (n : Nat) (s : List Int) : List Int := (List.range n).map fun (y : Nat) => (posN s (y : Int) : Int)
theorem PermL.mem {n : Nat} {s : List Int} (h : PermL n s) {y : Nat} (hy : y < n) : (y : Int) ∈ s := by
  obtain ⟨x, hx, e⟩ := h.surj hy
  obtain ⟨v, h1, h2, h3⟩ := h.at hx
  rw [← e, h3]
  exact List.mem_of_getElem? h1
theorem inv_nmI {n : Nat} {s : List Int} {y : Nat} (hy : y < n) : nmI (inv n s) (y : Int) = (posN s (y : Int) : Int) := by
  have : (inv n s)[y]? = some (posN s (y : Int) : Int) := by unfold inv; rw [List.getElem?_map, List.getElem?_range hy]; rfl
  have := nmI_get this
  unfold nmI at this ⊢
  simpa using this
theorem inv_perm {n : Nat} {s : List Int} (h : PermL n s) : PermL n (inv n s) := by
  refine ⟨by simp [inv], fun v hv => ?_, nodup_map List.nodup_range fun a ha b hb e => ?_⟩
  · obtain ⟨y, hy, rfl⟩ := List.mem_map.1 hv
    have := (List.getElem?_eq_some_iff.1 (posN_get (h.mem (List.mem_range.1 hy)))).1
    have := h.1
    omega
  · have h1 := posN_get (h.mem (List.mem_range.1 ha))
    have h2 := posN_get (h.mem (List.mem_range.1 hb))
    have e' : posN s (a : Int) = posN s (b : Int) := by omega
    rw [e', h2] at h1
    injection h1 with h1
    omega
theorem comp_inv {n : Nat} {s : List Int} (h : PermL n s) : comp s (inv n s) = upTo n := by
  refine perm_ext (n := n) (by rw [comp_len]; exact h.1) (upTo_len n) fun x hx => ?_
  rw [comp_nmI h (by omega) (by omega), upTo_nmI (by omega) (by omega)]
  obtain ⟨v, h1, h2, h3⟩ := h.at hx
  have e : nmI s (x : Int) = v := by have := nmI_get h1; unfold nmI at this ⊢; simpa using this
  rw [e, inv_nmI h2]
  have := nodup_at h.2.2 (posN_get (h.mem h2)) h1
  omega
theorem inv_comp {n : Nat} {s : List Int} (h : PermL n s) : comp (inv n s) s = upTo n := by
  refine perm_ext (n := n) (by rw [comp_len]; exact (inv_perm h).1) (upTo_len n) fun x hx => ?_
  rw [comp_nmI (inv_perm h) (by omega) (by omega), upTo_nmI (by omega) (by omega), inv_nmI hx]
  have := posN_get (h.mem hx)
  have := nmI_get this
  unfold nmI at this ⊢
  simpa using this
theorem toI_comp {n k : Nat} {s t : List Int} (hn : 0 < n) (hs : PermL n s) (ht : PermL n t) (i : Nat) : toI n k t (toI n k s i) = toI n k (comp s t) i := by
  unfold toI
  have h1 : ∀ d ∈ (digs n k i).map (nmAt s), d < n := fun d hd => by
    obtain ⟨y, hy, rfl⟩ := List.mem_map.1 hd
    exact nmAt_lt hs (digs_lt hn hy)
  rw [digs_idx hn k _ (by rw [List.length_map, digs_len]) h1, List.map_map]
  congr 1
  apply List.map_congr_left
  intro d hd
  rw [comp_nmAt hs ht (digs_lt hn hd)]
  rfl
theorem toI_inj {n k : Nat} {s : List Int} (hn : 0 < n) (hs : PermL n s) {i j : Nat} (hi : i < n ^ k) (hj : j < n ^ k) (e : toI n k s i = toI n k s j) : i = j := by
  have h1 := toI_comp (k := k) hn hs (inv_perm hs) i
  have h2 := toI_comp (k := k) hn hs (inv_perm hs) j
  rw [comp_inv hs, toI_up hn hi] at h1
  rw [comp_inv hs, toI_up hn hj] at h2
  rw [← h1, ← h2, e]
theorem renTo_get {n k : Nat} {s t T : List Int} (hn : 0 < n) (hs : PermL n s) (hT : T.length = n ^ k) : ∀ m, m ≤ n ^ k → ∀ i, i < m → (renTo n k s t T m)[toI n k s i]? = some (nmI s (t.getD i 0))
  | 0, _, i, hi => absurd hi (by omega)
  | m + 1, hm, i, hi => by
    rw [renTo, List.getElem?_set]
    by_cases h : toI n k s m = toI n k s i
    · obtain rfl : m = i := toI_inj hn hs (by omega) (by omega) h
      have := toI_lt (k := k) hn hs m
      rw [if_pos rfl, if_pos (by rw [renTo_len, hT]; exact this)]
    · rw [if_neg h]
      refine renTo_get hn hs hT m (by omega) i ?_
      rcases Nat.lt_or_ge i m with h2 | h2
      · exact h2
      · obtain rfl : i = m := by omega
        exact absurd rfl h
theorem renOp_get {n : Nat} {s : List Int} {x : OpM} (hn : 0 < n) (hs : PermL n s) (h : OpP n x) {i : Nat} (hi : i < n ^ x.1.toNat) : (renOp n s x).2[toI n x.1.toNat s i]? = some (nmI s (x.2.getD i 0)) :=
  renTo_get hn hs h.2.2.1 _ (Nat.le_of_eq h.2.2.1) i (by rw [h.2.2.1]; exact hi)
theorem renOp_comp {n : Nat} {s t : List Int} {x : OpM} (hn : 0 < n) (hs : PermL n s) (ht : PermL n t) (h : OpP n x) : renOp n t (renOp n s x) = renOp n (comp s t) x := by
  have h1 := renOp_small hs h
  have h2 := renOp_small ht h1
  have h3 := renOp_small (comp_perm hs ht) h
  refine Prod.ext rfl ?_
  apply List.ext_getElem?
  intro j
  by_cases hj : j < n ^ x.1.toNat
  · obtain ⟨i, hi, rfl⟩ := toI_surj hn (comp_perm hs ht) hj
    rw [renOp_get hn (comp_perm hs ht) h hi, ← toI_comp hn hs ht i]
    have e := renOp_get (x := renOp n s x) hn ht h1 (i := toI n x.1.toNat s i) (toI_lt hn hs i)
    have e1 : (renOp n s x).1 = x.1 := rfl
    rw [e1] at e
    rw [e, List.getD_eq_getElem?_getD, renOp_get hn hs h hi]
    have hx : 0 ≤ x.2.getD i 0 ∧ x.2.getD i 0 ≤ (n : Int) - 1 := by
      rw [List.getD_eq_getElem?_getD, List.getElem?_eq_getElem (by rw [h.2.2.1]; exact hi)]
      exact h.2.2.2 _ (List.getElem_mem _)
    rw [comp_nmI hs hx.1 hx.2]
    rfl
  · have e2 : (renOp n t (renOp n s x)).2.length = n ^ x.1.toNat := h2.2.2.1
    have e3 : (renOp n (comp s t) x).2.length = n ^ x.1.toNat := h3.2.2.1
    rw [List.getElem?_eq_none (by omega), List.getElem?_eq_none (by omega)]
theorem ren_comp {x : AlgebraM} {s t : List Int} (h : SmallP x) (hs : PermL x.1.toNat s) (ht : PermL x.1.toNat t) : ren (ren x s) t = ren x (comp s t) := by
  obtain ⟨a, ops⟩ := x
  have hn : 0 < a.toNat := by have h0 : 1 ≤ a := h.1; omega
  show (a, (ops.map (renOp a.toNat s)).map (renOp a.toNat t)) = (a, ops.map (renOp a.toNat (comp s t)))
  congr 1
  rw [List.map_map]
  apply List.map_congr_left
  intro o ho
  exact renOp_comp hn hs ht (h.2.2.2 o ho)
theorem ren_inv {x : AlgebraM} {s : List Int} (h : SmallP x) (hs : PermL x.1.toNat s) : ren (ren x s) (inv x.1.toNat s) = x := by
  rw [ren_comp h hs (inv_perm hs), comp_inv hs, ren_up h]
theorem ords_all {n : Nat} : ∀ (r : Nat) {s q : List Int}, q.length = r → (s ++ q).Nodup → (∀ v ∈ q, 0 ≤ v ∧ v ≤ (n : Int) - 1) → s ++ q ∈ ords n r s
  | 0, s, q, hq, _, _ => by
    obtain rfl : q = [] := List.eq_nil_of_length_eq_zero hq
    simp [ords]
  | r + 1, s, q, hq, hn, hb => by
    rcases q with _ | ⟨v, q⟩
    · simp at hq
    · have hv := hb v (by simp)
      rw [ords, List.mem_flatMap]
      refine ⟨v.toNat, List.mem_range.2 (by omega), ?_⟩
      rw [Int.toNat_of_nonneg hv.1]
      have hno : hasI v s = false := by
        rcases e : hasI v s with _ | _
        · rfl
        · rw [List.nodup_append] at hn
          exact absurd rfl (hn.2.2 v (hasI_m.1 e) v (by simp))
      rw [hno, if_neg (by simp)]
      have := ords_all (n := n) r (s := s ++ [v]) (q := q) (by simpa using hq) (by simpa using hn) fun u hu => hb u (by simp [hu])
      simpa using this
theorem ords_mem {n : Nat} {p : List Int} : p ∈ ords n n [] ↔ PermL n p :=
  ⟨fun h => ords_perm n (by simp) (fun v hv => by cases hv) List.nodup_nil p h, fun h => ords_all n (s := []) h.1 (by simpa using h.2.2) h.2.1⟩
theorem ords_pre {n : Nat} : ∀ (r : Nat) {s p : List Int}, p ∈ ords n r s → ∃ q, p = s ++ q ∧ q.length = r
  | 0, s, p, h => ⟨[], by simpa [ords] using h, rfl⟩
  | r + 1, s, p, h => by
    rw [ords, List.mem_flatMap] at h
    obtain ⟨x, hx, h⟩ := h
    split at h
    · cases h
    · obtain ⟨q, e, hq⟩ := ords_pre r h
      exact ⟨(x : Int) :: q, by simpa using e, by simp [hq]⟩
theorem ords_nodup {n : Nat} : ∀ (r : Nat) (s : List Int), (ords n r s).Nodup
  | 0, s => by simp [ords]
  | r + 1, s => by
    rw [ords, List.nodup_iff_pairwise_ne, List.pairwise_flatMap]
    refine ⟨fun x hx => ?_, ?_⟩
    · split
      · simp
      · exact List.nodup_iff_pairwise_ne.1 (ords_nodup r _)
    · refine (List.nodup_iff_pairwise_ne.1 List.nodup_range).imp fun {a b} hab => ?_
      intro p hp q hq e
      subst e
      split at hp
      · cases hp
      · split at hq
        · cases hq
        · obtain ⟨u, e1, -⟩ := ords_pre r hp
          obtain ⟨v, e2, -⟩ := ords_pre r hq
          rw [e1] at e2
          simp at e2
          omega
def facN : Nat → Nat
  | 0 => 1
  | n + 1 => facN n * (n + 1)
theorem ords_fac {n : Nat} (hn : n ≤ 5) : (ords n n []).length = facN n := by
  have h : ∀ k : Fin 6, (ords k.val k.val []).length = facN k.val := by decide +kernel
  exact h ⟨n, by omega⟩
theorem less_irr : ∀ l : List Int, lessL l l = false
  | [] => rfl
  | x :: l => by rw [lessL]; simp [less_irr l]
theorem less_trans : ∀ {a b c : List Int}, lessL a b = true → lessL b c = true → lessL a c = true
  | [], _, _, h, _ => by simp [lessL] at h
  | _ :: _, [], _, h, _ => by simp [lessL] at h
  | _ :: _, _ :: _, [], _, h => by simp [lessL] at h
  | x :: a, y :: b, z :: c, h1, h2 => by
    rw [lessL] at h1 h2 ⊢
    by_cases e1 : x = y
    · subst e1
      by_cases e2 : x = z
      · subst e2
        simp at h1 h2 ⊢
        exact less_trans h1 h2
      · simp [e2] at h1 h2 ⊢
        exact h2
    · simp [e1] at h1
      by_cases e2 : y = z
      · subst e2
        simp [e1]
        exact h1
      · simp [e2] at h2
        have e3 : ¬ x = z := by omega
        simp [e3]
        omega
theorem less_total : ∀ {a b : List Int}, a.length = b.length → lessL a b = false → lessL b a = false → a = b
  | [], [], _, _, _ => rfl
  | [], _ :: _, h, _, _ => by simp at h
  | _ :: _, [], h, _, _ => by simp at h
  | x :: a, y :: b, h, h1, h2 => by
    rw [lessL] at h1 h2
    by_cases e : x = y
    · subst e
      simp at h1 h2
      rw [less_total (by simpa using h) h1 h2]
    · have e' : ¬ y = x := fun h => e h.symm
      simp [e] at h1
      simp [e'] at h2
      omega
theorem less_le {a b c : List Int} (hl : a.length = b.length) (h1 : lessL a b = false) (h2 : lessL a c = true) : lessL b c = true := by
  rcases e : lessL b a with _ | _
  · rw [← less_total hl h1 e]
    exact h2
  · exact less_trans e h2
theorem code_ren_same {x y : AlgebraM} {s t : List Int} (hx : SmallP x) (hs : PermL x.1.toNat s) (ht : PermL x.1.toNat t) (hy : y = x) : (codeL (ren x s).2).length = (codeL (ren y t).2).length := by
  subst hy
  exact code_len_eq (n := y.1.toNat) (ren_small hs hx).2.2.2 (ren_small ht hx).2.2.2 (by rw [ren_type, ren_type])
theorem best_min {x : AlgebraM} (hx : SmallP x) {l : List (List Int)} (hl : ∀ p ∈ l, PermL x.1.toNat p) {b : List Int} (h : bestOf x l = some b) : ∀ p ∈ l, lessL (codeL (ren x p).2) (codeL (ren x b).2) = false := by
  have key : ∀ (l : List (List Int)) (a b : List Int), PermL x.1.toNat a → (∀ p ∈ l, PermL x.1.toNat p) → l.foldl (better x) (some a) = some b → PermL x.1.toNat b ∧ lessL (codeL (ren x a).2) (codeL (ren x b).2) = false ∧ ∀ p ∈ l, lessL (codeL (ren x p).2) (codeL (ren x b).2) = false := by
    intro l
    induction l with
    | nil =>
      intro a b ha _ h
      injection h with h
      subst h
      exact ⟨ha, less_irr _, fun p hp => by cases hp⟩
    | cons s l ih =>
      intro a b ha hl h
      rw [List.foldl_cons] at h
      have hs := hl s (by simp)
      have hl' : ∀ p ∈ l, PermL x.1.toNat p := fun p hp => hl p (by simp [hp])
      rcases e : lessL (codeL (ren x s).2) (codeL (ren x a).2) with _ | _
      · have e' : better x (some a) s = some a := by unfold better; simp [e]
        rw [e'] at h
        obtain ⟨hb, h1, h2⟩ := ih a b ha hl' h
        refine ⟨hb, h1, fun p hp => ?_⟩
        rcases List.mem_cons.1 hp with rfl | hp
        · rcases e2 : lessL (codeL (ren x p).2) (codeL (ren x b).2) with _ | _
          · rfl
          · have := less_le (code_ren_same hx hs ha rfl) e e2
            rw [h1] at this
            cases this
        · exact h2 p hp
      · have e' : better x (some a) s = some s := by unfold better; simp [e]
        rw [e'] at h
        obtain ⟨hb, h1, h2⟩ := ih s b hs hl' h
        refine ⟨hb, ?_, fun p hp => ?_⟩
        · rcases e2 : lessL (codeL (ren x a).2) (codeL (ren x b).2) with _ | _
          · rfl
          · have := less_trans e e2
            rw [h1] at this
            cases this
        · rcases List.mem_cons.1 hp with rfl | hp
          · exact h1
          · exact h2 p hp
  intro p hp
  rcases l with _ | ⟨s, l⟩
  · cases hp
  · obtain ⟨-, h1, h2⟩ := key l s b (hl s (by simp)) (fun q hq => hl q (by simp [hq])) h
    rcases List.mem_cons.1 hp with rfl | hp
    · exact h1
    · exact h2 p hp
theorem canA_min {x : AlgebraM} (hx : SmallP x) {p : List Int} (hp : PermL x.1.toNat p) : lessL (codeL (ren x p).2) (codeL (canA x).2) = false :=
  best_min hx all_perm (canN_ok (x := x)).1 p (ords_mem.2 hp)
theorem ren_eq {x : AlgebraM} (hx : SmallP x) {s t : List Int} (hs : PermL x.1.toNat s) (ht : PermL x.1.toNat t) (h : codeL (ren x s).2 = codeL (ren x t).2) : ren x s = ren x t :=
  Prod.ext rfl (code_eq (n := x.1.toNat) (ren_small hs hx).2.2.2 (ren_small ht hx).2.2.2 (by rw [ren_type, ren_type]) h)
theorem canA_ren {x : AlgebraM} (hx : SmallP x) {s : List Int} (hs : PermL x.1.toNat s) : canA (ren x s) = canA x := by
  have hy := ren_small hs hx
  have hc : PermL x.1.toNat (canN x) := (canN_ok (x := x)).2
  have hd : PermL x.1.toNat (canN (ren x s)) := (canN_ok (x := ren x s)).2
  have e1 : canA (ren x s) = ren x (comp s (canN (ren x s))) := ren_comp hx hs hd
  have e2 : canA x = ren (ren x s) (comp (inv x.1.toNat s) (canN x)) := by
    rw [ren_comp hx hs (comp_perm (inv_perm hs) hc), ← comp_assoc hs (inv_perm hs), comp_inv hs, up_comp hc]
    rfl
  have h1 := canA_min hx (comp_perm hs hd)
  rw [← e1] at h1
  have h2 := canA_min (x := ren x s) hy (p := comp (inv x.1.toNat s) (canN x)) (comp_perm (inv_perm hs) hc)
  rw [← e2] at h2
  rw [e1]
  refine ren_eq hx (comp_perm hs hd) hc ?_
  rw [← e1]
  refine less_total ?_ h1 h2
  rw [e1]
  exact code_ren_same hx (comp_perm hs hd) hc rfl
theorem canA_idem {x : AlgebraM} (hx : SmallP x) : canA (canA x) = canA x := canA_ren hx (canN_ok (x := x)).2
theorem canA_iff {x y : AlgebraM} (hx : SmallP x) (hy : SmallP y) : canA x = canA y ↔ ∃ s, PermL x.1.toNat s ∧ ren x s = y := by
  constructor
  · intro h
    have e : x.1 = y.1 := by show (canA x).1 = (canA y).1; rw [h]
    have hcx := (canN_ok (x := x)).2
    have hcy := (canN_ok (x := y)).2
    refine ⟨comp (canN x) (inv x.1.toNat (canN y)), comp_perm hcx (inv_perm (by rw [e]; exact hcy)), ?_⟩
    rw [← ren_comp hx hcx (inv_perm (by rw [e]; exact hcy))]
    show ren (canA x) _ = y
    rw [h, e]
    exact ren_inv hy hcy
  · rintro ⟨s, hs, rfl⟩
    exact (canA_ren hx hs).symm
theorem nodup_sub' {α : Type} : ∀ {l m : List α}, l.Nodup → (∀ x ∈ l, x ∈ m) → l.length ≤ m.length
  | [], _, _, _ => Nat.zero_le _
  | a :: l, m, hn, hs => by
    rw [List.nodup_cons] at hn
    obtain ⟨u, v, rfl⟩ := List.append_of_mem (hs a (by simp))
    have ih := nodup_sub' (m := u ++ v) hn.2 fun x hx => by
      have := hs x (by simp [hx])
      have hne : x ≠ a := fun e => hn.1 (by rw [← e]; exact hx)
      simpa [hne] using this
    simp at ih ⊢
    omega
theorem length_by {α β : Type} (f : α → β) (m : Nat) (P : α → β → Bool) (hP : ∀ a b, P a b = true ↔ f a = b) : ∀ {cs : List β} {L : List α}, cs.Nodup → (∀ p ∈ L, f p ∈ cs) → (∀ c ∈ cs, (L.filter fun p => P p c).length = m) → L.length = cs.length * m
  | [], [], _, _, _ => by simp
  | [], p :: L, _, h, _ => by have := h p (by simp); cases this
  | c :: cs, L, hn, h, hm => by
    rw [List.nodup_cons] at hn
    have h1 := hm c (by simp)
    have h2 : (L.filter fun p => !P p c).length = cs.length * m := by
      refine length_by f m P hP hn.2 (fun p hp => ?_) fun d hd => ?_
      · rw [List.mem_filter] at hp
        rcases List.mem_cons.1 (h p hp.1) with e | e
        · have := (hP p c).2 e
          rw [this] at hp
          simp at hp
        · exact e
      · rw [List.filter_filter, ← hm d (by simp [hd])]
        congr 1
        apply List.filter_congr
        intro p _
        rcases e : P p d with _ | _
        · rfl
        · have h3 := (hP p d).1 e
          have h4 : P p c = false := by
            rcases e2 : P p c with _ | _
            · rfl
            · have := (hP p c).1 e2
              rw [← this, h3] at hn
              exact absurd hd hn.1
          rw [h4]
          rfl
    have h3 : L.length = (L.filter fun p => P p c).length + (L.filter fun p => !P p c).length := by
      clear h h1 h2 hm
      induction L with
      | nil => rfl
      | cons p L ih =>
        rw [List.filter_cons, List.filter_cons]
        rcases P p c with _ | _ <;> simp <;> omega
    rw [h3, h1, h2, List.length_cons, Nat.succ_mul]
    omega
theorem orbit_len {x : AlgebraM} (hx : SmallP x) {cs : List (List Int)} (hn : cs.Nodup) (h : ∀ c, c ∈ cs ↔ ∃ p ∈ ords x.1.toNat x.1.toNat [], codeL (ren x p).2 = c) :
    (ords x.1.toNat x.1.toNat []).length = cs.length * ((ords x.1.toNat x.1.toNat []).filter fun p => eqC (ren x p) x).length := by
  refine length_by (fun p => codeL (ren x p).2) _ (fun p c => eqC (codeL (ren x p).2) c) (fun a b => eqC_iff) hn (fun p hp => (h _).2 ⟨p, hp, rfl⟩) fun c hc => ?_
  obtain ⟨p, hp, rfl⟩ := (h c).1 hc
  have hp' := ords_mem.1 hp
  have hL := ords_nodup (n := x.1.toNat) x.1.toNat []
  apply Nat.le_antisymm
  · rw [← List.length_map (f := fun q => comp q (inv x.1.toNat p))]
    refine nodup_sub' (nodup_map (List.Nodup.sublist List.filter_sublist hL) fun a ha b hb e => ?_) fun q hq => ?_
    · have ha' := ords_mem.1 (List.mem_filter.1 ha).1
      have hb' := ords_mem.1 (List.mem_filter.1 hb).1
      have : comp (comp a (inv x.1.toNat p)) p = comp (comp b (inv x.1.toNat p)) p := congrArg (fun z => comp z p) e
      rwa [comp_assoc ha' (inv_perm hp'), comp_assoc hb' (inv_perm hp'), inv_comp hp', comp_up ha', comp_up hb'] at this
    · obtain ⟨q', hq', rfl⟩ := List.mem_map.1 hq
      rw [List.mem_filter] at hq' ⊢
      have h1 := ords_mem.1 hq'.1
      refine ⟨ords_mem.2 (comp_perm h1 (inv_perm hp')), eqC_iff.2 ?_⟩
      have h2 := ren_eq hx h1 hp' (eqC_iff.1 hq'.2)
      rw [← ren_comp hx h1 (inv_perm hp'), h2, ren_inv hx hp']
  · rw [← List.length_map (f := fun q => comp q p)]
    refine nodup_sub' (nodup_map (List.Nodup.sublist List.filter_sublist hL) fun a ha b hb e => ?_) fun q hq => ?_
    · have ha' := ords_mem.1 (List.mem_filter.1 ha).1
      have hb' := ords_mem.1 (List.mem_filter.1 hb).1
      have : comp (comp a p) (inv x.1.toNat p) = comp (comp b p) (inv x.1.toNat p) := congrArg (fun z => comp z (inv x.1.toNat p)) e
      rwa [comp_assoc ha' hp', comp_assoc hb' hp', comp_inv hp', comp_up ha', comp_up hb'] at this
    · obtain ⟨q', hq', rfl⟩ := List.mem_map.1 hq
      rw [List.mem_filter] at hq' ⊢
      have h1 := ords_mem.1 hq'.1
      refine ⟨ords_mem.2 (comp_perm h1 hp'), eqC_iff.2 ?_⟩
      rw [← ren_comp hx h1 hp', eqC_iff.1 hq'.2]
/-- The list of what f gives, each once, in the order of the first ones. -/
noncomputable def once {α β : Type} (f : α → β) (l : List α) : List β := l.foldl (fun acc p => if (acc.any fun c => eqC c (f p)) then acc else acc ++ [f p]) []
theorem once_snoc {α β : Type} (f : α → β) (l : List α) (p : α) : once f (l ++ [p]) = if ((once f l).any fun c => eqC c (f p)) then once f l else once f l ++ [f p] := by
  unfold once
  rw [List.foldl_append]
  rfl
theorem any_eqC {β : Type} {l : List β} {b : β} : (l.any fun c => eqC c b) = true ↔ b ∈ l := by
  rw [List.any_eq_true]
  exact ⟨fun ⟨c, h, e⟩ => by rw [← eqC_iff.1 e]; exact h, fun h => ⟨b, h, eqC_self b⟩⟩
theorem once_iff {α β : Type} (f : α → β) (l : List α) : (once f l).Nodup ∧ ∀ c, c ∈ once f l ↔ ∃ p ∈ l, f p = c := by
  have key : ∀ k, k ≤ l.length → (once f (l.take k)).Nodup ∧ ∀ c, c ∈ once f (l.take k) ↔ ∃ p ∈ l.take k, f p = c := by
    intro k
    induction k with
    | zero => intro _; simp [once]
    | succ k ih =>
      intro hk
      obtain ⟨h1, h2⟩ := ih (by omega)
      rw [List.take_succ_eq_append_getElem (by omega), once_snoc]
      rcases e : ((once f (l.take k)).any fun c => eqC c (f l[k])) with _ | _
      · have hno : f l[k] ∉ once f (l.take k) := fun h => by rw [any_eqC.2 h] at e; cases e
        rw [if_neg (by simp)]
        refine ⟨?_, fun c => ?_⟩
        · rw [List.nodup_append]
          refine ⟨h1, by simp, fun a ha b hb e => ?_⟩
          rw [List.mem_singleton] at hb
          subst hb
          subst e
          exact hno ha
        · rw [List.mem_append, h2, List.mem_singleton]
          constructor
          · rintro (⟨p, hp, e⟩ | e)
            · exact ⟨p, List.mem_append_left _ hp, e⟩
            · exact ⟨l[k], List.mem_append_right _ (List.mem_singleton.2 rfl), e.symm⟩
          · rintro ⟨p, hp, e⟩
            rw [List.mem_append, List.mem_singleton] at hp
            rcases hp with hp | rfl
            · exact .inl ⟨p, hp, e⟩
            · exact .inr e.symm
      · have hm := any_eqC.1 e
        rw [if_pos rfl]
        refine ⟨h1, fun c => ?_⟩
        rw [h2]
        constructor
        · rintro ⟨p, hp, e⟩
          exact ⟨p, List.mem_append_left _ hp, e⟩
        · rintro ⟨p, hp, e⟩
          rw [List.mem_append, List.mem_singleton] at hp
          rcases hp with hp | rfl
          · exact ⟨p, hp, e⟩
          · rw [← e]
            exact (h2 _).1 hm
  have := key l.length (Nat.le_refl _)
  rwa [List.take_length] at this
theorem copies {x : AlgebraM} (hx : SmallP x) : (ords x.1.toNat x.1.toNat []).length = (once (fun p => codeL (ren x p).2) (ords x.1.toNat x.1.toNat [])).length * ((ords x.1.toNat x.1.toNat []).filter fun p => eqC (ren x p) x).length :=
  orbit_len hx (once_iff _ _).1 (once_iff _ _).2
theorem nats_atX {l : List Nat} {k d : Nat} (h : l[k]? = some d) : (nats l)[k]? = some (d : Int) := by simp [nats, h]
def gF (f : List Int) (i : Nat) : Int := f.getD i (-1)
def PaM (n : Nat) (f : List Int) : Prop := f.length = n ∧ ∀ v ∈ f, -1 ≤ v ∧ v ≤ (n : Int) - 1
def SubM (f h : List Int) : Prop := ∀ i, 0 ≤ gF f i → gF h i = gF f i
def opens (f : List Int) : Nat := f.countP fun v => decide (v < 0)
theorem gF_get {f : List Int} {i : Nat} {v : Int} (h : f[i]? = some v) : gF f i = v := by unfold gF; rw [List.getD_eq_getElem?_getD, h]; rfl
theorem gF_out {f : List Int} {i : Nat} (h : ¬ i < f.length) : gF f i = -1 := by unfold gF; rw [List.getD_eq_getElem?_getD, List.getElem?_eq_none (by omega)]; rfl
theorem gF_at {f : List Int} {i : Nat} (h : i < f.length) : f[i]? = some (gF f i) := by rw [gF_get (List.getElem?_eq_getElem h)]; exact List.getElem?_eq_getElem h
theorem gF_set {f : List Int} {p i : Nat} {v : Int} (hp : p < f.length) : gF (f.set p v) i = if i = p then v else gF f i := by
  unfold gF
  rw [List.getD_eq_getElem?_getD, List.getD_eq_getElem?_getD, List.getElem?_set]
  by_cases e : p = i
  · subst e; rw [if_pos rfl, if_pos hp, if_pos rfl]; rfl
  · rw [if_neg e, if_neg (fun h => e h.symm)]
theorem PaM.at {n : Nat} {f : List Int} (h : PaM n f) {i : Nat} (hi : i < n) : f[i]? = some (gF f i) ∧ -1 ≤ gF f i ∧ gF f i ≤ (n : Int) - 1 := by
  have h1 := gF_at (f := f) (i := i) (by rw [h.1]; exact hi)
  exact ⟨h1, h.2 _ (List.mem_of_getElem? h1)⟩
theorem PaM.set_ {n : Nat} {f : List Int} (h : PaM n f) (p : Nat) {v : Int} (h0 : -1 ≤ v) (h1 : v ≤ (n : Int) - 1) : PaM n (f.set p v) := ⟨by rw [List.length_set]; exact h.1, fun u hu => by
  rcases List.mem_or_eq_of_mem_set hu with hu | rfl
  · exact h.2 u hu
  · exact ⟨h0, h1⟩⟩
theorem SubM.refl (f : List Int) : SubM f f := fun _ _ => rfl
theorem SubM.trans {f g h : List Int} (a : SubM f g) (b : SubM g h) : SubM f h := fun i hi => by
  have h1 := a i hi
  rw [b i (by rw [h1]; exact hi), h1]
theorem sub_set {f : List Int} {p : Nat} {v : Int} (hp : p < f.length) (h : gF f p < 0) : SubM f (f.set p v) := fun i hi => by
  rw [gF_set hp, if_neg fun e => by subst e; omega]
theorem opens_set : ∀ {f : List Int} {p : Nat} {v : Int}, p < f.length → gF f p < 0 → 0 ≤ v → opens (f.set p v) < opens f
  | [], _, _, hp, _, _ => by simp at hp
  | a :: f, 0, v, _, h, hv => by
    have ha : a < 0 := h
    unfold opens
    rw [List.set_cons_zero, List.countP_cons_of_neg (by simpa using hv), List.countP_cons_of_pos (by simpa using ha)]
    omega
  | a :: f, p + 1, v, hp, h, hv => by
    have ih := opens_set (f := f) (p := p) (v := v) (by simpa using hp) (by unfold gF at h ⊢; simpa using h) hv
    unfold opens at ih ⊢
    rw [List.set_cons_succ, List.countP_cons, List.countP_cons]
    omega
def setP (f : List Int) (l : List Nat) : Bool := l.all fun d => decide (0 ≤ gF f d)
def stepS (n : Nat) (o o' : OpM) (f : List Int) (i : Nat) : Option (List Int) :=
  if setP f (digs n o.1.toNat i) = true then
    (if gF f (nmAt o.2 i) < 0 then some (f.set (nmAt o.2 i) (o'.2.getD (toI n o.1.toNat f i) 0))
     else if gF f (nmAt o.2 i) = o'.2.getD (toI n o.1.toNat f i) 0 then some f else none)
  else some f
def rowS (n : Nat) (o o' : OpM) (f : List Int) : Nat → Option (List Int)
  | 0 => some f
  | q + 1 => (rowS n o o' f q).bind fun g => stepS n o o' g q
def opsS (n : Nat) (A B : List OpM) (f : List Int) : Nat → Option (List Int)
  | 0 => some f
  | k + 1 => (opsS n A B f k).bind fun g => rowS n (A.getD k (0, [])) (B.getD k (0, [])) g (A.getD k (0, [])).2.length
def passS (n : Nat) (A B : List OpM) (f : List Int) : Option (List Int) := opsS n A B f A.length
def cloF (n : Nat) (A B : List OpM) : Nat → List Int → Option (List Int)
  | 0, f => some f
  | m + 1, f => (passS n A B f).bind fun g => if g = f then some f else cloF n A B m g
def cloS (n : Nat) (A B : List OpM) (f : List Int) : Option (List Int) := cloF n A B (opens f + 1) f
/-- Two algebras with operations of the same numbers of arguments. -/
structure AlkP (n : Nat) (A B : List OpM) : Prop where
  pos : 0 < n
  a : ∀ o ∈ A, OpP n o
  b : ∀ o ∈ B, OpP n o
  ty : A.map (·.1) = B.map (·.1)
section
variable {n : Nat} {A B : List OpM}
theorem AlkP.at (h : AlkP n A B) {k : Nat} (hk : k < A.length) : ∃ o o', A[k]? = some o ∧ B[k]? = some o' ∧ A.getD k (0, []) = o ∧ B.getD k (0, []) = o' ∧ OpP n o ∧ OpP n o' ∧ o.1 = o'.1 ∧ o ∈ A ∧ o' ∈ B := by
  have hl : A.length = B.length := by have := congrArg List.length h.ty; simpa using this
  have hkB : k < B.length := by omega
  have e1 := List.getElem?_eq_getElem hk
  have e2 := List.getElem?_eq_getElem hkB
  refine ⟨A[k], B[k], e1, e2, by rw [List.getD_eq_getElem?_getD, e1]; rfl, by rw [List.getD_eq_getElem?_getD, e2]; rfl, h.a _ (List.getElem_mem hk), h.b _ (List.getElem_mem hkB), ?_, List.getElem_mem hk, List.getElem_mem hkB⟩
  have := congrArg (fun l => l[k]?) h.ty
  simp only [List.getElem?_map, e1, e2, Option.map_some] at this
  injection this
theorem nm_gF {f : List Int} {d : Nat} (h : 0 ≤ gF f d) : nmAt f d = (gF f d).toNat := by
  by_cases hd : d < f.length
  · rw [nmAt_get (gF_at hd)]
  · rw [gF_out hd] at h; omega
/-- The image's place, and what stands there. -/
theorem img_ok {o o' : OpM} {f : List Int} {i : Nat} (hn : 0 < n) (ho : OpP n o) (ho' : OpP n o') (ht : o.1 = o'.1) (hf : PaM n f) (hs : setP f (digs n o.1.toNat i) = true) : toI n o.1.toNat f i < o'.2.length ∧ 0 ≤ o'.2.getD (toI n o.1.toNat f i) 0 ∧ o'.2.getD (toI n o.1.toNat f i) 0 ≤ (n : Int) - 1 := by
  have h1 : toI n o.1.toNat f i < n ^ o.1.toNat := by
    unfold toI
    refine idx_lt _ _ (by rw [List.length_map, digs_len]) fun d hd => ?_
    obtain ⟨z, hz, rfl⟩ := List.mem_map.1 hd
    have hz0 : 0 ≤ gF f z := by simpa using List.all_eq_true.1 hs z hz
    have hzn := digs_lt hn hz
    have := (hf.at hzn).2.2
    rw [nm_gF hz0]
    omega
  have h2 : toI n o.1.toNat f i < o'.2.length := by rw [ho'.2.2.1, ← ht]; exact h1
  refine ⟨h2, ?_⟩
  rw [List.getD_eq_getElem?_getD, List.getElem?_eq_getElem h2]
  exact ho'.2.2.2 _ (List.getElem_mem h2)
theorem op_val {o : OpM} {i : Nat} (hn : 0 < n) (ho : OpP n o) (hi : i < o.2.length) : nmAt o.2 i < n := by
  have := ho.2.2.2 _ (List.getElem_mem hi)
  rw [nmAt_get (List.getElem?_eq_getElem hi)]
  omega
def GrS (n : Nat) (f g : List Int) : Prop := PaM n g ∧ SubM f g ∧ (g = f ∨ opens g < opens f)
theorem GrS.trans {f g h : List Int} (a : GrS n f g) (b : GrS n g h) : GrS n f h := ⟨b.1, a.2.1.trans b.2.1, by
  rcases a.2.2 with e | e
  · rw [← e]; exact b.2.2
  · rcases b.2.2 with e2 | e2
    · rw [e2]; exact .inr e
    · exact .inr (by omega)⟩
theorem GrS.back {f g : List Int} (a : GrS n f g) (b : GrS n g f) : g = f := by
  rcases a.2.2 with e | e
  · exact e
  · rcases b.2.2 with e2 | e2
    · exact e2.symm
    · omega
theorem step_ok {o o' : OpM} {f g : List Int} {i : Nat} (hn : 0 < n) (ho : OpP n o) (ho' : OpP n o') (ht : o.1 = o'.1) (hf : PaM n f) (hi : i < o.2.length) (h : stepS n o o' f i = some g) : GrS n f g := by
  unfold stepS at h
  split at h
  · rename_i hs
    obtain ⟨-, w0, w1⟩ := img_ok hn ho ho' ht hf hs
    have hv := op_val hn ho hi
    split at h
    · rename_i hl
      injection h with h
      subst h
      exact ⟨hf.set_ _ (by omega) w1, sub_set (by rw [hf.1]; exact hv) hl, .inr (opens_set (by rw [hf.1]; exact hv) hl w0)⟩
    · split at h
      · injection h with h
        subst h
        exact ⟨hf, SubM.refl _, .inl rfl⟩
      · cases h
  · injection h with h
    subst h
    exact ⟨hf, SubM.refl _, .inl rfl⟩
theorem row_ok {o o' : OpM} {f : List Int} (hn : 0 < n) (ho : OpP n o) (ho' : OpP n o') (ht : o.1 = o'.1) (hf : PaM n f) : ∀ q, q ≤ o.2.length → ∀ g, rowS n o o' f q = some g → GrS n f g
  | 0, _, g, h => by injection h with h; subst h; exact ⟨hf, SubM.refl _, .inl rfl⟩
  | q + 1, hq, g, h => by
    unfold rowS at h
    obtain ⟨g1, h1, h2⟩ := Option.bind_eq_some_iff.1 h
    have a := row_ok hn ho ho' ht hf q (by omega) g1 h1
    exact a.trans (step_ok hn ho ho' ht a.1 (by omega) h2)
theorem ops_ok2 {f : List Int} (H : AlkP n A B) (hf : PaM n f) : ∀ k, k ≤ A.length → ∀ g, opsS n A B f k = some g → GrS n f g
  | 0, _, g, h => by injection h with h; subst h; exact ⟨hf, SubM.refl _, .inl rfl⟩
  | k + 1, hk, g, h => by
    unfold opsS at h
    obtain ⟨g1, h1, h2⟩ := Option.bind_eq_some_iff.1 h
    have a := ops_ok2 H hf k (by omega) g1 h1
    obtain ⟨o, o', -, -, e1, e2, p1, p2, ht, -, -⟩ := H.at (k := k) (by omega)
    rw [e1, e2] at h2
    exact a.trans (row_ok H.pos p1 p2 ht a.1 _ (Nat.le_refl _) g h2)
theorem pass_ok {f g : List Int} (H : AlkP n A B) (hf : PaM n f) (h : passS n A B f = some g) : GrS n f g := ops_ok2 H hf _ (Nat.le_refl _) g h
theorem clo_ok {f : List Int} (H : AlkP n A B) : ∀ m {f g : List Int}, PaM n f → opens f < m → cloF n A B m f = some g → GrS n f g ∧ passS n A B g = some g
  | 0, f, g, _, h, _ => by omega
  | m + 1, f, g, hf, hm, h => by
    unfold cloF at h
    obtain ⟨g1, h1, h2⟩ := Option.bind_eq_some_iff.1 h
    have a := pass_ok H hf h1
    split at h2
    · rename_i e
      injection h2 with h2
      subst h2
      exact ⟨⟨hf, SubM.refl _, .inl rfl⟩, by rw [h1, e]⟩
    · rename_i e
      have hlt := a.2.2.resolve_left e
      obtain ⟨b1, b2⟩ := clo_ok (f := f) H m a.1 (by omega) h2
      exact ⟨a.trans b1, b2⟩
theorem clo_fuel (H : AlkP n A B) : ∀ m m' {f : List Int}, PaM n f → opens f < m → opens f < m' → cloF n A B m f = cloF n A B m' f
  | 0, _, f, _, h, _ => by omega
  | _ + 1, 0, f, _, _, h => by omega
  | m + 1, m' + 1, f, hf, h, h' => by
    unfold cloF
    rcases e : passS n A B f with _ | g
    · rfl
    · show (if g = f then _ else _) = if g = f then _ else _
      by_cases e2 : g = f
      · rw [if_pos e2, if_pos e2]
      · rw [if_neg e2, if_neg e2]
        have a := pass_ok H hf e
        have hlt := a.2.2.resolve_left e2
        exact clo_fuel H m m' a.1 (by omega) (by omega)
theorem cloS_none {f : List Int} (h : passS n A B f = none) : cloS n A B f = none := by unfold cloS cloF; rw [h]; rfl
theorem cloS_same {f : List Int} (h : passS n A B f = some f) : cloS n A B f = some f := by
  unfold cloS cloF
  rw [h]
  show (if f = f then _ else _) = _
  rw [if_pos rfl]
theorem cloS_next {f g : List Int} (H : AlkP n A B) (hf : PaM n f) (h : passS n A B f = some g) (hne : g ≠ f) : cloS n A B f = cloS n A B g := by
  have a := pass_ok H hf h
  have hlt := a.2.2.resolve_left hne
  conv => lhs; unfold cloS cloF
  rw [h]
  show (if g = f then _ else _) = _
  rw [if_neg hne]
  exact clo_fuel H _ _ a.1 hlt (Nat.lt_succ_self _)
def HomAB (n : Nat) (A B : List OpM) (h : List Int) : Prop := ∀ (k : Nat) (o o' : OpM), A[k]? = some o → B[k]? = some o' → ∀ i, i < o.2.length → gF h (nmAt o.2 i) = o'.2.getD (toI n o.1.toNat h i) 0
def EmbAB (n : Nat) (A B : List OpM) (h : List Int) : Prop := PermL n h ∧ HomAB n A B h
theorem sub_toI {f h : List Int} {k i : Nat} (hs : SubM f h) (hb : setP f (digs n k i) = true) : toI n k f i = toI n k h i := by
  unfold toI
  congr 1
  refine List.map_congr_left fun d hd => ?_
  have h0 : 0 ≤ gF f d := by simpa using List.all_eq_true.1 hb d hd
  have h1 := hs d h0
  rw [nm_gF h0, nm_gF (f := h) (by rw [h1]; exact h0), h1]
theorem step_hom {o o' : OpM} {f h : List Int} {i : Nat} (hf : PaM n f) (hs : SubM f h) (hv : nmAt o.2 i < n) (hh : gF h (nmAt o.2 i) = o'.2.getD (toI n o.1.toNat h i) 0) : ∃ g, stepS n o o' f i = some g ∧ SubM g h := by
  unfold stepS
  split
  · rename_i hb
    rw [sub_toI hs hb, ← hh]
    split
    · rename_i hl
      refine ⟨_, rfl, fun j hj => ?_⟩
      rw [gF_set (by rw [hf.1]; exact hv)] at hj ⊢
      by_cases e : j = nmAt o.2 i
      · rw [if_pos e, e]
      · rw [if_neg e] at hj ⊢
        exact hs j hj
    · rename_i hl
      rw [if_pos (hs _ (by omega)).symm]
      exact ⟨f, rfl, hs⟩
  · exact ⟨f, rfl, hs⟩
theorem row_hom {o o' : OpM} {f h : List Int} (hn : 0 < n) (ho : OpP n o) (ho' : OpP n o') (ht : o.1 = o'.1) (hf : PaM n f) (hs : SubM f h) (hh : ∀ i, i < o.2.length → gF h (nmAt o.2 i) = o'.2.getD (toI n o.1.toNat h i) 0) : ∀ q, q ≤ o.2.length → ∃ g, rowS n o o' f q = some g ∧ SubM g h
  | 0, _ => ⟨f, rfl, hs⟩
  | q + 1, hq => by
    obtain ⟨g, h1, h2⟩ := row_hom hn ho ho' ht hf hs hh q (by omega)
    have a := row_ok hn ho ho' ht hf q (by omega) g h1
    obtain ⟨g2, h3, h4⟩ := step_hom a.1 h2 (op_val hn ho (show q < o.2.length by omega)) (hh q (by omega))
    exact ⟨g2, by unfold rowS; rw [h1]; exact h3, h4⟩
theorem ops_hom {f h : List Int} (H : AlkP n A B) (hf : PaM n f) (hs : SubM f h) (hh : HomAB n A B h) : ∀ k, k ≤ A.length → ∃ g, opsS n A B f k = some g ∧ SubM g h
  | 0, _ => ⟨f, rfl, hs⟩
  | k + 1, hk => by
    obtain ⟨g, h1, h2⟩ := ops_hom H hf hs hh k (by omega)
    have a := ops_ok2 H hf k (by omega) g h1
    obtain ⟨o, o', q1, q2, e1, e2, p1, p2, ht, -, -⟩ := H.at (k := k) (by omega)
    obtain ⟨g2, h3, h4⟩ := row_hom H.pos p1 p2 ht a.1 h2 (hh k o o' q1 q2) _ (Nat.le_refl _)
    exact ⟨g2, by unfold opsS; rw [h1, e1, e2]; exact h3, h4⟩
theorem clo_hom (H : AlkP n A B) {h : List Int} (hh : HomAB n A B h) : ∀ m {f : List Int}, PaM n f → SubM f h → opens f < m → ∃ g, cloF n A B m f = some g ∧ SubM g h
  | 0, f, _, _, hm => by omega
  | m + 1, f, hf, hs, hm => by
    obtain ⟨g, h1, h2⟩ := ops_hom H hf hs hh A.length (Nat.le_refl _)
    have h1 : passS n A B f = some g := h1
    unfold cloF
    rw [h1]
    show ∃ g', (if g = f then some f else cloF n A B m g) = some g' ∧ _
    by_cases e : g = f
    · rw [if_pos e]; exact ⟨f, rfl, hs⟩
    · rw [if_neg e]
      have a := pass_ok H hf h1
      have hlt := a.2.2.resolve_left e
      exact clo_hom H hh m a.1 h2 (by omega)
/-- What a closed map does. -/
theorem row_fix {o o' : OpM} {f : List Int} (hn : 0 < n) (ho : OpP n o) (ho' : OpP n o') (ht : o.1 = o'.1) (hf : PaM n f) : ∀ q, q ≤ o.2.length → rowS n o o' f q = some f → ∀ i, i < q → stepS n o o' f i = some f
  | 0, _, _, i, hi => by omega
  | q + 1, hq, h, i, hi => by
    unfold rowS at h
    obtain ⟨g, h1, h2⟩ := Option.bind_eq_some_iff.1 h
    have a := row_ok hn ho ho' ht hf q (by omega) g h1
    have b := step_ok hn ho ho' ht a.1 (show q < o.2.length by omega) h2
    obtain rfl := a.back b
    by_cases e : i = q
    · subst e; exact h2
    · exact row_fix hn ho ho' ht hf q (by omega) h1 i (by omega)
theorem ops_fix {f : List Int} (H : AlkP n A B) (hf : PaM n f) : ∀ k, k ≤ A.length → opsS n A B f k = some f → ∀ j, j < k → ∀ o o', A[j]? = some o → B[j]? = some o' → ∀ i, i < o.2.length → stepS n o o' f i = some f
  | 0, _, _, j, hj => by omega
  | k + 1, hk, h, j, hj => by
    unfold opsS at h
    obtain ⟨g, h1, h2⟩ := Option.bind_eq_some_iff.1 h
    have a := ops_ok2 H hf k (by omega) g h1
    obtain ⟨o1, o1', q1, q2, e1, e2, p1, p2, ht, -, -⟩ := H.at (k := k) (by omega)
    rw [e1, e2] at h2
    have b := row_ok H.pos p1 p2 ht a.1 _ (Nat.le_refl _) f h2
    obtain rfl := a.back b
    by_cases e : j = k
    · subst e
      intro o o' ho ho' i hi
      rw [q1] at ho
      rw [q2] at ho'
      injection ho with ho
      injection ho' with ho'
      subst ho ho'
      exact row_fix H.pos p1 p2 ht hf _ (Nat.le_refl _) h2 i hi
    · exact ops_fix H hf k (by omega) h1 j (by omega)
theorem full_hom {f : List Int} (H : AlkP n A B) (hf : PaM n f) (hfull : ∀ i, i < n → 0 ≤ gF f i) (h : passS n A B f = some f) : HomAB n A B f := fun k o o' hk hk' i hi => by
  have hkl := (List.getElem?_eq_some_iff.1 hk).1
  have h1 := ops_fix H hf _ (Nat.le_refl _) h k hkl o o' hk hk' i hi
  have ho := H.a o (List.mem_of_getElem? hk)
  have hb : setP f (digs n o.1.toNat i) = true := List.all_eq_true.2 fun d hd => by simpa using hfull d (digs_lt H.pos hd)
  have hv := hfull _ (op_val H.pos ho hi)
  unfold stepS at h1
  rw [if_pos hb, if_neg (by omega)] at h1
  split at h1
  · assumption
  · cases h1
end
def InjF (f : List Int) : Prop := ∀ i j, 0 ≤ gF f i → gF f i = gF f j → i = j
def injB (f : List Int) : Bool := (List.range f.length).all fun i => decide (gF f i < 0) || !hasI (gF f i) (f.take i)
theorem injB_no {f : List Int} {i : Nat} {v : Int} (hv : f[i]? = some v) (h0 : 0 ≤ v) (h : hasI v (f.take i) = true) : injB f = false := by
  rcases e : injB f with _ | _
  · rfl
  · unfold injB at e
    have hi := (List.getElem?_eq_some_iff.1 hv).1
    have := List.all_eq_true.1 e i (List.mem_range.2 hi)
    rw [gF_get hv, h] at this
    simp at this
    omega
theorem injB_yes {f : List Int} (h : ∀ i v, f[i]? = some v → 0 ≤ v → hasI v (f.take i) = false) : injB f = true := by
  unfold injB
  refine List.all_eq_true.2 fun i hi => ?_
  have hi := List.mem_range.1 hi
  have h1 := gF_at hi
  by_cases h0 : gF f i < 0
  · simp [h0]
  · rw [h i _ h1 (by omega)]; simp
theorem injB_iff {f : List Int} : injB f = true ↔ InjF f := by
  constructor
  · intro h
    have key : ∀ i j, j < i → 0 ≤ gF f i → gF f i = gF f j → False := fun i j hj h0 e => by
      have hi : i < f.length := by
        by_cases hi : i < f.length
        · exact hi
        · rw [gF_out hi] at h0; omega
      have h2 : hasI (gF f i) (f.take i) = true := hasI_m.2 (List.mem_of_getElem? (i := j) (by rw [List.getElem?_take_of_lt hj, gF_at (by omega), e]))
      rw [injB_no (gF_at hi) h0 h2] at h
      cases h
    intro i j h0 e
    rcases Nat.lt_trichotomy i j with h1 | h1 | h1
    · exact (key j i h1 (by omega) e.symm).elim
    · exact h1
    · exact (key i j h1 h0 e).elim
  · intro h
    refine injB_yes fun i v hv h0 => ?_
    rcases e : hasI v (f.take i) with _ | _
    · rfl
    · obtain ⟨j, hj⟩ := List.mem_iff_getElem?.1 (hasI_m.1 e)
      have hji : j < i := by
        have := (List.getElem?_eq_some_iff.1 hj).1
        rw [List.length_take] at this
        omega
      rw [List.getElem?_take_of_lt hji] at hj
      have := h i j (by rw [gF_get hv]; exact h0) (by rw [gF_get hv, gF_get hj])
      omega
def fop (f : List Int) : Nat := f.findIdx fun v => decide (v < 0)
theorem fop_eq {f : List Int} {k : Nat} (hk : k ≤ f.length) (hb : ∀ j, j < k → 0 ≤ gF f j) (he : k < f.length → gF f k < 0) : fop f = k := by
  unfold fop
  by_cases h : k < f.length
  · refine (List.findIdx_eq h).2 ⟨?_, fun j hj => ?_⟩
    · have h1 := he h
      have h2 := gF_at h
      rw [List.getElem?_eq_getElem h] at h2
      injection h2 with h2
      rw [h2]; simpa using h1
    · have h1 := hb j hj
      have h2 := gF_at (f := f) (i := j) (by omega)
      rw [List.getElem?_eq_getElem (by omega)] at h2
      injection h2 with h2
      rw [h2]; simpa using h1
  · have : k = f.length := by omega
    subst this
    refine List.findIdx_eq_length.2 fun v hv => ?_
    obtain ⟨j, hj⟩ := List.mem_iff_getElem?.1 hv
    have := hb j (List.getElem?_eq_some_iff.1 hj).1
    rw [gF_get hj] at this
    simpa using this
theorem fop_le (f : List Int) : fop f ≤ f.length := List.findIdx_le_length
theorem fop_lt {f : List Int} {j : Nat} (h : j < fop f) : 0 ≤ gF f j := by
  have h1 := List.not_of_lt_findIdx h
  have h2 := gF_at (f := f) (i := j) (Nat.lt_of_lt_of_le h (fop_le f))
  rw [List.getElem?_eq_getElem (Nat.lt_of_lt_of_le h (fop_le f))] at h2
  injection h2 with h2
  rw [h2] at h1
  simpa using h1
theorem fop_at {f : List Int} (h : fop f < f.length) : gF f (fop f) < 0 := by
  have h1 : decide (f[fop f] < 0) = true := List.findIdx_getElem (p := fun v => decide (v < 0)) (xs := f) (w := h)
  have h2 := gF_at h
  rw [List.getElem?_eq_getElem h] at h2
  injection h2 with h2
  rw [← h2]
  simpa using h1
abbrev SrS := Nat × List (List Int)
def over (most : Nat) (s : SrS) : Bool := decide (5000 < s.1) || decide (most ≤ s.2.length)
theorem over_no {most : Nat} {s : SrS} : over most s = false ↔ s.1 ≤ 5000 ∧ s.2.length < most := by unfold over; simp
def fitS (n : Nat) (A B : List OpM) (f : List Int) : Option (List Int) := (cloS n A B f).bind fun g => if injB g = true then some g else none
def tryS (n : Nat) (A B : List OpM) (most : Nat) (rec_ : List Int → SrS → SrS) (f : List Int) (p : Nat) (s : SrS) (x : Nat) : SrS :=
  if over most s = true then s else if 5000 < s.1 + 1 then (s.1 + 1, s.2) else match fitS n A B (f.set p (x : Int)) with
    | none => (s.1 + 1, s.2)
    | some g => rec_ g (s.1 + 1, s.2)
def lopS (n : Nat) (A B : List OpM) (most : Nat) (rec_ : List Int → SrS → SrS) (f : List Int) (p : Nat) (s : SrS) : Nat → SrS
  | 0 => s
  | k + 1 => tryS n A B most rec_ f p (lopS n A B most rec_ f p s k) k
def srch (n : Nat) (A B : List OpM) (most : Nat) : Nat → List Int → SrS → SrS
  | 0, _, s => s
  | m + 1, f, s => if fop f = f.length then (s.1, s.2 ++ [f]) else lopS n A B most (srch n A B most m) f (fop f) s n
section
variable {n : Nat} {A B : List OpM}
theorem fit_ok {f g : List Int} (H : AlkP n A B) (hf : PaM n f) (h : fitS n A B f = some g) : GrS n f g ∧ passS n A B g = some g ∧ InjF g := by
  unfold fitS at h
  obtain ⟨g1, h1, h2⟩ := Option.bind_eq_some_iff.1 h
  split at h2
  · rename_i e
    injection h2 with h2
    subst h2
    have a := clo_ok (f := f) H _ hf (Nat.lt_succ_self _) h1
    exact ⟨a.1, a.2, injB_iff.1 e⟩
  · cases h2
theorem perm_inj {h : List Int} (hp : PermL n h) : InjF h := fun i j h0 e => by
  have hi : i < h.length := by
    by_cases hi : i < h.length
    · exact hi
    · rw [gF_out hi] at h0; omega
  have hj : j < h.length := by
    by_cases hj : j < h.length
    · exact hj
    · rw [gF_out hj] at e; omega
  exact nodup_at hp.2.2 (gF_at hi) (e ▸ gF_at hj)
theorem perm_ge {h : List Int} (hp : PermL n h) {i : Nat} (hi : i < n) : 0 ≤ gF h i ∧ gF h i < n := by
  have := hp.2.1 _ (List.mem_of_getElem? (gF_at (f := h) (i := i) (by rw [hp.1]; exact hi)))
  omega
theorem inj_sub {g h : List Int} (hs : SubM g h) (hh : InjF h) : InjF g := fun i j h0 e => hh i j (by rw [hs i h0]; exact h0) (by rw [hs i h0, hs j (by omega), e])
theorem fit_hom {f h : List Int} (H : AlkP n A B) (hf : PaM n f) (hh : EmbAB n A B h) (hs : SubM f h) : ∃ g, fitS n A B f = some g ∧ SubM g h := by
  obtain ⟨g, h1, h2⟩ := clo_hom H hh.2 (opens f + 1) hf hs (Nat.lt_succ_self _)
  refine ⟨g, ?_, h2⟩
  unfold fitS cloS
  rw [h1]
  show (if injB g = true then some g else none) = _
  rw [if_pos (injB_iff.2 (inj_sub h2 (perm_inj hh.1)))]
theorem leaf_emb {f : List Int} (H : AlkP n A B) (hf : PaM n f) (hp : passS n A B f = some f) (hi : InjF f) (hl : fop f = f.length) : EmbAB n A B f := by
  have hfull : ∀ i, i < n → 0 ≤ gF f i := fun i h => fop_lt (by rw [hl, hf.1]; exact h)
  refine ⟨⟨hf.1, fun v hv => ?_, ?_⟩, full_hom H hf hfull hp⟩
  · obtain ⟨i, hi⟩ := List.mem_iff_getElem?.1 hv
    have := hfull i (by rw [← hf.1]; exact (List.getElem?_eq_some_iff.1 hi).1)
    rw [gF_get hi] at this
    exact ⟨this, (hf.2 v hv).2⟩
  · refine List.pairwise_iff_getElem.2 fun i j h1 h2 hij e => ?_
    have e1 := gF_at h1
    have e2 := gF_at h2
    rw [List.getElem?_eq_getElem h1] at e1
    rw [List.getElem?_eq_getElem h2] at e2
    injection e1 with e1
    injection e2 with e2
    have := hi i j (hfull i (by rw [← hf.1]; exact h1)) (by rw [← e1, ← e2, e])
    omega
theorem leaf_one {f h : List Int} (hf : PaM n f) (hl : fop f = f.length) (hh : PermL n h) (hs : SubM f h) : h = f := by
  refine List.ext_getElem? fun i => ?_
  by_cases hi : i < n
  · rw [gF_at (f := h) (by rw [hh.1]; exact hi), gF_at (f := f) (by rw [hf.1]; exact hi), hs i (fop_lt (by rw [hl, hf.1]; exact hi))]
  · rw [List.getElem?_eq_none (by rw [hh.1]; omega), List.getElem?_eq_none (by rw [hf.1]; omega)]
def FndP (n : Nat) (A B : List OpM) (most : Nat) (P : List Int → Prop) (s s' : SrS) : Prop := ∃ M : List (List Int), s'.2 = s.2 ++ M ∧ (∀ h ∈ M, EmbAB n A B h ∧ P h) ∧ M.Nodup ∧ (over most s' = false → ∀ h, EmbAB n A B h → P h → h ∈ M)
theorem lop_spec {most : Nat} {rec_ : List Int → SrS → SrS} {f : List Int} {s : SrS} (H : AlkP n A B) (hf : PaM n f) (hlt : fop f < f.length)
    (IH : ∀ g, PaM n g → passS n A B g = some g → InjF g → opens g < opens f → ∀ s, FndP n A B most (SubM g) s (rec_ g s)) :
    ∀ k, k ≤ n → FndP n A B most (fun h => SubM f h ∧ gF h (fop f) < k) s (lopS n A B most rec_ f (fop f) s k)
  | 0, _ => ⟨[], by simp [lopS], (fun h hh => by cases hh), List.nodup_nil, fun _ h hh hP => by
      have := (perm_ge hh.1 (i := fop f) (by rw [← hf.1]; exact hlt)).1
      have := hP.2
      omega⟩
  | k + 1, hk => by
    obtain ⟨M, e1, e2, e3, e4⟩ := lop_spec (s := s) (most := most) H hf hlt IH k (by omega)
    have hpn : fop f < n := by rw [← hf.1]; exact hlt
    have hw : ∀ h ∈ M, EmbAB n A B h ∧ SubM f h ∧ gF h (fop f) < ((k + 1 : Nat) : Int) := fun h hh => ⟨(e2 h hh).1, (e2 h hh).2.1, by have := (e2 h hh).2.2; omega⟩
    have hset : PaM n (f.set (fop f) (k : Int)) := hf.set_ _ (by omega) (by omega)
    have hsub : ∀ h, EmbAB n A B h → SubM f h → gF h (fop f) = (k : Int) → SubM (f.set (fop f) (k : Int)) h := fun h _ h2 h3 i hi => by
      rw [gF_set hlt] at hi ⊢
      by_cases e : i = fop f
      · rw [if_pos e, e]; exact h3
      · rw [if_neg e] at hi ⊢
        exact h2 i hi
    show FndP n A B most _ s (tryS n A B most rec_ f (fop f) (lopS n A B most rec_ f (fop f) s k) k)
    generalize lopS n A B most rec_ f (fop f) s k = s1 at e1 e4
    unfold tryS
    by_cases o : over most s1 = true
    · rw [if_pos o]
      exact ⟨M, e1, hw, e3, fun h => by rw [o] at h; cases h⟩
    · have o : over most s1 = false := by simpa using o
      rw [if_neg (by rw [o]; decide)]
      by_cases t : 5000 < s1.1 + 1
      · rw [if_pos t]
        exact ⟨M, e1, hw, e3, fun h => by have := (over_no.1 h).1; simp only at this; omega⟩
      · rw [if_neg t]
        rcases ef : fitS n A B (f.set (fop f) (k : Int)) with _ | g
        · refine ⟨M, e1, hw, e3, fun _ h hh hP => ?_⟩
          by_cases hk2 : gF h (fop f) = (k : Int)
          · obtain ⟨g, hg, -⟩ := fit_hom H hset hh (hsub h hh hP.1 hk2)
            rw [ef] at hg
            cases hg
          · exact e4 o h hh ⟨hP.1, by have := hP.2; omega⟩
        · obtain ⟨g1, g2, g3⟩ := fit_ok H hset ef
          have hop : opens g < opens f := by
            have h1 := opens_set hlt (fop_at hlt) (v := (k : Int)) (by omega)
            rcases g1.2.2 with e | e
            · rw [e]; exact h1
            · omega
          obtain ⟨M2, a1, a2, a3, a4⟩ := IH g g1.1 g2 g3 hop (s1.1 + 1, s1.2)
          have hgp : ∀ h, SubM g h → gF h (fop f) = (k : Int) := fun h hh => by
            have h1 : gF (f.set (fop f) (k : Int)) (fop f) = (k : Int) := by rw [gF_set hlt, if_pos rfl]
            have h2 := g1.2.1.trans hh (fop f) (by rw [h1]; omega)
            rw [h2, h1]
          have hgs : ∀ h, SubM g h → SubM f h := fun h hh => ((sub_set hlt (fop_at hlt)).trans g1.2.1).trans hh
          refine ⟨M ++ M2, ?_, fun h hh => ?_, ?_, fun hno h hh hP => ?_⟩
          · show (rec_ g (s1.1 + 1, s1.2)).2 = _
            rw [a1, e1, List.append_assoc]
          · rcases List.mem_append.1 hh with hh | hh
            · exact hw h hh
            · exact ⟨(a2 h hh).1, hgs h (a2 h hh).2, by rw [hgp h (a2 h hh).2]; omega⟩
          · refine List.nodup_append.2 ⟨e3, a3, fun a ha b hb e => ?_⟩
            subst e
            have h1 := (e2 a ha).2.2
            rw [hgp a (a2 a hb).2] at h1
            omega
          · by_cases hk2 : gF h (fop f) = (k : Int)
            · obtain ⟨g', hg, hs⟩ := fit_hom H hset hh (hsub h hh hP.1 hk2)
              rw [ef] at hg
              injection hg with hg
              subst hg
              exact List.mem_append.2 (.inr (a4 hno h hh hs))
            · exact List.mem_append.2 (.inl (e4 o h hh ⟨hP.1, by have := hP.2; omega⟩))
theorem srch_spec {most : Nat} (H : AlkP n A B) : ∀ m f s, PaM n f → passS n A B f = some f → InjF f → opens f < m → FndP n A B most (SubM f) s (srch n A B most m f s)
  | 0, f, s, _, _, _, h => by omega
  | m + 1, f, s, hf, hp, hi, hm => by
    unfold srch
    by_cases hl : fop f = f.length
    · rw [if_pos hl]
      refine ⟨[f], rfl, fun h hh => ?_, by simp, fun _ h hh hs => ?_⟩
      · rw [List.mem_singleton] at hh
        subst hh
        exact ⟨leaf_emb H hf hp hi hl, SubM.refl _⟩
      · rw [leaf_one hf hl hh.1 hs]; exact List.mem_singleton.2 rfl
    · rw [if_neg hl]
      have hlt : fop f < f.length := Nat.lt_of_le_of_ne (fop_le f) hl
      obtain ⟨M, e1, e2, e3, e4⟩ := lop_spec (s := s) (most := most) H hf hlt (fun g g1 g2 g3 g4 s => srch_spec H m g s g1 g2 g3 (by omega)) n (Nat.le_refl _)
      exact ⟨M, e1, fun h hh => ⟨(e2 h hh).1, (e2 h hh).2.1⟩, e3, fun hno h hh hs => e4 hno h hh ⟨hs, by
        have := perm_ge hh.1 (i := fop f) (by rw [← hf.1]; exact hlt); omega⟩⟩
def mt (n : Nat) : List Int := List.replicate n (-1)
theorem mt_pa : PaM n (mt n) := ⟨List.length_replicate, fun v hv => by rw [(List.mem_replicate.1 hv).2]; omega⟩
theorem mt_gF {i : Nat} : gF (mt n) i = -1 := by
  by_cases h : i < n
  · exact gF_get (by unfold mt; rw [List.getElem?_replicate, if_pos h])
  · exact gF_out (by unfold mt; rw [List.length_replicate]; exact h)
theorem mt_sub {h : List Int} : SubM (mt n) h := fun i hi => by rw [mt_gF] at hi; omega
theorem opens_le (f : List Int) : opens f ≤ f.length := List.countP_le_length
def find (n : Nat) (A B : List OpM) (most : Nat) : SrS :=
  match fitS n A B (mt n) with
  | none => (0, [])
  | some g => srch n A B most (n + 1) g (0, [])
theorem find_spec {most : Nat} (H : AlkP n A B) (hm : 0 < most) : (∀ h ∈ (find n A B most).2, EmbAB n A B h) ∧ (find n A B most).2.Nodup ∧ (over most (find n A B most) = false → ∀ h, EmbAB n A B h → h ∈ (find n A B most).2) := by
  unfold find
  rcases ef : fitS n A B (mt n) with _ | g
  · refine ⟨(fun h hh => by cases hh), List.nodup_nil, fun _ h hh => ?_⟩
    obtain ⟨g, hg, -⟩ := fit_hom H mt_pa hh mt_sub
    rw [ef] at hg
    cases hg
  · obtain ⟨g1, g2, g3⟩ := fit_ok H mt_pa ef
    obtain ⟨M, e1, e2, e3, e4⟩ := srch_spec (most := most) H (n + 1) g (0, []) g1.1 g2 g3 (by have := opens_le g; have := g1.1.1; omega)
    have e1 : (srch n A B most (n + 1) g (0, [])).2 = M := e1
    refine ⟨fun h hh => (e2 h (e1 ▸ hh)).1, e1 ▸ e3, fun hno h hh => ?_⟩
    rw [show (match some g with | none => ((0, []) : SrS) | some g => srch n A B most (n + 1) g (0, [])) = srch n A B most (n + 1) g (0, []) from rfl] at *
    rw [e1]
    obtain ⟨g', hg, hs⟩ := fit_hom H mt_pa hh mt_sub
    rw [ef] at hg
    injection hg with hg
    subst hg
    exact e4 hno h hh hs
end
theorem setP_snoc (f : List Int) (l : List Nat) (d : Nat) : setP f (l ++ [d]) = (setP f l && decide (0 ≤ gF f d)) := by unfold setP; simp [List.all_append]
theorem digs_succ (n k i : Nat) : digs n (k + 1) i = digs n k (i / n) ++ [i % n] := rfl
theorem noneOpen_any (A : Option Addr) (n c i ar : Nat) (f : List Int) (w : World) (hr : RdL RI w A n f) (hf : f.length = n) (hn0 : 0 < n) (hn8 : n ≤ 8) (ha : ar ≤ 3) (hi : i < n ^ ar) :
    Calls Try.prog 100 #[.int .i64 i, .int .i64 ar, .int .i64 n, .slice A n c] w fun e w' => e = .returned (.bool (setP f (digs n ar i))) ∧ w' = w := by
  have hi4 : i ≤ 4096 := by have := pow_bd (n := n) (k := ar) hn8 (by omega); omega
  clear hi
  go_enter Try.func100, Try.ntmps100
  go_wp2_with fail
  go_loop [0, 1] (fun ci cr => ∃ r cur : Nat, r ≤ ar ∧ cr = .int .i64 r ∧ ci = .int .i64 cur ∧ cur ≤ 4096 ∧ Hid (setP f (digs n r cur) = setP f (digs n ar i))) (fun _ cr => (intOf cr).toNat)
  case atStart => exact ⟨ar, i, Nat.le_refl _, rfl, rfl, hi4, rfl⟩
  case round =>
    obtain ⟨r, cur, hq, rfl, rfl, hcur, HS⟩ := hrel
    rcases r with _ | r
    · have hq1 : ¬ ((0 : Nat) : Int) > 0 := by omega
      have HR : Hid (true = setP f (digs n ar i)) := by show _ = _; rw [← HS.out]; rfl
      go_wp2_with fail
      go_ret
      exact ⟨ret_bool HR.out, rfl⟩
    · have hq1 : ((r + 1 : Nat) : Int) > 0 := by omega
      have hr2 := Nat.mod_lt cur hn0
      have HS2 := HS.out
      rw [digs_succ, setP_snoc] at HS2
      obtain ⟨X, HX⟩ : ∃ X, Hid (cur % n = X) := ⟨_, rfl⟩
      rw [HX.out] at hr2 HS2
      obtain ⟨b, o, u, v, rfl, hc, ⟨rfl, -, -⟩, -, hxv⟩ := hr.at hr2
      rw [gF_get hxv] at HS2
      have HS3 := Lib.hid HS2
      have f5 : (cur : Int) % (n : Int) = (X : Int) := by rw [← HX.out]; simp
      have hX0 : (0 : Int) ≤ (X : Int) := by omega
      have hX1 : (X : Int) < (n : Int) := by omega
      have hnz : ¬ (n : Int) = 0 := by omega
      clear HS2 hxv
      by_cases hv : v < 0
      · have HR : Hid (false = setP f (digs n ar i)) := by show _ = _; rw [← HS3.out, decide_eq_false (by omega), Bool.and_false]
        clear HS3
        go_wp2_with fail
        go_ret
        exact ⟨ret_bool HR.out, rfl⟩
      · have HR : Hid (setP f (digs n r (cur / n)) = setP f (digs n ar i)) := by show _ = _; rw [← HS3.out, decide_eq_true (by omega), Bool.and_true]
        have HQ : Hid (wrap64 ((cur : Int) / (n : Int)) = ((cur / n : Nat) : Int)) := by
          show _ = _
          have e : (cur : Int) / (n : Int) = ((cur / n : Nat) : Int) := by simp
          rw [e]
          exact w64 (by have := Nat.div_le_self cur n; omega)
        have hcd : cur / n ≤ 4096 := Nat.le_trans (Nat.div_le_self _ _) hcur
        clear HS3
        go_wp2_with fail
        go_round
        case rel => exact ⟨r, cur / n, by omega, by go_num, by rw [HQ.out], hcd, HR⟩
        case measure => simp [intOf]; try omega
theorem set_lt {n ar i : Nat} {f : List Int} (hn : 0 < n) (hf : PaM n f) (hs : setP f (digs n ar i) = true) : toI n ar f i < n ^ ar := by
  unfold toI
  refine idx_lt _ _ (by rw [List.length_map, digs_len]) fun d hd => ?_
  obtain ⟨z, hz, rfl⟩ := List.mem_map.1 hd
  have hz0 : 0 ≤ gF f z := by simpa using List.all_eq_true.1 hs z hz
  have := (hf.at (digs_lt hn hz)).2.2
  rw [nm_gF hz0]
  omega
theorem imageIndex2_any (cs ds : List Value) (x y : AlgebraM) (A : Option Addr) (n c i ar : Nat) (f : List Int) (w : World) (h : shAlgebra.rd w cs x) (h' : shAlgebra.rd w ds y) (hn : x.1 = (n : Int)) (hn' : y.1 = (n : Int)) (hn0 : 0 < n) (hn8 : n ≤ 8) (hr : RdL RI w A n f) (hf : PaM n f) (ha : ar ≤ 3) (hi : i < n ^ ar) (hs : setP f (digs n ar i) = true) :
    Calls Try.prog 101 #[.int .i64 i, .int .i64 ar, .agg cs.toArray, .agg ds.toArray, .slice A n c] w (Bl w (.int .i64 ((toI n ar f i : Nat) : Int))) := by
  obtain ⟨B, k, d, rfl, -, qo⟩ := rdAlgebra h
  obtain ⟨B', k', d', rfl, -, qo'⟩ := rdAlgebra h'
  rw [hn, hn']
  obtain ⟨w0, hw0, T0, hsz0, BP, BQ⟩ := boxes2 w #[.int .i64 (n : Int), .slice B k d] #[.int .i64 (n : Int), .slice B' k' d'] 26 26
  have HW0 := Lib.hid hw0
  have cP0 := BP.cell 0
  have cQ0 := BQ.cell 0
  simp at cP0 cQ0
  have r0 := hr.next stab_RI T0
  have HF := Lib.hid hf
  have hi4 : i ≤ 4096 := by have := pow_bd (n := n) (k := ar) hn8 (by omega); omega
  have hres : toI n ar f i ≤ 4096 := by have := set_lt hn0 hf hs; have := pow_bd (n := n) (k := ar) hn8 (by omega); omega
  have HRES := Lib.hid hres
  have HS0 := Lib.hid hs
  clear hw0 hsz0 qo qo' h h' hr hf hn hn' hi hres hs
  go_enter Try.func101, Try.ntmps101
  go_upto_region 1 with fail
  rw [← HW0.out]
  go_wp2_with fail
  go_loop [0, 11, 12, 13] (fun ci ca cst ck => ∃ q cur at_ st : Nat, q ≤ ar ∧ ck = .int .i64 q ∧ ci = .int .i64 cur ∧ ca = .int .i64 at_ ∧ cst = .int .i64 st ∧ cur ≤ 4096 ∧ Hid (ImI n ar i f q cur at_ st) ∧ Hid (setP f (digs n (ar - q) cur) = true)) (fun _ _ _ ck => ar - (intOf ck).toNat)
  case atStart => exact ⟨0, i, 0, 1, Nat.zero_le _, rfl, rfl, rfl, rfl, hi4, ImI.start _ _ _ _, HS0⟩
  case round =>
    obtain ⟨q, cur, at_, st, hq, rfl, rfl, rfl, rfl, hcur, HI, HS⟩ := hrel
    by_cases hlt : q < ar
    · have hq0 : (0 : Int) ≤ (q : Int) := by omega
      have hq1 : (q : Int) < (ar : Int) := by omega
      have hr := Nat.mod_lt cur hn0
      have HS2 := HS.out
      rw [show ar - q = (ar - (q + 1)) + 1 by omega, digs_succ, setP_snoc, Bool.and_eq_true, decide_eq_true_iff] at HS2
      obtain ⟨X, HX⟩ : ∃ X, Hid (cur % n = X) := ⟨_, rfl⟩
      rw [HX.out] at hr HS2
      have hg0 := HS2.2
      have HS3 := Lib.hid HS2.1
      obtain ⟨fX, HFX⟩ : ∃ z, Hid (nmAt f X = z) := ⟨_, rfl⟩
      have hfX : gF f X = (fX : Int) := by have := nm_gF hg0; rw [HFX.out] at this; omega
      have hfn : fX < n := by have := (HF.out.at hr).2.2; omega
      obtain ⟨b, o, u, v, rfl, hc, ⟨rfl, -, -⟩, -, hxv⟩ := r0.at hr
      rw [(HF.out.at hr).1] at hxv
      injection hxv with hxv
      rw [hfX] at hxv
      subst hxv
      have hst : st ≤ 4096 := by rw [HI.out.2]; exact pow_bd hn8 (by omega)
      have hIN := HI.out.next hlt
      rw [HX.out, HFX.out] at hIN
      have hle2 : at_ + fX * st ≤ 4096 := by
        have h1 := hIN.1
        have := HRES.out
        omega
      have hM : fX * st ≤ 4096 := by omega
      have hM2 : st * n ≤ 4096 * 8 := Nat.mul_le_mul hst hn8
      have HIN := Lib.hid hIN
      have e1 : (fX : Int) * (st : Int) = ((fX * st : Nat) : Int) := (Int.natCast_mul _ _).symm
      obtain ⟨P1, HP1⟩ : ∃ z, Hid (fX * st = z) := ⟨_, rfl⟩
      rw [HP1.out] at e1 HIN hM hle2
      have e2 : (st : Int) * (n : Int) = ((st * n : Nat) : Int) := (Int.natCast_mul _ _).symm
      obtain ⟨P2, HP2⟩ : ∃ z, Hid (st * n = z) := ⟨_, rfl⟩
      rw [HP2.out] at e2 HIN hM2
      have HQ : Hid (wrap64 ((cur : Int) / (n : Int)) = ((cur / n : Nat) : Int)) := by
        show _ = _
        have e : (cur : Int) / (n : Int) = ((cur / n : Nat) : Int) := by simp
        rw [e]
        exact w64 (by have := Nat.div_le_self cur n; omega)
      have hcd : cur / n ≤ 4096 := Nat.le_trans (Nat.div_le_self _ _) hcur
      have f5 : (cur : Int) % (n : Int) = (X : Int) := by rw [← HX.out]; simp
      have hX0 : (0 : Int) ≤ (X : Int) := by omega
      have hX1 : (X : Int) < (n : Int) := by omega
      have hnz : ¬ (n : Int) = 0 := by omega
      clear hfX hIN HS2 hg0
      go_wp2_with fail
      go_round
      case rel => exact ⟨q + 1, cur / n, at_ + P1, P2, by omega, by go_num, by rw [HQ.out], by go_num, by go_num, hcd, HIN, HS3⟩
      case measure => simp [intOf]; try omega
    · have hq1 : ¬ (q : Int) < (ar : Int) := by omega
      have HD := Lib.hid (HI.out.done hlt)
      go_wp2_with fail
      go_ret
      exact ⟨ret_int (by rw [HD.out]), T0⟩
def flgV : Value → Nat | .bool true => 1 | _ => 0
def posS (n : Nat) (A B : List OpM) (f : List Int) (k q : Nat) : Option (List Int) := (opsS n A B f k).bind fun g => rowS n (A.getD k (0, [])) (B.getD k (0, [])) g q
section
variable {n : Nat} {A B : List OpM} {f g : List Int} {k q : Nat}
theorem pos_zero : posS n A B f k 0 = opsS n A B f k := by unfold posS; cases opsS n A B f k <;> rfl
theorem pos_row (hq : q = (A.getD k (0, [])).2.length) : posS n A B f k q = opsS n A B f (k + 1) := by subst hq; rfl
theorem pos_next : posS n A B f k (q + 1) = (posS n A B f k q).bind fun g => stepS n (A.getD k (0, [])) (B.getD k (0, [])) g q := by
  unfold posS
  cases opsS n A B f k with
  | none => rfl
  | some g => rfl
theorem row_none {o o' : OpM} (h : rowS n o o' f q = none) : ∀ r, q ≤ r → rowS n o o' f r = none
  | 0, hr => by obtain rfl : q = 0 := by omega
                exact h
  | r + 1, hr => by
    by_cases e : q = r + 1
    · rw [← e]; exact h
    · unfold rowS; rw [row_none h r (by omega)]; rfl
theorem ops_none (h : opsS n A B f k = none) : ∀ r, k ≤ r → opsS n A B f r = none
  | 0, hr => by obtain rfl : k = 0 := by omega
                exact h
  | r + 1, hr => by
    by_cases e : k = r + 1
    · rw [← e]; exact h
    · unfold opsS; rw [ops_none h r (by omega)]; rfl
theorem pos_none (h : posS n A B f k q = none) (hq : q ≤ (A.getD k (0, [])).2.length) (hk : k < A.length) : passS n A B f = none := by
  refine ops_none (k := k + 1) ?_ _ (by omega)
  rw [← pos_row rfl]
  unfold posS at h ⊢
  rcases e : opsS n A B f k with _ | g
  · rfl
  · rw [e] at h
    exact row_none h _ hq
/-- Where a pass stands. -/
structure ClM (n : Nat) (A B : List OpM) (fs f : List Int) (ch : Bool) (k q : Nat) : Prop where
  start : PaM n fs
  at_ : posS n A B fs k q = some f
  gr : GrS n fs f
  no : ch = false → f = fs
  yes : ch = true → opens f < opens fs
theorem ClM.begin_ (hf : PaM n f) : ClM n A B f f false 0 0 := ⟨hf, rfl, ⟨hf, SubM.refl _, .inl rfl⟩, fun _ => rfl, (fun h => by cases h)⟩
theorem ClM.row {fs : List Int} {ch : Bool} (h : ClM n A B fs f ch k q) (hq : q = (A.getD k (0, [])).2.length) : ClM n A B fs f ch (k + 1) 0 := ⟨h.start, by rw [pos_zero, ← pos_row hq]; exact h.at_, h.gr, h.no, h.yes⟩
theorem ClM.keep {fs : List Int} {ch : Bool} (h : ClM n A B fs f ch k q) (hs : stepS n (A.getD k (0, [])) (B.getD k (0, [])) f q = some f) : ClM n A B fs f ch k (q + 1) := ⟨h.start, by rw [pos_next, h.at_]; exact hs, h.gr, h.no, h.yes⟩
theorem ClM.put {fs : List Int} {ch : Bool} {p : Nat} {v : Int} (h : ClM n A B fs f ch k q) (hs : stepS n (A.getD k (0, [])) (B.getD k (0, [])) f q = some (f.set p v)) (hp : p < n) (h0 : gF f p < 0) (hv : 0 ≤ v) (hv1 : v ≤ (n : Int) - 1) : ClM n A B fs (f.set p v) true k (q + 1) := by
  have hl : p < f.length := by rw [h.gr.1.1]; exact hp
  have ho := opens_set hl h0 hv
  have g2 : GrS n f (f.set p v) := ⟨h.gr.1.set_ _ (by omega) hv1, sub_set hl h0, .inr ho⟩
  refine ⟨h.start, by rw [pos_next, h.at_]; exact hs, h.gr.trans g2, (fun h => by cases h), fun _ => ?_⟩
  rcases h.gr.2.2 with e | e
  · rw [← e]; exact ho
  · omega
theorem ClM.fail {fs : List Int} {ch : Bool} (h : ClM n A B fs f ch k q) (hs : stepS n (A.getD k (0, [])) (B.getD k (0, [])) f q = none) (hq : q < (A.getD k (0, [])).2.length) (hk : k < A.length) : cloS n A B fs = none :=
  cloS_none (pos_none (q := q + 1) (by rw [pos_next, h.at_]; exact hs) hq hk)
theorem ClM.done {fs : List Int} {ch : Bool} (H : AlkP n A B) (h : ClM n A B fs f ch A.length 0) : cloS n A B fs = cloS n A B f ∧ (ch = false → cloS n A B fs = some f) := by
  have hp : passS n A B fs = some f := by have := h.at_; rw [pos_zero] at this; exact this
  constructor
  · by_cases e : f = fs
    · rw [e]
    · exact cloS_next H h.start hp e
  · intro hc
    have e := h.no hc
    subst e
    exact cloS_same hp
end
/-- The open places, in the world. -/
noncomputable def opW (w : World) (g n : Nat) : Nat := (List.range n).countP fun i => tt (∃ v : Int, v < 0 ∧ w.cell? ⟨g, i, none⟩ = some (.int .i64 v))
theorem opens_range {f : List Int} : opens f = (List.range f.length).countP fun i => decide (gF f i < 0) := by
  have e : f = (List.range f.length).map (gF f) := by
    apply List.ext_getElem?
    intro i
    rw [List.getElem?_map]
    by_cases h : i < f.length
    · rw [List.getElem?_range h, gF_at h]; rfl
    · rw [List.getElem?_eq_none (by omega), List.getElem?_eq_none (by rw [List.length_range]; omega)]; rfl
  unfold opens
  conv => lhs; rw [e]
  rw [List.countP_map]
  rfl
theorem opW_row {w : World} {base g n c : Nat} {f : List Int} (h : w.ownsRow base 3 1 (.slice (some ⟨g, 0, none⟩) n c) n (ints f)) (hf : f.length = n) : opW w g n = opens f := by
  unfold opW
  rw [opens_range, hf]
  refine List.countP_congr fun i hi => ?_
  have hin := List.mem_range.1 hi
  rw [par_cell h (gF_at (by rw [hf]; exact hin)) hin, tt_iff, decide_eq_true_iff]
  constructor
  · rintro ⟨v, hv, e⟩
    injection e with e
    injection e with _ e
    omega
  · intro e
    exact ⟨_, e, rfl⟩
theorem pam_R {n : Nat} {f : List Int} (h : PaM n f) (hn : n ≤ 8) : ∀ x ∈ f, InR x := fun x hx => by
  have := h.2 x hx
  exact ⟨by omega, by omega⟩
theorem closeMap_any (cs ds : List Value) (x y : AlgebraM) (g n c base : Nat) (f0 : List Int) (wa w : World) (h : shAlgebra.rd wa cs x) (h' : shAlgebra.rd wa ds y) (H : AlkP n x.2 y.2) (hn : x.1 = (n : Int)) (hn' : y.1 = (n : Int)) (hn8 : n ≤ 8) (hx4 : x.2.length ≤ 4) (hT : Below wa.heap.size wa w) (hba : wa.heap.size ≤ base) (hown : w.ownsRow base 3 1 (.slice (some ⟨g, 0, none⟩) n c) n (ints f0)) (hf0 : PaM n f0) :
    Calls Try.prog 96 #[.agg cs.toArray, .agg ds.toArray, .slice (some ⟨g, 0, none⟩) n c] w fun e w' => e = .returned (.bool (cloS n x.2 y.2 f0).isSome) ∧ w.grownBy w' (some g) ∧ ∃ f', w'.ownsRow base 3 1 (.slice (some ⟨g, 0, none⟩) n c) n (ints f') ∧ PaM n f' ∧ ∀ z, cloS n x.2 y.2 f0 = some z → f' = z := by
  obtain ⟨a, A⟩ := x
  obtain ⟨a', Bo⟩ := y
  simp only at H hn hn' hx4
  subst hn hn'
  have hn0 := H.pos
  have hrd := h
  have hrd' := h'
  obtain ⟨B1, m, d1, rfl, -, qo⟩ := rdAlgebra h
  obtain ⟨B2, m2, d2, rfl, -, qo'⟩ := rdAlgebra h'
  have HML : Hid (A.length = m) := qo.len
  have hmm : m2 = m := by rw [← qo'.len, ← qo.len]; have := congrArg List.length H.ty; simpa using this.symm
  subst hmm
  have hm4 : m2 ≤ 4 := by rw [← qo.len]; exact hx4
  have HH := Lib.hid H
  have hgl := hown.lt g rfl
  obtain ⟨w0, hw0, T0, hsz0, BP, BQ⟩ := boxes2 w #[.int .i64 (n : Int), .slice B1 m2 d1] #[.int .i64 (n : Int), .slice B2 m2 d2] 26 26
  have HW0 := Lib.hid hw0
  have hown0 := own_next hown T0
  have hgw : (some w.heap.size) ≠ some g := fun e => by injection e with e; omega
  have hgw1 : (some (w.heap.size + 1)) ≠ some g := fun e => by injection e with e; omega
  have HT0 : Hid (w.grownBy w0 (some g)) := gk_of T0
  have HTA : Hid (∀ wz, w0.grownBy wz (some g) → Below wa.heap.size wa wz) := fun wz hz => (below_next hT T0 rfl).grown hz (Nat.le_trans hT.size T0.size) fun k hk => by injection hk with hk; subst hk; exact Nat.le_trans hba hgl.1
  have HBP : Hid (∀ wz, w0.grownBy wz (some g) → (wz.cell? ⟨w.heap.size, 0, none⟩ = some (.int .i64 (n : Int)) ∧ wz.cell? ⟨w.heap.size, 1, none⟩ = some (.slice B1 m2 d1)) ∧ wz.cell? ⟨w.heap.size + 1, 0, none⟩ = some (.int .i64 (n : Int)) ∧ wz.cell? ⟨w.heap.size + 1, 1, none⟩ = some (.slice B2 m2 d2)) := fun wz hz => by
    have t1 := BP.grown hz hgw
    have t2 := BQ.grown hz hgw1
    have h0 := t1.cell 0
    have h1 := t1.cell 1
    have h2 := t2.cell 0
    have h3 := t2.cell 1
    simp at h0 h1 h2 h3
    exact ⟨⟨h0, h1⟩, h2, h3⟩
  have HRD : Hid (∀ wz, w0.grownBy wz (some g) → shAlgebra.rd wz [.int .i64 (n : Int), .slice B1 m2 d1] ((n : Int), A) ∧ shAlgebra.rd wz [.int .i64 (n : Int), .slice B2 m2 d2] ((n : Int), Bo)) := fun wz hz => ⟨shAlgebra.stab hrd (HTA.out wz hz).block, shAlgebra.stab hrd' (HTA.out wz hz).block⟩
  have HP0 := Lib.hid hf0
  clear hw0 hsz0 hown hx4 h h' hrd hrd' hT hba hf0 H
  go_enter Try.func96, Try.ntmps96
  go_upto_region 1 with fail
  rw [← HW0.out]
  go_wp2_with fail
  go_loopw [7] (fun s1 wr => ∃ (fs : List Int) (ch : Bool), s1 = .bool ch ∧ Hid (PaM n fs) ∧ Hid (cloS n A Bo f0 = cloS n A Bo fs) ∧ Hid (ch = false → cloS n A Bo f0 = some fs) ∧ wr.ownsRow base 3 1 (.slice (some ⟨g, 0, none⟩) n c) n (ints fs) ∧ w0.grownBy wr (some g)) (fun s1 wr => 2 * opW wr g n + flgV s1)
  case atStart =>
    have h3 : Hid (true = false → cloS n A Bo f0 = some f0) := fun h => (by cases h)
    exact ⟨f0, true, rfl, HP0, Lib.hid rfl, h3, hown0, gk_refl _ _⟩
  case round =>
    clear hown0
    obtain ⟨fs, ch, rfl, HP, HE, HC, hown, hG⟩ := hrel
    have HMS : Hid (opW wr g n = opens fs) := opW_row hown HP.out.1
    rcases ch with _ | _
    · have HF : Hid (cloS n A Bo f0 = some fs) := HC.out rfl
      have HR : Hid (true = (cloS n A Bo f0).isSome) := by show _ = _; rw [HF.out]; rfl
      go_wp2_with fail
      go_ret
      exact ⟨ret_bool HR.out, gk_trans HT0.out hG, fs, hown, HP.out, fun z hz => by rw [HF.out] at hz; injection hz⟩
    · have kP1 := (HBP.out _ hG).1.2
      have HI0 : Hid (ClM n A Bo fs fs false 0 0) := ClM.begin_ HP.out
      clear HP HC
      go_wp2_with fail
      clear kP1
      go_loopw [7, 17] (fun s1 i wr => ∃ (j : Nat) (f : List Int) (ch : Bool), j ≤ m2 ∧ i = .int .i64 j ∧ s1 = .bool ch ∧ Hid (ClM n A Bo fs f ch j 0) ∧ wr.ownsRow base 3 1 (.slice (some ⟨g, 0, none⟩) n c) n (ints f) ∧ w0.grownBy wr (some g)) (fun _ i _ => m2 - (intOf i).toNat)
      case atStart => exact ⟨0, fs, false, Nat.zero_le _, rfl, rfl, HI0, hown, hG⟩
      case round =>
        clear hown hG HI0
        obtain ⟨j, f, ch, hj, rfl, rfl, HI, hown, hG⟩ := hrel
        obtain ⟨wo, HWO⟩ : ∃ wo : World, wo = wr := ⟨_, rfl⟩
        subst HWO
        by_cases hlt : j < m2
        · have hj0 : (0 : Int) ≤ (j : Int) := by omega
          have hj1 : (j : Int) < (m2 : Int) := by omega
          obtain ⟨b, o, vs, op, rfl, -, hc, hr, -, hxo⟩ := qo.at hlt
          obtain ⟨b', o', vs', op', rfl, -, hc', hr', -, hxo'⟩ := qo'.at hlt
          obtain ⟨B4, m4, d4, rfl, -, qt⟩ := rdOp hr
          obtain ⟨B5, m5, d5, rfl, -, qt'⟩ := rdOp hr'
          obtain ⟨z1, z2, q1, q2, e1, e2, p1, p2, ht, -, -⟩ := HH.out.at (k := j) (by rw [HML.out]; exact hlt)
          rw [hxo] at q1
          rw [hxo'] at q2
          injection q1 with q1
          injection q2 with q2
          subst q1 q2
          obtain ⟨ar, tb, rfl, har⟩ := op_nat p1
          obtain ⟨ar', tb', rfl, -⟩ := op_nat p2
          obtain rfl : ar = ar' := by have h9 : (ar : Int) = (ar' : Int) := ht; omega
          have HE1 := Lib.hid e1
          have HE2 := Lib.hid e2
          have HO2 := Lib.hid p2
          have hl4 : m4 = n ^ ar := by rw [← qt.len]; have := p1.2.2.1; simpa using this
          have hl5 : m5 = n ^ ar := by rw [← qt'.len]; have := p2.2.2.1; simpa using this
          obtain rfl : m5 = m4 := by omega
          have HTL := Lib.hid hl5
          have HTB : Hid (tb.length = m5) := qt.len
          have HTV := Lib.hid p1.2.2.2
          have HTV2 := Lib.hid p2.2.2.2
          have cc0' : wo.cell? ⟨b, o + j * 2, none⟩ = some (.int .i64 (ar : Int)) := keepc (HTA.out _ hG) (hc 0 _ rfl)
          have cc1' : wo.cell? ⟨b, o + j * 2 + 1, none⟩ = some (.slice B4 m5 d4) := keepc (HTA.out _ hG) (hc 1 _ rfl)
          have HCB : Hid (∀ wz, w0.grownBy wz (some g) → wz.cell? ⟨b', o' + j * 2 + 1, none⟩ = some (.slice B5 m5 d5)) := fun wz hz => keepc (HTA.out _ hz) (hc' 1 _ rfl)
          have hm512 : m5 ≤ 4096 := by rw [hl5]; exact pow_bd hn8 (by omega)
          obtain ⟨w1, hw1, T1, hsz1, BX⟩ := boxes1 wo #[.int .i64 (ar : Int), .slice B4 m5 d4] 72
          have HW1 := Lib.hid hw1
          have hg1 := (hown.lt g rfl)
          have hG1 : w0.grownBy w1 (some g) := gk_trans hG (gk_of T1)
          have hown1 := own_next hown T1
          have hgx : (some wo.heap.size) ≠ some g := fun e => by injection e with e; omega
          have HBX : Hid (∀ wz, w1.grownBy wz (some g) → wz.cell? ⟨wo.heap.size, 0, none⟩ = some (.int .i64 (ar : Int)) ∧ wz.cell? ⟨wo.heap.size, 1, none⟩ = some (.slice B4 m5 d4)) := fun wz hz => by
            have := BX.grown hz hgx
            have h0 := this.cell 0
            have h1 := this.cell 1
            simp at h0 h1
            exact ⟨h0, h1⟩
          clear hc hr hc' hr' hw1 hsz1 hxo hxo' hown p1 p2 e1 e2 hl4 hl5 ht
          go_wp2_with fail
          rw [← HW1.out]
          clear cc0' cc1'
          go_wp2_with fail
          go_loopw [7, 25] (fun s1 i wi => ∃ (q : Nat) (f : List Int) (ch : Bool), q ≤ m5 ∧ i = .int .i64 q ∧ s1 = .bool ch ∧ Hid (ClM n A Bo fs f ch j q) ∧ wi.ownsRow base 3 1 (.slice (some ⟨g, 0, none⟩) n c) n (ints f) ∧ w1.grownBy wi (some g)) (fun _ i _ => m5 - (intOf i).toNat)
          case atStart => exact ⟨0, f, ch, Nat.zero_le _, rfl, rfl, HI, hown1, gk_refl _ _⟩
          case round =>
            clear hown1 HI
            obtain ⟨q, f, ch, hq, rfl, rfl, HI, hown, hG2⟩ := hrel
            have hG3 : w0.grownBy wr (some g) := gk_trans hG1 hG2
            have kX0 := (HBX.out _ hG2).1
            have kX1 := (HBX.out _ hG2).2
            have kP0 := (HBP.out _ hG3).1.1
            by_cases hlq : q < m5
            · have hq0 : (0 : Int) ≤ (q : Int) := by omega
              have hq1 : (q : Int) < (m5 : Int) := by omega
              obtain ⟨b3, o3, u3, v, rfl, hc3, ⟨rfl, -, -⟩, -, hxv⟩ := (qt.next stab_RI (HTA.out _ hG3)).at hlq
              have hvi := HTV.out v (List.mem_of_getElem? hxv)
              obtain ⟨Y, rfl⟩ := Int.eq_ofNat_of_zero_le hvi.1
              have hYn : Y < n := by omega
              have HPF : Hid (PaM n f) := HI.out.gr.1
              have hrf : RdL RI wr (some ⟨g, 0, none⟩) n f := rd_of_own (R := RI) hown (RI_ints (pam_R HPF.out hn8))
              have HRF := Lib.hid hrf
              have hqn : q < n ^ ar := by rw [← HTL.out]; exact hlq
              obtain ⟨sp, HSP⟩ : ∃ z, Hid (setP f (digs n ar q) = z) := ⟨_, Lib.hid rfl⟩
              have HNO := Lib.hid (noneOpen_any (some ⟨g, 0, none⟩) n c q ar f wr hrf HPF.out.1 hn0 hn8 har hqn)
              rw [HSP.out] at HNO
              have HST : Hid (stepS n (A.getD j (0, [])) (Bo.getD j (0, [])) f q = if sp = true then (if gF f Y < 0 then some (f.set Y (tb'.getD (toI n ar f q) 0)) else if gF f Y = tb'.getD (toI n ar f q) 0 then some f else none) else some f) := by
                show _ = _
                rw [HE1.out, HE2.out]
                unfold stepS
                have hy : nmAt tb q = Y := by rw [nmAt_get hxv]; simp
                simp only [Int.toNat_natCast]
                rw [hy, HSP.out]
              have HQN := Lib.hid hqn
              have HTB2 : Hid (q < (A.getD j (0, [])).2.length) := by show _ < _; rw [HE1.out]; show q < tb.length; rw [HTB.out]; exact hlq
              clear hxv hvi hrf hqn
              rcases sp with _ | _
              · have HI2 : Hid (ClM n A Bo fs f ch j (q + 1)) := HI.out.keep (by rw [HST.out]; rfl)
                clear HST
                go_wp2_with fail
                refine HNO.out.mono ?_
                rintro e w' ⟨rfl, rfl⟩
                go_wp2_with fail
                go_roundw
                case rel => exact ⟨q + 1, f, ch, by omega, by go_num, rfl, HI2, hown, hG2⟩
                case measure => simp [intOf]; try omega
              · have hIMl : toI n ar f q < m5 := by rw [HTL.out]; exact set_lt hn0 HPF.out HSP.out
                obtain ⟨IM, HIM⟩ : ∃ z, Hid (toI n ar f q = z) := ⟨_, Lib.hid rfl⟩
                rw [HIM.out] at hIMl HST
                obtain ⟨b5, o5, u5, v5, rfl, hc5, ⟨rfl, -, -⟩, -, hx5⟩ := (qt'.next stab_RI (HTA.out _ hG3)).at hIMl
                have hvi5 := HTV2.out v5 (List.mem_of_getElem? hx5)
                obtain ⟨z, rfl⟩ := Int.eq_ofNat_of_zero_le hvi5.1
                have hzn : z < n := by omega
                have hgz : tb'.getD IM 0 = (z : Int) := by rw [List.getD_eq_getElem?_getD, hx5]; rfl
                rw [hgz] at HST
                have HC : Hid (∀ wz, Below wr.heap.size wr wz → Calls Try.prog 101 #[.int .i64 (q : Int), .int .i64 (ar : Int), .agg #[.int .i64 (n : Int), .slice (some ⟨b, o, none⟩) m2 d1], .agg #[.int .i64 (n : Int), .slice (some ⟨b', o', none⟩) m2 d2], .slice (some ⟨g, 0, none⟩) n c] wz (Bl wz (.int .i64 (IM : Int)))) := fun wz hz => by
                  have h9 := HRD.out wz (gk_trans hG3 (gk_of hz))
                  have := imageIndex2_any _ _ ((n : Int), A) ((n : Int), Bo) (some ⟨g, 0, none⟩) n c q ar f wz h9.1 h9.2 rfl rfl hn0 hn8 (HRF.out.next stab_RI hz) HPF.out har HQN.out HSP.out
                  rw [HIM.out] at this
                  exact this
                have hM0 : (0 : Int) ≤ (IM : Int) := by omega
                have hM1 : (IM : Int) < (m5 : Int) := by omega
                have hY0 : (0 : Int) ≤ (Y : Int) := by omega
                have hY1 : (Y : Int) < (n : Int) := by omega
                have kP1 := (HBP.out _ hG3).1.2
                have kQ0 := (HBP.out _ hG3).2.1
                have kQ1 := (HBP.out _ hG3).2.2
                have kB := HCB.out _ hG3
                have Tk : Below wr.heap.size wr wr := Below.refl _ _
                clear hx5 hvi5 hgz
                go_wp2_with fail
                refine HNO.out.mono ?_
                rintro e w' ⟨rfl, rfl⟩
                go_upto_region 11 with fail
                go_cut [12] from 38 to 52 (fun u12 wx => u12 = .int .i64 (z : Int) ∧ Below w'.heap.size w' wx)
                case first =>
                  go_region_held3 (fun wn => wn.cell? ⟨w.heap.size, 0, none⟩ = some (.int .i64 (n : Int)) ∧ wn.cell? ⟨w.heap.size, 1, none⟩ = some (.slice (some ⟨b, o, none⟩) m2 d1) ∧ wn.cell? ⟨w.heap.size + 1, 0, none⟩ = some (.int .i64 (n : Int)) ∧ wn.cell? ⟨w.heap.size + 1, 1, none⟩ = some (.slice (some ⟨b', o', none⟩) m2 d2) ∧ wn.cell? ⟨wo.heap.size, 0, none⟩ = some (.int .i64 (ar : Int)) ∧ wn.cell? ⟨b', o' + j * 2 + 1, none⟩ = some (.slice (some ⟨b5, o5, none⟩) m5 d5) ∧ wn.cell? ⟨b5, o5 + IM, none⟩ = some (.int .i64 (z : Int))) (first | go_keep | exact ⟨keepc Tk kP0, keepc Tk kP1, keepc Tk kQ0, keepc Tk kQ1, keepc Tk kX0, keepc Tk kB, keepc Tk hc5⟩) (first
                    | (go_at_call 101; (with_reducible refine (HC.out _ ?_).mono ?_); (first | exact Tk | exact Below.drew Tk); rintro e wn ⟨rfl, hbn⟩; replace Tk := below_next (by first | exact Tk | exact Below.drew Tk) hbn rfl))
                  all_goals
                    go_wp2_with fail
                    go_meet
                    exact ⟨rfl, by first | exact Tk | exact Below.drew Tk⟩
                case rest =>
                  obtain ⟨rfl, hTc⟩ := hcut
                  have hown2 := own_next hown hTc
                  have hG5 := gk_trans hG2 (gk_of (r := some g) hTc)
                  have hG6 := gk_trans hG3 (gk_of (r := some g) hTc)
                  have hcl := par_cell hown2 (gF_at (f := f) (i := Y) (by rw [HPF.out.1]; exact hYn)) hYn
                  have hfz := hown2.frozenAt Y
                  have hVb := (HPF.out.at hYn).2
                  obtain ⟨V, HV⟩ : ∃ V, Hid (gF f Y = V) := ⟨_, Lib.hid rfl⟩
                  rw [HV.out] at hcl hVb HST
                  by_cases hV : V < 0
                  · have HI2 : Hid (ClM n A Bo fs (f.set Y (z : Int)) true j (q + 1)) := HI.out.put (by rw [HST.out, if_pos trivial, if_pos hV]) hYn (by rw [HV.out]; exact hV) (by omega) (by omega)
                    have hst := (hown2.stored Y (.int .i64 (z : Int))).1
                    rw [ints_set] at hst
                    have hG7 := gk_set hG5 (p := ⟨g, Y, none⟩) rfl (.int .i64 (z : Int))
                    clear HST hown2 hG5 hG6
                    go_wp2_with fail
                    go_roundw
                    case rel => exact ⟨q + 1, _, true, by omega, by go_num, rfl, HI2, hst, hG7⟩
                    case measure => simp [intOf]; try omega
                  · by_cases hVz : V = (z : Int)
                    · have hb : (V != (z : Int)) = false := by rw [hVz]; simp
                      have HI2 : Hid (ClM n A Bo fs f ch j (q + 1)) := HI.out.keep (by rw [HST.out, if_pos trivial, if_neg hV, if_pos hVz])
                      clear HST hVz
                      go_wp2_with fail
                      go_roundw
                      case rel => exact ⟨q + 1, f, ch, by omega, by go_num, rfl, HI2, hown2, hG5⟩
                      case measure => simp [intOf]; try omega
                    · have hb : (V != (z : Int)) = true := bne_iff_ne.2 hVz
                      have HN : Hid (cloS n A Bo f0 = none) := by
                        show _ = _
                        rw [HE.out]
                        exact HI.out.fail (by rw [HST.out, if_pos trivial, if_neg hV, if_neg hVz]) HTB2.out (by rw [HML.out]; exact hlt)
                      have HR : Hid (false = (cloS n A Bo f0).isSome) := by show _ = _; rw [HN.out]; rfl
                      clear HST hVz
                      go_wp2_with fail
                      go_ret
                      exact ⟨ret_bool HR.out, gk_trans HT0.out hG6, f, hown2, HPF.out, fun z hz => by rw [HN.out] at hz; cases hz⟩
            · have hq1 : ¬ (q : Int) < (m5 : Int) := by omega
              have HI2 : Hid (ClM n A Bo fs f ch (j + 1) 0) := HI.out.row (by rw [HE1.out]; show q = tb.length; rw [HTB.out]; omega)
              clear kX0 kX1 kP0
              go_wp2_with fail
              go_roundw
              case rel => exact ⟨j + 1, f, ch, by omega, by go_num, rfl, HI2, hown, hG3⟩
              case measure => simp [intOf]; try omega
        · have hj1 : ¬ (j : Int) < (m2 : Int) := by omega
          obtain rfl : j = m2 := by omega
          have HI3 : Hid (ClM n A Bo fs f ch A.length 0) := by rw [HML.out]; exact HI
          have HD := HI3.out.done HH.out
          have HF1 : Hid (cloS n A Bo f0 = cloS n A Bo f) := by show _ = _; rw [HE.out]; exact HD.1
          have HF2 : Hid (ch = false → cloS n A Bo f0 = some f) := fun hc => by rw [HE.out]; exact HD.2 hc
          have HPP : Hid (PaM n f) := HI.out.gr.1
          have HMS2 : Hid (opW wo g n = opens f) := opW_row hown HI.out.gr.1.1
          clear HD HI3
          go_wp2_with fail
          go_roundw
          case rel => exact ⟨f, ch, rfl, HPP, HF1, HF2, hown, hG⟩
          case measure =>
            show 2 * opW wo g n + flgV (.bool ch) < 2 * opW _ g n + flgV (.bool true)
            rw [HMS2.out, HMS.out]
            rcases ch with _ | _
            · rw [HI.out.no rfl]
              show 2 * opens fs + 0 < 2 * opens fs + 1
              omega
            · have := HI.out.yes rfl
              show 2 * opens f + 1 < 2 * opens fs + 1
              omega
noncomputable def permB (n : Nat) (L : List Int) : Bool := tt (PermL n L)
theorem permB_len {n : Nat} {L : List Int} (h : L.length ≠ n) : false = permB n L := tt_false fun hp => h hp.1
theorem permB_out {n : Nat} {L : List Int} (h : allIn 0 ((n : Int) - 1) L = false) : false = permB n L := tt_false fun hp => by
  have := allIn_iff.2 hp.2.1
  rw [this] at h
  cases h
theorem permB_dup {n k : Nat} {L : List Int} {y : Int} (hy : L[k]? = some y) (h : hasI y (L.take k) = true) : false = permB n L := tt_false fun hp => by
  have hm := hasI_iff.1 h
  obtain ⟨i, hi⟩ := List.getElem?_of_mem hm
  rw [List.getElem?_take] at hi
  split at hi
  · have := nodup_at hp.2.2 hi hy
    omega
  · cases hi
theorem permB_yes {n : Nat} {L : List Int} (h1 : L.length = n) (h2 : allIn 0 ((n : Int) - 1) L = true) (h3 : L.Nodup) : true = permB n L := tt_true ⟨h1, allIn_iff.1 h2, h3⟩
theorem take_nodup {k : Nat} {L : List Int} {y : Int} (h : (L.take k).Nodup) (hy : L[k]? = some y) (hm : hasI y (L.take k) = false) : (L.take (k + 1)).Nodup := by
  rw [List.take_add_one, hy]
  show (L.take k ++ [y]).Nodup
  rw [List.nodup_append]
  refine ⟨h, by simp, fun a ha b hb => ?_⟩
  rw [List.mem_singleton] at hb
  subst hb
  intro e
  subst e
  rw [hasI_iff.2 ha] at hm
  cases hm
theorem inL_nil (n : Nat) (L : List Int) : inL n (L.take 0) = List.replicate n false := by
  unfold inL
  rw [List.take_zero]
  exact List.eq_replicate_iff.2 ⟨by simp, fun b hb => by obtain ⟨y, -, rfl⟩ := List.mem_map.1 hb; rfl⟩
theorem gB_inL {n x : Nat} {L : List Int} (hx : x < n) : gB (inL n L) x = hasI (x : Int) L := by
  unfold gB inL
  rw [List.getD_eq_getElem?_getD, List.getElem?_map, List.getElem?_range hx]
  rfl
theorem isOrder_any (A : Option Addr) (m c n : Nat) (L : List Int) (w : World) (h : RdL RI w A m L) (hn : n ≤ 1000) :
    Calls Try.prog 48 #[.slice A m c, .int .i64 n] w (Bl w (.bool (permB n L))) := by
  have hle := h.le
  have HL := Lib.hid h.len
  by_cases hmn : m = n
  case neg =>
    have hq : ((m : Int) != (n : Int)) = true := by simp; omega
    have HR : Hid (false = permB n L) := permB_len (by rw [HL.out]; exact hmn)
    go_enter Try.func48, Try.ntmps48
    go_wp2_with fail
    go_ret
    exact ⟨ret_bool HR.out, Below.refl _ _⟩
  subst hmn
  have hq : ((m : Int) != (m : Int)) = false := by simp
  obtain ⟨el, HEL⟩ : ∃ b, Hid (allIn 0 ((m : Int) - 1) L = b) := ⟨_, rfl⟩
  have HE := Lib.hid (inSize_any A m c L m w h)
  rw [HEL.out] at HE
  rcases el with _ | _
  · have HR := Lib.hid (permB_out HEL.out)
    go_enter Try.func48, Try.ntmps48
    go_wp2_with fail
    refine HE.out.mono ?_
    rintro e w' ⟨rfl, rfl⟩
    go_wp2_with fail
    go_ret
    exact ⟨ret_bool HR.out, Below.refl _ _⟩
  have HS : Hid (∀ v ∈ L, 0 ≤ v ∧ v ≤ (m : Int) - 1) := allIn_iff.1 HEL.out
  go_enter Try.func48, Try.ntmps48
  go_wp2_with fail
  refine HE.out.mono ?_
  rintro e w' ⟨rfl, rfl⟩
  obtain ⟨wo, HWO⟩ : ∃ wo : World, wo = w := ⟨_, rfl⟩
  subst HWO
  go_wp2_with (at_make; refine make_bl wo rfl _ _ rfl m rfl rfl (by omega) ?_; intro w1 hown1 hg1)
  have hb1 := (Below.refl wo.heap.size wo).grown hg1 (Nat.le_refl _) (by simp)
  clear hg1
  go_loopw [22] (fun i wr => ∃ k : Nat, k ≤ m ∧ i = .int .i64 k ∧ wr.ownsRow wo.heap.size 4 1 (.slice (some ⟨wo.heap.size, 0, none⟩) m m) m (bls (inL m (L.take k))) ∧ Hid ((L.take k).Nodup) ∧ Below wo.heap.size wo wr) (fun i _ => m - (intOf i).toNat)
  case atStart =>
    refine ⟨0, Nat.zero_le _, rfl, ?_, (by show (L.take 0).Nodup; simp), hb1⟩
    rw [inL_nil]
    exact hown1
  case round =>
    clear hown1 hb1
    obtain ⟨k, hk, rfl, hown, HND, hTr⟩ := hrel
    by_cases hlt : k < m
    · have hk0 : (0 : Int) ≤ (k : Int) := by omega
      have hk1 : (k : Int) < (m : Int) := by omega
      obtain ⟨b, o, u, v, rfl, hc, ⟨rfl, hv0, hv1⟩, -, hx⟩ := h.at hlt
      have hvi := HS.out v (List.mem_of_getElem? hx)
      obtain ⟨x, rfl⟩ := Int.eq_ofNat_of_zero_le hvi.1
      have hxn : x < m := by omega
      have HSET := Lib.hid (inL_set hx hxn)
      have HX := Lib.hid hx
      replace hc := keepc hTr hc
      obtain ⟨sb, HSB⟩ : ∃ b, Hid (hasI (x : Int) (L.take k) = b) := ⟨_, rfl⟩
      have hcell : wr.cell? ⟨wo.heap.size, x, none⟩ = some (.bool sb) := by rw [hown.cellAt x (by omega), bls_get (by rw [inL_len]; exact hxn), gB_inL hxn, HSB.out]
      have hfz := hown.frozenAt x
      have hst := (hown.stored x (.bool true)).1
      rw [bls_set, HSET.out] at hst
      have hx0 : (0 : Int) ≤ (x : Int) := by omega
      have hx1 : (x : Int) < (m : Int) := by omega
      clear hx hown
      rcases sb with _ | _
      · have HN2 := Lib.hid (take_nodup HND.out HX.out HSB.out)
        go_wp2_with fail
        go_roundw
        case rel => exact ⟨k + 1, by omega, by go_num, hst, HN2, hTr.setCell (Nat.le_refl _) _⟩
        case measure => simp [intOf]; try omega
      · have HR : Hid (false = permB m L) := permB_dup HX.out HSB.out
        go_wp2_with fail
        go_ret
        exact ⟨ret_bool HR.out, hTr⟩
    · have hk1 : ¬ (k : Int) < (m : Int) := by omega
      have HR : Hid (true = permB m L) := permB_yes HL.out HEL.out (by have := HND.out; rwa [List.take_of_length_le (by rw [HL.out]; omega)] at this)
      go_wp2_with fail
      go_ret
      exact ⟨ret_bool HR.out, hTr⟩
theorem l2PermB_any (A : Option Addr) (m c n : Nat) (L : List Int) (w : World) (h : RdL RI w A m L) (hn : n ≤ 1000) :
    Calls Try.prog 26 #[.slice A m c, .int .i64 n] w (Bl w (.bool (permB n L))) := by
  have hle := h.le
  have HL := Lib.hid h.len
  by_cases hmn : m = n
  case neg =>
    have hq : ((m : Int) != (n : Int)) = true := by simp; omega
    have HR : Hid (false = permB n L) := permB_len (by rw [HL.out]; exact hmn)
    go_enter Try.func26, Try.ntmps26
    go_wp2_with fail
    go_ret
    exact ⟨ret_bool HR.out, Below.refl _ _⟩
  subst hmn
  have hq : ((m : Int) != (m : Int)) = false := by simp
  obtain ⟨el, HEL⟩ : ∃ b, Hid (allIn 0 ((m : Int) - 1) L = b) := ⟨_, rfl⟩
  have HE := Lib.hid (l2Elements_any A m c L m w h (by omega) (by omega))
  rw [HEL.out] at HE
  rcases el with _ | _
  · have HR := Lib.hid (permB_out HEL.out)
    go_enter Try.func26, Try.ntmps26
    go_wp2_with fail
    refine HE.out.mono ?_
    rintro e w' ⟨rfl, rfl⟩
    go_wp2_with fail
    go_ret
    exact ⟨ret_bool HR.out, Below.refl _ _⟩
  have HS : Hid (∀ v ∈ L, 0 ≤ v ∧ v ≤ (m : Int) - 1) := allIn_iff.1 HEL.out
  go_enter Try.func26, Try.ntmps26
  go_wp2_with fail
  refine HE.out.mono ?_
  rintro e w' ⟨rfl, rfl⟩
  obtain ⟨wo, HWO⟩ : ∃ wo : World, wo = w := ⟨_, rfl⟩
  subst HWO
  go_wp2_with (at_make; refine make_bl wo rfl _ _ rfl m rfl rfl (by omega) ?_; intro w1 hown1 hg1)
  have hb1 := (Below.refl wo.heap.size wo).grown hg1 (Nat.le_refl _) (by simp)
  clear hg1
  go_loopw [6] (fun i wr => ∃ k : Nat, k ≤ m ∧ i = .int .i64 k ∧ wr.ownsRow wo.heap.size 4 1 (.slice (some ⟨wo.heap.size, 0, none⟩) m m) m (bls (inL m (L.take k))) ∧ Hid ((L.take k).Nodup) ∧ Below wo.heap.size wo wr) (fun i _ => m - (intOf i).toNat)
  case atStart =>
    refine ⟨0, Nat.zero_le _, rfl, ?_, (by show (L.take 0).Nodup; simp), hb1⟩
    rw [inL_nil]
    exact hown1
  case round =>
    clear hown1 hb1
    obtain ⟨k, hk, rfl, hown, HND, hTr⟩ := hrel
    by_cases hlt : k < m
    · have hk0 : (0 : Int) ≤ (k : Int) := by omega
      have hk1 : (k : Int) < (m : Int) := by omega
      obtain ⟨b, o, u, v, rfl, hc, ⟨rfl, hv0, hv1⟩, -, hx⟩ := h.at hlt
      have hvi := HS.out v (List.mem_of_getElem? hx)
      obtain ⟨x, rfl⟩ := Int.eq_ofNat_of_zero_le hvi.1
      have hxn : x < m := by omega
      have HSET := Lib.hid (inL_set hx hxn)
      have HX := Lib.hid hx
      replace hc := keepc hTr hc
      obtain ⟨sb, HSB⟩ : ∃ b, Hid (hasI (x : Int) (L.take k) = b) := ⟨_, rfl⟩
      have hcell : wr.cell? ⟨wo.heap.size, x, none⟩ = some (.bool sb) := by rw [hown.cellAt x (by omega), bls_get (by rw [inL_len]; exact hxn), gB_inL hxn, HSB.out]
      have hfz := hown.frozenAt x
      have hst := (hown.stored x (.bool true)).1
      rw [bls_set, HSET.out] at hst
      have hx0 : (0 : Int) ≤ (x : Int) := by omega
      have hx1 : (x : Int) < (m : Int) := by omega
      clear hx hown
      rcases sb with _ | _
      · have HN2 := Lib.hid (take_nodup HND.out HX.out HSB.out)
        go_wp2_with fail
        go_roundw
        case rel => exact ⟨k + 1, by omega, by go_num, hst, HN2, hTr.setCell (Nat.le_refl _) _⟩
        case measure => simp [intOf]; try omega
      · have HR : Hid (false = permB m L) := permB_dup HX.out HSB.out
        go_wp2_with fail
        go_ret
        exact ⟨ret_bool HR.out, hTr⟩
    · have hk1 : ¬ (k : Int) < (m : Int) := by omega
      have HR : Hid (true = permB m L) := permB_yes HL.out HEL.out (by have := HND.out; rwa [List.take_of_length_le (by rw [HL.out]; omega)] at this)
      go_wp2_with fail
      go_ret
      exact ⟨ret_bool HR.out, hTr⟩
theorem inL_open {n k : Nat} {L : List Int} {v : Int} (hv : L[k]? = some v) (h : v < 0) : inL n (L.take (k + 1)) = inL n (L.take k) := by
  unfold inL
  rw [show L.take (k + 1) = L.take k ++ [v] by rw [List.take_add_one, hv]; rfl]
  refine List.map_congr_left fun x _ => ?_
  rw [Bool.eq_iff_iff, hasI_m, hasI_m, List.mem_append, List.mem_singleton]
  exact ⟨fun h1 => h1.resolve_right (by omega), .inl⟩
/-- No value twice so far. -/
def InjTo (f : List Int) (k : Nat) : Prop := ∀ i v, i < k → f[i]? = some v → 0 ≤ v → hasI v (f.take i) = false
theorem InjTo.start (f : List Int) : InjTo f 0 := fun i v h => absurd h (by omega)
theorem InjTo.next {f : List Int} {k : Nat} {v : Int} (h : InjTo f k) (hv : f[k]? = some v) (hn : 0 ≤ v → hasI v (f.take k) = false) : InjTo f (k + 1) := fun i u hi hu h0 => by
  by_cases e : i = k
  · subst e
    rw [hv] at hu
    injection hu with hu
    subst hu
    exact hn h0
  · exact h i u (by omega) hu h0
theorem InjTo.all {f : List Int} {k : Nat} (h : InjTo f k) (hk : f.length ≤ k) : injB f = true := injB_yes fun i v hv h0 => h i v (by have := (List.getElem?_eq_some_iff.1 hv).1; omega) hv h0
theorem fits_any (cs ds : List Value) (x y : AlgebraM) (g gs n c base t : Nat) (fn : Value) (f0 : List Int) (B1 B2 : Option Addr) (m1 d1 m2 d2 : Nat) (wa w : World) (h : shAlgebra.rd wa [.int .i64 (n : Int), .slice B1 m1 d1] x) (h' : shAlgebra.rd wa [.int .i64 (n : Int), .slice B2 m2 d2] y) (H : AlkP n x.2 y.2) (hn : x.1 = (n : Int)) (hn' : y.1 = (n : Int)) (hn8 : n ≤ 8) (hx4 : x.2.length ≤ 4) (hT : Below wa.heap.size wa w) (hba : wa.heap.size ≤ base) (hown : w.ownsRow base 3 1 (.slice (some ⟨g, 0, none⟩) n c) n (ints f0)) (hf0 : PaM n f0)
    (BS : Blk w gs 91 #[.int .i64 (n : Int), .slice B1 m1 d1, .int .i64 (n : Int), .slice B2 m2 d2, .bool true, .int .i64 (t : Int), fn]) :
    Calls Try.prog 90 #[.pointer (some ⟨gs, 0, none⟩), .slice (some ⟨g, 0, none⟩) n c] w fun e w' => e = .returned (.bool (fitS n x.2 y.2 f0).isSome) ∧ w.grownBy w' (some g) ∧ ∃ f', w'.ownsRow base 3 1 (.slice (some ⟨g, 0, none⟩) n c) n (ints f') ∧ PaM n f' ∧ ∀ z, fitS n x.2 y.2 f0 = some z → f' = z := by
  have hne : gs ≠ g := fun e => by subst e; exact own_off hown BS (by decide) rfl
  have cS0 := BS.cell 0
  have cS1 := BS.cell 1
  have cS2 := BS.cell 2
  have cS3 := BS.cell 3
  have cS4 := BS.cell 4
  simp at cS0 cS1 cS2 cS3 cS4
  have HCM := Lib.hid fun (wz : World) (ho : wz.ownsRow base 3 1 (.slice (some ⟨g, 0, none⟩) n c) n (ints f0)) (hb : Below wa.heap.size wa wz) => closeMap_any _ _ x y g n c base f0 wa wz h h' H hn hn' hn8 hx4 hb hba ho hf0
  have HGK : Hid (∀ wz, w.grownBy wz (some g) → wz.cell? ⟨gs, 2, none⟩ = some (.int .i64 (n : Int)) ∧ wz.cell? ⟨gs, 4, none⟩ = some (.bool true)) := fun wz hz => by
    have := BS.grown hz (fun e => hne (by injection e))
    have h2 := this.cell 2
    have h4 := this.cell 4
    simp at h2 h4
    exact ⟨h2, h4⟩
  have hn0 := H.pos
  clear BS hn hn' hx4 h h' H hf0
  rcases hcs : cloS n x.2 y.2 f0 with _ | z0
  · rw [hcs] at HCM
    have HR : Hid (fitS n x.2 y.2 f0 = none) := by show _ = _; unfold fitS; rw [hcs]; rfl
    have HR2 : Hid (false = (fitS n x.2 y.2 f0).isSome) := by show _ = _; rw [HR.out]; rfl
    clear hcs
    go_enter Try.func90, Try.ntmps90
    go_upto_region 1 with fail
    go_region_law (first
      | (go_simp; go_at_call 96; (with_reducible refine (HCM.out _ ?_ ?_).mono ?_); (exact hown); (first | exact hT | exact Below.drew hT); rintro e wu ⟨rfl, hgu, f', hou, hpf, hfz⟩))
    all_goals
      have hG : w.grownBy wu (some g) := (by first | exact hgu | exact gk_trans (gk_drewN (gk_refl w _) _) hgu)
      have HOU := Lib.hid hou
      have HPF := Lib.hid hpf
      clear hou hgu hfz
      go_wp2_with fail
      go_ret
      exact ⟨ret_bool HR2.out, hG, f', HOU.out, HPF.out, fun z hz => by rw [HR.out] at hz; cases hz⟩
  · rw [hcs] at HCM
    have HF : Hid (fitS n x.2 y.2 f0 = if injB z0 = true then some z0 else none) := by show _ = _; unfold fitS; rw [hcs]; rfl
    have HZ : Hid (∀ z, some z0 = some z → z = z0) := fun z hz => by injection hz with hz; exact hz.symm
    clear hcs
    go_enter Try.func90, Try.ntmps90
    go_upto_region 1 with fail
    go_region_law (first
      | (go_simp; go_at_call 96; (with_reducible refine (HCM.out _ ?_ ?_).mono ?_); (exact hown); (first | exact hT | exact Below.drew hT); rintro e wu ⟨rfl, hgu, f', hou, hpf, hfz⟩))
    all_goals
      have hG : w.grownBy wu (some g) := (by first | exact hgu | exact gk_trans (gk_drewN (gk_refl w _) _) hgu)
      obtain rfl := hfz z0 rfl
      have kS2 := (HGK.out _ hG).1
      have kS4 := (HGK.out _ hG).2
      have HPF := Lib.hid hpf
      have HOU := Lib.hid hou
      have hrf : RdL RI wu (some ⟨g, 0, none⟩) n f' := rd_of_own (R := RI) hou (RI_ints (pam_R hpf hn8))
      clear hou hgu hfz hpf cS0 cS1 cS2 cS3 cS4
      obtain ⟨wo, HWO⟩ : ∃ wo : World, wo = wu := ⟨_, rfl⟩
      subst HWO
      go_wp2_with (at_make; refine make_bl wo rfl _ _ rfl n rfl rfl (by omega) ?_; intro w1 hown1 hg1)
      have hb1 := (Below.refl wo.heap.size wo).grown hg1 (Nat.le_refl _) (by simp)
      clear hg1 kS2 kS4
      go_loopw [32] (fun i wr => ∃ k : Nat, k ≤ n ∧ i = .int .i64 k ∧ wr.ownsRow wo.heap.size 4 1 (.slice (some ⟨wo.heap.size, 0, none⟩) n n) n (bls (inL n (f'.take k))) ∧ Hid (InjTo f' k) ∧ Below wo.heap.size wo wr) (fun i _ => n - (intOf i).toNat)
      case atStart =>
        refine ⟨0, Nat.zero_le _, rfl, ?_, InjTo.start _, hb1⟩
        rw [inL_nil]
        exact hown1
      case round =>
        clear hown1 hb1
        obtain ⟨k, hk, rfl, hown, HND, hTr⟩ := hrel
        by_cases hlt : k < n
        · have hk0 : (0 : Int) ≤ (k : Int) := by omega
          have hk1 : (k : Int) < (n : Int) := by omega
          obtain ⟨b, o, u, v, hbo, hc, ⟨rfl, hv0, hv1⟩, -, hx⟩ := hrf.at hlt
          injection hbo with hbo
          injection hbo with hbo1 hbo2
          subst hbo1 hbo2
          have hvi := HPF.out.2 v (List.mem_of_getElem? hx)
          replace hc := keepc hTr hc
          rw [Nat.zero_add] at hc
          by_cases hv : v < 0
          · have HN2 := Lib.hid (HND.out.next hx fun h0 => absurd h0 (by omega))
            have hv2 : ¬ v ≥ 0 := by omega
            rw [← inL_open hx hv] at hown
            clear hx
            go_wp2_with fail
            go_roundw
            case rel => exact ⟨k + 1, by omega, by go_num, hown, HN2, hTr⟩
            case measure => simp [intOf]; try omega
          · obtain ⟨x1, rfl⟩ := Int.eq_ofNat_of_zero_le (show 0 ≤ v by omega)
            have hxn : x1 < n := by omega
            have HSET := Lib.hid (inL_set hx hxn)
            have HX := Lib.hid hx
            obtain ⟨sb, HSB⟩ : ∃ b, Hid (hasI (x1 : Int) (f'.take k) = b) := ⟨_, Lib.hid rfl⟩
            have hcell : wr.cell? ⟨wo.heap.size, x1, none⟩ = some (.bool sb) := by rw [hown.cellAt x1 (by omega), bls_get (by rw [inL_len]; exact hxn), gB_inL hxn, HSB.out]
            have hfz := hown.frozenAt x1
            have hst := (hown.stored x1 (.bool true)).1
            rw [bls_set, HSET.out] at hst
            have hx0 : (0 : Int) ≤ (x1 : Int) := by omega
            have hx1 : (x1 : Int) < (n : Int) := by omega
            have hx2 : (x1 : Int) ≥ 0 := by omega
            clear hx hown
            rcases sb with _ | _
            · have HN2 := Lib.hid (HND.out.next HX.out fun _ => HSB.out)
              go_wp2_with fail
              go_roundw
              case rel => exact ⟨k + 1, by omega, by go_num, hst, HN2, hTr.setCell (Nat.le_refl _) _⟩
              case measure => simp [intOf]; try omega
            · have HR : Hid (fitS n x.2 y.2 f0 = none) := by show _ = _; rw [HF.out, injB_no HX.out (by omega) HSB.out]; rfl
              have HR2 : Hid (false = (fitS n x.2 y.2 f0).isSome) := by show _ = _; rw [HR.out]; rfl
              have hof := own_next HOU.out hTr
              go_wp2_with fail
              go_ret
              exact ⟨ret_bool HR2.out, gk_trans hG (gk_of hTr), f', hof, HPF.out, fun z hz => by rw [HR.out] at hz; cases hz⟩
        · have hk1 : ¬ (k : Int) < (n : Int) := by omega
          have HR : Hid (fitS n x.2 y.2 f0 = some f') := by show _ = _; rw [HF.out, HND.out.all (by rw [HPF.out.1]; omega)]; rfl
          have HR2 : Hid (true = (fitS n x.2 y.2 f0).isSome) := by show _ = _; rw [HR.out]; rfl
          have hof := own_next HOU.out hTr
          go_wp2_with fail
          go_ret
          exact ⟨ret_bool HR2.out, gk_trans hG (gk_of hTr), f', hof, HPF.out, fun z hz => by rw [HR.out] at hz; injection hz⟩
theorem l7Images2_any (A C : Option Addr) (n c m d : Nat) (f : List Int) (l : List Nat) (w : World) (hr : RdL RI w A n f) (hf : PaM n f) (hl : RdL RI w C m (nats l)) (hd : ∀ z ∈ l, z < n) (hm : m ≤ 1000) (hn : n ≤ 1000) :
    Calls Try.prog 97 #[.slice A n c, .slice C m d] w (OwI w (l.map (gF f))) := by
  have hT := below_box w (.cells #[] 3)
  have hO := World.ownsRow_lit (base := w.heap.size) (e := 3) (size := 1) w #[] 0 (Nat.le_refl _) (Nat.zero_le _) rfl
  have HLL : Hid (l.length = m) := by show _ = _; rw [← hl.len, nats_len]
  have HD := Lib.hid hd
  have HF := Lib.hid hf
  clear hd hf
  go_enter Try.func97, Try.ntmps97
  go_wp2_with fail
  go_loopw [5, 6] (fun s i wr => ∃ (k : Nat) (A1 : Option Addr) (c1 : Nat), k ≤ m ∧ i = .int .i64 k ∧ s = .slice A1 k c1 ∧ wr.ownsRow w.heap.size 3 1 (.slice A1 k c1) k (ints ((l.take k).map (gF f))) ∧ Below w.heap.size w wr) (fun _ i _ => m - (intOf i).toNat)
  case atStart => exact ⟨0, _, _, Nat.zero_le _, rfl, rfl, hO, hT⟩
  case round =>
    clear hO hT
    obtain ⟨k, A1, c1, hk, rfl, rfl, hown, hTr⟩ := hrel
    by_cases hlt : k < m
    · have hk0 : (0 : Int) ≤ (k : Int) := by omega
      have hk1 : (k : Int) < (m : Int) := by omega
      have hpl : k < l.length := by rw [HLL.out]; exact hlt
      have hdp : l[k]? = some l[k] := List.getElem?_eq_getElem hpl
      have hdn := HD.out _ (List.getElem_mem hpl)
      generalize l[k] = dd at hdp hdn
      obtain ⟨b, o, u, v, rfl, hc, ⟨rfl, -, -⟩, -, hxv⟩ := (hl.next stab_RI hTr).at hlt
      rw [nats_atX hdp] at hxv
      injection hxv with hxv
      subst hxv
      have hfd := HF.out.at hdn
      obtain ⟨b4, o4, u4, v4, rfl, hc4, ⟨rfl, -, -⟩, -, hx4⟩ := (hr.next stab_RI hTr).at hdn
      rw [hfd.1] at hx4
      injection hx4 with hx4
      subst hx4
      obtain ⟨fd, HFD⟩ : ∃ z, Hid (gF f dd = z) := ⟨_, Lib.hid rfl⟩
      rw [HFD.out] at hc4
      have HS : Hid ((l.take (k + 1)).map (gF f) = (l.take k).map (gF f) ++ [fd]) := by
        show _ = _
        rw [List.take_add_one, hdp, List.map_append, ← HFD.out]
        rfl
      have hz := hTr.size
      have hd0 : (0 : Int) ≤ (dd : Int) := by omega
      have hd1 : (dd : Int) < (n : Int) := by omega
      clear hdp hfd
      go_wp2_with (at_builtin; refine app1 wr rfl _ _ 38 3 rfl (.int .i64 0) 8 Try.underlying38 info_int rfl (by decide) w.heap.size k c1 A1 _ rfl hown (.int .i64 fd) rfl rfl (by omega) hz ?_; intro A2 c2 w2 hown2 hg2 hb2)
      go_roundw
      case rel => exact ⟨k + 1, A2, c2, by omega, by go_num, rfl, by rw [HS.out, ints_app]; exact hown2, hTr.trans hb2⟩
      case measure => simp [intOf]; try omega
    · obtain rfl : k = m := by omega
      have hk1 : ¬ (k : Int) < (k : Int) := by omega
      have HE : Hid ((l.map (gF f)).length = k) := by show _ = _; rw [List.length_map, HLL.out]
      rw [List.take_of_length_le (by rw [HLL.out]; exact Nat.le_refl _)] at hown
      go_wp2_with fail
      go_ret
      exact ⟨A1, c1, by rw [HE.out]; rfl, by rw [HE.out]; exact hown, hTr⟩
theorem has_open {n : Nat} {f : List Int} {l : List Nat} (hf : PaM n f) (hl : ∀ d ∈ l, d < n) : hasI (-1) (l.map (gF f)) = !setP f l := by
  rw [Bool.eq_iff_iff, hasI_m, List.mem_map, Bool.not_eq_true']
  constructor
  · rintro ⟨d, hd, e⟩
    rcases h : setP f l with _ | _
    · rfl
    · have := List.all_eq_true.1 h d hd
      simp at this
      omega
  · intro h
    unfold setP at h
    rw [List.all_eq_false] at h
    obtain ⟨d, hd, h⟩ := h
    have := (hf.at (hl d hd)).2.1
    simp at h
    exact ⟨d, hd, by omega⟩
theorem set_nats {f : List Int} {l : List Nat} (h : setP f l = true) : l.map (gF f) = nats (l.map (nmAt f)) := by
  unfold nats
  rw [List.map_map]
  refine List.map_congr_left fun d hd => ?_
  have h0 : 0 ≤ gF f d := by simpa using List.all_eq_true.1 h d hd
  show gF f d = ((nmAt f d : Nat) : Int)
  rw [nm_gF h0]
  omega
theorem l7Into_any (A : Option Addr) (n c : Nat) (f : List Int) (w : World) (hr : RdL RI w A n f) (hn : n ≤ 1000) (hnc : n ≤ c) :
    Calls Try.prog 93 #[.slice A n c] w (Qt w (.bool (injB f))) := by
  have HLL : Hid (f.length = n) := hr.len
  go_enter Try.func93, Try.ntmps93
  go_wp2_with fail
  go_loopw [3] (fun i wr => ∃ (k z : Nat), k ≤ n ∧ i = .int .i64 k ∧ wr = w.drewN z ∧ Hid (InjTo f k)) (fun i _ => n - (intOf i).toNat)
  case atStart => exact ⟨0, 0, Nat.zero_le _, rfl, rfl, InjTo.start f⟩
  case round =>
    obtain ⟨k, z, hk, rfl, rfl, HI⟩ := hrel
    by_cases hlt : k < n
    · have hk0 : (0 : Int) ≤ (k : Int) := by omega
      have hk1 : (k : Int) < (n : Int) := by omega
      have hkl : (k : Int) ≤ (c : Int) := by omega
      obtain ⟨b, o, u, v, rfl, hc, ⟨rfl, -, -⟩, -, hxv⟩ := hr.at hlt
      have HXV := Lib.hid hxv
      by_cases hv : v ≥ 0
      · have hd : decide (v ≥ 0) = true := decide_eq_true hv
        obtain ⟨hb, HHB⟩ : ∃ z, Hid (hasI v (f.take k) = z) := ⟨_, Lib.hid rfl⟩
        have HH : Hid (∀ (c' : Nat) (wz : World), (∃ y, wz = w.drewN y) → Calls Try.prog 73 #[.slice (some ⟨b, o, none⟩) k c', .int .i64 v] wz (Qt wz (.bool hb))) := fun c' wz ⟨y, hy⟩ => by
          have := l1Has_any (some ⟨b, o, none⟩) k c' (f.take k) v wz (by subst hy; exact (hr.drewN stab_RI y).take hk)
          rw [HHB.out] at this
          exact quiet_same this
        clear hxv
        rcases hb with _ | _
        · have HI2 : Hid (InjTo f (k + 1)) := HI.out.next HXV.out fun _ => HHB.out
          go_wp2_with fail
          go_quiet ((go_at_call 73; first | exact quiet_one (HH.out _ _ ⟨_, rfl⟩) | exact quiet_add (HH.out _ _ ⟨_, rfl⟩)))
          go_wp2_with fail
          go_roundw
          case rel => exact ⟨k + 1, _, by omega, by go_num, (by first | rfl | exact World.drewN_drewN _ _ _ | exact (World.drewN_drewN _ _ 1)), HI2⟩
          case measure => simp [intOf]; try omega
        · have HR : Hid (false = injB f) := (injB_no HXV.out hv HHB.out).symm
          go_wp2_with fail
          go_quiet ((go_at_call 73; first | exact quiet_one (HH.out _ _ ⟨_, rfl⟩) | exact quiet_add (HH.out _ _ ⟨_, rfl⟩)))
          go_wp2_with fail
          go_ret
          exact ⟨ret_bool HR.out, _, (by first | rfl | exact World.drewN_drewN _ _ _ | exact (World.drewN_drewN _ _ 1))⟩
      · have hd : decide (v ≥ 0) = false := decide_eq_false hv
        have HI2 : Hid (InjTo f (k + 1)) := HI.out.next HXV.out fun h0 => absurd h0 (by omega)
        clear hxv
        go_wp2_with fail
        go_quiet (fail)
        go_wp2_with fail
        go_roundw
        case rel => exact ⟨k + 1, _, by omega, by go_num, (by first | rfl | exact World.drewN_drewN _ _ _ | exact (World.drewN_drewN _ _ 1)), HI2⟩
        case measure => simp [intOf]; try omega
    · have hk1 : ¬ (k : Int) < (n : Int) := by omega
      have HR : Hid (true = injB f) := (HI.out.all (by rw [HLL.out]; omega)).symm
      go_wp2_with fail
      go_ret
      exact ⟨ret_bool HR.out, z, rfl⟩
/-- append of one element of two cells to a row of the call's own. -/
theorem wp_app2 {P : Program} (w0 : World) {o : Oper} {a : Act} {K : Act → World → Prop} {Q : Exit → Act → World → Prop} (s x : Operand) (t e : TypeId)
    (ho : o.op = .call { callee := .builtin .append, args := #[s, x], argTypes := #[t, t] }) (z : Value) (bytes : Nat)
    (ht : P.underlying t = some (.slice e)) (hi : (P.info? e).map (fun i => (i.zero, i.size, i.bytes)) = some (some z, 2, bytes)) (hzs : z.cells.size = 2) (hbb : bytes ≤ 64)
    (base n c : Nat) (A : Option Addr) (xs : List Value) (hs : a.eval s = .slice A n c) (hown : w0.ownsRow base e 2 (.slice A n c) n xs) (u v : Value) (h1 : u.oneCell' = true) (h2 : v.oneCell' = true) (hx : a.eval x = .slice (some ⟨w0.heap.size, 0, none⟩) 1 1)
    (hn : n ≤ 1099511627776) (hbase : base ≤ w0.heap.size)
    (hK : ∀ A' c' w', w'.ownsRow base e 2 (.slice A' (n + 1) c') (n + 1) (xs ++ [u, v]) → w0.grownBy w' (Value.slice A n c).ownBlock → Below base w0 w' → K (a.put o.dst (.slice A' (n + 1) c')) w') :
    o.wp P a (w0.alloc (.cells #[u, v] e)) K Q := by
  obtain ⟨i, hi, hz, hsize, hby⟩ := info_parts hi
  have hbound : (n + 1) * bytes ≤ 140737488355328 := Nat.le_trans (Nat.mul_le_mul_left (n + 1) hbb) (by omega)
  refine wp_append_own (w0.alloc (.cells #[u, v] e)) s x t ho base e i z 2 bytes ht hi hz hsize hby hzs (by omega) (.slice A n c) n xs hs (hown.alloc _) ⟨w0.heap.size, 0, none⟩ 1 1 [u, v] hx rfl ?_ ?_ (by unfold maxLen; omega) hbound (by simp; omega) ?_
  · intro j y hj
    match j, hj with
    | 0, hj => simp at hj; subst hj; simp [Addr.add]
    | 1, hj => simp at hj; subst hj; simp [Addr.add]
  · intro y hy
    simp at hy
    rcases hy with rfl | rfl
    · exact h1
    · exact h2
  · intro v' w' hown' hgrow _
    obtain ⟨A', c', rfl⟩ := own_slice hown'
    have hg : w0.grownBy w' (Value.slice A n c).ownBlock :=
      ⟨hgrow.os, hgrow.tape, hgrow.output, Nat.le_trans (by simp) hgrow.size, fun k hk hne => (hgrow.block k (by simp; omega) hne).trans (Below.heap_alloc w0 _ k hk)⟩
    exact hK A' c' w' hown' hg ((Below.refl base w0).grown hg hbase (fun k hk => (hown.lt k hk).1))
theorem app2 {P : Program} (w0 : World) {ops : Array Oper} {rest : List Oper} {o : Oper} {a : Act} {Q : Exit → Act → World → Prop} (hgd : o.guard = none) (s x : Operand) (t e : TypeId)
    (ho : o.op = .call { callee := .builtin .append, args := #[s, x], argTypes := #[t, t] }) (z : Value) (bytes : Nat)
    (ht : P.underlying t = some (.slice e)) (hi : (P.info? e).map (fun i => (i.zero, i.size, i.bytes)) = some (some z, 2, bytes)) (hzs : z.cells.size = 2) (hbb : bytes ≤ 64)
    (base n c : Nat) (A : Option Addr) (xs : List Value) (hs : a.eval s = .slice A n c) (hown : w0.ownsRow base e 2 (.slice A n c) n xs) (u v : Value) (h1 : u.oneCell' = true) (h2 : v.oneCell' = true) (hx : a.eval x = .slice (some ⟨w0.heap.size, 0, none⟩) 1 1)
    (hn : n ≤ 1099511627776) (hbase : base ≤ w0.heap.size)
    (hK : ∀ A' c' w', w'.ownsRow base e 2 (.slice A' (n + 1) c') (n + 1) (xs ++ [u, v]) → w0.grownBy w' (Value.slice A n c).ownBlock → Below base w0 w' → wpList P ops Q rest (a.put o.dst (.slice A' (n + 1) c')) w') :
    wpList P ops Q (o :: rest) a (w0.alloc (.cells #[u, v] e)) :=
  wpList_plain hgd fun _ hK' => wp_app2 w0 s x t e ho z bytes ht hi hzs hbb base n c A xs hs hown u v h1 h2 hx hn hbase fun A' c' w' h2 h3 h4 => hK' _ _ (hK A' c' w' h2 h3 h4)
theorem step_app2 {P : Program} (w0 : World) {ops : Array Oper} {o : Oper} {a : Act} {K : Act → World → Prop} {Q : Exit → Act → World → Prop} {E : Prop} (hgd : o.guard = none) (s x : Operand) (t e : TypeId)
    (ho : o.op = .call { callee := .builtin .append, args := #[s, x], argTypes := #[t, t] }) (z : Value) (bytes : Nat)
    (ht : P.underlying t = some (.slice e)) (hi : (P.info? e).map (fun i => (i.zero, i.size, i.bytes)) = some (some z, 2, bytes)) (hzs : z.cells.size = 2) (hbb : bytes ≤ 64)
    (base n c : Nat) (A : Option Addr) (xs : List Value) (hs : a.eval s = .slice A n c) (hown : w0.ownsRow base e 2 (.slice A n c) n xs) (u v : Value) (h1 : u.oneCell' = true) (h2 : v.oneCell' = true) (hx : a.eval x = .slice (some ⟨w0.heap.size, 0, none⟩) 1 1)
    (hn : n ≤ 1099511627776) (hbase : base ≤ w0.heap.size)
    (hK : ∀ A' c' w', w'.ownsRow base e 2 (.slice A' (n + 1) c') (n + 1) (xs ++ [u, v]) → w0.grownBy w' (Value.slice A n c).ownBlock → Below base w0 w' → K (a.put o.dst (.slice A' (n + 1) c')) w') :
    if Region.wanted o (yielded ops a.tmps) = true then Oper.wp P o a (w0.alloc (.cells #[u, v] e)) K Q else E := by
  have hw : Region.wanted o (yielded ops a.tmps) = true := by simp [Region.wanted, hgd]
  rw [if_pos hw]
  exact wp_app2 w0 s x t e ho z bytes ht hi hzs hbb base n c A xs hs hown u v h1 h2 hx hn hbase hK
theorem info_op2 : (Try.prog.info? 72).map (fun i => (i.zero, i.size, i.bytes)) = some (some (.agg #[.int .i64 0, .slice none 0 0]), 2, 32) := by kernel_rfl
/-- A slice of operations of the call's own, its blocks from lo on. -/
def PO (lo : Nat) (w : World) (v : Value) (xs : List OpM) (css : List (List Value)) (bls : List (List Nat)) : Prop :=
  Parts shOp 72 w v xs css bls ∧ w.ownsRow lo 72 2 v xs.length css.flatten ∧ Iv lo w.heap.size (obl v ++ bls.flatten)
theorem shOp_blk {w : World} {c : List Value} {x : OpM} {bk : List Nat} (h : shOp.own w c x bk) {b : Nat} (hb : b ∈ bk) : ∃ cur fr, w.heap[b]? = some (.cells cur 3 fr) := by
  obtain ⟨c0, c1, b0, b1, rfl, rfl, ⟨_, rfl, -, rfl⟩, ⟨v, rfl, ho, -, rfl⟩⟩ := h
  rw [List.nil_append, mem_obl] at hb
  rcases ho.2 with ⟨rfl, -⟩ | ⟨g, cap, cur, rfl, -, hh, -⟩
  · simp [Value.ownBlock] at hb
  · simp only [Value.ownBlock, Option.some.injEq] at hb
    subst hb
    exact ⟨_, _, hh⟩
theorem row_blk {w : World} {base size n : Nat} {e : TypeId} {v : Value} {xs : List Value} (h : w.ownsRow base e size v n xs) {b : Nat} (hb : b ∈ obl v) : ∃ cur fr, w.heap[b]? = some (.cells cur e fr) := by
  rw [mem_obl] at hb
  rcases h.2 with ⟨rfl, -⟩ | ⟨g, cap, cur, rfl, -, hh, -⟩
  · simp [Value.ownBlock] at hb
  · simp only [Value.ownBlock, Option.some.injEq] at hb
    subst hb
    exact ⟨_, _, hh⟩
theorem obl_nd (v : Value) : (obl v).Nodup := by
  unfold obl
  cases v.ownBlock <;> simp
section
variable {lo : Nat} {w : World} {v : Value} {xs : List OpM} {css : List (List Value)} {bls : List (List Nat)}
theorem PO.nil (lo : Nat) (w : World) : PO lo w (.slice none 0 0) [] [] [] :=
  ⟨⟨⟨rfl, .inl ⟨rfl, rfl⟩⟩, rfl, rfl, fun k c x bk h => by simp at h⟩, ⟨rfl, .inl ⟨rfl, rfl⟩⟩, Iv.nil _ _⟩
theorem PO.own (h : PO lo w v xs css bls) : (Sh.rows shOp 72).own w [v] xs (obl v ++ bls.flatten) := ⟨v, css, bls, rfl, h.1, rfl⟩
theorem PO.next {w' : World} (h : PO lo w v xs css bls) (hb : Below w.heap.size w w') : PO lo w' v xs css bls :=
  ⟨h.1.same fun b hb' => hb.block b (h.1.lt b hb'), own_next h.2.1 hb, h.2.2.mono (Nat.le_refl _) hb.size⟩
theorem PO.same {w' : World} (h : PO lo w v xs css bls) (hz : w.heap.size ≤ w'.heap.size) (hs : ∀ b ∈ obl v ++ bls.flatten, w'.heap[b]? = w.heap[b]?) : PO lo w' v xs css bls :=
  ⟨h.1.same hs, own_same h.2.1 fun b hb => hs b (List.mem_append_left _ (mem_obl.2 hb)), h.2.2.mono (Nat.le_refl _) hz⟩
theorem PO.mono {lo' : Nat} (h : PO lo w v xs css bls) (hl : lo' ≤ lo) : PO lo' w v xs css bls := ⟨h.1, own_mono h.2.1 hl, h.2.2.mono hl (Nat.le_refl _)⟩
theorem PO.push (h : PO lo w v xs css bls) {w1 : World} (hb : Below w.heap.size w w1) (hlo : lo ≤ w.heap.size) {c : List Value} {x : OpM} {bk : List Nat} (ho : shOp.own w1 c x bk) (hiv : Iv w.heap.size w1.heap.size bk) :
    w1.ownsRow lo 72 2 v xs.length css.flatten ∧ ∀ {w2 : World} {v' : Value}, w2.ownsRow lo 72 2 v' (xs.length + 1) (css.flatten ++ c) → w1.grownBy w2 v.ownBlock → PO lo w2 v' (xs ++ [x]) (css ++ [c]) (bls ++ [bk]) := by
  have h1 := h.next hb
  refine ⟨h1.2.1, fun {w2 v'} hown hg => ?_⟩
  have hnd := List.nodup_append.1 h.2.2.1
  have far : ∀ b, b ∈ bls.flatten → w2.heap[b]? = w1.heap[b]? := fun b hb' => hg.block b (h1.2.2.2 b (List.mem_append_right _ hb')).2 fun e => hnd.2.2 b (mem_obl.2 e.symm) b hb' rfl
  have far2 : ∀ b, b ∈ bk → w2.heap[b]? = w1.heap[b]? := fun b hb' => hg.block b (hiv.2 b hb').2 fun e => by
    have h3 := (h.2.2.2 b (List.mem_append_left _ (mem_obl.2 e.symm))).2
    have h4 := (hiv.2 b hb').1
    omega
  have hl1 := h.1.l1
  have hl2 := h.1.l2
  have hP : Parts shOp 72 w2 v' (xs ++ [x]) (css ++ [c]) (bls ++ [bk]) := by
    refine ⟨?_, by simp [hl1], by simp [hl2], fun k c' x' bk' e1 e2 e3 => ?_⟩
    · rw [List.length_append, List.flatten_append, List.flatten_singleton]
      exact own_mono hown (Nat.zero_le _)
    · by_cases hk : k < xs.length
      · rw [List.getElem?_append_left (by omega)] at e1 e2 e3
        exact shOp.osame (h1.1.el k c' x' bk' e1 e2 e3) fun b hb' => far b (List.mem_flatten.2 ⟨_, List.mem_of_getElem? e3, hb'⟩)
      · have hk2 : k = xs.length := by
          have := (List.getElem?_eq_some_iff.1 e2).1
          simp at this
          omega
        subst hk2
        rw [List.getElem?_append_right (by omega)] at e1 e2 e3
        simp [hl1, hl2] at e1 e2 e3
        subst e1
        subst e2
        subst e3
        exact shOp.osame ho far2
  refine ⟨hP, by rw [List.length_append, List.flatten_append]; simpa using hown, ?_⟩
  rw [List.flatten_append]
  have hz : w1.heap.size ≤ w2.heap.size := hg.size
  have hzb := hb.size
  refine ⟨?_, fun b hb' => ?_⟩
  · rw [List.nodup_append]
    refine ⟨obl_nd _, ?_, fun a ha b hb' e => ?_⟩
    · rw [List.nodup_append]
      refine ⟨hnd.2.1, by simpa using hiv.1, fun a ha b hb' e => ?_⟩
      simp at hb'
      subst e
      have h3 := (h.2.2.2 a (List.mem_append_right _ ha)).2
      have h4 := (hiv.2 a hb').1
      omega
    · subst e
      obtain ⟨cur, fr, hc⟩ := row_blk hown ha
      have hb2 : a ∈ (bls ++ [bk]).flatten := by rw [List.flatten_append]; exact hb'
      obtain ⟨bq, hbq, hab⟩ := List.mem_flatten.1 hb2
      obtain ⟨k, hk⟩ := List.getElem?_of_mem hbq
      have hkl := (List.getElem?_eq_some_iff.1 hk).1
      have e1 := hP.l1
      have e2 := hP.l2
      have ho2 := hP.el k _ _ bq (List.getElem?_eq_getElem (by omega)) (List.getElem?_eq_getElem (by omega)) hk
      obtain ⟨cur2, fr2, hc2⟩ := shOp_blk ho2 hab
      rw [hc] at hc2
      injection hc2 with hc2
      injection hc2 with _ h5
      exact absurd h5 (by decide)
  · rcases List.mem_append.1 hb' with hb' | hb'
    · exact hown.lt b (mem_obl.1 hb')
    · rcases List.mem_append.1 hb' with hb' | hb'
      · have := h.2.2.2 b (List.mem_append_right _ hb')
        omega
      · have := hiv.2 b (by simpa using hb')
        omega
theorem set_nil_same {α : Type} {l : List α} {i : Nat} {x : α} (h : l[i]? = some x) : l.set i x = l := by
  apply List.ext_getElem?
  intro j
  rw [List.getElem?_set]
  by_cases hj : i = j
  · subst hj
    rw [if_pos rfl, if_pos (List.getElem?_eq_some_iff.1 h).1, h]
  · rw [if_neg hj]
theorem PO.tab (h : PO lo w v xs css bls) {k : Nat} {a : Int} {t : List Int} (hk : xs[k]? = some (a, t)) (ht : t ≠ []) :
    ∃ g cap tb d, v = .slice (some ⟨g, 0, none⟩) xs.length cap ∧ w.cell? ⟨g, k * 2, none⟩ = some (.int .i64 a) ∧ w.cell? ⟨g, k * 2 + 1, none⟩ = some (.slice (some ⟨tb, 0, none⟩) t.length d) ∧ lo ≤ tb ∧ tb < w.heap.size ∧
      (∀ p, w.frozen? ⟨tb, p, none⟩ = false) ∧ (∀ p x, t[p]? = some x → w.cell? ⟨tb, p, none⟩ = some (.int .i64 x)) ∧ tb ∈ bls.flatten ∧
      ∀ p u, InR u → PO lo (w.setCell ⟨tb, p, none⟩ (.int .i64 u)) v (xs.set k (a, t.set p u)) css bls := by
  obtain ⟨hP, hrow, hiv⟩ := h
  have hkl := (List.getElem?_eq_some_iff.1 hk).1
  obtain ⟨g, cap, hv⟩ := hP.slice hkl
  have hl1 := hP.l1
  have hl2 := hP.l2
  have hcj : css[k]? = some (css[k]'(by omega)) := List.getElem?_eq_getElem (by omega)
  have hbj : bls[k]? = some (bls[k]'(by omega)) := List.getElem?_eq_getElem (by omega)
  generalize css[k]'(by omega) = cj at hcj
  generalize bls[k]'(by omega) = bk at hbj
  have ho := hP.el k cj (a, t) bk hcj hk hbj
  have ho0 := ho
  obtain ⟨c0, c1, b0, b1, rfl, rfl, ⟨_, rfl, ⟨rfl, lo0, hi0⟩, rfl⟩, ⟨tv, rfl, O1, hR, rfl⟩⟩ := ho
  obtain ⟨tb, d, rfl⟩ : ∃ tb d, tv = .slice (some ⟨tb, 0, none⟩) t.length d := by
    rcases O1.2 with ⟨-, h0⟩ | ⟨g', cap', cur, rfl, -⟩
    · exact absurd (List.length_eq_zero_iff.1 h0) ht
    · exact ⟨_, _, rfl⟩
  have htm : tb ∈ bls.flatten := List.mem_flatten.2 ⟨_, List.mem_of_getElem? hbj, by simp [obl, Value.ownBlock]⟩
  have hbd := hiv.2 tb (List.mem_append_right _ htm)
  have hgb : tb ∉ obl v := fun hh => (List.nodup_append.1 hiv.1).2.2 tb hh tb htm rfl
  refine ⟨g, cap, tb, d, hv, hP.cell hv hcj (i := 0) rfl, hP.cell hv hcj (i := 1) rfl, hbd.1, hbd.2, fun p => O1.frozenAt p, fun p x hx => ?_, htm, fun p u hu => ?_⟩
  · have hpl := (List.getElem?_eq_some_iff.1 hx).1
    rw [O1.cellAt p (by show p < t.length * 1; omega)]
    show (t.map (Value.int .i64))[p]? = _
    rw [List.getElem?_map, hx]
    rfl
  · have hfar : ∀ b, b ≠ tb → (w.setCell ⟨tb, p, none⟩ (.int .i64 u)).heap[b]? = w.heap[b]? := fun b hb => Below.heap_setCell w _ _ b hb
    have hO2 : (w.setCell ⟨tb, p, none⟩ (.int .i64 u)).ownsRow 0 3 1 (.slice (some ⟨tb, 0, none⟩) t.length d) (t.set p u).length (ints (t.set p u)) := by
      have := (O1.stored p (.int .i64 u)).1
      rw [ints_set] at this
      simpa using this
    have hRu : ∀ y ∈ t.set p u, InR y := fun y hy => by
      rcases List.mem_or_eq_of_mem_set hy with h1 | h1
      · exact hR y h1
      · rw [h1]; exact hu
    have hrow2 : (w.setCell ⟨tb, p, none⟩ (.int .i64 u)).ownsRow lo 72 2 v xs.length css.flatten := own_same hrow fun b hb => hfar b fun e => hgb (by rw [← e]; exact mem_obl.2 hb)
    have hset : setAll css.flatten (k * shOp.m) [.int .i64 a, .slice (some ⟨tb, 0, none⟩) t.length d] = css.flatten := by
      have F0 : css.flatten[k * 2]? = some (.int .i64 a) := by have := flat_get hP.all k 0 (by decide); rw [hcj] at this; exact this
      have F1 : css.flatten[k * 2 + 1]? = some (.slice (some ⟨tb, 0, none⟩) t.length d) := by have := flat_get hP.all k 1 (by decide); rw [hcj] at this; exact this
      show (css.flatten.set (k * 2) _).set (k * 2 + 1) _ = _
      rw [set_same F0, set_same F1]
    have hPP := hP.put (w' := w.setCell ⟨tb, p, none⟩ (.int .i64 u)) hiv.1 hbj (c' := [.int .i64 a, .slice (some ⟨tb, 0, none⟩) t.length d]) (x' := (a, t.set p u)) (by rw [hset]; exact own_mono hrow2 (Nat.zero_le _))
      ⟨[.int .i64 a], [.slice (some ⟨tb, 0, none⟩) t.length d], [], [tb], rfl, rfl, ⟨_, rfl, ⟨rfl, lo0, hi0⟩, rfl⟩, ⟨_, rfl, hO2, hRu, rfl⟩⟩
      (fun b hb hn => hfar b fun e => hn (by rw [e]; simp [obl, Value.ownBlock]))
    have ecss : css.set k [.int .i64 a, .slice (some ⟨tb, 0, none⟩) t.length d] = css := set_nil_same hcj
    rw [ecss] at hPP
    exact ⟨hPP, by rw [List.length_set]; exact hrow2, by
      have : (w.setCell ⟨tb, p, none⟩ (.int .i64 u)).heap.size = w.heap.size := by simp
      rw [this]
      exact hiv⟩
end
end Go.Proofs.Ytbkgbckbbnflpaa
