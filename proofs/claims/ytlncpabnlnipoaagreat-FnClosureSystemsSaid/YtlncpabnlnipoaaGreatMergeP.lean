
/- Plain laws of the stable sort's merging: rotations, the symmetric merge, runs. No program in this text. -/
import Derived.Sort.LotA
namespace Go.Proofs.YtlncpabnlnipoaaGreat
open Go.Sort

section
variable {α : Type} [Inhabited α]
/-- e is d with the parts [a, m) and [m, b) exchanged. -/
structure Rot (d : Array α) (a m b : Nat) (e : Array α) : Prop where
  perm : PermIn a b d e
  lft : ∀ k, k < b - m → e[a + k]! = d[m + k]!
  rgt : ∀ k, k < m - a → e[a + (b - m) + k]! = d[a + k]!
theorem Rot.size {d : Array α} {a m b : Nat} {e : Array α} (h : Rot d a m b e) : e.size = d.size := h.perm.1
theorem Rot.out {d : Array α} {a m b : Nat} {e : Array α} (h : Rot d a m b e) {k : Nat} (hk : k < a ∨ b ≤ k) : e[k]! = d[k]! := h.perm.2.1 k hk
theorem permIn_in {d e : Array α} {a b a' b' : Nat} (h : PermIn a b d e) (h1 : a' ≤ a) (h2 : b ≤ b') (h3 : b' ≤ d.size) : PermIn a' b' d e := permIn_mono d e a b a' b' h1 h2 h3 h
/-- swap's first k rounds of the exchange of two ranges. -/
structure SwR (d : Array α) (a b k : Nat) (e : Array α) : Prop where
  size : e.size = d.size
  perm : ∀ lo hi, lo ≤ a → a ≤ b → b + k ≤ hi → hi ≤ d.size → PermIn lo hi d e
  lft : ∀ t, t < k → e[a + t]! = d[b + t]!
  rgt : ∀ t, t < k → e[b + t]! = d[a + t]!
  oth : ∀ t, ¬ (a ≤ t ∧ t < a + k) → ¬ (b ≤ t ∧ t < b + k) → e[t]! = d[t]!
theorem SwR.zero (d : Array α) (a b : Nat) : SwR d a b 0 d := ⟨rfl, fun lo hi _ _ _ _ => permIn_refl d lo hi, fun t h => by omega, fun t h => by omega, fun _ _ _ => rfl⟩
theorem SwR.step {d e : Array α} {a b k n : Nat} (h : SwR d a b k e) (hk : k < n) (hab : a + n ≤ b) (hb : b + n ≤ d.size) : SwR d a b (k + 1) (swp e (a + k) (b + k)) := by
  have hs := h.size
  have g := swp_get e (show a + k < e.size by omega) (show b + k < e.size by omega)
  constructor
  · rw [size_swp]; exact hs
  · intro lo hi h1 h2 h3 h4
    exact permIn_trans _ _ _ _ _ (h.perm lo hi h1 h2 (by omega) h4) (swp_permIn e lo hi (a + k) (b + k) (by omega) (by omega) (by omega) (by omega) (by omega))
  · intro t ht
    rw [g, if_neg (by omega)]
    by_cases e1 : t = k
    · subst e1; rw [if_pos rfl]; exact h.oth _ (by omega) (by omega)
    · rw [if_neg (by omega)]; exact h.lft t (by omega)
  · intro t ht
    rw [g]
    by_cases e1 : t = k
    · subst e1; rw [if_pos rfl]; exact h.oth _ (by omega) (by omega)
    · rw [if_neg (by omega), if_neg (by omega)]; exact h.rgt t (by omega)
  · intro t h1 h2
    rw [g, if_neg (by omega), if_neg (by omega)]
    exact h.oth t (by omega) (by omega)
/-- The three rounds of a rotation. -/
theorem rot_gt {d e : Array α} {m i j : Nat} (hij : j < i) (him : i ≤ m) (hb : m + j ≤ d.size) (h : SwR d (m - i) m j e) {T : Array α} (hT : Rot e (m - (i - j)) m (m + j) T) : Rot d (m - i) m (m + j) T := by
  have hs := h.size
  refine ⟨permIn_trans _ _ _ _ _ (h.perm (m - i) (m + j) (Nat.le_refl _) (by omega) (Nat.le_refl _) hb) (permIn_in hT.perm (by omega) (Nat.le_refl _) (by omega)), ?_, ?_⟩
  · intro k hk
    rw [hT.out (by omega)]
    exact h.lft k (by omega)
  · intro k hk
    by_cases h1 : k < j
    · have := hT.lft k (by omega)
      rw [show m - i + (m + j - m) + k = m - (i - j) + k by omega, this]
      exact h.rgt k h1
    · have := hT.rgt (k - j) (by omega)
      rw [show m - i + (m + j - m) + k = m - (i - j) + (m + j - m) + (k - j) by omega, this]
      rw [show m - (i - j) + (k - j) = m - i + k by omega]
      exact h.oth _ (by omega) (by omega)
theorem rot_lt {d e : Array α} {m i j : Nat} (hij : i < j) (him : i ≤ m) (hb : m + j ≤ d.size) (h : SwR d (m - i) (m + j - i) i e) {T : Array α} (hT : Rot e (m - i) m (m + (j - i)) T) : Rot d (m - i) m (m + j) T := by
  have hs := h.size
  refine ⟨permIn_trans _ _ _ _ _ (h.perm (m - i) (m + j) (Nat.le_refl _) (by omega) (by omega) hb) (permIn_in hT.perm (by omega) (by omega) (by omega)), ?_, ?_⟩
  · intro k hk
    by_cases h1 : k < j - i
    · rw [hT.lft k (by omega)]
      exact h.oth _ (by omega) (by omega)
    · have := hT.rgt (k - (j - i)) (by omega)
      rw [show m - i + k = m - i + (m + (j - i) - m) + (k - (j - i)) by omega, this, h.lft _ (by omega)]
      rw [show m + j - i + (k - (j - i)) = m + k by omega]
  · intro k hk
    have := hT.out (k := m - i + (m + j - m) + k) (by omega)
    rw [this, show m - i + (m + j - m) + k = m + j - i + k by omega]
    exact h.rgt k (by omega)
theorem rot_eq {d e : Array α} {m i : Nat} (him : i ≤ m) (hb : m + i ≤ d.size) (h : SwR d (m - i) m i e) : Rot d (m - i) m (m + i) e := by
  refine ⟨h.perm _ _ (Nat.le_refl _) (by omega) (Nat.le_refl _) hb, ?_, ?_⟩
  · intro k hk
    exact h.lft k (by omega)
  · intro k hk
    rw [show m - i + (m + i - m) + k = m + k by omega]
    exact h.rgt k (by omega)
theorem Rot.self_l (d : Array α) (m b : Nat) : Rot d m m b d := ⟨permIn_refl _ _ _, fun _ _ => rfl, fun k hk => by omega⟩
theorem Rot.self_r (d : Array α) (a m : Nat) : Rot d a m m d := ⟨permIn_refl _ _ _, fun k hk => by omega, fun k hk => by rw [show a + (m - m) + k = a + k by omega]⟩
/-- One swap more of the way of data[a] upward. -/
theorem rot_up {d e : Array α} {a k : Nat} (ha : a ≤ k) (hb : k + 1 < d.size) (h : Rot d a (a + 1) (k + 1) e) : Rot d a (a + 1) (k + 2) (swp e k (k + 1)) := by
  have hs := h.size
  have g := swp_get e (show k < e.size by omega) (show k + 1 < e.size by omega)
  refine ⟨permIn_trans _ _ _ _ _ (permIn_in h.perm (Nat.le_refl _) (by omega) (by omega)) (swp_permIn e a (k + 2) k (k + 1) ha (by omega) (by omega) (by omega) (by omega)), ?_, ?_⟩
  · intro t ht
    rw [g, if_neg (by omega)]
    by_cases e1 : a + t = k
    · rw [if_pos e1, h.out (by omega), show a + 1 + t = k + 1 by omega]
    · rw [if_neg e1]; exact h.lft t (by omega)
  · intro t ht
    rw [g, if_pos (by omega)]
    have := h.rgt t ht
    rw [show a + (k + 1 - (a + 1)) + t = k by omega] at this
    exact this
/-- One swap more of the way of data[m] downward. -/
theorem rot_down {d e : Array α} {m k : Nat} (hk : k < m) (hb : m < d.size) (h : Rot d (k + 1) m (m + 1) e) : Rot d k m (m + 1) (swp e (k + 1) k) := by
  have hs := h.size
  have g := swp_get e (show k + 1 < e.size by omega) (show k < e.size by omega)
  refine ⟨permIn_trans _ _ _ _ _ (permIn_in h.perm (by omega) (Nat.le_refl _) (by omega)) (swp_permIn e k (m + 1) (k + 1) k (by omega) (by omega) (by omega) (by omega) (by omega)), ?_, ?_⟩
  · intro t ht
    obtain rfl : t = 0 := by omega
    rw [g, if_pos (by omega)]
    exact h.lft 0 (by omega)
  · intro t ht
    rw [g, if_neg (by omega)]
    by_cases e1 : t = 0
    · subst e1
      rw [if_pos (by omega), h.out (by omega)]
      rfl
    · rw [if_neg (by omega)]
      have := h.rgt (t - 1) (by omega)
      rw [show k + 1 + (m + 1 - m) + (t - 1) = k + (m + 1 - m) + t by omega, show k + 1 + (t - 1) = k + t by omega] at this
      exact this
/-- An element of a rotated part: where it was. -/
theorem Rot.get_l {d e : Array α} {a m b i : Nat} (h : Rot d a m b e) (h1 : a ≤ i) (h2 : i < a + (b - m)) : e[i]! = d[m + (i - a)]! := by
  have := h.lft (i - a) (by omega)
  rwa [show a + (i - a) = i by omega] at this
theorem Rot.get_r {d e : Array α} {a m b i : Nat} (h : Rot d a m b e) (hab : a ≤ m) (h1 : a + (b - m) ≤ i) (h2 : i < b) : e[i]! = d[i - (b - m)]! := by
  have := h.rgt (i - (a + (b - m))) (by omega)
  rwa [show a + (b - m) + (i - (a + (b - m))) = i by omega, show a + (i - (a + (b - m))) = i - (b - m) by omega] at this

variable {lt : α → α → Bool}
theorem sorted_le (hS : SWO lt) {d : Array α} {a b i j : Nat} (h : SortedIn lt a b d) (h1 : a ≤ i) (h2 : i ≤ j) (h3 : j < b) : lt d[j]! d[i]! = false := by
  by_cases e : i = j
  · subst e; exact hS.irrefl _
  · exact h i j h1 (by omega) h3
/-- The left run has one element: it goes behind all that are less. -/
theorem one_left (hS : SWO lt) {d e : Array α} {a b i : Nat} (hi : a + 1 ≤ i) (hib : i ≤ b) (hs : SortedIn lt (a + 1) b d) (hl : ∀ k, a + 1 ≤ k → k < i → lt d[k]! d[a]! = true) (hg : ∀ k, i ≤ k → k < b → lt d[k]! d[a]! = false) (h : Rot d a (a + 1) i e) : SortedIn lt a b e := by
  have hm : e[i - 1]! = d[a]! := by
    have := h.get_r (i := i - 1) (by omega) (by omega) (by omega)
    rw [this, show i - 1 - (i - (a + 1)) = a by omega]
  have hL : ∀ k, a ≤ k → k < i - 1 → e[k]! = d[k + 1]! := fun k h1 h2 => by
    rw [h.get_l h1 (by omega), show a + 1 + (k - a) = k + 1 by omega]
  have hR : ∀ k, i ≤ k → e[k]! = d[k]! := fun k h1 => h.out (by omega)
  intro p q hp hpq hq
  by_cases q1 : q < i - 1
  · rw [hL q (by omega) q1, hL p hp (by omega)]
    exact hs _ _ (by omega) (by omega) (by omega)
  · by_cases q2 : q = i - 1
    · rw [q2, hm, hL p hp (by omega)]
      exact hS.asymmA (hl _ (by omega) (by omega))
    · rw [hR q (by omega)]
      by_cases p1 : p < i - 1
      · rw [hL p hp p1]
        exact hs _ _ (by omega) (by omega) hq
      · by_cases p2 : p = i - 1
        · rw [p2, hm]
          exact hg _ (by omega) hq
        · rw [hR p (by omega)]
          exact hs _ _ (by omega) hpq hq
/-- The right run has one element: it goes before all that are greater. -/
theorem one_right (hS : SWO lt) {d e : Array α} {a m i : Nat} (hi : a ≤ i) (him : i ≤ m) (hs : SortedIn lt a m d) (hl : ∀ k, a ≤ k → k < i → lt d[m]! d[k]! = false) (hg : ∀ k, i ≤ k → k < m → lt d[m]! d[k]! = true) (h : Rot d i m (m + 1) e) : SortedIn lt a (m + 1) e := by
  have hm : e[i]! = d[m]! := by
    have := h.get_l (i := i) (by omega) (by omega)
    rw [this, show m + (i - i) = m by omega]
  have hL : ∀ k, k < i → e[k]! = d[k]! := fun k h1 => h.out (by omega)
  have hR : ∀ k, i < k → k < m + 1 → e[k]! = d[k - 1]! := fun k h1 h2 => by
    rw [h.get_r (by omega) (by omega) h2, show k - (m + 1 - m) = k - 1 by omega]
  intro p q hp hpq hq
  by_cases q1 : q < i
  · rw [hL q q1, hL p (by omega)]
    exact hs _ _ hp hpq (by omega)
  · by_cases q2 : q = i
    · rw [q2, hm, hL p (by omega)]
      exact hl _ hp (by omega)
    · rw [hR q (by omega) hq]
      by_cases p1 : p < i
      · rw [hL p p1]
        exact hs _ _ hp (by omega) (by omega)
      · by_cases p2 : p = i
        · rw [p2, hm]
          exact hS.asymmA (hg _ (by omega) (by omega))
        · rw [hR p (by omega) (by omega)]
          exact hs _ _ (by omega) (by omega) (by omega)
theorem one_left' (hS : SWO lt) {d e : Array α} {a b i : Nat} (hi : a + 1 ≤ i) (hib : i ≤ b) (hs : SortedIn lt (a + 1) b d) (hl : i = a + 1 ∨ lt d[i - 1]! d[a]! = true) (hg : i = b ∨ lt d[i]! d[a]! = false) (h : Rot d a (a + 1) i e) : SortedIn lt a b e := by
  refine one_left hS hi hib hs (fun k h1 h2 => ?_) (fun k h1 h2 => ?_) h
  · rcases hl with hl | hl
    · omega
    · cases hk : lt d[k]! d[a]! with
      | true => rfl
      | false =>
        have := hS.ntrans _ _ _ (sorted_le hS hs (i := k) (j := i - 1) h1 (by omega) (by omega)) hk
        rw [hl] at this
        cases this
  · rcases hg with hg | hg
    · omega
    · exact hS.ntrans _ _ _ (sorted_le hS hs (i := i) (j := k) hi h1 h2) hg
theorem one_right' (hS : SWO lt) {d e : Array α} {a m i : Nat} (hi : a ≤ i) (him : i ≤ m) (hs : SortedIn lt a m d) (hl : i = a ∨ lt d[m]! d[i - 1]! = false) (hg : i = m ∨ lt d[m]! d[i]! = true) (h : Rot d i m (m + 1) e) : SortedIn lt a (m + 1) e := by
  refine one_right hS hi him hs (fun k h1 h2 => ?_) (fun k h1 h2 => ?_) h
  · rcases hl with hl | hl
    · omega
    · exact hS.ntrans _ _ _ hl (sorted_le hS hs (i := k) (j := i - 1) h1 (by omega) (by omega))
  · rcases hg with hg | hg
    · omega
    · cases hk : lt d[m]! d[k]! with
      | true => rfl
      | false =>
        have := hS.ntrans _ _ _ hk (sorted_le hS hs (i := i) (j := k) hi h1 h2)
        rw [hg] at this
        cases this
/-- What the search for the cut has found. -/
structure Cut (lt : α → α → Bool) (d : Array α) (a m b mid s : Nat) : Prop where
  lo : a ≤ s
  hi : s ≤ m
  hmid : s ≤ mid
  hend : mid + m - s ≤ b
  le : s = a ∨ mid + m - s = b ∨ lt d[mid + m - s]! d[s - 1]! = false
  gt : s = m ∨ s = mid ∨ lt d[mid + m - s - 1]! d[s]! = true
/-- Behind the rotation: the four runs, and that the lower half lies below the upper one. -/
theorem cut_runs (hS : SWO lt) {d e : Array α} {a m b mid s : Nat} (ham : a ≤ m) (hmb : m ≤ b) (hmd : mid ≤ b) (h1 : SortedIn lt a m d) (h2 : SortedIn lt m b d) (C : Cut lt d a m b mid s) (h : Rot d s m (mid + m - s) e) :
    SortedIn lt a s e ∧ SortedIn lt s mid e ∧ SortedIn lt mid (mid + m - s) e ∧ SortedIn lt (mid + m - s) b e ∧ (∀ i j, a ≤ i → i < mid → mid ≤ j → j < b → lt e[j]! e[i]! = false) := by
  obtain ⟨c1, c2, c3, c4, c5, c6⟩ := C
  have E1 : ∀ k, k < s → e[k]! = d[k]! := fun k hk => h.out (by omega)
  have E2 : ∀ k, s ≤ k → k < mid → e[k]! = d[m + (k - s)]! := fun k hk hk' => h.get_l hk (by omega)
  have E3 : ∀ k, mid ≤ k → k < mid + m - s → e[k]! = d[k - mid + s]! := fun k hk hk' => by
    rw [h.get_r (by omega) (by omega) hk', show k - (mid + m - s - m) = k - mid + s by omega]
  have E4 : ∀ k, mid + m - s ≤ k → e[k]! = d[k]! := fun k hk => h.out (by omega)
  refine ⟨?_, ?_, ?_, ?_, ?_⟩
  · intro p q hp hpq hq
    rw [E1 q hq, E1 p (by omega)]
    exact h1 _ _ hp hpq (by omega)
  · intro p q hp hpq hq
    rw [E2 q (by omega) hq, E2 p hp (by omega)]
    exact h2 _ _ (by omega) (by omega) (by omega)
  · intro p q hp hpq hq
    rw [E3 q (by omega) hq, E3 p hp (by omega)]
    exact h1 _ _ (by omega) (by omega) (by omega)
  · intro p q hp hpq hq
    rw [E4 q (by omega), E4 p hp]
    exact h2 _ _ (by omega) hpq hq
  · intro i j hi hi' hj hj'
    by_cases j1 : j < mid + m - s
    · rw [E3 j hj j1]
      by_cases i1 : i < s
      · rw [E1 i i1]
        exact h1 _ _ hi (by omega) (by omega)
      · rw [E2 i (by omega) hi']
        -- x in the right run's first part, y in the left run's last part
        rcases c6 with c6 | c6 | c6
        · omega
        · omega
        · have g1 : lt d[s]! d[mid + m - s - 1]! = false := hS.asymmA c6
          have g2 := sorted_le hS h2 (i := m + (i - s)) (j := mid + m - s - 1) (by omega) (by omega) (by omega)
          have g3 := sorted_le hS h1 (i := s) (j := j - mid + s) (by omega) (by omega) (by omega)
          exact hS.ntrans _ _ _ g3 (hS.ntrans _ _ _ g1 g2)
    · rw [E4 j (by omega)]
      by_cases i1 : i < s
      · rw [E1 i i1]
        rcases c5 with c5 | c5 | c5
        · omega
        · omega
        · have g2 := sorted_le hS h1 (i := i) (j := s - 1) (by omega) (by omega) (by omega)
          have g3 := sorted_le hS h2 (i := mid + m - s) (j := j) (by omega) (by omega) (by omega)
          exact hS.ntrans _ _ _ g3 (hS.ntrans _ _ _ c5 g2)
      · rw [E2 i (by omega) hi']
        exact h2 _ _ (by omega) (by omega) (by omega)
/-- Two halves, each sorted behind its own merge. -/
theorem halves {d e f : Array α} {a mid b : Nat} (hb : b ≤ d.size) (hamid : a ≤ mid) (hmb : mid ≤ b) (hx : ∀ i j, a ≤ i → i < mid → mid ≤ j → j < b → lt d[j]! d[i]! = false)
    (p1 : PermIn a mid d e) (s1 : SortedIn lt a mid e) (p2 : PermIn mid b e f) (s2 : SortedIn lt mid b f) : PermIn a b d f ∧ SortedIn lt a b f := by
  have hse : e.size = d.size := p1.1
  refine ⟨permIn_trans _ _ _ _ _ (permIn_in p1 (Nat.le_refl _) hmb hb) (permIn_in p2 hamid (Nat.le_refl _) (by omega)), ?_⟩
  have hx1 : ∀ j, mid ≤ j → j < b → ∀ i, a ≤ i → i < mid → lt e[j]! e[i]! = false := fun j hj hj' => by
    rw [p1.2.1 j (by omega)]
    exact permIn_all d e a mid (fun x => lt d[j]! x = false) (by omega) p1 (fun i hi hi' => hx i j hi hi' hj hj')
  have hx2 : ∀ i, a ≤ i → i < mid → ∀ j, mid ≤ j → j < b → lt f[j]! f[i]! = false := fun i hi hi' => by
    rw [p2.2.1 i (by omega)]
    exact permIn_all e f mid b (fun y => lt y e[i]! = false) (by omega) p2 (fun j hj hj' => hx1 j hj hj' i hi hi')
  intro p q hp hpq hq
  by_cases q1 : q < mid
  · rw [p2.2.1 q (by omega), p2.2.1 p (by omega)]
    exact s1 _ _ hp hpq q1
  · by_cases p1' : p < mid
    · exact hx2 p hp p1' q (by omega) hq
    · exact s2 _ _ (by omega) hpq hq
/-- A run of one element, or none. -/
theorem sorted_few (d : Array α) {a b : Nat} (h : b ≤ a + 1) : SortedIn lt a b d := fun i j h1 h2 h3 => by omega
theorem sorted_part {d : Array α} {a b a' b' : Nat} (h : SortedIn lt a b d) (h1 : a ≤ a') (h2 : b' ≤ b) : SortedIn lt a' b' d := fun i j k1 k2 k3 => h i j (by omega) k2 (by omega)
theorem sorted_out {d e : Array α} {a b a' b' : Nat} (h : SortedIn lt a' b' d) (p : PermIn a b d e) (h1 : b' ≤ a ∨ b ≤ a') : SortedIn lt a' b' e := fun i j k1 k2 k3 => by
  rw [p.2.1 j (by omega), p.2.1 i (by omega)]
  exact h i j k1 k2 k3

/-! ## Runs -/
/-- From a on, runs of k elements are sorted, up to n. -/
def Runs (lt : α → α → Bool) (k a n : Nat) (d : Array α) : Prop := ∀ t, SortedIn lt (a + t * k) (min (a + t * k + k) n) d
theorem Runs.head {k a n : Nat} {d : Array α} (h : Runs lt k a n d) : SortedIn lt a (min (a + k) n) d := by
  have := h 0
  rwa [Nat.zero_mul, Nat.add_zero] at this
theorem Runs.next {k a n : Nat} {d : Array α} (h : Runs lt k a n d) : Runs lt k (a + k) n d := fun t => by
  have := h (t + 1)
  rw [Nat.succ_mul] at this
  rwa [show a + k + t * k = a + (t * k + k) by omega]
theorem Runs.cons {k a n : Nat} {d : Array α} (h0 : SortedIn lt a (min (a + k) n) d) (h : Runs lt k (a + k) n d) : Runs lt k a n d := fun t => by
  cases t with
  | zero => rwa [Nat.zero_mul, Nat.add_zero]
  | succ t =>
    have := h t
    rw [Nat.succ_mul]
    rwa [show a + (t * k + k) = a + k + t * k by omega]
theorem Runs.nil {k a n : Nat} (d : Array α) (h : n ≤ a + 1) : Runs lt k a n d := fun t => sorted_few d (by omega)
theorem Runs.out {k a n lo hi : Nat} {d e : Array α} (h : Runs lt k a n d) (p : PermIn lo hi d e) (hp : hi ≤ a) : Runs lt k a n e := fun t => sorted_out (h t) p (by omega)
/-- The runs behind the last whole one. -/
theorem Runs.one {k a n : Nat} {d : Array α} (hs : SortedIn lt a n d) (hn : n ≤ a + k) : Runs lt k a n d := Runs.cons (by rwa [show min (a + k) n = n by omega]) (Runs.nil d (by omega))
/-- Up to a, runs of k elements are sorted: what remains decides. -/
def DoneR (lt : α → α → Bool) (k a n : Nat) (d : Array α) : Prop := ∀ e : Array α, (∀ i, i < a → e[i]! = d[i]!) → Runs lt k a n e → Runs lt k 0 n e
theorem DoneR.zero (k n : Nat) (d : Array α) : DoneR lt k 0 n d := fun _ _ h => h
theorem DoneR.step {k a n : Nat} {d e : Array α} (h : DoneR lt k a n d) (p : PermIn a (a + k) d e) (hs : SortedIn lt a (min (a + k) n) e) : DoneR lt k (a + k) n e := fun f hf hr =>
  h f (fun i hi => by rw [hf i (by omega)]; exact p.2.1 i (by omega)) (Runs.cons (fun i j h1 h2 h3 => by rw [hf j (by omega), hf i (by omega)]; exact hs i j h1 h2 h3) hr)
end
end Go.Proofs.YtlncpabnlnipoaaGreat
