/- Parts of the proof: MergeP, Stab, Stab2, Stab3, SortR, Mat, Kit, Irr, SysF, Free, FreeP, SubP, ClosP2, CsP, CloG, Order, IrrWalk, Poset, Tt, IsOrder, Gb, DsP, BitsT, SubT, Bl, Mk, DsI. -/
import Derived.Sort.LotA
import Derived.Test.YtkmgbdljiajlaaaGreatDoorQ1
import Derived.Shelf.GgSortMore.Stable
import Derived.Deep.RegionHeld3
import Derived.Deep.DeepCutAuto
import Derived.Test.YtkmgbdljiajlaaaGreatDoorShelf
import Derived.Sort.OwnSorted
import Derived.BigQuiet
import Derived.BigGuardPart
namespace Go.Proofs.YtkmgbdljiajlaaaGreatDoor
open Go.Sort

section
variable {α : Type} [Inhabited α]
/-- e is d with the parts [a, m) and [m, b) exchanged. -/
structure Rot (d : Array α) (a m b : Nat) (e : Array α) : Prop where
  perm : PermIn a b d e
  lft : ∀ k, k < b - m → e[a + k]! = d[m + k]!
  rgt : ∀ k, k < m - a → e[a + (b - m) + k]! = d[a + k]!
theorem Rot.size {d : Array α} {a m b : Nat} {e : Array α} (h : Rot d a m b e) : e.size = d.size := h.perm.1
theorem Rot.out {d : Array α} {a m b : Nat} {e : Array α} (h : Rot d a m b e) {k : Nat} (hk : k < a ∨ b ≤ k) : e[k]! = d[k]! := h.perm.2.1 k hk
theorem permIn_in {d e : Array α} {a b a' b' : Nat} (h : PermIn a b d e) (h1 : a' ≤ a) (h2 : b ≤ b') (h3 : b' ≤ d.size) : PermIn a' b' d e := permIn_mono d e a b a' b' h1 h2 h3 h
/-- swap's first k rounds of the exchange of two ranges. -/
structure SwR (d : Array α) (a b k : Nat) (e : Array α) : Prop where
  size : e.size = d.size
  perm : ∀ lo hi, lo ≤ a → a ≤ b → b + k ≤ hi → hi ≤ d.size → PermIn lo hi d e
  lft : ∀ t, t < k → e[a + t]! = d[b + t]!
  rgt : ∀ t, t < k → e[b + t]! = d[a + t]!
  oth : ∀ t, ¬ (a ≤ t ∧ t < a + k) → ¬ (b ≤ t ∧ t < b + k) → e[t]! = d[t]!
theorem SwR.zero (d : Array α) (a b : Nat) : SwR d a b 0 d := ⟨rfl, fun lo hi _ _ _ _ => permIn_refl d lo hi, fun t h => by omega, fun t h => by omega, fun _ _ _ => rfl⟩
theorem SwR.step {d e : Array α} {a b k n : Nat} (h : SwR d a b k e) (hk : k < n) (hab : a + n ≤ b) (hb : b + n ≤ d.size) : SwR d a b (k + 1) (swp e (a + k) (b + k)) := by
  have hs := h.size
  have g := swp_get e (show a + k < e.size by omega) (show b + k < e.size by omega)
  constructor
  · rw [size_swp]; exact hs
  · intro lo hi h1 h2 h3 h4
    exact permIn_trans _ _ _ _ _ (h.perm lo hi h1 h2 (by omega) h4) (swp_permIn e lo hi (a + k) (b + k) (by omega) (by omega) (by omega) (by omega) (by omega))
  · intro t ht
    rw [g, if_neg (by omega)]
    by_cases e1 : t = k
    · subst e1; rw [if_pos rfl]; exact h.oth _ (by omega) (by omega)
    · rw [if_neg (by omega)]; exact h.lft t (by omega)
  · intro t ht
    rw [g]
    by_cases e1 : t = k
    · subst e1; rw [if_pos rfl]; exact h.oth _ (by omega) (by omega)
    · rw [if_neg (by omega), if_neg (by omega)]; exact h.rgt t (by omega)
  · intro t h1 h2
    rw [g, if_neg (by omega), if_neg (by omega)]
    exact h.oth t (by omega) (by omega)
/-- The three rounds of a rotation. -/
theorem rot_gt {d e : Array α} {m i j : Nat} (hij : j < i) (him : i ≤ m) (hb : m + j ≤ d.size) (h : SwR d (m - i) m j e) {T : Array α} (hT : Rot e (m - (i - j)) m (m + j) T) : Rot d (m - i) m (m + j) T := by
  have hs := h.size
  refine ⟨permIn_trans _ _ _ _ _ (h.perm (m - i) (m + j) (Nat.le_refl _) (by omega) (Nat.le_refl _) hb) (permIn_in hT.perm (by omega) (Nat.le_refl _) (by omega)), ?_, ?_⟩
  · intro k hk
    rw [hT.out (by omega)]
    exact h.lft k (by omega)
  · intro k hk
    by_cases h1 : k < j
    · have := hT.lft k (by omega)
      rw [show m - i + (m + j - m) + k = m - (i - j) + k by omega, this]
      exact h.rgt k h1
    · have := hT.rgt (k - j) (by omega)
      rw [show m - i + (m + j - m) + k = m - (i - j) + (m + j - m) + (k - j) by omega, this]
      rw [show m - (i - j) + (k - j) = m - i + k by omega]
      exact h.oth _ (by omega) (by omega)
theorem rot_lt {d e : Array α} {m i j : Nat} (hij : i < j) (him : i ≤ m) (hb : m + j ≤ d.size) (h : SwR d (m - i) (m + j - i) i e) {T : Array α} (hT : Rot e (m - i) m (m + (j - i)) T) : Rot d (m - i) m (m + j) T := by
  have hs := h.size
  refine ⟨permIn_trans _ _ _ _ _ (h.perm (m - i) (m + j) (Nat.le_refl _) (by omega) (by omega) hb) (permIn_in hT.perm (by omega) (by omega) (by omega)), ?_, ?_⟩
  · intro k hk
    by_cases h1 : k < j - i
    · rw [hT.lft k (by omega)]
      exact h.oth _ (by omega) (by omega)
    · have := hT.rgt (k - (j - i)) (by omega)
      rw [show m - i + k = m - i + (m + (j - i) - m) + (k - (j - i)) by omega, this, h.lft _ (by omega)]
      rw [show m + j - i + (k - (j - i)) = m + k by omega]
  · intro k hk
    have := hT.out (k := m - i + (m + j - m) + k) (by omega)
    rw [this, show m - i + (m + j - m) + k = m + j - i + k by omega]
    exact h.rgt k (by omega)
theorem rot_eq {d e : Array α} {m i : Nat} (him : i ≤ m) (hb : m + i ≤ d.size) (h : SwR d (m - i) m i e) : Rot d (m - i) m (m + i) e := by
  refine ⟨h.perm _ _ (Nat.le_refl _) (by omega) (Nat.le_refl _) hb, ?_, ?_⟩
  · intro k hk
    exact h.lft k (by omega)
  · intro k hk
    rw [show m - i + (m + i - m) + k = m + k by omega]
    exact h.rgt k (by omega)
theorem Rot.self_l (d : Array α) (m b : Nat) : Rot d m m b d := ⟨permIn_refl _ _ _, fun _ _ => rfl, fun k hk => by omega⟩
theorem Rot.self_r (d : Array α) (a m : Nat) : Rot d a m m d := ⟨permIn_refl _ _ _, fun k hk => by omega, fun k hk => by rw [show a + (m - m) + k = a + k by omega]⟩
/-- One swap more of the way of data[a] upward. -/
theorem rot_up {d e : Array α} {a k : Nat} (ha : a ≤ k) (hb : k + 1 < d.size) (h : Rot d a (a + 1) (k + 1) e) : Rot d a (a + 1) (k + 2) (swp e k (k + 1)) := by
  have hs := h.size
  have g := swp_get e (show k < e.size by omega) (show k + 1 < e.size by omega)
  refine ⟨permIn_trans _ _ _ _ _ (permIn_in h.perm (Nat.le_refl _) (by omega) (by omega)) (swp_permIn e a (k + 2) k (k + 1) ha (by omega) (by omega) (by omega) (by omega)), ?_, ?_⟩
  · intro t ht
    rw [g, if_neg (by omega)]
    by_cases e1 : a + t = k
    · rw [if_pos e1, h.out (by omega), show a + 1 + t = k + 1 by omega]
    · rw [if_neg e1]; exact h.lft t (by omega)
  · intro t ht
    rw [g, if_pos (by omega)]
    have := h.rgt t ht
    rw [show a + (k + 1 - (a + 1)) + t = k by omega] at this
    exact this
/-- One swap more of the way of data[m] downward. -/
theorem rot_down {d e : Array α} {m k : Nat} (hk : k < m) (hb : m < d.size) (h : Rot d (k + 1) m (m + 1) e) : Rot d k m (m + 1) (swp e (k + 1) k) := by
  have hs := h.size
  have g := swp_get e (show k + 1 < e.size by omega) (show k < e.size by omega)
  refine ⟨permIn_trans _ _ _ _ _ (permIn_in h.perm (by omega) (Nat.le_refl _) (by omega)) (swp_permIn e k (m + 1) (k + 1) k (by omega) (by omega) (by omega) (by omega) (by omega)), ?_, ?_⟩
  · intro t ht
    obtain rfl : t = 0 := by omega
    rw [g, if_pos (by omega)]
    exact h.lft 0 (by omega)
  · intro t ht
    rw [g, if_neg (by omega)]
    by_cases e1 : t = 0
    · subst e1
      rw [if_pos (by omega), h.out (by omega)]
      rfl
    · rw [if_neg (by omega)]
      have := h.rgt (t - 1) (by omega)
      rw [show k + 1 + (m + 1 - m) + (t - 1) = k + (m + 1 - m) + t by omega, show k + 1 + (t - 1) = k + t by omega] at this
      exact this
/-- An element of a rotated part: where it was. -/
theorem Rot.get_l {d e : Array α} {a m b i : Nat} (h : Rot d a m b e) (h1 : a ≤ i) (h2 : i < a + (b - m)) : e[i]! = d[m + (i - a)]! := by
  have := h.lft (i - a) (by omega)
  rwa [show a + (i - a) = i by omega] at this
theorem Rot.get_r {d e : Array α} {a m b i : Nat} (h : Rot d a m b e) (hab : a ≤ m) (h1 : a + (b - m) ≤ i) (h2 : i < b) : e[i]! = d[i - (b - m)]! := by
  have := h.rgt (i - (a + (b - m))) (by omega)
  rwa [show a + (b - m) + (i - (a + (b - m))) = i by omega, show a + (i - (a + (b - m))) = i - (b - m) by omega] at this

variable {lt : α → α → Bool}
theorem sorted_le (hS : SWO lt) {d : Array α} {a b i j : Nat} (h : SortedIn lt a b d) (h1 : a ≤ i) (h2 : i ≤ j) (h3 : j < b) : lt d[j]! d[i]! = false := by
  by_cases e : i = j
  · subst e; exact hS.irrefl _
  · exact h i j h1 (by omega) h3
/-- The left run has one element: it goes behind all that are less. -/
theorem one_left (hS : SWO lt) {d e : Array α} {a b i : Nat} (hi : a + 1 ≤ i) (hib : i ≤ b) (hs : SortedIn lt (a + 1) b d) (hl : ∀ k, a + 1 ≤ k → k < i → lt d[k]! d[a]! = true) (hg : ∀ k, i ≤ k → k < b → lt d[k]! d[a]! = false) (h : Rot d a (a + 1) i e) : SortedIn lt a b e := by
  have hm : e[i - 1]! = d[a]! := by
    have := h.get_r (i := i - 1) (by omega) (by omega) (by omega)
    rw [this, show i - 1 - (i - (a + 1)) = a by omega]
  have hL : ∀ k, a ≤ k → k < i - 1 → e[k]! = d[k + 1]! := fun k h1 h2 => by
    rw [h.get_l h1 (by omega), show a + 1 + (k - a) = k + 1 by omega]
  have hR : ∀ k, i ≤ k → e[k]! = d[k]! := fun k h1 => h.out (by omega)
  intro p q hp hpq hq
  by_cases q1 : q < i - 1
  · rw [hL q (by omega) q1, hL p hp (by omega)]
    exact hs _ _ (by omega) (by omega) (by omega)
  · by_cases q2 : q = i - 1
    · rw [q2, hm, hL p hp (by omega)]
      exact hS.asymmA (hl _ (by omega) (by omega))
    · rw [hR q (by omega)]
      by_cases p1 : p < i - 1
      · rw [hL p hp p1]
        exact hs _ _ (by omega) (by omega) hq
      · by_cases p2 : p = i - 1
        · rw [p2, hm]
          exact hg _ (by omega) hq
        · rw [hR p (by omega)]
          exact hs _ _ (by omega) hpq hq
/-- The right run has one element: it goes before all that are greater. -/
theorem one_right (hS : SWO lt) {d e : Array α} {a m i : Nat} (hi : a ≤ i) (him : i ≤ m) (hs : SortedIn lt a m d) (hl : ∀ k, a ≤ k → k < i → lt d[m]! d[k]! = false) (hg : ∀ k, i ≤ k → k < m → lt d[m]! d[k]! = true) (h : Rot d i m (m + 1) e) : SortedIn lt a (m + 1) e := by
  have hm : e[i]! = d[m]! := by
    have := h.get_l (i := i) (by omega) (by omega)
    rw [this, show m + (i - i) = m by omega]
  have hL : ∀ k, k < i → e[k]! = d[k]! := fun k h1 => h.out (by omega)
  have hR : ∀ k, i < k → k < m + 1 → e[k]! = d[k - 1]! := fun k h1 h2 => by
    rw [h.get_r (by omega) (by omega) h2, show k - (m + 1 - m) = k - 1 by omega]
  intro p q hp hpq hq
  by_cases q1 : q < i
  · rw [hL q q1, hL p (by omega)]
    exact hs _ _ hp hpq (by omega)
  · by_cases q2 : q = i
    · rw [q2, hm, hL p (by omega)]
      exact hl _ hp (by omega)
    · rw [hR q (by omega) hq]
      by_cases p1 : p < i
      · rw [hL p p1]
        exact hs _ _ hp (by omega) (by omega)
      · by_cases p2 : p = i
        · rw [p2, hm]
          exact hS.asymmA (hg _ (by omega) (by omega))
        · rw [hR p (by omega) (by omega)]
          exact hs _ _ (by omega) (by omega) (by omega)
theorem one_left' (hS : SWO lt) {d e : Array α} {a b i : Nat} (hi : a + 1 ≤ i) (hib : i ≤ b) (hs : SortedIn lt (a + 1) b d) (hl : i = a + 1 ∨ lt d[i - 1]! d[a]! = true) (hg : i = b ∨ lt d[i]! d[a]! = false) (h : Rot d a (a + 1) i e) : SortedIn lt a b e := by
  refine one_left hS hi hib hs (fun k h1 h2 => ?_) (fun k h1 h2 => ?_) h
  · rcases hl with hl | hl
    · omega
    · cases hk : lt d[k]! d[a]! with
      | true => rfl
      | false =>
        have := hS.ntrans _ _ _ (sorted_le hS hs (i := k) (j := i - 1) h1 (by omega) (by omega)) hk
        rw [hl] at this
        cases this
  · rcases hg with hg | hg
    · omega
    · exact hS.ntrans _ _ _ (sorted_le hS hs (i := i) (j := k) hi h1 h2) hg
theorem one_right' (hS : SWO lt) {d e : Array α} {a m i : Nat} (hi : a ≤ i) (him : i ≤ m) (hs : SortedIn lt a m d) (hl : i = a ∨ lt d[m]! d[i - 1]! = false) (hg : i = m ∨ lt d[m]! d[i]! = true) (h : Rot d i m (m + 1) e) : SortedIn lt a (m + 1) e := by
  refine one_right hS hi him hs (fun k h1 h2 => ?_) (fun k h1 h2 => ?_) h
  · rcases hl with hl | hl
    · omega
    · exact hS.ntrans _ _ _ hl (sorted_le hS hs (i := k) (j := i - 1) h1 (by omega) (by omega))
  · rcases hg with hg | hg
    · omega
    · cases hk : lt d[m]! d[k]! with
      | true => rfl
      | false =>
        have := hS.ntrans _ _ _ hk (sorted_le hS hs (i := i) (j := k) hi h1 h2)
        rw [hg] at this
        cases this
/-- What the search for the cut has found. -/
structure Cut (lt : α → α → Bool) (d : Array α) (a m b mid s : Nat) : Prop where
  lo : a ≤ s
  hi : s ≤ m
  hmid : s ≤ mid
  hend : mid + m - s ≤ b
  le : s = a ∨ mid + m - s = b ∨ lt d[mid + m - s]! d[s - 1]! = false
  gt : s = m ∨ s = mid ∨ lt d[mid + m - s - 1]! d[s]! = true
/-- Behind the rotation: the four runs, and that the lower half lies below the upper one. -/
theorem cut_runs (hS : SWO lt) {d e : Array α} {a m b mid s : Nat} (ham : a ≤ m) (hmb : m ≤ b) (hmd : mid ≤ b) (h1 : SortedIn lt a m d) (h2 : SortedIn lt m b d) (C : Cut lt d a m b mid s) (h : Rot d s m (mid + m - s) e) :
    SortedIn lt a s e ∧ SortedIn lt s mid e ∧ SortedIn lt mid (mid + m - s) e ∧ SortedIn lt (mid + m - s) b e ∧ (∀ i j, a ≤ i → i < mid → mid ≤ j → j < b → lt e[j]! e[i]! = false) := by
  obtain ⟨c1, c2, c3, c4, c5, c6⟩ := C
  have E1 : ∀ k, k < s → e[k]! = d[k]! := fun k hk => h.out (by omega)
  have E2 : ∀ k, s ≤ k → k < mid → e[k]! = d[m + (k - s)]! := fun k hk hk' => h.get_l hk (by omega)
  have E3 : ∀ k, mid ≤ k → k < mid + m - s → e[k]! = d[k - mid + s]! := fun k hk hk' => by
    rw [h.get_r (by omega) (by omega) hk', show k - (mid + m - s - m) = k - mid + s by omega]
  have E4 : ∀ k, mid + m - s ≤ k → e[k]! = d[k]! := fun k hk => h.out (by omega)
  refine ⟨?_, ?_, ?_, ?_, ?_⟩
  · intro p q hp hpq hq
    rw [E1 q hq, E1 p (by omega)]
    exact h1 _ _ hp hpq (by omega)
  · intro p q hp hpq hq
    rw [E2 q (by omega) hq, E2 p hp (by omega)]
    exact h2 _ _ (by omega) (by omega) (by omega)
  · intro p q hp hpq hq
    rw [E3 q (by omega) hq, E3 p hp (by omega)]
    exact h1 _ _ (by omega) (by omega) (by omega)
  · intro p q hp hpq hq
    rw [E4 q (by omega), E4 p hp]
    exact h2 _ _ (by omega) hpq hq
  · intro i j hi hi' hj hj'
    by_cases j1 : j < mid + m - s
    · rw [E3 j hj j1]
      by_cases i1 : i < s
      · rw [E1 i i1]
        exact h1 _ _ hi (by omega) (by omega)
      · rw [E2 i (by omega) hi']
        -- x in the right run's first part, y in the left run's last part
        rcases c6 with c6 | c6 | c6
        · omega
        · omega
        · have g1 : lt d[s]! d[mid + m - s - 1]! = false := hS.asymmA c6
          have g2 := sorted_le hS h2 (i := m + (i - s)) (j := mid + m - s - 1) (by omega) (by omega) (by omega)
          have g3 := sorted_le hS h1 (i := s) (j := j - mid + s) (by omega) (by omega) (by omega)
          exact hS.ntrans _ _ _ g3 (hS.ntrans _ _ _ g1 g2)
    · rw [E4 j (by omega)]
      by_cases i1 : i < s
      · rw [E1 i i1]
        rcases c5 with c5 | c5 | c5
        · omega
        · omega
        · have g2 := sorted_le hS h1 (i := i) (j := s - 1) (by omega) (by omega) (by omega)
          have g3 := sorted_le hS h2 (i := mid + m - s) (j := j) (by omega) (by omega) (by omega)
          exact hS.ntrans _ _ _ g3 (hS.ntrans _ _ _ c5 g2)
      · rw [E2 i (by omega) hi']
        exact h2 _ _ (by omega) (by omega) (by omega)
/-- Two halves, each sorted behind its own merge. -/
theorem halves {d e f : Array α} {a mid b : Nat} (hb : b ≤ d.size) (hamid : a ≤ mid) (hmb : mid ≤ b) (hx : ∀ i j, a ≤ i → i < mid → mid ≤ j → j < b → lt d[j]! d[i]! = false)
    (p1 : PermIn a mid d e) (s1 : SortedIn lt a mid e) (p2 : PermIn mid b e f) (s2 : SortedIn lt mid b f) : PermIn a b d f ∧ SortedIn lt a b f := by
  have hse : e.size = d.size := p1.1
  refine ⟨permIn_trans _ _ _ _ _ (permIn_in p1 (Nat.le_refl _) hmb hb) (permIn_in p2 hamid (Nat.le_refl _) (by omega)), ?_⟩
  have hx1 : ∀ j, mid ≤ j → j < b → ∀ i, a ≤ i → i < mid → lt e[j]! e[i]! = false := fun j hj hj' => by
    rw [p1.2.1 j (by omega)]
    exact permIn_all d e a mid (fun x => lt d[j]! x = false) (by omega) p1 (fun i hi hi' => hx i j hi hi' hj hj')
  have hx2 : ∀ i, a ≤ i → i < mid → ∀ j, mid ≤ j → j < b → lt f[j]! f[i]! = false := fun i hi hi' => by
    rw [p2.2.1 i (by omega)]
    exact permIn_all e f mid b (fun y => lt y e[i]! = false) (by omega) p2 (fun j hj hj' => hx1 j hj hj' i hi hi')
  intro p q hp hpq hq
  by_cases q1 : q < mid
  · rw [p2.2.1 q (by omega), p2.2.1 p (by omega)]
    exact s1 _ _ hp hpq q1
  · by_cases p1' : p < mid
    · exact hx2 p hp p1' q (by omega) hq
    · exact s2 _ _ (by omega) hpq hq
/-- A run of one element, or none. -/
theorem sorted_few (d : Array α) {a b : Nat} (h : b ≤ a + 1) : SortedIn lt a b d := fun i j h1 h2 h3 => by omega
theorem sorted_part {d : Array α} {a b a' b' : Nat} (h : SortedIn lt a b d) (h1 : a ≤ a') (h2 : b' ≤ b) : SortedIn lt a' b' d := fun i j k1 k2 k3 => h i j (by omega) k2 (by omega)
theorem sorted_out {d e : Array α} {a b a' b' : Nat} (h : SortedIn lt a' b' d) (p : PermIn a b d e) (h1 : b' ≤ a ∨ b ≤ a') : SortedIn lt a' b' e := fun i j k1 k2 k3 => by
  rw [p.2.1 j (by omega), p.2.1 i (by omega)]
  exact h i j k1 k2 k3

/-! ## Runs -/
/-- From a on, runs of k elements are sorted, up to n. -/
def Runs (lt : α → α → Bool) (k a n : Nat) (d : Array α) : Prop := ∀ t, SortedIn lt (a + t * k) (min (a + t * k + k) n) d
theorem Runs.head {k a n : Nat} {d : Array α} (h : Runs lt k a n d) : SortedIn lt a (min (a + k) n) d := by
  have := h 0
  rwa [Nat.zero_mul, Nat.add_zero] at this
theorem Runs.next {k a n : Nat} {d : Array α} (h : Runs lt k a n d) : Runs lt k (a + k) n d := fun t => by
  have := h (t + 1)
  rw [Nat.succ_mul] at this
  rwa [show a + k + t * k = a + (t * k + k) by omega]
theorem Runs.cons {k a n : Nat} {d : Array α} (h0 : SortedIn lt a (min (a + k) n) d) (h : Runs lt k (a + k) n d) : Runs lt k a n d := fun t => by
  cases t with
  | zero => rwa [Nat.zero_mul, Nat.add_zero]
  | succ t =>
    have := h t
    rw [Nat.succ_mul]
    rwa [show a + (t * k + k) = a + k + t * k by omega]
theorem Runs.nil {k a n : Nat} (d : Array α) (h : n ≤ a + 1) : Runs lt k a n d := fun t => sorted_few d (by omega)
theorem Runs.out {k a n lo hi : Nat} {d e : Array α} (h : Runs lt k a n d) (p : PermIn lo hi d e) (hp : hi ≤ a) : Runs lt k a n e := fun t => sorted_out (h t) p (by omega)
/-- The runs behind the last whole one. -/
theorem Runs.one {k a n : Nat} {d : Array α} (hs : SortedIn lt a n d) (hn : n ≤ a + k) : Runs lt k a n d := Runs.cons (by rwa [show min (a + k) n = n by omega]) (Runs.nil d (by omega))
/-- Up to a, runs of k elements are sorted: what remains decides. -/
def DoneR (lt : α → α → Bool) (k a n : Nat) (d : Array α) : Prop := ∀ e : Array α, (∀ i, i < a → e[i]! = d[i]!) → Runs lt k a n e → Runs lt k 0 n e
theorem DoneR.zero (k n : Nat) (d : Array α) : DoneR lt k 0 n d := fun _ _ h => h
theorem DoneR.step {k a n : Nat} {d e : Array α} (h : DoneR lt k a n d) (p : PermIn a (a + k) d e) (hs : SortedIn lt a (min (a + k) n) e) : DoneR lt k (a + k) n e := fun f hf hr =>
  h f (fun i hi => by rw [hf i (by omega)]; exact p.2.1 i (by omega)) (Runs.cons (fun i j h1 h2 h3 => by rw [hf j (by omega), hf i (by omega)]; exact hs i j h1 h2 h3) hr)
end
end Go.Proofs.YtkmgbdljiajlaaaGreatDoor
namespace Go.Proofs.YtkmgbdljiajlaaaGreatDoor
open Go.Shelf Go.RowKit Go.Lib Go.Sort
section
variable {P : Program} {ρ : Ren} {α : Type} [Inhabited α] {enc : α → Value} {lt : α → α → Bool} {g : Nat} {lb : Array Value} {sf : Nat} {sb : Array Value} {blk off : Nat} {d e f : Array α} {W W1 W2 : World}

/-- What the sort asks of its caller, at the world W in which the row holds d. -/
structure SCtx (P : Program) (enc : α → Value) (lt : α → α → Bool) (g : Nat) (lb : Array Value) (sf : Nat) (sb : Array Value) (blk off : Nat) (d : Array α) (W : World) : Prop where
  eg : ∀ args w, (callFunc g args).run P w = .ok (.enter g args) w
  less : LessReads P g lb enc lt blk off d.size W
  swap : SwapSwaps P sf sb enc blk off d.size
  hold : Holds enc W blk off d
  bl : blk < W.heap.size
  sz : d.size < 4611686018427387904
theorem SCtx.on (C : SCtx P enc lt g lb sf sb blk off d W) (h : SW enc W blk off e W1) (hs : e.size = d.size) : SCtx P enc lt g lb sf sb blk off e W1 :=
  ⟨C.eg, by rw [hs]; exact h.lessReads C.less C.bl hs, by rw [hs]; exact C.swap, h.holds C.bl C.hold hs, h.lt C.bl, by rw [hs]; exact C.sz⟩
theorem SCtx.start (C : SCtx P enc lt g lb sf sb blk off d W) : SW enc W blk off d W := SW.start C.hold
theorem swTr (h : SW enc W blk off e W1) (h2 : SW enc W1 blk off f W2) (hb : blk < W.heap.size) (hs : f.size = e.size) : SW enc W blk off f W2 := by
  obtain ⟨n, os, rfl⟩ := h2
  exact h.on hb n f os hs
theorem swCell (h : SW enc W blk off e W1) {b k : Nat} {v : Value} (hb : b ≠ blk) (hc : W.cell? ⟨b, k, none⟩ = some v) : W1.cell? ⟨b, k, none⟩ = some v := by
  have hlt := cell_lt hc
  obtain ⟨n, os, rfl⟩ := h
  unfold sortWorld
  rw [cell?_grow _ _ _ (by rw [size_putRow]; exact hlt), cell?_putRow_other enc _ blk off _ _ (Or.inl (by show b ≠ blk; exact hb))]
  exact hc
theorem SCtx.lessAt (C : SCtx P enc lt g lb sf sb blk off d W) (h : SW enc W blk off e W1) (hs : e.size = d.size) (i j : Nat) (hi : i < d.size) (hj : j < d.size) :
    Calls P g (#[.int .i64 i, .int .i64 j] ++ lb) W1 fun e' w' => e' = .returned (.bool (lt e[i]! e[j]!)) ∧ SW enc W blk off e w' ∧ ∀ p, w'.cell? p = W1.cell? p :=
  (h.less C.less hs i j hi hj).mono fun _ _ ⟨h1, q, h2⟩ => ⟨h1, by rw [h2]; exact h.drewN q, fun p => by rw [h2]; rfl⟩
/-- The box of 'data' holds its two functions. -/
def BoxD (g : Nat) (lb : Array Value) (sf : Nat) (sb : Array Value) (b : Nat) (w : World) : Prop := w.cell? ⟨b, 0, none⟩ = some (.func (.func g) #[] lb) ∧ w.cell? ⟨b, 1, none⟩ = some (.func (.func sf) #[] sb)
theorem BoxD.tr {b : Nat} (h : BoxD g lb sf sb b W) (hw : SW enc W blk off e W1) (hb : b ≠ blk) : BoxD g lb sf sb b W1 := ⟨swCell hw hb h.1, swCell hw hb h.2⟩
theorem BoxD.same {b : Nat} (h : BoxD g lb sf sb b W) (hc : ∀ p, W1.cell? p = W.cell? p) : BoxD g lb sf sb b W1 := ⟨(hc _).trans h.1, (hc _).trans h.2⟩
theorem BoxD.swap {b : Nat} (h : BoxD g lb sf sb b W) (hb : b ≠ blk) (i j : Nat) (u v : Value) : BoxD g lb sf sb b ((W.setCell ⟨blk, i, none⟩ u).setCell ⟨blk, j, none⟩ v) := by
  constructor
  · rw [World.cell?_setCell_other _ _ _ _ (by intro e; injection e with e1; omega), World.cell?_setCell_other _ _ _ _ (by intro e; injection e with e1; omega)]; exact h.1
  · rw [World.cell?_setCell_other _ _ _ _ (by intro e; injection e with e1; omega), World.cell?_setCell_other _ _ _ _ (by intro e; injection e with e1; omega)]; exact h.2
theorem BoxD.new (W : World) : BoxD g lb sf sb W.heap.size (W.alloc (.cells #[.func (.func g) #[] lb, .func (.func sf) #[] sb] (ρ.t 42))) := ⟨by simp, by simp⟩
set_option linter.unusedVariables false in
set_option maxHeartbeats 4000000 in
set_option maxRecDepth 100000 in
theorem swapRange_s (L : LaysGt.n49 P ρ) (C : SCtx P enc lt g lb sf sb blk off d W) (a b n : Nat) (hab : a + n ≤ b) (hb : b + n ≤ d.size) :
    Calls P (ρ.f 49) #[.agg #[.func (.func g) #[] lb, .func (.func sf) #[] sb], .int .i64 a, .int .i64 b, .int .i64 n] W fun e w' => e = .returned (.tuple #[]) ∧ ∃ d', SW enc W blk off d' w' ∧ SwR d a b n d' := by
  have mixed := L.mixed; have t0 := L.t0; have a0 := L.a0; have z0 := L.z0; have v0 := L.v0; have t3 := L.t3; have a3 := L.a3; have z3 := L.z3; have v3 := L.v3; have t4 := L.t4; have a4 := L.a4; have z4 := L.z4; have v4 := L.v4; have t26 := L.t26; have a26 := L.a26; have z26 := L.z26; have v26 := L.v26; have t38 := L.t38; have a38 := L.a38; have z38 := L.z38; have v38 := L.v38; have t42 := L.t42; have a42 := L.a42; have z42 := L.z42; have v42 := L.v42
  have u42 := run_underlying L.t42
  have S0 : SW enc W blk off d (W.alloc (.cells #[.func (.func g) #[] lb, .func (.func sf) #[] sb] (ρ.t 42))) := C.start.alloc _
  have B0 : BoxD g lb sf sb W.heap.size (W.alloc (.cells #[.func (.func g) #[] lb, .func (.func sf) #[] sb] (ρ.t 42))) := BoxD.new W
  have hbn : W.heap.size ≠ blk := by have := C.bl; omega
  have hsz := C.sz
  go_enter L.f49, BodyGt.n49_ntmps ρ
  go_wp2
  go_loopw [8] (fun vi wr => ∃ (k : Nat) (dk : Array α), vi = .int .i64 k ∧ k ≤ n ∧ SW enc W blk off dk wr ∧ SwR d a b k dk ∧ BoxD g lb sf sb W.heap.size wr) (fun vi _ => n - (intOf vi).toNat)
  case atStart => exact ⟨0, d, rfl, Nat.zero_le _, S0, SwR.zero d a b, B0⟩
  case round =>
    clear S0 B0
    obtain ⟨k, dk, rfl, hk, S, R, hB0, hB1⟩ := hrel
    have hds := R.size
    by_cases hlt : k < n
    · have hc1 : (k : Int) < (n : Int) := by omega
      have hs := C.swap wr dk (S.holds C.bl C.hold hds) hds (a + k) (b + k) (by omega) (by omega)
      rw [show ((a + k : Nat) : Int) = (a : Int) + (k : Int) by omega, show ((b + k : Nat) : Int) = (b : Int) + (k : Int) by omega] at hs
      have S2 := S.swap C.bl (a + k) (b + k) (by omega) (by omega)
      have hB' : BoxD g lb sf sb W.heap.size ((wr.setCell ⟨blk, off + (a + k), none⟩ (enc dk[b + k]!)).setCell ⟨blk, off + (b + k), none⟩ (enc dk[a + k]!)) := by
        have h0 := hB0; have h1 := hB1
        constructor
        · rw [World.cell?_setCell_other _ _ _ _ (by intro e; injection e with e1; omega), World.cell?_setCell_other _ _ _ _ (by intro e; injection e with e1; omega)]; exact h0
        · rw [World.cell?_setCell_other _ _ _ _ (by intro e; injection e with e1; omega), World.cell?_setCell_other _ _ _ _ (by intro e; injection e with e1; omega)]; exact h1
      go_wp2
      go_roundw
      case rel => exact ⟨k + 1, _, by go_num, by omega, S2, R.step hlt hab hb, hB'⟩
      case measure => simp [intOf]; omega
    · obtain rfl : k = n := by omega
      have hc1 : ¬ (k : Int) < (k : Int) := by omega
      go_wp2
      go_end0
      exact ⟨rfl, dk, S, R⟩
set_option linter.unusedVariables false in
set_option maxHeartbeats 4000000 in
set_option maxRecDepth 100000 in
theorem rotate_s (L : LaysGt.n42 P ρ) (C : SCtx P enc lt g lb sf sb blk off d W) (a m b : Nat) (ham : a < m) (hmb : m < b) (hb : b ≤ d.size) :
    Calls P (ρ.f 42) #[.agg #[.func (.func g) #[] lb, .func (.func sf) #[] sb], .int .i64 a, .int .i64 m, .int .i64 b] W fun e w' => e = .returned (.tuple #[]) ∧ ∃ d', SW enc W blk off d' w' ∧ Rot d a m b d' := by
  have mixed := L.mixed; have t0 := L.t0; have a0 := L.a0; have z0 := L.z0; have v0 := L.v0; have t3 := L.t3; have a3 := L.a3; have z3 := L.z3; have v3 := L.v3; have t4 := L.t4; have a4 := L.a4; have z4 := L.z4; have v4 := L.v4; have t26 := L.t26; have a26 := L.a26; have z26 := L.z26; have v26 := L.v26; have t38 := L.t38; have a38 := L.a38; have z38 := L.z38; have v38 := L.v38; have t42 := L.t42; have a42 := L.a42; have z42 := L.z42; have v42 := L.v42
  have u42 := run_underlying L.t42
  have S0 : SW enc W blk off d (W.alloc (.cells #[.func (.func g) #[] lb, .func (.func sf) #[] sb] (ρ.t 42))) := C.start.alloc _
  have B0 : BoxD g lb sf sb W.heap.size (W.alloc (.cells #[.func (.func g) #[] lb, .func (.func sf) #[] sb] (ρ.t 42))) := BoxD.new W
  have hbn : W.heap.size ≠ blk := by have := C.bl; omega
  have hsz := C.sz
  have e49 : ∀ args w, (callFunc (ρ.f 49) args).run P w = .ok (.enter (ρ.f 49) args) w := enters_of L.f49 (by kernel_rfl) rfl
  have L49 : LaysGt.n49 P ρ := { L with }
  go_enter L.f42, BodyGt.n42_ntmps ρ
  go_wp2
  go_loopw [8, 9] (fun vi vj wr => ∃ (i j : Nat) (dk : Array α), vi = .int .i64 i ∧ vj = .int .i64 j ∧ 0 < i ∧ 0 < j ∧ i ≤ m - a ∧ j ≤ b - m ∧ SW enc W blk off dk wr ∧ dk.size = d.size ∧ (∀ T, Rot dk (m - i) m (m + j) T → Rot d a m b T) ∧ BoxD g lb sf sb W.heap.size wr) (fun vi vj _ => (intOf vi).toNat + (intOf vj).toNat)
  case atStart => exact ⟨m - a, b - m, d, by go_num, by go_num, by omega, by omega, Nat.le_refl _, Nat.le_refl _, S0, rfl, fun T h => by rwa [show m - (m - a) = a by omega, show m + (b - m) = b by omega] at h, B0⟩
  case round =>
    clear S0 B0
    obtain ⟨i, j, dk, rfl, rfl, hi0, hj0, hi, hj, S, hds, HT, hB⟩ := hrel
    obtain ⟨hB0, hB1⟩ := hB
    have Ck := C.on S hds
    by_cases hij : i = j
    · subst hij
      have hc : ((i : Int) != (i : Int)) = false := by simp
      have hS := swapRange_s L49 Ck (m - i) m i (by omega) (by omega)
      rw [show ((m - i : Nat) : Int) = (m : Int) - (i : Int) by omega] at hS
      go_wp2_with (go_at_fn (ρ.f 49); refine hS.mono ?_; rintro e w1 ⟨rfl, dk', S', R'⟩)
      go_end0
      exact ⟨rfl, dk', swTr S S' C.bl (by rw [R'.size]), HT _ (rot_eq (by omega) (by omega) R')⟩
    · have hc : ((i : Int) != (j : Int)) = true := by simp; omega
      by_cases hgt : j < i
      · have hc2 : (j : Int) < (i : Int) := by omega
        have hS := swapRange_s L49 Ck (m - i) m j (by omega) (by omega)
        rw [show ((m - i : Nat) : Int) = (m : Int) - (i : Int) by omega] at hS
        go_wp2_with (go_at_fn (ρ.f 49); refine hS.mono ?_; rintro e w1 ⟨rfl, dk', S', R'⟩)
        have hB' := (show BoxD g lb sf sb W.heap.size wr from ⟨hB0, hB1⟩).tr S' hbn
        go_roundw
        case rel => exact ⟨i - j, j, dk', by go_num, rfl, by omega, hj0, by omega, hj, swTr S S' C.bl (by rw [R'.size]), by rw [R'.size]; exact hds, fun T h => HT T (rot_gt hgt (by omega) (by omega) R' h), hB'⟩
        case measure => simp [intOf]; omega
      · have hc2 : ¬ (j : Int) < (i : Int) := by omega
        have hS := swapRange_s L49 Ck (m - i) (m + j - i) i (by omega) (by omega)
        rw [show ((m - i : Nat) : Int) = (m : Int) - (i : Int) by omega, show ((m + j - i : Nat) : Int) = (m : Int) + (j : Int) - (i : Int) by omega] at hS
        go_wp2_with (go_at_fn (ρ.f 49); refine hS.mono ?_; rintro e w1 ⟨rfl, dk', S', R'⟩)
        have hB' := (show BoxD g lb sf sb W.heap.size wr from ⟨hB0, hB1⟩).tr S' hbn
        go_roundw
        case rel => exact ⟨i, j - i, dk', rfl, by go_num, hi0, by omega, hi, by omega, swTr S S' C.bl (by rw [R'.size]), by rw [R'.size]; exact hds, fun T h => HT T (rot_lt (by omega) (by omega) (by omega) R' h), hB'⟩
        case measure => simp [intOf]; omega
end
end Go.Proofs.YtkmgbdljiajlaaaGreatDoor
namespace Go.Proofs.YtkmgbdljiajlaaaGreatDoor
open Go.Shelf Go.RowKit Go.Lib Go.Sort
section
variable {P : Program} {ρ : Ren} {α : Type} [Inhabited α] {enc : α → Value} {lt : α → α → Bool} {g : Nat} {lb : Array Value} {sf : Nat} {sb : Array Value} {blk off : Nat} {d e f : Array α} {W W1 W2 : World}
set_option linter.unusedVariables false in
set_option maxHeartbeats 4000000 in
set_option maxRecDepth 100000 in
theorem symMerge_s (hO : SWO lt) (L : LaysGt.n30 P ρ) : ∀ (s : Nat) (d : Array α) (W : World), SCtx P enc lt g lb sf sb blk off d W → ∀ (a m b : Nat), b - a ≤ s → a < m → m < b → b ≤ d.size → SortedIn lt a m d → SortedIn lt m b d →
    Calls P (ρ.f 30) #[.agg #[.func (.func g) #[] lb, .func (.func sf) #[] sb], .int .i64 a, .int .i64 m, .int .i64 b] W fun e w' => e = .returned (.tuple #[]) ∧ ∃ d', SW enc W blk off d' w' ∧ PermIn a b d d' ∧ SortedIn lt a b d' := by
  intro s
  induction s with
  | zero => intro d W C a m b hs h1 h2; omega
  | succ s ih =>
    intro d W C a m b hs ham hmb hb hS1 hS2
    have mixed := L.mixed; have t0 := L.t0; have a0 := L.a0; have z0 := L.z0; have v0 := L.v0; have t3 := L.t3; have a3 := L.a3; have z3 := L.z3; have v3 := L.v3; have t4 := L.t4; have a4 := L.a4; have z4 := L.z4; have v4 := L.v4; have t26 := L.t26; have a26 := L.a26; have z26 := L.z26; have v26 := L.v26; have t38 := L.t38; have a38 := L.a38; have z38 := L.z38; have v38 := L.v38; have t42 := L.t42; have a42 := L.a42; have z42 := L.z42; have v42 := L.v42; have t47 := L.t47; have a47 := L.a47; have z47 := L.z47; have v47 := L.v47
    have u42 := run_underlying L.t42
    have S0 : SW enc W blk off d (W.alloc (.cells #[.func (.func g) #[] lb, .func (.func sf) #[] sb] (ρ.t 42))) := C.start.alloc _
    have B0 : BoxD g lb sf sb W.heap.size (W.alloc (.cells #[.func (.func g) #[] lb, .func (.func sf) #[] sb] (ρ.t 42))) := BoxD.new W
    have hbn : W.heap.size ≠ blk := by have := C.bl; omega
    have hsz := C.sz
    have eg := C.eg
    have e42 : ∀ args w, (callFunc (ρ.f 42) args).run P w = .ok (.enter (ρ.f 42) args) w := enters_of L.f42 (by kernel_rfl) rfl
    have e30 : ∀ args w, (callFunc (ρ.f 30) args).run P w = .ok (.enter (ρ.f 30) args) w := enters_of L.f30 (by kernel_rfl) rfl
    have L42 : LaysGt.n42 P ρ := { L with }
    have half : ∀ x : Nat, x ≤ 9223372036854775807 → IntKind.u64.wrap (x : Int) = x ∧ IntKind.i64.wrap ((x / 2 : Nat) : Int) = ((x / 2 : Nat) : Int) := fun x hx => ⟨by simp [IntKind.wrap, IntKind.bits, IntKind.signed]; omega, IntWalk.i64_in _ ⟨by omega, by omega⟩⟩
    have HALF := Lib.hid half
    have HS1 := Lib.hid hS1
    have HS2 := Lib.hid hS2
    clear half hS1 hS2
    have BX : ∀ w', BoxD g lb sf sb W.heap.size w' → Hid (BoxD g lb sf sb W.heap.size w') := fun _ h => h
    by_cases hA : m - a = 1
    · have hc1 : ((m : Int) - (a : Int) == 1) = true := by simp; omega
      go_enter L.f30, BodyGt.n30_ntmps ρ
      go_wp2
      go_loopw [8, 9] (fun vi vj wr => ∃ i j : Nat, vi = .int .i64 i ∧ vj = .int .i64 j ∧ a + 1 ≤ i ∧ i ≤ j ∧ j ≤ b ∧ (i = a + 1 ∨ lt d[i - 1]! d[a]! = true) ∧ (j = b ∨ lt d[j]! d[a]! = false) ∧ SW enc W blk off d wr ∧ BoxD g lb sf sb W.heap.size wr) (fun vi vj _ => (intOf vj).toNat - (intOf vi).toNat)
      case atStart => exact ⟨m, b, rfl, rfl, by omega, by omega, Nat.le_refl _, .inl (by omega), .inl rfl, S0, B0⟩
      case round =>
        clear S0 B0
        obtain ⟨i, j, rfl, rfl, hi, hij, hj, hI, hJ, S, hB0, hB1⟩ := hrel
        have HB := BX wr ⟨hB0, hB1⟩
        have HI := Lib.hid hI
        have HJ := Lib.hid hJ
        clear hI hJ
        by_cases hlt : i < j
        · have hc2 : (i : Int) < (j : Int) := by omega
          obtain ⟨wu, wi⟩ := HALF.out (i + j) (by omega)
          obtain ⟨h, hh⟩ : ∃ h, h = (i + j) / 2 := ⟨_, rfl⟩
          have hm1 : i ≤ h := by omega
          have hm2 : h < j := by omega
          have hhc : ((i : Int) + (j : Int)) / 2 = (h : Int) := by omega
          have hl := C.lessAt S rfl h a (by omega) (by omega)
          rw [← hhc] at hl
          have HHC := Lib.hid hhc
          clear hhc hh
          cases hlv : lt d[h]! d[a]! with
          | true =>
            rw [hlv] at hl
            have HLV := Lib.hid hlv
            clear hlv
            go_wp2_with (go_at_fn g; refine hl.mono ?_; rintro e w' ⟨rfl, S', hcs⟩)
            go_roundw
            case rel => exact ⟨h + 1, j, by rw [HHC.out]; go_num, rfl, by omega, by omega, hj, .inr HLV.out, HJ.out, S', HB.out.same hcs⟩
            case measure => simp [intOf]; omega
          | false =>
            rw [hlv] at hl
            have HLV := Lib.hid hlv
            clear hlv
            go_wp2_with (go_at_fn g; refine hl.mono ?_; rintro e w' ⟨rfl, S', hcs⟩)
            go_roundw
            case rel => exact ⟨i, h, rfl, by rw [HHC.out], hi, by omega, by omega, HI.out, .inr HLV.out, S', HB.out.same hcs⟩
            case measure => simp [intOf]; omega
        · obtain rfl : i = j := by omega
          have hc2 : ¬ (i : Int) < (i : Int) := by omega
          go_wp2
          go_loopw [11] (fun vk wr => ∃ (k : Nat) (dk : Array α), vk = .int .i64 k ∧ a ≤ k ∧ k + 1 ≤ i ∧ SW enc W blk off dk wr ∧ Rot d a (a + 1) (k + 1) dk ∧ BoxD g lb sf sb W.heap.size wr) (fun vk _ => i - (intOf vk).toNat)
          case atStart => exact ⟨a, d, rfl, Nat.le_refl _, hi, S, Rot.self_r d a (a + 1), HB.out⟩
          case round =>
            clear S hB0 hB1 HB
            obtain ⟨k, dk, rfl, hk1, hk2, S, R, hB0, hB1⟩ := hrel
            have HB := BX wr ⟨hB0, hB1⟩
            have hds := R.size
            by_cases hki : k + 1 < i
            · have hc3 : (k : Int) < (i : Int) - 1 := by omega
              have hs := C.swap wr dk (S.holds C.bl C.hold hds) hds k (k + 1) (by omega) (by omega)
              rw [show ((k + 1 : Nat) : Int) = (k : Int) + 1 by omega] at hs
              have S2 := S.swap C.bl k (k + 1) (by omega) (by omega)
              go_wp2
              go_roundw
              case rel => exact ⟨k + 1, _, by go_num, by omega, by omega, S2, rot_up hk1 (by omega) R, HB.out.swap hbn _ _ _ _⟩
              case measure => simp [intOf]; omega
            · have hc3 : ¬ (k : Int) < (i : Int) - 1 := by omega
              go_wp2
              (try simp only [Exit.inBlock, Exit.then])
              refine bodyPost_ret (results_none rfl _ _ _) rfl ?_
              obtain rfl : i = k + 1 := by omega
              exact ⟨rfl, dk, S, permIn_in R.perm (Nat.le_refl _) hj hb, one_left' hO hi hj (show SortedIn lt (a + 1) b d by rw [show a + 1 = m by omega]; exact HS2.out) HI.out HJ.out R⟩
    · by_cases hB : b - m = 1
      · have hc1 : ((m : Int) - (a : Int) == 1) = false := by simp; omega
        have hc1' : ((b : Int) - (m : Int) == 1) = true := by simp; omega
        go_enter L.f30, BodyGt.n30_ntmps ρ
        go_wp2
        go_loopw [12, 13] (fun vi vj wr => ∃ i j : Nat, vi = .int .i64 i ∧ vj = .int .i64 j ∧ a ≤ i ∧ i ≤ j ∧ j ≤ m ∧ (i = a ∨ lt d[m]! d[i - 1]! = false) ∧ (j = m ∨ lt d[m]! d[j]! = true) ∧ SW enc W blk off d wr ∧ BoxD g lb sf sb W.heap.size wr) (fun vi vj _ => (intOf vj).toNat - (intOf vi).toNat)
        case atStart => exact ⟨a, m, rfl, rfl, Nat.le_refl _, by omega, Nat.le_refl _, .inl rfl, .inl rfl, S0, B0⟩
        case round =>
          clear S0 B0
          obtain ⟨i, j, rfl, rfl, hi, hij, hj, hI, hJ, S, hB0, hB1⟩ := hrel
          have HB := BX wr ⟨hB0, hB1⟩
          have HI := Lib.hid hI
          have HJ := Lib.hid hJ
          clear hI hJ
          by_cases hlt : i < j
          · have hc2 : (i : Int) < (j : Int) := by omega
            obtain ⟨wu, wi⟩ := HALF.out (i + j) (by omega)
            obtain ⟨h, hh⟩ : ∃ h, h = (i + j) / 2 := ⟨_, rfl⟩
            have hm1 : i ≤ h := by omega
            have hm2 : h < j := by omega
            have hhc : ((i : Int) + (j : Int)) / 2 = (h : Int) := by omega
            have hl := C.lessAt S rfl m h (by omega) (by omega)
            rw [← hhc] at hl
            have HHC := Lib.hid hhc
            clear hhc hh
            cases hlv : lt d[m]! d[h]! with
            | true =>
              rw [hlv] at hl
              have HLV := Lib.hid hlv
              clear hlv
              go_wp2_with (go_at_fn g; refine hl.mono ?_; rintro e w' ⟨rfl, S', hcs⟩)
              go_roundw
              case rel => exact ⟨i, h, rfl, by rw [HHC.out], hi, by omega, by omega, HI.out, .inr HLV.out, S', HB.out.same hcs⟩
              case measure => simp [intOf]; omega
            | false =>
              rw [hlv] at hl
              have HLV := Lib.hid hlv
              clear hlv
              go_wp2_with (go_at_fn g; refine hl.mono ?_; rintro e w' ⟨rfl, S', hcs⟩)
              go_roundw
              case rel => exact ⟨h + 1, j, by rw [HHC.out]; go_num, rfl, by omega, by omega, hj, .inr HLV.out, HJ.out, S', HB.out.same hcs⟩
              case measure => simp [intOf]; omega
          · obtain rfl : i = j := by omega
            have hc2 : ¬ (i : Int) < (i : Int) := by omega
            go_wp2
            go_loopw [15] (fun vk wr => ∃ (k : Nat) (dk : Array α), vk = .int .i64 k ∧ i ≤ k ∧ k ≤ m ∧ SW enc W blk off dk wr ∧ Rot d k m (m + 1) dk ∧ BoxD g lb sf sb W.heap.size wr) (fun vk _ => (intOf vk).toNat)
            case atStart => exact ⟨m, d, rfl, hj, Nat.le_refl _, S, Rot.self_l d m (m + 1), HB.out⟩
            case round =>
              clear S hB0 hB1 HB
              obtain ⟨k, dk, rfl, hk1, hk2, S, R, hB0, hB1⟩ := hrel
              have HB := BX wr ⟨hB0, hB1⟩
              have hds := R.size
              by_cases hki : i < k
              · have hc3 : (i : Int) < (k : Int) := by omega
                have hs := C.swap wr dk (S.holds C.bl C.hold hds) hds k (k - 1) (by omega) (by omega)
                rw [show ((k - 1 : Nat) : Int) = (k : Int) - 1 by omega] at hs
                have S2 := S.swap C.bl k (k - 1) (by omega) (by omega)
                have hR2 : Hid (Rot d (k - 1) m (m + 1) (swp dk k (k - 1))) := by
                  have := rot_down (d := d) (m := m) (k := k - 1) (e := dk) (by omega) (by omega) (by rw [show k - 1 + 1 = k by omega]; exact R)
                  rwa [show k - 1 + 1 = k by omega] at this
                go_wp2
                go_roundw
                case rel => exact ⟨k - 1, _, by go_num, by omega, by omega, S2, hR2.out, HB.out.swap hbn _ _ _ _⟩
                case measure => simp [intOf]; omega
              · obtain rfl : i = k := by omega
                have hc3 : ¬ (i : Int) < (i : Int) := by omega
                go_wp2
                (try simp only [Exit.inBlock, Exit.then])
                refine bodyPost_ret (results_none rfl _ _ _) rfl ?_
                obtain rfl : b = m + 1 := by omega
                exact ⟨rfl, dk, S, permIn_in R.perm hi (Nat.le_refl _) hb, one_right' hO hi hj HS1.out HI.out HJ.out R⟩
      · have hc1 : ((m : Int) - (a : Int) == 1) = false := by simp; omega
        have hc1' : ((b : Int) - (m : Int) == 1) = false := by simp; omega
        obtain ⟨wu, wi⟩ := HALF.out (a + b) (by omega)
        go_enter L.f30, BodyGt.n30_ntmps ρ
        go_upto_if 106 with fail
        obtain ⟨mid, hmid⟩ : ∃ mid, mid = (a + b) / 2 := ⟨_, rfl⟩
        have hmc : ((a : Int) + (b : Int)) / 2 = (mid : Int) := by omega
        have hm1 : a < mid := by omega
        have hm2 : mid < b := by omega
        have hm3 : 2 * mid ≤ a + b := by omega
        have hm4 : a + b ≤ 2 * mid + 1 := by omega
        rw [hmc]
        clear hmc hmid wu wi
        go_cut [18, 19] (fun v18 v19 wx => ∃ s0 r0 : Nat, v18 = .int .i64 s0 ∧ v19 = .int .i64 r0 ∧ a ≤ s0 ∧ s0 ≤ r0 ∧ r0 ≤ m ∧ r0 ≤ mid ∧ mid + m ≤ b + s0 ∧ (s0 = a ∨ mid + m - s0 = b) ∧ (r0 = m ∨ r0 = mid) ∧ SW enc W blk off d wx ∧ BoxD g lb sf sb W.heap.size wx)
        case first =>
          by_cases hgt : mid < m
          · have hc2 : (mid : Int) < (m : Int) := by omega
            go_wp2
            go_meet
            exact ⟨mid + m - b, mid, by go_num, rfl, by omega, by omega, by omega, Nat.le_refl _, by omega, .inr (by omega), .inr rfl, S0, B0⟩
          · have hc2 : ¬ (mid : Int) < (m : Int) := by omega
            go_wp2
            go_meet
            exact ⟨a, m, rfl, rfl, Nat.le_refl _, by omega, Nat.le_refl _, by omega, by omega, .inl rfl, .inl rfl, S0, B0⟩
        case rest =>
          clear S0 B0
          obtain ⟨s0, r0, rfl, rfl, g1, g2, g3, g4, g5, g6, g7, S, hB0, hB1⟩ := hcut
          have HB := BX wc ⟨hB0, hB1⟩
          have hn1 : (mid : Int) + (m : Int) < 9223372036854775807 := by omega
          have G6 := Lib.hid g6
          have G7 := Lib.hid g7
          clear g6 g7
          go_wp2
          go_loopw [18, 19] (fun vi vj wr => ∃ i j : Nat, vi = .int .i64 i ∧ vj = .int .i64 j ∧ s0 ≤ i ∧ i ≤ j ∧ j ≤ r0 ∧ (i = s0 ∨ lt d[mid + m - i]! d[i - 1]! = false) ∧ (j = r0 ∨ lt d[mid + m - j - 1]! d[j]! = true) ∧ SW enc W blk off d wr ∧ BoxD g lb sf sb W.heap.size wr) (fun vi vj _ => (intOf vj).toNat - (intOf vi).toNat)
          case atStart => exact ⟨s0, r0, rfl, rfl, Nat.le_refl _, by omega, Nat.le_refl _, .inl rfl, .inl rfl, S, HB.out⟩
          case round =>
            clear S hB0 hB1 HB
            obtain ⟨i, j, rfl, rfl, hi, hij, hj, hI, hJ, S, hB0, hB1⟩ := hrel
            have HB := BX wr ⟨hB0, hB1⟩
            have HI := Lib.hid hI
            have HJ := Lib.hid hJ
            clear hI hJ
            by_cases hlt : i < j
            · have hc2 : (i : Int) < (j : Int) := by omega
              obtain ⟨wu, wi⟩ := HALF.out (i + j) (by omega)
              obtain ⟨h, hh⟩ : ∃ h, h = (i + j) / 2 := ⟨_, rfl⟩
              have hm5 : i ≤ h := by omega
              have hm6 : h < j := by omega
              have hhc : ((i : Int) + (j : Int)) / 2 = (h : Int) := by omega
              have hl := C.lessAt S rfl (mid + m - h - 1) h (by omega) (by omega)
              rw [show ((mid + m - h - 1 : Nat) : Int) = (mid : Int) + (m : Int) - 1 - (h : Int) by omega, ← hhc] at hl
              have HHC := Lib.hid hhc
              clear hhc hh
              cases hlv : lt d[mid + m - h - 1]! d[h]! with
              | true =>
                rw [hlv] at hl
                have HLV := Lib.hid hlv
                clear hlv
                go_wp2_with (go_at_fn g; refine hl.mono ?_; rintro e w' ⟨rfl, S', hcs⟩)
                go_roundw
                case rel => exact ⟨i, h, rfl, by rw [HHC.out], hi, by omega, by omega, HI.out, .inr HLV.out, S', HB.out.same hcs⟩
                case measure => simp [intOf]; omega
              | false =>
                rw [hlv] at hl
                have HLV := Lib.hid hlv
                clear hlv
                go_wp2_with (go_at_fn g; refine hl.mono ?_; rintro e w' ⟨rfl, S', hcs⟩)
                go_roundw
                case rel => exact ⟨h + 1, j, by rw [HHC.out]; go_num, rfl, by omega, by omega, hj, .inr (by rw [show mid + m - (h + 1) = mid + m - h - 1 by omega, show h + 1 - 1 = h by omega]; exact HLV.out), HJ.out, S', HB.out.same hcs⟩
                case measure => simp [intOf]; omega
            · obtain rfl : i = j := by omega
              have hc2 : ¬ (i : Int) < (i : Int) := by omega
              have HC : Hid (Cut lt d a m b mid i) := by
                have q6 := G6.out
                have q7 := G7.out
                refine ⟨by omega, by omega, by omega, by omega, ?_, ?_⟩
                · rcases HI.out with h | h
                  · rcases q6 with q | q
                    · exact .inl (by omega)
                    · exact .inr (.inl (by omega))
                  · exact .inr (.inr h)
                · rcases HJ.out with h | h
                  · rcases q7 with q | q
                    · exact .inl (by omega)
                    · exact .inr (.inl (by omega))
                  · exact .inr (.inr h)
              have Ci := C.on S rfl
              have he1 : (mid : Int) + (m : Int) - (i : Int) = ((mid + m - i : Nat) : Int) := by omega
              have HE1 := Lib.hid he1
              have k1 : a ≤ i := by omega
              have k2 : i ≤ m := by omega
              have k3 : i ≤ mid := by omega
              have k4 : mid + m - i ≤ b := by omega
              have k5 : mid ≤ mid + m - i := by omega
              clear he1 G6 G7 HI HJ g1 g2 g3 g4 g5 hi hj
              obtain ⟨g1, hg1⟩ : ∃ g1, g1 = (decide (i < m) && decide (m < mid + m - i)) := ⟨_, rfl⟩
              go_upto_region 40 with fail
              go_cut [145] (fun v wx => v = .bool g1 ∧ wx = wr)
              case first =>
                by_cases hA1 : i < m
                · have hc3 : (i : Int) < (m : Int) := by omega
                  by_cases hA2 : m < mid + m - i
                  · have hc4 : (m : Int) < (mid : Int) + (m : Int) - (i : Int) := by omega
                    have hg2 : Hid (true = g1) := by show _ = _; rw [hg1, decide_eq_true hA1, decide_eq_true hA2]; rfl
                    clear hg1
                    go_wp2
                    go_meet
                    exact ⟨by rw [← hg2.out], rfl⟩
                  · have hc4 : ¬ (m : Int) < (mid : Int) + (m : Int) - (i : Int) := by omega
                    have hg2 : Hid (false = g1) := by show _ = _; rw [hg1, decide_eq_true hA1, decide_eq_false hA2]; rfl
                    clear hg1
                    go_wp2
                    go_meet
                    exact ⟨by rw [← hg2.out], rfl⟩
                · have hc3 : ¬ (i : Int) < (m : Int) := by omega
                  have hg2 : Hid (false = g1) := by show _ = _; rw [hg1, decide_eq_false hA1]; rfl
                  clear hg1
                  go_wp2
                  go_meet
                  exact ⟨by rw [← hg2.out], rfl⟩
              case rest =>
              obtain ⟨rfl, rfl⟩ := hcut
              go_upto_if 145 with fail
              go_cut [] (fun wx => ∃ d1, SW enc W blk off d1 wx ∧ Rot d i m (mid + m - i) d1 ∧ BoxD g lb sf sb W.heap.size wx)
              case first =>
                rcases g1 with _ | _
                · have hA : ¬ (i < m ∧ m < mid + m - i) := fun h => by rw [decide_eq_true h.1, decide_eq_true h.2] at hg1; cases hg1
                  clear hg1
                  go_wp2
                  go_meet
                  refine ⟨d, S, ?_, HB.out⟩
                  by_cases hA1 : i < m
                  · rw [show mid + m - i = m by omega]; exact Rot.self_r d i m
                  · obtain rfl : i = m := by omega
                    exact Rot.self_l d _ _
                · obtain ⟨hA1, hA2⟩ : i < m ∧ m < mid + m - i := by
                    have := hg1.symm
                    rw [Bool.and_eq_true, decide_eq_true_eq, decide_eq_true_eq] at this
                    exact this
                  clear hg1
                  have hr := rotate_s L42 Ci i m (mid + m - i) hA1 hA2 (by omega)
                  rw [← HE1.out] at hr
                  go_wp2_with (go_at_fn (ρ.f 42); refine hr.mono ?_; rintro e w1 ⟨rfl, d1, S1, R1⟩)
                  go_meet
                  exact ⟨d1, swTr S S1 C.bl R1.size, R1, HB.out.tr S1 hbn⟩
              case rest =>
                clear S hB0 hB1 HB Ci hg1
                obtain ⟨d1, S1, R1, hB0, hB1⟩ := hcut
                have hsz1 := R1.size
                have HP1 : Hid (PermIn a b d d1) := permIn_in R1.perm k1 k4 hb
                obtain ⟨r1, r2, r3, r4, r5⟩ := cut_runs hO (by omega) (by omega) (by omega) HS1.out HS2.out HC.out R1
                have R1h := Lib.hid r1
                have R2h := Lib.hid r2
                have R3h := Lib.hid r3
                have R4h := Lib.hid r4
                have R5h := Lib.hid r5
                have HB := BX wc ⟨hB0, hB1⟩
                have C1 := C.on S1 hsz1
                clear r1 r2 r3 r4 r5 HC
                obtain ⟨w1, hw1⟩ : ∃ w1 : World, w1 = wc := ⟨_, rfl⟩
                subst hw1
                obtain ⟨g2, hg2⟩ : ∃ g2, g2 = (decide (a < i) && decide (i < mid)) := ⟨_, rfl⟩
                go_upto_region 42 with fail
                go_cut [158] (fun v wx => v = .bool g2 ∧ wx = w1)
                case first =>
                  by_cases hA1 : a < i
                  · have hc3 : (a : Int) < (i : Int) := by omega
                    by_cases hA2 : i < mid
                    · have hc4 : (i : Int) < (mid : Int) := by omega
                      have hg3 : Hid (true = g2) := by show _ = _; rw [hg2, decide_eq_true hA1, decide_eq_true hA2]; rfl
                      clear hg2
                      go_wp2
                      go_meet
                      exact ⟨by rw [← hg3.out], rfl⟩
                    · have hc4 : ¬ (i : Int) < (mid : Int) := by omega
                      have hg3 : Hid (false = g2) := by show _ = _; rw [hg2, decide_eq_true hA1, decide_eq_false hA2]; rfl
                      clear hg2
                      go_wp2
                      go_meet
                      exact ⟨by rw [← hg3.out], rfl⟩
                  · have hc3 : ¬ (a : Int) < (i : Int) := by omega
                    have hg3 : Hid (false = g2) := by show _ = _; rw [hg2, decide_eq_false hA1]; rfl
                    clear hg2
                    go_wp2
                    go_meet
                    exact ⟨by rw [← hg3.out], rfl⟩
                case rest =>
                obtain ⟨rfl, rfl⟩ := hcut
                go_upto_if 158 with fail
                go_cut [] (fun wx => ∃ d2, SW enc W blk off d2 wx ∧ PermIn a mid d1 d2 ∧ SortedIn lt a mid d2 ∧ BoxD g lb sf sb W.heap.size wx)
                case first =>
                  rcases g2 with _ | _
                  · have hA : ¬ (a < i ∧ i < mid) := fun h => by rw [decide_eq_true h.1, decide_eq_true h.2] at hg2; cases hg2
                    clear hg2
                    go_wp2
                    go_meet
                    refine ⟨d1, S1, permIn_refl _ _ _, ?_, HB.out⟩
                    by_cases hA1 : a < i
                    · rw [show mid = i by omega]; exact R1h.out
                    · exact sorted_part R2h.out (by omega) (Nat.le_refl _)
                  · obtain ⟨hA1, hA2⟩ : a < i ∧ i < mid := by
                      have := hg2.symm
                      rw [Bool.and_eq_true, decide_eq_true_eq, decide_eq_true_eq] at this
                      exact this
                    clear hg2
                    have hr := ih d1 _ C1 a i mid (by omega) hA1 hA2 (by omega) R1h.out R2h.out
                    go_wp2_with (go_at_fn (ρ.f 30); refine hr.mono ?_; rintro e w2 ⟨rfl, d2, S2, P2, Q2⟩)
                    go_meet
                    exact ⟨d2, swTr S1 S2 C.bl P2.1, P2, Q2, HB.out.tr S2 hbn⟩
                case rest =>
                  clear hB0 hB1 HB C1 hg2
                  obtain ⟨d2, S2, P2, Q2, hB0, hB1⟩ := hcut
                  have hsz2 : d2.size = d.size := P2.1.trans hsz1
                  have HB := BX wc ⟨hB0, hB1⟩
                  have C2 := C.on S2 hsz2
                  have r3 := sorted_out R3h.out P2 (.inr (Nat.le_refl _))
                  have r4 := sorted_out R4h.out P2 (.inr k5)
                  have HP2 := Lib.hid P2
                  have HQ2 := Lib.hid Q2
                  have R3i := Lib.hid r3
                  have R4i := Lib.hid r4
                  clear P2 Q2 r3 r4 S1
                  obtain ⟨w2, hw2⟩ : ∃ w2 : World, w2 = wc := ⟨_, rfl⟩
                  subst hw2
                  have fin : ∀ d3 w3, SW enc W blk off d3 w3 → PermIn mid b d2 d3 → SortedIn lt mid b d3 → ∃ d', SW enc W blk off d' w3 ∧ PermIn a b d d' ∧ SortedIn lt a b d' := fun d3 w3 S3 P3 Q3 => by
                    have hh := halves (by omega) (by omega) (by omega) R5h.out HP2.out HQ2.out P3 Q3
                    exact ⟨d3, S3, permIn_trans _ _ _ _ _ HP1.out hh.1, hh.2⟩
                  have FIN := Lib.hid fin
                  clear fin
                  by_cases hA1 : mid < mid + m - i
                  · have hc3 : (mid : Int) < (mid : Int) + (m : Int) - (i : Int) := by omega
                    by_cases hA2 : mid + m - i < b
                    · have hc4 : (mid : Int) + (m : Int) - (i : Int) < (b : Int) := by omega
                      have hr := ih d2 w2 C2 mid (mid + m - i) b (by omega) hA1 hA2 (by omega) R3i.out R4i.out
                      rw [← HE1.out] at hr
                      go_wp2_with (go_at_fn (ρ.f 30); refine hr.mono ?_; rintro e w3 ⟨rfl, d3, S3, P3, Q3⟩)
                      go_end0
                      exact ⟨rfl, FIN.out d3 _ (swTr S2 S3 C.bl P3.1) P3 Q3⟩
                    · have hc4 : ¬ (mid : Int) + (m : Int) - (i : Int) < (b : Int) := by omega
                      go_wp2
                      go_end0
                      exact ⟨rfl, FIN.out d2 _ S2 (permIn_refl _ _ _) (by rw [show b = mid + m - i by omega]; exact R3i.out)⟩
                  · have hc3 : ¬ (mid : Int) < (mid : Int) + (m : Int) - (i : Int) := by omega
                    go_wp2
                    go_end0
                    exact ⟨rfl, FIN.out d2 _ S2 (permIn_refl _ _ _) (sorted_part R4i.out (by omega) (Nat.le_refl _))⟩
end
end Go.Proofs.YtkmgbdljiajlaaaGreatDoor
namespace Go.Proofs.YtkmgbdljiajlaaaGreatDoor
open Go.Shelf Go.RowKit Go.Lib Go.Sort
section
variable {P : Program} {ρ : Ren} {α : Type} [Inhabited α] {enc : α → Value} {lt : α → α → Bool} {g : Nat} {lb : Array Value} {sf : Nat} {sb : Array Value} {blk off : Nat} {d e f : Array α} {W W1 W2 : World}
theorem ins_s (hO : SWO lt) (L : LaysGt.n15 P ρ) (C : SCtx P enc lt g lb sf sb blk off d W) (a b : Nat) (hab : a ≤ b) (hb : b ≤ d.size) :
    Calls P (ρ.f 29) #[.agg #[.func (.func g) #[] lb, .func (.func sf) #[] sb], .int .i64 a, .int .i64 b] W fun e w' => e = .returned (.tuple #[]) ∧ ∃ d', SW enc W blk off d' w' ∧ PermIn a b d d' ∧ SortedIn lt a b d' := by
  have LI : LaysGg.n26 P ρ.viaGt := ({ L with } : LaysGt.n29 P ρ).elder
  have hc : Calls P (ρ.f 29) #[.agg #[.func (.func g) #[] lb, .func (.func sf) #[] sb], .int .i64 a, .int .i64 b] W fun e w' => e = .returned (.tuple #[]) ∧ ∃ n os, w' = sortWorld enc W blk off n (Sort.insertionSort lt d a b) os :=
    Any.insertionSort_func_w LI enc lt g lb sf sb blk off a b d W C.eg C.less C.swap C.hold C.bl hab hb C.sz
  have hh := insertionSort_holds hO d a b hab hb
  exact hc.mono fun _ _ ⟨h1, n, os, h2⟩ => ⟨h1, _, ⟨n, os, h2⟩, hh.1, hh.2⟩
set_option linter.unusedVariables false in
set_option maxHeartbeats 4000000 in
set_option maxRecDepth 100000 in
theorem stable_s (hO : SWO lt) (L : LaysGt.n15 P ρ) (C : SCtx P enc lt g lb sf sb blk off d W) (hsm : d.size ≤ 1099511627776) :
    Calls P (ρ.f 15) #[.agg #[.func (.func g) #[] lb, .func (.func sf) #[] sb], .int .i64 d.size] W fun e w' => e = .returned (.tuple #[]) ∧ ∃ d', SW enc W blk off d' w' ∧ PermIn 0 d.size d d' ∧ SortedIn lt 0 d.size d' := by
  have mixed := L.mixed; have t0 := L.t0; have a0 := L.a0; have z0 := L.z0; have v0 := L.v0; have t3 := L.t3; have a3 := L.a3; have z3 := L.z3; have v3 := L.v3; have t4 := L.t4; have a4 := L.a4; have z4 := L.z4; have v4 := L.v4; have t26 := L.t26; have a26 := L.a26; have z26 := L.z26; have v26 := L.v26; have t38 := L.t38; have a38 := L.a38; have z38 := L.z38; have v38 := L.v38; have t42 := L.t42; have a42 := L.a42; have z42 := L.z42; have v42 := L.v42; have t47 := L.t47; have a47 := L.a47; have z47 := L.z47; have v47 := L.v47
  have u42 := run_underlying L.t42
  have S0 : SW enc W blk off d (W.alloc (.cells #[.func (.func g) #[] lb, .func (.func sf) #[] sb] (ρ.t 42))) := C.start.alloc _
  have B0 : BoxD g lb sf sb W.heap.size (W.alloc (.cells #[.func (.func g) #[] lb, .func (.func sf) #[] sb] (ρ.t 42))) := BoxD.new W
  have hbn : W.heap.size ≠ blk := by have := C.bl; omega
  have BX : ∀ w', BoxD g lb sf sb W.heap.size w' → Hid (BoxD g lb sf sb W.heap.size w') := fun _ h => h
  have e29 : ∀ args w, (callFunc (ρ.f 29) args).run P w = .ok (.enter (ρ.f 29) args) w := enters_of L.f29 (by kernel_rfl) rfl
  have e30 : ∀ args w, (callFunc (ρ.f 30) args).run P w = .ok (.enter (ρ.f 30) args) w := enters_of L.f30 (by kernel_rfl) rfl
  have L30 : LaysGt.n30 P ρ := { L with }
  obtain ⟨n, hn⟩ : ∃ n, n = d.size := ⟨_, rfl⟩
  rw [← hn] at hsm ⊢
  have HN := Lib.hid hn
  clear hn
  go_enter L.f15, BodyGt.n15_ntmps ρ
  go_wp2
  go_loopw [5, 6] (fun va vb wr => ∃ (x : Nat) (dk : Array α), va = .int .i64 x ∧ vb = .int .i64 ((x : Int) + 20) ∧ x ≤ n ∧ SW enc W blk off dk wr ∧ PermIn 0 n d dk ∧ DoneR lt 20 x n dk ∧ BoxD g lb sf sb W.heap.size wr) (fun va _ _ => n - (intOf va).toNat)
  case atStart => exact ⟨0, d, rfl, rfl, Nat.zero_le _, S0, permIn_refl _ _ _, DoneR.zero _ _ _, B0⟩
  case round =>
    clear S0 B0
    obtain ⟨x, dk, rfl, rfl, hx, S, PM, DR, hB0, hB1⟩ := hrel
    have HB := BX wr ⟨hB0, hB1⟩
    have HPM := Lib.hid PM
    have HDR := Lib.hid DR
    have hds : dk.size = d.size := PM.1
    have Ck := C.on S hds
    have hnd := HN.out
    clear PM DR
    by_cases hlt : x + 20 ≤ n
    · have hc1 : (x : Int) + 20 ≤ (n : Int) := by omega
      have hi := ins_s hO L Ck x (x + 20) (by omega) (by omega)
      rw [show ((x + 20 : Nat) : Int) = (x : Int) + 20 by omega] at hi
      have hds2 := Lib.hid hds
      clear hnd hds
      go_wp2_with (go_at_fn (ρ.f 29); refine hi.mono ?_; rintro e w1 ⟨rfl, dk', S', P', Q'⟩)
      go_roundw
      case rel => exact ⟨x + 20, dk', by go_num, by go_num, hlt, swTr S S' C.bl P'.1, permIn_trans _ _ _ _ _ HPM.out (permIn_in P' (Nat.zero_le _) hlt (by rw [hds2.out, HN.out]; exact Nat.le_refl _)), HDR.out.step P' (by rw [show min (x + 20) n = x + 20 by omega]; exact Q'), HB.out.tr S' hbn⟩
      case measure => simp [intOf]; omega
    · have hc1 : ¬ (x : Int) + 20 ≤ (n : Int) := by omega
      have hi := ins_s hO L Ck x n (by omega) (by omega)
      have hds2 := Lib.hid hds
      clear hnd hds
      go_wp2_with (go_at_fn (ρ.f 29); refine hi.mono ?_; rintro e w1 ⟨rfl, d1, S1', P1, Q1⟩)
      have S1 := swTr S S1' C.bl P1.1
      have HB1 := BX _ (HB.out.tr S1' hbn)
      have PM1 : PermIn 0 n d d1 := permIn_trans _ _ _ _ _ HPM.out (permIn_in P1 (Nat.zero_le _) (Nat.le_refl _) (by rw [hds2.out, HN.out]; exact Nat.le_refl _))
      have RU : Runs lt 20 0 n d1 := HDR.out d1 (fun i hi => P1.2.1 i (by omega)) (Runs.one Q1 (by omega))
      clear S S1' HB hB0 hB1 Ck P1 Q1 HDR HPM hds2 hi
      go_loopw [4] (fun vs wr => ∃ (bs : Nat) (dk : Array α), vs = .int .i64 bs ∧ 1 ≤ bs ∧ bs ≤ 2199023255572 ∧ SW enc W blk off dk wr ∧ PermIn 0 n d dk ∧ Runs lt bs 0 n dk ∧ BoxD g lb sf sb W.heap.size wr) (fun vs _ => n - (intOf vs).toNat)
      case atStart => exact ⟨20, d1, rfl, by omega, by omega, S1, PM1, RU, HB1.out⟩
      case round =>
        clear S1 PM1 RU HB1
        obtain ⟨bs, dk, rfl, hb1, hb2, S, PM, RU, hB0, hB1⟩ := hrel
        have HB := BX wr ⟨hB0, hB1⟩
        have HRU := Lib.hid RU
        have HPM := Lib.hid PM
        clear RU PM
        by_cases hlt2 : bs < n
        · have hc2 : (bs : Int) < (n : Int) := by omega
          go_wp2
          go_loopw [5, 6] (fun va vb wr => ∃ (x : Nat) (dj : Array α), va = .int .i64 x ∧ vb = .int .i64 ((x : Int) + 2 * (bs : Int)) ∧ x ≤ n ∧ SW enc W blk off dj wr ∧ PermIn 0 n d dj ∧ DoneR lt (2 * bs) x n dj ∧ Runs lt bs x n dj ∧ BoxD g lb sf sb W.heap.size wr) (fun va _ _ => n - (intOf va).toNat)
          case atStart => exact ⟨0, dk, rfl, by go_num, Nat.zero_le _, S, HPM.out, DoneR.zero _ _ _, HRU.out, HB.out⟩
          case round =>
            clear S hB0 hB1 HB HRU HPM
            obtain ⟨x, dj, rfl, rfl, hx2, S, PM, DR, RU, hB0, hB1⟩ := hrel
            have HB := BX wr ⟨hB0, hB1⟩
            have HPM := Lib.hid PM
            have HDR := Lib.hid DR
            have HRU := Lib.hid RU
            have hds : dj.size = d.size := PM.1
            have Ck := C.on S hds
            have hnd := HN.out
            have r1 := RU.head
            have r2 := RU.next.head
            clear PM DR RU
            by_cases hle : x + 2 * bs ≤ n
            · have hc3 : (x : Int) + 2 * (bs : Int) ≤ (n : Int) := by omega
              have hr := symMerge_s hO L30 (2 * bs) dj wr Ck x (x + bs) (x + 2 * bs) (by omega) (by omega) (by omega) (by omega) (by rw [show min (x + bs) n = x + bs by omega] at r1; exact r1) (by rw [show min (x + bs + bs) n = x + 2 * bs by omega] at r2; exact r2)
              rw [show ((x + bs : Nat) : Int) = (x : Int) + (bs : Int) by omega, show ((x + 2 * bs : Nat) : Int) = (x : Int) + 2 * (bs : Int) by omega] at hr
              have hds2 := Lib.hid hds
              clear hnd hds r1 r2
              go_wp2_with (go_at_fn (ρ.f 30); refine hr.mono ?_; rintro e w1 ⟨rfl, dj', S', P', Q'⟩)
              go_roundw
              case rel =>
                refine ⟨x + 2 * bs, dj', by go_num, by go_num, hle, swTr S S' C.bl P'.1, permIn_trans _ _ _ _ _ HPM.out (permIn_in P' (Nat.zero_le _) hle (by rw [hds2.out, HN.out]; exact Nat.le_refl _)), HDR.out.step P' (by rw [show min (x + 2 * bs) n = x + 2 * bs by omega]; exact Q'), ?_, HB.out.tr S' hbn⟩
                have := HRU.out.next.next
                rw [show x + bs + bs = x + 2 * bs by omega] at this
                exact this.out P' (Nat.le_refl _)
              case measure => simp [intOf]; omega
            · have hc3 : ¬ (x : Int) + 2 * (bs : Int) ≤ (n : Int) := by omega
              by_cases hmn : x + bs < n
              · have hc4 : (x : Int) + (bs : Int) < (n : Int) := by omega
                have hr := symMerge_s hO L30 (2 * bs) dj wr Ck x (x + bs) n (by omega) (by omega) hmn (by omega) (by rw [show min (x + bs) n = x + bs by omega] at r1; exact r1) (by rw [show min (x + bs + bs) n = n by omega] at r2; exact r2)
                rw [show ((x + bs : Nat) : Int) = (x : Int) + (bs : Int) by omega] at hr
                have hds2 := Lib.hid hds
                clear hnd hds r1 r2
                go_wp2_with (go_at_fn (ρ.f 30); refine hr.mono ?_; rintro e w1 ⟨rfl, dj', S', P', Q'⟩)
                go_roundw
                case rel =>
                  exact ⟨bs * 2, dj', by go_num, by omega, by omega, swTr S S' C.bl P'.1, permIn_trans _ _ _ _ _ HPM.out (permIn_in P' (Nat.zero_le _) (Nat.le_refl _) (by rw [hds2.out, HN.out]; exact Nat.le_refl _)), by rw [Nat.mul_comm]; exact HDR.out dj' (fun i hi => P'.2.1 i (by omega)) (Runs.one Q' (by omega)), HB.out.tr S' hbn⟩
                case measure => simp [intOf]; omega
              · have hc4 : ¬ (x : Int) + (bs : Int) < (n : Int) := by omega
                have R1 := Lib.hid r1
                clear hnd hds r1 r2
                go_wp2
                go_roundw
                case rel =>
                  exact ⟨bs * 2, dj, by go_num, by omega, by omega, S, HPM.out, by rw [Nat.mul_comm]; exact HDR.out dj (fun i _ => rfl) (Runs.one (by have := R1.out; rwa [show min (x + bs) n = n by omega] at this) (by omega)), HB.out⟩
                case measure => simp [intOf]; omega
        · have hc2 : ¬ (bs : Int) < (n : Int) := by omega
          go_wp2
          go_end0
          have := HRU.out.head
          rw [show min (0 + bs) n = n by omega] at this
          exact ⟨rfl, dk, S, HPM.out, this⟩
end
end Go.Proofs.YtkmgbdljiajlaaaGreatDoor
namespace Go.Proofs.YtkmgbdljiajlaaaGreatDoor
open Go.Shelf Go.RowKit Go.Lib Go.Sort

section
variable {α : Type} [Inhabited α] {enc : α → Value}
theorem heap_sortedG {w : World} {g n : Nat} {os : Array Obj} {cur : Array Value} {e : TypeId} {fr : Nat × Nat} (d : Array α) (hb : w.heap[g]? = some (.cells cur e fr)) :
    (grow (putRow enc (Sort.ahead w n) g 0 d) os).heap[g]? = some (.cells (putCells enc 0 d cur) e fr) := by
  have hg : g < w.heap.size := (Array.getElem?_eq_some_iff.1 hb).1
  rw [heap_grow_old _ _ (by simpa using hg)]
  simp [putRow, mapBlock, Sort.ahead, Array.getElem?_modify, hb, onCells]
theorem grownBy_sortedG {w : World} {g n : Nat} {os : Array Obj} (d : Array α) : w.grownBy (grow (putRow enc (Sort.ahead w n) g 0 d) os) (some g) := by
  refine ⟨rfl, rfl, rfl, by simp, fun k hk hne => ?_⟩
  rw [heap_grow_old _ _ (by simpa using hk)]
  have : g ≠ k := fun e => hne (by rw [e])
  simp [putRow, mapBlock, Sort.ahead, Array.getElem?_modify, this]
theorem take_putCellsG (cur : Array Value) (d : Array α) (h : d.size ≤ cur.size) : (putCells enc 0 d cur).toList.take d.size = d.toList.map enc := by
  apply List.ext_getElem?
  intro j
  by_cases hj : j < d.size
  · rw [List.getElem?_take_of_lt hj, Array.getElem?_toList]
    simp [putCells, hj, show j < cur.size by omega]
  · rw [List.getElem?_take_eq_none (by omega), List.getElem?_eq_none (by simp; omega)]
theorem ownsRow_sortedG {w : World} {base g cap n : Nat} {e : TypeId} {os : Array Obj} {vs : List Value} {d : Array α} (h : w.ownsRow base e 1 (.slice (some ⟨g, 0, none⟩) vs.length cap) vs.length vs) (hl : d.size = vs.length) :
    (grow (putRow enc (Sort.ahead w n) g 0 d) os).ownsRow base e 1 (.slice (some ⟨g, 0, none⟩) vs.length cap) vs.length (d.toList.map enc) := by
  rcases h.2 with ⟨h0, h1⟩ | ⟨g', cap', cur, hv, hbase, hb, h1, h2, h3, h4⟩
  · cases h0
  · injection hv with hA _ hc
    injection hA with hA
    injection hA with hA
    subst hA
    subst hc
    exact ⟨by simp [hl], .inr ⟨g, cap, _, rfl, hbase, heap_sortedG d hb, h1, h2, by simp [putCells, h3], by rw [Nat.mul_one, ← hl]; exact take_putCellsG cur d (by omega)⟩⟩
end

/-! ## The order -/
theorem lessT_swo {α : Type} (f : α → List Int) : SWO (fun x y : α => lessT (f x) (f y)) where
  irrefl x := by
    cases h : lessT (f x) (f x) with
    | false => rfl
    | true => exact absurd h (lessT_irr _)
  trans x y z h1 h2 := lessT_trans _ _ _ h1 h2
  ntrans x y z h1 h2 := by
    cases h : lessT (f x) (f z) with
    | false => rfl
    | true =>
      rcases lessT_total (f x) (f y) with e | e | e
      · rw [← e, h] at h2; cases h2
      · rw [e] at h1; cases h1
      · rw [lessT_trans _ _ _ e h] at h2; cases h2
theorem less_cmp (p q : List Int) : decide (cmpT p q < 0) = lessT p q := by
  rw [Bool.eq_iff_iff, decide_eq_true_iff]
  exact cmpT_lt

/-! ## The closure -/
theorem rd_frame {w W : World} {B : Option Addr} {n blk : Nat} {xs : List Int} (h : RdL RI w B n xs) (hne : ∀ b o, B = some ⟨b, o, none⟩ → b ≠ blk) (hf : ∀ b k u, b ≠ blk → w.cell? ⟨b, k, none⟩ = some u → W.cell? ⟨b, k, none⟩ = some u) : RdL RI W B n xs := by
  refine ⟨h.1, h.2.1, fun k x hx => ?_⟩
  obtain ⟨b, o, v, hA, hc, hr⟩ := h.2.2 k x hx
  exact ⟨b, o, v, hA, hf b _ v (hne b o hA) hc, hr⟩
set_option maxRecDepth 100000 in
theorem cmpEnter (args : Array Value) (w : World) : (callFunc 67 args).run Tryz.prog w = .ok (.enter 67 args) w := rfl
set_option maxRecDepth 100000 in
theorem lessEnter (args : Array Value) (w : World) : (callFunc 83 args).run Tryz.prog w = .ok (.enter 83 args) w := rfl
set_option maxRecDepth 100000 in
set_option maxHeartbeats 4000000 in
theorem less_rows (g c q Bo Br : Nat) (W : World) (i j : Nat) (hi : i < q) (hj : j < q) (_hq : q ≤ 1099511627776) (B1 B2 : Option Addr) (n1 c1 n2 c2 : Nat) (xs ys : List Int)
    (ho : W.cell? ⟨Bo, 0, none⟩ = some (.func (.func 67) #[] #[])) (hr : W.cell? ⟨Br, 0, none⟩ = some (.slice (some ⟨g, 0, none⟩) q c))
    (ci : W.cell? ⟨g, i, none⟩ = some (.slice B1 n1 c1)) (cj : W.cell? ⟨g, j, none⟩ = some (.slice B2 n2 c2)) (r1 : RdL RI W B1 n1 xs) (r2 : RdL RI W B2 n2 ys) :
    Calls Tryz.prog 83 #[.int .i64 i, .int .i64 j, .pointer (some ⟨Bo, 0, none⟩), .pointer (some ⟨Br, 0, none⟩)] W fun e w' => e = .returned (.bool (lessT xs ys)) ∧ ∃ m, w' = W.drewN m := by
  have hi0 : (0 : Int) ≤ (i : Int) := by omega
  have hj0 : (0 : Int) ≤ (j : Int) := by omega
  have hi1 : (i : Int) < (q : Int) := by omega
  have hj1 : (j : Int) < (q : Int) := by omega
  have HL := less_cmp xs ys
  obtain ⟨cv, HCV⟩ : ∃ cv, Hid (cmpT xs ys = cv) := ⟨_, rfl⟩
  rw [HCV.out] at HL
  have HLL := Lib.hid HL
  clear HL
  have hC : Calls Tryz.prog 67 #[.slice B1 n1 c1, .slice B2 n2 c2] W.drew (Qt W.drew (.int .i64 cv)) := by
    have := compareTerms_any B1 B2 n1 n2 c1 c2 xs ys W.drew (r1.same stab_RI fun _ _ => rfl) (r2.same stab_RI fun _ _ => rfl)
    rw [HCV.out] at this
    exact this
  clear r1 r2
  have e1 := cmpEnter
  go_enter Tryz.func83, Tryz.ntmps83
  go_wp2
  go_region_held3 (fun w' => w'.cell? ⟨Bo, 0, none⟩ = some (.func (.func 67) #[] #[]) ∧ w'.cell? ⟨Br, 0, none⟩ = some (.slice (some ⟨g, 0, none⟩) q c) ∧ w'.cell? ⟨g, i, none⟩ = some (.slice B1 n1 c1) ∧ w'.cell? ⟨g, j, none⟩ = some (.slice B2 n2 c2)) (first | go_keep | exact ⟨ho, hr, ci, cj⟩) (first | (go_at_fn 67; refine hC.mono ?_; rintro e w' ⟨rfl, m, rfl⟩))
  all_goals
    go_wp2
    go_ret
    exact ⟨ret_bool HLL.out, m + 1, by simp [World.drewN, Nat.add_comm, Nat.add_left_comm]⟩

/-! ## The sort of a matrix of the call's own -/
noncomputable def eT : TypeInfo := (Tryz.prog.info? 27).get (by kernel_rfl)
theorem eT_K (n : Nat) (h2 : 2 ≤ n) : Lib.swapperK n eT 23 = 9 := by
  have a : eT.hasPointers = true := by kernel_rfl
  have b : eT.bytes = 24 := by kernel_rfl
  have c : (n == 0) = false := by simp; omega
  have d : (n == 1) = false := by simp; omega
  simp [Lib.swapperK, a, b, c, d]
noncomputable def sT : TypeInfo := (Tryz.prog.info? 24).get (by kernel_rfl)
/-- sort.SliceStable at two elements or more. -/
theorem sliceStable_s {α : Type} [Inhabited α] {enc : α → Value} {lt : α → α → Bool} (hO : SWO lt) (h1 : ∀ x, (enc x).oneCell' = true) (lb : Array Value) (blk off c : Nat) (d : Array α) (h2 : 2 ≤ d.size) (hsm : d.size ≤ 1099511627776) (w : World)
    (hless : LessReads Tryz.prog 83 lb enc lt blk off d.size w) (hH : Holds enc w blk off d) (hblk : blk < w.heap.size) :
    Calls Tryz.prog 82 #[.iface 24 (.slice (some ⟨blk, off, none⟩) d.size c), .func (.func 83) #[] lb] w fun e w' =>
      e = .returned (.tuple #[]) ∧ ∃ d', SW enc w blk off d' w' ∧ PermIn 0 d.size d d' ∧ SortedIn lt 0 d.size d' := by
  have key := Any.sort_SliceStable_of_stable Tryz.laysGt8 24 27 sT eT (by kernel_rfl) (by kernel_rfl) (by kernel_rfl) (by kernel_rfl) 23 (fun _ => by kernel_rfl) (some ⟨blk, off, none⟩) d.size c (by omega) 107 (by rw [eT_K _ h2]; kernel_rfl) (.func 83) #[] lb w
    (fun w' => ∃ d', SW enc w blk off d' w' ∧ PermIn 0 d.size d d' ∧ SortedIn lt 0 d.size d') ?_
  · exact key
  have hB : sliceBound Tryz.prog 27 eT 23 (some ⟨blk, off, none⟩) d.size c = #[.slice (some ⟨blk, off, none⟩) d.size c, typeHandle Tryz.prog 27] := by
    unfold sliceBound; rw [if_neg (swapperK_gt _ _ _ h2)]
  obtain ⟨os0, hW⟩ : ∃ os0, stableWorld Tryz.prog Tryz.laysGt8_ren 24 (some ⟨blk, off, none⟩) d.size c w = grow w os0 := ⟨_, by unfold stableWorld; rw [alloc_eq_grow, alloc_eq_grow, grow_grow]⟩
  rw [hB, hW]
  have S0 : SW enc w blk off d (grow w os0) := ⟨0, os0, by unfold sortWorld; rw [show putRow enc (Sort.ahead w 0) blk off d = w from putRow_self _ _ _ _ _ hH]⟩
  have C : SCtx Tryz.prog enc lt 83 lb 107 #[.slice (some ⟨blk, off, none⟩) d.size c, typeHandle Tryz.prog 27] blk off d (grow w os0) :=
    ⟨lessEnter, hless.grow hblk os0, swapSwaps_of_literal (P := Tryz.prog) _ 107 (fun args W => run_callFunc_extern (by first | exact Tryz.func107) (by kernel_rfl) (by kernel_rfl) (by kernel_rfl) (e := Extern.ReflectliteSwapper.swap false) (by kernel_rfl) args W) 27 eT (by kernel_rfl) (by kernel_rfl) (fun _ => by kernel_rfl) enc h1 blk off d.size c,
      holds_grow enc w _ blk off d hblk hH, by rw [size_grow]; omega, by omega⟩
  exact (stable_s (P := Tryz.prog) (ρ := Tryz.laysGt8_ren) hO { Tryz.laysGt8 with } C hsm).mono fun _ _ ⟨e1, d', S', P', Q'⟩ => ⟨e1, d', swTr S0 S' hblk P'.1, P', Q'⟩

theorem own_neR {w : World} {lo g : Nat} {v : Value} {n cap m : Nat} {xs ys : List Value} (h : w.ownsRow lo 3 1 v n xs) (h' : w.ownsRow lo 27 1 (.slice (some ⟨g, 0, none⟩) m cap) m ys) : ∀ b, v.ownBlock = some b → b ≠ g := by
  intro b hb e
  subst e
  rcases h.2 with ⟨rfl, -⟩ | ⟨g1, cap1, cur1, rfl, -, hh, -⟩
  · simp [Value.ownBlock] at hb
  · have : g1 = b := by simpa [Value.ownBlock] using hb
    subst this
    rcases h'.2 with ⟨h0, -⟩ | ⟨g2, cap2, cur2, hv, -, hh2, -⟩
    · cases h0
    · injection hv with hA _ _
      injection hA with hA
      injection hA with hA
      subst hA
      rw [hh] at hh2
      injection hh2 with hh2
      injection hh2 with _ h5
      exact absurd h5 (by decide)
/-- What the sort hands back. -/
def SrtE (lo : Nat) (w : World) (A : Option Addr) (q c : Nat) (xss : List (List Int)) (e : Ending) (w' : World) : Prop :=
  e = .returned (.tuple #[]) ∧ ∃ yss, OwM 27 3 (.int .i64) lo w' (.slice A q c) q yss ∧ yss.Perm xss ∧ yss.Pairwise (fun p r => lessT r p = false) ∧ Below lo w w'
set_option maxRecDepth 100000 in
set_option maxHeartbeats 4000000 in
theorem sortBig (lo g c q : Nat) (xss : List (List Int)) (w W2 : World) (Bo Br : Nat) (hM : OwM 27 3 (.int .i64) lo w (.slice (some ⟨g, 0, none⟩) q c) q xss) (hlo : lo ≤ w.heap.size) (hbd : ∀ xs ∈ xss, ∀ x ∈ xs, ∀ wz : World, RI wz (.int .i64 x) x) (h2 : 2 ≤ q) (hq : q ≤ 1100)
    (T2 : Below w.heap.size w W2) (ho : W2.cell? ⟨Bo, 0, none⟩ = some (.func (.func 67) #[] #[])) (hr : W2.cell? ⟨Br, 0, none⟩ = some (.slice (some ⟨g, 0, none⟩) q c)) (hBo : Bo ≠ g) (hBr : Br ≠ g) :
    Calls Tryz.prog 82 #[.iface 24 (.slice (some ⟨g, 0, none⟩) q c), .func (.func 83) #[] #[.pointer (some ⟨Bo, 0, none⟩), .pointer (some ⟨Br, 0, none⟩)]] W2 (SrtE lo w (some ⟨g, 0, none⟩) q c xss) := by
  obtain ⟨vs, m1, m2, m3, m4⟩ := hM
  have hl : vs.length = q := by have := m1.1; simpa using this
  have hzl : (vs.zip xss).length = q := by rw [List.length_zip, m2, Nat.min_self, ← m2, hl]
  have hx : ∀ t ∈ vs.zip xss, ∃ k, vs[k]? = some t.1 ∧ xss[k]? = some t.2 := fun t ht => by
    obtain ⟨k, hk, e⟩ := List.getElem_of_mem ht
    rw [List.getElem_zip] at e
    have k1 : k < vs.length := by rw [List.length_zip] at hk; omega
    have k2 : k < xss.length := by rw [List.length_zip] at hk; omega
    exact ⟨k, by rw [← e]; exact List.getElem?_eq_getElem k1, by rw [← e]; exact List.getElem?_eq_getElem k2⟩
  have good : ∀ t ∈ vs.zip xss, ∃ B n c', t.1 = .slice B n c' ∧ RdL RI w B n t.2 ∧ (∀ b o, B = some ⟨b, o, none⟩ → b ≠ g) ∧ w.ownsRow lo 3 1 t.1 t.2.length (t.2.map (.int .i64)) := fun t ht => by
    obtain ⟨k, k1, k2⟩ := hx t ht
    have ho := m3 k _ _ k1 k2
    obtain ⟨B, c', e⟩ := own_slice ho
    have hne := own_neR ho m1
    rw [e] at ho
    refine ⟨B, t.2.length, c', e, rd_of_own (R := RI) ho fun x hx' => hbd _ (List.mem_of_getElem? k2) x hx' w, fun b o hB => ?_, by rw [e]; exact ho⟩
    rcases ho.2 with ⟨h0, -⟩ | ⟨g1, cap1, cur1, hv, -⟩
    · injection h0 with h0 _ _
      rw [h0] at hB
      cases hB
    · injection hv with hA _ _
      rw [hA] at hB
      injection hB with hB
      injection hB with hB _
      subst hB
      exact hne g1 (by rw [e, hA]; rfl)
  let α := {t : Value × List Int // t ∈ vs.zip xss}
  have h0 : 0 < (vs.zip xss).length := by omega
  letI : Inhabited α := ⟨⟨(vs.zip xss)[0], List.getElem_mem h0⟩⟩
  let enc : α → Value := fun t => t.1.1
  let lt : α → α → Bool := fun x y => lessT x.1.2 y.1.2
  let d : Array α := (vs.zip xss).attach.toArray
  have hds : d.size = q := by show ((vs.zip xss).attach.toArray).size = q; simp [hl, ← m2]
  have hd : ∀ j, j < q → ∃ (hj : j < (vs.zip xss).length), (d[j]!).1 = (vs.zip xss)[j] := fun j hj => by
    refine ⟨by omega, ?_⟩
    rw [getElem!_pos d j (by rw [hds]; exact hj)]
    show ((vs.zip xss).attach.toArray[j]'_).1 = _
    simp
  have ROW2 := own_next m1 T2
  rw [← hl] at ROW2
  have hblk : g < W2.heap.size := by
    have := (m1.lt g rfl).2
    have := T2.size
    omega
  have hH : Holds enc W2 g 0 d := fun j hj => by
    rw [hds] at hj
    obtain ⟨hj', e⟩ := hd j hj
    refine ⟨?_, ROW2.frozenAt _⟩
    rw [ROW2.cellAt _ (by omega), Nat.zero_add]
    show vs[j]? = some (d[j]!).1.1
    rw [e, List.getElem_zip]
    exact List.getElem?_eq_getElem (by omega)
  have hless : LessReads Tryz.prog 83 #[.pointer (some ⟨Bo, 0, none⟩), .pointer (some ⟨Br, 0, none⟩)] enc lt g 0 d.size W2 := by
    intro m os dk hs i j hi hj
    have hf : ∀ b k u, b ≠ g → W2.cell? ⟨b, k, none⟩ = some u → (sortWorld enc W2 g 0 m dk os).cell? ⟨b, k, none⟩ = some u := fun b k u hb hc => swCell ⟨m, os, rfl⟩ hb hc
    have hHd := holds_sortWorld enc W2 g 0 m d dk os hblk hH hs
    obtain ⟨B1, n1, c1, e1, r1, q1, -⟩ := good _ (dk[i]!).2
    obtain ⟨B2, n2, c2, e2, r2, q2, -⟩ := good _ (dk[j]!).2
    have ci := (hHd i (by omega)).1
    have cj := (hHd j (by omega)).1
    rw [Nat.zero_add] at ci cj
    have R1 := rd_frame (r1.next stab_RI T2) q1 hf
    have R2 := rd_frame (r2.next stab_RI T2) q2 hf
    exact less_rows g c q Bo Br _ i j (by omega) (by omega) (by omega) B1 B2 n1 c1 n2 c2 _ _ (hf _ _ _ hBo ho) (hf _ _ _ hBr hr) (by rw [ci]; show some (dk[i]!).1.1 = _; rw [e1]) (by rw [cj]; show some (dk[j]!).1.1 = _; rw [e2]) R1 R2
  have hO : SWO lt := lessT_swo fun t : α => t.1.2
  have key := sliceStable_s (enc := enc) (lt := lt) hO (fun t => by obtain ⟨B, n, c', e, -⟩ := good _ t.2; show t.1.1.oneCell' = true; rw [e]; rfl) #[.pointer (some ⟨Bo, 0, none⟩), .pointer (some ⟨Br, 0, none⟩)] g 0 c d (by omega) (by omega) W2 hless hH hblk
  rw [hds] at key
  refine key.mono ?_
  rintro e w' ⟨rfl, d', ⟨n, os, rfl⟩, P, Q⟩
  have hs' : d'.size = q := by rw [P.1, hds]
  have hperm : d'.toList.Perm d.toList := by
    have := P.2.2
    rwa [← hds, show d'.extract 0 d.size = d' by rw [← P.1]; simp, show d.extract 0 d.size = d by simp] at this
  have hdm1 : d.toList.map enc = vs := by
    apply List.ext_getElem
    · rw [List.length_map, Array.length_toList, hds, hl]
    · intro j h1' h2'
      have hj : j < q := by omega
      obtain ⟨hj', e⟩ := hd j hj
      rw [List.getElem_map]
      have : (d.toList[j]'(by simpa using h1')) = d[j]! := by rw [getElem!_pos d j (by omega)]; simp
      rw [this]
      show (d[j]!).1.1 = _
      rw [e, List.getElem_zip]
  have hdm2 : d.toList.map (fun t : α => t.1.2) = xss := by
    apply List.ext_getElem
    · rw [List.length_map, Array.length_toList, hds, ← m2, hl]
    · intro j h1' h2'
      have hj : j < q := by omega
      obtain ⟨hj', e⟩ := hd j hj
      rw [List.getElem_map]
      have : (d.toList[j]'(by simpa using h1')) = d[j]! := by rw [getElem!_pos d j (by omega)]; simp
      rw [this, e, List.getElem_zip]
  have hg2 := grownBy_sortedG (enc := enc) (w := W2) (g := g) (n := n) (os := os) d'
  have ROW3 := ownsRow_sortedG (enc := enc) (n := n) (os := os) (d := d') ROW2 (by rw [hs', hl])
  rw [hl] at ROW3
  refine ⟨rfl, d'.toList.map (fun t : α => t.1.2), ⟨d'.toList.map enc, ROW3, by simp, ?_, ?_⟩, ?_, ?_, ?_⟩
  · intro k u xs hu hxs
    rw [List.getElem?_map] at hu hxs
    cases hk : d'.toList[k]? with
    | none => rw [hk] at hu; cases hu
    | some t =>
      rw [hk] at hu hxs
      injection hu with hu
      injection hxs with hxs
      subst hu
      subst hxs
      obtain ⟨B, n1, c1, e1, -, -, ow⟩ := good _ t.2
      have hne := own_neR ow m1
      refine own_same (own_next ow T2) fun b hb => hg2.block b ?_ fun e => ?_
      · have := (ow.lt b hb).2
        have := T2.size
        omega
      · injection e with e
        exact hne b hb e
  · have := (hperm.map enc).filterMap Value.ownBlock
    rw [hdm1] at this
    exact this.nodup_iff.2 m4
  · have := hperm.map (fun t : α => t.1.2)
    rwa [hdm2] at this
  · rw [List.pairwise_iff_getElem]
    intro i j hi hj hij
    rw [List.length_map, Array.length_toList] at hi hj
    have := Q i j (Nat.zero_le _) hij (by omega)
    rw [getElem!_pos d' i hi, getElem!_pos d' j hj] at this
    simpa using this
  · have hT : Below lo w W2 := ⟨T2.os, T2.tape, T2.output, T2.size, fun b hb => T2.block b (by omega)⟩
    exact hT.grown hg2 (by have := T2.size; omega) fun k hk => by injection hk with hk; subst hk; exact (m1.lt g rfl).1

theorem sortTiny (lo q c : Nat) (A : Option Addr) (xss : List (List Int)) (w W2 : World) (lb : Array Value) (hM : OwM 27 3 (.int .i64) lo w (.slice A q c) q xss) (hlo : lo ≤ w.heap.size) (hq : q ≤ 1) (T2 : Below w.heap.size w W2) :
    Calls Tryz.prog 82 #[.iface 24 (.slice A q c), .func (.func 83) #[] lb] W2 (SrtE lo w A q c xss) := by
  have hxl : xss.length = q := by obtain ⟨vs, m1, m2, -⟩ := hM; rw [← m2]; have := m1.1; simpa using this
  have hlo2 : Below lo w W2 := ⟨T2.os, T2.tape, T2.output, T2.size, fun b hb => T2.block b (by omega)⟩
  have fin : ∀ os, SrtE lo w A q c xss (.returned (.tuple #[])) (grow W2 os) := fun os => by
    have hb : Below W2.heap.size W2 (grow W2 os) := ⟨rfl, rfl, rfl, by rw [size_grow]; omega, fun b hb => heap_grow_old _ _ hb⟩
    refine ⟨rfl, xss, (hM.next T2).next hb, List.Perm.refl _, ?_, hlo2.trans ⟨hb.os, hb.tape, hb.output, hb.size, fun b h => hb.block b (by have := T2.size; omega)⟩⟩
    match xss, hxl with
    | [], _ => exact List.Pairwise.nil
    | [p], _ => exact List.pairwise_singleton _ _
    | p :: r :: l, h => simp at h; omega
  rcases Nat.lt_or_ge q 1 with h | h
  · obtain rfl : q = 0 := by omega
    exact (Any.sort_SliceStable_tiny (P := Tryz.prog) Tryz.laysGt8 24 27 sT eT (by kernel_rfl) (by kernel_rfl) (by kernel_rfl) (by kernel_rfl) 23 (fun _ => by kernel_rfl) A 0 c (by omega) 99 (by kernel_rfl) (.func 83) #[] lb W2).mono fun _ _ ⟨e1, os, e2⟩ => by rw [e1, e2]; exact fin os
  · obtain rfl : q = 1 := by omega
    exact (Any.sort_SliceStable_tiny (P := Tryz.prog) Tryz.laysGt8 24 27 sT eT (by kernel_rfl) (by kernel_rfl) (by kernel_rfl) (by kernel_rfl) 23 (fun _ => by kernel_rfl) A 1 c (by omega) 100 (by kernel_rfl) (.func 83) #[] lb W2).mono fun _ _ ⟨e1, os, e2⟩ => by rw [e1, e2]; exact fin os
set_option maxRecDepth 100000 in
set_option maxHeartbeats 4000000 in
theorem sortRows_any (lo : Nat) (A : Option Addr) (c q : Nat) (xss : List (List Int)) (w : World) (hM : OwM 27 3 (.int .i64) lo w (.slice A q c) q xss) (hlo : lo ≤ w.heap.size) (hbd : ∀ xs ∈ xss, ∀ x ∈ xs, ∀ wz : World, RI wz (.int .i64 x) x) (hq : q ≤ 1100) :
    Calls Tryz.prog 66 #[.slice A q c, .func (.func 67) #[] #[]] w (SrtE lo w A q c xss) := by
  obtain ⟨w2, hw2⟩ : ∃ w2, w2 = (w.alloc (.cells #[.slice A q c] 24)).alloc (.cells #[.func (.func 67) #[] #[]] 94) := ⟨_, rfl⟩
  have T2 : Below w.heap.size w w2 := by rw [hw2]; exact (below_box w _).trans ⟨rfl, rfl, rfl, by simp, fun b hb => by rw [Below.heap_alloc _ _ b (by simp; omega)]⟩
  have hr : w2.cell? ⟨w.heap.size, 0, none⟩ = some (.slice A q c) := by rw [hw2]; exact cell_new2 _ _ rfl
  have ho : w2.cell? ⟨w.heap.size + 1, 0, none⟩ = some (.func (.func 67) #[] #[]) := by rw [hw2]; exact cell_new _ (by simp)
  have key : Calls Tryz.prog 82 #[.iface 24 (.slice A q c), .func (.func 83) #[] #[.pointer (some ⟨w.heap.size + 1, 0, none⟩), .pointer (some ⟨w.heap.size, 0, none⟩)]] w2 (SrtE lo w A q c xss) := by
    rcases Nat.lt_or_ge 1 q with h | h
    · obtain ⟨g, hA, hg⟩ : ∃ g, A = some ⟨g, 0, none⟩ ∧ g < w.heap.size := by
        obtain ⟨vs, m1, -⟩ := hM
        rcases m1.2 with ⟨h0, h1⟩ | ⟨g, cap, cur, hv, hbs, hb, -⟩
        · omega
        · injection hv with hA _ _
          exact ⟨g, hA, (Array.getElem?_eq_some_iff.1 hb).1⟩
      subst hA
      exact sortBig lo g c q xss w w2 _ _ hM hlo hbd h hq T2 ho hr (by omega) (by omega)
    · exact sortTiny lo q c A xss w w2 _ hM hlo h T2
  have HW := Lib.hid hw2
  clear hw2 hr ho T2
  go_enter Tryz.func66, Tryz.ntmps66
  go_wp2_with fail
  rw [← HW.out]
  go_wp2_with (go_at_call 82; refine key.mono ?_; rintro e w' ⟨rfl, H⟩)
  go_end0
  exact ⟨rfl, H⟩
end Go.Proofs.YtkmgbdljiajlaaaGreatDoor
namespace Go.Proofs.YtkmgbdljiajlaaaGreatDoor
open Go.RowKit

/-- A matrix of the call's own, with one row more. -/
theorem OwM.push {α : Type} {eo ei : TypeId} {f : α → Value} {lo : Nat} {w w1 : World} {v : Value} {n : Nat} {xss : List (List α)} (hne : eo ≠ ei) (h : OwM eo ei f lo w v n xss) (hb : Below w.heap.size w w1) (hlo : lo ≤ w.heap.size) {u : Value} {xs : List α} (hu : w1.ownsRow w.heap.size ei 1 u xs.length (xs.map f)) :
    ∃ vs, w1.ownsRow lo eo 1 v n vs ∧ ∀ {w2 : World} {v' : Value}, w2.ownsRow lo eo 1 v' (n + 1) (vs ++ [u]) → w1.grownBy w2 v.ownBlock → OwM eo ei f lo w2 v' (n + 1) (xss ++ [xs]) := by
  obtain ⟨vs, h1, h2, h3, h4⟩ := h
  have hk1 := own_next h1 hb
  refine ⟨vs, hk1, fun {w2 v'} hown hg => ⟨vs ++ [u], hown, by simp [h2], ?_, ?_⟩⟩
  · have far : ∀ {base : Nat} {y : Value} {ys : List α}, w1.ownsRow base ei 1 y ys.length (ys.map f) → w2.ownsRow base ei 1 y ys.length (ys.map f) := fun ho =>
      own_same ho fun b hb => hg.block b (ho.lt b hb).2 (fun e => own_ne ho hk1 hne.symm hb e.symm)
    intro k y ys hy hx
    by_cases hk : k < vs.length
    · rw [List.getElem?_append_left hk] at hy
      rw [List.getElem?_append_left (by omega)] at hx
      exact far (own_next (h3 k y ys hy hx) hb)
    · have hk2 : k = vs.length := by
        have := (List.getElem?_eq_some_iff.1 hy).1
        simp at this
        omega
      subst hk2
      rw [List.getElem?_append_right (Nat.le_refl _)] at hy
      rw [h2, List.getElem?_append_right (Nat.le_refl _)] at hx
      simp at hy hx
      subst hy
      subst hx
      exact far (own_mono hu hlo)
  · rw [List.filterMap_append]
    cases hub : u.ownBlock with
    | none => simpa [hub] using h4
    | some g =>
      simp only [List.filterMap_cons, hub, List.filterMap_nil]
      rw [List.nodup_append]
      refine ⟨h4, by simp, fun a ha b hb' => ?_⟩
      simp at hb'
      subst hb'
      obtain ⟨y, hy, hyb⟩ := List.mem_filterMap.1 ha
      obtain ⟨k, hk⟩ := List.getElem?_of_mem hy
      have hkl : k < xss.length := by rw [← h2]; exact (List.getElem?_eq_some_iff.1 hk).1
      have h5 := ((h3 k y _ hk (List.getElem?_eq_getElem hkl)).lt a hyb).2
      have h6 := (hu.lt b hub).1
      omega
theorem mat_lit {w w1 : World} (h : Below w.heap.size w w1) : OwM 27 3 (.int .i64) w.heap.size (w1.alloc (.cells #[] 27)) (.slice (some ⟨w1.heap.size, 0, none⟩) 0 0) 0 [] :=
  ⟨[], World.ownsRow_lit _ _ _ h.size (Nat.zero_le _) rfl, rfl, fun k u xs hu => by simp at hu, by simp⟩
end Go.Proofs.YtkmgbdljiajlaaaGreatDoor
namespace Go.Proofs.YtkmgbdljiajlaaaGreatDoor
open Go.RowKit

section
variable {w w' : World} {base : Nat} {e : TypeId} {size : Nat} {v : Value} {n : Nat} {xs : List Value}
end
end Go.Proofs.YtkmgbdljiajlaaaGreatDoor
namespace Go.Proofs.YtkmgbdljiajlaaaGreatDoor
open Go.RowKit

theorem partL_iff {ys : List Int} : ∀ {xs : List Int}, partL ys xs = true ↔ ∀ x ∈ xs, x ∈ ys
  | [] => by simp [partL]
  | x :: l => by
    rw [partL]
    simp only [Bool.and_eq_true, hasI_iff, List.mem_cons, forall_eq_or_imp]
    rw [partL_iff (xs := l)]
theorem isSet_len {n : Nat} {s : List Int} (h : IsSet n s) : s.length ≤ n := by
  have := (set_sub h).length_le
  rwa [upTo_len] at this
/-- The call hands back a matrix of its own and a bool. -/
def OwnMB (w : World) (xss : List (List Int)) (b : Bool) (e : Ending) (w' : World) : Prop := ∃ A n c, e = .returned (.tuple #[.slice A n c, .bool b]) ∧ OwM 27 3 (.int .i64) w.heap.size w' (.slice A n c) n xss ∧ Below w.heap.size w w'
/-- The call hands back a slice of slices that reads so, and a bool. -/
def RdMB (w : World) (xss : List (List Int)) (b : Bool) (e : Ending) (w' : World) : Prop := ∃ A n c, e = .returned (.tuple #[.slice A n c, .bool b]) ∧ RdL (RV RI) w' A n xss ∧ Below w.heap.size w w'
end Go.Proofs.YtkmgbdljiajlaaaGreatDoor
namespace Go.Proofs.YtkmgbdljiajlaaaGreatDoor
open Go.RowKit

/-! ## The plain law -/
structure GenL (n : Nat) (xss acc : List (List Int)) : Prop where
  nd : acc.Nodup
  set : ∀ p ∈ acc, IsSet n p
  top : upTo n ∈ acc
  sub : ∀ p ∈ acc, p ∈ systemL n xss
theorem GenL.start (n : Nat) (xss : List (List Int)) : GenL n xss [upTo n] :=
  ⟨by simp, fun p hp => by rw [List.mem_singleton.1 hp]; exact upTo_set n, List.mem_singleton.2 rfl, fun p hp => by rw [List.mem_singleton.1 hp]; exact systemL_top n xss⟩
theorem GenL.len {n : Nat} {xss acc : List (List Int)} (h : GenL n xss acc) (hn : n ≤ 6) : acc.length ≤ 64 := by
  have h1 := nodup_len (l := acc) (m := subs (upTo n)) h.nd fun p hp => mem_subs (set_sub (h.set p hp))
  rw [subs_len, upTo_len] at h1
  exact Nat.le_trans h1 (Nat.le_trans (Nat.pow_le_pow_right (by decide) hn) (by decide))
theorem GenL.add {n : Nat} {xss acc : List (List Int)} (h : GenL n xss acc) {p : List Int} (hs : IsSet n p) (hi : p ∈ systemL n xss) (hn : p ∉ acc) : GenL n xss (acc ++ [p]) := by
  refine ⟨?_, ?_, List.mem_append_left _ h.top, ?_⟩
  · rw [List.nodup_append]
    exact ⟨h.nd, by simp, fun a ha b hb e => by rw [List.mem_singleton.1 hb] at e; exact hn (e ▸ ha)⟩
  · intro q hq
    rcases List.mem_append.1 hq with hq | hq
    · exact h.set q hq
    · rw [List.mem_singleton.1 hq]; exact hs
  · intro q hq
    rcases List.mem_append.1 hq with hq | hq
    · exact h.sub q hq
    · rw [List.mem_singleton.1 hq]; exact hi
theorem GenL.meet {n : Nat} {xss acc : List (List Int)} (h : GenL n xss acc) {p q : List Int} (hp : p ∈ acc) (hq : q ∈ acc) : IsSet n (meetL q p) ∧ meetL q p ∈ systemL n xss :=
  ⟨(h.set p hp).meet q, systemL_cl n xss p (h.sub p hp) q (h.sub q hq)⟩
/-- The pairs of the first i, and those of i with the first k, have their meets in the list. -/
def Prs (acc : List (List Int)) (i k : Nat) : Prop := ∀ a b p q, acc[a]? = some p → acc[b]? = some q → b < a → (a < i ∨ (a = i ∧ b < k)) → meetL q p ∈ acc
theorem Prs.zero (acc : List (List Int)) : Prs acc 0 0 := fun a b p q _ _ h1 h2 => by omega
theorem Prs.next {acc : List (List Int)} {i k : Nat} (h : Prs acc i k) (hk : i ≤ k) : Prs acc (i + 1) 0 := fun a b p q hp hq h1 h2 => h a b p q hp hq h1 (by omega)
theorem Prs.step {acc : List (List Int)} {i k : Nat} {p q : List Int} (h : Prs acc i k) (hi : acc[i]? = some p) (hk : acc[k]? = some q) (hm : meetL q p ∈ acc) : Prs acc i (k + 1) := by
  intro a b p' q' hp hq h1 h2
  by_cases e : a = i ∧ b = k
  · obtain ⟨rfl, rfl⟩ := e
    rw [hi] at hp
    rw [hk] at hq
    injection hp with hp
    injection hq with hq
    subst hp
    subst hq
    exact hm
  · exact h a b p' q' hp hq h1 (by omega)
/-! ## The walk -/
end Go.Proofs.YtkmgbdljiajlaaaGreatDoor
namespace Go.Proofs.YtkmgbdljiajlaaaGreatDoor
open Go.RowKit

end Go.Proofs.YtkmgbdljiajlaaaGreatDoor
namespace Go.Proofs.YtkmgbdljiajlaaaGreatDoor
open Go.RowKit

end Go.Proofs.YtkmgbdljiajlaaaGreatDoor
namespace Go.Proofs.YtkmgbdljiajlaaaGreatDoor
open Go.RowKit

end Go.Proofs.YtkmgbdljiajlaaaGreatDoor
namespace Go.Proofs.YtkmgbdljiajlaaaGreatDoor
open Go.RowKit

def valB : List Int → Nat
  | [] => 0
  | x :: l => 2 ^ x.toNat + valB l
theorem bits8_val : ∀ m, m < 256 → valB (bitsTo m 8) = m := by decide +kernel
theorem bits8_inj {a b : Nat} (ha : a < 256) (hb : b < 256) (h : bitsTo a 8 = bitsTo b 8) : a = b := by rw [← bits8_val a ha, ← bits8_val b hb, h]
theorem insT_lenP (p : List Int) (xss : List (List Int)) : (insT p xss).length = xss.length + 1 := by
  rw [insT, List.length_append, List.length_cons, List.length_take, List.length_drop]
  omega
variable {P : List Int → Bool}
/-- The sets with the property among the first m masks. -/
def selA (P : List Int → Bool) : Nat → List (List Int)
  | 0 => []
  | m + 1 => selA P m ++ (if P (bitsTo m 8) then [bitsTo m 8] else [])
/-- The same, each put in its place. -/
def insA (P : List Int → Bool) : Nat → List (List Int)
  | 0 => []
  | m + 1 => if P (bitsTo m 8) then insT (bitsTo m 8) (insA P m) else insA P m
theorem selA_mem : ∀ {k : Nat}, k ≤ 256 → ∀ x, x ∈ selA P k ↔ ∃ j, j < k ∧ x = bitsTo j 8 ∧ P x = true
  | 0, _, x => by simp [selA]
  | k + 1, hk, x => by
    rw [selA, List.mem_append, selA_mem (by omega)]
    constructor
    · rintro (⟨j, h1, h2, h3⟩ | h)
      · exact ⟨j, by omega, h2, h3⟩
      · split at h
        · rename_i hp
          rw [List.mem_singleton.1 h]
          exact ⟨k, by omega, rfl, hp⟩
        · simp at h
    · rintro ⟨j, h1, h2, h3⟩
      by_cases e : j = k
      · subst e
        right
        rw [← h2, if_pos h3]
        simp
      · exact .inl ⟨j, by omega, h2, h3⟩
theorem insA_mem : ∀ (m : Nat) (p : List Int), p ∈ insA P m ↔ p ∈ selA P m
  | 0, p => by simp [insA, selA]
  | m + 1, p => by
    rw [insA, selA]
    split
    · rw [mem_insT, insA_mem m p, List.mem_append, List.mem_singleton]
      exact Or.comm
    · rw [insA_mem m p, List.append_nil]
theorem insA_srt : ∀ m, m ≤ 256 → Srt (insA P m)
  | 0, _ => List.Pairwise.nil
  | m + 1, hm => by
    have ih := insA_srt m (by omega)
    rw [insA]
    split
    · refine ih.insT fun h => ?_
      obtain ⟨j, h1, h2, -⟩ := (selA_mem (by omega) _).1 ((insA_mem m _).1 h)
      have := bits8_inj (by omega) (by omega) h2
      omega
    · exact ih
section
variable {n : Nat}
/-! ## Masks and sets -/
theorem bits_low {m k : Nat} : ∀ {j : Nat}, j ≤ k → bitsTo (m + 2 ^ k) j = bitsTo m j
  | 0, _ => rfl
  | j + 1, h => by
    rw [bitsTo, bitsTo, bits_low (by omega)]
    have e : 2 ^ k = 2 ^ j * (2 * 2 ^ (k - j - 1)) := by
      rw [← Nat.mul_assoc, ← Nat.pow_succ, ← Nat.pow_add]
      congr 1
      omega
    have e2 : (m + 2 ^ k) / 2 ^ j % 2 = m / 2 ^ j % 2 := by
      rw [e, Nat.add_mul_div_left _ _ (Nat.two_pow_pos j), Nat.add_mul_mod_self_left]
    rw [e2]
theorem bits_high {m k : Nat} (h : m < 2 ^ k) : ∀ t, bitsTo m (k + t) = bitsTo m k
  | 0 => rfl
  | t + 1 => by
    rw [← Nat.add_assoc, bitsTo, bits_high h t]
    have : m / 2 ^ (k + t) = 0 := Nat.div_eq_of_lt (Nat.lt_of_lt_of_le h (Nat.pow_le_pow_right (by decide) (by omega)))
    rw [this]
    simp
theorem valB_app (p q : List Int) : valB (p ++ q) = valB p + valB q := by
  induction p with
  | nil => simp [valB]
  | cons x l ih => rw [List.cons_append, valB, valB, ih]; omega
theorem bits_set : ∀ {k : Nat} {p : List Int}, IsSet k p → bitsTo (valB p) k = p ∧ valB p < 2 ^ k
  | 0, p, h => by
    obtain rfl : p = [] := List.eq_nil_iff_forall_not_mem.2 fun x hx => by have := h.2 x hx; omega
    exact ⟨rfl, by decide⟩
  | k + 1, p, h => by
    have hq : IsSet k (p.filter fun x => decide (x < (k : Int))) := ⟨h.1.filter _, fun x hx => by
      obtain ⟨h1, h2⟩ := List.mem_filter.1 hx
      exact ⟨(h.2 x h1).1, by simpa using h2⟩⟩
    obtain ⟨e1, e2⟩ := bits_set hq
    by_cases hk : (k : Int) ∈ p
    · have e : p = (p.filter fun x => decide (x < (k : Int))) ++ [(k : Int)] := by
        refine set_ext (n := k + 1) (m := k + 1) h ⟨List.pairwise_append.2 ⟨hq.1, List.pairwise_singleton .., fun a ha b hb => by rw [List.mem_singleton.1 hb]; exact (hq.2 a ha).2⟩, fun x hx => ?_⟩ fun x => ?_
        · rcases List.mem_append.1 hx with hx | hx
          · have := hq.2 x hx; omega
          · rw [List.mem_singleton.1 hx]; omega
        · rw [List.mem_append, List.mem_singleton, List.mem_filter]
          constructor
          · intro hx
            have := h.2 x hx
            by_cases hxk : x < (k : Int)
            · exact .inl ⟨hx, by simpa using hxk⟩
            · exact .inr (by omega)
          · rintro (hx | rfl)
            · exact hx.1
            · exact hk
      have ev : valB p = valB (p.filter fun x => decide (x < (k : Int))) + 2 ^ k := by
        conv => lhs; rw [e]
        rw [valB_app]
        simp [valB]
      generalize (p.filter fun x => decide (x < (k : Int))) = q at e ev e1 e2
      refine ⟨?_, by rw [ev, Nat.pow_succ]; omega⟩
      rw [bitsTo, ev, bits_low (Nat.le_refl k), e1, Nat.add_div_right _ (Nat.two_pow_pos k), Nat.div_eq_of_lt e2, e]
      simp
    · have e : p = p.filter fun x => decide (x < (k : Int)) := by
        refine (List.filter_eq_self.2 fun x hx => ?_).symm
        have := h.2 x hx
        have hne : x ≠ (k : Int) := fun e => hk (e ▸ hx)
        simp
        omega
      rw [← e] at e1 e2
      refine ⟨?_, by rw [Nat.pow_succ]; omega⟩
      rw [bitsTo, e1, Nat.div_eq_of_lt e2]
      simp
theorem bits8_set {p : List Int} (hn : n ≤ 8) (h : IsSet n p) : bitsTo (valB p) 8 = p ∧ valB p < 2 ^ n := by
  obtain ⟨e1, e2⟩ := bits_set h
  have e3 := bits_high e2 (8 - n)
  rw [show n + (8 - n) = 8 by omega, e1] at e3
  exact ⟨e3, e2⟩
end
end Go.Proofs.YtkmgbdljiajlaaaGreatDoor
namespace Go.Proofs.YtkmgbdljiajlaaaGreatDoor
open Go.RowKit

theorem less_of_sub2 {n : Nat} {b s : List Int} (hb : IsSet n b) (hs : IsSet n s) (h : ∀ x ∈ b, x ∈ s) : s = b ∨ lessT b s = true := by
  by_cases he : ∀ x ∈ s, x ∈ b
  · exact .inl (set_ext hs hb fun x => ⟨he x, h x⟩)
  · refine .inr (lessT_iff.2 (.inl ?_))
    have hnb : b.Nodup := hb.1.imp fun h => by omega
    have hns : s.Nodup := hs.1.imp fun h => by omega
    rcases Nat.lt_or_ge b.length s.length with h1 | h1
    · exact h1
    · exfalso
      refine he fun x hx => ?_
      refine Classical.byContradiction fun hxb => ?_
      have := nodup_len (l := x :: b) (m := s) (List.nodup_cons.2 ⟨hxb, hnb⟩) fun y hy => by
        rcases List.mem_cons.1 hy with rfl | hy
        · exact hx
        · exact h y hy
      simp at this
      omega
end Go.Proofs.YtkmgbdljiajlaaaGreatDoor
namespace Go.Proofs.YtkmgbdljiajlaaaGreatDoor
open Go.RowKit

section
variable {n : Nat} {S : List (List Int)}
theorem close_in {set : List Int} : ∀ {l : List (List Int)}, (∃ s ∈ l, partL s set = true) → closeL set l ∈ l ∧ partL (closeL set l) set = true
  | [], h => by obtain ⟨s, hs, -⟩ := h; simp at hs
  | s :: l, h => by
    rw [closeL]
    by_cases h1 : partL s set = true
    · rw [if_pos h1]; exact ⟨List.mem_cons_self .., h1⟩
    · rw [if_neg h1]
      obtain ⟨t, ht, hp⟩ := h
      rcases List.mem_cons.1 ht with rfl | ht
      · exact absurd hp h1
      · have := close_in ⟨t, ht, hp⟩
        exact ⟨List.mem_cons_of_mem _ this.1, this.2⟩
theorem sys_close (hS : IsSys n S) {set : List Int} (hs : ∀ x ∈ set, 0 ≤ x ∧ x < (n : Int)) : closeL set S ∈ S ∧ partL (closeL set S) set = true :=
  close_in ⟨upTo n, hS.2.2, partL_iff.2 fun x hx => mem_upTo.2 (hs x hx)⟩
/-- The closure is at most each closed set that has the set. -/
theorem close_first {set : List Int} : ∀ {l : List (List Int)}, Srt l → ∀ m ∈ l, partL m set = true → closeL set l = m ∨ lessT (closeL set l) m = true
  | s :: l, hs, m, hm, hp => by
    rw [closeL]
    by_cases h1 : partL s set = true
    · rw [if_pos h1]
      rcases List.mem_cons.1 hm with rfl | hm
      · exact .inl rfl
      · exact .inr ((List.pairwise_cons.1 hs).1 m hm)
    · rw [if_neg h1]
      rcases List.mem_cons.1 hm with rfl | hm
      · exact absurd hp h1
      · exact close_first (List.pairwise_cons.1 hs).2 m hm hp
theorem close_least (hS : IsSys n S) {set c : List Int} (hs : ∀ x ∈ set, 0 ≤ x ∧ x < (n : Int)) (hc : c ∈ S) (hp : partL c set = true) : partL c (closeL set S) = true := by
  obtain ⟨h1, h2⟩ := sys_close hS hs
  have hm := hS.2.1 _ h1 _ hc
  have hmp : partL (meetL c (closeL set S)) set = true := partL_iff.2 fun x hx => mem_meetL.2 ⟨partL_iff.1 h2 x hx, partL_iff.1 hp x hx⟩
  have hms := hS.1.2 _ hm
  have hcs := hS.1.2 _ h1
  have key : closeL set S = meetL c (closeL set S) := by
    rcases close_first hS.1.1 _ hm hmp with e | e
    · exact e
    · rcases less_of_sub2 hms hcs (fun x hx => (mem_meetL.1 hx).1) with e2 | e2
      · exact e2
      · exact absurd (lessT_trans _ _ _ e e2) (lessT_irr _)
  exact partL_iff.2 fun x hx => by rw [key] at hx; exact (mem_meetL.1 hx).2

/-! ## The meet-irreducible sets -/
end
end Go.Proofs.YtkmgbdljiajlaaaGreatDoor
namespace Go.Proofs.YtkmgbdljiajlaaaGreatDoor
open Go.RowKit
set_option linter.unusedVariables false

/-- A closure operator on the sets of n numbers. -/
structure CloOp (n : Nat) (G : List Int → List Int) : Prop where
  set : ∀ S, IsSet n (G S)
  sup : ∀ {S : List Int} {x : Int}, x ∈ S → 0 ≤ x → x < (n : Int) → x ∈ G S
  inn : ∀ {S T : List Int}, (∀ x ∈ S, 0 ≤ x → x < (n : Int) → x ∈ G T) → ∀ x, x ∈ G S → x ∈ G T
section
variable {n : Nat} {G : List Int → List Int} {P : List Int → Bool}
theorem CloOp.mono (h : CloOp n G) {S T : List Int} (hs : ∀ x ∈ S, x ∈ T) {x : Int} (hx : x ∈ G S) : x ∈ G T := h.inn (fun y hy h0 h1 => h.sup (hs y hy) h0 h1) x hx
theorem CloOp.congr (h : CloOp n G) {S T : List Int} (hs : ∀ x, x ∈ S ↔ x ∈ T) : G S = G T :=
  set_ext (h.set S) (h.set T) fun x => ⟨h.mono fun y hy => (hs y).1 hy, h.mono fun y hy => (hs y).2 hy⟩
theorem CloOp.idem (h : CloOp n G) (S : List Int) : G (G S) = G S :=
  set_ext (h.set _) (h.set S) fun x => ⟨h.inn (fun y hy _ _ => hy) x, fun hx => h.sup hx ((h.set S).2 x hx).1 ((h.set S).2 x hx).2⟩
theorem pow8g (h : n ≤ 8) : 2 ^ n ≤ 256 := Nat.le_trans (Nat.pow_le_pow_right (by decide) h) (by decide)
theorem clo_mem (hP : ∀ S, P S = true ↔ IsSet n S ∧ G S = S) (hn : n ≤ 8) {p : List Int} : p ∈ insA P (2 ^ n) ↔ IsSet n p ∧ G p = p := by
  rw [insA_mem, selA_mem (pow8g hn)]
  constructor
  · rintro ⟨j, -, -, h⟩
    exact (hP p).1 h
  · intro h
    obtain ⟨e1, e2⟩ := bits8_set hn h.1
    exact ⟨valB p, e2, e1.symm, (hP p).2 h⟩
theorem clo_sys (h : CloOp n G) (hP : ∀ S, P S = true ↔ IsSet n S ∧ G S = S) (hn : n ≤ 8) : IsSys n (insA P (2 ^ n)) := by
  refine ⟨⟨insA_srt _ (pow8g hn), fun p hp => ((clo_mem hP hn).1 hp).1⟩, fun p hp q hq => ?_, ?_⟩
  · obtain ⟨p1, p2⟩ := (clo_mem hP hn).1 hp
    obtain ⟨q1, q2⟩ := (clo_mem hP hn).1 hq
    have hm : IsSet n (meetL q p) := p1.meet q
    refine (clo_mem hP hn).2 ⟨hm, set_ext (h.set _) hm fun x => ⟨fun hx => ?_, fun hx => h.sup hx (hm.2 x hx).1 (hm.2 x hx).2⟩⟩
    rw [mem_meetL]
    exact ⟨by rw [← p2]; exact h.mono (fun y hy => (mem_meetL.1 hy).1) hx, by rw [← q2]; exact h.mono (fun y hy => (mem_meetL.1 hy).2) hx⟩
  · exact (clo_mem hP hn).2 ⟨upTo_set n, set_ext (h.set _) (upTo_set n) fun x => ⟨fun hx => mem_upTo.2 ((h.set _).2 x hx), fun hx => h.sup hx (mem_upTo.1 hx).1 (mem_upTo.1 hx).2⟩⟩
theorem clo_close (h : CloOp n G) (hP : ∀ S, P S = true ↔ IsSet n S ∧ G S = S) (hn : n ≤ 8) {T : List Int} (hT : ∀ x ∈ T, 0 ≤ x ∧ x < (n : Int)) : closeL T (insA P (2 ^ n)) = G T := by
  have hS := clo_sys h hP hn
  obtain ⟨h1, h2⟩ := sys_close hS hT
  obtain ⟨c1, c2⟩ := (clo_mem hP hn).1 h1
  have hG : G T ∈ insA P (2 ^ n) := (clo_mem hP hn).2 ⟨h.set T, h.idem T⟩
  have hp := close_least hS hT hG (partL_iff.2 fun x hx => h.sup hx (hT x hx).1 (hT x hx).2)
  refine set_ext c1 (h.set T) fun x => ⟨fun hx => partL_iff.1 hp x hx, fun hx => ?_⟩
  rw [← c2]
  exact h.mono (fun y hy => partL_iff.1 h2 y hy) hx
theorem clo_res (h : CloOp n G) (hP : ∀ S, P S = true ↔ IsSet n S ∧ G S = S) (hn : n ≤ 6) : sysRes (n : Int) (insA P (2 ^ n)) = true := by
  unfold sysRes
  rw [sysB_iff.2 (clo_sys h hP (by omega)), Bool.and_true]
  unfold inB
  simp
  omega
end
end Go.Proofs.YtkmgbdljiajlaaaGreatDoor
namespace Go.Proofs.YtkmgbdljiajlaaaGreatDoor
open Go.RowKit

theorem info_bool : (Tryz.prog.info? 4).map (fun i => (i.zero, i.size, i.bytes)) = some (some (.bool false), 1, 1) := by kernel_rfl
theorem info_bools : (Tryz.prog.info? 58).map (fun i => (i.zero, i.size, i.bytes)) = some (some (.slice none 0 0), 1, 24) := by kernel_rfl
theorem make_bools (w : World) {ops : Array Oper} {rest : List Oper} {o : Oper} {a : Act} {Q : Exit → Act → World → Prop} (hg : o.guard = none) (l c : Operand) (hop : o.op = Op.makeSlice 58 l c)
    (n : Nat) (hl : a.eval l = .int .i64 n) (hc : a.eval c = .int .i64 n) (b : n ≤ 1048576)
    (hK : ∀ w', w'.ownsRow w.heap.size 4 1 (.slice (some ⟨w.heap.size, 0, none⟩) n n) n (List.replicate n (.bool false)) → w.grownBy w' none → wpList Tryz.prog ops Q rest (a.put o.dst (.slice (some ⟨w.heap.size, 0, none⟩) n n)) w') :
    wpList Tryz.prog ops Q (o :: rest) a w := by
  obtain ⟨i0, hi, hz0, hz1, hz2⟩ := info_parts info_bool
  refine wpList_make_full w hg l c 58 hop w.heap.size 4 i0 (.bool false) 1 Tryz.underlying58 hi hz0 hz1 .i64 .i64 n n n hl hc rfl rfl (by rw [hz2]; omega) (by unfold maxLen; omega) (Nat.le_refl _) ?_
  intro w' h1 h2
  refine hK w' ?_ h2
  have e : (madeCells (Value.bool false).cells (n * 1)).toList = List.replicate n (.bool false) := by rw [Nat.mul_one]; exact toList_madeCells_one (.bool false) n
  rw [← e]
  exact h1
theorem make_order (w : World) {ops : Array Oper} {rest : List Oper} {o : Oper} {a : Act} {Q : Exit → Act → World → Prop} (hg : o.guard = none) (l c : Operand) (hop : o.op = Op.makeSlice 53 l c)
    (n : Nat) (hl : a.eval l = .int .i64 n) (hc : a.eval c = .int .i64 n) (b : n ≤ 1048576)
    (hK : ∀ w', w'.ownsRow w.heap.size 58 1 (.slice (some ⟨w.heap.size, 0, none⟩) n n) n (List.replicate n (.slice none 0 0)) → w.grownBy w' none → wpList Tryz.prog ops Q rest (a.put o.dst (.slice (some ⟨w.heap.size, 0, none⟩) n n)) w') :
    wpList Tryz.prog ops Q (o :: rest) a w := by
  obtain ⟨i0, hi, hz0, hz1, hz2⟩ := info_parts info_bools
  refine wpList_make_full w hg l c 53 hop w.heap.size 58 i0 (.slice none 0 0) 1 Tryz.underlying53 hi hz0 hz1 .i64 .i64 n n n hl hc rfl rfl (by rw [hz2]; omega) (by unfold maxLen; omega) (Nat.le_refl _) ?_
  intro w' h1 h2
  refine hK w' ?_ h2
  have e : (madeCells (Value.slice none 0 0).cells (n * 1)).toList = List.replicate n (.slice none 0 0) := by rw [Nat.mul_one]; exact toList_madeCells_one (.slice none 0 0) n
  rw [← e]
  exact h1

/-- The n x n table of a relation. -/
def tab (n : Nat) (F : Nat → Nat → Bool) : List (List Bool) := (List.range n).map fun i => (List.range n).map fun k => F i k
theorem tab_get {n : Nat} {F : Nat → Nat → Bool} {i : Nat} (h : i < n) : (tab n F)[i]? = some ((List.range n).map fun k => F i k) := by
  simp [tab, List.getElem?_map, List.getElem?_range h]
theorem tab_len (n : Nat) (F : Nat → Nat → Bool) : (tab n F).length = n := by simp [tab]
theorem row_get {n : Nat} {f : Nat → Bool} {k : Nat} (h : k < n) : ((List.range n).map f)[k]? = some (f k) := by simp [List.getElem?_range h]
theorem tab_ext {n : Nat} {F G : Nat → Nat → Bool} (h : ∀ i < n, ∀ k < n, F i k = G i k) : tab n F = tab n G := by
  unfold tab
  refine List.map_congr_left fun i hi => List.map_congr_left fun k hk => ?_
  exact h i (List.mem_range.1 hi) k (List.mem_range.1 hk)
def upd (F : Nat → Nat → Bool) (i k : Nat) (b : Bool) : Nat → Nat → Bool := fun x y => if x = i ∧ y = k then b else F x y
theorem row_set {n : Nat} (f : Nat → Bool) {k : Nat} (h : k < n) (b : Bool) : ((List.range n).map f).set k b = (List.range n).map fun y => if y = k then b else f y := by
  apply List.ext_getElem?
  intro j
  by_cases hj : j < n
  · rw [row_get hj]
    by_cases e : j = k
    · subst e
      rw [List.getElem?_set_self (by simp; omega), if_pos rfl]
    · rw [List.getElem?_set_ne (fun h => e h.symm), row_get hj, if_neg e]
  · rw [List.getElem?_eq_none (by simp; omega), List.getElem?_eq_none (by simp; omega)]
theorem tab_set {n : Nat} (F : Nat → Nat → Bool) {i k : Nat} (hi : i < n) (hk : k < n) (b : Bool) : (tab n F).set i (((List.range n).map fun y => F i y).set k b) = tab n (upd F i k b) := by
  rw [row_set _ hk]
  apply List.ext_getElem?
  intro j
  by_cases hj : j < n
  · rw [tab_get hj]
    by_cases e : j = i
    · subst e
      rw [List.getElem?_set_self (by rw [tab_len]; exact hj)]
      congr 1
      apply List.map_congr_left
      intro y _
      unfold upd
      by_cases e2 : y = k
      · subst e2; simp
      · rw [if_neg e2, if_neg (fun h => e2 h.2)]
    · rw [List.getElem?_set_ne (fun h => e h.symm), tab_get hj]
      congr 1
      apply List.map_congr_left
      intro y _
      unfold upd
      rw [if_neg (fun h => e h.1)]
  · rw [List.getElem?_eq_none (by simp [tab_len]; omega), List.getElem?_eq_none (by rw [tab_len]; omega)]

/-- A matrix of truths of the call's own. -/
abbrev OwT (lo : Nat) (w : World) (g n : Nat) (F : Nat → Nat → Bool) : Prop := OwM 58 4 Value.bool lo w (.slice (some ⟨g, 0, none⟩) n n) n (tab n F)
theorem OwT.get {lo : Nat} {w : World} {g n : Nat} {F : Nat → Nat → Bool} (h : OwT lo w g n F) {i : Nat} (hi : i < n) :
    ∃ r d, r ≠ g ∧ w.cell? ⟨g, i, none⟩ = some (.slice (some ⟨r, 0, none⟩) n d) ∧ lo ≤ r ∧ r < w.heap.size ∧ (∀ k, k < n → w.cell? ⟨r, k, none⟩ = some (.bool (F i k)) ∧ w.frozen? ⟨r, k, none⟩ = false) ∧
      ∀ k b, k < n → OwT lo (w.setCell ⟨r, k, none⟩ (.bool b)) g n (upd F i k b) := by
  obtain ⟨vs, hv⟩ := h
  have hvl : vs.length = n := by rw [hv.2.1, tab_len]
  have hvi : vs[i]? = some vs[i] := List.getElem?_eq_getElem (by omega)
  have hrow := hv.2.2.1 i _ _ hvi (tab_get hi)
  have hlen : ((List.range n).map fun k => F i k).length = n := by simp
  rw [hlen] at hrow
  obtain ⟨B, d, hB⟩ := own_slice hrow
  rw [hB] at hrow
  obtain ⟨r, rfl, hlo⟩ : ∃ r, B = some ⟨r, 0, none⟩ ∧ lo ≤ r := by
    rcases hrow.2 with ⟨_, h0⟩ | ⟨r, cap, cur, e, hb, _⟩
    · omega
    · injection e with e1 e2 e3
      exact ⟨r, e1, hb⟩
  have hcell : w.cell? ⟨g, i, none⟩ = some (.slice (some ⟨r, 0, none⟩) n d) := by rw [hv.1.cellAt i (by omega), hvi, hB]
  have hgr : r ≠ g := fun e => own_ne hrow hv.1 (by decide) (g := r) rfl (by rw [e]; rfl)
  refine ⟨r, d, hgr, hcell, hlo, (hrow.lt r rfl).2, fun k hk => ⟨?_, hrow.frozenAt k⟩, fun k b hk => ?_⟩
  · rw [hrow.cellAt k (by omega), List.getElem?_map, row_get hk]
    rfl
  · obtain ⟨hst, hgr⟩ := hrow.stored k (.bool b)
    have e : (((List.range n).map fun k => F i k).map Value.bool).set k (.bool b) = (((List.range n).map fun y => F i y).set k b).map Value.bool := by rw [List.map_set]
    have hst' : (w.setCell ⟨r, k, none⟩ (.bool b)).ownsRow lo 4 1 vs[i] (((List.range n).map fun y => F i y).set k b).length ((((List.range n).map fun y => F i y).set k b).map Value.bool) := by
      rw [hB, ← e]
      simpa using hst
    have h2 : OwMv 58 4 Value.bool lo w (.slice (some ⟨g, 0, none⟩) n n) n vs (tab n F) := hv
    have h3 := h2.setRow (by decide) hvi (by rw [hB]; exact hgr) hst'
    rw [tab_set F hi hk b] at h3
    exact ⟨vs, h3⟩

set_option maxHeartbeats 1000000 in
theorem newOrder_any (n : Nat) (w : World) (hn : n ≤ 1048576) :
    Calls Tryz.prog 55 #[.int .i64 n] w fun e w' => ∃ g, e = .returned (.slice (some ⟨g, 0, none⟩) n n) ∧ OwT w.heap.size w' g n (fun _ _ => false) ∧ Below w.heap.size w w' := by
  go_enter Tryz.func55, Tryz.ntmps55
  go_wp2_with (at_make; refine make_order _ rfl _ _ rfl n rfl rfl hn ?_; intro w1 hown hg1)
  have hT := (Below.refl w.heap.size w).grown hg1 (Nat.le_refl _) (by simp)
  clear hg1
  go_loopw [9] (fun i wr => ∃ k : Nat, k ≤ n ∧ i = .int .i64 k ∧ FillM 58 4 Value.bool w.heap.size w.heap.size n wr (tab n fun _ _ => false) k ∧ Below w.heap.size w wr) (fun i _ => n - (intOf i).toNat)
  case atStart => exact ⟨0, Nat.zero_le _, rfl, FillM.start hown, hT⟩
  case round =>
    clear hown hT
    obtain ⟨k, hk, rfl, hown, hT⟩ := hrel
    by_cases hlt : k < n
    · have hk0 : (0 : Int) ≤ (k : Int) := by omega
      have hk1 : (k : Int) < (n : Int) := by omega
      have hlen : ((List.range n).map fun _ => false).length = n := by simp
      go_wp2_with (at_make; refine make_bools _ rfl _ _ rfl n rfl rfl hn ?_; intro w2 how2 hg2; have hb2 := (Below.refl wr.heap.size wr).grown hg2 (Nat.le_refl _) (by simp); have hcell := (hown.next hb2).cell hlt; have hfz := (hown.next hb2).frozen)
      have how3 : w2.ownsRow wr.heap.size 4 1 (.slice (some ⟨wr.heap.size, 0, none⟩) n n) ((List.range n).map fun _ => false).length (((List.range n).map fun _ => false).map Value.bool) := by
        rw [hlen]
        have e : ((List.range n).map fun _ => false).map Value.bool = List.replicate n (.bool false) := by rw [List.map_map]; exact List.map_const'.trans (by rw [List.length_range])
        rw [e]
        exact how2
      have hst := FillM.set_ (by decide) hown hb2 hlt (tab_get hlt) how3 hT.size
      go_roundw
      case rel => exact ⟨k + 1, by omega, by go_num, hst, (below_next hT hb2 rfl).setCell (Nat.le_refl _) _⟩
      case measure => simp [intOf]; omega
    · have hd := hown.done (tab_len _ _) hk hlt
      go_wp2
      go_ret
      exact ⟨_, rfl, hd, hT⟩
/-! ## Posets by value -/
theorem Chg.set {lo hi : Nat} (w : World) {p : Addr} (u : Value) (h1 : lo ≤ p.block) (h2 : p.block < hi) : Chg lo hi w (w.setCell p u) := by
  have hb := (Below.refl lo w).setCell h1 u
  exact ⟨hb.os, hb.tape, hb.output, hb.size, fun b _ hh => Below.heap_setCell w p u b (by omega)⟩
theorem Below.two {B : Nat} {a w : World} (h : Below B a w) {p : Addr} (u : Value) (hp : B ≤ p.block) {q : Addr} (u' : Value) (hq : B ≤ q.block) : Below B a ((w.setCell p u).setCell q u') := (h.setCell hp u).setCell hq u'
end Go.Proofs.YtkmgbdljiajlaaaGreatDoor
namespace Go.Proofs.YtkmgbdljiajlaaaGreatDoor
open Go.RowKit

end Go.Proofs.YtkmgbdljiajlaaaGreatDoor
namespace Go.Proofs.YtkmgbdljiajlaaaGreatDoor
open Go.RowKit

/-- What stands below x, of 0, .. q - 1. -/
def rowTo (F : Nat → Nat → Bool) (x q : Nat) : List Int := ((List.range q).filter fun y => F y x).map fun (y : Nat) => (y : Int)
theorem rowTo_len (F : Nat → Nat → Bool) (x q : Nat) : (rowTo F x q).length ≤ q := by
  unfold rowTo
  rw [List.length_map]
  have := List.length_filter_le (fun y => F y x) (List.range q)
  rwa [List.length_range] at this
theorem rowTo_mem {F : Nat → Nat → Bool} {x q : Nat} {v : Int} : v ∈ rowTo F x q ↔ ∃ y : Nat, y < q ∧ F y x = true ∧ v = y := by
  unfold rowTo
  simp only [List.mem_map, List.mem_filter, List.mem_range]
  constructor
  · rintro ⟨y, ⟨h1, h2⟩, h3⟩
    exact ⟨y, h1, h2, h3.symm⟩
  · rintro ⟨y, h1, h2, h3⟩
    exact ⟨y, ⟨h1, h2⟩, h3.symm⟩
theorem own_far {w : World} {base : Nat} {e : TypeId} {size : Nat} {v : Value} {n : Nat} {xs : List Value} (h : w.ownsRow base e size v n xs) {g : Nat} {t : TypeId} {cs : Array Value} (hB : Blk w g t cs) (hne : e ≠ t) : v.ownBlock ≠ some g := by
  rcases h.2 with ⟨rfl, _⟩ | ⟨g1, cap, cur, rfl, _, hh, _⟩
  · simp [Value.ownBlock]
  · intro hc
    simp only [Value.ownBlock, Option.some.injEq] at hc
    subst hc
    rw [hB] at hh
    injection hh with hh
    injection hh with _ ht
    exact hne ht.symm
theorem OwM.far {α : Type} {eo ei : TypeId} {f : α → Value} {lo : Nat} {w : World} {v : Value} {n : Nat} {xss : List (List α)} (h : OwM eo ei f lo w v n xss) {g : Nat} {t : TypeId} {cs : Array Value} (hB : Blk w g t cs) (h1 : eo ≠ t) (h2 : ei ≠ t) (k : Nat) (u : Value) : OwM eo ei f lo (w.setCell ⟨g, k, none⟩ u) v n xss := by
  obtain ⟨vs, ho, hl, hr, hd⟩ := h
  exact ⟨vs, own_set ho (own_far ho hB h1) u, hl, fun j y ys hy hx => own_set (hr j y ys hy hx) (own_far (hr j y ys hy hx) hB h2) u, hd⟩
theorem stab_RVB : Stab (RV RB) := stab_RV stab_RB

end Go.Proofs.YtkmgbdljiajlaaaGreatDoor
namespace Go.Proofs.YtkmgbdljiajlaaaGreatDoor

noncomputable def tt (p : Prop) : Bool := @decide p (Classical.propDecidable p)
theorem tt_true {p : Prop} (h : p) : true = tt p := by unfold tt; simp [h]
theorem tt_false {p : Prop} (h : ¬ p) : false = tt p := by unfold tt; simp [h]
theorem tt_iff {p : Prop} : tt p = true ↔ p := by unfold tt; simp
theorem tt_congr {p q : Prop} (h : p ↔ q) : tt p = tt q := by unfold tt; simp [h]
end Go.Proofs.YtkmgbdljiajlaaaGreatDoor
namespace Go.Proofs.YtkmgbdljiajlaaaGreatDoor
open Go.RowKit

def TrP (F : Nat → Nat → Bool) (x y z : Nat) : Prop := ¬ (F x y = true ∧ F y z = true ∧ F x z = false)
def AnP (n : Nat) (F : Nat → Nat → Bool) (x y : Nat) : Prop := ¬ (x ≠ y ∧ F x y = true ∧ F y x = true) ∧ ∀ z < n, TrP F x y z
def OrP (n : Nat) (F : Nat → Nat → Bool) (x : Nat) : Prop := F x x = true ∧ ∀ y < n, AnP n F x y
def OrdP (n : Nat) (F : Nat → Nat → Bool) : Prop := ∀ x < n, OrP n F x

theorem RdL.rowT {w : World} {b o n : Nat} {F : Nat → Nat → Bool} (h : RdL (RV RB) w (some ⟨b, o, none⟩) n (tab n F)) {i : Nat} (hi : i < n) :
    ∃ r p d, w.cell? ⟨b, o + i, none⟩ = some (.slice (some ⟨r, p, none⟩) n d) ∧ ∀ k, k < n → w.cell? ⟨r, p + k, none⟩ = some (.bool (F i k)) := by
  obtain ⟨v, row, hc, ⟨B, m, d, rfl, hr⟩, -, hx⟩ := h.at' hi
  rw [tab_get hi] at hx
  injection hx with hx
  subst hx
  have hm : m = n := by have := hr.len; simpa using this.symm
  subst hm
  obtain ⟨r, p, -, -, rfl, -⟩ := hr.at hi
  refine ⟨r, p, d, hc, fun k hk => ?_⟩
  obtain ⟨v, x, hc', hv, -, hx'⟩ := hr.at' hk
  rw [row_get hk] at hx'
  injection hx' with hx'
  subst hx'
  rw [hv] at hc'
  exact hc'
theorem RdL.addr {α : Type} {R : World → Value → α → Prop} {w : World} {A : Option Addr} {n : Nat} {xs : List α} (h : RdL R w A n xs) {k : Nat} (hk : k < n) : ∃ b o, A = some ⟨b, o, none⟩ := by
  obtain ⟨b, o, -, -, e, -⟩ := h.at hk
  exact ⟨b, o, e⟩

set_option maxHeartbeats 1000000 in
theorem isOrder_any (A : Option Addr) (n c : Nat) (F : Nat → Nat → Bool) (w : World) (h : RdL (RV RB) w A n (tab n F)) :
    Calls Tryz.prog 58 #[.slice A n c] w fun e w' => e = .returned (.bool (tt (OrdP n F))) ∧ w = w' := by
  have hle := h.le
  go_enter Tryz.func58, Tryz.ntmps58
  go_wp2
  go_loop [8] (fun i => ∃ k : Nat, k ≤ n ∧ i = .int .i64 k ∧ ∀ x < k, OrP n F x) (fun i => n - (intOf i).toNat)
  case atStart => exact ⟨0, Nat.zero_le _, rfl, fun x hx => absurd hx (by omega)⟩
  case round =>
    obtain ⟨k, hk, rfl, H⟩ := hrel
    have HH := Lib.hid H
    clear H
    by_cases hlt : k < n
    · obtain ⟨b, o, rfl⟩ := h.addr hlt
      obtain ⟨r, p, d, hc1, hall⟩ := h.rowT hlt
      have HA := Lib.hid hall
      have hc2 := hall k hlt
      clear hall
      have hk0 : (0 : Int) ≤ (k : Int) := by omega
      have hk1 : (k : Int) < (n : Int) := by omega
      rcases hkk : F k k with _ | _
      · rw [hkk] at hc2
        have HK := Lib.hid hkk
        clear hkk
        go_wp2
        go_ret
        exact ⟨ret_bool (tt_false fun hh => by have := (hh k hlt).1; rw [HK.out] at this; exact absurd this (by decide)), rfl⟩
      · rw [hkk] at hc2
        have HK := Lib.hid hkk
        clear hkk
        go_wp2
        clear hc2
        go_loop [21] (fun i => ∃ q : Nat, q ≤ n ∧ i = .int .i64 q ∧ ∀ y < q, AnP n F k y) (fun i => n - (intOf i).toNat)
        case atStart => exact ⟨0, Nat.zero_le _, rfl, fun x hx => absurd hx (by omega)⟩
        case round =>
          obtain ⟨q, hq, rfl, H2⟩ := hrel
          have HH2 := Lib.hid H2
          clear H2
          by_cases hltq : q < n
          · obtain ⟨r2, p2, d2, hc3, hall2⟩ := h.rowT hltq
            have HA2 := Lib.hid hall2
            have hq0 : (0 : Int) ≤ (q : Int) := by omega
            have hq1 : (q : Int) < (n : Int) := by omega
            clear hall2
            have hkq := HA.out q hltq
            have hqk := HA2.out k hlt
            by_cases hbad : k ≠ q ∧ F k q = true ∧ F q k = true
            · rw [hbad.2.1] at hkq
              rw [hbad.2.2] at hqk
              have hne : ((k : Int) != (q : Int)) = true := by rw [bne_iff_ne]; have := hbad.1; omega
              have HB := Lib.hid hbad
              clear hbad
              go_wp2
              go_ret
              exact ⟨ret_bool (tt_false fun hh => ((hh k hlt).2 q hltq).1 HB.out), rfl⟩
            · have HB := Lib.hid hbad
              have hloop : ∀ z, z < n → w.cell? ⟨r2, p2 + z, none⟩ = some (.bool (F q z)) := HA2.out
              have HL := Lib.hid hloop
              clear hloop
              rcases hF1 : F k q with _ | _
              all_goals
                rcases hF2 : F q k with _ | _
              all_goals
                rw [hF1] at hkq
                rw [hF2] at hqk
                have HF1 := Lib.hid hF1
                have HF2 := Lib.hid hF2
                rcases hkqe : ((k : Int) != (q : Int)) with _ | _
                all_goals first
                  | (exfalso; exact HB.out ⟨by rw [bne_iff_ne] at hkqe; omega, HF1.out, HF2.out⟩)
                  | skip
              all_goals
                clear hF1 hF2
                go_wp2
                go_loop [47] (fun i => ∃ z : Nat, z ≤ n ∧ i = .int .i64 z ∧ ∀ y < z, TrP F k q y) (fun i => n - (intOf i).toNat)
                case atStart => exact ⟨0, Nat.zero_le _, rfl, fun x hx => absurd hx (by omega)⟩
                case round =>
                  obtain ⟨z, hz, rfl, H3⟩ := hrel
                  have HH3 := Lib.hid H3
                  clear H3
                  by_cases hltz : z < n
                  · have hqz := HA2.out z hltz
                    have hkz := HA.out z hltz
                    have hz0 : (0 : Int) ≤ (z : Int) := by omega
                    have hz1 : (z : Int) < (n : Int) := by omega
                    rcases hG1 : F q z with _ | _
                    all_goals
                      rcases hG2 : F k z with _ | _
                    all_goals
                      rw [hG1] at hqz
                      rw [hG2] at hkz
                      have HG1 := Lib.hid hG1
                      have HG2 := Lib.hid hG2
                      clear hG1 hG2
                      go_wp2
                      first
                        | (go_round
                           case rel => exact ⟨z + 1, by omega, by go_num, fun y hy => by
                             rcases Nat.lt_or_ge y z with h1 | h1
                             · exact HH3.out y h1
                             · have : y = z := by omega
                               subst this
                               unfold TrP
                               rw [HF1.out, HG1.out, HG2.out]
                               decide⟩
                           case measure => simp [intOf]; omega)
                        | (go_ret
                           exact ⟨ret_bool (tt_false fun hh => ((hh k hlt).2 q hltq).2 z hltz ⟨HF1.out, HG1.out, HG2.out⟩), rfl⟩)
                  · have HE := Lib.hid (show ∀ y < n, TrP F k q y from fun y hy => HH3.out y (by omega))
                    go_wp2
                    go_round
                    case rel => exact ⟨q + 1, by omega, by go_num, fun y hy => by
                      rcases Nat.lt_or_ge y q with h1 | h1
                      · exact HH2.out y h1
                      · have : y = q := by omega
                        subst this
                        exact ⟨HB.out, HE.out⟩⟩
                    case measure => simp [intOf]; omega
          · have HE := Lib.hid (show ∀ y < n, AnP n F k y from fun y hy => HH2.out y (by omega))
            go_wp2
            go_round
            case rel => exact ⟨k + 1, by omega, by go_num, fun y hy => by
              rcases Nat.lt_or_ge y k with h1 | h1
              · exact HH.out y h1
              · have : y = k := by omega
                subst this
                exact ⟨HK.out, HE.out⟩⟩
            case measure => simp [intOf]; omega
    · have HE := Lib.hid (show OrdP n F from fun x hx => HH.out x (by omega))
      go_wp2
      go_ret
      exact ⟨ret_bool (tt_true HE.out), rfl⟩
end Go.Proofs.YtkmgbdljiajlaaaGreatDoor
namespace Go.Proofs.YtkmgbdljiajlaaaGreatDoor
open Go.RowKit

def rowOf (xss : List (List Int)) (x : Nat) : List Int := xss.getD x []
theorem rowOf_get {xss : List (List Int)} {x : Nat} {s : List Int} (h : xss[x]? = some s) : rowOf xss x = s := by simp [rowOf, List.getD_eq_getElem?_getD, h]
/-- y is at most x: it stands in x's list. -/
def leF (xss : List (List Int)) : Nat → Nat → Bool := fun y x => hasI y (rowOf xss x)
def RowP (xss : List (List Int)) (x : Nat) : Prop := risesL (rowOf xss x) = true ∧ allIn 0 ((xss.length : Int) - 1) (rowOf xss x) = true
def GoodP (xss : List (List Int)) : Prop := xss.length ≤ 10 ∧ (∀ x < xss.length, RowP xss x) ∧ OrdP xss.length (leF xss)
/-- The relation as far as it is laid: the first k lists, and j of the next one. -/
def Lto (xss : List (List Int)) (k j : Nat) : Nat → Nat → Bool := fun y x => (decide (x < k) && leF xss y x) || (decide (x = k) && hasI y ((rowOf xss k).take j))
theorem Lto_zero {n : Nat} (xss : List (List Int)) : tab n (Lto xss 0 0) = tab n (fun _ _ => false) := by
  refine tab_ext fun y _ x _ => ?_
  unfold Lto
  simp [hasI]
theorem hasI_snoc {x y : Int} : ∀ {l : List Int}, hasI x (l ++ [y]) = (hasI x l || x == y) := by
  intro l
  rw [Bool.eq_iff_iff]
  simp [hasI_iff]
theorem Lto_step {n : Nat} (xss : List (List Int)) {k j v : Nat} (hj : (rowOf xss k)[j]? = some (v : Int)) : tab n (upd (Lto xss k j) v k true) = tab n (Lto xss k (j + 1)) := by
  refine tab_ext fun y _ x _ => ?_
  unfold upd Lto
  have e : (rowOf xss k).take (j + 1) = (rowOf xss k).take j ++ [(v : Int)] := by rw [List.take_add_one, hj]; rfl
  rw [e, hasI_snoc]
  by_cases hx : x = k
  · subst hx
    by_cases hy : y = v
    · subst hy
      simp
    · have : ((y : Int) == (v : Int)) = false := by rw [beq_eq_false_iff_ne]; omega
      simp [hy, this]
  · simp [hx]
theorem Lto_next {n : Nat} (xss : List (List Int)) {k j : Nat} (hj : (rowOf xss k).length ≤ j) : tab n (Lto xss k j) = tab n (Lto xss (k + 1) 0) := by
  refine tab_ext fun y _ x _ => ?_
  unfold Lto leF
  rw [List.take_of_length_le hj]
  by_cases hx : x = k
  · subst hx
    simp
  · by_cases h1 : x < k
    · simp [h1, hx, show x < k + 1 by omega, hasI]
    · simp [h1, hx, show ¬ x < k + 1 by omega, hasI]
theorem Lto_all {n : Nat} (xss : List (List Int)) : tab n (Lto xss n 0) = tab n (leF xss) := by
  refine tab_ext fun y _ x hx => ?_
  unfold Lto
  simp [hx, hasI]

/-- The call hands back an order (of its own, where it is one) and whether it is one. -/
def OrdR (w : World) (n : Nat) (xss : List (List Int)) (e : Ending) (w' : World) : Prop :=
  ∃ A m c, e = .returned (.tuple #[.slice A m c, .bool (tt (GoodP xss))]) ∧ (GoodP xss → m = n ∧ RdL (RV RB) w' A n (tab n (leF xss))) ∧ Below w.heap.size w w'

set_option maxRecDepth 20000 in
set_option maxHeartbeats 1000000 in
theorem orderOf_any (A : Option Addr) (n c : Nat) (xss : List (List Int)) (w : World) (h : RdL (RV RI) w A n xss) :
    Calls Tryz.prog 25 #[.agg #[.slice A n c]] w (OrdR w n xss) := by
  have hle := h.le
  have hlen := Lib.hid h.len
  have hb0 := below_box w (.cells #[.slice A n c] 26)
  have BX := Blk.new w 26 #[.slice A n c]
  have c0 := BX.cell 0
  simp at c0
  by_cases hn : n ≤ 10
  rotate_left
  · have HG : Hid (¬ GoodP xss) := fun hg => hn (by rw [← hlen.out]; exact hg.1)
    go_enter Tryz.func25, Tryz.ntmps25
    go_wp2
    go_ret2
    exact ⟨none, 0, 0, by rw [← tt_false HG.out]; rfl, fun hg => absurd hg HG.out, hb0⟩
  · go_enter Tryz.func25, Tryz.ntmps25
    go_wp2_with fail
    refine (newOrder_any n _ (by omega)).mono ?_
    rintro e w2 ⟨g, rfl, ho2, hb2⟩
    have hlt0 := BX.lt
    replace BX := BX.next hb2
    have hT2 := below_next hb0 hb2 rfl
    have ho : OwT (w.heap.size + 1) w2 g n (Lto xss 0 0) := by
      show OwM _ _ _ _ _ _ _ (tab n (Lto xss 0 0))
      rw [Lto_zero]
      exact ho2.mono hlt0
    have c1 := BX.cell 0
    simp at c1
    clear ho2 hb2 hb0 c0 hlt0
    go_wp2_with fail
    clear c1
    go_loopw [20] (fun i wr => ∃ k : Nat, k ≤ n ∧ i = .int .i64 k ∧ Hid (∀ x < k, RowP xss x) ∧ OwT (w.heap.size + 1) wr g n (Lto xss k 0) ∧ Below w.heap.size w wr) (fun i _ => n - (intOf i).toNat)
    case atStart => exact ⟨0, Nat.zero_le _, rfl, fun x hx => absurd hx (by omega), ho, hT2⟩
    case round =>
      clear ho hT2 BX
      obtain ⟨k, hk, rfl, HH, ho, hT⟩ := hrel
      by_cases hlt : k < n
      · obtain ⟨b, o, v, s, rfl, hc0, ⟨B, j, d, rfl, hs⟩, -, hx⟩ := h.at hlt
        have HX := Lib.hid (rowOf_get hx)
        have HLS := Lib.hid hs.len
        have hc : wr.cell? ⟨b, o + k, none⟩ = some (.slice B j d) := (hT.cell (p := ⟨b, o + k, none⟩) (cell_lt hc0)).trans hc0
        have hs' := hs.next stab_RI hT
        have hk0 : (0 : Int) ≤ (k : Int) := by omega
        have hk1 : (k : Int) < (n : Int) := by omega
        have hjle := hs.le
        clear hx hc0
        rcases hr : risesL s with _ | _
        · have HG : Hid (¬ GoodP xss) := fun hg => by
            have := (hg.2.1 k (by rw [hlen.out]; exact hlt)).1
            rw [HX.out, hr] at this
            exact absurd this (by decide)
          have HRR := Lib.hid hr
          clear hr
          go_wp2_with fail
          refine (rises_any _ _ _ _ _ hs').mono ?_
          rintro e w' ⟨rfl, z, rfl⟩
          rw [HRR.out]
          go_wp2_with fail
          go_ret2
          exact ⟨none, 0, 0, by rw [← tt_false HG.out]; rfl, fun hg => absurd hg HG.out, below_drewN hT _⟩
        · have HRR := Lib.hid hr
          clear hr
          rcases hi : allIn 0 ((n : Int) - 1) s with _ | _
          · have HG : Hid (¬ GoodP xss) := fun hg => by
              have := (hg.2.1 k (by rw [hlen.out]; exact hlt)).2
              rw [HX.out, hlen.out, hi] at this
              exact absurd this (by decide)
            have HI := Lib.hid hi
            clear hi
            go_wp2_with fail
            refine (rises_any _ _ _ _ _ hs').mono ?_
            rintro e w' ⟨rfl, z, rfl⟩
            rw [HRR.out]
            go_wp2_with fail
            refine (inSize_any _ _ _ _ _ _ (hs'.drewN stab_RI _)).mono ?_
            rintro e w' ⟨rfl, rfl⟩
            rw [HI.out]
            go_wp2_with fail
            go_ret2
            exact ⟨none, 0, 0, by rw [← tt_false HG.out]; rfl, fun hg => absurd hg HG.out, below_drewN hT _⟩
          · have HI := Lib.hid hi
            have HRow : Hid (RowP xss k) := ⟨by rw [HX.out]; exact HRR.out, by rw [HX.out, hlen.out]; exact hi⟩
            have HIN := Lib.hid (allIn_iff.1 hi)
            clear hi
            go_wp2_with fail
            refine (rises_any _ _ _ _ _ hs').mono ?_
            rintro e w' ⟨rfl, z, rfl⟩
            rw [HRR.out]
            go_wp2_with fail
            refine (inSize_any _ _ _ _ _ _ (hs'.drewN stab_RI _)).mono ?_
            rintro e w' ⟨rfl, rfl⟩
            rw [HI.out]
            go_wp2_with fail
            go_loopw [36] (fun i wi => ∃ q : Nat, q ≤ j ∧ i = .int .i64 q ∧ OwT (w.heap.size + 1) wi g n (Lto xss k q) ∧ Below w.heap.size w wi) (fun i _ => j - (intOf i).toNat)
            case atStart => exact ⟨0, Nat.zero_le _, rfl, ho, below_drewN hT _⟩
            case round =>
              clear ho hT hs' hc
              obtain ⟨q, hq, rfl, ho, hT⟩ := hrel
              by_cases hltq : q < j
              · have hs' := hs.next stab_RI hT
                obtain ⟨B1, B2, v, y, rfl, hcy, ⟨rfl, -⟩, -, hxy⟩ := hs'.at hltq
                have hy := HIN.out y (List.mem_of_getElem? hxy)
                obtain ⟨y, rfl⟩ := Int.eq_ofNat_of_zero_le hy.1
                have hyn : y < n := by omega
                obtain ⟨r, dr, hgr, hcell, hlo, hrl, hcs, hset⟩ := ho.get hyn
                obtain ⟨hcq, hfq⟩ := hcs k hlt
                have hst := hset k true hlt
                have hLS := Lib.hid (Lto_step (n := n) xss (k := k) (j := q) (v := y) (by rw [HX.out]; exact hxy))
                have hy0 : (0 : Int) ≤ (y : Int) := by omega
                have hy1 : (y : Int) < (n : Int) := by omega
                clear hxy hcs hset hy
                go_wp2
                go_roundw
                case rel => exact ⟨q + 1, by omega, by go_num, by
                  show OwM _ _ _ _ _ _ _ (tab n (Lto xss k (q + 1)))
                  rw [← hLS.out]
                  exact hst, hT.setCell (p := ⟨r, k, none⟩) (by show w.heap.size ≤ r; omega) _⟩
                case measure => simp [intOf]; omega
              · go_wp2
                go_roundw
                case rel => exact ⟨k + 1, by omega, by go_num, fun x hx => by
                  rcases Nat.lt_or_ge x k with h1 | h1
                  · exact HH.out x h1
                  · have : x = k := by omega
                    subst this
                    exact HRow.out, by
                  show OwM _ _ _ _ _ _ _ (tab n (Lto xss (k + 1) 0))
                  rw [← Lto_next xss (k := k) (j := q) (by rw [HX.out, HLS.out]; omega)]
                  exact ho, hT⟩
                case measure => simp [intOf]; omega
      · obtain rfl : k = n := by omega
        have ho' : OwM 58 4 Value.bool (w.heap.size + 1) wr (.slice (some ⟨g, 0, none⟩) k k) k (tab k (leF xss)) := by
          rw [← Lto_all xss]
          exact ho
        have hrd := ho'.rd (R := RB) (fun xs _ x _ => rfl)
        have HE : Hid (tt (OrdP k (leF xss)) = tt (GoodP xss)) := by
          refine tt_congr ⟨fun h1 => ⟨by rw [hlen.out]; exact hn, by rw [hlen.out]; exact HH.out, by rw [hlen.out]; exact h1⟩, fun h1 => ?_⟩
          have := h1.2.2
          rwa [hlen.out] at this
        go_wp2_with fail
        refine (isOrder_any _ _ _ _ _ hrd).mono ?_
        rintro e w' ⟨rfl, rfl⟩
        go_wp2_with fail
        go_ret2
        exact ⟨_, k, k, by rw [← HE.out]; rfl, fun _ => ⟨rfl, hrd⟩, hT⟩
end Go.Proofs.YtkmgbdljiajlaaaGreatDoor
namespace Go.Proofs.YtkmgbdljiajlaaaGreatDoor
open Go.RowKit

/-- The marked numbers in ascending order. -/
def markL (n : Nat) (M : Nat → Bool) : List Int := ((List.range n).filter M).map fun (y : Nat) => (y : Int)
theorem markL_congr {n : Nat} {M H : Nat → Bool} (h : ∀ y, y < n → M y = H y) : markL n M = markL n H := by
  unfold markL
  congr 1
  exact List.filter_congr fun y hy => h y (List.mem_range.1 hy)
theorem markL_succ (n : Nat) (M : Nat → Bool) : markL (n + 1) M = markL n M ++ if M n then [(n : Int)] else [] := by
  unfold markL
  rw [List.range_succ, List.filter_append, List.map_append]
  congr 1
  rcases e : M n with _ | _ <;> simp [e]
theorem markL_mem {n : Nat} {M : Nat → Bool} {v : Int} : v ∈ markL n M ↔ ∃ y : Nat, y < n ∧ M y = true ∧ v = (y : Int) := by
  unfold markL
  rw [List.mem_map]
  constructor
  · rintro ⟨y, hy, rfl⟩
    rw [List.mem_filter, List.mem_range] at hy
    exact ⟨y, hy.1, hy.2, rfl⟩
  · rintro ⟨y, h1, h2, rfl⟩
    exact ⟨y, List.mem_filter.2 ⟨List.mem_range.2 h1, h2⟩, rfl⟩
theorem markL_le (n : Nat) (M : Nat → Bool) : (markL n M).length ≤ n := by
  unfold markL
  rw [List.length_map]
  exact Nat.le_trans (List.length_filter_le _ _) (by simp)
theorem markL_in {n : Nat} {M : Nat → Bool} : ∀ v ∈ markL n M, 0 ≤ v ∧ v ≤ (n : Int) - 1 := fun v hv => by
  obtain ⟨y, hy, -, rfl⟩ := markL_mem.1 hv
  omega
/-! ## Marks as a list of truth values -/
def gB (L : List Bool) (y : Nat) : Bool := L.getD y false
theorem gB_get {L : List Bool} {y : Nat} {b : Bool} (h : L[y]? = some b) : gB L y = b := by unfold gB; rw [List.getD_eq_getElem?_getD, h]; rfl
theorem gB_at {L : List Bool} {y : Nat} (h : y < L.length) : L[y]? = some (gB L y) := by unfold gB; rw [List.getD_eq_getElem?_getD, List.getElem?_eq_getElem h]; rfl
theorem gB_set {L : List Bool} {x y : Nat} (hx : x < L.length) (b : Bool) : gB (L.set x b) y = if y = x then b else gB L y := by
  unfold gB
  rw [List.getD_eq_getElem?_getD, List.getElem?_set]
  by_cases h : x = y
  · subst h
    rw [if_pos rfl, if_pos hx, if_pos rfl]
    rfl
  · rw [if_neg h, if_neg (fun e => h e.symm), List.getD_eq_getElem?_getD]
theorem markL_asc (n : Nat) (M : Nat → Bool) : (markL n M).Pairwise (· < ·) := by
  unfold markL
  rw [List.pairwise_map]
  exact ((List.pairwise_lt_range (n := n)).filter _).imp fun h => by omega
theorem gB_ext {L M : List Bool} {n : Nat} (hl : L.length = n) (hm : M.length = n) (h : ∀ y, y < n → gB L y = gB M y) : L = M := by
  apply List.ext_getElem?
  intro y
  by_cases hy : y < n
  · rw [gB_at (by omega), gB_at (by omega), h y hy]
  · rw [List.getElem?_eq_none (by omega), List.getElem?_eq_none (by omega)]
def inL (n : Nat) (S : List Int) : List Bool := (List.range n).map fun (y : Nat) => hasI (y : Int) S
theorem inL_len (n : Nat) (S : List Int) : (inL n S).length = n := by simp [inL]
theorem hasI_m {x : Int} : ∀ {l : List Int}, hasI x l = true ↔ x ∈ l
  | [] => by simp [hasI]
  | y :: l => by
    rw [hasI, Bool.or_eq_true, hasI_m, beq_iff_eq, List.mem_cons]
    exact ⟨fun h => h.imp Eq.symm id, fun h => h.imp Eq.symm id⟩
end Go.Proofs.YtkmgbdljiajlaaaGreatDoor
namespace Go.Proofs.YtkmgbdljiajlaaaGreatDoor
open Go.RowKit
set_option linter.unusedVariables false
set_option linter.unusedSimpArgs false

/-- What is at most an element of a list. -/
def dwB (F : Nat → Nat → Bool) (L : List Int) (y : Nat) : Bool := L.any fun x => F y x.toNat
def dwnL (n : Nat) (F : Nat → Nat → Bool) (L : List Int) : List Int := markL n (dwB F L)
/-- A set that has with each element all that are at most it. -/
def DownP (n : Nat) (F : Nat → Nat → Bool) (S : List Int) : Prop := ∀ x ∈ S, ∀ y : Nat, y < n → F y x.toNat = true → (y : Int) ∈ S
noncomputable def downB (n : Nat) (F : Nat → Nat → Bool) (S : List Int) : Bool := setB n S && tt (DownP n F S)
section
variable {n : Nat} {F : Nat → Nat → Bool}
theorem dwB_iff {L : List Int} {y : Nat} : dwB F L y = true ↔ ∃ x ∈ L, F y x.toNat = true := by unfold dwB; rw [List.any_eq_true]
theorem dwn_mem {L : List Int} {v : Int} : v ∈ dwnL n F L ↔ ∃ y : Nat, y < n ∧ (∃ x ∈ L, F y x.toNat = true) ∧ v = (y : Int) := by
  unfold dwnL
  rw [markL_mem]
  simp only [dwB_iff]
theorem dwn_op (hF : OrdP n F) : CloOp n (fun L => dwnL n F (L.filter fun x => decide (0 ≤ x) && decide (x < (n : Int)))) := by
  have mem : ∀ {L : List Int} {v : Int}, v ∈ dwnL n F (L.filter fun x => decide (0 ≤ x) && decide (x < (n : Int))) ↔ ∃ y : Nat, y < n ∧ (∃ x : Nat, (x : Int) ∈ L ∧ x < n ∧ F y x = true) ∧ v = (y : Int) := by
    intro L v
    rw [dwn_mem]
    constructor
    · rintro ⟨y, hy, ⟨x, hx, hf⟩, rfl⟩
      rw [List.mem_filter] at hx
      obtain ⟨h1, h2⟩ := hx
      simp at h2
      obtain ⟨x, rfl⟩ := Int.eq_ofNat_of_zero_le h2.1
      exact ⟨y, hy, ⟨x, h1, by omega, by simpa using hf⟩, rfl⟩
    · rintro ⟨y, hy, ⟨x, hx, hxn, hf⟩, rfl⟩
      exact ⟨y, hy, ⟨x, List.mem_filter.2 ⟨hx, by simp; omega⟩, by simpa using hf⟩, rfl⟩
  refine ⟨fun S => ⟨markL_asc _ _, fun x hx => by have := markL_in x hx; omega⟩, fun {S x} hx h0 h1 => ?_, fun {S T} h x hx => ?_⟩
  · obtain ⟨y, rfl⟩ := Int.eq_ofNat_of_zero_le h0
    exact mem.2 ⟨y, by omega, ⟨y, hx, by omega, (hF y (by omega)).1⟩, rfl⟩
  · obtain ⟨y, hy, ⟨z, hz, hzn, hf⟩, rfl⟩ := mem.1 hx
    obtain ⟨z', h1, ⟨t, ht, htn, hf2⟩, e⟩ := mem.1 (h _ hz (by omega) (by omega))
    have : z = z' := by omega
    subst this
    refine mem.2 ⟨y, hy, ⟨t, ht, htn, ?_⟩, rfl⟩
    have h3 := ((hF y hy).2 z hzn).2 t htn
    unfold TrP at h3
    cases h4 : F y t with
    | true => rfl
    | false => exact absurd ⟨hf, hf2, h4⟩ h3
theorem filt_self {L : List Int} (h : ∀ v ∈ L, 0 ≤ v ∧ v < (n : Int)) : (L.filter fun x => decide (0 ≤ x) && decide (x < (n : Int))) = L := List.filter_eq_self.2 fun x hx => by have := h x hx; simp; omega
theorem down_iff (hF : OrdP n F) (S : List Int) : downB n F S = true ↔ IsSet n S ∧ dwnL n F (S.filter fun x => decide (0 ≤ x) && decide (x < (n : Int))) = S := by
  unfold downB
  rw [Bool.and_eq_true, setB_iff, tt_iff]
  constructor
  · rintro ⟨h1, h2⟩
    refine ⟨h1, ?_⟩
    rw [filt_self h1.2]
    refine set_ext (n := n) (m := n) ⟨markL_asc _ _, fun x hx => by have := markL_in x hx; omega⟩ h1 fun v => ?_
    rw [dwn_mem]
    constructor
    · rintro ⟨y, hy, ⟨x, hx, hf⟩, rfl⟩
      exact h2 x hx y hy hf
    · intro hv
      have := h1.2 v hv
      obtain ⟨y, rfl⟩ := Int.eq_ofNat_of_zero_le this.1
      exact ⟨y, by omega, ⟨_, hv, by simpa using (hF y (by omega)).1⟩, rfl⟩
  · rintro ⟨h1, h2⟩
    refine ⟨h1, fun x hx y hy hf => ?_⟩
    rw [filt_self h1.2] at h2
    rw [← h2]
    exact dwn_mem.2 ⟨y, hy, ⟨x, hx, hf⟩, rfl⟩
/-! ## The first linear extension -/
/-- All that are less stand in the list. -/
def minB (n : Nat) (F : Nat → Nat → Bool) (L : List Int) (x : Nat) : Bool := !(hasI (x : Int) L) && (List.range n).all fun y => !(decide (y ≠ x) && F y x) || hasI (y : Int) L
def nextX (n : Nat) (F : Nat → Nat → Bool) (L : List Int) : Nat := ((List.range n).find? (minB n F L)).getD n
def extL (n : Nat) (F : Nat → Nat → Bool) : Nat → List Int
  | 0 => []
  | k + 1 => extL n F k ++ [(nextX n F (extL n F k) : Int)]
theorem extL_len (n : Nat) (F : Nat → Nat → Bool) : ∀ k, (extL n F k).length = k
  | 0 => rfl
  | k + 1 => by rw [extL, List.length_append, extL_len n F k]; rfl
theorem minB_iff {L : List Int} {x : Nat} : minB n F L x = true ↔ (x : Int) ∉ L ∧ ∀ y, y < n → y ≠ x → F y x = true → (y : Int) ∈ L := by
  unfold minB
  rw [Bool.and_eq_true, Bool.not_eq_true', ← Bool.not_eq_true, hasI_iff, List.all_eq_true]
  refine and_congr Iff.rfl ⟨fun h y hy hne hf => ?_, fun h y hy => ?_⟩
  · have := h y (List.mem_range.2 hy)
    rw [Bool.or_eq_true, Bool.not_eq_true', hasI_iff] at this
    rcases this with h1 | h1
    · rw [hf, Bool.and_true, decide_eq_false_iff_not] at h1
      exact absurd hne h1
    · exact h1
  · rw [Bool.or_eq_true, Bool.not_eq_true', hasI_iff]
    by_cases h1 : y ≠ x ∧ F y x = true
    · exact .inr (h y (List.mem_range.1 hy) h1.1 h1.2)
    · left
      by_cases h2 : y ≠ x
      · have : F y x = false := by cases h3 : F y x with | false => rfl | true => exact absurd ⟨h2, h3⟩ h1
        rw [this, Bool.and_false]
      · rw [decide_eq_false h2, Bool.false_and]
/-- Elements outside a list of fewer than n have a least one among them. -/
theorem min_some (hF : OrdP n F) {L : List Int} : ∀ (m : Nat) (x : Nat), x < n → (x : Int) ∉ L → ((List.range n).filter fun y => F y x).length ≤ m → ∃ z, z < n ∧ minB n F L z = true
  | 0, x, hx, hm, hl => by
    have h1 : x ∈ (List.range n).filter fun y => F y x := List.mem_filter.2 ⟨List.mem_range.2 hx, (hF x hx).1⟩
    have := List.length_pos_of_mem h1
    omega
  | m + 1, x, hx, hm, hl => by
    by_cases hz : minB n F L x = true
    · exact ⟨x, hx, hz⟩
    · rw [minB_iff] at hz
      have : ∃ y, y < n ∧ y ≠ x ∧ F y x = true ∧ (y : Int) ∉ L := Classical.byContradiction fun hc => hz ⟨hm, fun y hy hne hf => Classical.byContradiction fun h => hc ⟨y, hy, hne, hf, h⟩⟩
      obtain ⟨y, hy, hne, hf, hyl⟩ := this
      refine min_some hF m y hy hyl ?_
      have hsub : ∀ z ∈ (List.range n).filter (fun z => F z y), z ∈ ((List.range n).filter fun z => F z x).filter fun z => decide (z ≠ x) := fun z hz => by
        obtain ⟨h1, h2⟩ := List.mem_filter.1 hz
        have hzn := List.mem_range.1 h1
        refine List.mem_filter.2 ⟨List.mem_filter.2 ⟨h1, ?_⟩, ?_⟩
        · have h3 := ((hF z hzn).2 y hy).2 x hx
          unfold TrP at h3
          cases h4 : F z x with
          | true => rfl
          | false => exact absurd ⟨h2, hf, h4⟩ h3
        · rw [decide_eq_true_eq]
          rintro rfl
          exact ((hF y hy).2 z hzn).1 ⟨hne, hf, h2⟩
      have hnd : ((List.range n).filter fun z => F z y).Nodup := List.nodup_range.filter _
      have h1 := nodup_len hnd hsub
      have h2 : (((List.range n).filter fun z => F z x).filter fun z => decide (z ≠ x)).length + 1 ≤ ((List.range n).filter fun z => F z x).length := by
        have hin : x ∈ (List.range n).filter fun z => F z x := List.mem_filter.2 ⟨List.mem_range.2 hx, (hF x hx).1⟩
        have h3 := nodup_len (l := x :: ((List.range n).filter fun z => F z x).filter fun z => decide (z ≠ x)) (m := (List.range n).filter fun z => F z x) (by
          rw [List.nodup_cons]
          exact ⟨fun h => by have := (List.mem_filter.1 h).2; simp at this, (List.nodup_range.filter _).filter _⟩) fun z hz => by
            rcases List.mem_cons.1 hz with rfl | hz
            · exact hin
            · exact (List.mem_filter.1 hz).1
        simpa using h3
      omega
theorem next_ok (hF : OrdP n F) {L : List Int} (hL : L.length < n) : nextX n F L < n ∧ minB n F L (nextX n F L) = true ∧ ∀ y, y < nextX n F L → minB n F L y = false := by
  have hx : ∃ x : Nat, x < n ∧ (x : Int) ∉ L := Classical.byContradiction fun hc => by
    have h1 := nodup_len (l := upTo n) (m := L) ((upTo_set n).1.imp fun hab => by omega) fun v hv => by
      obtain ⟨h1, h2⟩ := mem_upTo.1 hv
      obtain ⟨y, rfl⟩ := Int.eq_ofNat_of_zero_le h1
      exact Classical.byContradiction fun h => hc ⟨y, by omega, h⟩
    rw [upTo_len] at h1
    omega
  obtain ⟨x, hx, hm⟩ := hx
  obtain ⟨z, hz, hmz⟩ := min_some hF _ x hx hm (Nat.le_refl _)
  unfold nextX
  cases hf : (List.range n).find? (minB n F L) with
  | none => exact absurd hmz (by have := List.find?_eq_none.1 hf z (List.mem_range.2 hz); simpa using this)
  | some q =>
    have h1 := List.find?_some hf
    have h2 := List.mem_range.1 (List.mem_of_find?_eq_some hf)
    refine ⟨h2, h1, fun y hy => ?_⟩
    have hy : y < q := hy
    rw [List.find?_eq_some_iff_getElem] at hf
    obtain ⟨-, i, hi, e, hlt⟩ := hf
    simp at e
    subst e
    have := hlt y hy
    simpa using this
end
end Go.Proofs.YtkmgbdljiajlaaaGreatDoor
namespace Go.Proofs.YtkmgbdljiajlaaaGreatDoor
open Go.RowKit

theorem bitsT_done : ∀ m, m < 1024 → ∀ x, x ≤ 10 → m / 2 ^ x = 0 → bitsTo m x = bitsTo m 10 := by decide +kernel
theorem bitsT_len : ∀ m, m < 1024 → ∀ x, x ≤ 10 → (bitsTo m x).length ≤ 10 := by decide +kernel
theorem bitsT_more : ∀ m, m < 1024 → ∀ x, x ≤ 10 → ¬ m / 2 ^ x = 0 → x < 10 := by decide +kernel
theorem bitsT_one : ∀ q : Nat, q < 1024 → bits .and .i64 (q : Int) 1 = ((q % 2 : Nat) : Int) := by decide +kernel
set_option maxHeartbeats 2000000 in
theorem bitsOfT_any (m : Nat) (w : World) (hm : m < 1024) :
    Calls Tryz.prog 64 #[.int .i64 m] w fun e w' => ∃ A c, e = .returned (.slice A (bitsTo m 10).length c) ∧ w'.ownsRow w.heap.size 3 1 (.slice A (bitsTo m 10).length c) (bitsTo m 10).length (ints (bitsTo m 10)) ∧ Below w.heap.size w w' := by
  have hT0 := below_box w (.cells #[] 3)
  go_enter Tryz.func64, Tryz.ntmps64
  go_wp2_with fail
  go_loopw [3, 4] (fun v i wr => ∃ (x : Nat), x ≤ 10 ∧ i = .int .i64 x ∧ ∃ A c, v = .slice A (bitsTo m x).length c ∧ wr.ownsRow w.heap.size 3 1 v (bitsTo m x).length (ints (bitsTo m x)) ∧ Below w.heap.size w wr) (fun _ i _ => 11 - (intOf i).toNat)
  case atStart => exact ⟨0, by omega, rfl, _, 0, rfl, bits_lit w, hT0⟩
  case round =>
    clear hT0
    obtain ⟨x, hx, rfl, A, c, rfl, hown, hT⟩ := hrel
    obtain ⟨q, HQ⟩ : ∃ q, Hid (m / 2 ^ x = q) := ⟨_, rfl⟩
    have hq : (m : Int) / 2 ^ x = (q : Int) := by rw [← HQ.out]; push_cast; rfl
    have hq1024 : q < 1024 := by rw [← HQ.out]; exact Nat.lt_of_le_of_lt (Nat.div_le_self _ _) hm
    have HBS : Hid (bitsTo m (x + 1) = bitsTo m x ++ (if q % 2 = 1 then [(x : Int)] else [])) := by show _ = _; rw [bitsTo, HQ.out]
    have hlen := bitsT_len m hm x hx
    by_cases h0 : q = 0
    · have HD := Lib.hid (bitsT_done m hm x hx (by rw [HQ.out]; exact h0))
      subst h0
      have HO := Lib.hid hown
      clear hown
      go_wp2_with fail
      go_ret
      rw [HD.out] at HO ⊢
      exact ⟨_, _, rfl, HO.out, hT⟩
    · have hx8 := bitsT_more m hm x hx (by rw [HQ.out]; exact h0)
      have hqp : (0 : Int) < (q : Int) := by omega
      have hb1 := bitsT_one q hq1024
      by_cases h1 : q % 2 = 1
      · have HB2 : Hid (bitsTo m (x + 1) = bitsTo m x ++ [(x : Int)]) := by show _ = _; rw [HBS.out, if_pos h1]
        rw [h1] at hb1
        obtain ⟨l, HL⟩ : ∃ l, Hid (bitsTo m x = l) := ⟨_, rfl⟩
        rw [HL.out] at hown hlen HB2 ⊢
        have hbase := hT.size
        clear HBS
        go_wp2_with (at_builtin; refine app1 wr rfl _ _ 27 3 rfl (.int .i64 0) 8 Tryz.underlying27 info_int rfl (by decide) w.heap.size l.length c A (ints l) rfl hown (.int .i64 x) rfl rfl (by omega) hbase ?_; intro A2 c2 w2 hown2 hg2 hb2)
        go_roundw
        case rel =>
          refine ⟨x + 1, by omega, by go_num, A2, c2, ?_, ?_, hT.trans hb2⟩
          · rw [HB2.out, List.length_append]; rfl
          · rw [HB2.out, List.length_append]
            have e : ints l ++ [.int .i64 (x : Int)] = ints (l ++ [(x : Int)]) := by simp [ints]
            rw [e] at hown2
            exact hown2
        case measure => simp [intOf]; omega
      · have h2 : q % 2 = 0 := by omega
        have HB2 : Hid (bitsTo m (x + 1) = bitsTo m x) := by show _ = _; rw [HBS.out, if_neg h1, List.append_nil]
        rw [h2] at hb1
        have HO := Lib.hid hown
        clear hown HBS
        go_wp2_with fail
        go_roundw
        case rel => exact ⟨x + 1, by omega, by go_num, A, c, by rw [HB2.out], by rw [HB2.out]; exact HO.out, hT⟩
        case measure => simp [intOf]; omega
set_option maxHeartbeats 2000000 in
theorem l5BitsT_any (m : Nat) (w : World) (hm : m < 1024) :
    Calls Tryz.prog 68 #[.int .i64 m] w fun e w' => ∃ A c, e = .returned (.slice A (bitsTo m 10).length c) ∧ w'.ownsRow w.heap.size 3 1 (.slice A (bitsTo m 10).length c) (bitsTo m 10).length (ints (bitsTo m 10)) ∧ Below w.heap.size w w' := by
  have hT0 := below_box w (.cells #[] 3)
  go_enter Tryz.func68, Tryz.ntmps68
  go_wp2_with fail
  go_loopw [3, 4] (fun v i wr => ∃ (x : Nat), x ≤ 10 ∧ i = .int .i64 x ∧ ∃ A c, v = .slice A (bitsTo m x).length c ∧ wr.ownsRow w.heap.size 3 1 v (bitsTo m x).length (ints (bitsTo m x)) ∧ Below w.heap.size w wr) (fun _ i _ => 11 - (intOf i).toNat)
  case atStart => exact ⟨0, by omega, rfl, _, 0, rfl, bits_lit w, hT0⟩
  case round =>
    clear hT0
    obtain ⟨x, hx, rfl, A, c, rfl, hown, hT⟩ := hrel
    obtain ⟨q, HQ⟩ : ∃ q, Hid (m / 2 ^ x = q) := ⟨_, rfl⟩
    have hq : (m : Int) / 2 ^ x = (q : Int) := by rw [← HQ.out]; push_cast; rfl
    have hq1024 : q < 1024 := by rw [← HQ.out]; exact Nat.lt_of_le_of_lt (Nat.div_le_self _ _) hm
    have HBS : Hid (bitsTo m (x + 1) = bitsTo m x ++ (if q % 2 = 1 then [(x : Int)] else [])) := by show _ = _; rw [bitsTo, HQ.out]
    have hlen := bitsT_len m hm x hx
    by_cases h0 : q = 0
    · have HD := Lib.hid (bitsT_done m hm x hx (by rw [HQ.out]; exact h0))
      subst h0
      have HO := Lib.hid hown
      clear hown
      go_wp2_with fail
      go_ret
      rw [HD.out] at HO ⊢
      exact ⟨_, _, rfl, HO.out, hT⟩
    · have hx8 := bitsT_more m hm x hx (by rw [HQ.out]; exact h0)
      have hqp : (0 : Int) < (q : Int) := by omega
      have hb1 := bitsT_one q hq1024
      by_cases h1 : q % 2 = 1
      · have HB2 : Hid (bitsTo m (x + 1) = bitsTo m x ++ [(x : Int)]) := by show _ = _; rw [HBS.out, if_pos h1]
        rw [h1] at hb1
        obtain ⟨l, HL⟩ : ∃ l, Hid (bitsTo m x = l) := ⟨_, rfl⟩
        rw [HL.out] at hown hlen HB2 ⊢
        have hbase := hT.size
        clear HBS
        go_wp2_with (at_builtin; refine app1 wr rfl _ _ 27 3 rfl (.int .i64 0) 8 Tryz.underlying27 info_int rfl (by decide) w.heap.size l.length c A (ints l) rfl hown (.int .i64 x) rfl rfl (by omega) hbase ?_; intro A2 c2 w2 hown2 hg2 hb2)
        go_roundw
        case rel =>
          refine ⟨x + 1, by omega, by go_num, A2, c2, ?_, ?_, hT.trans hb2⟩
          · rw [HB2.out, List.length_append]; rfl
          · rw [HB2.out, List.length_append]
            have e : ints l ++ [.int .i64 (x : Int)] = ints (l ++ [(x : Int)]) := by simp [ints]
            rw [e] at hown2
            exact hown2
        case measure => simp [intOf]; omega
      · have h2 : q % 2 = 0 := by omega
        have HB2 : Hid (bitsTo m (x + 1) = bitsTo m x) := by show _ = _; rw [HBS.out, if_neg h1, List.append_nil]
        rw [h2] at hb1
        have HO := Lib.hid hown
        clear hown HBS
        go_wp2_with fail
        go_roundw
        case rel => exact ⟨x + 1, by omega, by go_num, A, c, by rw [HB2.out], by rw [HB2.out]; exact HO.out, hT⟩
        case measure => simp [intOf]; omega
end Go.Proofs.YtkmgbdljiajlaaaGreatDoor
namespace Go.Proofs.YtkmgbdljiajlaaaGreatDoor
open Go.RowKit

theorem bitsT_bd : ∀ m, m < 1024 → ∀ x ∈ bitsTo m 10, 0 ≤ x ∧ x ≤ 9 := by decide +kernel
theorem bitsT_val : ∀ m, m < 1024 → valB (bitsTo m 10) = m := by decide +kernel
theorem bitsT_inj {a b : Nat} (ha : a < 1024) (hb : b < 1024) (h : bitsTo a 10 = bitsTo b 10) : a = b := by rw [← bitsT_val a ha, ← bitsT_val b hb, h]
variable {P : List Int → Bool}
/-- The sets with the property among the first m masks. -/
def selT (P : List Int → Bool) : Nat → List (List Int)
  | 0 => []
  | m + 1 => selT P m ++ (if P (bitsTo m 10) then [bitsTo m 10] else [])
/-- The same, each put in its place. -/
def insD (P : List Int → Bool) : Nat → List (List Int)
  | 0 => []
  | m + 1 => if P (bitsTo m 10) then insT (bitsTo m 10) (insD P m) else insD P m
theorem selT_len (P : List Int → Bool) : ∀ m, (selT P m).length ≤ m
  | 0 => Nat.le_refl _
  | m + 1 => by
    have := selT_len P m
    rw [selT, List.length_append]
    split
    · simp; omega
    · simp; omega
theorem selT_mem : ∀ {k : Nat}, k ≤ 1024 → ∀ x, x ∈ selT P k ↔ ∃ j, j < k ∧ x = bitsTo j 10 ∧ P x = true
  | 0, _, x => by simp [selT]
  | k + 1, hk, x => by
    rw [selT, List.mem_append, selT_mem (by omega)]
    constructor
    · rintro (⟨j, h1, h2, h3⟩ | h)
      · exact ⟨j, by omega, h2, h3⟩
      · split at h
        · rename_i hp
          rw [List.mem_singleton.1 h]
          exact ⟨k, by omega, rfl, hp⟩
        · simp at h
    · rintro ⟨j, h1, h2, h3⟩
      by_cases e : j = k
      · subst e
        right
        rw [← h2, if_pos h3]
        simp
      · exact .inl ⟨j, by omega, h2, h3⟩
theorem selT_bd (P : List Int → Bool) {m : Nat} (hm : m ≤ 1024) : ∀ xs ∈ selT P m, ∀ x ∈ xs, ∀ wz : World, RI wz (.int .i64 x) x := fun xs h x hx wz => by
  obtain ⟨j, h1, rfl, -⟩ := (selT_mem hm xs).1 h
  have := bitsT_bd j (by omega) x hx
  exact ⟨rfl, by omega, by omega⟩
theorem insD_mem : ∀ (m : Nat) (p : List Int), p ∈ insD P m ↔ p ∈ selT P m
  | 0, p => by simp [insD, selT]
  | m + 1, p => by
    rw [insD, selT]
    split
    · rw [mem_insT, insD_mem m p, List.mem_append, List.mem_singleton]
      exact Or.comm
    · rw [insD_mem m p, List.append_nil]
theorem insD_len (P : List Int → Bool) : ∀ m, (insD P m).length ≤ m
  | 0 => Nat.le_refl _
  | m + 1 => by
    have := insD_len P m
    rw [insD]
    split
    · rw [insT_lenP]; omega
    · omega
theorem insD_srt : ∀ m, m ≤ 1024 → Srt (insD P m)
  | 0, _ => List.Pairwise.nil
  | m + 1, hm => by
    have ih := insD_srt m (by omega)
    rw [insD]
    split
    · refine ih.insT fun h => ?_
      obtain ⟨j, h1, h2, -⟩ := (selT_mem (by omega) _).1 ((insD_mem m _).1 h)
      have := bitsT_inj (by omega) (by omega) h2
      omega
    · exact ih
theorem selT_nodup (P : List Int → Bool) : ∀ m, m ≤ 1024 → (selT P m).Nodup
  | 0, _ => List.nodup_nil
  | m + 1, hm => by
    rw [selT, List.nodup_append]
    refine ⟨selT_nodup P m (by omega), ?_, fun a ha b hb e => ?_⟩
    · split <;> simp
    · split at hb
      · rw [List.mem_singleton.1 hb] at e
        obtain ⟨j, h1, h2, -⟩ := (selT_mem (by omega) a).1 ha
        have := bitsT_inj (by omega) (by omega) (h2.symm.trans e)
        omega
      · simp at hb
/-- A sorted list of the sets is the one that is put in order. -/
theorem sel_finT {yss : List (List Int)} {m : Nat} (hm : m ≤ 1024) (hp : yss.Perm (selT P m)) (hs : yss.Pairwise fun p r => lessT r p = false) : yss = insD P m := by
  have hnd : yss.Nodup := hp.nodup_iff.2 (selT_nodup P m hm)
  have hsrt : Srt yss := by
    refine (hs.and hnd).imp ?_
    intro a b hab
    rcases lessT_total a b with e | e | e
    · exact absurd e hab.2
    · exact e
    · rw [hab.1] at e; cases e
  exact Srt.ext hsrt (insD_srt m hm) fun p => by rw [hp.mem_iff, insD_mem]
theorem insD_insA (P : List Int → Bool) : ∀ m, m ≤ 256 → insD P m = insA P m
  | 0, _ => rfl
  | m + 1, h => by
    have key : ∀ m, m < 256 → bitsTo m 10 = bitsTo m 8 := by decide +kernel
    rw [insD, insA, key m (by omega), insD_insA P m (by omega)]
section
variable {n : Nat}
theorem bitsT_set {p : List Int} (hn : n ≤ 10) (h : IsSet n p) : bitsTo (valB p) 10 = p ∧ valB p < 2 ^ n := by
  obtain ⟨e1, e2⟩ := bits_set h
  have e3 := bits_high e2 (10 - n)
  rw [show n + (10 - n) = 10 by omega, e1] at e3
  exact ⟨e3, e2⟩
theorem bitsT_in {q : Nat} (h : q < 2 ^ n) (hn : n ≤ 10) : IsSet n (bitsTo q 10) := by
  have key : ∀ n : Nat, n ≤ 10 → ∀ q : Nat, q < 2 ^ n → setB (n : Int) (bitsTo q 10) = true := by decide +kernel
  exact setB_iff.1 (key n hn q h)
end
theorem pow10T {n : Nat} (h : n ≤ 10) : 2 ^ n ≤ 1024 := Nat.le_trans (Nat.pow_le_pow_right (by decide) h) (by decide)
end Go.Proofs.YtkmgbdljiajlaaaGreatDoor
namespace Go.Proofs.YtkmgbdljiajlaaaGreatDoor
open Go.RowKit

def bls (L : List Bool) : List Value := L.map fun b => .bool b
theorem bls_get {L : List Bool} {y : Nat} (h : y < L.length) : (bls L)[y]? = some (.bool (gB L y)) := by unfold bls; rw [List.getElem?_map, gB_at h]; rfl
theorem bls_set (L : List Bool) (y : Nat) (b : Bool) : (bls L).set y (.bool b) = bls (L.set y b) := by simp [bls, List.map_set]
theorem bls_rep (n : Nat) : bls (List.replicate n false) = List.replicate n (.bool false) := by simp [bls]
theorem info_bl : (Tryz.prog.info? 4).map (fun i => (i.zero, i.size, i.bytes)) = some (some (.bool false), 1, 1) := by kernel_rfl
theorem make_bl (w : World) {ops : Array Oper} {rest : List Oper} {o : Oper} {a : Act} {Q : Exit → Act → World → Prop} (hg : o.guard = none) (l c : Operand) (hop : o.op = Op.makeSlice 58 l c)
    (n : Nat) (hl : a.eval l = .int .i64 n) (hc : a.eval c = .int .i64 n) (b : n ≤ 17592186044416)
    (hK : ∀ w', w'.ownsRow w.heap.size 4 1 (.slice (some ⟨w.heap.size, 0, none⟩) n n) n (bls (List.replicate n false)) → w.grownBy w' none → wpList Tryz.prog ops Q rest (a.put o.dst (.slice (some ⟨w.heap.size, 0, none⟩) n n)) w') :
    wpList Tryz.prog ops Q (o :: rest) a w := by
  obtain ⟨i0, hi, hz0, hz1, hz2⟩ := info_parts info_bl
  refine wpList_make_full w hg l c 58 hop w.heap.size 4 i0 (.bool false) 1 Tryz.underlying58 hi hz0 hz1 .i64 .i64 n n n hl hc rfl rfl (by rw [hz2]; omega) (by unfold maxLen; omega) (Nat.le_refl _) ?_
  intro w' h1 h2
  refine hK w' ?_ h2
  have e : (madeCells (Value.bool false).cells (n * 1)).toList = List.replicate n (.bool false) := by rw [Nat.mul_one]; exact toList_madeCells_one (.bool false) n
  rw [bls_rep, ← e]
  exact h1
end Go.Proofs.YtkmgbdljiajlaaaGreatDoor
namespace Go.Proofs.YtkmgbdljiajlaaaGreatDoor
open Go.RowKit
set_option linter.unusedVariables false

/-- The marked numbers as a list of the call's own. -/
def OwI (w : World) (L : List Int) (e : Ending) (w' : World) : Prop := ∃ A c, e = .returned (.slice A L.length c) ∧ w'.ownsRow w.heap.size 3 1 (.slice A L.length c) L.length (ints L) ∧ Below w.heap.size w w'
theorem OwI.rd {w w' : World} {L : List Int} {e : Ending} (h : OwI w L e w') (hb : ∀ v ∈ L, -9223372036854775808 ≤ v ∧ v ≤ 9223372036854775807) : ∃ A c, e = .returned (.slice A L.length c) ∧ RdL RI w' A L.length L ∧ Below w.heap.size w w' := by
  obtain ⟨A, c, h1, h2, h3⟩ := h
  exact ⟨A, c, h1, rd_of_own (R := RI) h2 (RI_ints hb), h3⟩
theorem markL_bd (n : Nat) (M : Nat → Bool) (hn : n ≤ 1048576) : ∀ v ∈ markL n M, -9223372036854775808 ≤ v ∧ v ≤ 9223372036854775807 := fun v hv => by
  have := markL_in v hv
  omega
theorem inL_get {n y : Nat} {S : List Int} (h : y < n) : gB (inL n S) y = hasI (y : Int) S := by
  refine gB_get ?_
  unfold inL
  rw [List.getElem?_map, List.getElem?_range h]
  rfl
theorem inL_set {n k x : Nat} {S : List Int} (hx : S[k]? = some (x : Int)) (hxn : x < n) : (inL n (S.take k)).set x true = inL n (S.take (k + 1)) := by
  refine gB_ext (n := n) (by rw [List.length_set, inL_len]) (inL_len _ _) fun y hy => ?_
  rw [gB_set (by rw [inL_len]; exact hxn), inL_get hy, inL_get hy, List.take_add_one, hx]
  rw [Bool.eq_iff_iff]
  by_cases e : y = x
  · subst e; simp [hasI_m]
  · rw [if_neg e, hasI_m, hasI_m, List.mem_append]
    constructor
    · exact .inl
    · rintro (h | h)
      · exact h
      · simp at h; omega
end Go.Proofs.YtkmgbdljiajlaaaGreatDoor
namespace Go.Proofs.YtkmgbdljiajlaaaGreatDoor
open Go.RowKit
set_option linter.unusedVariables false

theorem keepM {w w' : World} {p : Addr} {v : Value} (hb : Below w.heap.size w w') (h : w.cell? p = some v) : w'.cell? p = some v := (hb.cell (cell_lt h)).trans h
set_option maxHeartbeats 2000000 in
theorem marks_any (A : Option Addr) (m c n : Nat) (S : List Int) (w : World) (h : RdL RI w A m S) (hS : ∀ v ∈ S, 0 ≤ v ∧ v ≤ (n : Int) - 1) (hn : n ≤ 1000) :
    Calls Tryz.prog 81 #[.slice A m c, .int .i64 n] w fun e w' => e = .returned (.slice (some ⟨w.heap.size, 0, none⟩) n n) ∧ w'.ownsRow w.heap.size 4 1 (.slice (some ⟨w.heap.size, 0, none⟩) n n) n (bls (inL n S)) ∧ Below w.heap.size w w' := by
  have HS := Lib.hid hS
  have HL := Lib.hid h.len
  have hle := h.le
  clear hS
  go_enter Tryz.func81, Tryz.ntmps81
  go_wp2_with (at_make; refine make_bl w rfl _ _ rfl n rfl rfl (by omega) ?_; intro w1 hown1 hg1)
  have hb1 := (Below.refl w.heap.size w).grown hg1 (Nat.le_refl _) (by simp)
  clear hg1
  go_loopw [12] (fun i wr => ∃ k : Nat, k ≤ m ∧ i = .int .i64 k ∧ wr.ownsRow w.heap.size 4 1 (.slice (some ⟨w.heap.size, 0, none⟩) n n) n (bls (inL n (S.take k))) ∧ Below w.heap.size w wr) (fun i _ => m - (intOf i).toNat)
  case atStart =>
    refine ⟨0, Nat.zero_le _, rfl, ?_, hb1⟩
    have e : inL n (S.take 0) = List.replicate n false := by
      unfold inL
      rw [List.take_zero]
      exact List.eq_replicate_iff.2 ⟨by simp, fun b hb => by obtain ⟨y, -, rfl⟩ := List.mem_map.1 hb; rfl⟩
    rw [e]
    exact hown1
  case round =>
    clear hown1 hb1
    obtain ⟨k, hk, rfl, hown, hTr⟩ := hrel
    by_cases hlt : k < m
    · have hk0 : (0 : Int) ≤ (k : Int) := by omega
      have hk1 : (k : Int) < (m : Int) := by omega
      obtain ⟨b, o, u, v, rfl, hc, ⟨rfl, hv0, hv1⟩, -, hx⟩ := h.at hlt
      have hvi := HS.out v (List.mem_of_getElem? hx)
      obtain ⟨x, rfl⟩ := Int.eq_ofNat_of_zero_le hvi.1
      have hxn : x < n := by omega
      have HSET := Lib.hid (inL_set hx hxn)
      replace hc := keepM hTr hc
      have hcell : wr.cell? ⟨w.heap.size, x, none⟩ = some (.bool (gB (inL n (S.take k)) x)) := by rw [hown.cellAt x (by omega), bls_get (by rw [inL_len]; exact hxn)]
      have hfz := hown.frozenAt x
      have hst := (hown.stored x (.bool true)).1
      rw [bls_set, HSET.out] at hst
      have hx0 : (0 : Int) ≤ (x : Int) := by omega
      have hx1 : (x : Int) < (n : Int) := by omega
      clear hx hown
      go_wp2_with fail
      go_roundw
      case rel => exact ⟨k + 1, by omega, by go_num, hst, hTr.setCell (Nat.le_refl _) _⟩
      case measure => simp [intOf]; try omega
    · have hk1 : ¬ (k : Int) < (m : Int) := by omega
      rw [List.take_of_length_le (by rw [HL.out]; omega)] at hown
      go_wp2_with fail
      go_ret
      exact ⟨rfl, hown, hTr⟩
set_option maxHeartbeats 2000000 in
theorem l5List_any (A : Option Addr) (n c : Nat) (L : List Bool) (w : World) (h : RdL RB w A n L) (hn : n ≤ 1000) :
    Calls Tryz.prog 63 #[.slice A n c] w (OwI w (markL n (gB L))) := by
  have hT := below_box w (.cells #[] 3)
  have hO := World.ownsRow_lit (base := w.heap.size) (e := 3) (size := 1) w #[] 0 (Nat.le_refl _) (Nat.zero_le _) rfl
  go_enter Tryz.func63, Tryz.ntmps63
  go_wp2_with fail
  go_loopw [3, 4] (fun s i wr => ∃ (k m : Nat) (A1 : Option Addr) (c1 : Nat), k ≤ n ∧ i = .int .i64 k ∧ s = .slice A1 m c1 ∧ m = (markL k (gB L)).length ∧ wr.ownsRow w.heap.size 3 1 (.slice A1 m c1) m (ints (markL k (gB L))) ∧ Below w.heap.size w wr) (fun _ i _ => n - (intOf i).toNat)
  case atStart => exact ⟨0, 0, _, _, Nat.zero_le _, rfl, rfl, rfl, hO, hT⟩
  case round =>
    clear hO hT
    obtain ⟨k, m, A1, c1, hk, rfl, rfl, hm, hown, hTr⟩ := hrel
    have hmk : m ≤ k := by rw [hm]; exact markL_le k (gB L)
    by_cases hlt : k < n
    · have hk0 : (0 : Int) ≤ (k : Int) := by omega
      have hk1 : (k : Int) < (n : Int) := by omega
      obtain ⟨b, o, u, v, rfl, hc, rfl, -, hx⟩ := (h.next stab_RB hTr).at hlt
      have HG := Lib.hid (gB_get hx)
      have HS := Lib.hid (markL_succ k (gB L))
      rw [HG.out] at HS
      have HMM := Lib.hid hm
      clear hx hm
      rcases v with _ | _
      · go_wp2_with fail
        go_roundw
        case rel => exact ⟨k + 1, m, A1, c1, by omega, by go_num, rfl, by rw [HS.out]; simpa using HMM.out, by rw [HS.out]; simpa using hown, hTr⟩
        case measure => simp [intOf]; try omega
      · have hsz := hTr.size
        go_wp2_with (at_builtin; refine app1 wr rfl _ _ 27 3 rfl (.int .i64 0) 8 Tryz.underlying27 info_int rfl (by decide) w.heap.size m c1 A1 (ints (markL k (gB L))) rfl hown (.int .i64 (k : Int)) rfl rfl (by omega) (by omega) ?_; intro A2 c2 w2 hown2 hg2 hb2)
        go_roundw
        case rel => exact ⟨k + 1, m + 1, A2, c2, by omega, by go_num, rfl, by rw [HS.out]; simpa using HMM.out, by rw [HS.out]; simpa [ints] using hown2, hTr.trans hb2⟩
        case measure => simp [intOf]; try omega
    · have hk1 : ¬ (k : Int) < (n : Int) := by omega
      obtain rfl : k = n := by omega
      have HMM := Lib.hid hm
      clear hm
      go_wp2_with fail
      go_ret
      exact ⟨A1, c1, by rw [HMM.out]; rfl, by rw [← HMM.out]; exact hown, hTr⟩
end Go.Proofs.YtkmgbdljiajlaaaGreatDoor
namespace Go.Proofs.YtkmgbdljiajlaaaGreatDoor
open Go.RowKit
set_option linter.unusedVariables false
set_option linter.unusedSimpArgs false

set_option maxRecDepth 20000 in
set_option maxHeartbeats 4000000 in
theorem those2_any (A : Option Addr) (n c f : Nat) (p q : Value) (M : Nat → Bool) (w : World) (hent : ∀ (args : Array Value) (w : World), (callFunc f args).run Tryz.prog w = .ok (.enter f args) w) (hC : ∀ x wz, x < n → Below w.heap.size w wz → Calls Tryz.prog f #[.int .i64 (x : Int), p, q] wz (Bl wz (.bool (M x)))) (hn : n ≤ 1000) :
    Calls Tryz.prog 27 #[.slice A n c, .func (.func f) #[] #[p, q]] w (OwI w (markL n M)) := by
  have HC := Lib.hid hC
  clear hC
  go_enter Tryz.func27, Tryz.ntmps27
  go_wp2
  go_loopw [5, 10] (fun v i wr => ∃ (k m : Nat) (A1 : Option Addr) (c1 : Nat), k ≤ n ∧ i = .int .i64 k ∧ v = .slice A1 m c1 ∧ m = (markL k M).length ∧ wr.ownsRow w.heap.size 3 1 v m (ints (markL k M)) ∧ Below w.heap.size w wr) (fun _ i _ => n - (intOf i).toNat)
  case atStart => exact ⟨0, 0, _, 0, Nat.zero_le _, rfl, rfl, rfl, World.ownsRow_lit w #[] 0 (Nat.le_refl _) (Nat.zero_le _) rfl, below_box _ _⟩
  case round =>
    obtain ⟨k, m, A1, c1, hk, rfl, rfl, hm, hown, hT⟩ := hrel
    have hmk : m ≤ k := by rw [hm]; exact markL_le k M
    have HMM := Lib.hid hm
    clear hm
    by_cases hlt : k < n
    · have hk0 : (0 : Int) ≤ (k : Int) := by omega
      have hk1 : (k : Int) < (n : Int) := by omega
      obtain ⟨b, HB⟩ : ∃ b, Hid (M k = b) := ⟨_, Lib.hid rfl⟩
      have HS : Hid (markL (k + 1) M = markL k M ++ if b then [(k : Int)] else []) := by show _ = _; rw [markL_succ, HB.out]
      have HCK := Lib.hid (HC.out k wr hlt hT)
      go_wp2_with fail
      refine HCK.out.mono ?_
      rintro e w2 ⟨rfl, hb2⟩
      rw [HB.out]
      have hown2 := own_next hown hb2
      have hT2 := below_next hT hb2 rfl
      have hsz := hT2.size
      clear hown HCK hb2
      rcases b with _ | _
      · go_wp2_with fail
        go_roundw
        case rel => exact ⟨k + 1, m, A1, c1, by omega, by go_num, rfl, by rw [HS.out]; simpa using HMM.out, by rw [HS.out]; simpa using hown2, hT2⟩
        case measure => simp [intOf]; omega
      · go_wp2_with (at_builtin; refine app1 w2 rfl _ _ 27 3 rfl (.int .i64 0) 8 Tryz.underlying27 info_int rfl (by decide) w.heap.size m c1 A1 (ints (markL k M)) rfl hown2 (.int .i64 k) rfl rfl (by omega) hsz ?_; intro A2 c2 w3 hown3 hg3 hb3)
        go_roundw
        case rel => exact ⟨k + 1, m + 1, A2, c2, by omega, by go_num, rfl, by rw [HS.out]; simpa using HMM.out, by rw [HS.out]; simpa [ints] using hown3, hT2.trans hb3⟩
        case measure => simp [intOf]; omega
    · have hk1 : ¬ (k : Int) < (n : Int) := by omega
      obtain rfl : k = n := by omega
      go_wp2_with fail
      go_ret
      exact ⟨A1, c1, by rw [HMM.out]; rfl, by rw [← HMM.out]; exact hown, hT⟩
set_option maxRecDepth 20000 in
set_option maxHeartbeats 4000000 in
theorem those3_any (A : Option Addr) (n c f : Nat) (p q r : Value) (M : Nat → Bool) (w : World) (hent : ∀ (args : Array Value) (w : World), (callFunc f args).run Tryz.prog w = .ok (.enter f args) w) (hC : ∀ x wz, x < n → Below w.heap.size w wz → Calls Tryz.prog f #[.int .i64 (x : Int), p, q, r] wz (Bl wz (.bool (M x)))) (hn : n ≤ 1000) :
    Calls Tryz.prog 27 #[.slice A n c, .func (.func f) #[] #[p, q, r]] w (OwI w (markL n M)) := by
  have HC := Lib.hid hC
  clear hC
  go_enter Tryz.func27, Tryz.ntmps27
  go_wp2
  go_loopw [5, 10] (fun v i wr => ∃ (k m : Nat) (A1 : Option Addr) (c1 : Nat), k ≤ n ∧ i = .int .i64 k ∧ v = .slice A1 m c1 ∧ m = (markL k M).length ∧ wr.ownsRow w.heap.size 3 1 v m (ints (markL k M)) ∧ Below w.heap.size w wr) (fun _ i _ => n - (intOf i).toNat)
  case atStart => exact ⟨0, 0, _, 0, Nat.zero_le _, rfl, rfl, rfl, World.ownsRow_lit w #[] 0 (Nat.le_refl _) (Nat.zero_le _) rfl, below_box _ _⟩
  case round =>
    obtain ⟨k, m, A1, c1, hk, rfl, rfl, hm, hown, hT⟩ := hrel
    have hmk : m ≤ k := by rw [hm]; exact markL_le k M
    have HMM := Lib.hid hm
    clear hm
    by_cases hlt : k < n
    · have hk0 : (0 : Int) ≤ (k : Int) := by omega
      have hk1 : (k : Int) < (n : Int) := by omega
      obtain ⟨b, HB⟩ : ∃ b, Hid (M k = b) := ⟨_, Lib.hid rfl⟩
      have HS : Hid (markL (k + 1) M = markL k M ++ if b then [(k : Int)] else []) := by show _ = _; rw [markL_succ, HB.out]
      have HCK := Lib.hid (HC.out k wr hlt hT)
      go_wp2_with fail
      refine HCK.out.mono ?_
      rintro e w2 ⟨rfl, hb2⟩
      rw [HB.out]
      have hown2 := own_next hown hb2
      have hT2 := below_next hT hb2 rfl
      have hsz := hT2.size
      clear hown HCK hb2
      rcases b with _ | _
      · go_wp2_with fail
        go_roundw
        case rel => exact ⟨k + 1, m, A1, c1, by omega, by go_num, rfl, by rw [HS.out]; simpa using HMM.out, by rw [HS.out]; simpa using hown2, hT2⟩
        case measure => simp [intOf]; omega
      · go_wp2_with (at_builtin; refine app1 w2 rfl _ _ 27 3 rfl (.int .i64 0) 8 Tryz.underlying27 info_int rfl (by decide) w.heap.size m c1 A1 (ints (markL k M)) rfl hown2 (.int .i64 k) rfl rfl (by omega) hsz ?_; intro A2 c2 w3 hown3 hg3 hb3)
        go_roundw
        case rel => exact ⟨k + 1, m + 1, A2, c2, by omega, by go_num, rfl, by rw [HS.out]; simpa using HMM.out, by rw [HS.out]; simpa [ints] using hown3, hT2.trans hb3⟩
        case measure => simp [intOf]; omega
    · have hk1 : ¬ (k : Int) < (n : Int) := by omega
      obtain rfl : k = n := by omega
      go_wp2_with fail
      go_ret
      exact ⟨A1, c1, by rw [HMM.out]; rfl, by rw [← HMM.out]; exact hown, hT⟩
set_option maxRecDepth 20000 in
set_option maxHeartbeats 4000000 in
theorem isDown_any (A B : Option Addr) (n c m d : Nat) (F : Nat → Nat → Bool) (S : List Int) (w : World) (hr : RdL (RV RB) w A n (tab n F)) (hs : RdL RI w B m S) (hS : ∀ v ∈ S, 0 ≤ v ∧ v ≤ (n : Int) - 1) (hn : n ≤ 1000) :
    Calls Tryz.prog 65 #[.slice A n c, .slice B m d] w (Bl w (.bool (tt (DownP n F S)))) := by
  have HS := Lib.hid hS
  have HMK := Lib.hid (marks_any B m d n S w hs hS hn)
  have HL := Lib.hid hs.len
  have hml := hs.le
  clear hS
  go_enter Tryz.func65, Tryz.ntmps65
  go_wp2_with fail
  refine HMK.out.mono ?_
  rintro e w1 ⟨rfl, hown, hb1⟩
  obtain ⟨g, HG⟩ : ∃ g, Hid (w.heap.size = g) := ⟨_, Lib.hid rfl⟩
  rw [HG.out] at hown ⊢
  have hr1 := hr.next stab_RVB hb1
  have hs1 := hs.next stab_RI hb1
  clear HMK hr hs
  go_wp2_with fail
  go_loopw [15] (fun i wr => ∃ j : Nat, j ≤ m ∧ i = .int .i64 j ∧ (∀ (k : Nat) (x : Nat), k < j → S[k]? = some (x : Int) → ∀ y, y < n → F y x = true → (y : Int) ∈ S) ∧ Below w1.heap.size w1 wr) (fun i _ => m - (intOf i).toNat)
  case atStart => exact ⟨0, Nat.zero_le _, rfl, fun k x hk => absurd hk (by omega), Below.refl _ _⟩
  case round =>
    obtain ⟨j, hj, rfl, hall, hTr⟩ := hrel
    have HA := Lib.hid hall
    clear hall
    by_cases hlt : j < m
    · have hj0 : (0 : Int) ≤ (j : Int) := by omega
      have hj1 : (j : Int) < (m : Int) := by omega
      obtain ⟨b, o, v, x, rfl, hcx, ⟨rfl, -⟩, -, hx⟩ := (hs1.next stab_RI hTr).at hlt
      have hxr := HS.out x (List.mem_of_getElem? hx)
      obtain ⟨x, rfl⟩ := Int.eq_ofNat_of_zero_le hxr.1
      have hxn : x < n := by omega
      have hx0 : (0 : Int) ≤ (x : Int) := by omega
      have hx1 : (x : Int) < (n : Int) := by omega
      have HX := Lib.hid hx
      clear hx hxr
      go_wp2_with fail
      go_loopw [21] (fun i wi => ∃ y : Nat, y ≤ n ∧ i = .int .i64 y ∧ (∀ z, z < y → F z x = true → (z : Int) ∈ S) ∧ Below w1.heap.size w1 wi) (fun i _ => n - (intOf i).toNat)
      case atStart => exact ⟨0, Nat.zero_le _, rfl, fun z hz => absurd hz (by omega), hTr⟩
      case round =>
        obtain ⟨y, hy, rfl, hin, hTi⟩ := hrel
        have HI := Lib.hid hin
        clear hin
        by_cases hly : y < n
        · have hy0 : (0 : Int) ≤ (y : Int) := by omega
          have hy1 : (y : Int) < (n : Int) := by omega
          obtain ⟨b2, o2, rfl⟩ := hr1.addr hly
          obtain ⟨r2, p2, d2, hc2, hall2⟩ := (hr1.next stab_RVB hTi).rowT hly
          have hcF := hall2 x hxn
          have hcM : wr.cell? ⟨g, y, none⟩ = some (.bool (hasI (y : Int) S)) := by
            rw [(own_next hown hTi).cellAt y (by omega)]
            rw [bls_get (by rw [inL_len]; exact hly), inL_get hly]
          obtain ⟨f, HF⟩ : ∃ f, Hid (F y x = f) := ⟨_, Lib.hid rfl⟩
          obtain ⟨h, HH⟩ : ∃ f, Hid (hasI (y : Int) S = f) := ⟨_, Lib.hid rfl⟩
          rw [HF.out] at hcF
          rw [HH.out] at hcM
          clear hall2
          rcases f with _ | _
          · have HI2 : Hid (∀ z, z < y + 1 → F z x = true → (z : Int) ∈ S) := fun z hz hf => by
              by_cases e : z = y
              · subst e; rw [HF.out] at hf; cases hf
              · exact HI.out z (by omega) hf
            go_wp2_with fail
            go_roundw
            case rel => exact ⟨y + 1, by omega, by go_num, HI2.out, hTi⟩
            case measure => simp [intOf]; omega
          · rcases h with _ | _
            · have HNO : Hid (tt (DownP n F S) = false) := Eq.symm (tt_false fun hd => by
                have := hd _ (List.mem_of_getElem? HX.out) y hly (by simpa using HF.out)
                rw [← hasI_iff, HH.out] at this
                cases this)
              go_wp2_with fail
              go_ret
              exact ⟨by rw [HNO.out]; rfl, below_next hb1 hTi rfl⟩
            · have HI2 : Hid (∀ z, z < y + 1 → F z x = true → (z : Int) ∈ S) := fun z hz hf => by
                by_cases e : z = y
                · subst e; exact hasI_iff.1 HH.out
                · exact HI.out z (by omega) hf
              go_wp2_with fail
              go_roundw
              case rel => exact ⟨y + 1, by omega, by go_num, HI2.out, hTi⟩
              case measure => simp [intOf]; omega
        · obtain rfl : y = n := by omega
          have hy1 : ¬ (y : Int) < (y : Int) := by omega
          have HA2 : Hid (∀ (k : Nat) (x : Nat), k < j + 1 → S[k]? = some (x : Int) → ∀ z, z < y → F z x = true → (z : Int) ∈ S) := fun k x' hk hx' => by
            by_cases e : k = j
            · subst e
              rw [HX.out] at hx'
              injection hx' with hx'
              have : x = x' := by omega
              subst this
              exact HI.out
            · exact HA.out k x' (by omega) hx'
          go_wp2_with fail
          go_roundw
          case rel => exact ⟨j + 1, by omega, by go_num, HA2.out, hTi⟩
          case measure => simp [intOf]; omega
    · obtain rfl : j = m := by omega
      have hj1 : ¬ (j : Int) < (j : Int) := by omega
      have HY : Hid (tt (DownP n F S) = true) := Eq.symm (tt_true fun v hv y hy hf => by
        obtain ⟨k, hk⟩ := List.getElem?_of_mem hv
        obtain ⟨x, rfl⟩ := Int.eq_ofNat_of_zero_le (HS.out v hv).1
        have hkl := (List.getElem?_eq_some_iff.1 hk).1
        exact HA.out k x (by rw [← HL.out]; exact hkl) hk y hy (by simpa using hf))
      go_wp2_with fail
      go_ret
      exact ⟨by rw [HY.out]; rfl, below_next hb1 hTr rfl⟩
/-! ## All downsets -/
noncomputable def dsL (n : Nat) (F : Nat → Nat → Bool) : List (List Int) := insD (downB n F) (2 ^ n)
theorem downB_bits {n q : Nat} {F : Nat → Nat → Bool} (h : q < 2 ^ n) (hn : n ≤ 10) : downB n F (bitsTo q 10) = tt (DownP n F (bitsTo q 10)) := by
  unfold downB
  rw [setB_iff.2 (bitsT_in h hn), Bool.true_and]
set_option maxRecDepth 20000 in
set_option maxHeartbeats 8000000 in
theorem downsets_any (A : Option Addr) (n c : Nat) (F : Nat → Nat → Bool) (w : World) (hr : RdL (RV RB) w A n (tab n F)) (hn10 : n ≤ 10) :
    Calls Tryz.prog 32 #[.slice A n c] w (fun e w' => ∃ A q c, e = .returned (.slice A q c) ∧ OwM 27 3 (.int .i64) w.heap.size w' (.slice A q c) q (dsL n F) ∧ Below w.heap.size w w') := by
  obtain ⟨P, HP⟩ : ∃ P, Hid (downB n F = P) := ⟨_, Lib.hid rfl⟩
  obtain ⟨N, HN⟩ : ∃ N : Nat, Hid (2 ^ n = N) := ⟨_, Lib.hid rfl⟩
  have hN : N ≤ 1024 := by rw [← HN.out]; exact pow10T hn10
  have HSL : Hid (dsL n F = insD P N) := by show _ = _; unfold dsL; rw [HP.out, HN.out]
  have hT1 : Below w.heap.size w (w.alloc (.cells #[] 27)) := below_box _ _
  have hML := mat_lit (Below.refl w.heap.size w)
  go_enter Tryz.func32, Tryz.ntmps32
  go_wp2_with fail
  go_loopw [3, 4] (fun v j wr => ∃ k : Nat, k ≤ N ∧ j = .int .i64 k ∧ (∃ A' c', v = .slice A' (selT P k).length c' ∧ OwM 27 3 (.int .i64) w.heap.size wr (.slice A' (selT P k).length c') (selT P k).length (selT P k)) ∧ Below w.heap.size w wr) (fun _ j _ => N - (intOf j).toNat)
  case atStart => exact ⟨0, Nat.zero_le _, rfl, ⟨_, 0, rfl, hML⟩, hT1⟩
  case round =>
    clear hT1 hML
    obtain ⟨k, hk, rfl, ⟨A', c', rfl, hown⟩, hT⟩ := hrel
    have hpw : (1 : Int) * 2 ^ n = (N : Int) := by rw [← HN.out]; simp
    have hpw2 : (2 : Int) ^ n = (N : Int) := by rw [← HN.out]; simp
    have hfl := selT_len P k
    by_cases hlt : k < N
    · have hk1 : (k : Int) < (N : Int) := by omega
      have HST : Hid (selT P (k + 1) = selT P k ++ (if P (bitsTo k 10) then [bitsTo k 10] else [])) := rfl
      have hbl := bitsT_len k (by omega) 10 (by omega)
      have HIS := Lib.hid (bitsT_in (n := n) (q := k) (by rw [HN.out]; exact hlt) hn10)
      have HPT : Hid (P (bitsTo k 10) = tt (DownP n F (bitsTo k 10))) := by show _ = _; rw [← HP.out]; exact downB_bits (by rw [HN.out]; exact hlt) hn10
      obtain ⟨acc, HA⟩ : ∃ acc, Hid (selT P k = acc) := ⟨_, rfl⟩
      obtain ⟨xs, HX⟩ : ∃ xs, Hid (bitsTo k 10 = xs) := ⟨_, rfl⟩
      rw [HA.out] at hown hfl HST ⊢
      rw [HX.out] at hbl HIS HST HPT
      have HB1 := bitsOfT_any k wr (by omega)
      rw [HX.out] at HB1
      have HB := Lib.hid HB1
      clear HB1
      have hT2 := hT.size
      go_upto_region 6 with (go_at_call 64; refine HB.out.mono ?_; rintro e w4 ⟨A4, c4, rfl, how4, hb4⟩)
      have hT4 := below_next hT hb4 rfl
      have hsz4 := hT4.size
      obtain ⟨r, HR⟩ : ∃ r, Hid (P xs = r) := ⟨_, rfl⟩
      have HF := isDown_any A A4 n c xs.length c4 F xs w4 (hr.next stab_RVB hT4) (rd_of_own (R := RI) how4 (RI_ints fun v hv => by have := HIS.out.2 v hv; omega)) (fun v hv => by have := HIS.out.2 v hv; omega) (by omega)
      rw [← HPT.out, HR.out] at HF
      have HF := Lib.hid HF
      rw [HR.out] at HST
      rcases r with _ | _
      · have HS2 : Hid (selT P (k + 1) = acc) := by show _ = _; rw [HST.out]; simp
        have hown4 := hown.next hb4
        go_wp2_with (go_at_call 65; refine HF.out.mono ?_; rintro e w5 ⟨rfl, hb5⟩)
        go_roundw
        case rel => exact ⟨k + 1, by omega, by go_num, ⟨A', c', by rw [HS2.out], by rw [HS2.out]; exact hown4.next hb5⟩, below_next hT4 hb5 rfl⟩
        case measure => simp [intOf]; omega
      · have HS2 : Hid (selT P (k + 1) = acc ++ [xs]) := by show _ = _; rw [HST.out]; simp
        go_upto_region 7 with (go_at_call 65; refine HF.out.mono ?_; rintro e w5 ⟨rfl, hb5⟩)
        have hb45 := below_next hb4 hb5 rfl
        obtain ⟨vs, hvs, HPU⟩ := hown.push (by decide) hb45 hT2 (own_next how4 hb5)
        have hT5 := below_next hT4 hb5 rfl
        have hsz5 := hT5.size
        go_wp2_with (at_builtin; refine app1 w5 rfl _ _ 24 27 rfl (.slice none 0 0) 24 Tryz.underlying24 info_ints rfl (by decide) w.heap.size acc.length c' A' vs rfl hvs (.slice A4 xs.length c4) rfl rfl (by omega) hsz5 ?_; intro A2 c2 w6 hown6 hg6 hb6)
        go_roundw
        case rel => exact ⟨k + 1, by omega, by go_num, ⟨A2, c2, by rw [HS2.out, List.length_append]; rfl, by rw [HS2.out, List.length_append]; exact HPU hown6 hg6⟩, hT5.trans hb6⟩
        case measure => simp [intOf]; omega
    · obtain rfl : k = N := by omega
      have hk1 : ¬ (k : Int) < (k : Int) := by omega
      have HBD := Lib.hid (selT_bd P hN)
      go_wp2_with (go_at_call 66; refine (sortRows_any w.heap.size A' c' (selT P k).length (selT P k) wr hown hT.size HBD.out (by omega)).mono ?_; rintro e w5 ⟨rfl, yss, hM, hP, hW, hb5⟩)
      go_ret
      refine ⟨_, _, _, rfl, ?_, hT.trans hb5⟩
      rw [HSL.out, ← sel_finT hN hP hW]
      exact hM
/-- DownsetsOf's answer. -/
noncomputable def dsRes (xss : List (List Int)) : List (List Int) := if tt (GoodP xss) then dsL xss.length (leF xss) else []
set_option maxRecDepth 20000 in
set_option maxHeartbeats 4000000 in
theorem implDs_any (A : Option Addr) (n c : Nat) (xss : List (List Int)) (w : World) (h : RdL (RV RI) w A n xss) : Calls Tryz.prog 9 #[.agg #[.slice A n c]] w (OwnMB w (dsRes xss) (tt (GoodP xss))) := by
  have hl := h.len
  obtain ⟨w0, HW0⟩ : ∃ wb, Hid (wb = w.alloc (.cells #[.slice A n c] 26)) := ⟨_, Lib.hid rfl⟩
  have hb0 : Below w.heap.size w w0 := by rw [HW0.out]; exact below_box _ _
  have BP : Blk w0 w.heap.size 26 #[.slice A n c] := by rw [HW0.out]; exact Blk.new _ _ _
  have hr0 := h.next stab_RVI hb0
  have cP0 := BP.cell 0
  simp at cP0
  have HO := Lib.hid (orderOf_any A n c xss w0 hr0)
  have HLL := Lib.hid hl
  obtain ⟨r, HR⟩ : ∃ r, Hid (tt (GoodP xss) = r) := ⟨_, rfl⟩
  rw [HR.out]
  clear hl h
  go_enter Tryz.func9, Tryz.ntmps9
  go_upto_region 1 with fail
  rw [← HW0.out]
  go_wp2_with fail
  refine HO.out.mono ?_
  rintro e w1 ⟨A1, m1, c1, rfl, hgd, hb1⟩
  rw [HR.out]
  have T1 := below_next hb0 hb1 rfl
  clear HO cP0 BP hb0
  rcases r with _ | _
  · have HF : Hid (dsRes xss = []) := by show _ = _; unfold dsRes; rw [HR.out]; rfl
    clear hgd
    go_wp2_with fail
    go_ret2
    exact ⟨_, 0, 0, rfl, by rw [HF.out]; exact mat_lit T1, below_next T1 (below_box _ _) rfl⟩
  · obtain ⟨rfl, hrb⟩ := hgd (tt_iff.1 HR.out)
    have HF : Hid (dsRes xss = dsL m1 (leF xss)) := by show _ = _; unfold dsRes; rw [HR.out, HLL.out]; rfl
    have hn10 : m1 ≤ 10 := by rw [← HLL.out]; exact (tt_iff.1 HR.out).1
    have HD := Lib.hid (downsets_any A1 m1 c1 (leF xss) w1 hrb hn10)
    clear hgd
    go_wp2_with fail
    refine HD.out.mono ?_
    rintro e w2 ⟨A2, q, c2, rfl, hM, hb2⟩
    go_wp2_with fail
    go_ret2
    exact ⟨A2, q, c2, rfl, by rw [HF.out]; exact hM.mono T1.size, below_next T1 hb2 rfl⟩
end Go.Proofs.YtkmgbdljiajlaaaGreatDoor
