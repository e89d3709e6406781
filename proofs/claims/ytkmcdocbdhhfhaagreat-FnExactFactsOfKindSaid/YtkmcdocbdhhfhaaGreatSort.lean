
/- Walks of the reference's sorted insertion, and of its closure systems. -/
import Derived.Test.YtkmcdocbdhhfhaaGreatSystem
import Derived.Deep.RegionLaw
import Derived.Deep.RegionHeld3
namespace Go.Proofs.YtkmcdocbdhhfhaaGreat
open Go.RowKit

/-- A slice value by its parts. -/
abbrev SlT := Option Addr × Nat × Nat
def slV (t : SlT) : Value := .slice t.1 t.2.1 t.2.2
def RSl (_ : World) (v : Value) (t : SlT) : Prop := v = slV t
theorem stab_RSl : Stab RSl := fun _ _ _ _ _ h => h
theorem choose_list {α : Type} {p : Nat → α → Prop} (n : Nat) (h : ∀ (k : Nat), k < n → ∃ x, p k x) : ∃ l : List α, l.length = n ∧ ∀ (k : Nat) x, l[k]? = some x → p k x := by
  induction n with
  | zero => exact ⟨[], rfl, fun k x hx => by simp at hx⟩
  | succ n ih =>
    obtain ⟨l, hl, hp⟩ := ih fun k hk => h k (by omega)
    obtain ⟨x, hx⟩ := h n (by omega)
    refine ⟨l ++ [x], by simp [hl], fun k y hy => ?_⟩
    rcases Nat.lt_or_ge k n with _ | _
    · rw [List.getElem?_append_left (by omega)] at hy
      exact hp k y hy
    · have hk2 := (List.getElem?_eq_some_iff.1 hy).1
      simp at hk2
      have hkn : k = n := by omega
      subst hkn
      rw [List.getElem?_append_right (by omega), hl, Nat.sub_self] at hy
      simp at hy
      subst hy
      exact hx
/-- The places of the inner slices. -/
theorem RdL.raw {α : Type} {R : World → Value → α → Prop} {w : World} {A : Option Addr} {n : Nat} {xss : List (List α)} (h : RdL (RV R) w A n xss) :
    ∃ ts : List SlT, RdL RSl w A n ts ∧ ∀ (k : Nat) t xs, ts[k]? = some t → xss[k]? = some xs → RdL R w t.1 t.2.1 xs := by
  obtain ⟨ts, hl, hp⟩ := choose_list (p := fun k (t : SlT) => ∃ b o xs, A = some ⟨b, o, none⟩ ∧ w.cell? ⟨b, o + k, none⟩ = some (slV t) ∧ xss[k]? = some xs ∧ RdL R w t.1 t.2.1 xs) n (fun k hk => by
    obtain ⟨b, o, v, xs, e, hc, ⟨B, m, c, rfl, hr⟩, -, hx⟩ := h.at hk
    exact ⟨(B, m, c), b, o, xs, e, hc, hx, hr⟩)
  refine ⟨ts, ⟨hl, h.2.1, fun k t hk => ?_⟩, fun k t xs ht hx => ?_⟩
  · obtain ⟨b, o, xs, e, hc, -, -⟩ := hp k t hk
    exact ⟨b, o, slV t, e, hc, rfl⟩
  · obtain ⟨b, o, ys, -, -, hy, hr⟩ := hp k t ht
    rw [hx] at hy
    injection hy with hy
    rw [hy]
    exact hr
/-- .. and back: a row of the call's own that holds such places. -/
theorem rd_of_raw {α : Type} {R : World → Value → α → Prop} {w : World} {base : Nat} {e : TypeId} {A : Option Addr} {n c : Nat} {ts : List SlT} {xss : List (List α)} (hl : ts.length = xss.length) (h : w.ownsRow base e 1 (.slice A n c) n (ts.map slV))
    (hR : ∀ (k : Nat) t xs, ts[k]? = some t → xss[k]? = some xs → RdL R w t.1 t.2.1 xs) : RdL (RV R) w A n xss := by
  have hn := rd_of_own (R := RSl) h (fun x _ => rfl)
  refine ⟨by rw [← hl, hn.1], hn.2.1, fun k xs hk => ?_⟩
  have hkl : k < ts.length := by rw [hl]; exact (List.getElem?_eq_some_iff.1 hk).1
  obtain ⟨b, o, v, e, hc, hv⟩ := hn.2.2 k ts[k] (List.getElem?_eq_getElem hkl)
  exact ⟨b, o, v, e, hc, ts[k].1, ts[k].2.1, ts[k].2.2, hv, hR k _ xs (List.getElem?_eq_getElem hkl) hk⟩
theorem RdL.drop {α : Type} {R : World → Value → α → Prop} {w : World} {b o n : Nat} {xs : List α} (h : RdL R w (some ⟨b, o, none⟩) n xs) (k : Nat) : RdL R w (some ⟨b, o + k, none⟩) (n - k) (xs.drop k) := by
  refine ⟨by rw [List.length_drop, h.1], Nat.le_trans (Nat.sub_le _ _) h.2.1, fun j x hj => ?_⟩
  rw [List.getElem?_drop] at hj
  obtain ⟨b', o', v, e, hc, hr⟩ := h.2.2 (k + j) x hj
  simp only [Option.some.injEq, Addr.mk.injEq, and_true] at e
  obtain ⟨rfl, rfl⟩ := e
  exact ⟨b, o + k, v, rfl, by rw [Nat.add_assoc]; exact hc, hr⟩

theorem rd_cell {w : World} {g : Nat} {t : SlT} (h : w.cell? ⟨g, 0, none⟩ = some (slV t)) : RdL RSl w (some ⟨g, 0, none⟩) 1 [t] := by
  refine ⟨rfl, by unfold maxLen; omega, fun k x hk => ?_⟩
  have hk1 := (List.getElem?_eq_some_iff.1 hk).1
  simp at hk1
  subst hk1
  simp at hk
  subst hk
  exact ⟨g, 0, slV t, rfl, h, rfl⟩
theorem lit0 {B : Nat} {e : TypeId} (w : World) (hB : w.heap.size = B) : (w.alloc (.cells #[] e)).ownsRow B e 1 (.slice (some ⟨B, 0, none⟩) 0 0) 0 [] := by
  subst hB
  exact World.ownsRow_lit _ _ _ (Nat.le_refl _) (Nat.zero_le _) rfl
theorem lit1 {B : Nat} {e : TypeId} (w : World) (hB : w.heap.size = B + 1) : (w.alloc (.cells #[] e)).ownsRow B e 1 (.slice (some ⟨B + 1, 0, none⟩) 0 0) 0 [] := by
  rw [← hB]
  exact World.ownsRow_lit _ _ _ (by omega) (Nat.zero_le _) rfl

theorem cell_new {B : Nat} {e : TypeId} {u : Value} (w : World) (hB : w.heap.size = B) : (w.alloc (.cells #[u] e)).cell? ⟨B, 0, none⟩ = some u := by
  subst hB
  exact (Blk.new w e #[u]).cell 0
theorem cell_new2 {B : Nat} {e : TypeId} {u : Value} (w : World) (o : Obj) (hB : w.heap.size = B) : ((w.alloc (.cells #[u] e)).alloc o).cell? ⟨B, 0, none⟩ = some u := by
  subst hB
  exact ((Blk.new w e #[u]).alloc o).cell 0

/-- Does p go ahead of q? Shorter lists first, then by the numbers. -/
def lessT (p q : List Int) : Bool := decide (p.length < q.length) || (decide (p.length = q.length) && lessL p q)
def insPos (p : List Int) (xss : List (List Int)) : Nat → Nat
  | 0 => 0
  | k + 1 => if lessT p (xss.getD k []) then insPos p xss k else k + 1
theorem insPos_le (p : List Int) (xss : List (List Int)) : ∀ n, insPos p xss n ≤ n
  | 0 => Nat.le_refl _
  | k + 1 => by have := insPos_le p xss k; rw [insPos]; split <;> omega
def insT (p : List Int) (xss : List (List Int)) : List (List Int) := xss.take (insPos p xss xss.length) ++ p :: xss.drop (insPos p xss xss.length)

theorem own_form {w : World} {base : Nat} {e : TypeId} {size : Nat} {A : Option Addr} {n c : Nat} {xs : List Value} (h : w.ownsRow base e size (.slice A n c) n xs) (hn : 0 < n) : ∃ g, A = some ⟨g, 0, none⟩ ∧ base ≤ g ∧ n ≤ c := by
  rcases h.2 with ⟨h0, h1⟩ | ⟨g, cap, cur, hv, hb, _, hnc, _⟩
  · omega
  · injection hv with hA _ hc
    exact ⟨g, hA, hb, by omega⟩
theorem sort_cap {w : World} {base : Nat} {e : TypeId} {size : Nat} {A : Option Addr} {n c : Nat} {xs : List Value} (h : w.ownsRow base e size (.slice A n c) n xs) : n ≤ c := by
  rcases h.2 with ⟨h0, h1⟩ | ⟨g, cap, cur, hv, _, _, hnc, _⟩
  · omega
  · injection hv with _ _ hc
    omega
theorem sort_res {w : World} {base : Nat} {e : TypeId} {A B : Option Addr} {n c m d k : Nat} {ts : List SlT} {xss : List (List Int)} {p : List Int} (h : w.ownsRow base e 1 (.slice A (n + 1) c) (n + 1) ((ts.take k ++ (B, m, d) :: ts.drop k).map slV))
    (hts : ts.length = n) (hx : xss.length = n) (hk : insPos p xss n = k) (hkn : k ≤ n) (hR : ∀ (j : Nat) t xs, ts[j]? = some t → xss[j]? = some xs → RdL RI w t.1 t.2.1 xs) (hp : RdL RI w B m p) : RdL (RV RI) w A (n + 1) (insT p xss) := by
  have hI : insT p xss = xss.take k ++ p :: xss.drop k := by unfold insT; rw [hx, hk]
  rw [hI]
  refine rd_of_raw (by simp [hts, hx]) h fun j t xs ht hxs => ?_
  have l1 : (ts.take k).length = k := by rw [List.length_take, hts]; omega
  have l2 : (xss.take k).length = k := by rw [List.length_take, hx]; omega
  rcases Nat.lt_trichotomy j k with hj | hj | hj
  · rw [List.getElem?_append_left (by omega), List.getElem?_take, if_pos hj] at ht hxs
    exact hR j t xs ht hxs
  · subst hj
    rw [List.getElem?_append_right (by omega), l1, Nat.sub_self] at ht
    rw [List.getElem?_append_right (by omega), l2, Nat.sub_self] at hxs
    simp at ht hxs
    subst ht
    subst hxs
    exact hp
  · rw [List.getElem?_append_right (by omega), l1] at ht
    rw [List.getElem?_append_right (by omega), l2] at hxs
    obtain ⟨i, hi⟩ : ∃ i, j - k = i + 1 := ⟨j - k - 1, by omega⟩
    rw [hi, List.getElem?_cons_succ, List.getElem?_drop] at ht hxs
    exact hR _ t xs ht hxs

end Go.Proofs.YtkmcdocbdhhfhaaGreat
