
/- Walks of IsClosureSystem in the program. -/
import Derived.Test.YtidjocikbmkjbaaGreatList
import Derived.Deep.RegionLaw
import Derived.Deep.RegionHeld3
import Derived.StillTailTactics
namespace Go.Proofs.YtidjocikbmkjbaaGreat
open Go.RowKit

/-- Is the list a set of numbers below n? -/
def setB (n : Int) (s : List Int) : Bool := allIn 0 (n - 1) s && risesL s
/-- Is the meet of s with each of some lists among xss? -/
def meetsIn (xss : List (List Int)) (s : List Int) : List (List Int) → Bool
  | [] => true
  | t :: l => if place xss (meetL t s) < 0 then false else meetsIn xss s l
/-- What the loop over the sets says from the k-th on. -/
def sysRest (n : Int) (xss : List (List Int)) : Nat → List (List Int) → Bool
  | _, [] => decide (0 < xss.length) && ((xss.getLast?.getD []).length : Int) == n
  | k, s :: l => setB n s && (k == 0 || decide (cmpT (xss.getD (k - 1) []) s < 0)) && meetsIn xss s (xss.take k) && sysRest n xss (k + 1) l
def sysB (n : Int) (xss : List (List Int)) : Bool := sysRest n xss 0 xss
def SysAt (n : Int) (xss : List (List Int)) (k : Nat) : Prop := sysRest n xss k (xss.drop k) = sysB n xss
theorem SysAt.step {n : Int} {xss : List (List Int)} {k : Nat} {s : List Int} (h : SysAt n xss k) (hd : xss.drop k = s :: xss.drop (k + 1)) (h1 : setB n s = true) (h2 : (k == 0 || decide (cmpT (xss.getD (k - 1) []) s < 0)) = true) (h3 : true = meetsIn xss s (xss.take k)) : SysAt n xss (k + 1) := by
  unfold SysAt at *; rw [← h, hd, sysRest, h1, h2, ← h3]; rfl
theorem SysAt.stop1 {n : Int} {xss : List (List Int)} {k : Nat} {s : List Int} (h : SysAt n xss k) (hd : xss.drop k = s :: xss.drop (k + 1)) (h1 : setB n s = false) : false = sysB n xss := by
  unfold SysAt at *; rw [← h, hd, sysRest, h1]; rfl
theorem SysAt.stop2 {n : Int} {xss : List (List Int)} {k : Nat} {s : List Int} (h : SysAt n xss k) (hd : xss.drop k = s :: xss.drop (k + 1)) (h2 : (k == 0 || decide (cmpT (xss.getD (k - 1) []) s < 0)) = false) : false = sysB n xss := by
  unfold SysAt at *; rw [← h, hd, sysRest, h2]; simp
theorem SysAt.stop3 {n : Int} {xss : List (List Int)} {k : Nat} {s : List Int} (h : SysAt n xss k) (hd : xss.drop k = s :: xss.drop (k + 1)) (h3 : false = meetsIn xss s (xss.take k)) : false = sysB n xss := by
  unfold SysAt at *; rw [← h, hd, sysRest, ← h3]; simp
theorem SysAt.done {n : Int} {xss : List (List Int)} {k : Nat} {r : Bool} (h : SysAt n xss k) (hd : xss.drop k = []) (hr : sysRest n xss k [] = r) : r = sysB n xss := by
  unfold SysAt at *; rw [← h, hd, hr]
theorem RdL.take {α : Type} {R : World → Value → α → Prop} {w : World} {A : Option Addr} {n : Nat} {xs : List α} (h : RdL R w A n xs) {k : Nat} (hk : k ≤ n) : RdL R w A k (xs.take k) := by
  refine ⟨by rw [List.length_take, h.1]; omega, Nat.le_trans hk h.2.1, fun j x hj => ?_⟩
  rw [List.getElem?_take] at hj
  split at hj
  · exact h.2.2 j x hj
  · cases hj

theorem meetL_mem {ys xs : List Int} {x : Int} (h : x ∈ meetL ys xs) : x ∈ xs := by
  induction xs with
  | nil => simp [meetL] at h
  | cons a l ih =>
    rw [meetL] at h
    split at h
    · rcases List.mem_cons.1 h with rfl | h
      · exact List.mem_cons_self ..
      · exact List.mem_cons_of_mem _ (ih h)
    · exact List.mem_cons_of_mem _ (ih h)
theorem meetL_bounds {w : World} {A : Option Addr} {n : Nat} {xs ys : List Int} (h : RdL RI w A n xs) : ∀ x ∈ meetL ys xs, -9223372036854775808 ≤ x ∧ x ≤ 9223372036854775807 :=
  fun x hx => h.bounds x (meetL_mem hx)

end Go.Proofs.YtidjocikbmkjbaaGreat
namespace Go.Proofs.YtidjocikbmkjbaaGreat
open Go.RowKit

/-- A slice value by its parts. -/
abbrev SlT := Option Addr × Nat × Nat
def slV (t : SlT) : Value := .slice t.1 t.2.1 t.2.2
def RSl (_ : World) (v : Value) (t : SlT) : Prop := v = slV t
theorem stab_RSl : Stab RSl := fun _ _ _ _ _ h => h
theorem choose_list {α : Type} {p : Nat → α → Prop} (n : Nat) (h : ∀ (k : Nat), k < n → ∃ x, p k x) : ∃ l : List α, l.length = n ∧ ∀ (k : Nat) x, l[k]? = some x → p k x := by
  induction n with
  | zero => exact ⟨[], rfl, fun k x hx => by simp at hx⟩
  | succ n ih =>
    obtain ⟨l, hl, hp⟩ := ih fun k hk => h k (by omega)
    obtain ⟨x, hx⟩ := h n (by omega)
    refine ⟨l ++ [x], by simp [hl], fun k y hy => ?_⟩
    rcases Nat.lt_or_ge k n with _ | _
    · rw [List.getElem?_append_left (by omega)] at hy
      exact hp k y hy
    · have hk2 := (List.getElem?_eq_some_iff.1 hy).1
      simp at hk2
      have hkn : k = n := by omega
      subst hkn
      rw [List.getElem?_append_right (by omega), hl, Nat.sub_self] at hy
      simp at hy
      subst hy
      exact hx
/-- The places of the inner slices. -/
theorem RdL.raw {α : Type} {R : World → Value → α → Prop} {w : World} {A : Option Addr} {n : Nat} {xss : List (List α)} (h : RdL (RV R) w A n xss) :
    ∃ ts : List SlT, RdL RSl w A n ts ∧ ∀ (k : Nat) t xs, ts[k]? = some t → xss[k]? = some xs → RdL R w t.1 t.2.1 xs := by
  obtain ⟨ts, hl, hp⟩ := choose_list (p := fun k (t : SlT) => ∃ b o xs, A = some ⟨b, o, none⟩ ∧ w.cell? ⟨b, o + k, none⟩ = some (slV t) ∧ xss[k]? = some xs ∧ RdL R w t.1 t.2.1 xs) n (fun k hk => by
    obtain ⟨b, o, v, xs, e, hc, ⟨B, m, c, rfl, hr⟩, -, hx⟩ := h.at hk
    exact ⟨(B, m, c), b, o, xs, e, hc, hx, hr⟩)
  refine ⟨ts, ⟨hl, h.2.1, fun k t hk => ?_⟩, fun k t xs ht hx => ?_⟩
  · obtain ⟨b, o, xs, e, hc, -, -⟩ := hp k t hk
    exact ⟨b, o, slV t, e, hc, rfl⟩
  · obtain ⟨b, o, ys, -, -, hy, hr⟩ := hp k t ht
    rw [hx] at hy
    injection hy with hy
    rw [hy]
    exact hr
/-- .. and back: a row of the call's own that holds such places. -/
theorem rd_of_raw {α : Type} {R : World → Value → α → Prop} {w : World} {base : Nat} {e : TypeId} {A : Option Addr} {n c : Nat} {ts : List SlT} {xss : List (List α)} (hl : ts.length = xss.length) (h : w.ownsRow base e 1 (.slice A n c) n (ts.map slV))
    (hR : ∀ (k : Nat) t xs, ts[k]? = some t → xss[k]? = some xs → RdL R w t.1 t.2.1 xs) : RdL (RV R) w A n xss := by
  have hn := rd_of_own (R := RSl) h (fun x _ => rfl)
  refine ⟨by rw [← hl, hn.1], hn.2.1, fun k xs hk => ?_⟩
  have hkl : k < ts.length := by rw [hl]; exact (List.getElem?_eq_some_iff.1 hk).1
  obtain ⟨b, o, v, e, hc, hv⟩ := hn.2.2 k ts[k] (List.getElem?_eq_getElem hkl)
  exact ⟨b, o, v, e, hc, ts[k].1, ts[k].2.1, ts[k].2.2, hv, hR k _ xs (List.getElem?_eq_getElem hkl) hk⟩
theorem RdL.drop {α : Type} {R : World → Value → α → Prop} {w : World} {b o n : Nat} {xs : List α} (h : RdL R w (some ⟨b, o, none⟩) n xs) (k : Nat) : RdL R w (some ⟨b, o + k, none⟩) (n - k) (xs.drop k) := by
  refine ⟨by rw [List.length_drop, h.1], Nat.le_trans (Nat.sub_le _ _) h.2.1, fun j x hj => ?_⟩
  rw [List.getElem?_drop] at hj
  obtain ⟨b', o', v, e, hc, hr⟩ := h.2.2 (k + j) x hj
  simp only [Option.some.injEq, Addr.mk.injEq, and_true] at e
  obtain ⟨rfl, rfl⟩ := e
  exact ⟨b, o + k, v, rfl, by rw [Nat.add_assoc]; exact hc, hr⟩

theorem rd_cell {w : World} {g : Nat} {t : SlT} (h : w.cell? ⟨g, 0, none⟩ = some (slV t)) : RdL RSl w (some ⟨g, 0, none⟩) 1 [t] := by
  refine ⟨rfl, by unfold maxLen; omega, fun k x hk => ?_⟩
  have hk1 := (List.getElem?_eq_some_iff.1 hk).1
  simp at hk1
  subst hk1
  simp at hk
  subst hk
  exact ⟨g, 0, slV t, rfl, h, rfl⟩
theorem lit0 {B : Nat} {e : TypeId} (w : World) (hB : w.heap.size = B) : (w.alloc (.cells #[] e)).ownsRow B e 1 (.slice (some ⟨B, 0, none⟩) 0 0) 0 [] := by
  subst hB
  exact World.ownsRow_lit _ _ _ (Nat.le_refl _) (Nat.zero_le _) rfl
theorem lit1 {B : Nat} {e : TypeId} (w : World) (hB : w.heap.size = B + 1) : (w.alloc (.cells #[] e)).ownsRow B e 1 (.slice (some ⟨B + 1, 0, none⟩) 0 0) 0 [] := by
  rw [← hB]
  exact World.ownsRow_lit _ _ _ (by omega) (Nat.zero_le _) rfl

theorem cell_new {B : Nat} {e : TypeId} {u : Value} (w : World) (hB : w.heap.size = B) : (w.alloc (.cells #[u] e)).cell? ⟨B, 0, none⟩ = some u := by
  subst hB
  exact (Blk.new w e #[u]).cell 0
theorem cell_new2 {B : Nat} {e : TypeId} {u : Value} (w : World) (o : Obj) (hB : w.heap.size = B) : ((w.alloc (.cells #[u] e)).alloc o).cell? ⟨B, 0, none⟩ = some u := by
  subst hB
  exact ((Blk.new w e #[u]).alloc o).cell 0

/-- Does p go ahead of q? Shorter lists first, then by the numbers. -/
def lessT (p q : List Int) : Bool := decide (p.length < q.length) || (decide (p.length = q.length) && lessL p q)
def insPos (p : List Int) (xss : List (List Int)) : Nat → Nat
  | 0 => 0
  | k + 1 => if lessT p (xss.getD k []) then insPos p xss k else k + 1
theorem insPos_le (p : List Int) (xss : List (List Int)) : ∀ n, insPos p xss n ≤ n
  | 0 => Nat.le_refl _
  | k + 1 => by have := insPos_le p xss k; rw [insPos]; split <;> omega
def insT (p : List Int) (xss : List (List Int)) : List (List Int) := xss.take (insPos p xss xss.length) ++ p :: xss.drop (insPos p xss xss.length)

theorem own_form {w : World} {base : Nat} {e : TypeId} {size : Nat} {A : Option Addr} {n c : Nat} {xs : List Value} (h : w.ownsRow base e size (.slice A n c) n xs) (hn : 0 < n) : ∃ g, A = some ⟨g, 0, none⟩ ∧ base ≤ g ∧ n ≤ c := by
  rcases h.2 with ⟨h0, h1⟩ | ⟨g, cap, cur, hv, hb, _, hnc, _⟩
  · omega
  · injection hv with hA _ hc
    exact ⟨g, hA, hb, by omega⟩
theorem sort_cap {w : World} {base : Nat} {e : TypeId} {size : Nat} {A : Option Addr} {n c : Nat} {xs : List Value} (h : w.ownsRow base e size (.slice A n c) n xs) : n ≤ c := by
  rcases h.2 with ⟨h0, h1⟩ | ⟨g, cap, cur, hv, _, _, hnc, _⟩
  · omega
  · injection hv with _ _ hc
    omega
theorem sort_res {w : World} {base : Nat} {e : TypeId} {A B : Option Addr} {n c m d k : Nat} {ts : List SlT} {xss : List (List Int)} {p : List Int} (h : w.ownsRow base e 1 (.slice A (n + 1) c) (n + 1) ((ts.take k ++ (B, m, d) :: ts.drop k).map slV))
    (hts : ts.length = n) (hx : xss.length = n) (hk : insPos p xss n = k) (hkn : k ≤ n) (hR : ∀ (j : Nat) t xs, ts[j]? = some t → xss[j]? = some xs → RdL RI w t.1 t.2.1 xs) (hp : RdL RI w B m p) : RdL (RV RI) w A (n + 1) (insT p xss) := by
  have hI : insT p xss = xss.take k ++ p :: xss.drop k := by unfold insT; rw [hx, hk]
  rw [hI]
  refine rd_of_raw (by simp [hts, hx]) h fun j t xs ht hxs => ?_
  have l1 : (ts.take k).length = k := by rw [List.length_take, hts]; omega
  have l2 : (xss.take k).length = k := by rw [List.length_take, hx]; omega
  rcases Nat.lt_trichotomy j k with hj | hj | hj
  · rw [List.getElem?_append_left (by omega), List.getElem?_take, if_pos hj] at ht hxs
    exact hR j t xs ht hxs
  · subst hj
    rw [List.getElem?_append_right (by omega), l1, Nat.sub_self] at ht
    rw [List.getElem?_append_right (by omega), l2, Nat.sub_self] at hxs
    simp at ht hxs
    subst ht
    subst hxs
    exact hp
  · rw [List.getElem?_append_right (by omega), l1] at ht
    rw [List.getElem?_append_right (by omega), l2] at hxs
    obtain ⟨i, hi⟩ : ∃ i, j - k = i + 1 := ⟨j - k - 1, by omega⟩
    rw [hi, List.getElem?_cons_succ, List.getElem?_drop] at ht hxs
    exact hR _ t xs ht hxs

end Go.Proofs.YtidjocikbmkjbaaGreat
namespace Go.Proofs.YtidjocikbmkjbaaGreat
open Go.RowKit

def putL (p : List Int) (xss : List (List Int)) : List (List Int) := if 0 ≤ place xss p then xss else insT p xss
/-- One set more: its meets with all sets so far. -/
def addTo (s : List Int) : List (List Int) → List (List Int) → List (List Int)
  | [], out => out
  | t :: l, out => addTo s l (putL (meetL s t) out)
def systemTo : List (List Int) → List (List Int) → List (List Int)
  | [], out => out
  | s :: l, out => systemTo l (addTo s out out)
def systemL (n : Nat) (xss : List (List Int)) : List (List Int) := systemTo xss [upTo n]
end Go.Proofs.YtidjocikbmkjbaaGreat
namespace Go.Proofs.YtidjocikbmkjbaaGreat
open Go.RowKit

/-! ## Lists in a strict order are known by their members -/
theorem ordered_ext {α : Type} {r : α → α → Prop} (hirr : ∀ x, ¬ r x x) (htr : ∀ x y z, r x y → r y z → r x z) : ∀ {l m : List α}, l.Pairwise r → m.Pairwise r → (∀ x, x ∈ l ↔ x ∈ m) → l = m
  | [], [], _, _, _ => rfl
  | [], y :: m, _, _, h => absurd ((h y).2 (List.mem_cons_self ..)) (by simp)
  | x :: l, [], _, _, h => absurd ((h x).1 (List.mem_cons_self ..)) (by simp)
  | x :: l, y :: m, hl, hm, h => by
    have hl' := List.pairwise_cons.1 hl
    have hm' := List.pairwise_cons.1 hm
    have hxy : x = y := by
      rcases List.mem_cons.1 ((h x).1 (List.mem_cons_self ..)) with e | e
      · exact e
      · rcases List.mem_cons.1 ((h y).2 (List.mem_cons_self ..)) with e' | e'
        · exact e'.symm
        · exact absurd (htr _ _ _ (hm'.1 x e) (hl'.1 y e')) (hirr y)
    subst hxy
    rw [ordered_ext hirr htr hl'.2 hm'.2 fun z => by
      constructor
      · intro hz
        rcases List.mem_cons.1 ((h z).1 (List.mem_cons_of_mem _ hz)) with e | e
        · subst e; exact absurd (hl'.1 z hz) (hirr z)
        · exact e
      · intro hz
        rcases List.mem_cons.1 ((h z).2 (List.mem_cons_of_mem _ hz)) with e | e
        · subst e; exact absurd (hm'.1 z hz) (hirr z)
        · exact e]
/-! ## Numbers, members -/
theorem hasI_iff {x : Int} : ∀ {l : List Int}, hasI x l = true ↔ x ∈ l
  | [] => by simp [hasI]
  | y :: l => by
    rw [hasI, Bool.or_eq_true, hasI_iff (l := l), beq_iff_eq, List.mem_cons]
    constructor
    · rintro (h | h)
      · exact .inl h.symm
      · exact .inr h
    · rintro (h | h)
      · exact .inl h.symm
      · exact .inr h
theorem mem_meetL {ys : List Int} {x : Int} : ∀ {xs : List Int}, x ∈ meetL ys xs ↔ x ∈ xs ∧ x ∈ ys
  | [] => by simp [meetL]
  | y :: l => by
    rw [meetL]
    split
    · rename_i h
      rw [hasI_iff] at h
      simp only [List.mem_cons, mem_meetL (xs := l)]
      constructor
      · rintro (rfl | h')
        · exact ⟨.inl rfl, h⟩
        · exact ⟨.inr h'.1, h'.2⟩
      · rintro ⟨rfl | h', h2⟩
        · exact .inl rfl
        · exact .inr ⟨h', h2⟩
    · rename_i h
      rw [hasI_iff] at h
      simp only [List.mem_cons, mem_meetL (xs := l)]
      constructor
      · rintro ⟨h1, h2⟩; exact ⟨.inr h1, h2⟩
      · rintro ⟨rfl | h', h2⟩
        · exact absurd h2 h
        · exact ⟨h', h2⟩
theorem meetL_sub (ys : List Int) : ∀ xs, (meetL ys xs).Sublist xs
  | [] => List.Sublist.refl _
  | x :: l => by
    rw [meetL]
    split
    · exact (meetL_sub ys l).cons_cons x
    · exact (meetL_sub ys l).cons x
theorem rises_iff : ∀ {l : List Int}, risesL l = true ↔ l.Pairwise (· < ·)
  | [] => by simp [risesL]
  | [x] => by simp [risesL]
  | x :: y :: l => by
    rw [risesL, Bool.and_eq_true, rises_iff (l := y :: l), decide_eq_true_eq]
    constructor
    · rintro ⟨h1, h2⟩
      refine List.pairwise_cons.2 ⟨fun z hz => ?_, h2⟩
      rcases List.mem_cons.1 hz with rfl | hz
      · exact h1
      · have := (List.pairwise_cons.1 h2).1 z hz; omega
    · intro h
      obtain ⟨h1, h2⟩ := List.pairwise_cons.1 h
      exact ⟨h1 y (List.mem_cons_self ..), h2⟩
theorem allIn_iff {a b : Int} : ∀ {l : List Int}, allIn a b l = true ↔ ∀ x ∈ l, a ≤ x ∧ x ≤ b
  | [] => by simp [allIn]
  | y :: l => by simp [allIn, allIn_iff (l := l), inB]
/-- A set of numbers from 0 on, below n. -/
def IsSet (n : Nat) (p : List Int) : Prop := p.Pairwise (· < ·) ∧ ∀ x ∈ p, 0 ≤ x ∧ x < (n : Int)
theorem setB_iff {n : Nat} {p : List Int} : setB n p = true ↔ IsSet n p := by
  unfold setB IsSet
  rw [Bool.and_eq_true, rises_iff, allIn_iff]
  constructor
  · rintro ⟨h1, h2⟩
    exact ⟨h2, fun x hx => by have := h1 x hx; omega⟩
  · rintro ⟨h1, h2⟩
    exact ⟨fun x hx => by have := h2 x hx; omega, h1⟩
theorem set_ext {n m : Nat} {p q : List Int} (hp : IsSet n p) (hq : IsSet m q) (h : ∀ x, x ∈ p ↔ x ∈ q) : p = q :=
  ordered_ext (r := fun (a b : Int) => a < b) (fun x => by omega) (fun x y z => by omega) hp.1 hq.1 h
theorem IsSet.meet {n : Nat} {p : List Int} (h : IsSet n p) (q : List Int) : IsSet n (meetL q p) :=
  ⟨h.1.sublist (meetL_sub q p), fun x hx => h.2 x (mem_meetL.1 hx).1⟩
theorem mem_upTo {n : Nat} {x : Int} : x ∈ upTo n ↔ 0 ≤ x ∧ x < (n : Int) := by
  unfold upTo
  rw [List.mem_map]
  constructor
  · rintro ⟨k, hk, rfl⟩
    have := List.mem_range.1 hk
    omega
  · rintro ⟨h1, h2⟩
    exact ⟨x.toNat, List.mem_range.2 (by omega), by omega⟩
theorem upTo_set (n : Nat) : IsSet n (upTo n) := by
  refine ⟨?_, fun x hx => mem_upTo.1 hx⟩
  unfold upTo
  rw [List.pairwise_map]
  exact (List.pairwise_lt_range (n := n)).imp fun h => by omega
theorem meet_upTo {n : Nat} {p : List Int} (hp : IsSet n p) : meetL p (upTo n) = p :=
  set_ext ((upTo_set n).meet p) hp fun x => by
    rw [mem_meetL, mem_upTo]
    exact ⟨fun h => h.2, fun h => ⟨hp.2 x h, h⟩⟩
/-! ## The order of the sets -/
theorem lessL_irr : ∀ l : List Int, lessL l l = false
  | [] => rfl
  | x :: l => by simp [lessL, lessL_irr l]
theorem lessL_trans : ∀ {p q r : List Int}, p.length = q.length → q.length = r.length → lessL p q = true → lessL q r = true → lessL p r = true
  | [], _, _, _, _, h, _ => by simp [lessL] at h
  | x :: p, [], _, h, _, _, _ => by simp at h
  | x :: p, y :: q, [], _, h, _, _ => by simp at h
  | x :: p, y :: q, z :: r, h1, h2, h3, h4 => by
    simp only [List.length_cons, Nat.add_right_cancel_iff] at h1 h2
    simp only [lessL] at h3 h4 ⊢
    by_cases e1 : x = y
    · subst e1
      simp only [beq_self_eq_true, if_true] at h3
      by_cases e2 : x = z
      · subst e2
        simp only [beq_self_eq_true, if_true] at h4 ⊢
        exact lessL_trans h1 h2 h3 h4
      · have e2' : (x == z) = false := beq_eq_false_iff_ne.2 e2
        rw [e2'] at h4 ⊢
        exact h4
    · have e1' : (x == y) = false := beq_eq_false_iff_ne.2 e1
      rw [e1'] at h3
      simp at h3
      by_cases e2 : y = z
      · subst e2
        rw [e1']
        simp [h3]
      · have e2' : (y == z) = false := beq_eq_false_iff_ne.2 e2
        rw [e2'] at h4
        simp at h4
        have e3 : (x == z) = false := beq_eq_false_iff_ne.2 (by omega)
        rw [e3]
        simp; omega
theorem lessL_total : ∀ {p q : List Int}, p.length = q.length → p = q ∨ lessL p q = true ∨ lessL q p = true
  | [], [], _ => .inl rfl
  | [], _ :: _, h => by simp at h
  | _ :: _, [], h => by simp at h
  | x :: p, y :: q, h => by
    simp only [List.length_cons, Nat.add_right_cancel_iff] at h
    simp only [lessL]
    rcases Int.lt_trichotomy x y with h1 | h1 | h1
    · right; left
      rw [beq_eq_false_iff_ne.2 (by omega : x ≠ y)]
      simp [h1]
    · subst h1
      simp only [beq_self_eq_true, if_true]
      rcases lessL_total h with rfl | h2 | h2
      · exact .inl rfl
      · exact .inr (.inl h2)
      · exact .inr (.inr h2)
    · right; right
      rw [beq_eq_false_iff_ne.2 (by omega : y ≠ x)]
      simp [h1]
theorem lessT_iff {p q : List Int} : lessT p q = true ↔ p.length < q.length ∨ (p.length = q.length ∧ lessL p q = true) := by
  unfold lessT
  rw [Bool.or_eq_true, Bool.and_eq_true, decide_eq_true_eq, decide_eq_true_eq]
theorem lessT_irr (p : List Int) : ¬ lessT p p = true := by
  rw [lessT_iff, lessL_irr]
  simp
theorem lessT_trans (p q r : List Int) (h1 : lessT p q = true) (h2 : lessT q r = true) : lessT p r = true := by
  rw [lessT_iff] at *
  rcases h1 with h1 | ⟨h1, h1'⟩ <;> rcases h2 with h2 | ⟨h2, h2'⟩
  · left; omega
  · left; omega
  · left; omega
  · exact .inr ⟨by omega, lessL_trans h1 h2 h1' h2'⟩
theorem lessT_total (p q : List Int) : p = q ∨ lessT p q = true ∨ lessT q p = true := by
  rw [lessT_iff, lessT_iff]
  rcases Nat.lt_trichotomy p.length q.length with h | h | h
  · exact .inr (.inl (.inl h))
  · rcases lessL_total h with h' | h' | h'
    · exact .inl h'
    · exact .inr (.inl (.inr ⟨h, h'⟩))
    · exact .inr (.inr (.inr ⟨h.symm, h'⟩))
  · exact .inr (.inr (.inl h))
theorem lexL_lessL : ∀ {p q : List Int}, p.length = q.length → (lexL p q < 0 ↔ lessL p q = true)
  | [], [], _ => by simp [lexL, lessL]
  | [], _ :: _, h => by simp at h
  | _ :: _, [], h => by simp at h
  | x :: p, y :: q, h => by
    simp only [List.length_cons, Nat.add_right_cancel_iff] at h
    simp only [lexL, lessL]
    by_cases e : x = y
    · subst e
      simp only [beq_self_eq_true, if_true]
      exact lexL_lessL h
    · rw [beq_eq_false_iff_ne.2 e]
      by_cases h2 : x < y
      · simp [h2]
      · simp [h2]
theorem cmpT_lt {p q : List Int} : cmpT p q < 0 ↔ lessT p q = true := by
  rw [lessT_iff]
  unfold cmpT
  by_cases h1 : p.length < q.length
  · simp [h1]
  · by_cases h2 : q.length < p.length
    · rw [if_neg h1, if_pos h2]
      constructor
      · intro h; omega
      · rintro (h | ⟨h, _⟩) <;> omega
    · rw [if_neg h1, if_neg h2]
      have h3 : p.length = q.length := by omega
      rw [lexL_lessL h3]
      constructor
      · intro h; exact .inr ⟨h3, h⟩
      · rintro (h | ⟨_, h⟩)
        · exact absurd h h1
        · exact h

/-! ## Places, insertions -/
theorem placeFrom_ge (p : List Int) : ∀ (l : List (List Int)) (k : Int), 0 ≤ k → (0 ≤ placeFrom p l k ↔ p ∈ l)
  | [], k, _ => by simp [placeFrom]
  | q :: l, k, hk => by
    rw [placeFrom]
    split
    · rename_i h
      rw [eqL_iff] at h
      simp [h, hk]
    · rename_i h
      rw [placeFrom_ge p l (k + 1) (by omega), List.mem_cons]
      constructor
      · exact .inr
      · rintro (e | e)
        · exact absurd (eqL_iff.2 e) h
        · exact e
theorem place_iff {p : List Int} {xss : List (List Int)} : 0 ≤ place xss p ↔ p ∈ xss := placeFrom_ge p xss 0 (Int.le_refl _)
def Srt (xss : List (List Int)) : Prop := xss.Pairwise fun p q => lessT p q = true
theorem Srt.ext {xss yss : List (List Int)} (h1 : Srt xss) (h2 : Srt yss) (h : ∀ p, p ∈ xss ↔ p ∈ yss) : xss = yss :=
  ordered_ext (r := fun p q => lessT p q = true) lessT_irr lessT_trans h1 h2 h
theorem mem_insT {p q : List Int} {xss : List (List Int)} : q ∈ insT p xss ↔ q = p ∨ q ∈ xss := by
  unfold insT
  rw [List.mem_append, List.mem_cons]
  have := List.take_append_drop (insPos p xss xss.length) xss
  constructor
  · rintro (h | h | h)
    · exact .inr (List.mem_of_mem_take h)
    · exact .inl h
    · exact .inr (List.mem_of_mem_drop h)
  · rintro (h | h)
    · exact .inr (.inl h)
    · rw [← this] at h
      rcases List.mem_append.1 h with h | h
      · exact .inl h
      · exact .inr (.inr h)
theorem mem_putL {p q : List Int} {xss : List (List Int)} : q ∈ putL p xss ↔ q = p ∨ q ∈ xss := by
  unfold putL
  split
  · rename_i h
    rw [place_iff] at h
    constructor
    · exact .inr
    · rintro (rfl | h')
      · exact h
      · exact h'
  · exact mem_insT
/-- What stands at and behind the place of insertion goes behind, what stands ahead of it ahead. -/
theorem insPos_spec (p : List Int) {xss : List (List Int)} (hs : Srt xss) (hp : p ∉ xss) : ∀ n, n ≤ xss.length →
    (∀ j, insPos p xss n ≤ j → (hj : j < n) → ∀ (h : j < xss.length), lessT p xss[j] = true) ∧ (∀ j, j < insPos p xss n → ∀ (h : j < xss.length), lessT xss[j] p = true)
  | 0, _ => ⟨fun j _ hj => absurd hj (by omega), fun j hj => absurd hj (by simp [insPos])⟩
  | n + 1, hn => by
    have hl : n < xss.length := by omega
    have ih := insPos_spec p hs hp n (by omega)
    have hg : xss.getD n [] = xss[n] := by simp [List.getD_eq_getElem?_getD, List.getElem?_eq_getElem hl]
    rw [insPos, hg]
    by_cases h : lessT p xss[n] = true
    · rw [if_pos h]
      refine ⟨fun j h1 h2 h3 => ?_, ih.2⟩
      by_cases hjn : j = n
      · subst hjn; exact h
      · exact ih.1 j h1 (by omega) h3
    · rw [if_neg h]
      refine ⟨fun j h1 h2 => absurd h2 (by omega), fun j hj h3 => ?_⟩
      have hn' : lessT xss[n] p = true := by
        rcases lessT_total p xss[n] with e | e | e
        · exact absurd (e ▸ List.getElem_mem hl) hp
        · exact absurd e h
        · exact e
      by_cases hjn : j = n
      · subst hjn; exact hn'
      · have := List.pairwise_iff_getElem.1 hs j n h3 hl (by omega)
        exact lessT_trans _ _ _ this hn'
theorem Srt.insT {p : List Int} {xss : List (List Int)} (hs : Srt xss) (hp : p ∉ xss) : Srt (insT p xss) := by
  obtain ⟨h1, h2⟩ := insPos_spec p hs hp xss.length (Nat.le_refl _)
  have hle := insPos_le p xss xss.length
  unfold Go.Proofs.YtidjocikbmkjbaaGreat.insT
  unfold Srt at *
  rw [List.pairwise_append, List.pairwise_cons]
  have hsplit := List.take_append_drop (insPos p xss xss.length) xss
  have hs' := hs
  rw [← hsplit, List.pairwise_append] at hs'
  refine ⟨hs'.1, ⟨fun q hq => ?_, hs'.2.1⟩, fun a ha b hb => ?_⟩
  · obtain ⟨j, hj⟩ := List.getElem?_of_mem hq
    rw [List.getElem?_drop] at hj
    obtain ⟨hl, he⟩ := List.getElem?_eq_some_iff.1 hj
    rw [← he]
    exact h1 _ (by omega) hl hl
  · have hap : lessT a p = true := by
      obtain ⟨j, hj⟩ := List.getElem?_of_mem ha
      rw [List.getElem?_take] at hj
      split at hj
      · rename_i hjk
        obtain ⟨hl, he⟩ := List.getElem?_eq_some_iff.1 hj
        rw [← he]
        exact h2 _ hjk hl
      · cases hj
    rcases List.mem_cons.1 hb with rfl | hb
    · exact hap
    · exact hs'.2.2 a ha b hb
theorem Srt.putL {p : List Int} {xss : List (List Int)} (hs : Srt xss) : Srt (putL p xss) := by
  unfold Go.Proofs.YtidjocikbmkjbaaGreat.putL
  split
  · exact hs
  · rename_i h
    exact hs.insT (fun hp => h (place_iff.2 hp))
theorem Srt.nodup {xss : List (List Int)} (hs : Srt xss) : xss.Nodup :=
  List.Pairwise.imp (fun {a b} (h : lessT a b = true) (e : a = b) => lessT_irr b (by rw [e] at h; exact h)) hs

/-! ## How many sets there are -/
def subs : List Int → List (List Int)
  | [] => [[]]
  | x :: l => subs l ++ (subs l).map (x :: ·)
theorem subs_len : ∀ l : List Int, (subs l).length = 2 ^ l.length
  | [] => rfl
  | x :: l => by simp only [subs, List.length_append, List.length_map, subs_len l, List.length_cons, Nat.pow_succ]; omega
theorem mem_subs : ∀ {l p : List Int}, p.Sublist l → p ∈ subs l
  | [], p, h => by simp [subs, List.sublist_nil.1 h]
  | x :: l, p, h => by
    rw [subs, List.mem_append, List.mem_map]
    cases h with
    | cons _ h => exact .inl (mem_subs h)
    | cons_cons _ h => exact .inr ⟨_, mem_subs h, rfl⟩
theorem nodup_len {α : Type} [DecidableEq α] : ∀ {l m : List α}, l.Nodup → (∀ x ∈ l, x ∈ m) → l.length ≤ m.length
  | [], _, _, _ => Nat.zero_le _
  | x :: l, m, h, hs => by
    have hx := hs x (List.mem_cons_self ..)
    have h' := List.nodup_cons.1 h
    have := nodup_len (l := l) (m := m.erase x) h'.2 fun y hy => (List.mem_erase_of_ne (by rintro rfl; exact h'.1 hy)).2 (hs y (List.mem_cons_of_mem _ hy))
    rw [List.length_erase_of_mem hx] at this
    have hpos : 0 < m.length := List.length_pos_of_mem hx
    simp
    omega
theorem set_sub {n : Nat} {p : List Int} (hp : IsSet n p) : p.Sublist (upTo n) := by
  have := meetL_sub p (upTo n)
  rwa [meet_upTo hp] at this
/-- Sorted sets below n are at most 2^n. -/
theorem sets_len {n : Nat} {xss : List (List Int)} (hs : Srt xss) (h : ∀ p ∈ xss, IsSet n p) : xss.length ≤ 2 ^ n := by
  have := nodup_len hs.nodup (m := subs (upTo n)) fun p hp => mem_subs (set_sub (h p hp))
  rw [subs_len, upTo_len] at this
  exact this

/-! ## Closure systems -/
def Inv (n : Nat) (out : List (List Int)) : Prop := Srt out ∧ ∀ p ∈ out, IsSet n p
/-- Closed under meets. -/
def Cl (out : List (List Int)) : Prop := ∀ p ∈ out, ∀ q ∈ out, meetL q p ∈ out
theorem mem_addTo {s q : List Int} : ∀ {l out : List (List Int)}, q ∈ addTo s l out ↔ q ∈ out ∨ ∃ t ∈ l, q = meetL s t
  | [], out => by simp [addTo]
  | t :: l, out => by
    rw [addTo, mem_addTo, mem_putL]
    constructor
    · rintro ((h | h) | ⟨u, hu, h⟩)
      · exact .inr ⟨t, List.mem_cons_self .., h⟩
      · exact .inl h
      · exact .inr ⟨u, List.mem_cons_of_mem _ hu, h⟩
    · rintro (h | ⟨u, hu, h⟩)
      · exact .inl (.inr h)
      · rcases List.mem_cons.1 hu with rfl | hu
        · exact .inl (.inl h)
        · exact .inr ⟨u, hu, h⟩
theorem Inv.addTo {n : Nat} {s : List Int} : ∀ {l out : List (List Int)}, Inv n out → (∀ t ∈ l, IsSet n t) → Inv n (addTo s l out)
  | [], _, h, _ => h
  | t :: l, out, h, hl => by
    rw [Go.Proofs.YtidjocikbmkjbaaGreat.addTo]
    refine Inv.addTo ⟨h.1.putL, fun p hp => ?_⟩ fun u hu => hl u (List.mem_cons_of_mem _ hu)
    rcases mem_putL.1 hp with rfl | hp
    · exact (hl t (List.mem_cons_self ..)).meet s
    · exact h.2 p hp
theorem Inv.systemTo {n : Nat} : ∀ {l out : List (List Int)}, Inv n out → Inv n (systemTo l out)
  | [], _, h => h
  | s :: l, out, h => by rw [Go.Proofs.YtidjocikbmkjbaaGreat.systemTo]; exact Inv.systemTo (h.addTo h.2)
theorem meet_meet {n : Nat} {a b c d : List Int} (hb : IsSet n b) (hd : IsSet n d) (h : ∀ x, (x ∈ b ∧ x ∈ a) ↔ (x ∈ d ∧ x ∈ c)) : meetL a b = meetL c d :=
  set_ext (hb.meet a) (hd.meet c) fun x => by rw [mem_meetL, mem_meetL]; exact h x
theorem Cl.addTo {n : Nat} {s : List Int} {out : List (List Int)} (hi : Inv n out) (h : Cl out) : Cl (addTo s out out) := by
  intro p hp q hq
  rw [mem_addTo] at *
  rcases hp with hp | ⟨t, ht, rfl⟩ <;> rcases hq with hq | ⟨u, hu, rfl⟩
  · exact .inl (h p hp q hq)
  · refine .inr ⟨_, h p hp u hu, meet_meet (hi.2 p hp) ((hi.2 p hp).meet u) fun x => ?_⟩
    rw [mem_meetL, mem_meetL]
    constructor <;> (rintro ⟨h1, h2⟩; simp_all)
  · refine .inr ⟨_, h t ht q hq, meet_meet ((hi.2 t ht).meet s) ((hi.2 t ht).meet q) fun x => ?_⟩
    rw [mem_meetL, mem_meetL]
    constructor <;> (rintro ⟨h1, h2⟩; simp_all)
  · refine .inr ⟨_, h t ht u hu, meet_meet ((hi.2 t ht).meet s) ((hi.2 t ht).meet u) fun x => ?_⟩
    rw [mem_meetL, mem_meetL, mem_meetL]
    constructor <;> (rintro ⟨h1, h2⟩; simp_all)
theorem Cl.systemTo {n : Nat} : ∀ {l out : List (List Int)}, Inv n out → Cl out → Cl (systemTo l out)
  | [], _, _, h => h
  | s :: l, out, hi, h => by rw [Go.Proofs.YtidjocikbmkjbaaGreat.systemTo]; exact Cl.systemTo (hi.addTo hi.2) (h.addTo hi)
theorem systemTo_keeps : ∀ {l out : List (List Int)} {p : List Int}, p ∈ out → p ∈ systemTo l out
  | [], _, _, h => h
  | s :: l, out, p, h => by rw [systemTo]; exact systemTo_keeps (mem_addTo.2 (.inl h))
theorem systemTo_has {n : Nat} : ∀ {l out : List (List Int)} {p : List Int}, upTo n ∈ out → IsSet n p → p ∈ l → p ∈ systemTo l out
  | [], _, _, _, _, h => by simp at h
  | s :: l, out, p, hu, hp, h => by
    rw [systemTo]
    rcases List.mem_cons.1 h with rfl | h
    · exact systemTo_keeps (mem_addTo.2 (.inr ⟨_, hu, (meet_upTo hp).symm⟩))
    · exact systemTo_has (mem_addTo.2 (.inl hu)) hp h
/-- .. and no more than any closed family that has all of it. -/
theorem systemTo_min {Y : List (List Int)} (hc : Cl Y) : ∀ {l out : List (List Int)}, (∀ p ∈ l, p ∈ Y) → (∀ p ∈ out, p ∈ Y) → ∀ p ∈ systemTo l out, p ∈ Y
  | [], _, _, h => h
  | s :: l, out, hl, h => by
    rw [systemTo]
    refine systemTo_min hc (fun p hp => hl p (List.mem_cons_of_mem _ hp)) fun p hp => ?_
    rcases mem_addTo.1 hp with hp | ⟨t, ht, rfl⟩
    · exact h p hp
    · exact hc t (h t ht) s (hl s (List.mem_cons_self ..))
theorem inv_start (n : Nat) : Inv n [upTo n] := ⟨by simp [Srt], fun p hp => by rw [List.mem_singleton.1 hp]; exact upTo_set n⟩
theorem cl_start (n : Nat) : Cl [upTo n] := by
  intro p hp q hq
  rw [List.mem_singleton.1 hp, List.mem_singleton.1 hq, meet_upTo (upTo_set n)]
  exact List.mem_singleton.2 rfl
theorem systemL_inv (n : Nat) (xss : List (List Int)) : Inv n (systemL n xss) := (inv_start n).systemTo
theorem systemL_cl (n : Nat) (xss : List (List Int)) : Cl (systemL n xss) := (cl_start n).systemTo (inv_start n)
theorem systemL_top (n : Nat) (xss : List (List Int)) : upTo n ∈ systemL n xss := systemTo_keeps (List.mem_singleton.2 rfl)

/-- A closure system: sorted sets below n, closed under meets, the whole set among them. -/
def IsSys (n : Nat) (xss : List (List Int)) : Prop := Inv n xss ∧ Cl xss ∧ upTo n ∈ xss
theorem isSys_iff {n : Nat} {xss : List (List Int)} (h : ∀ p ∈ xss, IsSet n p) : systemL n xss = xss ↔ IsSys n xss := by
  constructor
  · intro e
    have h1 := systemL_inv n xss
    have h2 := systemL_cl n xss
    have h3 := systemL_top n xss
    rw [e] at h1 h2 h3
    exact ⟨h1, h2, h3⟩
  · rintro ⟨h1, h2, h3⟩
    refine (systemL_inv n xss).1.ext h1.1 fun p => ⟨fun hp => ?_, fun hp => ?_⟩
    · exact systemTo_min h2 (fun q hq => hq) (fun q hq => by rw [List.mem_singleton.1 hq]; exact h3) p hp
    · exact systemTo_has (List.mem_singleton.2 rfl) (h p hp) hp

/-! ## What the program tests is just that -/
theorem meetsIn_iff {xss : List (List Int)} {s : List Int} : ∀ {l : List (List Int)}, meetsIn xss s l = true ↔ ∀ t ∈ l, meetL t s ∈ xss
  | [] => by simp [meetsIn]
  | t :: l => by
    rw [meetsIn]
    split
    · rename_i h
      simp only [Bool.false_eq_true, false_iff]
      intro hh
      have := place_iff.2 (hh t (List.mem_cons_self ..))
      omega
    · rename_i h
      rw [meetsIn_iff]
      constructor
      · intro hh u hu
        rcases List.mem_cons.1 hu with rfl | hu
        · exact place_iff.1 (by omega)
        · exact hh u hu
      · intro hh u hu
        exact hh u (List.mem_cons_of_mem _ hu)
theorem sysRest_iff {n : Int} {xss : List (List Int)} : ∀ (l : List (List Int)) (k : Nat), xss.drop k = l → (sysRest n xss k l = true ↔
    (∀ j, k ≤ j → ∀ (h : j < xss.length), setB n xss[j] = true ∧ (0 < j → cmpT (xss.getD (j - 1) []) xss[j] < 0) ∧ ∀ t ∈ xss.take j, meetL t xss[j] ∈ xss) ∧ (0 < xss.length ∧ ((xss.getLast?.getD []).length : Int) = n))
  | [], k, hd => by
    have hk : xss.length ≤ k := by have := congrArg List.length hd; simp at this; omega
    rw [sysRest, Bool.and_eq_true, decide_eq_true_eq, beq_iff_eq]
    constructor
    · intro h; exact ⟨fun j hj hl => absurd hl (by omega), h⟩
    · intro h; exact h.2
  | s :: l, k, hd => by
    have hk : k < xss.length := by have := congrArg List.length hd; simp at this; omega
    have hd' : xss.drop (k + 1) = l := by
      have := List.drop_eq_getElem_cons hk
      rw [hd] at this
      injection this with _ h2
      exact h2.symm
    have hs : xss[k] = s := by
      have := List.drop_eq_getElem_cons hk
      rw [hd] at this
      injection this with h1 _
      exact h1.symm
    rw [sysRest, Bool.and_eq_true, Bool.and_eq_true, Bool.and_eq_true, sysRest_iff l (k + 1) hd', meetsIn_iff, Bool.or_eq_true, beq_iff_eq, decide_eq_true_eq]
    constructor
    · rintro ⟨⟨⟨h1, h2⟩, h3⟩, h4, h5⟩
      refine ⟨fun j hj hl => ?_, h5⟩
      by_cases e : j = k
      · subst e
        rw [hs]
        exact ⟨h1, fun h0 => by rcases h2 with h2 | h2; · omega
                                · exact h2, h3⟩
      · exact h4 j (by omega) hl
    · rintro ⟨h4, h5⟩
      have := h4 k (Nat.le_refl _) hk
      rw [hs] at this
      refine ⟨⟨⟨this.1, ?_⟩, this.2.2⟩, fun j hj hl => h4 j (by omega) hl, h5⟩
      by_cases h0 : k = 0
      · exact .inl h0
      · exact .inr (this.2.1 (by omega))
theorem srt_of_next {xss : List (List Int)} (h : ∀ j, ∀ (hj : j + 1 < xss.length), lessT xss[j] xss[j + 1] = true) : Srt xss := by
  unfold Srt
  rw [List.pairwise_iff_getElem]
  intro i j hi hj hij
  obtain ⟨d, rfl⟩ : ∃ d, j = i + 1 + d := ⟨j - i - 1, by omega⟩
  induction d with
  | zero => exact h i hj
  | succ d ih => exact lessT_trans _ _ _ (ih (by omega) (by omega)) (h (i + 1 + d) hj)
theorem sys_last {n : Nat} {xss : List (List Int)} (h : Inv n xss) : (0 < xss.length ∧ ((xss.getLast?.getD []).length : Int) = n) ↔ upTo n ∈ xss := by
  constructor
  · rintro ⟨h1, h2⟩
    have hne : xss ≠ [] := by intro e; simp [e] at h1
    have hl : xss.getLast?.getD [] = xss.getLast hne := by rw [List.getLast?_eq_some_getLast hne]; rfl
    rw [hl] at h2
    have hm := List.getLast_mem hne
    have hset := h.2 _ hm
    have hsub := set_sub hset
    have : xss.getLast hne = upTo n := hsub.eq_of_length (by rw [upTo_len]; omega)
    rw [← this]
    exact hm
  · intro hm
    have h1 : 0 < xss.length := List.length_pos_of_mem hm
    refine ⟨h1, ?_⟩
    have hne : xss ≠ [] := by intro e; simp [e] at h1
    have hl : xss.getLast?.getD [] = xss.getLast hne := by rw [List.getLast?_eq_some_getLast hne]; rfl
    rw [hl]
    have hset := h.2 _ (List.getLast_mem hne)
    have hle := (set_sub hset).length_le
    rw [upTo_len] at hle
    have hge : n ≤ (xss.getLast hne).length := by
      obtain ⟨j, hj, he⟩ := List.getElem_of_mem hm
      rw [List.getLast_eq_getElem]
      by_cases e : j = xss.length - 1
      · subst e
        rw [he, upTo_len]; exact Nat.le_refl _
      · have := List.pairwise_iff_getElem.1 h.1 j (xss.length - 1) hj (by omega) (by omega)
        rw [he, lessT_iff, upTo_len] at this
        omega
    omega
theorem sysB_iff {n : Nat} {xss : List (List Int)} : sysB n xss = true ↔ IsSys n xss := by
  unfold sysB
  rw [sysRest_iff xss 0 rfl]
  constructor
  · rintro ⟨h1, h2⟩
    have hs : Srt xss := srt_of_next fun j hj => by
      have := (h1 (j + 1) (Nat.zero_le _) hj).2.1 (by omega)
      rw [Nat.add_sub_cancel, cmpT_lt, List.getD_eq_getElem?_getD, List.getElem?_eq_getElem (by omega : j < xss.length)] at this
      exact this
    have hi : Inv n xss := ⟨hs, fun p hp => by
      obtain ⟨j, hj, he⟩ := List.getElem_of_mem hp
      rw [← he]
      exact setB_iff.1 (h1 j (Nat.zero_le _) hj).1⟩
    refine ⟨hi, fun p hp q hq => ?_, (sys_last hi).1 h2⟩
    obtain ⟨i, hi', rfl⟩ := List.getElem_of_mem hp
    obtain ⟨j, hj', rfl⟩ := List.getElem_of_mem hq
    rcases Nat.lt_trichotomy i j with h | h | h
    · have := (h1 j (Nat.zero_le _) hj').2.2 xss[i] (List.mem_take_iff_getElem.2 ⟨i, by omega, rfl⟩)
      rwa [meet_meet (n := n) (a := xss[j]) (b := xss[i]) (c := xss[i]) (d := xss[j]) (hi.2 _ (List.getElem_mem _)) (hi.2 _ (List.getElem_mem _)) (fun x => And.comm)]
    · subst h
      have : meetL xss[i] xss[i] = xss[i] := set_ext ((hi.2 _ (List.getElem_mem _)).meet _) (hi.2 _ (List.getElem_mem _)) fun x => by rw [mem_meetL]; exact and_self_iff
      rw [this]
      exact List.getElem_mem _
    · exact (h1 i (Nat.zero_le _) hi').2.2 xss[j] (List.mem_take_iff_getElem.2 ⟨j, by omega, rfl⟩)
  · rintro ⟨hi, hc, ht⟩
    refine ⟨fun j _ hj => ⟨setB_iff.2 (hi.2 _ (List.getElem_mem _)), fun h0 => ?_, fun t htk => hc _ (List.getElem_mem _) t (List.mem_of_mem_take htk)⟩, (sys_last hi).2 ht⟩
    rw [cmpT_lt, List.getD_eq_getElem?_getD, List.getElem?_eq_getElem (by omega : j - 1 < xss.length)]
    exact List.pairwise_iff_getElem.1 hi.1 (j - 1) j (by omega) hj (by omega)
end Go.Proofs.YtidjocikbmkjbaaGreat
