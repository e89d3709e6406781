
/- Shapes: as what the cells of a value read, and which blocks of a call's own they hold. Ints, bools, strings, pairs, []int, slices of structs. -/
import Derived.Test.YtidjocikbmkjbaaGreatMark
namespace Go.Proofs.YtidjocikbmkjbaaGreat
open Go.RowKit

/-- A row of elements of m cells each reads as a list. -/
def RdN {α : Type} (m : Nat) (R : World → List Value → α → Prop) (w : World) (A : Option Addr) (n : Nat) (xs : List α) : Prop :=
  xs.length = n ∧ n ≤ maxLen ∧ ∀ k x, xs[k]? = some x → ∃ b o vs, A = some ⟨b, o, none⟩ ∧ vs.length = m ∧ (∀ i v, vs[i]? = some v → w.cell? ⟨b, o + k * m + i, none⟩ = some v) ∧ R w vs x
def Same (w w' : World) : Prop := ∀ b, b < w.heap.size → w'.heap[b]? = w.heap[b]?
theorem Below.same' {w w' : World} (h : Below w.heap.size w w') : Same w w' := h.block
structure Sh (α : Type) where
  m : Nat
  rd : World → List Value → α → Prop
  own : World → List Value → α → List Nat → Prop
  cnt : α → Nat
  rd_len : ∀ {w : World} {cs : List Value} {x : α}, rd w cs x → cs.length = m
  stab : ∀ {w w' : World} {cs : List Value} {x : α}, rd w cs x → Same w w' → rd w' cs x
  ord : ∀ {w : World} {cs : List Value} {x : α} {bl : List Nat}, own w cs x bl → rd w cs x
  olt : ∀ {w : World} {cs : List Value} {x : α} {bl : List Nat}, own w cs x bl → ∀ b ∈ bl, b < w.heap.size
  osame : ∀ {w w' : World} {cs : List Value} {x : α} {bl : List Nat}, own w cs x bl → (∀ b ∈ bl, w'.heap[b]? = w.heap[b]?) → own w' cs x bl

def Sh.int : Sh Int where
  m := 1
  rd := fun w cs x => ∃ v, cs = [v] ∧ RI w v x
  own := fun w cs x bl => ∃ v, cs = [v] ∧ RI w v x ∧ bl = []
  cnt := fun _ => 0
  rd_len := fun ⟨_, e, _⟩ => by rw [e]; rfl
  stab := fun ⟨v, e, h⟩ _ => ⟨v, e, h⟩
  ord := fun ⟨v, e, h, _⟩ => ⟨v, e, h⟩
  olt := fun ⟨_, _, _, e⟩ b hb => by rw [e] at hb; simp at hb
  osame := fun ⟨v, e, h, e'⟩ _ => ⟨v, e, h, e'⟩
def Sh.bool : Sh Bool where
  m := 1
  rd := fun w cs x => ∃ v, cs = [v] ∧ RB w v x
  own := fun w cs x bl => ∃ v, cs = [v] ∧ RB w v x ∧ bl = []
  cnt := fun _ => 0
  rd_len := fun ⟨_, e, _⟩ => by rw [e]; rfl
  stab := fun ⟨v, e, h⟩ _ => ⟨v, e, h⟩
  ord := fun ⟨v, e, h, _⟩ => ⟨v, e, h⟩
  olt := fun ⟨_, _, _, e⟩ b hb => by rw [e] at hb; simp at hb
  osame := fun ⟨v, e, h, e'⟩ _ => ⟨v, e, h, e'⟩
def Sh.str : Sh ByteArray where
  m := 1
  rd := fun w cs x => ∃ v, cs = [v] ∧ RS w v x
  own := fun w cs x bl => ∃ v, cs = [v] ∧ RS w v x ∧ bl = []
  cnt := fun s => s.size
  rd_len := fun ⟨_, e, _⟩ => by rw [e]; rfl
  stab := fun ⟨v, e, h⟩ _ => ⟨v, e, h⟩
  ord := fun ⟨v, e, h, _⟩ => ⟨v, e, h⟩
  olt := fun ⟨_, _, _, e⟩ b hb => by rw [e] at hb; simp at hb
  osame := fun ⟨v, e, h, e'⟩ _ => ⟨v, e, h, e'⟩
def Sh.pair {α β : Type} (A : Sh α) (B : Sh β) : Sh (α × β) where
  m := A.m + B.m
  rd := fun w cs p => ∃ c1 c2, cs = c1 ++ c2 ∧ A.rd w c1 p.1 ∧ B.rd w c2 p.2
  own := fun w cs p bl => ∃ c1 c2 b1 b2, cs = c1 ++ c2 ∧ bl = b1 ++ b2 ∧ A.own w c1 p.1 b1 ∧ B.own w c2 p.2 b2
  cnt := fun p => A.cnt p.1 + B.cnt p.2
  rd_len := fun ⟨c1, c2, e, h1, h2⟩ => by rw [e, List.length_append, A.rd_len h1, B.rd_len h2]
  stab := fun ⟨c1, c2, e, h1, h2⟩ hs => ⟨c1, c2, e, A.stab h1 hs, B.stab h2 hs⟩
  ord := fun ⟨c1, c2, b1, b2, e, e', h1, h2⟩ => ⟨c1, c2, e, A.ord h1, B.ord h2⟩
  olt := fun ⟨c1, c2, b1, b2, e, e', h1, h2⟩ b hb => by
    rw [e', List.mem_append] at hb
    exact hb.elim (A.olt h1 b) (B.olt h2 b)
  osame := fun ⟨c1, c2, b1, b2, e, e', h1, h2⟩ hs => ⟨c1, c2, b1, b2, e, e', A.osame h1 fun b hb => hs b (by rw [e']; exact List.mem_append_left _ hb), B.osame h2 fun b hb => hs b (by rw [e']; exact List.mem_append_right _ hb)⟩

def InR (x : Int) : Prop := -9223372036854775808 ≤ x ∧ x ≤ 9223372036854775807
def obl (v : Value) : List Nat := v.ownBlock.toList
theorem mem_obl {v : Value} {b : Nat} : b ∈ obl v ↔ v.ownBlock = some b := by unfold obl; simp
/-- []int: E is the type of its elements. -/
def Sh.il (E : TypeId) : Sh (List Int) where
  m := 1
  rd := fun w cs xs => ∃ v, cs = [v] ∧ RV RI w v xs
  own := fun w cs xs bl => ∃ v, cs = [v] ∧ w.ownsRow 0 E 1 v xs.length (ints xs) ∧ (∀ x ∈ xs, InR x) ∧ bl = obl v
  cnt := fun xs => xs.length
  rd_len := fun ⟨_, e, _⟩ => by rw [e]; rfl
  stab := fun ⟨v, e, h⟩ hs => ⟨v, e, stab_RV stab_RI _ _ _ _ hs h⟩
  ord := fun {w} {cs} {xs} {bl} ⟨v, e, h, hx, _⟩ => by
    obtain ⟨A, c, rfl⟩ := own_slice h
    exact ⟨_, e, A, xs.length, c, rfl, rd_of_own h (RI_ints hx)⟩
  olt := fun ⟨v, _, h, _, e⟩ b hb => by rw [e, mem_obl] at hb; exact (h.lt b hb).2
  osame := fun ⟨v, e, h, hx, e'⟩ hs => ⟨v, e, own_same h fun b hb => hs b (by rw [e', mem_obl]; exact hb), hx, e'⟩

theorem flat_get : ∀ {css : List (List Value)} {m : Nat}, (∀ c ∈ css, c.length = m) → ∀ (k i : Nat), i < m → css.flatten[k * m + i]? = (css[k]?).bind fun c => c[i]?
  | [], m, _, k, i, _ => by simp
  | c :: l, m, h, 0, i, hi => by
    have hc := h c (List.mem_cons_self ..)
    rw [List.flatten_cons, Nat.zero_mul, Nat.zero_add, List.getElem?_append_left (by omega)]
    rfl
  | c :: l, m, h, k + 1, i, hi => by
    have hc := h c (List.mem_cons_self ..)
    have ih := flat_get (fun c' hc' => h c' (List.mem_cons_of_mem _ hc')) k i hi (css := l)
    have e : (k + 1) * m + i = m + (k * m + i) := by rw [Nat.succ_mul]; omega
    rw [List.flatten_cons, List.getElem?_append_right (by omega), hc, e, Nat.add_sub_cancel_left, ih]
    rfl
theorem flat_len : ∀ {css : List (List Value)} {m : Nat}, (∀ c ∈ css, c.length = m) → css.flatten.length = css.length * m
  | [], m, _ => by simp
  | c :: l, m, h => by
    rw [List.flatten_cons, List.length_append, h c (List.mem_cons_self ..), flat_len fun c' hc' => h c' (List.mem_cons_of_mem _ hc'), List.length_cons, Nat.succ_mul]
    omega
/-- A slice of structs of the call's own, its elements' cells and blocks by name. -/
structure Parts {α : Type} (A : Sh α) (E : TypeId) (w : World) (v : Value) (xs : List α) (css : List (List Value)) (bls : List (List Nat)) : Prop where
  row : w.ownsRow 0 E A.m v xs.length css.flatten
  l1 : css.length = xs.length
  l2 : bls.length = xs.length
  el : ∀ (k : Nat) c x bk, css[k]? = some c → xs[k]? = some x → bls[k]? = some bk → A.own w c x bk
section
variable {α : Type} {A : Sh α} {E : TypeId} {w w' : World} {v : Value} {xs : List α} {css : List (List Value)} {bls : List (List Nat)}
theorem Parts.all (h : Parts A E w v xs css bls) : ∀ c ∈ css, c.length = A.m := by
  intro c hc
  obtain ⟨k, hk⟩ := List.getElem?_of_mem hc
  have hkl := (List.getElem?_eq_some_iff.1 hk).1
  have h1 := h.l1
  have h2 := h.l2
  exact A.rd_len (A.ord (h.el k c _ _ hk (List.getElem?_eq_getElem (by omega)) (List.getElem?_eq_getElem (by omega))))
theorem Parts.same (h : Parts A E w v xs css bls) (hs : ∀ b ∈ obl v ++ bls.flatten, w'.heap[b]? = w.heap[b]?) : Parts A E w' v xs css bls :=
  ⟨own_same h.row fun b hb => hs b (List.mem_append_left _ (mem_obl.2 hb)), h.l1, h.l2, fun k c x bk h1 h2 h3 => A.osame (h.el k c x bk h1 h2 h3) fun b hb => hs b (List.mem_append_right _ (List.mem_flatten.2 ⟨bk, List.mem_of_getElem? h3, hb⟩))⟩
theorem Parts.lt (h : Parts A E w v xs css bls) : ∀ b ∈ obl v ++ bls.flatten, b < w.heap.size := by
  intro b hb
  rcases List.mem_append.1 hb with hb | hb
  · exact (h.row.lt b (mem_obl.1 hb)).2
  · obtain ⟨bk, hbk, hb⟩ := List.mem_flatten.1 hb
    obtain ⟨k, hk⟩ := List.getElem?_of_mem hbk
    have hkl := (List.getElem?_eq_some_iff.1 hk).1
    have h1 := h.l1
    have h2 := h.l2
    exact A.olt (h.el k _ _ bk (List.getElem?_eq_getElem (by omega)) (List.getElem?_eq_getElem (by omega)) hk) b hb
theorem own_len_le {base size : Nat} {e : TypeId} {n : Nat} {ys : List Value} (h : w.ownsRow base e size v n ys) : n ≤ maxLen := by
  rcases h.2 with ⟨_, h0⟩ | ⟨g, cap, cur, _, _, _, h1, h2, _⟩
  · omega
  · omega
theorem Parts.cell (h : Parts A E w v xs css bls) {g n c : Nat} (hv : v = .slice (some ⟨g, 0, none⟩) n c) {k i : Nat} {cs : List Value} {u : Value} (hk : css[k]? = some cs) (hi : cs[i]? = some u) : w.cell? ⟨g, k * A.m + i, none⟩ = some u := by
  have hall := h.all
  have hcl := hall cs (List.mem_of_getElem? hk)
  have him : i < A.m := by have := (List.getElem?_eq_some_iff.1 hi).1; omega
  have hkl : k < xs.length := by have := (List.getElem?_eq_some_iff.1 hk).1; have := h.l1; omega
  have hr := h.row
  subst hv
  have hn : n = xs.length := by
    rcases hr.2 with ⟨h0, _⟩ | ⟨g', cap, cur, h0, _⟩
    · cases h0
    · injection h0
  subst hn
  have hlt : k * A.m + i < xs.length * A.m := by
    have := Nat.mul_le_mul_right A.m (show k + 1 ≤ xs.length from hkl)
    rw [Nat.succ_mul] at this
    omega
  rw [hr.cellAt _ hlt, flat_get hall k i him, hk]
  exact hi
theorem Parts.rd (h : Parts A E w v xs css bls) : ∃ B c, v = .slice B xs.length c ∧ RdN A.m A.rd w B xs.length xs := by
  obtain ⟨B, c, rfl⟩ := own_slice h.row
  refine ⟨B, c, rfl, rfl, own_len_le h.row, fun k x hk => ?_⟩
  have hkl := (List.getElem?_eq_some_iff.1 hk).1
  have h1 := h.l1
  have h2 := h.l2
  have hc : css[k]? = some (css[k]'(by omega)) := List.getElem?_eq_getElem (by omega)
  have hb : bls[k]? = some (bls[k]'(by omega)) := List.getElem?_eq_getElem (by omega)
  have ho := h.el k _ x _ hc hk hb
  obtain ⟨g, rfl⟩ : ∃ g, B = some ⟨g, 0, none⟩ := by
    rcases h.row.2 with ⟨_, h0⟩ | ⟨g, cap, cur, h0, _⟩
    · omega
    · injection h0 with h0
      exact ⟨g, h0⟩
  refine ⟨g, 0, _, rfl, h.all _ (List.mem_of_getElem? hc), fun i u hi => ?_, A.ord ho⟩
  rw [Nat.zero_add]
  exact h.cell rfl hc hi
end
/-- A slice of structs: E is the type of its elements. -/
def Sh.rows {α : Type} (A : Sh α) (E : TypeId) : Sh (List α) where
  m := 1
  rd := fun w cs xs => ∃ B n c, cs = [.slice B n c] ∧ RdN A.m A.rd w B n xs
  own := fun w cs xs bl => ∃ v css bls, cs = [v] ∧ Parts A E w v xs css bls ∧ bl = obl v ++ bls.flatten
  cnt := fun xs => xs.length + (xs.map A.cnt).sum
  rd_len := fun ⟨_, _, _, e, _⟩ => by rw [e]; rfl
  stab := fun {w} {w'} {cs} {xs} ⟨B, n, c, e, h1, h2, h3⟩ hs => ⟨B, n, c, e, h1, h2, fun k x hk => by
    obtain ⟨b, o, vs, e1, hl, hc, hr⟩ := h3 k x hk
    exact ⟨b, o, vs, e1, hl, fun i v hi => (World.cell?_of_block (w := w) (hs b (cell_lt (hc i v hi)))).trans (hc i v hi), A.stab hr hs⟩⟩
  ord := fun {w} {cs} {xs} {bl} ⟨v, css, bls, e, h, _⟩ => by
    obtain ⟨B, c, hv, hr⟩ := h.rd
    exact ⟨B, xs.length, c, by rw [e, hv], hr⟩
  olt := fun {w} {cs} {xs} {bl} ⟨v, css, bls, _, h, e⟩ b hb => by rw [e] at hb; exact h.lt b hb
  osame := fun {w} {w'} {cs} {xs} {bl} ⟨v, css, bls, e, h, e'⟩ hs => ⟨v, css, bls, e, h.same fun b hb => hs b (by rw [e']; exact hb), e'⟩

section
variable {α : Type} {m : Nat} {R : World → List Value → α → Prop} {w w' : World} {A : Option Addr} {n : Nat} {xs : List α}
theorem RdN.at (h : RdN m R w A n xs) {k : Nat} (hk : k < n) : ∃ b o vs x, A = some ⟨b, o, none⟩ ∧ vs.length = m ∧ (∀ i v, vs[i]? = some v → w.cell? ⟨b, o + k * m + i, none⟩ = some v) ∧ R w vs x ∧ xs.drop k = x :: xs.drop (k + 1) ∧ xs[k]? = some x := by
  have hl : k < xs.length := by rw [h.1]; exact hk
  obtain ⟨b, o, vs, e, hm, hc, hr⟩ := h.2.2 k _ (List.getElem?_eq_getElem hl)
  exact ⟨b, o, vs, xs[k], e, hm, hc, hr, List.drop_eq_getElem_cons hl, List.getElem?_eq_getElem hl⟩
theorem RdN.len (h : RdN m R w A n xs) : xs.length = n := h.1
theorem RdN.le (h : RdN m R w A n xs) : n ≤ 9223372036854775807 := by have := h.2.1; unfold maxLen at this; omega
theorem RdN.drop_end (h : RdN m R w A n xs) {k : Nat} (hk : ¬ k < n) : xs.drop k = [] := List.drop_eq_nil_of_le (by rw [h.1]; omega)
theorem RdN.nil (m : Nat) (R : World → List Value → α → Prop) (w : World) (A : Option Addr) : RdN m R w A 0 [] := ⟨rfl, Nat.zero_le _, fun k x hk => by simp at hk⟩
end
theorem RdN.same {α : Type} {S : Sh α} {w w' : World} {A : Option Addr} {n : Nat} {xs : List α} (h : RdN S.m S.rd w A n xs) (hs : Same w w') : RdN S.m S.rd w' A n xs := by
  obtain ⟨B, n', c, e, h'⟩ := (Sh.rows S 0).stab (w := w) (w' := w') (cs := [.slice A n 0]) (x := xs) ⟨A, n, 0, rfl, h⟩ hs
  injection e with e _
  injection e with e1 e2 e3
  subst e1
  subst e2
  exact h'
theorem RdN.next {α : Type} {S : Sh α} {w w' : World} {A : Option Addr} {n : Nat} {xs : List α} (h : RdN S.m S.rd w A n xs) (hb : Below w.heap.size w w') : RdN S.m S.rd w' A n xs := h.same hb.block

/-! ## Several cells stored side by side -/
def setAll : List Value → Nat → List Value → List Value
  | l, _, [] => l
  | l, p, c :: cs => setAll (l.set p c) (p + 1) cs
def setAllW : World → Nat → Nat → List Value → World
  | w, _, _, [] => w
  | w, g, p, c :: cs => setAllW (w.setCell ⟨g, p, none⟩ c) g (p + 1) cs
theorem setAll_len : ∀ (cs : List Value) (l : List Value) (p : Nat), (setAll l p cs).length = l.length
  | [], _, _ => rfl
  | c :: cs, l, p => by rw [setAll, setAll_len cs, List.length_set]
theorem setAll_get : ∀ (cs : List Value) (l : List Value) (p j : Nat), p + cs.length ≤ l.length → (setAll l p cs)[j]? = if p ≤ j ∧ j < p + cs.length then cs[j - p]? else l[j]?
  | [], l, p, j, _ => by rw [setAll, if_neg (by simp)]
  | c :: cs, l, p, j, h => by
    rw [List.length_cons] at h
    rw [setAll, setAll_get cs _ _ _ (by rw [List.length_set]; omega), List.length_cons]
    by_cases h1 : p + 1 ≤ j ∧ j < p + 1 + cs.length
    · rw [if_pos h1, if_pos (by omega), show j - p = (j - (p + 1)) + 1 by omega, List.getElem?_cons_succ]
    · rw [if_neg h1, List.getElem?_set]
      by_cases h2 : p = j
      · subst h2
        rw [if_pos rfl, if_pos (by omega), if_pos (by omega), Nat.sub_self]
        rfl
      · rw [if_neg h2, if_neg (by omega)]
theorem setAll_mid (pre z post cs : List Value) (h : cs.length = z.length) : setAll (pre ++ (z ++ post)) pre.length cs = pre ++ (cs ++ post) := by
  apply List.ext_getElem?
  intro j
  rw [setAll_get _ _ _ _ (by simp; omega)]
  by_cases h1 : j < pre.length
  · rw [if_neg (by omega), List.getElem?_append_left h1, List.getElem?_append_left h1]
  · by_cases h2 : j < pre.length + cs.length
    · rw [if_pos (by omega), List.getElem?_append_right (by omega), List.getElem?_append_left (by omega)]
    · rw [if_neg (by omega), List.getElem?_append_right (by omega), List.getElem?_append_right (by omega), List.getElem?_append_right (by omega), List.getElem?_append_right (by omega), h]
theorem own_storeAll : ∀ (cs : List Value) {w : World} {base : Nat} {e : TypeId} {size g n cap : Nat} {xs : List Value} (p : Nat), w.ownsRow base e size (.slice (some ⟨g, 0, none⟩) n cap) n xs →
    (setAllW w g p cs).ownsRow base e size (.slice (some ⟨g, 0, none⟩) n cap) n (setAll xs p cs) ∧ w.grownBy (setAllW w g p cs) (some g)
  | [], w, base, e, size, g, n, cap, xs, p, h => ⟨h, ⟨rfl, rfl, rfl, Nat.le_refl _, fun _ _ _ => rfl⟩⟩
  | c :: cs, w, base, e, size, g, n, cap, xs, p, h => by
    obtain ⟨h1, g1⟩ := h.stored p c
    obtain ⟨h2, g2⟩ := own_storeAll cs (p + 1) h1
    exact ⟨h2, ⟨g2.os.trans g1.os, g2.tape.trans g1.tape, g2.output.trans g1.output, Nat.le_trans g1.size g2.size, fun k hk hne => (g2.block k (Nat.lt_of_lt_of_le hk g1.size) hne).trans (g1.block k hk hne)⟩⟩

/-! ## A slice of structs being filled -/
/-- Of n elements that a make laid in block g, k have been copied in; zc are the cells of an element as made. -/
structure FillN {α : Type} (A : Sh α) (E : TypeId) (zc : List Value) (lo g n : Nat) (w : World) (xs : List α) (css : List (List Value)) (bls : List (List Nat)) (k : Nat) : Prop where
  row : w.ownsRow 0 E A.m (.slice (some ⟨g, 0, none⟩) n n) n (css.flatten ++ (List.replicate (n - k) zc).flatten)
  l1 : css.length = k
  l2 : bls.length = k
  all : ∀ c ∈ css, c.length = A.m
  el : ∀ (j : Nat) c x bk, css[j]? = some c → xs[j]? = some x → bls[j]? = some bk → A.own w c x bk
  nd : (g :: bls.flatten).Nodup
  lo_ : ∀ b ∈ g :: bls.flatten, lo ≤ b ∧ b < w.heap.size
section
variable {α : Type} {A : Sh α} {E : TypeId} {zc : List Value} {lo g n : Nat} {w w' : World} {xs : List α} {css : List (List Value)} {bls : List (List Nat)} {k : Nat}
theorem FillN.start (h : w.ownsRow lo E A.m (.slice (some ⟨g, 0, none⟩) n n) n (List.replicate n zc).flatten) : FillN A E zc lo g n w xs [] [] 0 :=
  ⟨own_mono h (Nat.zero_le _), rfl, rfl, fun c hc => by simp at hc, fun j c x bk hc => by simp at hc, by simp, fun b hb => by simp at hb; subst hb; exact h.lt b rfl⟩
theorem FillN.next (h : FillN A E zc lo g n w xs css bls k) (hb : Below w.heap.size w w') : FillN A E zc lo g n w' xs css bls k :=
  ⟨own_next h.row hb, h.l1, h.l2, h.all, fun j c x bk h1 h2 h3 => A.osame (h.el j c x bk h1 h2 h3) fun b hb' => hb.block b (h.lo_ b (List.mem_cons_of_mem _ (List.mem_flatten.2 ⟨bk, List.mem_of_getElem? h3, hb'⟩))).2, h.nd,
    fun b hb' => ⟨(h.lo_ b hb').1, Nat.lt_of_lt_of_le (h.lo_ b hb').2 hb.size⟩⟩
theorem FillN.cell (h : FillN A E zc lo g n w xs css bls k) (hz : zc.length = A.m) (hk : k < n) {i : Nat} {u : Value} (hi : zc[i]? = some u) : w.cell? ⟨g, k * A.m + i, none⟩ = some u := by
  have him : i < A.m := by have := (List.getElem?_eq_some_iff.1 hi).1; omega
  have hl := flat_len h.all
  rw [h.l1] at hl
  have hlt : k * A.m + i < n * A.m := by
    have := Nat.mul_le_mul_right A.m (show k + 1 ≤ n from hk)
    rw [Nat.succ_mul] at this
    omega
  rw [h.row.cellAt _ hlt, List.getElem?_append_right (by omega), hl, Nat.add_sub_cancel_left]
  have e : n - k = (n - (k + 1)) + 1 := by omega
  rw [e, List.replicate_succ, List.flatten_cons, List.getElem?_append_left (by omega)]
  exact hi
theorem FillN.frozen (h : FillN A E zc lo g n w xs css bls k) (j : Nat) : w.frozen? ⟨g, j, none⟩ = false := h.row.frozenAt j
/-- One element more, that a call has laid since. -/
theorem FillN.set_ (h0 : FillN A E zc lo g n w xs css bls k) (hz : zc.length = A.m) (hb : Below w.heap.size w w') (hk : k < n) {x : α} {c : List Value} {bk : List Nat} (hx : xs[k]? = some x) (ho : A.own w' c x bk) (hnd : bk.Nodup) (hlo : ∀ b ∈ bk, w.heap.size ≤ b) (hlw : lo ≤ w.heap.size) :
    FillN A E zc lo g n (setAllW w' g (k * A.m) c) xs (css ++ [c]) (bls ++ [bk]) (k + 1) := by
  have h := h0.next hb
  have hcl := A.rd_len (A.ord ho)
  have hl := flat_len h.all
  rw [h.l1] at hl
  have hgl := (h0.lo_ g (List.mem_cons_self ..)).2
  obtain ⟨hst, hgr⟩ := own_storeAll c (k * A.m) h.row
  have e : n - k = (n - (k + 1)) + 1 := by omega
  rw [e, List.replicate_succ, List.flatten_cons, ← hl, setAll_mid _ _ _ _ (by omega), hl] at hst
  have hold : ∀ b ∈ g :: bls.flatten, b < w.heap.size := fun b hb' => (h0.lo_ b hb').2
  refine ⟨?_, by simp [h.l1], by simp [h.l2], ?_, ?_, ?_, ?_⟩
  · rw [List.flatten_append]
    simpa using hst
  · intro c' hc'
    rcases List.mem_append.1 hc' with h1 | h1
    · exact h.all c' h1
    · simp at h1
      subst h1
      exact hcl
  · intro j c' x' bk' h1 h2 h3
    have hg : ∀ b, b ≠ g → b < w'.heap.size → (setAllW w' g (k * A.m) c).heap[b]? = w'.heap[b]? := fun b hne hlt => hgr.block b hlt (by simpa using hne)
    rcases Nat.lt_or_ge j k with hj | hj
    · rw [List.getElem?_append_left (by rw [h.l1]; exact hj)] at h1
      rw [List.getElem?_append_left (by rw [h.l2]; exact hj)] at h3
      refine A.osame (h.el j c' x' bk' h1 h2 h3) fun b hb' => ?_
      have hm : b ∈ bls.flatten := List.mem_flatten.2 ⟨bk', List.mem_of_getElem? h3, hb'⟩
      exact hg b (fun ee => (List.nodup_cons.1 h.nd).1 (ee ▸ hm)) (h.lo_ b (List.mem_cons_of_mem _ hm)).2
    · have hjk : j = k := by
        have := (List.getElem?_eq_some_iff.1 h1).1
        rw [List.length_append, h.l1] at this
        simp at this
        omega
      subst hjk
      rw [List.getElem?_append_right (by rw [h.l1]; exact Nat.le_refl _), h.l1, Nat.sub_self] at h1
      rw [List.getElem?_append_right (by rw [h.l2]; exact Nat.le_refl _), h.l2, Nat.sub_self] at h3
      simp at h1 h3
      subst h1
      subst h3
      rw [hx] at h2
      injection h2 with h2
      subst h2
      exact A.osame ho fun b hb' => hg b (fun ee => by have := hlo b hb'; omega) (A.olt ho b hb')
  · rw [List.flatten_append, ← List.cons_append, List.nodup_append]
    refine ⟨h.nd, by simpa using hnd, fun a ha b hb' => ?_⟩
    have := hold a ha
    have := hlo b (by simpa using hb')
    omega
  · intro b hb'
    have hs : w'.heap.size ≤ (setAllW w' g (k * A.m) c).heap.size := hgr.size
    rw [List.flatten_append, ← List.cons_append] at hb'
    rcases List.mem_append.1 hb' with h1 | h1
    · have := h.lo_ b h1
      omega
    · have h2 : b ∈ bk := by simpa using h1
      have := hlo b h2
      have := A.olt ho b h2
      omega
theorem FillN.done (h : FillN A E zc lo g n w xs css bls k) (hl : xs.length = n) (hk : ¬ k < n) (hk' : k ≤ n) : (Sh.rows A E).own w [.slice (some ⟨g, 0, none⟩) n n] xs (g :: bls.flatten) := by
  have e : n - k = 0 := by omega
  have hr := h.row
  rw [e] at hr
  simp only [List.replicate_zero, List.flatten_nil, List.append_nil] at hr
  have h1 := h.l1
  have h2 := h.l2
  exact ⟨_, css, bls, rfl, ⟨by rw [hl]; exact hr, by omega, by omega, h.el⟩, rfl⟩
end
/-! ## Changes within a list of blocks -/
structure ChgB (bl : List Nat) (w w' : World) : Prop where
  os : w'.os = w.os
  tape : w'.tape = w.tape
  output : w'.output = w.output
  size : w.heap.size ≤ w'.heap.size
  block : ∀ b, b < w.heap.size → b ∉ bl → w'.heap[b]? = w.heap[b]?
theorem ChgB.refl (bl : List Nat) (w : World) : ChgB bl w w := ⟨rfl, rfl, rfl, Nat.le_refl _, fun _ _ _ => rfl⟩
theorem ChgB.trans {bl : List Nat} {a b c : World} (h : ChgB bl a b) (k : ChgB bl b c) : ChgB bl a c :=
  ⟨k.os.trans h.os, k.tape.trans h.tape, k.output.trans h.output, Nat.le_trans h.size k.size, fun i hi hh => (k.block i (Nat.lt_of_lt_of_le hi h.size) hh).trans (h.block i hi hh)⟩
theorem ChgB.mono {bl bl' : List Nat} {w w' : World} (h : ChgB bl w w') (hs : ∀ b ∈ bl, b ∈ bl') : ChgB bl' w w' :=
  ⟨h.os, h.tape, h.output, h.size, fun b hb hn => h.block b hb fun hh => hn (hs b hh)⟩
theorem ChgB.chg {bl : List Nat} {lo hi : Nat} {w w' : World} (h : ChgB bl w w') (hs : ∀ b ∈ bl, lo ≤ b ∧ b < hi) : Chg lo hi w w' :=
  ⟨h.os, h.tape, h.output, h.size, fun b hb hn => h.block b hb fun hh => by have := hs b hh; omega⟩
theorem ChgB.ofBelow {bl : List Nat} {w w' : World} (h : Below w.heap.size w w') : ChgB bl w w' := ⟨h.os, h.tape, h.output, h.size, fun b hb _ => h.block b hb⟩
theorem ChgB.set {bl : List Nat} {w : World} {p : Addr} (hp : p.block ∈ bl) (u : Value) : ChgB bl w (w.setCell p u) :=
  ⟨rfl, rfl, rfl, by simp, fun b _ hn => Below.heap_setCell w p u b (fun e => hn (e ▸ hp))⟩
theorem ChgB.grown {v : Value} {w w' : World} (h : w.grownBy w' v.ownBlock) : ChgB (obl v) w w' := ⟨h.os, h.tape, h.output, h.size, fun b hb hn => h.block b hb fun e => hn (mem_obl.2 e.symm)⟩
theorem flat_once : ∀ {bls : List (List Nat)}, bls.flatten.Nodup → ∀ {i j : Nat} {x y : List Nat} {b : Nat}, bls[i]? = some x → bls[j]? = some y → b ∈ x → b ∈ y → i = j
  | [], _, i, j, x, y, b, hi, _, _, _ => by simp at hi
  | z :: l, h, i, j, x, y, b, hi, hj, hx, hy => by
    rw [List.flatten_cons, List.nodup_append] at h
    have mem : ∀ {k : Nat} {u : List Nat}, l[k]? = some u → b ∈ u → b ∈ l.flatten := fun hk hu => List.mem_flatten.2 ⟨_, List.mem_of_getElem? hk, hu⟩
    match i, j with
    | 0, 0 => rfl
    | 0, j + 1 =>
      simp at hi hj
      subst hi
      exact absurd rfl (h.2.2 b hx b (mem hj hy))
    | i + 1, 0 =>
      simp at hi hj
      subst hj
      exact absurd rfl (h.2.2 b hy b (mem hi hx))
    | i + 1, j + 1 =>
      simp at hi hj
      rw [flat_once h.2.1 hi hj hx hy]
/-- One element turned into another one, in place. -/
theorem Parts.put {α : Type} {A : Sh α} {E : TypeId} {w w' : World} {v : Value} {xs : List α} {css : List (List Value)} {bls : List (List Nat)} (h : Parts A E w v xs css bls) (hnd : (obl v ++ bls.flatten).Nodup) {k : Nat} {bk : List Nat} (hbk : bls[k]? = some bk) {c' : List Value} {x' : α}
    (hr : w'.ownsRow 0 E A.m v xs.length (setAll css.flatten (k * A.m) c')) (ho : A.own w' c' x' bk) (hfr : ∀ b ∈ bls.flatten, b ∉ bk → w'.heap[b]? = w.heap[b]?) : Parts A E w' v (xs.set k x') (css.set k c') bls := by
  have hall := h.all
  have hcl := A.rd_len (A.ord ho)
  have hl1 := h.l1
  have hl2 := h.l2
  have hkl : k < bls.length := (List.getElem?_eq_some_iff.1 hbk).1
  have hfl := flat_len hall
  have hall' : ∀ c ∈ css.set k c', c.length = A.m := fun c hc => by
    rcases List.mem_or_eq_of_mem_set hc with h1 | h1
    · exact hall c h1
    · rw [h1]; exact hcl
  have hle : k * A.m + A.m ≤ css.length * A.m := by
    have := Nat.mul_le_mul_right A.m (show k + 1 ≤ css.length by omega)
    rw [Nat.succ_mul] at this
    exact this
  have e : setAll css.flatten (k * A.m) c' = (css.set k c').flatten := by
    have hfl' := flat_len hall'
    rw [List.length_set] at hfl'
    apply List.ext_getElem?
    intro j
    rw [setAll_get _ _ _ _ (by omega), hcl]
    rcases Nat.eq_zero_or_pos A.m with h0 | h0
    · rw [h0] at hfl hfl' ⊢
      rw [if_neg (by omega), List.getElem?_eq_none (by omega), List.getElem?_eq_none (by omega)]
    · have hj := Nat.div_add_mod j A.m
      have hm := Nat.mod_lt j h0
      rw [Nat.mul_comm] at hj
      have g1 := flat_get hall (j / A.m) (j % A.m) hm
      have g2 := flat_get hall' (j / A.m) (j % A.m) hm
      rw [hj] at g1 g2
      rw [g2]
      by_cases hjk : j / A.m = k
      · have hjk' : k * A.m + j % A.m = j := by rw [← hjk]; exact hj
        rw [if_pos (by omega), hjk, List.getElem?_set_self (by omega), show j - k * A.m = j % A.m by omega]
        rfl
      · rw [List.getElem?_set_ne (fun ee => hjk ee.symm), ← g1, if_neg]
        rintro ⟨h1, h2⟩
        apply hjk
        exact Nat.div_eq_of_lt_le (by omega) (by rw [Nat.succ_mul]; omega)
  refine ⟨by rw [List.length_set, ← e]; exact hr, by simp [hl1], by simp [hl2], fun j c x b h1 h2 h3 => ?_⟩
  by_cases hjk : j = k
  · subst hjk
    rw [List.getElem?_set_self (by omega)] at h1 h2
    injection h1 with h1
    injection h2 with h2
    rw [hbk] at h3
    injection h3 with h3
    subst h1
    subst h2
    subst h3
    exact ho
  · rw [List.getElem?_set_ne (fun ee => hjk ee.symm)] at h1 h2
    refine A.osame (h.el j c x b h1 h2 h3) fun q hq => hfr q (List.mem_flatten.2 ⟨b, List.mem_of_getElem? h3, hq⟩) fun hq' => ?_
    have hnd' : bls.flatten.Nodup := (List.nodup_append.1 hnd).2.1
    exact hjk (flat_once hnd' h3 hbk hq hq')
end Go.Proofs.YtidjocikbmkjbaaGreat
namespace Go.Proofs.YtidjocikbmkjbaaGreat
open Go.ChangeShapes Go.WideShapes Go.ChangeAt Go.RowKit Go.Joins Go.Deep

/-! ## Sizes -/
def szR (c : Nat) (left : Int) : Int := if left < c then -1 else left - c
theorem szInts_szR (xs : List Int) (left : Int) : szInts xs left = szR xs.length left := by
  unfold szInts szR
  by_cases h : left - xs.length < 0
  · rw [if_pos h, if_pos (by omega)]
  · rw [if_neg h, if_neg (by omega)]
theorem szR_add {a b : Nat} {left : Int} (h : ¬ szR a left < 0) : szR b (szR a left) = szR (a + b) left := by
  unfold szR at *
  split at h
  · omega
  · rename_i h1
    rw [if_neg h1]
    by_cases h2 : left - a < b
    · rw [if_pos h2, if_pos (by omega)]
    · rw [if_neg h2, if_neg (by omega)]; omega
theorem szR_neg {a b : Nat} {left : Int} (h : szR a left < 0) (_hl : 0 ≤ left) : (-1 : Int) = szR (a + b) left := by
  unfold szR at *
  split at h
  · rw [if_pos (by omega)]
  · omega
theorem szR_neg1 {a : Nat} {left : Int} (h : szR a left < 0) (_hl : 0 ≤ left) : (-1 : Int) = szR a left := by
  unfold szR at *
  split at h
  · rename_i h1; rw [if_pos h1]
  · omega
theorem szR_bd (a : Nat) {left : Int} (hl : 0 ≤ left) : -1 ≤ szR a left ∧ szR a left ≤ left := by
  unfold szR
  split <;> omega
theorem szR_ok {a : Nat} {left : Int} (h : ¬ szR a left < 0) : (a : Int) ≤ left := by
  unfold szR at h
  split at h <;> omega
theorem szR_zero {left : Int} (h : 0 ≤ left) : szR 0 left = left := by
  have h' : ¬ left < ((0 : Nat) : Int) := by omega
  unfold szR
  rw [if_neg h']
  omega
theorem szR_sub_neg {a : Nat} {left : Int} (h : left - a < 0) (b : Nat) : (-1 : Int) = szR (a + b) left := by
  unfold szR
  rw [if_pos (by omega)]
theorem szR_sub {a : Nat} {left : Int} (_h : ¬ left - a < 0) (b : Nat) : szR b (left - a) = szR (a + b) left := by
  unfold szR
  by_cases h2 : left - a < b
  · rw [if_pos h2, if_pos (by omega)]
  · rw [if_neg h2, if_neg (by omega)]; omega
def cntS {α : Type} (f : α → Nat) (xs : List α) : Nat := (xs.map f).sum
theorem cntS_cons {α : Type} (f : α → Nat) (x : α) (xs : List α) : cntS f (x :: xs) = f x + cntS f xs := by simp [cntS]
theorem cntS_nil {α : Type} (f : α → Nat) : cntS f [] = 0 := rfl
theorem cntS_mem {α : Type} {f : α → Nat} : ∀ {xs : List α} {x : α}, x ∈ xs → f x ≤ cntS f xs
  | y :: l, x, h => by
    rw [cntS_cons]
    rcases List.mem_cons.1 h with rfl | h
    · omega
    · have := cntS_mem (f := f) h
      omega
def SumAt {α : Type} (f : α → Nat) (xs : List α) (l0 left : Int) (k : Nat) : Prop := szR (cntS f (xs.drop k)) left = szR (cntS f xs) l0
section
variable {α : Type} {f : α → Nat} {xs : List α} {l0 left : Int} {k : Nat} {x : α}
theorem SumAt.start (f : α → Nat) (xs : List α) (l0 : Int) : SumAt f xs l0 l0 0 := rfl
theorem SumAt.step (h : SumAt f xs l0 left k) (h1 : xs.drop k = x :: xs.drop (k + 1)) (h2 : ¬ szR (f x) left < 0) : SumAt f xs l0 (szR (f x) left) (k + 1) := by
  unfold SumAt at *; rw [← h, h1, cntS_cons, szR_add h2]
theorem SumAt.stop (h : SumAt f xs l0 left k) (h1 : xs.drop k = x :: xs.drop (k + 1)) (h2 : szR (f x) left < 0) (hl : 0 ≤ left) : -1 = szR (cntS f xs) l0 := by
  unfold SumAt at *; rw [← h, h1, cntS_cons]; exact szR_neg h2 hl
theorem SumAt.done (h : SumAt f xs l0 left k) (h1 : xs.drop k = []) (hl : 0 ≤ left) : left = szR (cntS f xs) l0 := by
  unfold SumAt at *; rw [← h, h1, cntS_nil, szR_zero hl]
end

theorem szR_le {a c : Nat} {left : Int} (h : szR a left < 0) (hac : a ≤ c) (hl : 0 ≤ left) : (-1 : Int) = szR c left := by
  have := szR_neg (b := c - a) h hl
  rwa [show a + (c - a) = c by omega] at this

theorem szR_lt {a c s : Nat} {left L : Int} (hc : szR a left = L) (hL : 0 ≤ L) (hz : L - s < 0) (hac : a + s ≤ c) (h0 : 0 ≤ left) : (-1 : Int) = szR c left := by
  have e : szR s L < 0 := by unfold szR; rw [if_pos (by omega)]; decide
  rw [← hc, szR_add (by rw [hc]; omega)] at e
  exact szR_le e hac h0
theorem szR_ge {a s : Nat} {left L : Int} (hc : szR a left = L) (hL : 0 ≤ L) (hz : ¬ L - s < 0) : szR (a + s) left = L - s := by
  rw [← szR_add (by rw [hc]; omega), hc]
  unfold szR
  rw [if_neg (by omega)]

/-! ## Equality -/
/-- Are they the same? For things of whatever type. -/
noncomputable def eqC {α : Type} (x y : α) : Bool := @decide (x = y) (Classical.propDecidable _)
theorem eqC_iff {α : Type} {x y : α} : eqC x y = true ↔ x = y := by unfold eqC; exact @decide_eq_true_iff _ (Classical.propDecidable _)
theorem eqC_no {α : Type} {x y : α} : eqC x y = false ↔ ¬ x = y := by
  constructor
  · intro h e
    rw [eqC_iff.2 e] at h
    cases h
  · intro h
    rcases e : eqC x y with _ | _
    · rfl
    · exact absurd (eqC_iff.1 e) h
theorem eqC_self {α : Type} (x : α) : eqC x x = true := eqC_iff.2 rfl
theorem eqC_dec {α : Type} [DecidableEq α] (x y : α) : eqC x y = decide (x = y) := by
  by_cases h : x = y
  · rw [eqC_iff.2 h]; simp [h]
  · rw [eqC_no.2 h]; simp [h]
theorem eqL_dec (xs ys : List Int) : eqL xs ys = eqC xs ys := by
  rcases h : eqL xs ys with _ | _
  · symm; rw [eqC_no]; intro e; rw [eqL_iff.2 e] at h; exact absurd h (by decide)
  · symm; rw [eqC_iff]; exact eqL_iff.1 h
theorem neq_int {x y : Int} {b : Bool} (h : eqC x y = b) : (x != y) = !b := by
  subst h
  rw [eqC_dec]
  by_cases e : x = y
  · subst e; simp
  · simp [e]
theorem eqq_bool {x y : Bool} {b : Bool} (h : eqC x y = b) : (x == y) = b := by
  subst h
  rw [eqC_dec]
  cases x <;> cases y <;> rfl
theorem eqq_str {x y : ByteArray} {b : Bool} (h : eqC x y = b) : (x.toList == y.toList) = b := by
  subst h
  rw [ByteArray.toList_eq, ByteArray.toList_eq]
  by_cases e : x = y
  · subst e; rw [eqC_self]; simp
  · have h2 : ¬ x.data.toList = y.data.toList := fun e2 => e (bs_inj e2)
    rw [eqC_no.2 e]
    exact beq_eq_false_iff_ne.2 h2
def EqdAt {α : Type} (xs ys : List α) (k : Nat) : Prop := eqC (xs.drop k) (ys.drop k) = eqC xs ys
theorem eqC_cons {α : Type} (x y : α) (xs ys : List α) : eqC (x :: xs) (y :: ys) = (eqC x y && eqC xs ys) := by
  rw [Bool.eq_iff_iff, Bool.and_eq_true, eqC_iff, eqC_iff, eqC_iff]; simp
section
variable {α : Type} {xs ys : List α} {k : Nat} {x y : α}
theorem EqdAt.start (xs ys : List α) : EqdAt xs ys 0 := rfl
theorem EqdAt.step (h : EqdAt xs ys k) (h1 : xs.drop k = x :: xs.drop (k + 1)) (h2 : ys.drop k = y :: ys.drop (k + 1)) (he : eqC x y = true) : EqdAt xs ys (k + 1) := by
  unfold EqdAt at *; rw [← h, h1, h2, eqC_cons, he]; rfl
theorem EqdAt.stop (h : EqdAt xs ys k) (h1 : xs.drop k = x :: xs.drop (k + 1)) (h2 : ys.drop k = y :: ys.drop (k + 1)) (he : eqC x y = false) : false = eqC xs ys := by
  unfold EqdAt at *; rw [← h, h1, h2, eqC_cons, he]; rfl
theorem EqdAt.done (h : EqdAt xs ys k) (h1 : xs.drop k = []) (h2 : ys.drop k = []) : true = eqC xs ys := by
  unfold EqdAt at *; rw [← h, h1, h2, eqC_self]
theorem eqd_len {n m : Nat} (h1 : xs.length = n) (h2 : ys.length = m) (h : ¬ n = m) : false = eqC xs ys := by
  symm; rw [eqC_no]; intro e; subst e; omega
end
theorem dec_pair {α β : Type} (a c : α) (b d : β) : eqC (a, b) (c, d) = (eqC a c && eqC b d) := by
  rw [Bool.eq_iff_iff, Bool.and_eq_true, eqC_iff, eqC_iff, eqC_iff]; simp

/-! ## Blocks between two marks -/
def Iv (lo hi : Nat) (bl : List Nat) : Prop := bl.Nodup ∧ ∀ b ∈ bl, lo ≤ b ∧ b < hi
theorem Iv.nil (lo hi : Nat) : Iv lo hi [] := ⟨List.nodup_nil, fun b hb => by simp at hb⟩
theorem Iv.app {lo m1 m2 hi : Nat} {a b : List Nat} (ha : Iv lo m1 a) (hb : Iv m2 hi b) (h1 : lo ≤ m2) (h2 : m1 ≤ m2) (h3 : m2 ≤ hi) : Iv lo hi (a ++ b) := by
  refine ⟨List.nodup_append.2 ⟨ha.1, hb.1, fun x hx y hy => ?_⟩, fun x hx => ?_⟩
  · have := (ha.2 x hx).2
    have := (hb.2 y hy).1
    omega
  · rcases List.mem_append.1 hx with h | h
    · have := ha.2 x h
      omega
    · have := hb.2 x h
      omega
theorem Iv.app0 {lo hi : Nat} {a : List Nat} (ha : Iv lo hi a) : Iv lo hi (a ++ []) := by rw [List.append_nil]; exact ha
theorem Iv.mono {lo hi lo' hi' : Nat} {a : List Nat} (h : Iv lo hi a) (h1 : lo' ≤ lo) (h2 : hi ≤ hi') : Iv lo' hi' a := ⟨h.1, fun x hx => by have := h.2 x hx; omega⟩
theorem Sh.onext {α : Type} {S : Sh α} {w w' : World} {cs : List Value} {x : α} {bl : List Nat} (h : S.own w cs x bl) (hb : Below w.heap.size w w') : S.own w' cs x bl := S.osame h fun b hb' => hb.block b (S.olt h b hb')
theorem Sh.oset {α : Type} {S : Sh α} {w : World} {cs : List Value} {x : α} {bl : List Nat} {lo hi : Nat} (h : S.own w cs x bl) (hi' : Iv lo hi bl) {p : Addr} (hp : p.block < lo) (v : Value) : S.own (w.setCell p v) cs x bl :=
  S.osame h fun b hb => Below.heap_setCell w p v b (fun e => by have := (hi'.2 b hb).1; omega)
theorem Sh.okept {α : Type} {S : Sh α} {w w' : World} {cs : List Value} {x : α} {bl : List Nat} {lo hi : Nat} (h : S.own w cs x bl) (hi' : Iv lo hi bl) {lo' hi'' : Nat} (hc : Chg lo' hi'' w w') (h1 : hi'' ≤ lo) : S.own w' cs x bl :=
  S.osame h fun b hb => hc.block b (S.olt h b hb) (.inr (by have := (hi'.2 b hb).1; omega))
/-- A copy handed back: a struct, one value. -/
def ToE {α : Type} (S : Sh α) (w : World) (x : α) (e : Ending) (w' : World) : Prop := ∃ cs bl, e = .returned (.agg cs.toArray) ∧ S.own w' cs x bl ∧ Iv w.heap.size w'.heap.size bl ∧ Below w.heap.size w w'
def ToV {α : Type} (S : Sh α) (w : World) (x : α) (e : Ending) (w' : World) : Prop := ∃ v bl, e = .returned v ∧ S.own w' [v] x bl ∧ Iv w.heap.size w'.heap.size bl ∧ Below w.heap.size w w'
theorem made_flat (zc : List Value) (n : Nat) (hm : 0 < zc.length) : (madeCells zc.toArray (n * zc.length)).toList = (List.replicate n zc).flatten := by
  have hall : ∀ c ∈ List.replicate n zc, c.length = zc.length := fun c hc => by rw [(List.mem_replicate.1 hc).2]
  apply List.ext_getElem?
  intro i
  have hd := Nat.div_add_mod i zc.length
  have hr := Nat.mod_lt i hm
  have hg := flat_get hall (i / zc.length) (i % zc.length) hr
  rw [Nat.mul_comm, hd] at hg
  rw [hg, List.getElem?_replicate]
  by_cases hi : i < n * zc.length
  · rw [if_pos ((Nat.div_lt_iff_lt_mul hm).2 hi)]
    have h1 : zc[i % zc.length]? = some (zc[i % zc.length]'hr) := List.getElem?_eq_getElem hr
    simp [madeCells, hi, h1]
  · rw [if_neg (fun h => hi ((Nat.div_lt_iff_lt_mul hm).1 h))]
    simp [madeCells, hi]
/-- The three boxes of a copy of a struct. -/
theorem boxes3 (w : World) (cp cz co : Array Value) (tp tr : TypeId) : ∃ w3, w3 = ((w.alloc (.cells cp tp)).alloc (.cells cz tr)).alloc (.cells co tr) ∧ Below w.heap.size w w3 ∧ w3.heap.size = w.heap.size + 3 ∧ Blk w3 w.heap.size tp cp ∧ Blk w3 (w.heap.size + 1) tr cz ∧ Blk w3 (w.heap.size + 1 + 1) tr co := by
  refine ⟨_, rfl, below_box3 _ _ _ _, by simp, ((Blk.new w _ _).next (below_box _ _)).next (below_box _ _), ?_, ?_⟩
  · have := (Blk.new (w.alloc (.cells cp tp)) tr cz).next (below_box _ (.cells co tr))
    rwa [World.size_alloc] at this
  · have := Blk.new ((w.alloc (.cells cp tp)).alloc (.cells cz tr)) tr co
    rwa [World.size_alloc, World.size_alloc] at this
theorem boxes2 (w : World) (cp cz : Array Value) (tp tr : TypeId) : ∃ w3, w3 = (w.alloc (.cells cp tp)).alloc (.cells cz tr) ∧ Below w.heap.size w w3 ∧ w3.heap.size = w.heap.size + 2 ∧ Blk w3 w.heap.size tp cp ∧ Blk w3 (w.heap.size + 1) tr cz := by
  refine ⟨_, rfl, below_box2 _ _ _, by simp, (Blk.new w _ _).next (below_box _ _), ?_⟩
  have := Blk.new (w.alloc (.cells cp tp)) tr cz
  rwa [World.size_alloc] at this
theorem boxes1 (w : World) (cp : Array Value) (tp : TypeId) : ∃ w3, w3 = w.alloc (.cells cp tp) ∧ Below w.heap.size w w3 ∧ w3.heap.size = w.heap.size + 1 ∧ Blk w3 w.heap.size tp cp := ⟨_, rfl, below_box _ _, by simp, Blk.new _ _ _⟩
theorem stab_same {α : Type} {S : Sh α} {w w' : World} {cs : List Value} {x : α} (h : S.rd w cs x) (hb : Below w.heap.size w w') : S.rd w' cs x := S.stab h hb.block

theorem keepc {w w' : World} {p : Addr} {v : Value} (hb : Below w.heap.size w w') (h : w.cell? p = some v) : w'.cell? p = some v := (hb.cell (cell_lt h)).trans h
theorem bl_same {P : Program} {f : FuncId} {args : Array Value} {w : World} {v : Value} (h : Calls P f args w fun e w' => e = .returned v ∧ w = w') : Calls P f args w (Bl w v) := bl_of_quiet (quiet_same h)

/-! ## Arguments -/
section
variable {H : Type} {enc : TypeId × Value → H} {P : Program} {w : World}
/-- Whatever reads as data of type t has shape S. -/
def OpensS {α : Type} (enc : TypeId × Value → H) (P : Program) (w : World) (t : TypeId) (S : Sh α) : Prop :=
  S.m = P.cellsOf t ∧ ∀ (fuel : Nat) (cs : List Value) (y : DataW H × List MemPlace), DataW.trod enc P w 0 (fun _ => true) true fuel t cs = some y → ∃ x, S.rd w cs x
theorem cell1 {α : Type} {R : World → Value → α → Prop} {t : TypeId} (h : Opens enc P w t R) (hl : ∀ (fuel : Nat) (cs : List Value) (y : DataW H × List MemPlace), DataW.trod enc P w 0 (fun _ => true) true fuel t cs = some y → cs.length = 1) :
    ∀ (fuel : Nat) (cs : List Value) (y : DataW H × List MemPlace), DataW.trod enc P w 0 (fun _ => true) true fuel t cs = some y → ∃ x v, cs = [v] ∧ R w v x := fun fuel cs y hh => by
  have hlen := hl fuel cs y hh
  match cs, hlen with
  | [v], _ =>
    obtain ⟨x, hx⟩ := h fuel v y hh
    exact ⟨x, v, rfl, hx⟩
theorem opensS_int {t : TypeId} (ht : P.underlying t = some (.int .i64)) (hc : P.cellsOf t = 1) : OpensS enc P w t Sh.int := ⟨hc.symm, fun fuel cs y h => by
  obtain ⟨x, v, e, hx⟩ := cell1 (opens_int ht) (fun f c z hz => by obtain ⟨n, e, -⟩ := DataW.trod_int ht hz; rw [e]; rfl) fuel cs y h
  exact ⟨x, v, e, hx⟩⟩
theorem opensS_bool {t : TypeId} (ht : P.underlying t = some .bool) (hc : P.cellsOf t = 1) : OpensS enc P w t Sh.bool := ⟨hc.symm, fun fuel cs y h => by
  obtain ⟨x, v, e, hx⟩ := cell1 (opens_bool ht) (fun f c z hz => by obtain ⟨n, e, -⟩ := DataW.trod_bool ht hz; rw [e]; rfl) fuel cs y h
  exact ⟨x, v, e, hx⟩⟩
theorem opensS_str {t : TypeId} (ht : P.underlying t = some .string) (hc : P.cellsOf t = 1) : OpensS enc P w t Sh.str := ⟨hc.symm, fun fuel cs y h => by
  obtain ⟨x, v, e, hx⟩ := cell1 (opens_string ht) (fun f c z hz => by obtain ⟨n, e, -⟩ := DataW.trod_string ht hz; rw [e]; rfl) fuel cs y h
  exact ⟨x, v, e, hx⟩⟩
theorem slice_len1 {t e : TypeId} (ht : P.underlying t = some (.slice e)) (fuel : Nat) (cs : List Value) (y : DataW H × List MemPlace) (h : DataW.trod enc P w 0 (fun _ => true) true fuel t cs = some y) : cs.length = 1 := by
  rcases open_slice ht h with ⟨e, -⟩ | ⟨a, len, cap, m, n, D, Pl, e, -⟩
  · rw [e]; rfl
  · rw [e]; rfl
theorem opensS_ints {t e E : TypeId} (ht : P.underlying t = some (.slice e)) (hc : P.cellsOf e = 1) (he : P.underlying e = some (.int .i64)) (hct : P.cellsOf t = 1) : OpensS enc P w t (Sh.il E) := ⟨hct.symm, fun fuel cs y h => by
  obtain ⟨x, v, e, hx⟩ := cell1 (opens_slice ht hc (opens_int he)).bare (slice_len1 ht) fuel cs y h
  exact ⟨x, v, e, hx⟩⟩
theorem opensS_rows {α : Type} {t e E : TypeId} {A : Sh α} (h0 : 0 < A.m) (ht : P.underlying t = some (.slice e)) (he : OpensS enc P w e A) (hct : P.cellsOf t = 1) : OpensS enc P w t (Sh.rows A E) := ⟨hct.symm, fun fuel cs y h => by
  rcases open_slice ht h with ⟨e, -⟩ | ⟨a, len, cap, m, n, D, Pl, e, -, hl, hm, hmm, -, hx⟩
  · exact ⟨[], none, 0, 0, e, RdN.nil _ _ _ _⟩
  · simp only [if_true] at hmm
    subst hmm
    have hch : ∀ k, k < len → ∃ x vs, w.cells? 0 (a.add (k * A.m)) A.m = some vs ∧ A.rd w vs x := fun k hk => by
      obtain ⟨vs, hv, ht'⟩ := hx k (by omega)
      obtain ⟨x, hr⟩ := he.2 n vs _ ht'
      rw [← he.1] at hv
      exact ⟨x, vs, hv, hr⟩
    obtain ⟨xs, hxl, hxp⟩ : ∃ l : List α, l.length = len ∧ ∀ (k : Nat) x, l[k]? = some x → ∃ vs, w.cells? 0 (a.add (k * A.m)) A.m = some vs ∧ A.rd w vs x := by
      clear hx hl hm e
      induction len with
      | zero => exact ⟨[], rfl, fun k x hx => by simp at hx⟩
      | succ len ih =>
        obtain ⟨l, hl, hp⟩ := ih fun k hk => hch k (by omega)
        obtain ⟨x, hx⟩ := hch len (by omega)
        refine ⟨l ++ [x], by simp [hl], fun k y hy => ?_⟩
        by_cases hk : k < len
        · rw [List.getElem?_append_left (by omega)] at hy
          exact hp k y hy
        · have hk2 := (List.getElem?_eq_some_iff.1 hy).1
          simp at hk2
          have hkn : k = len := by omega
          subst hkn
          rw [List.getElem?_append_right (by omega), hl, Nat.sub_self] at hy
          simp at hy
          subst hy
          exact hx
    refine ⟨xs, some a, len, m, e, hxl, by omega, fun k x hk => ?_⟩
    obtain ⟨vs, hv, hr⟩ := hxp k x hk
    obtain ⟨_, hcl, hat⟩ := World.cells?_some hv
    have hspot : a.spot = none := by
      have hk0 : 0 < xs.length := by have := (List.getElem?_eq_some_iff.1 hk).1; omega
      obtain ⟨vs', hv', -⟩ := hxp 0 _ (List.getElem?_eq_getElem hk0)
      obtain ⟨_, hcl', hat'⟩ := World.cells?_some hv'
      have h1 := hat' 0 h0
      have h2 : vs'[0]? = some (vs'[0]'(by omega)) := List.getElem?_eq_getElem (by omega)
      rw [h2] at h1
      have := World.cell?_spot h1
      simpa [Addr.add] using this
    obtain ⟨b, o, spot⟩ := a
    simp only at hspot
    subst hspot
    refine ⟨b, o, vs, rfl, hcl, fun i v hi => ?_, hr⟩
    have him : i < A.m := by have := (List.getElem?_eq_some_iff.1 hi).1; omega
    have h1 := hat i him
    rw [hi, add_add] at h1
    have ea : (⟨b, o, none⟩ : Addr).add (k * A.m + i) = ⟨b, o + k * A.m + i, none⟩ := by
      unfold Addr.add
      split
      · rename_i h0
        rw [Addr.mk.injEq]
        exact ⟨rfl, by show o = o + k * A.m + i; omega, rfl⟩
      · rw [Addr.mk.injEq]
        exact ⟨rfl, by show o + (k * A.m + i) = o + k * A.m + i; omega, rfl⟩
    rw [← ea]
    exact h1⟩
/-- The fields of a struct from a place on have shape S. -/
def OpensF {α : Type} (enc : TypeId × Value → H) (P : Program) (w : World) (fs : List Field) (off : Nat) (S : Sh α) : Prop :=
  ∀ (n : Nat) (cs : List Value), cs.length = off + S.m → (∀ f ∈ fs, ∃ y, DataW.trod enc P w 0 (fun _ => true) true n f.type ((cs.drop f.offset).take (P.cellsOf f.type)) = some y) → ∃ x, S.rd w (cs.drop off) x
theorem opensF_last {α : Type} {f : Field} {off : Nat} {A : Sh α} (ho : f.offset = off) (h : OpensS enc P w f.type A) : OpensF enc P w [f] off A := fun n cs hl hf => by
  obtain ⟨y, hy⟩ := hf f (List.mem_singleton.2 rfl)
  rw [ho, List.take_of_length_le (by rw [List.length_drop, hl, ← h.1]; omega)] at hy
  exact h.2 n _ y hy
theorem opensF_cons {α β : Type} {f : Field} {fs : List Field} {off : Nat} {A : Sh α} {B : Sh β} (ho : f.offset = off) (h : OpensS enc P w f.type A) (h' : OpensF enc P w fs (off + A.m) B) : OpensF enc P w (f :: fs) off (Sh.pair A B) := fun n cs hl hf => by
  have hl' : cs.length = off + (A.m + B.m) := hl
  obtain ⟨y, hy⟩ := hf f (List.mem_cons_self ..)
  obtain ⟨x, hx⟩ := h.2 n _ y hy
  obtain ⟨x', hx'⟩ := h' n cs (by omega) fun g hg => hf g (List.mem_cons_of_mem _ hg)
  rw [ho, ← h.1] at hx
  refine ⟨(x, x'), (cs.drop off).take A.m, cs.drop (off + A.m), ?_, hx, hx'⟩
  rw [← List.drop_drop, List.take_append_drop]
theorem opensS_struct {α : Type} {t : TypeId} {fs : Array Field} {S : Sh α} (ht : P.underlying t = some (.struct fs)) (hm : S.m = P.cellsOf t) (h : OpensF enc P w fs.toList 0 S) : OpensS enc P w t S := ⟨hm, fun fuel cs y hh => by
  obtain ⟨xs, n, -, -, hlen, hxl, hf⟩ := DataW.trod_struct ht hh
  obtain ⟨x, hx⟩ := h n cs (by rw [hlen, hm, Nat.zero_add]) fun f hfm => by
    obtain ⟨i, hi⟩ := List.getElem?_of_mem hfm
    have hi' : fs[i]? = some f := by simpa using hi
    have hil := (Array.getElem?_eq_some_iff.1 hi').1
    have hg := hf i f hi'
    exact ⟨xs[i]'(by omega), by rw [hg]; exact List.getElem?_eq_getElem (by omega)⟩
  exact ⟨x, by simpa using hx⟩⟩
/-- A struct that comes in by value. -/
theorem open_struct {α : Type} {r : Reach} {b0 : Nat} {t : TypeId} {fs : Array Field} {v : Value} {d : DataW H} {p : List MemPlace} {S : Sh α} (ht : P.underlying t = some (.struct fs)) (hS : OpensS enc P w t S)
    (hv : Value.okWide P w r b0 t v) (h : DataW.Trod enc P w 0 (fun _ => true) true t v d p) : ∃ cs x, v = .agg cs ∧ S.rd w cs.toList x := by
  obtain ⟨cs, rfl, -⟩ := okWide_struct ht hv
  obtain ⟨fuel, hf⟩ := h
  obtain ⟨x, hx⟩ := hS.2 fuel _ _ hf
  exact ⟨cs, x, rfl, by simpa [Value.cells] using hx⟩
theorem open_shape {α : Type} {t : TypeId} {v : Value} {d : DataW H} {p : List MemPlace} {S : Sh α} (hS : OpensS enc P w t S) (h1 : v.cells.toList = [v]) (h : DataW.Trod enc P w 0 (fun _ => true) true t v d p) : ∃ x, S.rd w [v] x := by
  obtain ⟨fuel, hf⟩ := h
  obtain ⟨x, hx⟩ := hS.2 fuel _ _ hf
  rw [h1] at hx
  exact ⟨x, hx⟩
end
end Go.Proofs.YtidjocikbmkjbaaGreat
namespace Go.Proofs.YtidjocikbmkjbaaGreat
open Go.RowKit

section
variable {α : Type} (mk : Int → α → α) (mc : α → Nat)
/-- The elements marked one after the other, from k on. -/
def mkL : Int → List α → List α
  | _, [] => []
  | k, x :: l => mk k x :: mkL (k + mc x) l
theorem mkL_len : ∀ (k : Int) (xs : List α), (mkL mk mc k xs).length = xs.length
  | _, [] => rfl
  | k, x :: l => by simp [mkL, mkL_len]
/-- Marked as far as the j-th element, the next number being k. -/
def MkAt (k0 : Int) (xs ys : List α) (j : Nat) (k : Int) : Prop := ys.take j ++ mkL mk mc k (xs.drop j) = mkL mk mc k0 xs ∧ ys.drop j = xs.drop j ∧ ys.length = xs.length ∧ k + cntS mc (xs.drop j) = k0 + cntS mc xs ∧ k0 ≤ k
def HkAt (k0 : Int) (xs : List α) (j : Nat) (k : Int) : Prop := mkL mk mc k (xs.drop j) = (mkL mk mc k0 xs).drop j ∧ k + cntS mc (xs.drop j) = k0 + cntS mc xs ∧ k0 ≤ k
end
section
variable {α : Type} {mk : Int → α → α} {mc : α → Nat} {k0 k : Int} {xs ys : List α} {j : Nat} {x : α}
theorem MkAt.start (k0 : Int) (xs : List α) : MkAt mk mc k0 xs xs 0 k0 := ⟨by simp, rfl, rfl, by simp, Int.le_refl _⟩
theorem MkAt.step (h : MkAt mk mc k0 xs ys j k) (hd : xs.drop j = x :: xs.drop (j + 1)) : MkAt mk mc k0 xs (ys.set j (mk k x)) (j + 1) (k + mc x) := by
  obtain ⟨h1, h2, h3, h4, h5⟩ := h
  have hjl : j < xs.length := by
    rcases Nat.lt_or_ge j xs.length with h | h
    · exact h
    · rw [List.drop_eq_nil_of_le h] at hd; cases hd
  have hjy : j < ys.length := by omega
  refine ⟨?_, ?_, by simp [h3], ?_, by omega⟩
  · rw [← h1, hd, mkL, List.take_add_one, List.getElem?_set_self hjy, List.take_set_of_le (Nat.le_refl j)]
    simp
  · rw [List.drop_set_of_lt (by omega)]
    have e1 : (ys.drop j).drop 1 = (xs.drop j).drop 1 := by rw [h2]
    simpa [List.drop_drop] using e1
  · rw [hd, cntS_cons] at h4
    omega
theorem MkAt.done (h : MkAt mk mc k0 xs ys j k) (hj : xs.drop j = []) : ys = mkL mk mc k0 xs ∧ k = k0 + cntS mc xs := by
  obtain ⟨h1, h2, h3, h4, h5⟩ := h
  rw [hj] at h1 h2 h4
  rw [mkL, List.append_nil] at h1
  rw [cntS_nil] at h4
  refine ⟨?_, by omega⟩
  rw [← h1]
  have := List.take_append_drop j ys
  rw [h2, List.append_nil] at this
  exact this.symm
theorem MkAt.left (h : MkAt mk mc k0 xs ys j k) (hd : xs.drop j = x :: xs.drop (j + 1)) : ys[j]? = some x ∧ k0 ≤ k ∧ k + mc x ≤ k0 + cntS mc xs := by
  obtain ⟨h1, h2, h3, h4, h5⟩ := h
  rw [hd, cntS_cons] at h4
  have e := congrArg (fun l => l[0]?) (h2.trans hd)
  simp [List.getElem?_drop] at e
  exact ⟨e, h5, by omega⟩
theorem HkAt.start (k0 : Int) (xs : List α) : HkAt mk mc k0 xs 0 k0 := ⟨rfl, rfl, Int.le_refl _⟩
theorem HkAt.step (h : HkAt mk mc k0 xs j k) (hd : xs.drop j = x :: xs.drop (j + 1)) : HkAt mk mc k0 xs (j + 1) (k + mc x) := by
  obtain ⟨h1, h2, h3⟩ := h
  rw [hd, mkL] at h1
  rw [hd, cntS_cons] at h2
  refine ⟨?_, by omega, by omega⟩
  have := congrArg (fun l => l.drop 1) h1
  simpa [List.drop_drop] using this
theorem HkAt.left (h : HkAt mk mc k0 xs j k) (hd : xs.drop j = x :: xs.drop (j + 1)) : (mkL mk mc k0 xs)[j]? = some (mk k x) ∧ k0 ≤ k ∧ k + mc x ≤ k0 + cntS mc xs := by
  obtain ⟨h1, h2, h3⟩ := h
  rw [hd, mkL] at h1
  rw [hd, cntS_cons] at h2
  have e := congrArg (fun l => l[0]?) h1
  simp [List.getElem?_drop] at e
  exact ⟨e.symm, h3, by omega⟩
theorem HkAt.done (h : HkAt mk mc k0 xs j k) (hj : xs.drop j = []) : k = k0 + cntS mc xs := by
  obtain ⟨-, h2, -⟩ := h
  rw [hj, cntS_nil] at h2
  omega
end
theorem set_same {l : List Value} {i : Nat} {v : Value} (h : l[i]? = some v) : l.set i v = l := by
  apply List.ext_getElem?
  intro j
  rw [List.getElem?_set]
  by_cases e : i = j
  · subst e
    rw [if_pos rfl, if_pos (List.getElem?_eq_some_iff.1 h).1, h]
  · rw [if_neg e]
theorem set_get_ne {l : List Value} {i j : Nat} {v u : Value} (h : l[j]? = some u) (hij : i ≠ j) : (l.set i v)[j]? = some u := by rw [List.getElem?_set_ne hij, h]
/-- A row of a call's own of which something within a list of blocks has changed that does not hold it. -/
theorem row_chg {w w' : World} {base size n : Nat} {e : TypeId} {v : Value} {xs : List Value} {bl : List Nat} (h : w.ownsRow base e size v n xs) (hc : ChgB bl w w') (hn : ∀ b, v.ownBlock = some b → b ∉ bl) : w'.ownsRow base e size v n xs :=
  own_same h fun b hb => hc.block b (h.lt b hb).2 (hn b hb)
theorem Sh.ochg {α : Type} {S : Sh α} {w w' : World} {cs : List Value} {x : α} {b1 bl : List Nat} (h : S.own w cs x b1) (hc : ChgB bl w w') (hn : ∀ b ∈ b1, b ∉ bl) : S.own w' cs x b1 := S.osame h fun b hb => hc.block b (S.olt h b hb) (hn b hb)
theorem Sh.oset' {α : Type} {S : Sh α} {w : World} {cs : List Value} {x : α} {b1 : List Nat} (h : S.own w cs x b1) {p : Addr} (hn : p.block ∉ b1) (v : Value) : S.own (w.setCell p v) cs x b1 :=
  S.osame h fun b hb => Below.heap_setCell w p v b (fun e => hn (e ▸ hb))
theorem Parts.slice {α : Type} {A : Sh α} {E : TypeId} {w : World} {v : Value} {xs : List α} {css : List (List Value)} {bls : List (List Nat)} (h : Parts A E w v xs css bls) {j : Nat} (hj : j < xs.length) : ∃ g cap, v = .slice (some ⟨g, 0, none⟩) xs.length cap := by
  rcases h.row.2 with ⟨_, h0⟩ | ⟨g, cap, cur, hv, _⟩
  · omega
  · exact ⟨g, cap, hv⟩
/-- A mark laid: the next number, the thing marked, nothing else changed. -/
def MkE {α : Type} (S : Sh α) (w : World) (cs : List Value) (x : α) (bl : List Nat) (k : Int) (e : Ending) (w' : World) : Prop := e = .returned (.int .i64 k) ∧ S.own w' cs x bl ∧ ChgB bl w w'
theorem nd_head {v : Value} {bls : List (List Nat)} (h : (obl v ++ bls.flatten).Nodup) {g n c : Nat} (hv : v = .slice (some ⟨g, 0, none⟩) n c) : g ∉ bls.flatten := by
  subst hv
  have := (List.nodup_append.1 h).2.2 g (mem_obl.2 rfl)
  exact fun hm => this g hm rfl
theorem nd_flat : ∀ {bls : List (List Nat)}, bls.flatten.Nodup → ∀ b ∈ bls, b.Nodup
  | [], _, b, hb => by simp at hb
  | x :: l, h, b, hb => by
    rw [List.flatten_cons, List.nodup_append] at h
    rcases List.mem_cons.1 hb with rfl | hb
    · exact h.1
    · exact nd_flat h.2.1 b hb
theorem nd_el {v : Value} {bls : List (List Nat)} (h : (obl v ++ bls.flatten).Nodup) {j : Nat} {bk : List Nat} (hj : bls[j]? = some bk) : bk.Nodup := by
  have h2 := (List.nodup_append.1 h).2.1
  exact nd_flat h2 bk (List.mem_of_getElem? hj)
theorem nd_l {a b : List Nat} (h : (a ++ b).Nodup) : a.Nodup := (List.nodup_append.1 h).1
theorem nd_r {a b : List Nat} (h : (a ++ b).Nodup) : b.Nodup := (List.nodup_append.1 h).2.1
theorem nd_x {a b : List Nat} (h : (a ++ b).Nodup) : ∀ x ∈ a, x ∉ b := fun x hx hy => (List.nodup_append.1 h).2.2 x hx x hy rfl
theorem nd_y {a b : List Nat} (h : (a ++ b).Nodup) : ∀ x ∈ b, x ∉ a := fun x hx hy => (List.nodup_append.1 h).2.2 x hy x hx rfl

theorem markIl_any (v : Value) (xs : List Int) (bl : List Nat) (k : Int) (w : World) (h : (Sh.il 3).own w [v] xs bl) (h0 : 0 ≤ k) (h1 : k + xs.length ≤ 4611686018427387904) :
    Calls Tryz.prog 16 #[v, .int .i64 k] w fun e w' => e = .returned (.int .i64 (k + xs.length)) ∧ (Sh.il 3).own w' [v] (nums k xs.length) bl ∧ ChgB bl w w' := by
  obtain ⟨v', e, ho, hx, rfl⟩ := h
  injection e with e _
  subst e
  obtain ⟨A, c, rfl⟩ := own_slice ho
  refine (markIntS_any A xs.length c xs k 0 w ho h0 h1).mono fun e w' ⟨he, ho', hg⟩ => ⟨he, ⟨_, rfl, by rw [nums_len]; exact ho', nums_bounds h0 h1, rfl⟩, ChgB.grown hg⟩
theorem heldIl_any (A : Option Addr) (n c : Nat) (xs : List Int) (k : Int) (w : World) (h : RdL RI w A n (nums k xs.length)) (h0 : 0 ≤ k) (h1 : k + xs.length ≤ 4611686018427387904) :
    Calls Tryz.prog 36 #[.slice A n c, .int .i64 k] w (Bl w (.int .i64 (k + xs.length))) := by
  have hn : n = xs.length := by rw [← h.len, nums_len]
  subst hn
  exact bl_same (heldIntS_any A _ c k w h h0 h1)
theorem Blk.chg' {w w' : World} {g lo hi : Nat} {t : TypeId} {cs : Array Value} (h : Blk w g t cs) (hc : Chg lo hi w w') (hg : g < lo ∨ hi ≤ g) : Blk w' g t cs := (hc.block g h.lt hg).trans h
theorem bne_self (b : Bool) : (b != b) = false := by cases b <;> rfl
theorem szIl_any (v : Value) (xs : List Int) (left : Int) (w : World) (h : (Sh.il 3).rd w [v] xs) (h0 : 0 ≤ left) (h1 : left ≤ 1048576) :
    Calls Tryz.prog 20 #[v, .int .i64 left] w (Bl w (.int .i64 (szR xs.length left))) := by
  obtain ⟨v', e, A, n, c, rfl, r⟩ := h
  injection e with e _
  subst e
  rw [← szInts_szR]
  exact bl_same (szIntS_any A n c xs left w r (by omega) h1)
theorem toIl_any (v : Value) (xs : List Int) (w : World) (h : (Sh.il 3).rd w [v] xs) (hn : xs.length ≤ 1048576) :
    Calls Tryz.prog 9 #[v] w (ToV (Sh.il 3) w xs) := by
  obtain ⟨v', e, A, n, c, rfl, r⟩ := h
  injection e with e _
  subst e
  have hl := r.len
  refine (toIntS_any A n c xs w r (by omega)).mono fun e w' ⟨g, he, hg, ho, hb⟩ => ⟨_, [g], he, ⟨_, rfl, by rw [hl]; exact own_mono ho (Nat.zero_le _), r.bounds, rfl⟩, ⟨by simp, fun b hb' => ?_⟩, hb⟩
  have := List.mem_singleton.1 hb'
  subst this
  exact ho.lt _ rfl
theorem eqIl_any (v u : Value) (xs ys : List Int) (w : World) (h : (Sh.il 3).rd w [v] xs) (h' : (Sh.il 3).rd w [u] ys) :
    Calls Tryz.prog 13 #[v, u] w (Bl w (.bool (eqC xs ys))) := by
  obtain ⟨v', e, A, n, c, rfl, r⟩ := h
  injection e with e _
  subst e
  obtain ⟨u', e, B, m, d, rfl, r'⟩ := h'
  injection e with e _
  subst e
  rw [← eqL_dec]
  exact bl_of_quiet (eqIntS_any A B n m c d xs ys w r r')
theorem heldIv_any (v : Value) (xs : List Int) (k : Int) (w : World) (h : (Sh.il 3).rd w [v] (nums k xs.length)) (h0 : 0 ≤ k) (h1 : k + xs.length ≤ 4611686018427387904) :
    Calls Tryz.prog 36 #[v, .int .i64 k] w (Bl w (.int .i64 (k + xs.length))) := by
  obtain ⟨v', e, A, n, c, rfl, r⟩ := h
  injection e with e _
  subst e
  exact heldIl_any A n c xs k w r h0 h1
/-! ## What the functions hand back -/
def RdV {α : Type} (S : Sh α) (w : World) (x : α) (ok : Bool) (e : Ending) (w' : World) : Prop := ∃ v, e = .returned (.tuple #[v, .bool ok]) ∧ S.rd w' [v] x ∧ Below w.heap.size w w'
def RdA {α : Type} (S : Sh α) (w : World) (x : α) (ok : Bool) (e : Ending) (w' : World) : Prop := ∃ cs, e = .returned (.tuple #[.agg cs.toArray, .bool ok]) ∧ S.rd w' cs x ∧ Below w.heap.size w w'
def OwV {α : Type} (S : Sh α) (w : World) (x : α) (ok : Bool) (e : Ending) (w' : World) : Prop := ∃ v bl, e = .returned (.tuple #[v, .bool ok]) ∧ S.own w' [v] x bl ∧ Iv w.heap.size w'.heap.size bl ∧ Below w.heap.size w w'
def OwA {α : Type} (S : Sh α) (w : World) (x : α) (ok : Bool) (e : Ending) (w' : World) : Prop := ∃ cs bl, e = .returned (.tuple #[.agg cs.toArray, .bool ok]) ∧ S.own w' cs x bl ∧ Iv w.heap.size w'.heap.size bl ∧ Below w.heap.size w w'
theorem OwV.rd {α : Type} {S : Sh α} {w w' : World} {x : α} {ok : Bool} {e : Ending} (h : OwV S w x ok e w') : RdV S w x ok e w' := by
  obtain ⟨v, bl, h1, h2, h3, h4⟩ := h
  exact ⟨v, h1, S.ord h2, h4⟩
theorem OwA.rd {α : Type} {S : Sh α} {w w' : World} {x : α} {ok : Bool} {e : Ending} (h : OwA S w x ok e w') : RdA S w x ok e w' := by
  obtain ⟨v, bl, h1, h2, h3, h4⟩ := h
  exact ⟨v, h1, S.ord h2, h4⟩
end Go.Proofs.YtidjocikbmkjbaaGreat
