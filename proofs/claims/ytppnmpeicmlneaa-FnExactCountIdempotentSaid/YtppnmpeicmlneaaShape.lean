
/- Shapes: as what the cells of a value read, and which blocks of a call's own they hold. Ints, bools, strings, pairs, []int, slices of structs. -/
import Derived.Test.YtppnmpeicmlneaaMark
namespace Go.Proofs.Ytppnmpeicmlneaa
open Go.RowKit

/-- A row of elements of m cells each reads as a list. -/
def RdN {α : Type} (m : Nat) (R : World → List Value → α → Prop) (w : World) (A : Option Addr) (n : Nat) (xs : List α) : Prop :=
  xs.length = n ∧ n ≤ maxLen ∧ ∀ k x, xs[k]? = some x → ∃ b o vs, A = some ⟨b, o, none⟩ ∧ vs.length = m ∧ (∀ i v, vs[i]? = some v → w.cell? ⟨b, o + k * m + i, none⟩ = some v) ∧ R w vs x
def Same (w w' : World) : Prop := ∀ b, b < w.heap.size → w'.heap[b]? = w.heap[b]?
theorem Below.same' {w w' : World} (h : Below w.heap.size w w') : Same w w' := h.block
structure Sh (α : Type) where
  m : Nat
  rd : World → List Value → α → Prop
  own : World → List Value → α → List Nat → Prop
  cnt : α → Nat
  rd_len : ∀ {w : World} {cs : List Value} {x : α}, rd w cs x → cs.length = m
  stab : ∀ {w w' : World} {cs : List Value} {x : α}, rd w cs x → Same w w' → rd w' cs x
  ord : ∀ {w : World} {cs : List Value} {x : α} {bl : List Nat}, own w cs x bl → rd w cs x
  olt : ∀ {w : World} {cs : List Value} {x : α} {bl : List Nat}, own w cs x bl → ∀ b ∈ bl, b < w.heap.size
  osame : ∀ {w w' : World} {cs : List Value} {x : α} {bl : List Nat}, own w cs x bl → (∀ b ∈ bl, w'.heap[b]? = w.heap[b]?) → own w' cs x bl

def Sh.int : Sh Int where
  m := 1
  rd := fun w cs x => ∃ v, cs = [v] ∧ RI w v x
  own := fun w cs x bl => ∃ v, cs = [v] ∧ RI w v x ∧ bl = []
  cnt := fun _ => 0
  rd_len := fun ⟨_, e, _⟩ => by rw [e]; rfl
  stab := fun ⟨v, e, h⟩ _ => ⟨v, e, h⟩
  ord := fun ⟨v, e, h, _⟩ => ⟨v, e, h⟩
  olt := fun ⟨_, _, _, e⟩ b hb => by rw [e] at hb; simp at hb
  osame := fun ⟨v, e, h, e'⟩ _ => ⟨v, e, h, e'⟩
def Sh.bool : Sh Bool where
  m := 1
  rd := fun w cs x => ∃ v, cs = [v] ∧ RB w v x
  own := fun w cs x bl => ∃ v, cs = [v] ∧ RB w v x ∧ bl = []
  cnt := fun _ => 0
  rd_len := fun ⟨_, e, _⟩ => by rw [e]; rfl
  stab := fun ⟨v, e, h⟩ _ => ⟨v, e, h⟩
  ord := fun ⟨v, e, h, _⟩ => ⟨v, e, h⟩
  olt := fun ⟨_, _, _, e⟩ b hb => by rw [e] at hb; simp at hb
  osame := fun ⟨v, e, h, e'⟩ _ => ⟨v, e, h, e'⟩
def Sh.str : Sh ByteArray where
  m := 1
  rd := fun w cs x => ∃ v, cs = [v] ∧ RS w v x
  own := fun w cs x bl => ∃ v, cs = [v] ∧ RS w v x ∧ bl = []
  cnt := fun s => s.size
  rd_len := fun ⟨_, e, _⟩ => by rw [e]; rfl
  stab := fun ⟨v, e, h⟩ _ => ⟨v, e, h⟩
  ord := fun ⟨v, e, h, _⟩ => ⟨v, e, h⟩
  olt := fun ⟨_, _, _, e⟩ b hb => by rw [e] at hb; simp at hb
  osame := fun ⟨v, e, h, e'⟩ _ => ⟨v, e, h, e'⟩
def Sh.pair {α β : Type} (A : Sh α) (B : Sh β) : Sh (α × β) where
  m := A.m + B.m
  rd := fun w cs p => ∃ c1 c2, cs = c1 ++ c2 ∧ A.rd w c1 p.1 ∧ B.rd w c2 p.2
  own := fun w cs p bl => ∃ c1 c2 b1 b2, cs = c1 ++ c2 ∧ bl = b1 ++ b2 ∧ A.own w c1 p.1 b1 ∧ B.own w c2 p.2 b2
  cnt := fun p => A.cnt p.1 + B.cnt p.2
  rd_len := fun ⟨c1, c2, e, h1, h2⟩ => by rw [e, List.length_append, A.rd_len h1, B.rd_len h2]
  stab := fun ⟨c1, c2, e, h1, h2⟩ hs => ⟨c1, c2, e, A.stab h1 hs, B.stab h2 hs⟩
  ord := fun ⟨c1, c2, b1, b2, e, e', h1, h2⟩ => ⟨c1, c2, e, A.ord h1, B.ord h2⟩
  olt := fun ⟨c1, c2, b1, b2, e, e', h1, h2⟩ b hb => by
    rw [e', List.mem_append] at hb
    exact hb.elim (A.olt h1 b) (B.olt h2 b)
  osame := fun ⟨c1, c2, b1, b2, e, e', h1, h2⟩ hs => ⟨c1, c2, b1, b2, e, e', A.osame h1 fun b hb => hs b (by rw [e']; exact List.mem_append_left _ hb), B.osame h2 fun b hb => hs b (by rw [e']; exact List.mem_append_right _ hb)⟩

def InR (x : Int) : Prop := -9223372036854775808 ≤ x ∧ x ≤ 9223372036854775807
def obl (v : Value) : List Nat := v.ownBlock.toList
theorem mem_obl {v : Value} {b : Nat} : b ∈ obl v ↔ v.ownBlock = some b := by unfold obl; simp
/-- []int: E is the type of its elements. -/
def Sh.il (E : TypeId) : Sh (List Int) where
  m := 1
  rd := fun w cs xs => ∃ v, cs = [v] ∧ RV RI w v xs
  own := fun w cs xs bl => ∃ v, cs = [v] ∧ w.ownsRow 0 E 1 v xs.length (ints xs) ∧ (∀ x ∈ xs, InR x) ∧ bl = obl v
  cnt := fun xs => xs.length
  rd_len := fun ⟨_, e, _⟩ => by rw [e]; rfl
  stab := fun ⟨v, e, h⟩ hs => ⟨v, e, stab_RV stab_RI _ _ _ _ hs h⟩
  ord := fun {w} {cs} {xs} {bl} ⟨v, e, h, hx, _⟩ => by
    obtain ⟨A, c, rfl⟩ := own_slice h
    exact ⟨_, e, A, xs.length, c, rfl, rd_of_own h (RI_ints hx)⟩
  olt := fun ⟨v, _, h, _, e⟩ b hb => by rw [e, mem_obl] at hb; exact (h.lt b hb).2
  osame := fun ⟨v, e, h, hx, e'⟩ hs => ⟨v, e, own_same h fun b hb => hs b (by rw [e', mem_obl]; exact hb), hx, e'⟩

theorem flat_get : ∀ {css : List (List Value)} {m : Nat}, (∀ c ∈ css, c.length = m) → ∀ (k i : Nat), i < m → css.flatten[k * m + i]? = (css[k]?).bind fun c => c[i]?
  | [], m, _, k, i, _ => by simp
  | c :: l, m, h, 0, i, hi => by
    have hc := h c (List.mem_cons_self ..)
    rw [List.flatten_cons, Nat.zero_mul, Nat.zero_add, List.getElem?_append_left (by omega)]
    rfl
  | c :: l, m, h, k + 1, i, hi => by
    have hc := h c (List.mem_cons_self ..)
    have ih := flat_get (fun c' hc' => h c' (List.mem_cons_of_mem _ hc')) k i hi (css := l)
    have e : (k + 1) * m + i = m + (k * m + i) := by rw [Nat.succ_mul]; omega
    rw [List.flatten_cons, List.getElem?_append_right (by omega), hc, e, Nat.add_sub_cancel_left, ih]
    rfl
theorem flat_len : ∀ {css : List (List Value)} {m : Nat}, (∀ c ∈ css, c.length = m) → css.flatten.length = css.length * m
  | [], m, _ => by simp
  | c :: l, m, h => by
    rw [List.flatten_cons, List.length_append, h c (List.mem_cons_self ..), flat_len fun c' hc' => h c' (List.mem_cons_of_mem _ hc'), List.length_cons, Nat.succ_mul]
    omega
/-- A slice of structs of the call's own, its elements' cells and blocks by name. -/
structure Parts {α : Type} (A : Sh α) (E : TypeId) (w : World) (v : Value) (xs : List α) (css : List (List Value)) (bls : List (List Nat)) : Prop where
  row : w.ownsRow 0 E A.m v xs.length css.flatten
  l1 : css.length = xs.length
  l2 : bls.length = xs.length
  el : ∀ (k : Nat) c x bk, css[k]? = some c → xs[k]? = some x → bls[k]? = some bk → A.own w c x bk
section
variable {α : Type} {A : Sh α} {E : TypeId} {w w' : World} {v : Value} {xs : List α} {css : List (List Value)} {bls : List (List Nat)}
theorem Parts.all (h : Parts A E w v xs css bls) : ∀ c ∈ css, c.length = A.m := by
  intro c hc
  obtain ⟨k, hk⟩ := List.getElem?_of_mem hc
  have hkl := (List.getElem?_eq_some_iff.1 hk).1
  have h1 := h.l1
  have h2 := h.l2
  exact A.rd_len (A.ord (h.el k c _ _ hk (List.getElem?_eq_getElem (by omega)) (List.getElem?_eq_getElem (by omega))))
theorem Parts.same (h : Parts A E w v xs css bls) (hs : ∀ b ∈ obl v ++ bls.flatten, w'.heap[b]? = w.heap[b]?) : Parts A E w' v xs css bls :=
  ⟨own_same h.row fun b hb => hs b (List.mem_append_left _ (mem_obl.2 hb)), h.l1, h.l2, fun k c x bk h1 h2 h3 => A.osame (h.el k c x bk h1 h2 h3) fun b hb => hs b (List.mem_append_right _ (List.mem_flatten.2 ⟨bk, List.mem_of_getElem? h3, hb⟩))⟩
theorem Parts.lt (h : Parts A E w v xs css bls) : ∀ b ∈ obl v ++ bls.flatten, b < w.heap.size := by
  intro b hb
  rcases List.mem_append.1 hb with hb | hb
  · exact (h.row.lt b (mem_obl.1 hb)).2
  · obtain ⟨bk, hbk, hb⟩ := List.mem_flatten.1 hb
    obtain ⟨k, hk⟩ := List.getElem?_of_mem hbk
    have hkl := (List.getElem?_eq_some_iff.1 hk).1
    have h1 := h.l1
    have h2 := h.l2
    exact A.olt (h.el k _ _ bk (List.getElem?_eq_getElem (by omega)) (List.getElem?_eq_getElem (by omega)) hk) b hb
theorem own_len_le {base size : Nat} {e : TypeId} {n : Nat} {ys : List Value} (h : w.ownsRow base e size v n ys) : n ≤ maxLen := by
  rcases h.2 with ⟨_, h0⟩ | ⟨g, cap, cur, _, _, _, h1, h2, _⟩
  · omega
  · omega
theorem Parts.cell (h : Parts A E w v xs css bls) {g n c : Nat} (hv : v = .slice (some ⟨g, 0, none⟩) n c) {k i : Nat} {cs : List Value} {u : Value} (hk : css[k]? = some cs) (hi : cs[i]? = some u) : w.cell? ⟨g, k * A.m + i, none⟩ = some u := by
  have hall := h.all
  have hcl := hall cs (List.mem_of_getElem? hk)
  have him : i < A.m := by have := (List.getElem?_eq_some_iff.1 hi).1; omega
  have hkl : k < xs.length := by have := (List.getElem?_eq_some_iff.1 hk).1; have := h.l1; omega
  have hr := h.row
  subst hv
  have hn : n = xs.length := by
    rcases hr.2 with ⟨h0, _⟩ | ⟨g', cap, cur, h0, _⟩
    · cases h0
    · injection h0
  subst hn
  have hlt : k * A.m + i < xs.length * A.m := by
    have := Nat.mul_le_mul_right A.m (show k + 1 ≤ xs.length from hkl)
    rw [Nat.succ_mul] at this
    omega
  rw [hr.cellAt _ hlt, flat_get hall k i him, hk]
  exact hi
theorem Parts.rd (h : Parts A E w v xs css bls) : ∃ B c, v = .slice B xs.length c ∧ RdN A.m A.rd w B xs.length xs := by
  obtain ⟨B, c, rfl⟩ := own_slice h.row
  refine ⟨B, c, rfl, rfl, own_len_le h.row, fun k x hk => ?_⟩
  have hkl := (List.getElem?_eq_some_iff.1 hk).1
  have h1 := h.l1
  have h2 := h.l2
  have hc : css[k]? = some (css[k]'(by omega)) := List.getElem?_eq_getElem (by omega)
  have hb : bls[k]? = some (bls[k]'(by omega)) := List.getElem?_eq_getElem (by omega)
  have ho := h.el k _ x _ hc hk hb
  obtain ⟨g, rfl⟩ : ∃ g, B = some ⟨g, 0, none⟩ := by
    rcases h.row.2 with ⟨_, h0⟩ | ⟨g, cap, cur, h0, _⟩
    · omega
    · injection h0 with h0
      exact ⟨g, h0⟩
  refine ⟨g, 0, _, rfl, h.all _ (List.mem_of_getElem? hc), fun i u hi => ?_, A.ord ho⟩
  rw [Nat.zero_add]
  exact h.cell rfl hc hi
end
/-- A slice of structs: E is the type of its elements. -/
def Sh.rows {α : Type} (A : Sh α) (E : TypeId) : Sh (List α) where
  m := 1
  rd := fun w cs xs => ∃ B n c, cs = [.slice B n c] ∧ RdN A.m A.rd w B n xs
  own := fun w cs xs bl => ∃ v css bls, cs = [v] ∧ Parts A E w v xs css bls ∧ bl = obl v ++ bls.flatten
  cnt := fun xs => xs.length + (xs.map A.cnt).sum
  rd_len := fun ⟨_, _, _, e, _⟩ => by rw [e]; rfl
  stab := fun {w} {w'} {cs} {xs} ⟨B, n, c, e, h1, h2, h3⟩ hs => ⟨B, n, c, e, h1, h2, fun k x hk => by
    obtain ⟨b, o, vs, e1, hl, hc, hr⟩ := h3 k x hk
    exact ⟨b, o, vs, e1, hl, fun i v hi => (World.cell?_of_block (w := w) (hs b (cell_lt (hc i v hi)))).trans (hc i v hi), A.stab hr hs⟩⟩
  ord := fun {w} {cs} {xs} {bl} ⟨v, css, bls, e, h, _⟩ => by
    obtain ⟨B, c, hv, hr⟩ := h.rd
    exact ⟨B, xs.length, c, by rw [e, hv], hr⟩
  olt := fun {w} {cs} {xs} {bl} ⟨v, css, bls, _, h, e⟩ b hb => by rw [e] at hb; exact h.lt b hb
  osame := fun {w} {w'} {cs} {xs} {bl} ⟨v, css, bls, e, h, e'⟩ hs => ⟨v, css, bls, e, h.same fun b hb => hs b (by rw [e']; exact hb), e'⟩

section
variable {α : Type} {m : Nat} {R : World → List Value → α → Prop} {w w' : World} {A : Option Addr} {n : Nat} {xs : List α}
theorem RdN.at (h : RdN m R w A n xs) {k : Nat} (hk : k < n) : ∃ b o vs x, A = some ⟨b, o, none⟩ ∧ vs.length = m ∧ (∀ i v, vs[i]? = some v → w.cell? ⟨b, o + k * m + i, none⟩ = some v) ∧ R w vs x ∧ xs.drop k = x :: xs.drop (k + 1) ∧ xs[k]? = some x := by
  have hl : k < xs.length := by rw [h.1]; exact hk
  obtain ⟨b, o, vs, e, hm, hc, hr⟩ := h.2.2 k _ (List.getElem?_eq_getElem hl)
  exact ⟨b, o, vs, xs[k], e, hm, hc, hr, List.drop_eq_getElem_cons hl, List.getElem?_eq_getElem hl⟩
theorem RdN.len (h : RdN m R w A n xs) : xs.length = n := h.1
theorem RdN.le (h : RdN m R w A n xs) : n ≤ 9223372036854775807 := by have := h.2.1; unfold maxLen at this; omega
theorem RdN.drop_end (h : RdN m R w A n xs) {k : Nat} (hk : ¬ k < n) : xs.drop k = [] := List.drop_eq_nil_of_le (by rw [h.1]; omega)
theorem RdN.nil (m : Nat) (R : World → List Value → α → Prop) (w : World) (A : Option Addr) : RdN m R w A 0 [] := ⟨rfl, Nat.zero_le _, fun k x hk => by simp at hk⟩
end
theorem RdN.same {α : Type} {S : Sh α} {w w' : World} {A : Option Addr} {n : Nat} {xs : List α} (h : RdN S.m S.rd w A n xs) (hs : Same w w') : RdN S.m S.rd w' A n xs := by
  obtain ⟨B, n', c, e, h'⟩ := (Sh.rows S 0).stab (w := w) (w' := w') (cs := [.slice A n 0]) (x := xs) ⟨A, n, 0, rfl, h⟩ hs
  injection e with e _
  injection e with e1 e2 e3
  subst e1
  subst e2
  exact h'
theorem RdN.next {α : Type} {S : Sh α} {w w' : World} {A : Option Addr} {n : Nat} {xs : List α} (h : RdN S.m S.rd w A n xs) (hb : Below w.heap.size w w') : RdN S.m S.rd w' A n xs := h.same hb.block

/-! ## Several cells stored side by side -/
def setAll : List Value → Nat → List Value → List Value
  | l, _, [] => l
  | l, p, c :: cs => setAll (l.set p c) (p + 1) cs
def setAllW : World → Nat → Nat → List Value → World
  | w, _, _, [] => w
  | w, g, p, c :: cs => setAllW (w.setCell ⟨g, p, none⟩ c) g (p + 1) cs
theorem setAll_len : ∀ (cs : List Value) (l : List Value) (p : Nat), (setAll l p cs).length = l.length
  | [], _, _ => rfl
  | c :: cs, l, p => by rw [setAll, setAll_len cs, List.length_set]
theorem setAll_get : ∀ (cs : List Value) (l : List Value) (p j : Nat), p + cs.length ≤ l.length → (setAll l p cs)[j]? = if p ≤ j ∧ j < p + cs.length then cs[j - p]? else l[j]?
  | [], l, p, j, _ => by rw [setAll, if_neg (by simp)]
  | c :: cs, l, p, j, h => by
    rw [List.length_cons] at h
    rw [setAll, setAll_get cs _ _ _ (by rw [List.length_set]; omega), List.length_cons]
    by_cases h1 : p + 1 ≤ j ∧ j < p + 1 + cs.length
    · rw [if_pos h1, if_pos (by omega), show j - p = (j - (p + 1)) + 1 by omega, List.getElem?_cons_succ]
    · rw [if_neg h1, List.getElem?_set]
      by_cases h2 : p = j
      · subst h2
        rw [if_pos rfl, if_pos (by omega), if_pos (by omega), Nat.sub_self]
        rfl
      · rw [if_neg h2, if_neg (by omega)]
theorem setAll_mid (pre z post cs : List Value) (h : cs.length = z.length) : setAll (pre ++ (z ++ post)) pre.length cs = pre ++ (cs ++ post) := by
  apply List.ext_getElem?
  intro j
  rw [setAll_get _ _ _ _ (by simp; omega)]
  by_cases h1 : j < pre.length
  · rw [if_neg (by omega), List.getElem?_append_left h1, List.getElem?_append_left h1]
  · by_cases h2 : j < pre.length + cs.length
    · rw [if_pos (by omega), List.getElem?_append_right (by omega), List.getElem?_append_left (by omega)]
    · rw [if_neg (by omega), List.getElem?_append_right (by omega), List.getElem?_append_right (by omega), List.getElem?_append_right (by omega), List.getElem?_append_right (by omega), h]
theorem own_storeAll : ∀ (cs : List Value) {w : World} {base : Nat} {e : TypeId} {size g n cap : Nat} {xs : List Value} (p : Nat), w.ownsRow base e size (.slice (some ⟨g, 0, none⟩) n cap) n xs →
    (setAllW w g p cs).ownsRow base e size (.slice (some ⟨g, 0, none⟩) n cap) n (setAll xs p cs) ∧ w.grownBy (setAllW w g p cs) (some g)
  | [], w, base, e, size, g, n, cap, xs, p, h => ⟨h, ⟨rfl, rfl, rfl, Nat.le_refl _, fun _ _ _ => rfl⟩⟩
  | c :: cs, w, base, e, size, g, n, cap, xs, p, h => by
    obtain ⟨h1, g1⟩ := h.stored p c
    obtain ⟨h2, g2⟩ := own_storeAll cs (p + 1) h1
    exact ⟨h2, ⟨g2.os.trans g1.os, g2.tape.trans g1.tape, g2.output.trans g1.output, Nat.le_trans g1.size g2.size, fun k hk hne => (g2.block k (Nat.lt_of_lt_of_le hk g1.size) hne).trans (g1.block k hk hne)⟩⟩

/-! ## A slice of structs being filled -/
/-- Of n elements that a make laid in block g, k have been copied in; zc are the cells of an element as made. -/
structure FillN {α : Type} (A : Sh α) (E : TypeId) (zc : List Value) (lo g n : Nat) (w : World) (xs : List α) (css : List (List Value)) (bls : List (List Nat)) (k : Nat) : Prop where
  row : w.ownsRow 0 E A.m (.slice (some ⟨g, 0, none⟩) n n) n (css.flatten ++ (List.replicate (n - k) zc).flatten)
  l1 : css.length = k
  l2 : bls.length = k
  all : ∀ c ∈ css, c.length = A.m
  el : ∀ (j : Nat) c x bk, css[j]? = some c → xs[j]? = some x → bls[j]? = some bk → A.own w c x bk
  nd : (g :: bls.flatten).Nodup
  lo_ : ∀ b ∈ g :: bls.flatten, lo ≤ b ∧ b < w.heap.size
section
variable {α : Type} {A : Sh α} {E : TypeId} {zc : List Value} {lo g n : Nat} {w w' : World} {xs : List α} {css : List (List Value)} {bls : List (List Nat)} {k : Nat}
theorem FillN.start (h : w.ownsRow lo E A.m (.slice (some ⟨g, 0, none⟩) n n) n (List.replicate n zc).flatten) : FillN A E zc lo g n w xs [] [] 0 :=
  ⟨own_mono h (Nat.zero_le _), rfl, rfl, fun c hc => by simp at hc, fun j c x bk hc => by simp at hc, by simp, fun b hb => by simp at hb; subst hb; exact h.lt b rfl⟩
theorem FillN.next (h : FillN A E zc lo g n w xs css bls k) (hb : Below w.heap.size w w') : FillN A E zc lo g n w' xs css bls k :=
  ⟨own_next h.row hb, h.l1, h.l2, h.all, fun j c x bk h1 h2 h3 => A.osame (h.el j c x bk h1 h2 h3) fun b hb' => hb.block b (h.lo_ b (List.mem_cons_of_mem _ (List.mem_flatten.2 ⟨bk, List.mem_of_getElem? h3, hb'⟩))).2, h.nd,
    fun b hb' => ⟨(h.lo_ b hb').1, Nat.lt_of_lt_of_le (h.lo_ b hb').2 hb.size⟩⟩
theorem FillN.cell (h : FillN A E zc lo g n w xs css bls k) (hz : zc.length = A.m) (hk : k < n) {i : Nat} {u : Value} (hi : zc[i]? = some u) : w.cell? ⟨g, k * A.m + i, none⟩ = some u := by
  have him : i < A.m := by have := (List.getElem?_eq_some_iff.1 hi).1; omega
  have hl := flat_len h.all
  rw [h.l1] at hl
  have hlt : k * A.m + i < n * A.m := by
    have := Nat.mul_le_mul_right A.m (show k + 1 ≤ n from hk)
    rw [Nat.succ_mul] at this
    omega
  rw [h.row.cellAt _ hlt, List.getElem?_append_right (by omega), hl, Nat.add_sub_cancel_left]
  have e : n - k = (n - (k + 1)) + 1 := by omega
  rw [e, List.replicate_succ, List.flatten_cons, List.getElem?_append_left (by omega)]
  exact hi
theorem FillN.frozen (h : FillN A E zc lo g n w xs css bls k) (j : Nat) : w.frozen? ⟨g, j, none⟩ = false := h.row.frozenAt j
/-- One element more, that a call has laid since. -/
theorem FillN.set_ (h0 : FillN A E zc lo g n w xs css bls k) (hz : zc.length = A.m) (hb : Below w.heap.size w w') (hk : k < n) {x : α} {c : List Value} {bk : List Nat} (hx : xs[k]? = some x) (ho : A.own w' c x bk) (hnd : bk.Nodup) (hlo : ∀ b ∈ bk, w.heap.size ≤ b) (hlw : lo ≤ w.heap.size) :
    FillN A E zc lo g n (setAllW w' g (k * A.m) c) xs (css ++ [c]) (bls ++ [bk]) (k + 1) := by
  have h := h0.next hb
  have hcl := A.rd_len (A.ord ho)
  have hl := flat_len h.all
  rw [h.l1] at hl
  have hgl := (h0.lo_ g (List.mem_cons_self ..)).2
  obtain ⟨hst, hgr⟩ := own_storeAll c (k * A.m) h.row
  have e : n - k = (n - (k + 1)) + 1 := by omega
  rw [e, List.replicate_succ, List.flatten_cons, ← hl, setAll_mid _ _ _ _ (by omega), hl] at hst
  have hold : ∀ b ∈ g :: bls.flatten, b < w.heap.size := fun b hb' => (h0.lo_ b hb').2
  refine ⟨?_, by simp [h.l1], by simp [h.l2], ?_, ?_, ?_, ?_⟩
  · rw [List.flatten_append]
    simpa using hst
  · intro c' hc'
    rcases List.mem_append.1 hc' with h1 | h1
    · exact h.all c' h1
    · simp at h1
      subst h1
      exact hcl
  · intro j c' x' bk' h1 h2 h3
    have hg : ∀ b, b ≠ g → b < w'.heap.size → (setAllW w' g (k * A.m) c).heap[b]? = w'.heap[b]? := fun b hne hlt => hgr.block b hlt (by simpa using hne)
    rcases Nat.lt_or_ge j k with hj | hj
    · rw [List.getElem?_append_left (by rw [h.l1]; exact hj)] at h1
      rw [List.getElem?_append_left (by rw [h.l2]; exact hj)] at h3
      refine A.osame (h.el j c' x' bk' h1 h2 h3) fun b hb' => ?_
      have hm : b ∈ bls.flatten := List.mem_flatten.2 ⟨bk', List.mem_of_getElem? h3, hb'⟩
      exact hg b (fun ee => (List.nodup_cons.1 h.nd).1 (ee ▸ hm)) (h.lo_ b (List.mem_cons_of_mem _ hm)).2
    · have hjk : j = k := by
        have := (List.getElem?_eq_some_iff.1 h1).1
        rw [List.length_append, h.l1] at this
        simp at this
        omega
      subst hjk
      rw [List.getElem?_append_right (by rw [h.l1]; exact Nat.le_refl _), h.l1, Nat.sub_self] at h1
      rw [List.getElem?_append_right (by rw [h.l2]; exact Nat.le_refl _), h.l2, Nat.sub_self] at h3
      simp at h1 h3
      subst h1
      subst h3
      rw [hx] at h2
      injection h2 with h2
      subst h2
      exact A.osame ho fun b hb' => hg b (fun ee => by have := hlo b hb'; omega) (A.olt ho b hb')
  · rw [List.flatten_append, ← List.cons_append, List.nodup_append]
    refine ⟨h.nd, by simpa using hnd, fun a ha b hb' => ?_⟩
    have := hold a ha
    have := hlo b (by simpa using hb')
    omega
  · intro b hb'
    have hs : w'.heap.size ≤ (setAllW w' g (k * A.m) c).heap.size := hgr.size
    rw [List.flatten_append, ← List.cons_append] at hb'
    rcases List.mem_append.1 hb' with h1 | h1
    · have := h.lo_ b h1
      omega
    · have h2 : b ∈ bk := by simpa using h1
      have := hlo b h2
      have := A.olt ho b h2
      omega
theorem FillN.done (h : FillN A E zc lo g n w xs css bls k) (hl : xs.length = n) (hk : ¬ k < n) (hk' : k ≤ n) : (Sh.rows A E).own w [.slice (some ⟨g, 0, none⟩) n n] xs (g :: bls.flatten) := by
  have e : n - k = 0 := by omega
  have hr := h.row
  rw [e] at hr
  simp only [List.replicate_zero, List.flatten_nil, List.append_nil] at hr
  have h1 := h.l1
  have h2 := h.l2
  exact ⟨_, css, bls, rfl, ⟨by rw [hl]; exact hr, by omega, by omega, h.el⟩, rfl⟩
end
/-! ## Changes within a list of blocks -/
structure ChgB (bl : List Nat) (w w' : World) : Prop where
  os : w'.os = w.os
  tape : w'.tape = w.tape
  output : w'.output = w.output
  size : w.heap.size ≤ w'.heap.size
  block : ∀ b, b < w.heap.size → b ∉ bl → w'.heap[b]? = w.heap[b]?
theorem ChgB.refl (bl : List Nat) (w : World) : ChgB bl w w := ⟨rfl, rfl, rfl, Nat.le_refl _, fun _ _ _ => rfl⟩
theorem ChgB.trans {bl : List Nat} {a b c : World} (h : ChgB bl a b) (k : ChgB bl b c) : ChgB bl a c :=
  ⟨k.os.trans h.os, k.tape.trans h.tape, k.output.trans h.output, Nat.le_trans h.size k.size, fun i hi hh => (k.block i (Nat.lt_of_lt_of_le hi h.size) hh).trans (h.block i hi hh)⟩
theorem ChgB.mono {bl bl' : List Nat} {w w' : World} (h : ChgB bl w w') (hs : ∀ b ∈ bl, b ∈ bl') : ChgB bl' w w' :=
  ⟨h.os, h.tape, h.output, h.size, fun b hb hn => h.block b hb fun hh => hn (hs b hh)⟩
theorem ChgB.chg {bl : List Nat} {lo hi : Nat} {w w' : World} (h : ChgB bl w w') (hs : ∀ b ∈ bl, lo ≤ b ∧ b < hi) : Chg lo hi w w' :=
  ⟨h.os, h.tape, h.output, h.size, fun b hb hn => h.block b hb fun hh => by have := hs b hh; omega⟩
theorem ChgB.ofBelow {bl : List Nat} {w w' : World} (h : Below w.heap.size w w') : ChgB bl w w' := ⟨h.os, h.tape, h.output, h.size, fun b hb _ => h.block b hb⟩
theorem ChgB.set {bl : List Nat} {w : World} {p : Addr} (hp : p.block ∈ bl) (u : Value) : ChgB bl w (w.setCell p u) :=
  ⟨rfl, rfl, rfl, by simp, fun b _ hn => Below.heap_setCell w p u b (fun e => hn (e ▸ hp))⟩
theorem ChgB.grown {v : Value} {w w' : World} (h : w.grownBy w' v.ownBlock) : ChgB (obl v) w w' := ⟨h.os, h.tape, h.output, h.size, fun b hb hn => h.block b hb fun e => hn (mem_obl.2 e.symm)⟩
theorem flat_once : ∀ {bls : List (List Nat)}, bls.flatten.Nodup → ∀ {i j : Nat} {x y : List Nat} {b : Nat}, bls[i]? = some x → bls[j]? = some y → b ∈ x → b ∈ y → i = j
  | [], _, i, j, x, y, b, hi, _, _, _ => by simp at hi
  | z :: l, h, i, j, x, y, b, hi, hj, hx, hy => by
    rw [List.flatten_cons, List.nodup_append] at h
    have mem : ∀ {k : Nat} {u : List Nat}, l[k]? = some u → b ∈ u → b ∈ l.flatten := fun hk hu => List.mem_flatten.2 ⟨_, List.mem_of_getElem? hk, hu⟩
    match i, j with
    | 0, 0 => rfl
    | 0, j + 1 =>
      simp at hi hj
      subst hi
      exact absurd rfl (h.2.2 b hx b (mem hj hy))
    | i + 1, 0 =>
      simp at hi hj
      subst hj
      exact absurd rfl (h.2.2 b hy b (mem hi hx))
    | i + 1, j + 1 =>
      simp at hi hj
      rw [flat_once h.2.1 hi hj hx hy]
/-- One element turned into another one, in place. -/
theorem Parts.put {α : Type} {A : Sh α} {E : TypeId} {w w' : World} {v : Value} {xs : List α} {css : List (List Value)} {bls : List (List Nat)} (h : Parts A E w v xs css bls) (hnd : (obl v ++ bls.flatten).Nodup) {k : Nat} {bk : List Nat} (hbk : bls[k]? = some bk) {c' : List Value} {x' : α}
    (hr : w'.ownsRow 0 E A.m v xs.length (setAll css.flatten (k * A.m) c')) (ho : A.own w' c' x' bk) (hfr : ∀ b ∈ bls.flatten, b ∉ bk → w'.heap[b]? = w.heap[b]?) : Parts A E w' v (xs.set k x') (css.set k c') bls := by
  have hall := h.all
  have hcl := A.rd_len (A.ord ho)
  have hl1 := h.l1
  have hl2 := h.l2
  have hkl : k < bls.length := (List.getElem?_eq_some_iff.1 hbk).1
  have hfl := flat_len hall
  have hall' : ∀ c ∈ css.set k c', c.length = A.m := fun c hc => by
    rcases List.mem_or_eq_of_mem_set hc with h1 | h1
    · exact hall c h1
    · rw [h1]; exact hcl
  have hle : k * A.m + A.m ≤ css.length * A.m := by
    have := Nat.mul_le_mul_right A.m (show k + 1 ≤ css.length by omega)
    rw [Nat.succ_mul] at this
    exact this
  have e : setAll css.flatten (k * A.m) c' = (css.set k c').flatten := by
    have hfl' := flat_len hall'
    rw [List.length_set] at hfl'
    apply List.ext_getElem?
    intro j
    rw [setAll_get _ _ _ _ (by omega), hcl]
    rcases Nat.eq_zero_or_pos A.m with h0 | h0
    · rw [h0] at hfl hfl' ⊢
      rw [if_neg (by omega), List.getElem?_eq_none (by omega), List.getElem?_eq_none (by omega)]
    · have hj := Nat.div_add_mod j A.m
      have hm := Nat.mod_lt j h0
      rw [Nat.mul_comm] at hj
      have g1 := flat_get hall (j / A.m) (j % A.m) hm
      have g2 := flat_get hall' (j / A.m) (j % A.m) hm
      rw [hj] at g1 g2
      rw [g2]
      by_cases hjk : j / A.m = k
      · have hjk' : k * A.m + j % A.m = j := by rw [← hjk]; exact hj
        rw [if_pos (by omega), hjk, List.getElem?_set_self (by omega), show j - k * A.m = j % A.m by omega]
        rfl
      · rw [List.getElem?_set_ne (fun ee => hjk ee.symm), ← g1, if_neg]
        rintro ⟨h1, h2⟩
        apply hjk
        exact Nat.div_eq_of_lt_le (by omega) (by rw [Nat.succ_mul]; omega)
  refine ⟨by rw [List.length_set, ← e]; exact hr, by simp [hl1], by simp [hl2], fun j c x b h1 h2 h3 => ?_⟩
  by_cases hjk : j = k
  · subst hjk
    rw [List.getElem?_set_self (by omega)] at h1 h2
    injection h1 with h1
    injection h2 with h2
    rw [hbk] at h3
    injection h3 with h3
    subst h1
    subst h2
    subst h3
    exact ho
  · rw [List.getElem?_set_ne (fun ee => hjk ee.symm)] at h1 h2
    refine A.osame (h.el j c x b h1 h2 h3) fun q hq => hfr q (List.mem_flatten.2 ⟨b, List.mem_of_getElem? h3, hq⟩) fun hq' => ?_
    have hnd' : bls.flatten.Nodup := (List.nodup_append.1 hnd).2.1
    exact hjk (flat_once hnd' h3 hbk hq hq')
end Go.Proofs.Ytppnmpeicmlneaa
