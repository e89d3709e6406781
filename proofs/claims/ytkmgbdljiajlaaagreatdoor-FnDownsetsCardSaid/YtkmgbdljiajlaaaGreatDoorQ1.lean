/- Parts of the proof: Mem, Ints, Bits, Bits8, List, Mark, Own1, Sl, System, Good, LawIsClosureSystem, Closure, With. -/
import Derived.WalkKit
import Derived.WalkSpells
import Derived.WalkLawsBesides
import Derived.Lib.Hide
import Derived.Lib.IndexMore
import Derived.BigGuardPart
import Derived.BigQuiet
import Derived.Deep.QuietTactic
import Derived.Test.YtkmgbdljiajlaaaGreatDoorProg
import Derived.ProofKit
import Derived.OpenShut
import Derived.Lib.SmallJoins
import Derived.Deep.Slices
import Derived.Deep.RegionLaw
import Derived.Deep.RegionHeld3
import Derived.StillTailTactics
import Derived.Deep.DeepCutAuto
namespace Go.Proofs.YtkmgbdljiajlaaaGreatDoor
open Go.RowKit

theorem ret_bool {a b : Bool} (h : a = b) : Ending.returned (.bool a) = .returned (.bool b) := by rw [h]
theorem ret_int {k : IntKind} {a b : Int} (h : a = b) : Ending.returned (.int k a) = .returned (.int k b) := by rw [h]
theorem ret_str {a b : ByteArray} (h : a = b) : Ending.returned (.string a) = .returned (.string b) := by rw [h]

/-- The call returns v, and of what was there nothing has turned. -/
def Bl (w : World) (v : Value) (e : Ending) (w' : World) : Prop := e = .returned v ∧ Below w.heap.size w w'

/-- wr is w but for draws. -/
def Drawn (w wr : World) : Prop := ∃ z, wr = w.drewN z
theorem Drawn.zero (w : World) : Drawn w w := ⟨0, rfl⟩
theorem Drawn.at_ (w : World) (z : Nat) : Drawn w (w.drewN z) := ⟨z, rfl⟩
theorem Drawn.more {w wr : World} (h : Drawn w wr) (m : Nat) : Drawn w (wr.drewN m) := by
  obtain ⟨z, rfl⟩ := h
  exact ⟨z + m, World.drewN_drewN ..⟩
/-- The call returns v and only reads. -/
def Qt (w : World) (v : Value) (e : Ending) (w' : World) : Prop := e = .returned v ∧ Drawn w w'
theorem quiet_add {P : Program} {f : FuncId} {args : Array Value} {w : World} {a n : Nat} {v : Value}
    (h : Calls P f args (w.drewN (a + n)) (Qt (w.drewN (a + n)) v)) : Calls P f args (w.drewN (a + n)) fun e w'' => e = .returned v ∧ ∃ m, w'' = w.drewN (a + m) :=
  h.mono fun _ _ ⟨he, m, hm⟩ => ⟨he, n + m, by rw [hm, World.drewN_drewN, Nat.add_assoc]⟩
theorem quiet_one {P : Program} {f : FuncId} {args : Array Value} {w : World} {n : Nat} {v : Value}
    (h : Calls P f args (w.drewN n) (Qt (w.drewN n) v)) : Calls P f args (w.drewN n) fun e w'' => e = .returned v ∧ ∃ m, w'' = w.drewN m :=
  h.mono fun _ _ ⟨he, m, hm⟩ => ⟨he, n + m, by rw [hm, World.drewN_drewN]⟩
/-- A contract that leaves the world alone is a quiet one. -/
theorem quiet_same {P : Program} {f : FuncId} {args : Array Value} {w : World} {v : Value} (h : Calls P f args w fun e w' => e = .returned v ∧ w = w') : Calls P f args w (Qt w v) :=
  h.mono fun _ _ ⟨he, hm⟩ => ⟨he, 0, hm.symm⟩
theorem Qt.zero {w : World} {v : Value} : Qt w v (.returned v) w := ⟨rfl, 0, rfl⟩
theorem Qt.bl {w w' : World} {v : Value} {e : Ending} (h : Qt w v e w') : Bl w v e w' := by
  obtain ⟨he, n, rfl⟩ := h
  exact ⟨he, ⟨rfl, rfl, rfl, Nat.le_refl _, fun _ _ => rfl⟩⟩
theorem bl_of_quiet {P : Program} {f : FuncId} {args : Array Value} {w : World} {v : Value} (h : Calls P f args w (Qt w v)) : Calls P f args w (Bl w v) := h.mono fun _ _ h => h.bl
/-- One call more behind what is below B as it was. -/
theorem below_next {B : Nat} {w w1 w2 : World} (h : Below B w w1) (k : Below w1.heap.size w1 w2) (hB : B = w.heap.size) : Below B w w2 :=
  h.trans (k.mono (by rw [hB]; exact h.size))
theorem below_drewN {B : Nat} {a w : World} (h : Below B a w) (k : Nat) : Below B a (w.drewN k) := ⟨h.os, h.tape, h.output, h.size, h.block⟩
theorem below_box (w : World) (o : Obj) : Below w.heap.size w (w.alloc o) := (Below.refl _ _).alloc (Nat.le_refl _) _
theorem below_box2 (w : World) (o o2 : Obj) : Below w.heap.size w ((w.alloc o).alloc o2) := (below_box w o).alloc (by simp) _
/-- Block g holds just the cells cs of element type t, none frozen. -/
def Blk (w : World) (g : Nat) (t : TypeId) (cs : Array Value) : Prop := w.heap[g]? = some (.cells cs t (0, 0))
section
variable {w w' : World} {g : Nat} {t : TypeId} {cs : Array Value}
theorem Blk.lt (h : Blk w g t cs) : g < w.heap.size := by
  rcases Nat.lt_or_ge g w.heap.size with hlt | hge
  · exact hlt
  · unfold Blk at h; rw [Array.getElem?_eq_none hge] at h; cases h
theorem Blk.cell (h : Blk w g t cs) (i : Nat) : w.cell? ⟨g, i, none⟩ = cs[i]? := cell_of_row w g i cs t (0, 0) h
theorem Blk.frozen (h : Blk w g t cs) (i : Nat) : w.frozen? ⟨g, i, none⟩ = false := by
  unfold Blk at h
  simp [World.frozen?, h]
theorem Blk.new (w : World) (t : TypeId) (cs : Array Value) : Blk (w.alloc (.cells cs t)) w.heap.size t cs := heap_alloc_new w _
theorem Blk.drew (h : Blk w g t cs) : Blk w.drew g t cs := h
theorem Blk.drewN (h : Blk w g t cs) (n : Nat) : Blk (w.drewN n) g t cs := h
theorem Blk.alloc (h : Blk w g t cs) (o : Obj) : Blk (w.alloc o) g t cs := (Below.heap_alloc w o g h.lt).trans h
theorem Blk.set_ (h : Blk w g t cs) (i : Nat) (u : Value) : Blk (w.setCell ⟨g, i, none⟩ u) g t (cs.setIfInBounds i u) := by
  unfold Blk at h ⊢
  simp [World.setCell, Array.getElem?_modify, h]
theorem Blk.far (h : Blk w g t cs) {p : Addr} (hp : g ≠ p.block) (u : Value) : Blk (w.setCell p u) g t cs := (Below.heap_setCell w p u g hp).trans h
theorem Blk.below {B : Nat} (h : Blk w g t cs) (hb : Below B w w') (hg : g < B) : Blk w' g t cs := (hb.block g hg).trans h
theorem Blk.next (h : Blk w g t cs) (hb : Below w.heap.size w w') : Blk w' g t cs := h.below hb h.lt
theorem Blk.grown {row : Option Nat} (h : Blk w g t cs) (hb : w.grownBy w' row) (hg : some g ≠ row) : Blk w' g t cs := (hb.block g h.lt hg).trans h
end

/-- The bytes of a string. -/
def bs (s : ByteArray) : List UInt8 := s.data.toList
theorem bs_inj {a b : ByteArray} (h : bs a = bs b) : a = b := by
  obtain ⟨⟨a⟩⟩ := a
  obtain ⟨⟨b⟩⟩ := b
  simp only [bs] at h
  rw [h]
theorem drop_end (s : ByteArray) (k : Nat) (h : ¬ k < s.size) : (bs s).drop k = [] := by
  apply List.drop_eq_nil_of_le
  show s.data.size ≤ k
  exact Nat.le_of_not_lt h
/-- Does the byte c stand in the list? -/
def has (c : Int) : List UInt8 → Bool
  | [] => false
  | x :: l => (x.toNat : Int) == c || has c l
theorem bf1 {b : Bool} (h : ¬ b = true) : b = false := by simpa using h
theorem bf2 {b : Bool} (h : (!b) = true) : b = false := by simpa using h
theorem bt2 {b : Bool} (h : (!b) = false) : b = true := by simpa using h
theorem nef {x y : Int} (h : (x != y) = true) : (x == y) = false := by simpa using h
theorem net {x y : Int} (h : (x != y) = false) : (x == y) = true := by simpa using h
theorem eqc {x y : Int} {b : Bool} (h : (y == x) = b) : (x == y) = b := by rw [← h]; exact Bool.beq_comm
theorem nefc {x y : Int} (h : (y != x) = true) : (x == y) = false := eqc (nef h)
theorem netc {x y : Int} (h : (y != x) = false) : (x == y) = true := eqc (net h)

/-! ## Slices that read as lists -/
/-- A slice value that begins at A, of n elements, reads as xs: its k-th cell holds a value that R says is xs[k]. -/
def RdL {α : Type} (R : World → Value → α → Prop) (w : World) (A : Option Addr) (n : Nat) (xs : List α) : Prop :=
  xs.length = n ∧ n ≤ maxLen ∧ ∀ k x, xs[k]? = some x → ∃ b o v, A = some ⟨b, o, none⟩ ∧ w.cell? ⟨b, o + k, none⟩ = some v ∧ R w v x
theorem cell_lt {w : World} {p : Addr} {v : Value} (h : w.cell? p = some v) : p.block < w.heap.size := by
  rcases Nat.lt_or_ge p.block w.heap.size with hlt | hge
  · exact hlt
  · exfalso
    have : w.heap[p.block]? = none := Array.getElem?_eq_none hge
    simp [World.cell?, this] at h
def RI (_ : World) (v : Value) (x : Int) : Prop := v = .int .i64 x ∧ -9223372036854775808 ≤ x ∧ x ≤ 9223372036854775807
def RB (_ : World) (v : Value) (x : Bool) : Prop := v = .bool x
/-- A slice value reads as a list. -/
def RV {α : Type} (R : World → Value → α → Prop) (w : World) (v : Value) (xs : List α) : Prop := ∃ A n c, v = .slice A n c ∧ RdL R w A n xs
/-- What R says holds on where the blocks that there were hold what they held. -/
def Stab {α : Type} (R : World → Value → α → Prop) : Prop := ∀ w w' v x, (∀ b, b < w.heap.size → w'.heap[b]? = w.heap[b]?) → R w v x → R w' v x
theorem stab_RI : Stab RI := fun _ _ _ _ _ h => h
theorem stab_RB : Stab RB := fun _ _ _ _ _ h => h
section
variable {α : Type} {R : World → Value → α → Prop} {w w' : World} {A : Option Addr} {n : Nat} {xs : List α}
theorem RdL.same (hR : Stab R) (h : RdL R w A n xs) (hb : ∀ b, b < w.heap.size → w'.heap[b]? = w.heap[b]?) : RdL R w' A n xs :=
  ⟨h.1, h.2.1, fun k x hk => by
    obtain ⟨b, o, v, e, hc, hr⟩ := h.2.2 k x hk
    exact ⟨b, o, v, e, (World.cell?_of_block (w := w) (hb b (cell_lt hc))).trans hc, hR _ _ _ _ hb hr⟩⟩
theorem RdL.next (hR : Stab R) (h : RdL R w A n xs) (hb : Below w.heap.size w w') : RdL R w' A n xs := h.same hR hb.block
theorem RdL.drew (h : RdL R w A n xs) (hR : Stab R) : RdL R w.drew A n xs := h.same hR fun _ _ => rfl
theorem RdL.drewN (h : RdL R w A n xs) (hR : Stab R) (k : Nat) : RdL R (w.drewN k) A n xs := h.same hR fun _ _ => rfl
theorem RdL.alloc (h : RdL R w A n xs) (hR : Stab R) (o : Obj) : RdL R (w.alloc o) A n xs := h.next hR (below_box w o)
theorem RdL.len (h : RdL R w A n xs) : xs.length = n := h.1
theorem RdL.le (h : RdL R w A n xs) : n ≤ 9223372036854775807 := by have := h.2.1; unfold maxLen at this; omega
theorem RdL.nil (R : World → Value → α → Prop) (w : World) (A : Option Addr) : RdL R w A 0 [] := ⟨rfl, Nat.zero_le _, fun k x hk => by simp at hk⟩
theorem stab_RV (hR : Stab R) : Stab (RV R) := fun _ _ _ _ hb ⟨A, n, c, e, h⟩ => ⟨A, n, c, e, h.same hR hb⟩
/-- The cell of the k-th element; and the list from there on. -/
theorem RdL.at (h : RdL R w A n xs) {k : Nat} (hk : k < n) : ∃ b o v x, A = some ⟨b, o, none⟩ ∧ w.cell? ⟨b, o + k, none⟩ = some v ∧ R w v x ∧ xs.drop k = x :: xs.drop (k + 1) ∧ xs[k]? = some x := by
  have hl : k < xs.length := by rw [h.1]; exact hk
  obtain ⟨b, o, v, e, hc, hr⟩ := h.2.2 k _ (List.getElem?_eq_getElem hl)
  exact ⟨b, o, v, xs[k], e, hc, hr, List.drop_eq_getElem_cons hl, List.getElem?_eq_getElem hl⟩
theorem RdL.at' {b o : Nat} (h : RdL R w (some ⟨b, o, none⟩) n xs) {k : Nat} (hk : k < n) : ∃ v x, w.cell? ⟨b, o + k, none⟩ = some v ∧ R w v x ∧ xs.drop k = x :: xs.drop (k + 1) ∧ xs[k]? = some x := by
  obtain ⟨b', o', v, x, e, r⟩ := h.at hk
  simp only [Option.some.injEq, Addr.mk.injEq, and_true] at e
  obtain ⟨rfl, rfl⟩ := e
  exact ⟨v, x, r⟩
theorem RdL.drop_end (h : RdL R w A n xs) {k : Nat} (hk : ¬ k < n) : xs.drop k = [] := List.drop_eq_nil_of_le (by rw [h.1]; omega)
theorem RdL.ofOwn {base : Nat} {e : TypeId} {v : Value} {vs : List Value} (hn : n ≤ maxLen) (h : w.ownsRow base e 1 v n vs) (hl : xs.length = n) (hr : ∀ (k : Nat) x, xs[k]? = some x → ∃ u, vs[k]? = some u ∧ R w u x) :
    ∃ A c, v = .slice A n c ∧ RdL R w A n xs := by
  rcases h.2 with ⟨rfl, rfl⟩ | ⟨g, cap, cur, rfl, hb, hg, hnc, hcm, hcs, ht⟩
  · have : xs = [] := List.eq_nil_of_length_eq_zero hl
    subst this
    exact ⟨none, 0, rfl, RdL.nil _ _ _⟩
  · refine ⟨_, cap, rfl, hl, hn, fun k x hk => ?_⟩
    obtain ⟨u, hu, hr'⟩ := hr k x hk
    refine ⟨g, 0, u, rfl, ?_, hr'⟩
    have hkn : k < n := by have := (List.getElem?_eq_some_iff.1 hk).1; omega
    have := h.cellAt k (by omega)
    rw [Nat.zero_add, this]
    exact hu
end
/-- An int slice of the call's own: it lies in a block of its own from lo on (below hi), nothing frozen. -/
def OwL {α : Type} (R : World → Value → α → Prop) (lo hi : Nat) (w : World) (A : Option Addr) (n : Nat) (xs : List α) : Prop :=
  RdL R w A n xs ∧ (0 < n → ∃ b o, A = some ⟨b, o, none⟩ ∧ lo ≤ b ∧ b < hi ∧ ∀ k, k < n → w.frozen? ⟨b, o + k, none⟩ = false)
section
variable {α : Type} {R : World → Value → α → Prop} {w w' : World} {A : Option Addr} {n lo hi : Nat} {xs : List α}
theorem OwL.rd (h : OwL R lo hi w A n xs) : RdL R w A n xs := h.1
theorem OwL.mono {lo' hi' : Nat} (h : OwL R lo hi w A n xs) (h1 : lo' ≤ lo) (h2 : hi ≤ hi') : OwL R lo' hi' w A n xs :=
  ⟨h.1, fun hn => by obtain ⟨b, o, e, hb, hb', hf⟩ := h.2 hn; exact ⟨b, o, e, by omega, by omega, hf⟩⟩
end
/-! ## Rows of the call's own -/
section
variable {w w' : World} {base : Nat} {e : TypeId} {size : Nat} {v : Value} {n : Nat} {xs : List Value}
theorem own_same (h : w.ownsRow base e size v n xs) (hb : ∀ b, v.ownBlock = some b → w'.heap[b]? = w.heap[b]?) : w'.ownsRow base e size v n xs := by
  obtain ⟨h1, h2⟩ := h
  refine ⟨h1, ?_⟩
  rcases h2 with h2 | ⟨g, cap, cur, hv, hg, hh, r⟩
  · exact Or.inl h2
  · exact Or.inr ⟨g, cap, cur, hv, hg, by rw [hb g (by rw [hv]; rfl)]; exact hh, r⟩
theorem own_next (h : w.ownsRow base e size v n xs) (hb : Below w.heap.size w w') : w'.ownsRow base e size v n xs :=
  own_same h fun b hv => hb.block b (h.lt b hv).2
theorem own_mono {base' : Nat} (h : w.ownsRow base e size v n xs) (hb : base' ≤ base) : w.ownsRow base' e size v n xs := by
  obtain ⟨h1, h2⟩ := h
  refine ⟨h1, ?_⟩
  rcases h2 with h2 | ⟨g, cap, cur, hv, hg, r⟩
  · exact Or.inl h2
  · exact Or.inr ⟨g, cap, cur, hv, by omega, r⟩
theorem own_set (h : w.ownsRow base e size v n xs) {p : Addr} (hp : v.ownBlock ≠ some p.block) (u : Value) : (w.setCell p u).ownsRow base e size v n xs :=
  own_same h fun b hv => Below.heap_setCell w p u b (fun ee => hp (by rw [hv, ee]))
theorem own_ne {e' : TypeId} {base' size' : Nat} {v' : Value} {n' : Nat} {xs' : List Value} (h : w.ownsRow base e size v n xs) (h' : w.ownsRow base' e' size' v' n' xs') (hne : e ≠ e') {g : Nat} (hg : v.ownBlock = some g) : v'.ownBlock ≠ some g := by
  rcases h.2 with ⟨rfl, _⟩ | ⟨g1, cap, cur, rfl, _, hh, _⟩
  · simp [Value.ownBlock] at hg
  · rcases h'.2 with ⟨rfl, _⟩ | ⟨g2, cap2, cur2, rfl, _, hh2, _⟩
    · simp [Value.ownBlock]
    · intro hc
      simp only [Value.ownBlock, Option.some.injEq] at hg hc
      subst hg
      subst hc
      rw [hh] at hh2
      injection hh2 with hh2
      injection hh2 with _ ht
      exact hne ht
end

/-- A slice of slices of the call's own: an outer row, inner rows, each in a block of its own. -/
def OwM {α : Type} (eo ei : TypeId) (f : α → Value) (lo : Nat) (w : World) (v : Value) (n : Nat) (xss : List (List α)) : Prop :=
  ∃ vs : List Value, w.ownsRow lo eo 1 v n vs ∧ vs.length = xss.length ∧ (∀ (k : Nat) u xs, vs[k]? = some u → xss[k]? = some xs → w.ownsRow lo ei 1 u xs.length (xs.map f)) ∧ (vs.filterMap Value.ownBlock).Nodup
/-- A row that is owned reads as its list. -/
theorem rd_of_own {α : Type} {R : World → Value → α → Prop} {f : α → Value} {w : World} {base : Nat} {e : TypeId} {A : Option Addr} {n c : Nat} {xs : List α} (h : w.ownsRow base e 1 (.slice A n c) n (xs.map f))
    (hR : ∀ x ∈ xs, R w (f x) x) : RdL R w A n xs := by
  have hl : xs.length = n := by have := h.1; simpa using this
  have hn : n ≤ maxLen := by
    rcases h.2 with ⟨_, h0⟩ | ⟨g, cap, cur, _, _, _, h1, h2, _⟩
    · omega
    · omega
  obtain ⟨A', c', e', hr⟩ := RdL.ofOwn (R := R) (xs := xs) hn h hl (fun k x hk => ⟨f x, by simp [hk], hR x (List.mem_of_getElem? hk)⟩)
  injection e' with e1 e2 e3
  rw [e1]
  exact hr
theorem own_slice {w : World} {base : Nat} {e : TypeId} {size : Nat} {v : Value} {n : Nat} {xs : List Value} (h : w.ownsRow base e size v n xs) : ∃ A c, v = .slice A n c := by
  rcases h.2 with ⟨rfl, rfl⟩ | ⟨g, cap, cur, rfl, _⟩
  · exact ⟨none, 0, rfl⟩
  · exact ⟨_, cap, rfl⟩
section
variable {α : Type} {eo ei : TypeId} {f : α → Value} {lo : Nat} {w w' : World} {v : Value} {n : Nat} {xss : List (List α)}
theorem OwM.next (h : OwM eo ei f lo w v n xss) (hb : Below w.heap.size w w') : OwM eo ei f lo w' v n xss := by
  obtain ⟨vs, h1, h2, h3, h4⟩ := h
  exact ⟨vs, own_next h1 hb, h2, fun k u xs hu hx => own_next (h3 k u xs hu hx) hb, h4⟩
theorem OwM.mono {lo' : Nat} (h : OwM eo ei f lo w v n xss) (hb : lo' ≤ lo) : OwM eo ei f lo' w v n xss := by
  obtain ⟨vs, h1, h2, h3, h4⟩ := h
  exact ⟨vs, own_mono h1 hb, h2, fun k u xs hu hx => own_mono (h3 k u xs hu hx) hb, h4⟩
theorem OwM.rd {R : World → Value → α → Prop} {A : Option Addr} {c : Nat} (h : OwM eo ei f lo w (.slice A n c) n xss) (hR : ∀ xs ∈ xss, ∀ x ∈ xs, R w (f x) x) : RdL (RV R) w A n xss := by
  obtain ⟨vs, h1, h2, h3, h4⟩ := h
  have hl : vs.length = n := by have := h1.1; simpa using this
  have hn : n ≤ maxLen := by
    rcases h1.2 with ⟨_, h0⟩ | ⟨g, cap, cur, _, _, _, h1, h2, _⟩
    · omega
    · omega
  obtain ⟨A', c', e', hr⟩ := RdL.ofOwn (R := RV R) (xs := xss) hn h1 (by omega) (fun k xs hk => by
    have hk' : k < vs.length := by rw [h2]; exact (List.getElem?_eq_some_iff.1 hk).1
    have hu : vs[k]? = some vs[k] := List.getElem?_eq_getElem hk'
    have ho := h3 k _ xs hu hk
    obtain ⟨B, d, hv⟩ := own_slice ho
    rw [hv] at ho
    exact ⟨_, hu, B, xs.length, d, hv, rd_of_own ho (hR xs (List.mem_of_getElem? hk))⟩)
  injection e' with e1 e2 e3
  rw [e1]
  exact hr
end

/-- A matrix being filled: k rows laid, the other n - k places as made. -/
def FillM {α : Type} (eo ei : TypeId) (f : α → Value) (lo g n : Nat) (w : World) (xss : List (List α)) (k : Nat) : Prop :=
  ∃ vs : List Value, w.ownsRow lo eo 1 (.slice (some ⟨g, 0, none⟩) n n) n (vs ++ List.replicate (n - k) (.slice none 0 0)) ∧ vs.length = k ∧ (∀ (j : Nat) u xs, vs[j]? = some u → xss[j]? = some xs → w.ownsRow lo ei 1 u xs.length (xs.map f)) ∧ (vs.filterMap Value.ownBlock).Nodup
section
variable {α : Type} {eo ei : TypeId} {f : α → Value} {lo g n : Nat} {w w' : World} {xss : List (List α)} {k : Nat}
theorem FillM.start (h : w.ownsRow lo eo 1 (.slice (some ⟨g, 0, none⟩) n n) n (List.replicate n (.slice none 0 0))) : FillM eo ei f lo g n w xss 0 :=
  ⟨[], by simpa using h, rfl, fun j u xs hu => by simp at hu, by simp⟩
theorem FillM.next (h : FillM eo ei f lo g n w xss k) (hb : Below w.heap.size w w') : FillM eo ei f lo g n w' xss k := by
  obtain ⟨vs, h1, h2, h3, h4⟩ := h
  exact ⟨vs, own_next h1 hb, h2, fun k u xs hu hx => own_next (h3 k u xs hu hx) hb, h4⟩
theorem FillM.cell (h : FillM eo ei f lo g n w xss k) (hk : k < n) : w.cell? ⟨g, k, none⟩ = some (.slice none 0 0) := by
  obtain ⟨vs, h1, h2, -, -⟩ := h
  rw [h1.cellAt k (by omega), List.getElem?_append_right (by omega), h2, Nat.sub_self, List.getElem?_replicate, if_pos (by omega)]
theorem FillM.frozen (h : FillM eo ei f lo g n w xss k) : w.frozen? ⟨g, k, none⟩ = false := by
  obtain ⟨vs, h1, -, -, -⟩ := h
  exact h1.frozenAt k
theorem FillM.lt (h : FillM eo ei f lo g n w xss k) : lo ≤ g ∧ g < w.heap.size := by
  obtain ⟨vs, h1, -, -, -⟩ := h
  exact h1.lt g rfl
/-- One row more, that a call has laid since. -/
theorem FillM.set_ (hne : eo ≠ ei) (h0 : FillM eo ei f lo g n w xss k) (hb : Below w.heap.size w w') (hk : k < n) {u : Value} {xs : List α} (hx : xss[k]? = some xs) (hu0 : w'.ownsRow w.heap.size ei 1 u xs.length (xs.map f)) (hlo : lo ≤ w.heap.size) :
    FillM eo ei f lo g n (w'.setCell ⟨g, k, none⟩ u) xss (k + 1) := by
  have hu := own_mono hu0 hlo
  obtain ⟨vs, h01, h2, h03, h4⟩ := h0
  have h1 := own_next h01 hb
  have hst := (h1.stored k u).1
  refine ⟨vs ++ [u], ?_, by simp [h2], ?_, ?_⟩
  · have e : (vs ++ List.replicate (n - k) (Value.slice none 0 0)).set k u = (vs ++ [u]) ++ List.replicate (n - (k + 1)) (.slice none 0 0) := by
      rw [List.set_append_right _ _ (by omega), h2, Nat.sub_self]
      have h2 : n - k = (n - (k + 1)) + 1 := by omega
      rw [h2, List.replicate_succ, List.set_cons_zero]
      simp
    rw [← e]
    exact hst
  · intro j v ys hv hy
    have far : ∀ {v : Value} {ys : List α}, w'.ownsRow lo ei 1 v ys.length (ys.map f) → (w'.setCell ⟨g, k, none⟩ u).ownsRow lo ei 1 v ys.length (ys.map f) := fun ho =>
      own_set (p := ⟨g, k, none⟩) ho (fun hc => own_ne ho h1 hne.symm (g := g) hc rfl) u
    rcases Nat.lt_or_ge j k with hj | hj
    · rw [List.getElem?_append_left (by omega)] at hv
      exact far (own_next (h03 j v ys hv hy) hb)
    · have hjk : j = k := by
        have := (List.getElem?_eq_some_iff.1 hv).1
        simp at this
        omega
      subst hjk
      rw [List.getElem?_append_right (by omega), h2, Nat.sub_self] at hv
      simp at hv
      subst hv
      rw [hx] at hy
      injection hy with hy
      subst hy
      exact far hu
  · rw [List.filterMap_append, List.nodup_append]
    refine ⟨h4, ?_, ?_⟩
    · simp only [List.filterMap_cons, List.filterMap_nil]
      cases u.ownBlock <;> simp
    · intro a ha b hb
      simp only [List.filterMap_cons, List.filterMap_nil] at hb
      obtain ⟨v, hv, hva⟩ := List.mem_filterMap.1 ha
      obtain ⟨j, hj⟩ := List.getElem?_of_mem hv
      have hjk := (List.getElem?_eq_some_iff.1 hj).1
      have hjx : j < xss.length := by have := (List.getElem?_eq_some_iff.1 hx).1; omega
      have hlt := ((h03 j v _ hj (List.getElem?_eq_getElem hjx)).lt a hva).2
      cases hub : u.ownBlock with
      | none => rw [hub] at hb; simp at hb
      | some b' =>
        rw [hub] at hb
        simp at hb
        subst hb
        have := (hu0.lt b hub).1
        omega
theorem FillM.done (h : FillM eo ei f lo g n w xss k) (hl : xss.length = n) (hk : k ≤ n) (hk' : ¬ k < n) : OwM eo ei f lo w (.slice (some ⟨g, 0, none⟩) n n) n xss := by
  obtain ⟨vs, h1, h2, h3, h4⟩ := h
  have e : n - k = 0 := by omega
  rw [e] at h1
  simp only [List.replicate_zero, List.append_nil] at h1
  exact ⟨vs, h1, by omega, h3, h4⟩
end

/-! ## Loops over a list: what is left answers as the whole does -/
def At {α β : Type} (f : List α → β) (xs : List α) (k : Nat) : Prop := f (xs.drop k) = f xs
section
variable {α β : Type} {f : List α → β} {xs : List α} {k : Nat} {x : α} {r : β}
theorem At.start (f : List α → β) (xs : List α) : At f xs 0 := rfl
theorem At.step (h : At f xs k) (hd : xs.drop k = x :: xs.drop (k + 1)) (he : f (x :: xs.drop (k + 1)) = f (xs.drop (k + 1))) : At f xs (k + 1) := by
  unfold At at *; rw [← h, hd, he]
theorem At.stop (h : At f xs k) (hd : xs.drop k = x :: xs.drop (k + 1)) (he : f (x :: xs.drop (k + 1)) = r) : r = f xs := by
  unfold At at *; rw [← h, hd, he]
theorem At.done (h : At f xs k) (hd : xs.drop k = []) (he : f [] = r) : r = f xs := by
  unfold At at *; rw [← h, hd, he]
end
def At2 {α β γ : Type} (f : List α → List γ → β) (xs : List α) (ys : List γ) (k : Nat) : Prop := f (xs.drop k) (ys.drop k) = f xs ys
section
variable {α β γ : Type} {f : List α → List γ → β} {xs : List α} {ys : List γ} {k : Nat} {x : α} {y : γ} {r : β}
theorem At2.start (f : List α → List γ → β) (xs : List α) (ys : List γ) : At2 f xs ys 0 := rfl
theorem At2.step (h : At2 f xs ys k) (hd : xs.drop k = x :: xs.drop (k + 1)) (hd' : ys.drop k = y :: ys.drop (k + 1)) (he : f (x :: xs.drop (k + 1)) (y :: ys.drop (k + 1)) = f (xs.drop (k + 1)) (ys.drop (k + 1))) : At2 f xs ys (k + 1) := by
  unfold At2 at *; rw [← h, hd, hd', he]
theorem At2.stop (h : At2 f xs ys k) (hd : xs.drop k = x :: xs.drop (k + 1)) (hd' : ys.drop k = y :: ys.drop (k + 1)) (he : f (x :: xs.drop (k + 1)) (y :: ys.drop (k + 1)) = r) : r = f xs ys := by
  unfold At2 at *; rw [← h, hd, hd', he]
theorem At2.done (h : At2 f xs ys k) {l : List α} {m : List γ} (hd : xs.drop k = l) (hd' : ys.drop k = m) (he : f l m = r) : r = f xs ys := by
  unfold At2 at *; rw [← h, hd, hd', he]
end
/-- A loop that gathers: what has been gathered, and behind it what the rest gives, is what the whole gives. -/
def Acc {α γ : Type} (f : List α → List γ) (xs : List α) (k : Nat) (acc : List γ) : Prop := acc ++ f (xs.drop k) = f xs
section
variable {α γ : Type} {f : List α → List γ} {xs : List α} {k : Nat} {x : α} {y : γ} {acc : List γ}
theorem Acc.start (f : List α → List γ) (xs : List α) : Acc f xs 0 [] := rfl
theorem Acc.keep (h : Acc f xs k acc) (hd : xs.drop k = x :: xs.drop (k + 1)) (he : f (x :: xs.drop (k + 1)) = y :: f (xs.drop (k + 1))) : Acc f xs (k + 1) (acc ++ [y]) := by
  unfold Acc at *; rw [← h, hd, he]; simp
theorem Acc.skip (h : Acc f xs k acc) (hd : xs.drop k = x :: xs.drop (k + 1)) (he : f (x :: xs.drop (k + 1)) = f (xs.drop (k + 1))) : Acc f xs (k + 1) acc := by
  unfold Acc at *; rw [← h, hd, he]
theorem Acc.done (h : Acc f xs k acc) (hd : xs.drop k = []) (he : f [] = []) : acc = f xs := by
  unfold Acc at *; rw [← h, hd, he]; simp
end

/-! ## append of one element to a row of the call's own -/
theorem wp_app1 {P : Program} (w0 : World) {o : Oper} {a : Act} {K : Act → World → Prop} {Q : Exit → Act → World → Prop} (s x : Operand) (t e : TypeId)
    (ho : o.op = .call { callee := .builtin .append, args := #[s, x], argTypes := #[t, t] }) (z : Value) (bytes : Nat)
    (ht : P.underlying t = some (.slice e)) (hi : (P.info? e).map (fun i => (i.zero, i.size, i.bytes)) = some (some z, 1, bytes)) (hzs : z.cells.size = 1) (hbb : bytes ≤ 64)
    (base n c : Nat) (A : Option Addr) (xs : List Value) (hs : a.eval s = .slice A n c) (hown : w0.ownsRow base e 1 (.slice A n c) n xs) (u : Value) (h1 : u.oneCell' = true) (hx : a.eval x = .slice (some ⟨w0.heap.size, 0, none⟩) 1 1)
    (hn : n ≤ 1099511627776) (hbase : base ≤ w0.heap.size)
    (hK : ∀ A' c' w', w'.ownsRow base e 1 (.slice A' (n + 1) c') (n + 1) (xs ++ [u]) → w0.grownBy w' (Value.slice A n c).ownBlock → Below base w0 w' → K (a.put o.dst (.slice A' (n + 1) c')) w') :
    o.wp P a (w0.alloc (.cells #[u] e)) K Q := by
  obtain ⟨i, hi, hz, hsize, hby⟩ := info_parts hi
  have hbound : (n + 1) * bytes ≤ 140737488355328 := Nat.le_trans (Nat.mul_le_mul_left (n + 1) hbb) (by omega)
  refine wp_append_own (w0.alloc (.cells #[u] e)) s x t ho base e i z 1 bytes ht hi hz hsize hby hzs (by omega) (.slice A n c) n xs hs (hown.alloc _) ⟨w0.heap.size, 0, none⟩ 1 1 [u] hx rfl ?_ ?_ (by unfold maxLen; omega) hbound (by simp; omega) ?_
  · intro j v hj
    match j, hj with
    | 0, hj => simp at hj; subst hj; simp [Addr.add]
  · intro v hv; simp at hv; subst hv; exact h1
  · intro v' w' hown' hgrow _
    obtain ⟨A', c', rfl⟩ := own_slice hown'
    have hg : w0.grownBy w' (Value.slice A n c).ownBlock :=
      ⟨hgrow.os, hgrow.tape, hgrow.output, Nat.le_trans (by simp) hgrow.size, fun k hk hne => (hgrow.block k (by simp; omega) hne).trans (Below.heap_alloc w0 _ k hk)⟩
    exact hK A' c' w' hown' hg ((Below.refl base w0).grown hg hbase (fun k hk => (hown.lt k hk).1))

theorem run_append_of_nil {P : Program} (w : World) (base : Nat) (t ty e : TypeId) (i : TypeInfo) (size : Nat) (ht : P.underlying t = some (.slice e)) (hi : P.info? e = some i)
    (v : Value) (n : Nat) (xs : List Value) (hown : w.ownsRow base e size v n xs) (c : Nat) : (Builtin.append_ #[t, t] ty #[v, .slice none 0 c]).run P w = .ok v w := by
  rcases hown.2 with ⟨rfl, rfl⟩ | ⟨g, cap, cur, rfl, _, _, hnc, _⟩
  · simp [Builtin.append_, run_underlying ht, sizeOf, typeInfo, hi, Builtin.lenOf, Builtin.firstCells]
  · simp [Builtin.append_, run_underlying ht, sizeOf, typeInfo, hi, Builtin.lenOf, Builtin.firstCells, hnc, storeCells]
/-- append of a whole slice, nil or not, to a row of the call's own. -/
theorem wp_appAny {P : Program} {α : Type} {R : World → Value → α → Prop} (w : World) {o : Oper} {a : Act} {K : Act → World → Prop} {Q : Exit → Act → World → Prop} (s x : Operand) (t e : TypeId)
    (ho : o.op = .call { callee := .builtin .append, args := #[s, x], argTypes := #[t, t] }) (z : Value) (bytes : Nat)
    (ht : P.underlying t = some (.slice e)) (hi : (P.info? e).map (fun i => (i.zero, i.size, i.bytes)) = some (some z, 1, bytes)) (hzs : z.cells.size = 1) (hbb : bytes ≤ 64)
    (base n c : Nat) (A : Option Addr) (vs : List Value) (hs : a.eval s = .slice A n c) (hown : w.ownsRow base e 1 (.slice A n c) n vs)
    (B : Option Addr) (m d : Nat) (xs : List α) (f : α → Value) (h1 : ∀ x, (f x).oneCell' = true) (hx : a.eval x = .slice B m d) (hr : RdL R w B m xs) (hf : ∀ w v x, R w v x → v = f x)
    (hn : n + m ≤ 1099511627776) (hbase : base ≤ w.heap.size)
    (hK : ∀ A' c' w', w'.ownsRow base e 1 (.slice A' (n + m) c') (n + m) (vs ++ xs.map f) → w.grownBy w' (Value.slice A n c).ownBlock → Below base w w' → K (a.put o.dst (.slice A' (n + m) c')) w') :
    o.wp P a w K Q := by
  obtain ⟨i, hi, hz, hsize, hby⟩ := info_parts hi
  have hbound : (n + m) * bytes ≤ 140737488355328 := Nat.le_trans (Nat.mul_le_mul_left (n + m) hbb) (by omega)
  rcases B with _ | ad
  · have hm : m = 0 := by
      rcases Nat.eq_zero_or_pos m with h0 | h0
      · exact h0
      · obtain ⟨b, o, v, x, h, _⟩ := hr.at h0
        cases h
    subst hm
    have hxs : xs = [] := List.eq_nil_of_length_eq_zero hr.1
    subst hxs
    have hrun := run_append_of_nil (P := P) w base t o.type e i 1 ht hi _ n vs hown d
    unfold Oper.wp execOp
    simp only [ho, resolve, invoke, builtin, Sem.run_bind, Sem.run_pure, Result.andThen_ok, List.map_toArray, List.map_cons, List.map_nil, hs, hx, hrun]
    exact hK A c w (by simpa using hown) (World.grownBy.refl w _) (Below.refl _ _)
  · refine wp_append_own w s x t ho base e i z 1 bytes ht hi hz hsize hby hzs (by omega) (.slice A n c) n vs hs hown ad m d (xs.map f) hx (by simp [hr.1]) ?_ ?_ (by unfold maxLen; omega) hbound hbase ?_
    · intro j u hu
      rw [List.getElem?_map] at hu
      obtain ⟨y, hy, rfl⟩ := Option.map_eq_some_iff.1 hu
      obtain ⟨b, o, v, e', hc, hv⟩ := hr.2.2 j y hy
      have he : ad = ⟨b, o, none⟩ := by injection e'
      subst he
      rw [hf _ _ _ hv] at hc
      have ea : (⟨b, o, none⟩ : Addr).add j = ⟨b, o + j, none⟩ := by
        unfold Addr.add
        split
        · rename_i h0; subst h0; rfl
        · rfl
      rw [ea]
      exact hc
    · intro v hv
      obtain ⟨y, -, rfl⟩ := List.mem_map.1 hv
      exact h1 y
    · intro v' w' hown' hgrow _
      obtain ⟨A', c', rfl⟩ := own_slice hown'
      exact hK A' c' w' hown' hgrow ((Below.refl base w).grown hgrow hbase (fun k hk => (hown.lt k hk).1))
theorem app1 {P : Program} (w0 : World) {ops : Array Oper} {rest : List Oper} {o : Oper} {a : Act} {Q : Exit → Act → World → Prop} (hgd : o.guard = none) (s x : Operand) (t e : TypeId)
    (ho : o.op = .call { callee := .builtin .append, args := #[s, x], argTypes := #[t, t] }) (z : Value) (bytes : Nat)
    (ht : P.underlying t = some (.slice e)) (hi : (P.info? e).map (fun i => (i.zero, i.size, i.bytes)) = some (some z, 1, bytes)) (hzs : z.cells.size = 1) (hbb : bytes ≤ 64)
    (base n c : Nat) (A : Option Addr) (xs : List Value) (hs : a.eval s = .slice A n c) (hown : w0.ownsRow base e 1 (.slice A n c) n xs) (u : Value) (h1 : u.oneCell' = true) (hx : a.eval x = .slice (some ⟨w0.heap.size, 0, none⟩) 1 1)
    (hn : n ≤ 1099511627776) (hbase : base ≤ w0.heap.size)
    (hK : ∀ A' c' w', w'.ownsRow base e 1 (.slice A' (n + 1) c') (n + 1) (xs ++ [u]) → w0.grownBy w' (Value.slice A n c).ownBlock → Below base w0 w' → wpList P ops Q rest (a.put o.dst (.slice A' (n + 1) c')) w') :
    wpList P ops Q (o :: rest) a (w0.alloc (.cells #[u] e)) :=
  wpList_plain hgd fun _ hK' => wp_app1 w0 s x t e ho z bytes ht hi hzs hbb base n c A xs hs hown u h1 hx hn hbase fun A' c' w' h2 h3 h4 => hK' _ _ (hK A' c' w' h2 h3 h4)
theorem step_app1 {P : Program} (w0 : World) {ops : Array Oper} {o : Oper} {a : Act} {K : Act → World → Prop} {Q : Exit → Act → World → Prop} {E : Prop} (hgd : o.guard = none) (s x : Operand) (t e : TypeId)
    (ho : o.op = .call { callee := .builtin .append, args := #[s, x], argTypes := #[t, t] }) (z : Value) (bytes : Nat)
    (ht : P.underlying t = some (.slice e)) (hi : (P.info? e).map (fun i => (i.zero, i.size, i.bytes)) = some (some z, 1, bytes)) (hzs : z.cells.size = 1) (hbb : bytes ≤ 64)
    (base n c : Nat) (A : Option Addr) (xs : List Value) (hs : a.eval s = .slice A n c) (hown : w0.ownsRow base e 1 (.slice A n c) n xs) (u : Value) (h1 : u.oneCell' = true) (hx : a.eval x = .slice (some ⟨w0.heap.size, 0, none⟩) 1 1)
    (hn : n ≤ 1099511627776) (hbase : base ≤ w0.heap.size)
    (hK : ∀ A' c' w', w'.ownsRow base e 1 (.slice A' (n + 1) c') (n + 1) (xs ++ [u]) → w0.grownBy w' (Value.slice A n c).ownBlock → Below base w0 w' → K (a.put o.dst (.slice A' (n + 1) c')) w') :
    if Region.wanted o (yielded ops a.tmps) = true then Oper.wp P o a (w0.alloc (.cells #[u] e)) K Q else E := by
  have hw : Region.wanted o (yielded ops a.tmps) = true := by simp [Region.wanted, hgd]
  rw [if_pos hw]
  exact wp_app1 w0 s x t e ho z bytes ht hi hzs hbb base n c A xs hs hown u h1 hx hn hbase hK
theorem appAny {P : Program} {α : Type} {R : World → Value → α → Prop} (w : World) {ops : Array Oper} {rest : List Oper} {o : Oper} {a : Act} {Q : Exit → Act → World → Prop} (hgd : o.guard = none) (s x : Operand) (t e : TypeId)
    (ho : o.op = .call { callee := .builtin .append, args := #[s, x], argTypes := #[t, t] }) (z : Value) (bytes : Nat)
    (ht : P.underlying t = some (.slice e)) (hi : (P.info? e).map (fun i => (i.zero, i.size, i.bytes)) = some (some z, 1, bytes)) (hzs : z.cells.size = 1) (hbb : bytes ≤ 64)
    (base n c : Nat) (A : Option Addr) (vs : List Value) (hs : a.eval s = .slice A n c) (hown : w.ownsRow base e 1 (.slice A n c) n vs)
    (B : Option Addr) (m d : Nat) (xs : List α) (f : α → Value) (h1 : ∀ x, (f x).oneCell' = true) (hx : a.eval x = .slice B m d) (hr : RdL R w B m xs) (hf : ∀ w v x, R w v x → v = f x)
    (hn : n + m ≤ 1099511627776) (hbase : base ≤ w.heap.size)
    (hK : ∀ A' c' w', w'.ownsRow base e 1 (.slice A' (n + m) c') (n + m) (vs ++ xs.map f) → w.grownBy w' (Value.slice A n c).ownBlock → Below base w w' → wpList P ops Q rest (a.put o.dst (.slice A' (n + m) c')) w') :
    wpList P ops Q (o :: rest) a w :=
  wpList_plain hgd fun _ hK' => wp_appAny w s x t e ho z bytes ht hi hzs hbb base n c A vs hs hown B m d xs f h1 hx hr hf hn hbase fun A' c' w' h2 h3 h4 => hK' _ _ (hK A' c' w' h2 h3 h4)
theorem step_appAny {P : Program} {α : Type} {R : World → Value → α → Prop} (w : World) {ops : Array Oper} {o : Oper} {a : Act} {K : Act → World → Prop} {Q : Exit → Act → World → Prop} {E : Prop} (hgd : o.guard = none) (s x : Operand) (t e : TypeId)
    (ho : o.op = .call { callee := .builtin .append, args := #[s, x], argTypes := #[t, t] }) (z : Value) (bytes : Nat)
    (ht : P.underlying t = some (.slice e)) (hi : (P.info? e).map (fun i => (i.zero, i.size, i.bytes)) = some (some z, 1, bytes)) (hzs : z.cells.size = 1) (hbb : bytes ≤ 64)
    (base n c : Nat) (A : Option Addr) (vs : List Value) (hs : a.eval s = .slice A n c) (hown : w.ownsRow base e 1 (.slice A n c) n vs)
    (B : Option Addr) (m d : Nat) (xs : List α) (f : α → Value) (h1 : ∀ x, (f x).oneCell' = true) (hx : a.eval x = .slice B m d) (hr : RdL R w B m xs) (hf : ∀ w v x, R w v x → v = f x)
    (hn : n + m ≤ 1099511627776) (hbase : base ≤ w.heap.size)
    (hK : ∀ A' c' w', w'.ownsRow base e 1 (.slice A' (n + m) c') (n + m) (vs ++ xs.map f) → w.grownBy w' (Value.slice A n c).ownBlock → Below base w w' → K (a.put o.dst (.slice A' (n + m) c')) w') :
    if Region.wanted o (yielded ops a.tmps) = true then Oper.wp P o a w K Q else E := by
  have hw : Region.wanted o (yielded ops a.tmps) = true := by simp [Region.wanted, hgd]
  rw [if_pos hw]
  exact wp_appAny w s x t e ho z bytes ht hi hzs hbb base n c A vs hs hown B m d xs f h1 hx hr hf hn hbase hK
end Go.Proofs.YtkmgbdljiajlaaaGreatDoor
namespace Go.Proofs.YtkmgbdljiajlaaaGreatDoor
open Go.RowKit

theorem info_int : (Tryz.prog.info? 3).map (fun i => (i.zero, i.size, i.bytes)) = some (some (.int .i64 0), 1, 8) := by kernel_rfl
theorem info_ints : (Tryz.prog.info? 27).map (fun i => (i.zero, i.size, i.bytes)) = some (some (.slice none 0 0), 1, 24) := by kernel_rfl

def szInts (xs : List Int) (left : Int) : Int := if left - xs.length < 0 then -1 else left - xs.length

/-- Two lists of numbers are the same, as the program compares them. -/
def eqL : List Int → List Int → Bool
  | [], [] => true
  | x :: l, y :: m => x == y && eqL l m
  | _, _ => false
theorem eqL_self : ∀ l : List Int, eqL l l = true
  | [] => rfl
  | x :: l => by simp [eqL, eqL_self l]
theorem eqL_iff : ∀ {l m : List Int}, eqL l m = true ↔ l = m
  | [], [] => by simp [eqL]
  | [], _ :: _ => by simp [eqL]
  | _ :: _, [] => by simp [eqL]
  | x :: l, y :: m => by simp [eqL, eqL_iff (l := l) (m := m)]
theorem eqL_len {l m : List Int} (h : l.length ≠ m.length) : false = eqL l m := by
  rcases e : eqL l m with _ | _
  · rfl
  · exact absurd (congrArg List.length (eqL_iff.1 e)) h
def EqAt (xs ys : List Int) (k : Nat) : Prop := eqL (xs.drop k) (ys.drop k) = eqL xs ys
theorem EqAt.step {xs ys : List Int} {k : Nat} {x y : Int} (h : EqAt xs ys k) (h1 : xs.drop k = x :: xs.drop (k + 1)) (h2 : ys.drop k = y :: ys.drop (k + 1)) (he : (x == y) = true) : EqAt xs ys (k + 1) := by
  unfold EqAt at *; rw [← h, h1, h2, eqL, he]; rfl
theorem EqAt.stop {xs ys : List Int} {k : Nat} {x y : Int} (h : EqAt xs ys k) (h1 : xs.drop k = x :: xs.drop (k + 1)) (h2 : ys.drop k = y :: ys.drop (k + 1)) (he : (x == y) = false) : false = eqL xs ys := by
  unfold EqAt at *; rw [← h, h1, h2, eqL, he]; rfl
theorem EqAt.done {xs ys : List Int} {k : Nat} (h : EqAt xs ys k) (h1 : xs.drop k = []) (h2 : ys.drop k = []) : true = eqL xs ys := by
  unfold EqAt at *; rw [← h, h1, h2]; rfl

def ints (xs : List Int) : List Value := xs.map (.int .i64)
theorem RdL.bounds {w : World} {A : Option Addr} {n : Nat} {xs : List Int} (h : RdL RI w A n xs) : ∀ x ∈ xs, -9223372036854775808 ≤ x ∧ x ≤ 9223372036854775807 := by
  intro x hx
  obtain ⟨k, hk⟩ := List.getElem?_of_mem hx
  obtain ⟨b, o, v, -, -, hr⟩ := h.2.2 k x hk
  exact hr.2


theorem RI_ints {xs : List Int} {w : World} (h : ∀ x ∈ xs, -9223372036854775808 ≤ x ∧ x ≤ 9223372036854775807) : ∀ x ∈ xs, RI w (.int .i64 x) x := fun x hx => ⟨rfl, h x hx⟩

/-! ## [][]int -/
/-- What szIntSS answers: left less the outer length and the inner ones, or -1 as soon as it is below 0. -/
def szRows : List (List Int) → Int → Int
  | [], left => left
  | xs :: l, left => if szInts xs left < 0 then -1 else szRows l (szInts xs left)
def SzAt (xss : List (List Int)) (l0 left : Int) (k : Nat) : Prop := szRows (xss.drop k) left = szRows xss l0
theorem SzAt.step {xss : List (List Int)} {l0 left : Int} {k : Nat} {xs : List Int} (h : SzAt xss l0 left k) (h1 : xss.drop k = xs :: xss.drop (k + 1)) (h2 : ¬ szInts xs left < 0) : SzAt xss l0 (szInts xs left) (k + 1) := by
  unfold SzAt at *; rw [← h, h1, szRows, if_neg h2]
theorem SzAt.stop {xss : List (List Int)} {l0 left : Int} {k : Nat} {xs : List Int} (h : SzAt xss l0 left k) (h1 : xss.drop k = xs :: xss.drop (k + 1)) (h2 : szInts xs left < 0) : -1 = szRows xss l0 := by
  unfold SzAt at *; rw [← h, h1, szRows, if_pos h2]
theorem SzAt.done {xss : List (List Int)} {l0 left : Int} {k : Nat} (h : SzAt xss l0 left k) (h1 : xss.drop k = []) : left = szRows xss l0 := by
  unfold SzAt at *; rw [← h, h1]; rfl


def eqLL : List (List Int) → List (List Int) → Bool
  | [], [] => true
  | x :: l, y :: m => eqL x y && eqLL l m
  | _, _ => false
theorem eqLL_iff : ∀ {l m : List (List Int)}, eqLL l m = true ↔ l = m
  | [], [] => by simp [eqLL]
  | [], _ :: _ => by simp [eqLL]
  | _ :: _, [] => by simp [eqLL]
  | x :: l, y :: m => by simp [eqLL, eqLL_iff (l := l) (m := m), eqL_iff]
theorem eqLL_self (l : List (List Int)) : eqLL l l = true := eqLL_iff.2 rfl
theorem eqLL_len {l m : List (List Int)} (h : l.length ≠ m.length) : false = eqLL l m := by
  rcases e : eqLL l m with _ | _
  · rfl
  · exact absurd (congrArg List.length (eqLL_iff.1 e)) h
def EqqAt (xs ys : List (List Int)) (k : Nat) : Prop := eqLL (xs.drop k) (ys.drop k) = eqLL xs ys
theorem EqqAt.step {xs ys : List (List Int)} {k : Nat} {x y : List Int} (h : EqqAt xs ys k) (h1 : xs.drop k = x :: xs.drop (k + 1)) (h2 : ys.drop k = y :: ys.drop (k + 1)) (he : eqL x y = true) : EqqAt xs ys (k + 1) := by
  unfold EqqAt at *; rw [← h, h1, h2, eqLL, he]; rfl
theorem EqqAt.stop {xs ys : List (List Int)} {k : Nat} {x y : List Int} (h : EqqAt xs ys k) (h1 : xs.drop k = x :: xs.drop (k + 1)) (h2 : ys.drop k = y :: ys.drop (k + 1)) (he : eqL x y = false) : false = eqLL xs ys := by
  unfold EqqAt at *; rw [← h, h1, h2, eqLL, he]; rfl
theorem EqqAt.done {xs ys : List (List Int)} {k : Nat} (h : EqqAt xs ys k) (h1 : xs.drop k = []) (h2 : ys.drop k = []) : true = eqLL xs ys := by
  unfold EqqAt at *; rw [← h, h1, h2]; rfl


theorem stab_RVI : Stab (RV RI) := stab_RV stab_RI
end Go.Proofs.YtkmgbdljiajlaaaGreatDoor
namespace Go.Proofs.YtkmgbdljiajlaaaGreatDoor
open Go.RowKit

def bitsTo (m : Nat) : Nat → List Int
  | 0 => []
  | x + 1 => bitsTo m x ++ (if m / 2 ^ x % 2 = 1 then [(x : Int)] else [])
theorem bits_lit (w : World) : (w.alloc (.cells #[] 3)).ownsRow w.heap.size 3 1 (.slice (some ⟨w.heap.size, 0, none⟩) 0 0) 0 (ints []) := World.ownsRow_lit w #[] 0 (Nat.le_refl _) (Nat.zero_le _) rfl
end Go.Proofs.YtkmgbdljiajlaaaGreatDoor
namespace Go.Proofs.YtkmgbdljiajlaaaGreatDoor
open Go.RowKit

end Go.Proofs.YtkmgbdljiajlaaaGreatDoor
namespace Go.Proofs.YtkmgbdljiajlaaaGreatDoor
open Go.RowKit

def inB (x a b : Int) : Bool := decide (a ≤ x) && decide (x ≤ b)
set_option maxHeartbeats 400000 in
theorem l1In_any (x a b : Int) (w : World) :
    Calls Tryz.prog 62 #[.int .i64 x, .int .i64 a, .int .i64 b] w fun e w' => e = .returned (.bool (inB x a b)) ∧ w = w' := by
  unfold inB
  by_cases h : a ≤ x
  all_goals
    go_enter Tryz.func62, Tryz.ntmps62
    go_wp2
    go_ret
    exact ⟨ret_bool (by simp; omega), rfl⟩

/-- Does x stand in the list? -/
def hasI (x : Int) : List Int → Bool
  | [] => false
  | y :: l => y == x || hasI x l
set_option maxHeartbeats 400000 in
theorem l1Has_any (A : Option Addr) (n c : Nat) (xs : List Int) (y : Int) (w : World) (h : RdL RI w A n xs) :
    Calls Tryz.prog 60 #[.slice A n c, .int .i64 y] w fun e w' => e = .returned (.bool (hasI y xs)) ∧ w = w' := by
  have hle := h.le
  go_enter Tryz.func60, Tryz.ntmps60
  go_wp2
  go_loop [5] (fun i => ∃ k : Nat, k ≤ n ∧ i = .int .i64 k ∧ At (hasI y) xs k) (fun i => n - (intOf i).toNat)
  case atStart => exact ⟨0, Nat.zero_le _, rfl, At.start _ _⟩
  case round =>
    obtain ⟨k, hk, rfl, H⟩ := hrel
    by_cases hlt : k < n
    · obtain ⟨b, o, v, x, rfl, hc, ⟨rfl, -⟩, hd, -⟩ := h.at hlt
      have H1 := Lib.hid hd
      clear hd
      go_wp2
      all_goals first
        | (go_ret
           exact ⟨ret_bool (H.stop H1.out (by rw [hasI, ‹(x == y) = true›]; rfl)), rfl⟩)
        | (go_round
           case rel => exact ⟨k + 1, by omega, by go_num, H.step H1.out (by rw [hasI, ‹(x == y) = false›]; rfl)⟩
           case measure => simp [intOf]; omega)
    · go_wp2
      go_ret
      exact ⟨ret_bool (H.done (h.drop_end hlt) rfl), rfl⟩

set_option maxHeartbeats 400000 in
theorem hasNot_any (A : Option Addr) (n c : Nat) (xs : List Int) (y : Int) (w : World) (h : RdL RI w A n xs) :
    Calls Tryz.prog 39 #[.slice A n c, .int .i64 y] w fun e w' => e = .returned (.bool (!hasI y xs)) ∧ w = w' := by
  have hle := h.le
  go_enter Tryz.func39, Tryz.ntmps39
  go_wp2
  go_loop [9] (fun i => ∃ k : Nat, k ≤ n ∧ i = .int .i64 k ∧ At (hasI y) xs k) (fun i => n - (intOf i).toNat)
  case atStart => exact ⟨0, Nat.zero_le _, rfl, At.start _ _⟩
  case round =>
    obtain ⟨k, hk, rfl, H⟩ := hrel
    by_cases hlt : k < n
    · obtain ⟨b, o, v, x, rfl, hc, ⟨rfl, -⟩, hd, -⟩ := h.at hlt
      have H1 := Lib.hid hd
      clear hd
      go_wp2
      all_goals first
        | (go_ret
           exact ⟨ret_bool (by rw [← H.stop H1.out (r := true) (by rw [hasI, show (x == y) = true from (by first | assumption | exact bt2 (by assumption) | exact net (by assumption) | exact netc (by assumption) | exact eqc (by assumption))]; rfl)]; rfl), rfl⟩)
        | (go_round
           case rel => exact ⟨k + 1, by omega, by go_num, H.step H1.out (by rw [hasI, show (x == y) = false from (by first | assumption | exact bf1 (by assumption) | exact bf2 (by assumption) | exact nef (by assumption) | exact nefc (by assumption) | exact eqc (by assumption))]; rfl)⟩
           case measure => simp [intOf]; omega)
    · go_wp2
      go_ret
      exact ⟨ret_bool (by rw [← H.done (h.drop_end hlt) (r := false) rfl]; rfl), rfl⟩

set_option maxHeartbeats 400000 in
theorem l1Same_any (A B : Option Addr) (n m c d : Nat) (xs ys : List Int) (w : World) (h : RdL RI w A n xs) (h' : RdL RI w B m ys) :
    Calls Tryz.prog 69 #[.slice A n c, .slice B m d] w (Qt w (.bool (eqL xs ys))) := by
  have hle := h.le
  have hle' := h'.le
  by_cases hnm : n = m
  · subst hnm
    go_enter Tryz.func69, Tryz.ntmps69
    go_wp2
    go_loopw [5] (fun i wr => ∃ k : Nat, k ≤ n ∧ i = .int .i64 k ∧ At2 eqL xs ys k ∧ Drawn w wr) (fun i _ => n - (intOf i).toNat)
    case atStart => exact ⟨0, Nat.zero_le _, rfl, rfl, Drawn.zero _⟩
    case round =>
      obtain ⟨k, hk, rfl, H, z, rfl⟩ := hrel
      by_cases hlt : k < n
      · obtain ⟨b, o, v, x, rfl, hc, ⟨rfl, -⟩, hd, -⟩ := h.at hlt
        obtain ⟨b', o', v', y, rfl, hc', ⟨rfl, -⟩, hd', -⟩ := h'.at hlt
        have H1 := Lib.hid hd
        have H2 := Lib.hid hd'
        clear hd hd'
        go_wp2
        go_quiet (fail)
        go_wp2
        all_goals first
          | (go_ret
             exact ⟨ret_bool (H.stop H1.out H2.out (by rw [eqL, show (x == y) = false from (by first | assumption | exact bf1 (by assumption) | exact bf2 (by assumption) | exact nef (by assumption) | exact nefc (by assumption) | exact eqc (by assumption))]; rfl)), (by first | exact Drawn.zero _ | exact Drawn.at_ _ _ | exact (Drawn.at_ _ _).more _ | exact ((Drawn.at_ _ _).more _).more _)⟩)
          | (go_roundw
             case rel => exact ⟨k + 1, by omega, by go_num, H.step H1.out H2.out (by rw [eqL, show (x == y) = true from (by first | assumption | exact bt2 (by assumption) | exact net (by assumption) | exact netc (by assumption) | exact eqc (by assumption))]; rfl), (by first | exact Drawn.zero _ | exact Drawn.at_ _ _ | exact (Drawn.at_ _ _).more _ | exact ((Drawn.at_ _ _).more _).more _)⟩
             case measure => simp [intOf]; omega)
      · go_wp2
        go_ret
        exact ⟨ret_bool (H.done (h.drop_end hlt) (h'.drop_end hlt) rfl), (by first | exact Drawn.zero _ | exact Drawn.at_ _ _ | exact (Drawn.at_ _ _).more _ | exact ((Drawn.at_ _ _).more _).more _)⟩
  · have hne : ((n : Int) != (m : Int)) = true := by rw [bne_iff_ne]; omega
    go_enter Tryz.func69, Tryz.ntmps69
    go_wp2
    go_ret
    exact ⟨ret_bool (eqL_len (by rw [h.len, h'.len]; omega)), (by first | exact Drawn.zero _ | exact Drawn.at_ _ _ | exact (Drawn.at_ _ _).more _ | exact ((Drawn.at_ _ _).more _).more _)⟩

set_option maxHeartbeats 400000 in
theorem sameList_any (A B : Option Addr) (n m c d : Nat) (xs ys : List Int) (w : World) (h : RdL RI w A n xs) (h' : RdL RI w B m ys) :
    Calls Tryz.prog 86 #[.slice A n c, .slice B m d] w fun e w' => e = .returned (.bool (eqL xs ys)) ∧ w = w' := by
  have hle := h.le
  have hle' := h'.le
  by_cases hnm : n = m
  · subst hnm
    go_enter Tryz.func86, Tryz.ntmps86
    go_wp2
    go_loop [14] (fun i => ∃ k : Nat, k ≤ n ∧ i = .int .i64 k ∧ At2 eqL xs ys k) (fun i => n - (intOf i).toNat)
    case atStart => exact ⟨0, Nat.zero_le _, rfl, rfl⟩
    case round =>
      obtain ⟨k, hk, rfl, H⟩ := hrel
      by_cases hlt : k < n
      · obtain ⟨b, o, v, x, rfl, hc, ⟨rfl, -⟩, hd, -⟩ := h.at hlt
        obtain ⟨b', o', v', y, rfl, hc', ⟨rfl, -⟩, hd', -⟩ := h'.at hlt
        have H1 := Lib.hid hd
        have H2 := Lib.hid hd'
        clear hd hd'
        go_wp2
        all_goals first
          | (go_ret
             exact ⟨ret_bool (H.stop H1.out H2.out (by rw [eqL, show (x == y) = false from (by first | assumption | exact bf1 (by assumption) | exact bf2 (by assumption) | exact nef (by assumption) | exact nefc (by assumption) | exact eqc (by assumption))]; rfl)), rfl⟩)
          | (go_round
             case rel => exact ⟨k + 1, by omega, by go_num, H.step H1.out H2.out (by rw [eqL, show (x == y) = true from (by first | assumption | exact bt2 (by assumption) | exact net (by assumption) | exact netc (by assumption) | exact eqc (by assumption))]; rfl)⟩
             case measure => simp [intOf]; omega)
      · go_wp2
        go_ret
        exact ⟨ret_bool (H.done (h.drop_end hlt) (h'.drop_end hlt) rfl), rfl⟩
  · have hne : ((n : Int) != (m : Int)) = true := by rw [bne_iff_ne]; omega
    go_enter Tryz.func86, Tryz.ntmps86
    go_wp2
    go_ret
    exact ⟨ret_bool (eqL_len (by rw [h.len, h'.len]; omega)), rfl⟩

/-- The first place at which a list stands among lists, or -1. -/
def placeFrom (p : List Int) : List (List Int) → Int → Int
  | [], _ => -1
  | q :: l, k => if eqL p q then k else placeFrom p l (k + 1)
def place (xss : List (List Int)) (p : List Int) : Int := placeFrom p xss 0
def PlAt (xss : List (List Int)) (p : List Int) (k : Nat) : Prop := placeFrom p (xss.drop k) k = place xss p
theorem PlAt.step {xss : List (List Int)} {p q : List Int} {k : Nat} (h : PlAt xss p k) (hd : xss.drop k = q :: xss.drop (k + 1)) (he : eqL p q = false) : PlAt xss p (k + 1) := by
  unfold PlAt at *; rw [← h, hd, placeFrom, he]; rfl
theorem PlAt.stop {xss : List (List Int)} {p q : List Int} {k : Nat} (h : PlAt xss p k) (hd : xss.drop k = q :: xss.drop (k + 1)) (he : eqL p q = true) : (k : Int) = place xss p := by
  unfold PlAt at *; rw [← h, hd, placeFrom, he]; rfl
theorem PlAt.done {xss : List (List Int)} {p : List Int} {k : Nat} (h : PlAt xss p k) (hd : xss.drop k = []) : -1 = place xss p := by
  unfold PlAt at *; rw [← h, hd]; rfl

set_option maxHeartbeats 400000 in
theorem patternAt_any (A B : Option Addr) (n m c d : Nat) (xss : List (List Int)) (p : List Int) (w : World) (h : RdL (RV RI) w A n xss) (h' : RdL RI w B m p) :
    Calls Tryz.prog 71 #[.slice A n c, .slice B m d] w fun e w' => e = .returned (.int .i64 (place xss p)) ∧ w = w' := by
  have hle := h.le
  go_enter Tryz.func71, Tryz.ntmps71
  go_wp2
  go_loop [9] (fun i => ∃ k : Nat, k ≤ n ∧ i = .int .i64 k ∧ PlAt xss p k) (fun i => n - (intOf i).toNat)
  case atStart => exact ⟨0, Nat.zero_le _, rfl, rfl⟩
  case round =>
    obtain ⟨k, hk, rfl, H⟩ := hrel
    by_cases hlt : k < n
    · obtain ⟨b, o, v, q, rfl, hc, ⟨Q, j, g, rfl, hq⟩, hd, -⟩ := h.at hlt
      have H1 := Lib.hid hd
      clear hd
      go_wp2_with (go_at_call 86; refine (sameList_any _ _ _ _ _ _ _ _ _ h' hq).mono ?_; rintro e w' ⟨rfl, rfl⟩)
      all_goals first
        | (go_ret
           exact ⟨ret_int (H.stop H1.out (by first | assumption | exact bt2 (by assumption) | exact net (by assumption) | exact netc (by assumption) | exact eqc (by assumption))), rfl⟩)
        | (go_round
           case rel => exact ⟨k + 1, by omega, by go_num, H.step H1.out (by first | assumption | exact bf1 (by assumption) | exact bf2 (by assumption) | exact nef (by assumption) | exact nefc (by assumption) | exact eqc (by assumption))⟩
           case measure => simp [intOf]; omega)
    · go_wp2
      go_ret
      exact ⟨ret_int (H.done (h.drop_end hlt)), rfl⟩

theorem eqL_comm : ∀ l m : List Int, eqL l m = eqL m l
  | [], [] => rfl
  | [], _ :: _ => rfl
  | _ :: _, [] => rfl
  | x :: l, y :: m => by rw [eqL, eqL, eqL_comm l m, Bool.beq_comm]

/-- Are all members of a list in another? -/
def partL (ys : List Int) : List Int → Bool
  | [] => true
  | x :: l => hasI x ys && partL ys l
set_option maxHeartbeats 400000 in
theorem isPart_any (A B : Option Addr) (n m c d : Nat) (xs ys : List Int) (w : World) (h : RdL RI w A n xs) (h' : RdL RI w B m ys) :
    Calls Tryz.prog 73 #[.slice A n c, .slice B m d] w fun e w' => e = .returned (.bool (partL ys xs)) ∧ w = w' := by
  have hle := h.le
  go_enter Tryz.func73, Tryz.ntmps73
  go_wp2
  go_loop [9] (fun i => ∃ k : Nat, k ≤ n ∧ i = .int .i64 k ∧ At (partL ys) xs k) (fun i => n - (intOf i).toNat)
  case atStart => exact ⟨0, Nat.zero_le _, rfl, rfl⟩
  case round =>
    obtain ⟨k, hk, rfl, H⟩ := hrel
    by_cases hlt : k < n
    · obtain ⟨b, o, v, x, rfl, hc, ⟨rfl, -⟩, hd, -⟩ := h.at hlt
      have H1 := Lib.hid hd
      clear hd
      go_wp2_with (go_at_call 39; refine (hasNot_any _ _ _ _ _ _ h').mono ?_; rintro e w' ⟨rfl, rfl⟩)
      all_goals first
        | (go_ret
           exact ⟨ret_bool (H.stop H1.out (by rw [partL, show hasI x ys = false from (by first | assumption | exact bf1 (by assumption) | exact bf2 (by assumption) | exact nef (by assumption) | exact nefc (by assumption) | exact eqc (by assumption))]; rfl)), rfl⟩)
        | (go_round
           case rel => exact ⟨k + 1, by omega, by go_num, H.step H1.out (by rw [partL, show hasI x ys = true from (by first | assumption | exact bt2 (by assumption) | exact net (by assumption) | exact netc (by assumption) | exact eqc (by assumption))]; rfl)⟩
           case measure => simp [intOf]; omega)
    · go_wp2
      go_ret
      exact ⟨ret_bool (H.done (h.drop_end hlt) rfl), rfl⟩

set_option maxHeartbeats 400000 in
theorem l5Within_any (A B : Option Addr) (n m c d : Nat) (xs ys : List Int) (w : World) (h : RdL RI w A n xs) (h' : RdL RI w B m ys) :
    Calls Tryz.prog 61 #[.slice A n c, .slice B m d] w fun e w' => e = .returned (.bool (partL ys xs)) ∧ w = w' := by
  have hle := h.le
  go_enter Tryz.func61, Tryz.ntmps61
  go_wp2
  go_loop [5] (fun i => ∃ k : Nat, k ≤ n ∧ i = .int .i64 k ∧ At (partL ys) xs k) (fun i => n - (intOf i).toNat)
  case atStart => exact ⟨0, Nat.zero_le _, rfl, rfl⟩
  case round =>
    obtain ⟨k, hk, rfl, H⟩ := hrel
    by_cases hlt : k < n
    · obtain ⟨b, o, v, x, rfl, hc, ⟨rfl, -⟩, hd, -⟩ := h.at hlt
      have H1 := Lib.hid hd
      clear hd
      go_wp2_with (go_at_call 60; refine (l1Has_any _ _ _ _ _ _ h').mono ?_; rintro e w' ⟨rfl, rfl⟩)
      all_goals first
        | (go_ret
           exact ⟨ret_bool (H.stop H1.out (by rw [partL, show hasI x ys = false from (by first | assumption | exact bf1 (by assumption) | exact bf2 (by assumption) | exact nef (by assumption) | exact nefc (by assumption) | exact eqc (by assumption))]; rfl)), rfl⟩)
        | (go_round
           case rel => exact ⟨k + 1, by omega, by go_num, H.step H1.out (by rw [partL, show hasI x ys = true from (by first | assumption | exact bt2 (by assumption) | exact net (by assumption) | exact netc (by assumption) | exact eqc (by assumption))]; rfl)⟩
           case measure => simp [intOf]; omega)
    · go_wp2
      go_ret
      exact ⟨ret_bool (H.done (h.drop_end hlt) rfl), rfl⟩

/-- Do all numbers lie from a to b? -/
def allIn (a b : Int) : List Int → Bool
  | [] => true
  | x :: l => inB x a b && allIn a b l
set_option maxHeartbeats 400000 in
theorem l2Elements_any (A : Option Addr) (n c : Nat) (xs : List Int) (m : Int) (w : World) (h : RdL RI w A n xs) (hm0 : -1 ≤ m) (hm1 : m ≤ 4611686018427387904) :
    Calls Tryz.prog 30 #[.int .i64 m, .slice A n c] w fun e w' => e = .returned (.bool (allIn 0 (m - 1) xs)) ∧ w = w' := by
  have hle := h.le
  go_enter Tryz.func30, Tryz.ntmps30
  go_wp2
  go_loop [5] (fun i => ∃ k : Nat, k ≤ n ∧ i = .int .i64 k ∧ At (allIn 0 (m - 1)) xs k) (fun i => n - (intOf i).toNat)
  case atStart => exact ⟨0, Nat.zero_le _, rfl, rfl⟩
  case round =>
    obtain ⟨k, hk, rfl, H⟩ := hrel
    by_cases hlt : k < n
    · obtain ⟨b, o, v, x, rfl, hc, ⟨rfl, -⟩, hd, -⟩ := h.at hlt
      have H1 := Lib.hid hd
      clear hd
      go_wp2_with (go_at_call 62; refine (l1In_any _ _ _ _).mono ?_; rintro e w' ⟨rfl, rfl⟩)
      all_goals first
        | (go_ret
           exact ⟨ret_bool (H.stop H1.out (by rw [allIn, show inB x 0 (m - 1) = false from (by first | assumption | exact bf1 (by assumption) | exact bf2 (by assumption) | exact nef (by assumption) | exact nefc (by assumption) | exact eqc (by assumption))]; rfl)), rfl⟩)
        | (go_round
           case rel => exact ⟨k + 1, by omega, by go_num, H.step H1.out (by rw [allIn, show inB x 0 (m - 1) = true from (by first | assumption | exact bt2 (by assumption) | exact net (by assumption) | exact netc (by assumption) | exact eqc (by assumption))]; rfl)⟩
           case measure => simp [intOf]; omega)
    · go_wp2
      go_ret
      exact ⟨ret_bool (H.done (h.drop_end hlt) rfl), rfl⟩

set_option maxHeartbeats 400000 in
theorem inSize_any (A : Option Addr) (n c : Nat) (xs : List Int) (m : Int) (w : World) (h : RdL RI w A n xs) :
    Calls Tryz.prog 57 #[.slice A n c, .int .i64 m] w fun e w' => e = .returned (.bool (allIn 0 (m - 1) xs)) ∧ w = w' := by
  have hle := h.le
  go_enter Tryz.func57, Tryz.ntmps57
  go_wp2
  go_loop [9] (fun i => ∃ k : Nat, k ≤ n ∧ i = .int .i64 k ∧ At (allIn 0 (m - 1)) xs k) (fun i => n - (intOf i).toNat)
  case atStart => exact ⟨0, Nat.zero_le _, rfl, rfl⟩
  case round =>
    obtain ⟨k, hk, rfl, H⟩ := hrel
    by_cases hlt : k < n
    · obtain ⟨b, o, v, x, rfl, hc, ⟨rfl, -⟩, hd, -⟩ := h.at hlt
      have H1 := Lib.hid hd
      clear hd
      go_wp2
      all_goals first
        | (go_ret
           exact ⟨ret_bool (H.stop H1.out (by rw [allIn, show inB x 0 (m - 1) = false by unfold inB; simp; omega]; rfl)), rfl⟩)
        | (go_round
           case rel => exact ⟨k + 1, by omega, by go_num, H.step H1.out (by rw [allIn, show inB x 0 (m - 1) = true by unfold inB; simp; omega]; rfl)⟩
           case measure => simp [intOf]; omega)
    · go_wp2
      go_ret
      exact ⟨ret_bool (H.done (h.drop_end hlt) rfl), rfl⟩
end Go.Proofs.YtkmgbdljiajlaaaGreatDoor
namespace Go.Proofs.YtkmgbdljiajlaaaGreatDoor
open Go.RowKit

/-- Are the numbers strictly rising? -/
def risesL : List Int → Bool
  | x :: y :: l => decide (x < y) && risesL (y :: l)
  | _ => true
def RisAt (xs : List Int) (k : Nat) : Prop := risesL (xs.drop k) = risesL xs
theorem drop_two {xs : List Int} {k : Nat} {x y : Int} (h1 : xs[k]? = some x) (h2 : xs[k + 1]? = some y) : xs.drop k = x :: y :: xs.drop (k + 2) := by
  obtain ⟨l1, e1⟩ := List.getElem?_eq_some_iff.1 h1
  obtain ⟨l2, e2⟩ := List.getElem?_eq_some_iff.1 h2
  rw [List.drop_eq_getElem_cons l1, List.drop_eq_getElem_cons l2, e1, e2]
theorem RisAt.step {xs : List Int} {k : Nat} {x y : Int} (h : RisAt xs k) (h1 : xs[k]? = some x) (h2 : xs[k + 1]? = some y) (hlt : x < y) : RisAt xs (k + 1) := by
  obtain ⟨l2, e2⟩ := List.getElem?_eq_some_iff.1 h2
  unfold RisAt at *; rw [← h, drop_two h1 h2, risesL, List.drop_eq_getElem_cons l2, e2]; simp [hlt]
theorem RisAt.stop {xs : List Int} {k : Nat} {x y : Int} (h : RisAt xs k) (h1 : xs[k]? = some x) (h2 : xs[k + 1]? = some y) (hlt : ¬ x < y) : false = risesL xs := by
  unfold RisAt at *; rw [← h, drop_two h1 h2, risesL]; simp; omega
theorem RisAt.done {xs : List Int} {k : Nat} (h : RisAt xs k) (hl : xs.length ≤ k + 1) : true = risesL xs := by
  unfold RisAt at *; rw [← h]
  match hd : xs.drop k with
  | [] => rfl
  | [x] => rfl
  | x :: y :: l =>
    have := congrArg List.length hd
    simp at this
    omega

set_option maxHeartbeats 400000 in
theorem rises_any (A : Option Addr) (n c : Nat) (xs : List Int) (w : World) (h : RdL RI w A n xs) :
    Calls Tryz.prog 56 #[.slice A n c] w (Qt w (.bool (risesL xs))) := by
  have hle := h.le
  have hlen := Lib.hid h.len
  by_cases h1 : 1 < n
  · obtain ⟨b0, o0, v0, x0, rfl, -, -, -, -⟩ := h.at (k := 0) (by omega)
    go_enter Tryz.func56, Tryz.ntmps56
    go_wp2
    go_loopw [3] (fun i wr => ∃ k : Nat, k + 1 ≤ n ∧ i = .int .i64 (k + 1) ∧ RisAt xs k ∧ Drawn w wr) (fun i _ => n - (intOf i).toNat)
    case atStart => exact ⟨0, by omega, rfl, rfl, Drawn.zero _⟩
    case round =>
      obtain ⟨k, hk, rfl, H, z, rfl⟩ := hrel
      by_cases hlt : k + 1 < n
      · obtain ⟨v, x, hc, ⟨rfl, -⟩, -, hx⟩ := h.at' (k := k) (by omega)
        obtain ⟨v', y, hc', ⟨rfl, -⟩, -, hy⟩ := h.at' hlt
        have H1 := Lib.hid hx
        have H2 := Lib.hid hy
        clear hx hy
        have e1 : ((k : Int) + 1 - 1) = k := by omega
        have HE := Lib.hid e1
        clear e1
        have hb1 : (0 : Int) ≤ (k : Int) + 1 - 1 := by omega
        have hb2 : (k : Int) + 1 - 1 < (n : Int) := by omega
        go_wp2
        go_quiet (fail)
        go_wp2
        all_goals first
          | (go_ret
             exact ⟨ret_bool (H.stop H1.out H2.out (by omega)), (by first | exact Drawn.zero _ | exact Drawn.at_ _ _ | exact (Drawn.at_ _ _).more _ | exact ((Drawn.at_ _ _).more _).more _)⟩)
          | (go_roundw
             case rel => exact ⟨k + 1, by omega, by go_num, H.step H1.out H2.out (by omega), (by first | exact Drawn.zero _ | exact Drawn.at_ _ _ | exact (Drawn.at_ _ _).more _ | exact ((Drawn.at_ _ _).more _).more _)⟩
             case measure => simp [intOf]; omega)
      · go_wp2
        go_ret
        exact ⟨ret_bool (H.done (by rw [hlen.out]; omega)), (by first | exact Drawn.zero _ | exact Drawn.at_ _ _ | exact (Drawn.at_ _ _).more _ | exact ((Drawn.at_ _ _).more _).more _)⟩
  · go_enter Tryz.func56, Tryz.ntmps56
    go_wp2
    go_loop [3] (fun i => i = .int .i64 1) (fun _ => 0)
    case atStart => rfl
    case round =>
      subst hrel
      go_wp2
      go_ret
      exact ⟨ret_bool (RisAt.done (k := 0) rfl (by rw [hlen.out]; omega)), (by first | exact Drawn.zero _ | exact Drawn.at_ _ _ | exact (Drawn.at_ _ _).more _ | exact ((Drawn.at_ _ _).more _).more _)⟩

def RInAt (lo hi : Int) (xs : List Int) (k : Nat) : Prop := (allIn lo hi (xs.drop k) && risesL (xs.drop (k - 1))) = (allIn lo hi xs && risesL xs)
theorem RInAt.start (lo hi : Int) (xs : List Int) : RInAt lo hi xs 0 := rfl
theorem RInAt.step0 {lo hi : Int} {xs : List Int} {x : Int} (h : RInAt lo hi xs 0) (hd : xs.drop 0 = x :: xs.drop (0 + 1)) (hi' : inB x lo hi = true) : RInAt lo hi xs (0 + 1) := by
  unfold RInAt at *
  rw [← h, hd, allIn, hi', Bool.true_and]
theorem RInAt.step {lo hi : Int} {xs : List Int} {j : Nat} {p x : Int} (h : RInAt lo hi xs (j + 1)) (hd : xs.drop (j + 1) = x :: xs.drop (j + 1 + 1)) (h1 : xs[j]? = some p) (h2 : xs[j + 1]? = some x) (hi' : inB x lo hi = true) (hlt : p < x) : RInAt lo hi xs (j + 1 + 1) := by
  have hr : RisAt xs j → RisAt xs (j + 1) := fun hh => hh.step h1 h2 hlt
  have hr' : risesL (xs.drop j) = risesL (xs.drop (j + 1)) := by
    obtain ⟨l2, e2⟩ := List.getElem?_eq_some_iff.1 h2
    rw [drop_two h1 h2, risesL, List.drop_eq_getElem_cons l2, e2]; simp [hlt]
  unfold RInAt at *
  rw [← h, hd, allIn, hi', Bool.true_and, Nat.add_sub_cancel, Nat.add_sub_cancel, hr']
theorem RInAt.stop1 {lo hi : Int} {xs : List Int} {k : Nat} {x : Int} (h : RInAt lo hi xs k) (hd : xs.drop k = x :: xs.drop (k + 1)) (hi' : inB x lo hi = false) : false = (allIn lo hi xs && risesL xs) := by
  unfold RInAt at *; rw [← h, hd, allIn, hi']; rfl
theorem RInAt.stop2 {lo hi : Int} {xs : List Int} {j : Nat} {p x : Int} (h : RInAt lo hi xs (j + 1)) (h1 : xs[j]? = some p) (h2 : xs[j + 1]? = some x) (hlt : ¬ p < x) : false = (allIn lo hi xs && risesL xs) := by
  unfold RInAt at *
  rw [← h, Nat.add_sub_cancel, drop_two h1 h2, risesL, decide_eq_false hlt]
  simp
theorem RInAt.done {lo hi : Int} {xs : List Int} {k : Nat} (h : RInAt lo hi xs k) (hl : xs.length ≤ k) : true = (allIn lo hi xs && risesL xs) := by
  unfold RInAt at *
  rw [← h, List.drop_eq_nil_of_le hl]
  have : true = risesL (xs.drop (k - 1)) := by
    match hd : xs.drop (k - 1) with
    | [] => rfl
    | [x] => rfl
    | x :: y :: l =>
      have := congrArg List.length hd
      simp at this
      omega
  rw [← this]
  rfl

set_option maxHeartbeats 400000 in
theorem l1Rising_any (A : Option Addr) (n c : Nat) (xs : List Int) (lo hi : Int) (w : World) (h : RdL RI w A n xs) :
    Calls Tryz.prog 59 #[.slice A n c, .int .i64 lo, .int .i64 hi] w (Qt w (.bool (allIn lo hi xs && risesL xs))) := by
  have hle := h.le
  have hlen := Lib.hid h.len
  go_enter Tryz.func59, Tryz.ntmps59
  go_wp2
  go_loopw [7] (fun i wr => ∃ k : Nat, k ≤ n ∧ i = .int .i64 k ∧ RInAt lo hi xs k ∧ Drawn w wr) (fun i _ => n - (intOf i).toNat)
  case atStart => exact ⟨0, by omega, rfl, rfl, Drawn.zero _⟩
  case round =>
    obtain ⟨k, hk, rfl, H, z, rfl⟩ := hrel
    by_cases hlt : k < n
    · obtain ⟨b, o, v, x, rfl, hc, ⟨rfl, -⟩, hd, hx⟩ := h.at hlt
      have HX := Lib.hid hx
      have HD := Lib.hid hd
      clear hx hd
      rcases hin : inB x lo hi with _ | _
      · have HI := Lib.hid hin
        go_wp2
        go_quiet ((go_at_call 62; exact quiet_add (quiet_same (l1In_any _ _ _ _))))
        go_wp2
        go_ret
        exact ⟨ret_bool (H.stop1 HD.out HI.out), (by first | exact Drawn.zero _ | exact Drawn.at_ _ _ | exact (Drawn.at_ _ _).more _ | exact ((Drawn.at_ _ _).more _).more _)⟩
      · have HI := Lib.hid hin
        rcases k with _ | j
        · have hc0 : w.cell? ⟨b, o, none⟩ = some (.int .i64 x) := hc
          clear hc
          have hn0 : (0 : Int) < (n : Int) := by omega
          rw [show ((0 : Nat) : Int) = 0 from rfl]
          go_wp2
          go_quiet ((go_at_call 62; exact quiet_add (quiet_same (l1In_any _ _ _ _))))
          go_wp2
          go_roundw
          case rel => exact ⟨0 + 1, by omega, by go_num, H.step0 HD.out HI.out, (by first | exact Drawn.zero _ | exact Drawn.at_ _ _ | exact (Drawn.at_ _ _).more _ | exact ((Drawn.at_ _ _).more _).more _)⟩
          case measure => simp [intOf]; omega
        · obtain ⟨v', p, hc', ⟨rfl, -⟩, -, hp⟩ := h.at' (k := j) (by omega)
          have HP := Lib.hid hp
          clear hp
          rw [show ((j + 1 : Nat) : Int) = (j : Int) + 1 from by omega]
          have hj0 : (0 : Int) < (j : Int) + 1 := by omega
          have hb1 : (0 : Int) ≤ (j : Int) + 1 - 1 := by omega
          have hb2 : (j : Int) + 1 - 1 < (n : Int) := by omega
          have hb3 : (j : Int) + 1 < (n : Int) := by omega
          go_wp2
          go_quiet ((go_at_call 62; exact quiet_add (quiet_same (l1In_any _ _ _ _))))
          go_wp2
          all_goals first
            | (go_ret
               exact ⟨ret_bool (H.stop2 HP.out HX.out (by omega)), (by first | exact Drawn.zero _ | exact Drawn.at_ _ _ | exact (Drawn.at_ _ _).more _ | exact ((Drawn.at_ _ _).more _).more _)⟩)
            | (go_roundw
               case rel => exact ⟨j + 1 + 1, by omega, by go_num, H.step HD.out HP.out HX.out HI.out (by omega), (by first | exact Drawn.zero _ | exact Drawn.at_ _ _ | exact (Drawn.at_ _ _).more _ | exact ((Drawn.at_ _ _).more _).more _)⟩
               case measure => simp [intOf]; omega)
    · go_wp2
      go_ret
      exact ⟨ret_bool (H.done (by rw [hlen.out]; omega)), (by first | exact Drawn.zero _ | exact Drawn.at_ _ _ | exact (Drawn.at_ _ _).more _ | exact ((Drawn.at_ _ _).more _).more _)⟩

/-- compareLists: lexicographic, a beginning before the longer list. -/
def lexL : List Int → List Int → Int
  | [], [] => 0
  | [], _ :: _ => -1
  | _ :: _, [] => 1
  | x :: l, y :: m => if x == y then lexL l m else if x < y then -1 else 1
theorem lexL_ends {xs ys : List Int} {k n m : Nat} (hx : xs.length = n) (hy : ys.length = m) (hk : ¬ (k < n ∧ k < m)) (hkn : k ≤ n) (hkm : k ≤ m) : lexL (xs.drop k) (ys.drop k) = if n < m then -1 else if m < n then 1 else 0 := by
  rcases hxd : xs.drop k with _ | ⟨x, l⟩
  · rcases hyd : ys.drop k with _ | ⟨y, l'⟩
    · have h1 := congrArg List.length hxd
      have h2 := congrArg List.length hyd
      simp at h1 h2
      rw [if_neg (by omega), if_neg (by omega)]
      rfl
    · have h1 := congrArg List.length hxd
      have h2 := congrArg List.length hyd
      simp at h1 h2
      rw [if_pos (by omega)]
      rfl
  · rcases hyd : ys.drop k with _ | ⟨y, l'⟩
    · have h1 := congrArg List.length hxd
      have h2 := congrArg List.length hyd
      simp at h1 h2
      rw [if_neg (by omega), if_pos (by omega)]
      rfl
    · have h1 := congrArg List.length hxd
      have h2 := congrArg List.length hyd
      simp at h1 h2
      omega

set_option maxHeartbeats 400000 in
theorem compareLists_any (A B : Option Addr) (n m c d : Nat) (xs ys : List Int) (w : World) (h : RdL RI w A n xs) (h' : RdL RI w B m ys) :
    Calls Tryz.prog 84 #[.slice A n c, .slice B m d] w (Qt w (.int .i64 (lexL xs ys))) := by
  have hle := h.le
  have hle' := h'.le
  have hx := Lib.hid h.len
  have hy := Lib.hid h'.len
  go_enter Tryz.func84, Tryz.ntmps84
  go_wp2
  go_loopw [5] (fun i wr => ∃ k : Nat, k ≤ n ∧ k ≤ m ∧ i = .int .i64 k ∧ At2 lexL xs ys k ∧ Drawn w wr) (fun i _ => n - (intOf i).toNat)
  case atStart => exact ⟨0, Nat.zero_le _, Nat.zero_le _, rfl, rfl, Drawn.zero _⟩
  case round =>
    obtain ⟨k, hk, hk', rfl, H, z, rfl⟩ := hrel
    by_cases hlt : k < n
    · by_cases hlt' : k < m
      · obtain ⟨b, o, v, x, rfl, hc, ⟨rfl, -⟩, hd, -⟩ := h.at hlt
        obtain ⟨b', o', v', y, rfl, hc', ⟨rfl, -⟩, hd', -⟩ := h'.at hlt'
        have H1 := Lib.hid hd
        have H2 := Lib.hid hd'
        clear hd hd'
        by_cases hxy : x = y
        · have hxy' : (x != y) = false := by simp [hxy]
          have HE : Hid ((x == y) = true) := by simp [Hid, hxy]
          clear hxy
          go_wp2
          go_quiet (fail)
          go_wp2
          go_roundw
          case rel => exact ⟨k + 1, by omega, by omega, by go_num, H.step H1.out H2.out (by rw [lexL, HE.out, if_pos rfl]), (by first | exact Drawn.zero _ | exact Drawn.at_ _ _ | exact (Drawn.at_ _ _).more _ | exact ((Drawn.at_ _ _).more _).more _)⟩
          case measure => simp [intOf]; omega
        · have hxy' : (x != y) = true := by simp [hxy]
          have HE : Hid ((x == y) = false) := by simp [Hid, hxy]
          clear hxy
          go_wp2
          go_quiet (fail)
          go_wp2
          go_quiet (fail)
          go_wp2
          · go_ret
            exact ⟨ret_int (H.stop H1.out H2.out (by rw [lexL, HE.out, if_neg (by decide), if_pos (by assumption)])), (by first | exact Drawn.zero _ | exact Drawn.at_ _ _ | exact (Drawn.at_ _ _).more _ | exact ((Drawn.at_ _ _).more _).more _)⟩
          · go_ret
            exact ⟨ret_int (H.stop H1.out H2.out (by rw [lexL, HE.out, if_neg (by decide), if_neg (by omega)])), (by first | exact Drawn.zero _ | exact Drawn.at_ _ _ | exact (Drawn.at_ _ _).more _ | exact ((Drawn.at_ _ _).more _).more _)⟩
      · go_wp2
        all_goals
          go_ret
          exact ⟨ret_int (H.done rfl rfl (by rw [lexL_ends hx.out hy.out (by omega) hk hk']; first | rw [if_pos (by omega)] | rw [if_neg (by omega), if_pos (by omega)] | rw [if_neg (by omega), if_neg (by omega)])), (by first | exact Drawn.zero _ | exact Drawn.at_ _ _ | exact (Drawn.at_ _ _).more _ | exact ((Drawn.at_ _ _).more _).more _)⟩
    · go_wp2
      all_goals
        go_ret
        exact ⟨ret_int (H.done rfl rfl (by rw [lexL_ends hx.out hy.out (by omega) hk hk']; first | rw [if_pos (by omega)] | rw [if_neg (by omega), if_pos (by omega)] | rw [if_neg (by omega), if_neg (by omega)])), (by first | exact Drawn.zero _ | exact Drawn.at_ _ _ | exact (Drawn.at_ _ _).more _ | exact ((Drawn.at_ _ _).more _).more _)⟩

/-- compareTerms: shorter lists first. -/
def cmpT (xs ys : List Int) : Int := if xs.length < ys.length then -1 else if ys.length < xs.length then 1 else lexL xs ys
set_option maxHeartbeats 400000 in
theorem compareTerms_any (A B : Option Addr) (n m c d : Nat) (xs ys : List Int) (w : World) (h : RdL RI w A n xs) (h' : RdL RI w B m ys) :
    Calls Tryz.prog 67 #[.slice A n c, .slice B m d] w (Qt w (.int .i64 (cmpT xs ys))) := by
  have hle := h.le
  have hle' := h'.le
  have hx := Lib.hid h.len
  have hy := Lib.hid h'.len
  by_cases h1 : n < m
  · go_enter Tryz.func67, Tryz.ntmps67
    go_wp2
    go_ret
    exact ⟨ret_int (by unfold cmpT; rw [hx.out, hy.out, if_pos h1]), (by first | exact Drawn.zero _ | exact Drawn.at_ _ _ | exact (Drawn.at_ _ _).more _ | exact ((Drawn.at_ _ _).more _).more _)⟩
  · by_cases h2 : m < n
    · go_enter Tryz.func67, Tryz.ntmps67
      go_wp2
      go_ret
      exact ⟨ret_int (by unfold cmpT; rw [hx.out, hy.out, if_neg (by omega), if_pos h2]), (by first | exact Drawn.zero _ | exact Drawn.at_ _ _ | exact (Drawn.at_ _ _).more _ | exact ((Drawn.at_ _ _).more _).more _)⟩
    · go_enter Tryz.func67, Tryz.ntmps67
      go_wp2_with (go_at_call 84; refine (compareLists_any _ _ _ _ _ _ _ _ _ h h').mono ?_; rintro e w' ⟨rfl, z', rfl⟩)
      go_ret
      exact ⟨ret_int (by unfold cmpT; rw [hx.out, hy.out, if_neg (by omega), if_neg (by omega)]), (by first | exact Drawn.zero _ | exact Drawn.at_ _ _ | exact (Drawn.at_ _ _).more _ | exact ((Drawn.at_ _ _).more _).more _)⟩

/-- l5Less, at lists of one length. -/
def lessL : List Int → List Int → Bool
  | x :: l, y :: m => if x == y then lessL l m else decide (x < y)
  | _, _ => false
set_option maxHeartbeats 400000 in
theorem l5Less_any (A B : Option Addr) (n c d : Nat) (xs ys : List Int) (w : World) (h : RdL RI w A n xs) (h' : RdL RI w B n ys) :
    Calls Tryz.prog 85 #[.slice A n c, .slice B n d] w (Qt w (.bool (lessL xs ys))) := by
  have hle := h.le
  go_enter Tryz.func85, Tryz.ntmps85
  go_wp2
  go_loopw [5] (fun i wr => ∃ k : Nat, k ≤ n ∧ i = .int .i64 k ∧ At2 lessL xs ys k ∧ Drawn w wr) (fun i _ => n - (intOf i).toNat)
  case atStart => exact ⟨0, Nat.zero_le _, rfl, rfl, Drawn.zero _⟩
  case round =>
    obtain ⟨k, hk, rfl, H, z, rfl⟩ := hrel
    by_cases hlt : k < n
    · obtain ⟨b, o, v, x, rfl, hc, ⟨rfl, -⟩, hd, -⟩ := h.at hlt
      obtain ⟨b', o', v', y, rfl, hc', ⟨rfl, -⟩, hd', -⟩ := h'.at hlt
      have H1 := Lib.hid hd
      have H2 := Lib.hid hd'
      clear hd hd'
      by_cases hxy : x = y
      · have hxy' : (x != y) = false := by simp [hxy]
        have HE : Hid ((x == y) = true) := by simp [Hid, hxy]
        clear hxy
        go_wp2
        go_quiet (fail)
        go_wp2
        go_roundw
        case rel => exact ⟨k + 1, by omega, by go_num, H.step H1.out H2.out (by rw [lessL, HE.out, if_pos rfl]), (by first | exact Drawn.zero _ | exact Drawn.at_ _ _ | exact (Drawn.at_ _ _).more _ | exact ((Drawn.at_ _ _).more _).more _)⟩
        case measure => simp [intOf]; omega
      · have hxy' : (x != y) = true := by simp [hxy]
        have HE : Hid ((x == y) = false) := by simp [Hid, hxy]
        clear hxy
        go_wp2
        go_quiet (fail)
        go_wp2
        go_quiet (fail)
        go_wp2
        go_ret
        exact ⟨ret_bool (H.stop H1.out H2.out (by rw [lessL, HE.out, if_neg (by decide)])), (by first | exact Drawn.zero _ | exact Drawn.at_ _ _ | exact (Drawn.at_ _ _).more _ | exact ((Drawn.at_ _ _).more _).more _)⟩
    · go_wp2
      go_ret
      exact ⟨ret_bool (H.done (h.drop_end hlt) (h'.drop_end hlt) rfl), (by first | exact Drawn.zero _ | exact Drawn.at_ _ _ | exact (Drawn.at_ _ _).more _ | exact ((Drawn.at_ _ _).more _).more _)⟩
end Go.Proofs.YtkmgbdljiajlaaaGreatDoor
namespace Go.Proofs.YtkmgbdljiajlaaaGreatDoor
open Go.RowKit

/-- The members of a list that stand in another. -/
def meetL (ys : List Int) : List Int → List Int
  | [] => []
  | x :: l => if hasI x ys then x :: meetL ys l else meetL ys l
theorem ints_snoc (xs : List Int) (x : Int) : ints (xs ++ [x]) = ints xs ++ [.int .i64 x] := by simp [ints]
/-- A list being gathered in a row of the call's own. -/
def Gat (B : Nat) (w wr : World) (v : Value) (m : Nat) (acc : List Int) : Prop := ∃ A c, v = .slice A m c ∧ acc.length = m ∧ wr.ownsRow B 3 1 (.slice A m c) m (ints acc) ∧ Below B w wr

set_option maxHeartbeats 400000 in
theorem meetLists_any (A B : Option Addr) (n m c d : Nat) (xs ys : List Int) (w : World) (h : RdL RI w A n xs) (h' : RdL RI w B m ys) (hn : n ≤ 1048576) :
    Calls Tryz.prog 72 #[.slice A n c, .slice B m d] w fun e w' => ∃ A' n' c', e = .returned (.slice A' n' c') ∧ w'.ownsRow w.heap.size 3 1 (.slice A' n' c') n' (ints (meetL ys xs)) ∧ Below w.heap.size w w' := by
  have hle := h.le
  go_enter Tryz.func72, Tryz.ntmps72
  go_wp2
  go_loopw [5, 11] (fun v i wr => ∃ (k m : Nat) (acc : List Int), k ≤ n ∧ m ≤ k ∧ i = .int .i64 k ∧ Acc (meetL ys) xs k acc ∧ Gat w.heap.size w wr v m acc) (fun _ i _ => n - (intOf i).toNat)
  case atStart => exact ⟨0, 0, [], Nat.zero_le _, Nat.le_refl _, rfl, rfl, _, _, rfl, rfl, World.ownsRow_lit _ _ _ (Nat.le_refl _) (Nat.zero_le _) rfl, below_box _ _⟩
  case round =>
    obtain ⟨k, m', acc, hk, hmk, rfl, H, A', c', rfl, hacc, hown, hT⟩ := hrel
    replace h := h.next stab_RI hT
    replace h' := h'.next stab_RI hT
    by_cases hlt : k < n
    · obtain ⟨b, o, v, x, rfl, hc, ⟨rfl, -⟩, hd, -⟩ := h.at hlt
      have H1 := Lib.hid hd
      have HA := Lib.hid hacc
      clear hd hacc
      have hbase := hT.size
      go_wp2_with (first | (go_at_call 39; refine (hasNot_any _ _ _ _ _ _ h').mono ?_; rintro e w' ⟨rfl, rfl⟩) | (at_builtin; refine app1 wr rfl _ _ 27 3 rfl (.int .i64 0) 8 Tryz.underlying27 info_int rfl (by decide) w.heap.size m' c' A' (ints acc) rfl hown (.int .i64 x) rfl rfl (by omega) hbase ?_; intro A2 c2 w2 hown2 hg2 hb2))
      · have hin : hasI x ys = true := (by first | assumption | exact bt2 (by assumption) | exact net (by assumption) | exact netc (by assumption) | exact eqc (by assumption))
        go_roundw
        case rel => exact ⟨k + 1, m' + 1, acc ++ [x], by omega, by omega, by go_num, H.keep H1.out (by rw [meetL, if_pos hin]), A2, c2, rfl, by simp [HA.out], by rw [ints_snoc]; exact hown2, hT.trans hb2⟩
        case measure => simp [intOf]; omega
      · have hin : ¬ hasI x ys = true := by rw [show hasI x ys = false from (by first | assumption | exact bf1 (by assumption) | exact bf2 (by assumption) | exact nef (by assumption) | exact nefc (by assumption) | exact eqc (by assumption))]; decide
        go_roundw
        case rel => exact ⟨k + 1, m', acc, by omega, by omega, by go_num, H.skip H1.out (by rw [meetL, if_neg hin]), A', c', rfl, HA.out, hown, hT⟩
        case measure => simp [intOf]; omega
    · go_wp2
      go_ret
      exact ⟨_, _, _, rfl, by rw [← H.done (h.drop_end hlt) rfl]; exact hown, hT⟩

/-- 0, 1, .. n - 1 -/
def upTo (n : Nat) : List Int := (List.range n).map fun (k : Nat) => (k : Int)
theorem upTo_len (k : Nat) : (upTo k).length = k := by simp [upTo]
set_option maxHeartbeats 400000 in
theorem clone_any (A : Option Addr) (n c : Nat) (xs : List Int) (w : World) (h : RdL RI w A n xs) (hn : n ≤ 1048576) :
    Calls Tryz.prog 74 #[.slice A n c] w fun e w' => ∃ A' c', e = .returned (.slice A' n c') ∧ w'.ownsRow w.heap.size 3 1 (.slice A' n c') n (ints xs) ∧ Below w.heap.size w w' := by
  have hT := below_box w (.cells #[] 3)
  have hown : (w.alloc (.cells #[] 3)).ownsRow w.heap.size 3 1 (.slice (some ⟨w.heap.size, 0, none⟩) 0 0) 0 [] := World.ownsRow_lit _ _ _ (Nat.le_refl _) (Nat.zero_le _) rfl
  have h1 := h.next stab_RI hT
  go_enter Tryz.func74, Tryz.ntmps74
  go_wp2_with (at_builtin; refine appAny _ rfl _ _ 27 3 rfl (.int .i64 0) 8 Tryz.underlying27 info_int rfl (by decide) w.heap.size 0 0 (some ⟨w.heap.size, 0, none⟩) [] rfl hown A n c xs (.int .i64) (fun _ => rfl) rfl h1 (fun _ _ _ hr => hr.1) (by omega) hT.size ?_; intro A2 c2 w2 hown2 hg2 hb2)
  go_ret
  refine ⟨A2, c2, by simp, ?_, hT.trans hb2⟩
  simpa [ints] using hown2
end Go.Proofs.YtkmgbdljiajlaaaGreatDoor
namespace Go.Proofs.YtkmgbdljiajlaaaGreatDoor
open Go.RowKit

/-- Of the blocks that there were, only some from lo on and below hi have turned. -/
structure Chg (lo hi : Nat) (w w' : World) : Prop where
  os : w'.os = w.os
  tape : w'.tape = w.tape
  output : w'.output = w.output
  size : w.heap.size ≤ w'.heap.size
  block : ∀ b, b < w.heap.size → (b < lo ∨ hi ≤ b) → w'.heap[b]? = w.heap[b]?
theorem Chg.below {lo hi B : Nat} {w w' : World} (h : Chg lo hi w w') (hB : B ≤ lo) (hBw : B ≤ w.heap.size) : Below B w w' :=
  ⟨h.os, h.tape, h.output, h.size, fun k hk => h.block k (by omega) (.inl (by omega))⟩
theorem Chg.refl (lo hi : Nat) (w : World) : Chg lo hi w w := ⟨rfl, rfl, rfl, Nat.le_refl _, fun _ _ _ => rfl⟩
theorem Chg.trans {lo hi : Nat} {a b c : World} (h : Chg lo hi a b) (k : Chg lo hi b c) : Chg lo hi a c :=
  ⟨k.os.trans h.os, k.tape.trans h.tape, k.output.trans h.output, Nat.le_trans h.size k.size, fun i hi hh => (k.block i (Nat.lt_of_lt_of_le hi h.size) hh).trans (h.block i hi hh)⟩
theorem Chg.mono {lo hi lo' hi' : Nat} {w w' : World} (h : Chg lo hi w w') (h1 : lo' ≤ lo) (h2 : hi ≤ hi') : Chg lo' hi' w w' :=
  ⟨h.os, h.tape, h.output, h.size, fun k hk hh => h.block k hk (by omega)⟩
theorem Chg.grown {lo hi g : Nat} {w w' : World} (h : w.grownBy w' (some g)) (h1 : lo ≤ g) (h2 : g < hi) : Chg lo hi w w' :=
  ⟨h.os, h.tape, h.output, h.size, fun k hk hh => h.block k hk (by simp; omega)⟩

/-- k, k + 1, .. : n numbers. -/
def nums (k : Int) : Nat → List Int
  | 0 => []
  | n + 1 => k :: nums (k + 1) n
/-! ## [][]int -/
/-- A slice of slices of the call's own, its inner slices by name. -/
def OwMv {α : Type} (eo ei : TypeId) (f : α → Value) (lo : Nat) (w : World) (v : Value) (n : Nat) (vs : List Value) (xss : List (List α)) : Prop :=
  w.ownsRow lo eo 1 v n vs ∧ vs.length = xss.length ∧ (∀ (k : Nat) u xs, vs[k]? = some u → xss[k]? = some xs → w.ownsRow lo ei 1 u xs.length (xs.map f)) ∧ (vs.filterMap Value.ownBlock).Nodup
/-- The inner slices' blocks lie below hi. -/
def InHi (hi : Nat) (vs : List Value) : Prop := ∀ u ∈ vs, ∀ b, u.ownBlock = some b → b < hi
theorem nodup_blocks : ∀ {vs : List Value}, (vs.filterMap Value.ownBlock).Nodup → ∀ {i j : Nat} {u v : Value} {b : Nat}, vs[i]? = some u → vs[j]? = some v → u.ownBlock = some b → v.ownBlock = some b → i = j
  | [], _, i, j, u, v, b, hi, _, _, _ => by simp at hi
  | x :: l, h, i, j, u, v, b, hi, hj, hu, hv => by
    have mem : ∀ {k : Nat} {y : Value}, l[k]? = some y → y.ownBlock = some b → b ∈ l.filterMap Value.ownBlock := fun hk hy => List.mem_filterMap.2 ⟨_, List.mem_of_getElem? hk, hy⟩
    rw [List.filterMap_cons] at h
    match i, j with
    | 0, 0 => rfl
    | 0, j + 1 =>
      simp at hi hj
      subst hi
      rw [hu] at h
      exact absurd (mem hj hv) (List.nodup_cons.1 h).1
    | i + 1, 0 =>
      simp at hi hj
      subst hj
      rw [hv] at h
      exact absurd (mem hi hu) (List.nodup_cons.1 h).1
    | i + 1, j + 1 =>
      simp at hi hj
      have h' : (l.filterMap Value.ownBlock).Nodup := by
        cases hx : x.ownBlock with
        | none => rw [hx] at h; exact h
        | some c => rw [hx] at h; exact (List.nodup_cons.1 h).2
      rw [nodup_blocks h' hi hj hu hv]
section
variable {α : Type} {eo ei : TypeId} {f : α → Value} {lo hi : Nat} {w w' : World} {v : Value} {n : Nat} {vs : List Value} {xss : List (List α)}
theorem OwM.names (h : OwM eo ei f lo w v n xss) : ∃ vs, OwMv eo ei f lo w v n vs xss ∧ InHi w.heap.size vs := by
  obtain ⟨vs, h1, h2, h3, h4⟩ := h
  refine ⟨vs, ⟨h1, h2, h3, h4⟩, fun u hu b hb => ?_⟩
  obtain ⟨k, hk⟩ := List.getElem?_of_mem hu
  have hkl : k < xss.length := by rw [← h2]; exact (List.getElem?_eq_some_iff.1 hk).1
  exact ((h3 k u _ hk (List.getElem?_eq_getElem hkl)).lt b hb).2
theorem OwMv.own (h : OwMv eo ei f lo w v n vs xss) : OwM eo ei f lo w v n xss := ⟨vs, h⟩
theorem OwMv.next (h : OwMv eo ei f lo w v n vs xss) (hb : Below w.heap.size w w') : OwMv eo ei f lo w' v n vs xss :=
  ⟨own_next h.1 hb, h.2.1, fun k u xs hu hx => own_next (h.2.2.1 k u xs hu hx) hb, h.2.2.2⟩
theorem OwMv.mono {lo' : Nat} (h : OwMv eo ei f lo w v n vs xss) (hb : lo' ≤ lo) : OwMv eo ei f lo' w v n vs xss :=
  ⟨own_mono h.1 hb, h.2.1, fun k u xs hu hx => own_mono (h.2.2.1 k u xs hu hx) hb, h.2.2.2⟩
theorem OwMv.setRow (hne : eo ≠ ei) (h : OwMv eo ei f lo w v n vs xss) {j : Nat} {u : Value} {ys : List α} (hj : vs[j]? = some u) (hg : w.grownBy w' u.ownBlock) (hu : w'.ownsRow lo ei 1 u ys.length (ys.map f)) : OwMv eo ei f lo w' v n vs (xss.set j ys) := by
  have hjl : j < xss.length := by rw [← h.2.1]; exact (List.getElem?_eq_some_iff.1 hj).1
  have hold := h.2.2.1 j u _ hj (List.getElem?_eq_getElem hjl)
  refine ⟨own_same h.1 fun b hb => hg.block b (h.1.lt b hb).2 (fun e => own_ne hold h.1 hne.symm e.symm hb), by rw [List.length_set]; exact h.2.1, fun k u' xs hk hx => ?_, h.2.2.2⟩
  by_cases e : k = j
  · subst e
    rw [hj] at hk
    injection hk with hk
    subst hk
    rw [List.getElem?_set_self hjl] at hx
    injection hx with hx
    subst hx
    exact hu
  · rw [List.getElem?_set_ne (fun e' => e e'.symm)] at hx
    have ho := h.2.2.1 k u' xs hk hx
    exact own_same ho fun b hb => hg.block b (ho.lt b hb).2 (fun e' => e (nodup_blocks h.2.2.2 hk hj hb e'.symm))
end
def numss (k : Int) : List (List Int) → List (List Int)
  | [] => []
  | xs :: l => nums k xs.length :: numss (k + xs.length) l
def total : List (List Int) → Nat
  | [] => 0
  | xs :: l => xs.length + total l
/-- Marked as far as the j-th row, the next number being k. -/
def MarkAt (k0 : Int) (xss yss : List (List Int)) (j : Nat) (k : Int) : Prop := yss.take j ++ numss k (xss.drop j) = numss k0 xss ∧ yss.drop j = xss.drop j ∧ yss.length = xss.length ∧ k + total (xss.drop j) = k0 + total xss ∧ k0 ≤ k
theorem MarkAt.start (k0 : Int) (xss : List (List Int)) : MarkAt k0 xss xss 0 k0 := ⟨by simp, rfl, rfl, by simp, Int.le_refl _⟩
theorem MarkAt.step {k0 k : Int} {xss yss : List (List Int)} {j : Nat} (h : MarkAt k0 xss yss j k) (hj : j < xss.length) : MarkAt k0 xss (yss.set j (nums k (xss[j]).length)) (j + 1) (k + (xss[j]).length) := by
  obtain ⟨h1, h2, h3, h4, h5⟩ := h
  have hjy : j < yss.length := by omega
  have hd := List.drop_eq_getElem_cons hj
  refine ⟨?_, ?_, by simp [h3], ?_, by omega⟩
  · rw [← h1, hd, numss, List.take_add_one, List.getElem?_set_self hjy, List.take_set_of_le (Nat.le_refl j)]
    simp
  · rw [List.drop_set_of_lt (by omega)]
    have e1 : (yss.drop j).drop 1 = (xss.drop j).drop 1 := by rw [h2]
    simpa [List.drop_drop] using e1
  · rw [hd, total] at h4
    omega
theorem MarkAt.done {k0 k : Int} {xss yss : List (List Int)} {j : Nat} (h : MarkAt k0 xss yss j k) (hj : xss.length ≤ j) : yss = numss k0 xss ∧ k = k0 + total xss := by
  obtain ⟨h1, h2, h3, h4, h5⟩ := h
  rw [List.drop_eq_nil_of_le hj, numss, List.append_nil, List.take_of_length_le (by omega)] at h1
  rw [List.drop_eq_nil_of_le hj, total] at h4
  exact ⟨h1, by omega⟩
def HeldAt (k0 : Int) (xss : List (List Int)) (j : Nat) (k : Int) : Prop := numss k (xss.drop j) = (numss k0 xss).drop j ∧ k + total (xss.drop j) = k0 + total xss ∧ k0 ≤ k
theorem HeldAt.start (k0 : Int) (xss : List (List Int)) : HeldAt k0 xss 0 k0 := ⟨rfl, rfl, Int.le_refl _⟩
theorem HeldAt.step {k0 k : Int} {xss : List (List Int)} {j : Nat} (h : HeldAt k0 xss j k) (hj : j < xss.length) : (numss k0 xss)[j]? = some (nums k (xss[j]).length) ∧ HeldAt k0 xss (j + 1) (k + (xss[j]).length) := by
  obtain ⟨h1, h2, h3⟩ := h
  have hd := List.drop_eq_getElem_cons hj
  rw [hd, numss] at h1
  rw [hd, total] at h2
  refine ⟨?_, ?_, by omega, by omega⟩
  · have := congrArg (fun l => l[0]?) h1
    simpa [List.getElem?_drop] using this.symm
  · have := congrArg (fun l => l.drop 1) h1
    simpa [List.drop_drop] using this
end Go.Proofs.YtkmgbdljiajlaaaGreatDoor
namespace Go.Proofs.YtkmgbdljiajlaaaGreatDoor
open Go.ChangeShapes Go.WideShapes Go.ChangeAt Go.RowKit Go.Joins Go.Deep
section
variable {H : Type} {enc : TypeId × Value → H} {P : Program} {w : World}
/-- Whatever reads as data of type t is something that R speaks of. -/
def Opens {α : Type} (enc : TypeId × Value → H) (P : Program) (w : World) (t : TypeId) (R : World → Value → α → Prop) : Prop :=
  ∀ (fuel : Nat) (v : Value) (y : DataW H × List MemPlace), DataW.trod enc P w 0 (fun _ => true) true fuel t [v] = some y → ∃ x, R w v x
/-- A slice that comes in, with its capacity. -/
def RVc {α : Type} (R : World → Value → α → Prop) (w : World) (v : Value) (xs : List α) : Prop := ∃ A n c, v = .slice A n c ∧ n ≤ c ∧ RdL R w A n xs
theorem opens_slice {α : Type} {R : World → Value → α → Prop} {t e : TypeId} (ht : P.underlying t = some (.slice e)) (hc : P.cellsOf e = 1) (he : Opens enc P w e R) : Opens enc P w t (RVc R) := fun fuel v y h => by
  rcases open_slice1 ht hc h with ⟨e, -⟩ | ⟨a, len, cap, m, n, V, D, Pl, e, -, hl, hm, hmm, -, hx⟩
  · simp at e
    exact ⟨[], none, 0, 0, e, Nat.le_refl _, RdL.nil _ _ _⟩
  · simp at e
    simp only [if_true] at hmm
    subst hmm
    have hch : ∀ k, k < len → ∃ x, R w (V k) x := fun k hk => he n (V k) _ (hx k (by omega)).2
    obtain ⟨xs, hxl, hxp⟩ : ∃ l : List α, l.length = len ∧ ∀ (k : Nat) x, l[k]? = some x → R w (V k) x := by
      clear hx hl hm e
      induction len with
      | zero => exact ⟨[], rfl, fun k x hx => by simp at hx⟩
      | succ len ih =>
        obtain ⟨l, hl, hp⟩ := ih fun k hk => hch k (by omega)
        obtain ⟨x, hx⟩ := hch len (by omega)
        refine ⟨l ++ [x], by simp [hl], fun k y hy => ?_⟩
        by_cases hk : k < len
        · rw [List.getElem?_append_left (by omega)] at hy
          exact hp k y hy
        · have hk2 := (List.getElem?_eq_some_iff.1 hy).1
          simp at hk2
          have hkn : k = len := by omega
          subst hkn
          rw [List.getElem?_append_right (by omega), hl, Nat.sub_self] at hy
          simp at hy
          subst hy
          exact hx
    refine ⟨xs, some a, len, m, e, hl, hxl, by omega, fun k x hk => ?_⟩
    have hkl : k < len := by rw [← hxl]; exact (List.getElem?_eq_some_iff.1 hk).1
    have hc0 := (hx k (by omega)).1
    have hspot : a.spot = none := by
      have h0 := (hx 0 (by omega)).1
      have := World.cell?_spot h0
      simpa [Addr.add] using this
    obtain ⟨b, o, spot⟩ := a
    simp only at hspot
    subst hspot
    refine ⟨b, o, V k, rfl, ?_, hxp k x hk⟩
    have ea : (⟨b, o, none⟩ : Addr).add k = ⟨b, o + k, none⟩ := by
      unfold Addr.add
      split
      · rename_i h0; subst h0; rfl
      · rfl
    rw [← ea]
    exact hc0
end
end Go.Proofs.YtkmgbdljiajlaaaGreatDoor
namespace Go.Proofs.YtkmgbdljiajlaaaGreatDoor
open Go.RowKit

set_option maxHeartbeats 400000 in
theorem l1Own_any (A : Option Addr) (n c : Nat) (xs : List Int) (w : World) (h : RdL RI w A n xs) (hn : n ≤ 1048576) :
    Calls Tryz.prog 75 #[.slice A n c] w fun e w' => ∃ A' c', e = .returned (.slice A' n c') ∧ w'.ownsRow w.heap.size 3 1 (.slice A' n c') n (ints xs) ∧ Below w.heap.size w w' := by
  have hT := below_box w (.cells #[] 3)
  have hown : (w.alloc (.cells #[] 3)).ownsRow w.heap.size 3 1 (.slice (some ⟨w.heap.size, 0, none⟩) 0 0) 0 [] := World.ownsRow_lit _ _ _ (Nat.le_refl _) (Nat.zero_le _) rfl
  have h1 := h.next stab_RI hT
  go_enter Tryz.func75, Tryz.ntmps75
  go_wp2_with (at_builtin; refine appAny _ rfl _ _ 27 3 rfl (.int .i64 0) 8 Tryz.underlying27 info_int rfl (by decide) w.heap.size 0 0 (some ⟨w.heap.size, 0, none⟩) [] rfl hown A n c xs (.int .i64) (fun _ => rfl) rfl h1 (fun _ _ _ hr => hr.1) (by omega) hT.size ?_; intro A2 c2 w2 hown2 hg2 hb2)
  go_ret
  refine ⟨A2, c2, by simp, ?_, hT.trans hb2⟩
  simpa [ints] using hown2
end Go.Proofs.YtkmgbdljiajlaaaGreatDoor
namespace Go.Proofs.YtkmgbdljiajlaaaGreatDoor
open Go.RowKit

abbrev SlT : Type := Option Addr × Nat × Nat
def slV (t : SlT) : Value := .slice t.1 t.2.1 t.2.2
def RSl (_ : World) (v : Value) (t : SlT) : Prop := v = slV t
theorem stab_RSl : Stab RSl := fun _ _ _ _ _ h => h
end Go.Proofs.YtkmgbdljiajlaaaGreatDoor
namespace Go.Proofs.YtkmgbdljiajlaaaGreatDoor
open Go.RowKit

/-- Is the list a set of numbers below n? -/
def setB (n : Int) (s : List Int) : Bool := allIn 0 (n - 1) s && risesL s
set_option maxHeartbeats 400000 in
theorem isSetOf_any (A : Option Addr) (m c : Nat) (xs : List Int) (n : Int) (w : World) (h : RdL RI w A m xs) :
    Calls Tryz.prog 37 #[.int .i64 n, .slice A m c] w (Qt w (.bool (setB n xs))) := by
  rcases h1 : allIn 0 (n - 1) xs with _ | _
  all_goals
    have H1 := Lib.hid h1
    go_enter Tryz.func37, Tryz.ntmps37
    go_wp2_with (first | (go_at_call 57; refine (inSize_any _ _ _ _ _ _ h).mono ?_; rintro e w' ⟨rfl, rfl⟩) | (go_at_call 56; refine (rises_any _ _ _ _ _ h).mono ?_; rintro e w' ⟨rfl, z, rfl⟩))
    go_ret
    exact ⟨ret_bool (by unfold setB; rw [H1.out]; rfl), (by first | exact Drawn.zero _ | exact Drawn.at_ _ _ | exact (Drawn.at_ _ _).more _ | exact ((Drawn.at_ _ _).more _).more _)⟩

/-- Is the meet of s with each of some lists among xss? -/
def meetsIn (xss : List (List Int)) (s : List Int) : List (List Int) → Bool
  | [] => true
  | t :: l => if place xss (meetL t s) < 0 then false else meetsIn xss s l
/-- What the loop over the sets says from the k-th on. -/
def sysRest (n : Int) (xss : List (List Int)) : Nat → List (List Int) → Bool
  | _, [] => decide (0 < xss.length) && ((xss.getLast?.getD []).length : Int) == n
  | k, s :: l => setB n s && (k == 0 || decide (cmpT (xss.getD (k - 1) []) s < 0)) && meetsIn xss s (xss.take k) && sysRest n xss (k + 1) l
def sysB (n : Int) (xss : List (List Int)) : Bool := sysRest n xss 0 xss
def SysAt (n : Int) (xss : List (List Int)) (k : Nat) : Prop := sysRest n xss k (xss.drop k) = sysB n xss
theorem SysAt.step {n : Int} {xss : List (List Int)} {k : Nat} {s : List Int} (h : SysAt n xss k) (hd : xss.drop k = s :: xss.drop (k + 1)) (h1 : setB n s = true) (h2 : (k == 0 || decide (cmpT (xss.getD (k - 1) []) s < 0)) = true) (h3 : true = meetsIn xss s (xss.take k)) : SysAt n xss (k + 1) := by
  unfold SysAt at *; rw [← h, hd, sysRest, h1, h2, ← h3]; rfl
theorem SysAt.stop1 {n : Int} {xss : List (List Int)} {k : Nat} {s : List Int} (h : SysAt n xss k) (hd : xss.drop k = s :: xss.drop (k + 1)) (h1 : setB n s = false) : false = sysB n xss := by
  unfold SysAt at *; rw [← h, hd, sysRest, h1]; rfl
theorem SysAt.stop2 {n : Int} {xss : List (List Int)} {k : Nat} {s : List Int} (h : SysAt n xss k) (hd : xss.drop k = s :: xss.drop (k + 1)) (h2 : (k == 0 || decide (cmpT (xss.getD (k - 1) []) s < 0)) = false) : false = sysB n xss := by
  unfold SysAt at *; rw [← h, hd, sysRest, h2]; simp
theorem SysAt.stop3 {n : Int} {xss : List (List Int)} {k : Nat} {s : List Int} (h : SysAt n xss k) (hd : xss.drop k = s :: xss.drop (k + 1)) (h3 : false = meetsIn xss s (xss.take k)) : false = sysB n xss := by
  unfold SysAt at *; rw [← h, hd, sysRest, ← h3]; simp
theorem SysAt.done {n : Int} {xss : List (List Int)} {k : Nat} {r : Bool} (h : SysAt n xss k) (hd : xss.drop k = []) (hr : sysRest n xss k [] = r) : r = sysB n xss := by
  unfold SysAt at *; rw [← h, hd, hr]
theorem RdL.take {α : Type} {R : World → Value → α → Prop} {w : World} {A : Option Addr} {n : Nat} {xs : List α} (h : RdL R w A n xs) {k : Nat} (hk : k ≤ n) : RdL R w A k (xs.take k) := by
  refine ⟨by rw [List.length_take, h.1]; omega, Nat.le_trans hk h.2.1, fun j x hj => ?_⟩
  rw [List.getElem?_take] at hj
  split at hj
  · exact h.2.2 j x hj
  · cases hj

theorem meetL_mem {ys xs : List Int} {x : Int} (h : x ∈ meetL ys xs) : x ∈ xs := by
  induction xs with
  | nil => simp [meetL] at h
  | cons a l ih =>
    rw [meetL] at h
    split at h
    · rcases List.mem_cons.1 h with rfl | h
      · exact List.mem_cons_self ..
      · exact List.mem_cons_of_mem _ (ih h)
    · exact List.mem_cons_of_mem _ (ih h)
theorem meetL_bounds {w : World} {A : Option Addr} {n : Nat} {xs ys : List Int} (h : RdL RI w A n xs) : ∀ x ∈ meetL ys xs, -9223372036854775808 ≤ x ∧ x ≤ 9223372036854775807 :=
  fun x hx => h.bounds x (meetL_mem hx)

set_option maxHeartbeats 1000000 in
theorem isSystem_any (A : Option Addr) (m c : Nat) (xss : List (List Int)) (n : Int) (w : World) (h : RdL (RV RI) w A m xss) (hm : m ≤ c) (hm2 : ∀ xs ∈ xss, xs.length ≤ 1048576) :
    Calls Tryz.prog 35 #[.int .i64 n, .slice A m c] w (Bl w (.bool (sysB n xss))) := by
  have hle := h.le
  have hlen := Lib.hid h.len
  have HM2 := Lib.hid hm2
  clear hm2
  go_enter Tryz.func35, Tryz.ntmps35
  go_wp2
  go_loopw [11] (fun i wr => ∃ k : Nat, k ≤ m ∧ i = .int .i64 k ∧ SysAt n xss k ∧ Below w.heap.size w wr) (fun i _ => m - (intOf i).toNat)
  case atStart => exact ⟨0, Nat.zero_le _, rfl, rfl, Below.refl _ _⟩
  case round =>
    obtain ⟨k, hk, rfl, H, hT⟩ := hrel
    replace h := h.next stab_RVI hT
    by_cases hlt : k < m
    · obtain ⟨b, o, v, s, rfl, hc, ⟨B, j, d, rfl, hs⟩, hd, hx⟩ := h.at hlt
      have H1 := Lib.hid hd
      have hj : j ≤ 1048576 := by have := HM2.out s (List.mem_of_getElem? hx); have := hs.len; omega
      clear hd hx
      rcases hb1 : setB n s with _ | _
      · have HB1 := Lib.hid hb1
        go_wp2_with (go_at_call 37; refine (isSetOf_any _ _ _ _ _ _ hs).mono ?_; rintro e w' ⟨rfl, z, rfl⟩)
        go_ret
        exact ⟨ret_bool (H.stop1 H1.out HB1.out), below_drewN hT _⟩
      · have HB1 := Lib.hid hb1
        rcases hb2 : (k == 0 || decide (cmpT (xss.getD (k - 1) []) s < 0)) with _ | _
        · have HB2 := Lib.hid hb2
          have hk0 : 1 ≤ k := by simp at hb2; omega
          obtain ⟨v', p, hc', ⟨B', j', d', rfl, hp⟩, -, hpx⟩ := h.at' (k := k - 1) (by omega)
          have HP : Hid (xss.getD (k - 1) [] = p) := by simp [Hid, hpx]
          have HC : Hid (¬ cmpT p s < 0) := by
            rw [HP.out] at hb2
            simp at hb2
            have := hb2.2
            show ¬ _
            omega
          clear hb2 hpx
          have hi1 : (0 : Int) < (k : Int) := by omega
          have hi2 : (0 : Int) ≤ (k : Int) - 1 := by omega
          have hi3 : (k : Int) - 1 < (m : Int) := by omega
          have hneg : 0 ≤ cmpT p s := by have := HC.out; omega
          go_wp2_with (first | (go_at_call 37; refine (isSetOf_any _ _ _ _ _ _ hs).mono ?_; rintro e w' ⟨rfl, z, rfl⟩) | (go_at_call 67; refine (compareTerms_any _ _ _ _ _ _ _ _ _ (hp.drewN stab_RI _) (hs.drewN stab_RI _)).mono ?_; rintro e w' ⟨rfl, z', rfl⟩))
          go_ret
          exact ⟨ret_bool (H.stop2 H1.out HB2.out), by first | exact below_drewN hT _ | exact below_drewN (below_drewN hT _) _⟩
        · have HB2 := Lib.hid hb2
          have ht := h.take (k := k) (by omega)
          have hkc : (k : Int) ≤ (c : Int) := by omega
          have hk00 : (0 : Int) ≤ (k : Int) := by omega
          obtain ⟨wo, hwo⟩ : ∃ wo : World, wo = wr := ⟨_, rfl⟩
          subst hwo
          have HPv : k = 0 ∨ ∃ p, 1 ≤ k ∧ Hid (xss[k - 1]? = some p) ∧ cmpT p s < 0 := by
            rcases Nat.eq_zero_or_pos k with h0 | h0
            · exact .inl h0
            · obtain ⟨v', p, -, -, -, hpx⟩ := h.at' (k := k - 1) (by omega)
              refine .inr ⟨p, h0, hpx, ?_⟩
              simp [hpx] at hb2
              rcases hb2 with hb2 | hb2
              · omega
              · exact hb2
          clear hb2
          rcases HPv with hk0 | ⟨p, hk1, hpx, hneg⟩
          · have hi1 : ¬ (0 : Int) < (k : Int) := by omega
            clear hk0
            go_wp2_with (go_at_call 37; refine (isSetOf_any _ _ _ _ _ _ hs).mono ?_; rintro e w' ⟨rfl, z, rfl⟩)
            go_loopw [38] (fun i wi => ∃ q : Nat, q ≤ k ∧ i = .int .i64 q ∧ At (meetsIn xss s) (xss.take k) q ∧ Below wo.heap.size wo wi) (fun i _ => k - (intOf i).toNat)
            case atStart => exact ⟨0, Nat.zero_le _, rfl, rfl, by first | exact below_drewN (Below.refl _ _) _ | exact below_drewN (below_drewN (Below.refl _ _) _) _⟩
            case round =>
              obtain ⟨q, hq, rfl, HQ, hTi⟩ := hrel
              replace ht := ht.next stab_RVI hTi
              by_cases hltq : q < k
              · exfalso; omega
              · have HE := HQ.done (ht.drop_end hltq) rfl
                have HEE := Lib.hid HE
                clear HE
                go_wp2
                go_roundw
                case rel => exact ⟨k + 1, by omega, by go_num, H.step H1.out HB1.out HB2.out HEE.out, below_next hT hTi rfl⟩
                case measure => simp [intOf]; omega
          · obtain ⟨v', p', hc', ⟨B', j', d', rfl, hp⟩, -, hpx'⟩ := h.at' (k := k - 1) (by omega)
            obtain rfl : p' = p := by have := hpx.out; rw [hpx'] at this; injection this
            clear hpx' hpx
            have hi1 : (0 : Int) < (k : Int) := by omega
            have hi2 : (0 : Int) ≤ (k : Int) - 1 := by omega
            have hi3 : (k : Int) - 1 < (m : Int) := by omega
            go_wp2_with (first | (go_at_call 37; refine (isSetOf_any _ _ _ _ _ _ hs).mono ?_; rintro e w' ⟨rfl, z, rfl⟩) | (go_at_call 67; refine (compareTerms_any _ _ _ _ _ _ _ _ _ (hp.drewN stab_RI _) (hs.drewN stab_RI _)).mono ?_; rintro e w' ⟨rfl, z', rfl⟩))
            go_loopw [38] (fun i wi => ∃ q : Nat, q ≤ k ∧ i = .int .i64 q ∧ At (meetsIn xss s) (xss.take k) q ∧ Below wo.heap.size wo wi) (fun i _ => k - (intOf i).toNat)
            case atStart => exact ⟨0, Nat.zero_le _, rfl, rfl, by first | exact below_drewN (Below.refl _ _) _ | exact below_drewN (below_drewN (Below.refl _ _) _) _⟩
            case round =>
              obtain ⟨q, hq, rfl, HQ, hTi⟩ := hrel
              replace h := h.next stab_RVI hTi
              replace ht := ht.next stab_RVI hTi
              replace hs := hs.next stab_RI hTi
              by_cases hltq : q < k
              · obtain ⟨v, t, hct, ⟨Bt, jt, dt, rfl, htt⟩, hdt, -⟩ := ht.at' hltq
                have H2 := Lib.hid hdt
                clear hdt
                go_wp2_with fail
                refine (meetLists_any _ _ _ _ _ _ _ _ _ hs htt hj).mono ?_
                rintro e w2 ⟨A', n', c', rfl, how, hb2⟩
                have hm' := rd_of_own (R := RI) how (fun x hx => ⟨rfl, meetL_bounds hs x hx⟩)
                replace h := h.next stab_RVI hb2
                go_wp2_with (go_at_call 71; refine (patternAt_any _ _ _ _ _ _ _ _ _ h hm').mono ?_; rintro e w' ⟨rfl, rfl⟩)
                · go_ret
                  exact ⟨ret_bool (H.stop3 H1.out (HQ.stop H2.out (by rw [meetsIn, if_pos (by assumption)]))), below_next hT (below_next hTi hb2 rfl) rfl⟩
                · go_roundw
                  case rel => exact ⟨q + 1, by omega, by go_num, HQ.step H2.out (by rw [meetsIn, if_neg (by omega)]), below_next hTi hb2 rfl⟩
                  case measure => simp [intOf]; omega
              · have HE := HQ.done (ht.drop_end hltq) rfl
                have HEE := Lib.hid HE
                clear HE
                go_wp2
                go_roundw
                case rel => exact ⟨k + 1, by omega, by go_num, H.step H1.out HB1.out HB2.out HEE.out, below_next hT hTi rfl⟩
                case measure => simp [intOf]; omega
    · have hd := h.drop_end hlt
      have hend : sysRest n xss k [] = (decide (0 < xss.length) && ((xss.getLast?.getD []).length : Int) == n) := rfl
      have HE := Lib.hid hend
      have HD := Lib.hid hd
      clear hend hd
      by_cases hm0 : m = 0
      · have hi : ¬ (0 : Int) < (m : Int) := by omega
        have hi' : decide (0 < m) = false := by simp; omega
        go_wp2
        go_ret
        exact ⟨ret_bool (H.done HD.out (by rw [HE.out, hlen.out]; simp [hm0])), hT⟩
      · obtain ⟨b, o, v, s, rfl, hc, ⟨B, j, d, rfl, hs⟩, -, hx⟩ := h.at (k := m - 1) (by omega)
        have hi : (0 : Int) < (m : Int) := by omega
        have hi' : decide (0 < m) = true := by simp; omega
        have hi2 : (0 : Int) ≤ (m : Int) - 1 := by omega
        have hi3 : (m : Int) - 1 < (m : Int) := by omega
        have HL : Hid (xss.getLast?.getD [] = s) := by
          show _ = _
          rw [List.getLast?_eq_getElem?, hlen.out, hx]; rfl
        have HJ := Lib.hid hs.len
        clear hx
        go_wp2
        go_ret
        exact ⟨ret_bool (H.done HD.out (by rw [HE.out, hlen.out, HL.out, HJ.out, decide_eq_true (by omega)]; rfl)), hT⟩
end Go.Proofs.YtkmgbdljiajlaaaGreatDoor
namespace Go.Proofs.YtkmgbdljiajlaaaGreatDoor
open Go.RowKit

/-- A slice value by its parts. -/
theorem choose_list {α : Type} {p : Nat → α → Prop} (n : Nat) (h : ∀ (k : Nat), k < n → ∃ x, p k x) : ∃ l : List α, l.length = n ∧ ∀ (k : Nat) x, l[k]? = some x → p k x := by
  induction n with
  | zero => exact ⟨[], rfl, fun k x hx => by simp at hx⟩
  | succ n ih =>
    obtain ⟨l, hl, hp⟩ := ih fun k hk => h k (by omega)
    obtain ⟨x, hx⟩ := h n (by omega)
    refine ⟨l ++ [x], by simp [hl], fun k y hy => ?_⟩
    rcases Nat.lt_or_ge k n with _ | _
    · rw [List.getElem?_append_left (by omega)] at hy
      exact hp k y hy
    · have hk2 := (List.getElem?_eq_some_iff.1 hy).1
      simp at hk2
      have hkn : k = n := by omega
      subst hkn
      rw [List.getElem?_append_right (by omega), hl, Nat.sub_self] at hy
      simp at hy
      subst hy
      exact hx
/-- The places of the inner slices. -/
theorem RdL.raw {α : Type} {R : World → Value → α → Prop} {w : World} {A : Option Addr} {n : Nat} {xss : List (List α)} (h : RdL (RV R) w A n xss) :
    ∃ ts : List SlT, RdL RSl w A n ts ∧ ∀ (k : Nat) t xs, ts[k]? = some t → xss[k]? = some xs → RdL R w t.1 t.2.1 xs := by
  obtain ⟨ts, hl, hp⟩ := choose_list (p := fun k (t : SlT) => ∃ b o xs, A = some ⟨b, o, none⟩ ∧ w.cell? ⟨b, o + k, none⟩ = some (slV t) ∧ xss[k]? = some xs ∧ RdL R w t.1 t.2.1 xs) n (fun k hk => by
    obtain ⟨b, o, v, xs, e, hc, ⟨B, m, c, rfl, hr⟩, -, hx⟩ := h.at hk
    exact ⟨(B, m, c), b, o, xs, e, hc, hx, hr⟩)
  refine ⟨ts, ⟨hl, h.2.1, fun k t hk => ?_⟩, fun k t xs ht hx => ?_⟩
  · obtain ⟨b, o, xs, e, hc, -, -⟩ := hp k t hk
    exact ⟨b, o, slV t, e, hc, rfl⟩
  · obtain ⟨b, o, ys, -, -, hy, hr⟩ := hp k t ht
    rw [hx] at hy
    injection hy with hy
    rw [hy]
    exact hr
/-- .. and back: a row of the call's own that holds such places. -/
theorem rd_of_raw {α : Type} {R : World → Value → α → Prop} {w : World} {base : Nat} {e : TypeId} {A : Option Addr} {n c : Nat} {ts : List SlT} {xss : List (List α)} (hl : ts.length = xss.length) (h : w.ownsRow base e 1 (.slice A n c) n (ts.map slV))
    (hR : ∀ (k : Nat) t xs, ts[k]? = some t → xss[k]? = some xs → RdL R w t.1 t.2.1 xs) : RdL (RV R) w A n xss := by
  have hn := rd_of_own (R := RSl) h (fun x _ => rfl)
  refine ⟨by rw [← hl, hn.1], hn.2.1, fun k xs hk => ?_⟩
  have hkl : k < ts.length := by rw [hl]; exact (List.getElem?_eq_some_iff.1 hk).1
  obtain ⟨b, o, v, e, hc, hv⟩ := hn.2.2 k ts[k] (List.getElem?_eq_getElem hkl)
  exact ⟨b, o, v, e, hc, ts[k].1, ts[k].2.1, ts[k].2.2, hv, hR k _ xs (List.getElem?_eq_getElem hkl) hk⟩
theorem RdL.drop {α : Type} {R : World → Value → α → Prop} {w : World} {b o n : Nat} {xs : List α} (h : RdL R w (some ⟨b, o, none⟩) n xs) (k : Nat) : RdL R w (some ⟨b, o + k, none⟩) (n - k) (xs.drop k) := by
  refine ⟨by rw [List.length_drop, h.1], Nat.le_trans (Nat.sub_le _ _) h.2.1, fun j x hj => ?_⟩
  rw [List.getElem?_drop] at hj
  obtain ⟨b', o', v, e, hc, hr⟩ := h.2.2 (k + j) x hj
  simp only [Option.some.injEq, Addr.mk.injEq, and_true] at e
  obtain ⟨rfl, rfl⟩ := e
  exact ⟨b, o + k, v, rfl, by rw [Nat.add_assoc]; exact hc, hr⟩

theorem rd_cell {w : World} {g : Nat} {t : SlT} (h : w.cell? ⟨g, 0, none⟩ = some (slV t)) : RdL RSl w (some ⟨g, 0, none⟩) 1 [t] := by
  refine ⟨rfl, by unfold maxLen; omega, fun k x hk => ?_⟩
  have hk1 := (List.getElem?_eq_some_iff.1 hk).1
  simp at hk1
  subst hk1
  simp at hk
  subst hk
  exact ⟨g, 0, slV t, rfl, h, rfl⟩
theorem lit0 {B : Nat} {e : TypeId} (w : World) (hB : w.heap.size = B) : (w.alloc (.cells #[] e)).ownsRow B e 1 (.slice (some ⟨B, 0, none⟩) 0 0) 0 [] := by
  subst hB
  exact World.ownsRow_lit _ _ _ (Nat.le_refl _) (Nat.zero_le _) rfl
theorem lit1 {B : Nat} {e : TypeId} (w : World) (hB : w.heap.size = B + 1) : (w.alloc (.cells #[] e)).ownsRow B e 1 (.slice (some ⟨B + 1, 0, none⟩) 0 0) 0 [] := by
  rw [← hB]
  exact World.ownsRow_lit _ _ _ (by omega) (Nat.zero_le _) rfl

theorem cell_new {B : Nat} {e : TypeId} {u : Value} (w : World) (hB : w.heap.size = B) : (w.alloc (.cells #[u] e)).cell? ⟨B, 0, none⟩ = some u := by
  subst hB
  exact (Blk.new w e #[u]).cell 0
theorem cell_new2 {B : Nat} {e : TypeId} {u : Value} (w : World) (o : Obj) (hB : w.heap.size = B) : ((w.alloc (.cells #[u] e)).alloc o).cell? ⟨B, 0, none⟩ = some u := by
  subst hB
  exact ((Blk.new w e #[u]).alloc o).cell 0

/-- Does p go ahead of q? Shorter lists first, then by the numbers. -/
def lessT (p q : List Int) : Bool := decide (p.length < q.length) || (decide (p.length = q.length) && lessL p q)
def insPos (p : List Int) (xss : List (List Int)) : Nat → Nat
  | 0 => 0
  | k + 1 => if lessT p (xss.getD k []) then insPos p xss k else k + 1
theorem insPos_le (p : List Int) (xss : List (List Int)) : ∀ n, insPos p xss n ≤ n
  | 0 => Nat.le_refl _
  | k + 1 => by have := insPos_le p xss k; rw [insPos]; split <;> omega
def insT (p : List Int) (xss : List (List Int)) : List (List Int) := xss.take (insPos p xss xss.length) ++ p :: xss.drop (insPos p xss xss.length)

theorem own_form {w : World} {base : Nat} {e : TypeId} {size : Nat} {A : Option Addr} {n c : Nat} {xs : List Value} (h : w.ownsRow base e size (.slice A n c) n xs) (hn : 0 < n) : ∃ g, A = some ⟨g, 0, none⟩ ∧ base ≤ g ∧ n ≤ c := by
  rcases h.2 with ⟨h0, h1⟩ | ⟨g, cap, cur, hv, hb, _, hnc, _⟩
  · omega
  · injection hv with hA _ hc
    exact ⟨g, hA, hb, by omega⟩
theorem sort_cap {w : World} {base : Nat} {e : TypeId} {size : Nat} {A : Option Addr} {n c : Nat} {xs : List Value} (h : w.ownsRow base e size (.slice A n c) n xs) : n ≤ c := by
  rcases h.2 with ⟨h0, h1⟩ | ⟨g, cap, cur, hv, _, _, hnc, _⟩
  · omega
  · injection hv with _ _ hc
    omega
theorem sort_res {w : World} {base : Nat} {e : TypeId} {A B : Option Addr} {n c m d k : Nat} {ts : List SlT} {xss : List (List Int)} {p : List Int} (h : w.ownsRow base e 1 (.slice A (n + 1) c) (n + 1) ((ts.take k ++ (B, m, d) :: ts.drop k).map slV))
    (hts : ts.length = n) (hx : xss.length = n) (hk : insPos p xss n = k) (hkn : k ≤ n) (hR : ∀ (j : Nat) t xs, ts[j]? = some t → xss[j]? = some xs → RdL RI w t.1 t.2.1 xs) (hp : RdL RI w B m p) : RdL (RV RI) w A (n + 1) (insT p xss) := by
  have hI : insT p xss = xss.take k ++ p :: xss.drop k := by unfold insT; rw [hx, hk]
  rw [hI]
  refine rd_of_raw (by simp [hts, hx]) h fun j t xs ht hxs => ?_
  have l1 : (ts.take k).length = k := by rw [List.length_take, hts]; omega
  have l2 : (xss.take k).length = k := by rw [List.length_take, hx]; omega
  rcases Nat.lt_trichotomy j k with hj | hj | hj
  · rw [List.getElem?_append_left (by omega), List.getElem?_take, if_pos hj] at ht hxs
    exact hR j t xs ht hxs
  · subst hj
    rw [List.getElem?_append_right (by omega), l1, Nat.sub_self] at ht
    rw [List.getElem?_append_right (by omega), l2, Nat.sub_self] at hxs
    simp at ht hxs
    subst ht
    subst hxs
    exact hp
  · rw [List.getElem?_append_right (by omega), l1] at ht
    rw [List.getElem?_append_right (by omega), l2] at hxs
    obtain ⟨i, hi⟩ : ∃ i, j - k = i + 1 := ⟨j - k - 1, by omega⟩
    rw [hi, List.getElem?_cons_succ, List.getElem?_drop] at ht hxs
    exact hR _ t xs ht hxs

set_option maxHeartbeats 2000000 in
theorem l5Sort_any (b o n c : Nat) (B : Option Addr) (m d : Nat) (xss : List (List Int)) (p : List Int) (w : World) (h : RdL (RV RI) w (some ⟨b, o, none⟩) n xss) (hp : RdL RI w B m p) (hc : n ≤ c) (hn : n ≤ 1048576) :
    Calls Tryz.prog 70 #[.slice (some ⟨b, o, none⟩) n c, .slice B m d] w fun e w' => ∃ g c', e = .returned (.slice (some ⟨g, 0, none⟩) (n + 1) c') ∧ n + 1 ≤ c' ∧ RdL (RV RI) w' (some ⟨g, 0, none⟩) (n + 1) (insT p xss) ∧ Below w.heap.size w w' := by
  have hle := h.le
  have hlen := Lib.hid h.len
  have hplen := Lib.hid hp.len
  go_enter Tryz.func70, Tryz.ntmps70
  go_wp2
  go_loopw [5] (fun i wr => ∃ k : Nat, k ≤ n ∧ i = .int .i64 k ∧ Hid (insPos p xss k = insPos p xss n) ∧ Drawn w wr) (fun i _ => (intOf i).toNat)
  case atStart => exact ⟨n, Nat.le_refl _, rfl, rfl, Drawn.zero _⟩
  case round =>
    obtain ⟨k, hk, rfl, H, z, rfl⟩ := hrel
    by_cases hk0 : 0 < k
    · have hi0 : (0 : Int) < (k : Int) := by omega
      have hi1 : (0 : Int) ≤ (k : Int) - 1 := by omega
      have hi2 : (k : Int) - 1 < (n : Int) := by omega
      obtain ⟨v, q, hcq, ⟨Q, j, dq, rfl, hq⟩, -, hx⟩ := h.at' (k := k - 1) (by omega)
      have hqlen := Lib.hid hq.len
      have HS : Hid (insPos p xss k = if lessT p q then insPos p xss (k - 1) else k) := by
        obtain ⟨k', rfl⟩ : ∃ k', k = k' + 1 := ⟨k - 1, by omega⟩
        simp at hx
        show insPos p xss (k' + 1) = _
        rw [insPos, List.getD_eq_getElem?_getD, hx]
        rfl
      clear hx
      by_cases h1 : m < j
      · go_wp2
        go_roundw
        case rel => exact ⟨k - 1, by omega, by rw [show ((k : Int) - 1) = ((k - 1 : Nat) : Int) from by omega], by rw [← H.out, HS.out, show lessT p q = true by unfold lessT; simp [hplen.out, hqlen.out, h1]]; rfl, (by first | exact Drawn.zero _ | exact Drawn.at_ _ _ | exact (Drawn.at_ _ _).more _ | exact ((Drawn.at_ _ _).more _).more _)⟩
        case measure => simp [intOf]; omega
      · by_cases h2 : m = j
        · subst h2
          rcases hl : lessL p q with _ | _
          · have HL := Lib.hid hl
            have HP : Hid (insPos p xss n = k) := by
              show _ = _
              rw [← H.out, HS.out, show lessT p q = false by unfold lessT; simp [hplen.out, hqlen.out, HL.out]]; rfl
            go_wp2_with (go_at_call 85; refine (l5Less_any _ _ _ _ _ _ _ _ (hp.drewN stab_RI _) (hq.drewN stab_RI _)).mono ?_; rintro e w' ⟨rfl, z', rfl⟩)
            have hk1 : (k : Int) ≤ (c : Int) := by omega
            have hk2 : (0 : Int) ≤ (k : Int) := by omega
            have hk3 : (k : Int) ≤ (n : Int) := by omega
            obtain ⟨ts, hts, htr⟩ := h.raw
            have HTS := Lib.hid hts.len
            by_cases hkc : c = k
            · have hnk : n = k := by omega
              have HD0 : Hid (ts.drop k = []) := List.drop_eq_nil_of_le (by rw [HTS.out]; omega)
              have HNK := Lib.hid hnk
              subst hkc
              go_region_law (first
                | (refine step_appAny _ rfl (.tmp 43) (.tmp 46) 24 27 rfl (.slice none 0 0) 24 Tryz.underlying24 info_ints rfl (by decide) w.heap.size 0 0 (some ⟨w.heap.size, 0, none⟩) [] (by rfl) (by first | exact lit0 _ (by simp) | exact (lit0 _ (by simp)).alloc _) (some ⟨b, o, none⟩) c c (ts.take c) slV (fun _ => rfl) (by rfl) ((hts.take (k := c) (by omega)).next stab_RSl (by first | exact (below_drewN (Below.refl _ _) _).alloc (by simp) _ | exact ((below_drewN (Below.refl _ _) _).alloc (by simp) _).alloc (by first | (simp; done) | (simp; omega)) _)) (fun _ _ _ hr => hr) (by omega) (by first | (simp; done) | (simp; omega)) ?_; intro A2 c2 w2 hown2 hg2 hb2; simp only [Nat.zero_add, List.nil_append] at hown2)
                | (refine step_appAny _ rfl (.tmp 43) (.tmp 46) 24 27 rfl (.slice none 0 0) 24 Tryz.underlying24 info_ints rfl (by decide) w.heap.size 0 0 (some ⟨w.heap.size + 1, 0, none⟩) [] (by rfl) (lit1 _ (by simp)) (some ⟨b, o, none⟩) c c (ts.take c) slV (fun _ => rfl) (by rfl) ((hts.take (k := c) (by omega)).next stab_RSl (by first | exact (below_drewN (Below.refl _ _) _).alloc (by simp) _ | exact ((below_drewN (Below.refl _ _) _).alloc (by simp) _).alloc (by first | (simp; done) | (simp; omega)) _)) (fun _ _ _ hr => hr) (by omega) (by first | (simp; done) | (simp; omega)) ?_; intro A2 c2 w2 hown2 hg2 hb2; simp only [Nat.zero_add, List.nil_append] at hown2)
                | (refine step_appAny (R := RSl) _ rfl (.tmp 47) (.tmp 49) 24 27 rfl (.slice none 0 0) 24 Tryz.underlying24 info_ints rfl (by decide) w.heap.size c c2 A2 ((ts.take c).map slV) (by rfl) (hown2.alloc _) (some ⟨w2.heap.size, 0, none⟩) 1 1 [(B, m, d)] slV (fun _ => rfl) (by rfl) (rd_cell (t := (B, m, d)) (cell_new _ rfl)) (fun _ _ _ hr => hr) (by omega) (by have h1 := hb2.size; first | (simp at h1; omega) | (simp at h1 ⊢; omega) | (simp; omega) | omega) ?_; intro A3 c3 w3 hown3 hg3 hb3)
                | (refine step_appAny (R := RSl) _ rfl (.tmp 47) (.tmp 49) 24 27 rfl (.slice none 0 0) 24 Tryz.underlying24 info_ints rfl (by decide) w.heap.size c c2 A2 ((ts.take c).map slV) (by rfl) hown2 (some ⟨w.heap.size + 1, 0, none⟩) 1 1 [(B, m, d)] slV (fun _ => rfl) (by rfl) (rd_cell (t := (B, m, d)) (hg2.cell (v := slV (B, m, d)) (cell_new _ (by simp)) (by simp [Value.ownBlock]))) (fun _ _ _ hr => hr) (by omega) (by have h1 := hb2.size; first | (simp at h1; omega) | (simp at h1 ⊢; omega) | (simp; omega) | omega) ?_; intro A3 c3 w3 hown3 hg3 hb3)
                | (refine step_appAny (R := RSl) _ rfl (.tmp 47) (.tmp 49) 24 27 rfl (.slice none 0 0) 24 Tryz.underlying24 info_ints rfl (by decide) w.heap.size c c2 A2 ((ts.take c).map slV) (by rfl) hown2 (some ⟨w.heap.size, 0, none⟩) 1 1 [(B, m, d)] slV (fun _ => rfl) (by rfl) (rd_cell (t := (B, m, d)) (hg2.cell (v := slV (B, m, d)) (cell_new2 _ _ (by simp)) (by simp [Value.ownBlock]))) (fun _ _ _ hr => hr) (by omega) (by have h1 := hb2.size; first | (simp at h1; omega) | (simp at h1 ⊢; omega) | (simp; omega) | omega) ?_; intro A3 c3 w3 hown3 hg3 hb3)
                | (refine step_appAny _ rfl (.tmp 50) (.tmp 53) 24 27 rfl (.slice none 0 0) 24 Tryz.underlying24 info_ints rfl (by decide) w.heap.size (c + 1) c3 A3 ((ts.take c).map slV ++ [slV (B, m, d)]) (by rfl) hown3 (some ⟨b, o, none⟩) 0 0 ([] : List SlT) slV (fun _ => rfl) (by rfl) (RdL.nil _ _ _) (fun _ _ _ hr => hr) (by omega) (by have h1 := hb2.size; have h2 := hb3.size; first | (simp at h1; omega) | (simp at h1 h2; omega) | (simp at h2; omega) | omega) ?_; intro A4 c4 w4 hown4 hg4 hb4))
              all_goals
                have hF3 : Below w.heap.size w w3 := (by refine Below.trans ?_ hb3; first | (refine Below.trans ?_ hb2; first | exact (below_drewN (Below.refl _ _) _).alloc (by simp) _ | exact ((below_drewN (Below.refl _ _) _).alloc (by simp) _).alloc (by first | (simp; done) | (simp; omega)) _) | (refine Below.alloc ?_ (by have h1 := hb2.size; first | (simp at h1; omega) | omega) _; refine Below.trans ?_ hb2; first | exact (below_drewN (Below.refl _ _) _).alloc (by simp) _ | exact ((below_drewN (Below.refl _ _) _).alloc (by simp) _).alloc (by first | (simp; done) | (simp; omega)) _))
                have hF := hF3.trans hb4
                have e1 : c + 1 + 0 = n + 1 := by omega
                rw [e1] at hown4
                have eL : (ts.take c).map slV ++ [slV (B, m, d)] ++ (([] : List SlT)).map slV = ((ts.take c) ++ (B, m, d) :: ts.drop c).map slV := by simp [HD0.out]
                rw [eL] at hown4
                obtain ⟨g4, hA4, -, hcap⟩ := own_form hown4 (by omega)
                have hres := sort_res (p := p) hown4 HTS.out hlen.out HP.out (by omega) (fun j t xs ht hx => (htr j t xs ht hx).next stab_RI hF) (hp.next stab_RI hF)
                rw [hA4] at hres
                have HA4 := Lib.hid hA4
                clear hA4 e1 eL
                go_wp2
                go_ret
                exact ⟨g4, c4, by rw [← HA4.out, HNK.out]; rfl, hcap, hres, hF⟩
            · go_region_law (first
                | (refine step_appAny _ rfl (.tmp 43) (.tmp 46) 24 27 rfl (.slice none 0 0) 24 Tryz.underlying24 info_ints rfl (by decide) w.heap.size 0 0 (some ⟨w.heap.size, 0, none⟩) [] (by rfl) (by first | exact lit0 _ (by simp) | exact (lit0 _ (by simp)).alloc _) (some ⟨b, o, none⟩) k c (ts.take k) slV (fun _ => rfl) (by rfl) ((hts.take (k := k) (by omega)).next stab_RSl (by first | exact (below_drewN (Below.refl _ _) _).alloc (by simp) _ | exact ((below_drewN (Below.refl _ _) _).alloc (by simp) _).alloc (by first | (simp; done) | (simp; omega)) _)) (fun _ _ _ hr => hr) (by omega) (by first | (simp; done) | (simp; omega)) ?_; intro A2 c2 w2 hown2 hg2 hb2; simp only [Nat.zero_add, List.nil_append] at hown2)
                | (refine step_appAny _ rfl (.tmp 43) (.tmp 46) 24 27 rfl (.slice none 0 0) 24 Tryz.underlying24 info_ints rfl (by decide) w.heap.size 0 0 (some ⟨w.heap.size + 1, 0, none⟩) [] (by rfl) (lit1 _ (by simp)) (some ⟨b, o, none⟩) k c (ts.take k) slV (fun _ => rfl) (by rfl) ((hts.take (k := k) (by omega)).next stab_RSl (by first | exact (below_drewN (Below.refl _ _) _).alloc (by simp) _ | exact ((below_drewN (Below.refl _ _) _).alloc (by simp) _).alloc (by first | (simp; done) | (simp; omega)) _)) (fun _ _ _ hr => hr) (by omega) (by first | (simp; done) | (simp; omega)) ?_; intro A2 c2 w2 hown2 hg2 hb2; simp only [Nat.zero_add, List.nil_append] at hown2)
                | (refine step_appAny (R := RSl) _ rfl (.tmp 47) (.tmp 49) 24 27 rfl (.slice none 0 0) 24 Tryz.underlying24 info_ints rfl (by decide) w.heap.size k c2 A2 ((ts.take k).map slV) (by rfl) (hown2.alloc _) (some ⟨w2.heap.size, 0, none⟩) 1 1 [(B, m, d)] slV (fun _ => rfl) (by rfl) (rd_cell (t := (B, m, d)) (cell_new _ rfl)) (fun _ _ _ hr => hr) (by omega) (by have h1 := hb2.size; first | (simp at h1; omega) | (simp at h1 ⊢; omega) | (simp; omega) | omega) ?_; intro A3 c3 w3 hown3 hg3 hb3)
                | (refine step_appAny (R := RSl) _ rfl (.tmp 47) (.tmp 49) 24 27 rfl (.slice none 0 0) 24 Tryz.underlying24 info_ints rfl (by decide) w.heap.size k c2 A2 ((ts.take k).map slV) (by rfl) hown2 (some ⟨w.heap.size + 1, 0, none⟩) 1 1 [(B, m, d)] slV (fun _ => rfl) (by rfl) (rd_cell (t := (B, m, d)) (hg2.cell (v := slV (B, m, d)) (cell_new _ (by simp)) (by simp [Value.ownBlock]))) (fun _ _ _ hr => hr) (by omega) (by have h1 := hb2.size; first | (simp at h1; omega) | (simp at h1 ⊢; omega) | (simp; omega) | omega) ?_; intro A3 c3 w3 hown3 hg3 hb3)
                | (refine step_appAny (R := RSl) _ rfl (.tmp 47) (.tmp 49) 24 27 rfl (.slice none 0 0) 24 Tryz.underlying24 info_ints rfl (by decide) w.heap.size k c2 A2 ((ts.take k).map slV) (by rfl) hown2 (some ⟨w.heap.size, 0, none⟩) 1 1 [(B, m, d)] slV (fun _ => rfl) (by rfl) (rd_cell (t := (B, m, d)) (hg2.cell (v := slV (B, m, d)) (cell_new2 _ _ (by simp)) (by simp [Value.ownBlock]))) (fun _ _ _ hr => hr) (by omega) (by have h1 := hb2.size; first | (simp at h1; omega) | (simp at h1 ⊢; omega) | (simp; omega) | omega) ?_; intro A3 c3 w3 hown3 hg3 hb3)
                | (refine step_appAny _ rfl (.tmp 50) (.tmp 53) 24 27 rfl (.slice none 0 0) 24 Tryz.underlying24 info_ints rfl (by decide) w.heap.size (k + 1) c3 A3 ((ts.take k).map slV ++ [slV (B, m, d)]) (by rfl) hown3 (some ⟨b, o + k, none⟩) (n - k) (c - k) (ts.drop k) slV (fun _ => rfl) (by rfl) ((hts.drop k).next stab_RSl (by refine Below.trans ?_ hb3; first | (refine Below.trans ?_ hb2; first | exact (below_drewN (Below.refl _ _) _).alloc (by simp) _ | exact ((below_drewN (Below.refl _ _) _).alloc (by simp) _).alloc (by first | (simp; done) | (simp; omega)) _) | (refine Below.alloc ?_ (by have h1 := hb2.size; first | (simp at h1; omega) | omega) _; refine Below.trans ?_ hb2; first | exact (below_drewN (Below.refl _ _) _).alloc (by simp) _ | exact ((below_drewN (Below.refl _ _) _).alloc (by simp) _).alloc (by first | (simp; done) | (simp; omega)) _))) (fun _ _ _ hr => hr) (by omega) (by have h1 := hb2.size; have h2 := hb3.size; first | (simp at h1; omega) | (simp at h1 h2; omega) | (simp at h2; omega) | omega) ?_; intro A4 c4 w4 hown4 hg4 hb4))
              all_goals
                have hF3 : Below w.heap.size w w3 := (by refine Below.trans ?_ hb3; first | (refine Below.trans ?_ hb2; first | exact (below_drewN (Below.refl _ _) _).alloc (by simp) _ | exact ((below_drewN (Below.refl _ _) _).alloc (by simp) _).alloc (by first | (simp; done) | (simp; omega)) _) | (refine Below.alloc ?_ (by have h1 := hb2.size; first | (simp at h1; omega) | omega) _; refine Below.trans ?_ hb2; first | exact (below_drewN (Below.refl _ _) _).alloc (by simp) _ | exact ((below_drewN (Below.refl _ _) _).alloc (by simp) _).alloc (by first | (simp; done) | (simp; omega)) _))
                have hF := hF3.trans hb4
                have e1 : k + 1 + (n - k) = n + 1 := by omega
                rw [e1] at hown4
                have eL : (ts.take k).map slV ++ [slV (B, m, d)] ++ (ts.drop k).map slV = ((ts.take k) ++ (B, m, d) :: ts.drop k).map slV := by simp
                rw [eL] at hown4
                obtain ⟨g4, hA4, -, hcap⟩ := own_form hown4 (by omega)
                have hres := sort_res (p := p) hown4 HTS.out hlen.out HP.out (by omega) (fun j t xs ht hx => (htr j t xs ht hx).next stab_RI hF) (hp.next stab_RI hF)
                rw [hA4] at hres
                have HA4 := Lib.hid hA4
                clear hA4 e1 eL
                go_wp2
                go_ret
                exact ⟨g4, c4, by rw [← HA4.out, show k + 1 + (n - k) = n + 1 from by omega]; rfl, hcap, hres, hF⟩
          · have HL := Lib.hid hl
            go_wp2_with (go_at_call 85; refine (l5Less_any _ _ _ _ _ _ _ _ (hp.drewN stab_RI _) (hq.drewN stab_RI _)).mono ?_; rintro e w' ⟨rfl, z', rfl⟩)
            go_roundw
            case rel => exact ⟨k - 1, by omega, by rw [show ((k : Int) - 1) = ((k - 1 : Nat) : Int) from by omega], by rw [← H.out, HS.out, show lessT p q = true by unfold lessT; simp [hplen.out, hqlen.out, HL.out]]; rfl, (by first | exact Drawn.zero _ | exact Drawn.at_ _ _ | exact (Drawn.at_ _ _).more _ | exact ((Drawn.at_ _ _).more _).more _)⟩
            case measure => simp [intOf]; omega
        · have hne : ((m : Int) == (j : Int)) = false := by simp; omega
          have HP : Hid (insPos p xss n = k) := by
            show _ = _
            rw [← H.out, HS.out, show lessT p q = false by unfold lessT; simp [hplen.out, hqlen.out, h1, h2]]; rfl
          go_wp2
          have hk1 : (k : Int) ≤ (c : Int) := by omega
          have hk2 : (0 : Int) ≤ (k : Int) := by omega
          have hk3 : (k : Int) ≤ (n : Int) := by omega
          obtain ⟨ts, hts, htr⟩ := h.raw
          have HTS := Lib.hid hts.len
          by_cases hkc : c = k
          · have hnk : n = k := by omega
            have HD0 : Hid (ts.drop k = []) := List.drop_eq_nil_of_le (by rw [HTS.out]; omega)
            have HNK := Lib.hid hnk
            subst hkc
            go_region_law (first
              | (refine step_appAny _ rfl (.tmp 43) (.tmp 46) 24 27 rfl (.slice none 0 0) 24 Tryz.underlying24 info_ints rfl (by decide) w.heap.size 0 0 (some ⟨w.heap.size, 0, none⟩) [] (by rfl) (by first | exact lit0 _ (by simp) | exact (lit0 _ (by simp)).alloc _) (some ⟨b, o, none⟩) c c (ts.take c) slV (fun _ => rfl) (by rfl) ((hts.take (k := c) (by omega)).next stab_RSl (by first | exact (below_drewN (Below.refl _ _) _).alloc (by simp) _ | exact ((below_drewN (Below.refl _ _) _).alloc (by simp) _).alloc (by first | (simp; done) | (simp; omega)) _)) (fun _ _ _ hr => hr) (by omega) (by first | (simp; done) | (simp; omega)) ?_; intro A2 c2 w2 hown2 hg2 hb2; simp only [Nat.zero_add, List.nil_append] at hown2)
              | (refine step_appAny _ rfl (.tmp 43) (.tmp 46) 24 27 rfl (.slice none 0 0) 24 Tryz.underlying24 info_ints rfl (by decide) w.heap.size 0 0 (some ⟨w.heap.size + 1, 0, none⟩) [] (by rfl) (lit1 _ (by simp)) (some ⟨b, o, none⟩) c c (ts.take c) slV (fun _ => rfl) (by rfl) ((hts.take (k := c) (by omega)).next stab_RSl (by first | exact (below_drewN (Below.refl _ _) _).alloc (by simp) _ | exact ((below_drewN (Below.refl _ _) _).alloc (by simp) _).alloc (by first | (simp; done) | (simp; omega)) _)) (fun _ _ _ hr => hr) (by omega) (by first | (simp; done) | (simp; omega)) ?_; intro A2 c2 w2 hown2 hg2 hb2; simp only [Nat.zero_add, List.nil_append] at hown2)
              | (refine step_appAny (R := RSl) _ rfl (.tmp 47) (.tmp 49) 24 27 rfl (.slice none 0 0) 24 Tryz.underlying24 info_ints rfl (by decide) w.heap.size c c2 A2 ((ts.take c).map slV) (by rfl) (hown2.alloc _) (some ⟨w2.heap.size, 0, none⟩) 1 1 [(B, m, d)] slV (fun _ => rfl) (by rfl) (rd_cell (t := (B, m, d)) (cell_new _ rfl)) (fun _ _ _ hr => hr) (by omega) (by have h1 := hb2.size; first | (simp at h1; omega) | (simp at h1 ⊢; omega) | (simp; omega) | omega) ?_; intro A3 c3 w3 hown3 hg3 hb3)
              | (refine step_appAny (R := RSl) _ rfl (.tmp 47) (.tmp 49) 24 27 rfl (.slice none 0 0) 24 Tryz.underlying24 info_ints rfl (by decide) w.heap.size c c2 A2 ((ts.take c).map slV) (by rfl) hown2 (some ⟨w.heap.size + 1, 0, none⟩) 1 1 [(B, m, d)] slV (fun _ => rfl) (by rfl) (rd_cell (t := (B, m, d)) (hg2.cell (v := slV (B, m, d)) (cell_new _ (by simp)) (by simp [Value.ownBlock]))) (fun _ _ _ hr => hr) (by omega) (by have h1 := hb2.size; first | (simp at h1; omega) | (simp at h1 ⊢; omega) | (simp; omega) | omega) ?_; intro A3 c3 w3 hown3 hg3 hb3)
              | (refine step_appAny (R := RSl) _ rfl (.tmp 47) (.tmp 49) 24 27 rfl (.slice none 0 0) 24 Tryz.underlying24 info_ints rfl (by decide) w.heap.size c c2 A2 ((ts.take c).map slV) (by rfl) hown2 (some ⟨w.heap.size, 0, none⟩) 1 1 [(B, m, d)] slV (fun _ => rfl) (by rfl) (rd_cell (t := (B, m, d)) (hg2.cell (v := slV (B, m, d)) (cell_new2 _ _ (by simp)) (by simp [Value.ownBlock]))) (fun _ _ _ hr => hr) (by omega) (by have h1 := hb2.size; first | (simp at h1; omega) | (simp at h1 ⊢; omega) | (simp; omega) | omega) ?_; intro A3 c3 w3 hown3 hg3 hb3)
              | (refine step_appAny _ rfl (.tmp 50) (.tmp 53) 24 27 rfl (.slice none 0 0) 24 Tryz.underlying24 info_ints rfl (by decide) w.heap.size (c + 1) c3 A3 ((ts.take c).map slV ++ [slV (B, m, d)]) (by rfl) hown3 (some ⟨b, o, none⟩) 0 0 ([] : List SlT) slV (fun _ => rfl) (by rfl) (RdL.nil _ _ _) (fun _ _ _ hr => hr) (by omega) (by have h1 := hb2.size; have h2 := hb3.size; first | (simp at h1; omega) | (simp at h1 h2; omega) | (simp at h2; omega) | omega) ?_; intro A4 c4 w4 hown4 hg4 hb4))
            all_goals
              have hF3 : Below w.heap.size w w3 := (by refine Below.trans ?_ hb3; first | (refine Below.trans ?_ hb2; first | exact (below_drewN (Below.refl _ _) _).alloc (by simp) _ | exact ((below_drewN (Below.refl _ _) _).alloc (by simp) _).alloc (by first | (simp; done) | (simp; omega)) _) | (refine Below.alloc ?_ (by have h1 := hb2.size; first | (simp at h1; omega) | omega) _; refine Below.trans ?_ hb2; first | exact (below_drewN (Below.refl _ _) _).alloc (by simp) _ | exact ((below_drewN (Below.refl _ _) _).alloc (by simp) _).alloc (by first | (simp; done) | (simp; omega)) _))
              have hF := hF3.trans hb4
              have e1 : c + 1 + 0 = n + 1 := by omega
              rw [e1] at hown4
              have eL : (ts.take c).map slV ++ [slV (B, m, d)] ++ (([] : List SlT)).map slV = ((ts.take c) ++ (B, m, d) :: ts.drop c).map slV := by simp [HD0.out]
              rw [eL] at hown4
              obtain ⟨g4, hA4, -, hcap⟩ := own_form hown4 (by omega)
              have hres := sort_res (p := p) hown4 HTS.out hlen.out HP.out (by omega) (fun j t xs ht hx => (htr j t xs ht hx).next stab_RI hF) (hp.next stab_RI hF)
              rw [hA4] at hres
              have HA4 := Lib.hid hA4
              clear hA4 e1 eL
              go_wp2
              go_ret
              exact ⟨g4, c4, by rw [← HA4.out, HNK.out]; rfl, hcap, hres, hF⟩
          · go_region_law (first
              | (refine step_appAny _ rfl (.tmp 43) (.tmp 46) 24 27 rfl (.slice none 0 0) 24 Tryz.underlying24 info_ints rfl (by decide) w.heap.size 0 0 (some ⟨w.heap.size, 0, none⟩) [] (by rfl) (by first | exact lit0 _ (by simp) | exact (lit0 _ (by simp)).alloc _) (some ⟨b, o, none⟩) k c (ts.take k) slV (fun _ => rfl) (by rfl) ((hts.take (k := k) (by omega)).next stab_RSl (by first | exact (below_drewN (Below.refl _ _) _).alloc (by simp) _ | exact ((below_drewN (Below.refl _ _) _).alloc (by simp) _).alloc (by first | (simp; done) | (simp; omega)) _)) (fun _ _ _ hr => hr) (by omega) (by first | (simp; done) | (simp; omega)) ?_; intro A2 c2 w2 hown2 hg2 hb2; simp only [Nat.zero_add, List.nil_append] at hown2)
              | (refine step_appAny _ rfl (.tmp 43) (.tmp 46) 24 27 rfl (.slice none 0 0) 24 Tryz.underlying24 info_ints rfl (by decide) w.heap.size 0 0 (some ⟨w.heap.size + 1, 0, none⟩) [] (by rfl) (lit1 _ (by simp)) (some ⟨b, o, none⟩) k c (ts.take k) slV (fun _ => rfl) (by rfl) ((hts.take (k := k) (by omega)).next stab_RSl (by first | exact (below_drewN (Below.refl _ _) _).alloc (by simp) _ | exact ((below_drewN (Below.refl _ _) _).alloc (by simp) _).alloc (by first | (simp; done) | (simp; omega)) _)) (fun _ _ _ hr => hr) (by omega) (by first | (simp; done) | (simp; omega)) ?_; intro A2 c2 w2 hown2 hg2 hb2; simp only [Nat.zero_add, List.nil_append] at hown2)
              | (refine step_appAny (R := RSl) _ rfl (.tmp 47) (.tmp 49) 24 27 rfl (.slice none 0 0) 24 Tryz.underlying24 info_ints rfl (by decide) w.heap.size k c2 A2 ((ts.take k).map slV) (by rfl) (hown2.alloc _) (some ⟨w2.heap.size, 0, none⟩) 1 1 [(B, m, d)] slV (fun _ => rfl) (by rfl) (rd_cell (t := (B, m, d)) (cell_new _ rfl)) (fun _ _ _ hr => hr) (by omega) (by have h1 := hb2.size; first | (simp at h1; omega) | (simp at h1 ⊢; omega) | (simp; omega) | omega) ?_; intro A3 c3 w3 hown3 hg3 hb3)
              | (refine step_appAny (R := RSl) _ rfl (.tmp 47) (.tmp 49) 24 27 rfl (.slice none 0 0) 24 Tryz.underlying24 info_ints rfl (by decide) w.heap.size k c2 A2 ((ts.take k).map slV) (by rfl) hown2 (some ⟨w.heap.size + 1, 0, none⟩) 1 1 [(B, m, d)] slV (fun _ => rfl) (by rfl) (rd_cell (t := (B, m, d)) (hg2.cell (v := slV (B, m, d)) (cell_new _ (by simp)) (by simp [Value.ownBlock]))) (fun _ _ _ hr => hr) (by omega) (by have h1 := hb2.size; first | (simp at h1; omega) | (simp at h1 ⊢; omega) | (simp; omega) | omega) ?_; intro A3 c3 w3 hown3 hg3 hb3)
              | (refine step_appAny (R := RSl) _ rfl (.tmp 47) (.tmp 49) 24 27 rfl (.slice none 0 0) 24 Tryz.underlying24 info_ints rfl (by decide) w.heap.size k c2 A2 ((ts.take k).map slV) (by rfl) hown2 (some ⟨w.heap.size, 0, none⟩) 1 1 [(B, m, d)] slV (fun _ => rfl) (by rfl) (rd_cell (t := (B, m, d)) (hg2.cell (v := slV (B, m, d)) (cell_new2 _ _ (by simp)) (by simp [Value.ownBlock]))) (fun _ _ _ hr => hr) (by omega) (by have h1 := hb2.size; first | (simp at h1; omega) | (simp at h1 ⊢; omega) | (simp; omega) | omega) ?_; intro A3 c3 w3 hown3 hg3 hb3)
              | (refine step_appAny _ rfl (.tmp 50) (.tmp 53) 24 27 rfl (.slice none 0 0) 24 Tryz.underlying24 info_ints rfl (by decide) w.heap.size (k + 1) c3 A3 ((ts.take k).map slV ++ [slV (B, m, d)]) (by rfl) hown3 (some ⟨b, o + k, none⟩) (n - k) (c - k) (ts.drop k) slV (fun _ => rfl) (by rfl) ((hts.drop k).next stab_RSl (by refine Below.trans ?_ hb3; first | (refine Below.trans ?_ hb2; first | exact (below_drewN (Below.refl _ _) _).alloc (by simp) _ | exact ((below_drewN (Below.refl _ _) _).alloc (by simp) _).alloc (by first | (simp; done) | (simp; omega)) _) | (refine Below.alloc ?_ (by have h1 := hb2.size; first | (simp at h1; omega) | omega) _; refine Below.trans ?_ hb2; first | exact (below_drewN (Below.refl _ _) _).alloc (by simp) _ | exact ((below_drewN (Below.refl _ _) _).alloc (by simp) _).alloc (by first | (simp; done) | (simp; omega)) _))) (fun _ _ _ hr => hr) (by omega) (by have h1 := hb2.size; have h2 := hb3.size; first | (simp at h1; omega) | (simp at h1 h2; omega) | (simp at h2; omega) | omega) ?_; intro A4 c4 w4 hown4 hg4 hb4))
            all_goals
              have hF3 : Below w.heap.size w w3 := (by refine Below.trans ?_ hb3; first | (refine Below.trans ?_ hb2; first | exact (below_drewN (Below.refl _ _) _).alloc (by simp) _ | exact ((below_drewN (Below.refl _ _) _).alloc (by simp) _).alloc (by first | (simp; done) | (simp; omega)) _) | (refine Below.alloc ?_ (by have h1 := hb2.size; first | (simp at h1; omega) | omega) _; refine Below.trans ?_ hb2; first | exact (below_drewN (Below.refl _ _) _).alloc (by simp) _ | exact ((below_drewN (Below.refl _ _) _).alloc (by simp) _).alloc (by first | (simp; done) | (simp; omega)) _))
              have hF := hF3.trans hb4
              have e1 : k + 1 + (n - k) = n + 1 := by omega
              rw [e1] at hown4
              have eL : (ts.take k).map slV ++ [slV (B, m, d)] ++ (ts.drop k).map slV = ((ts.take k) ++ (B, m, d) :: ts.drop k).map slV := by simp
              rw [eL] at hown4
              obtain ⟨g4, hA4, -, hcap⟩ := own_form hown4 (by omega)
              have hres := sort_res (p := p) hown4 HTS.out hlen.out HP.out (by omega) (fun j t xs ht hx => (htr j t xs ht hx).next stab_RI hF) (hp.next stab_RI hF)
              rw [hA4] at hres
              have HA4 := Lib.hid hA4
              clear hA4 e1 eL
              go_wp2
              go_ret
              exact ⟨g4, c4, by rw [← HA4.out, show k + 1 + (n - k) = n + 1 from by omega]; rfl, hcap, hres, hF⟩
    · have hi0 : ¬ (0 : Int) < (k : Int) := by omega
      have HP : Hid (insPos p xss n = k) := by
        show _ = _
        have hk00 : k = 0 := by omega
        subst hk00
        exact H.out.symm
      go_wp2
      have hk1 : (k : Int) ≤ (c : Int) := by omega
      have hk2 : (0 : Int) ≤ (k : Int) := by omega
      have hk3 : (k : Int) ≤ (n : Int) := by omega
      obtain ⟨ts, hts, htr⟩ := h.raw
      have HTS := Lib.hid hts.len
      by_cases hkc : c = k
      · have hnk : n = k := by omega
        have HD0 : Hid (ts.drop k = []) := List.drop_eq_nil_of_le (by rw [HTS.out]; omega)
        have HNK := Lib.hid hnk
        subst hkc
        go_region_law (first
          | (refine step_appAny _ rfl (.tmp 43) (.tmp 46) 24 27 rfl (.slice none 0 0) 24 Tryz.underlying24 info_ints rfl (by decide) w.heap.size 0 0 (some ⟨w.heap.size, 0, none⟩) [] (by rfl) (by first | exact lit0 _ (by simp) | exact (lit0 _ (by simp)).alloc _) (some ⟨b, o, none⟩) c c (ts.take c) slV (fun _ => rfl) (by rfl) ((hts.take (k := c) (by omega)).next stab_RSl (by first | exact (below_drewN (Below.refl _ _) _).alloc (by simp) _ | exact ((below_drewN (Below.refl _ _) _).alloc (by simp) _).alloc (by first | (simp; done) | (simp; omega)) _)) (fun _ _ _ hr => hr) (by omega) (by first | (simp; done) | (simp; omega)) ?_; intro A2 c2 w2 hown2 hg2 hb2; simp only [Nat.zero_add, List.nil_append] at hown2)
          | (refine step_appAny _ rfl (.tmp 43) (.tmp 46) 24 27 rfl (.slice none 0 0) 24 Tryz.underlying24 info_ints rfl (by decide) w.heap.size 0 0 (some ⟨w.heap.size + 1, 0, none⟩) [] (by rfl) (lit1 _ (by simp)) (some ⟨b, o, none⟩) c c (ts.take c) slV (fun _ => rfl) (by rfl) ((hts.take (k := c) (by omega)).next stab_RSl (by first | exact (below_drewN (Below.refl _ _) _).alloc (by simp) _ | exact ((below_drewN (Below.refl _ _) _).alloc (by simp) _).alloc (by first | (simp; done) | (simp; omega)) _)) (fun _ _ _ hr => hr) (by omega) (by first | (simp; done) | (simp; omega)) ?_; intro A2 c2 w2 hown2 hg2 hb2; simp only [Nat.zero_add, List.nil_append] at hown2)
          | (refine step_appAny (R := RSl) _ rfl (.tmp 47) (.tmp 49) 24 27 rfl (.slice none 0 0) 24 Tryz.underlying24 info_ints rfl (by decide) w.heap.size c c2 A2 ((ts.take c).map slV) (by rfl) (hown2.alloc _) (some ⟨w2.heap.size, 0, none⟩) 1 1 [(B, m, d)] slV (fun _ => rfl) (by rfl) (rd_cell (t := (B, m, d)) (cell_new _ rfl)) (fun _ _ _ hr => hr) (by omega) (by have h1 := hb2.size; first | (simp at h1; omega) | (simp at h1 ⊢; omega) | (simp; omega) | omega) ?_; intro A3 c3 w3 hown3 hg3 hb3)
          | (refine step_appAny (R := RSl) _ rfl (.tmp 47) (.tmp 49) 24 27 rfl (.slice none 0 0) 24 Tryz.underlying24 info_ints rfl (by decide) w.heap.size c c2 A2 ((ts.take c).map slV) (by rfl) hown2 (some ⟨w.heap.size + 1, 0, none⟩) 1 1 [(B, m, d)] slV (fun _ => rfl) (by rfl) (rd_cell (t := (B, m, d)) (hg2.cell (v := slV (B, m, d)) (cell_new _ (by simp)) (by simp [Value.ownBlock]))) (fun _ _ _ hr => hr) (by omega) (by have h1 := hb2.size; first | (simp at h1; omega) | (simp at h1 ⊢; omega) | (simp; omega) | omega) ?_; intro A3 c3 w3 hown3 hg3 hb3)
          | (refine step_appAny (R := RSl) _ rfl (.tmp 47) (.tmp 49) 24 27 rfl (.slice none 0 0) 24 Tryz.underlying24 info_ints rfl (by decide) w.heap.size c c2 A2 ((ts.take c).map slV) (by rfl) hown2 (some ⟨w.heap.size, 0, none⟩) 1 1 [(B, m, d)] slV (fun _ => rfl) (by rfl) (rd_cell (t := (B, m, d)) (hg2.cell (v := slV (B, m, d)) (cell_new2 _ _ (by simp)) (by simp [Value.ownBlock]))) (fun _ _ _ hr => hr) (by omega) (by have h1 := hb2.size; first | (simp at h1; omega) | (simp at h1 ⊢; omega) | (simp; omega) | omega) ?_; intro A3 c3 w3 hown3 hg3 hb3)
          | (refine step_appAny _ rfl (.tmp 50) (.tmp 53) 24 27 rfl (.slice none 0 0) 24 Tryz.underlying24 info_ints rfl (by decide) w.heap.size (c + 1) c3 A3 ((ts.take c).map slV ++ [slV (B, m, d)]) (by rfl) hown3 (some ⟨b, o, none⟩) 0 0 ([] : List SlT) slV (fun _ => rfl) (by rfl) (RdL.nil _ _ _) (fun _ _ _ hr => hr) (by omega) (by have h1 := hb2.size; have h2 := hb3.size; first | (simp at h1; omega) | (simp at h1 h2; omega) | (simp at h2; omega) | omega) ?_; intro A4 c4 w4 hown4 hg4 hb4))
        all_goals
          have hF3 : Below w.heap.size w w3 := (by refine Below.trans ?_ hb3; first | (refine Below.trans ?_ hb2; first | exact (below_drewN (Below.refl _ _) _).alloc (by simp) _ | exact ((below_drewN (Below.refl _ _) _).alloc (by simp) _).alloc (by first | (simp; done) | (simp; omega)) _) | (refine Below.alloc ?_ (by have h1 := hb2.size; first | (simp at h1; omega) | omega) _; refine Below.trans ?_ hb2; first | exact (below_drewN (Below.refl _ _) _).alloc (by simp) _ | exact ((below_drewN (Below.refl _ _) _).alloc (by simp) _).alloc (by first | (simp; done) | (simp; omega)) _))
          have hF := hF3.trans hb4
          have e1 : c + 1 + 0 = n + 1 := by omega
          rw [e1] at hown4
          have eL : (ts.take c).map slV ++ [slV (B, m, d)] ++ (([] : List SlT)).map slV = ((ts.take c) ++ (B, m, d) :: ts.drop c).map slV := by simp [HD0.out]
          rw [eL] at hown4
          obtain ⟨g4, hA4, -, hcap⟩ := own_form hown4 (by omega)
          have hres := sort_res (p := p) hown4 HTS.out hlen.out HP.out (by omega) (fun j t xs ht hx => (htr j t xs ht hx).next stab_RI hF) (hp.next stab_RI hF)
          rw [hA4] at hres
          have HA4 := Lib.hid hA4
          clear hA4 e1 eL
          go_wp2
          go_ret
          exact ⟨g4, c4, by rw [← HA4.out, HNK.out]; rfl, hcap, hres, hF⟩
      · go_region_law (first
          | (refine step_appAny _ rfl (.tmp 43) (.tmp 46) 24 27 rfl (.slice none 0 0) 24 Tryz.underlying24 info_ints rfl (by decide) w.heap.size 0 0 (some ⟨w.heap.size, 0, none⟩) [] (by rfl) (by first | exact lit0 _ (by simp) | exact (lit0 _ (by simp)).alloc _) (some ⟨b, o, none⟩) k c (ts.take k) slV (fun _ => rfl) (by rfl) ((hts.take (k := k) (by omega)).next stab_RSl (by first | exact (below_drewN (Below.refl _ _) _).alloc (by simp) _ | exact ((below_drewN (Below.refl _ _) _).alloc (by simp) _).alloc (by first | (simp; done) | (simp; omega)) _)) (fun _ _ _ hr => hr) (by omega) (by first | (simp; done) | (simp; omega)) ?_; intro A2 c2 w2 hown2 hg2 hb2; simp only [Nat.zero_add, List.nil_append] at hown2)
          | (refine step_appAny _ rfl (.tmp 43) (.tmp 46) 24 27 rfl (.slice none 0 0) 24 Tryz.underlying24 info_ints rfl (by decide) w.heap.size 0 0 (some ⟨w.heap.size + 1, 0, none⟩) [] (by rfl) (lit1 _ (by simp)) (some ⟨b, o, none⟩) k c (ts.take k) slV (fun _ => rfl) (by rfl) ((hts.take (k := k) (by omega)).next stab_RSl (by first | exact (below_drewN (Below.refl _ _) _).alloc (by simp) _ | exact ((below_drewN (Below.refl _ _) _).alloc (by simp) _).alloc (by first | (simp; done) | (simp; omega)) _)) (fun _ _ _ hr => hr) (by omega) (by first | (simp; done) | (simp; omega)) ?_; intro A2 c2 w2 hown2 hg2 hb2; simp only [Nat.zero_add, List.nil_append] at hown2)
          | (refine step_appAny (R := RSl) _ rfl (.tmp 47) (.tmp 49) 24 27 rfl (.slice none 0 0) 24 Tryz.underlying24 info_ints rfl (by decide) w.heap.size k c2 A2 ((ts.take k).map slV) (by rfl) (hown2.alloc _) (some ⟨w2.heap.size, 0, none⟩) 1 1 [(B, m, d)] slV (fun _ => rfl) (by rfl) (rd_cell (t := (B, m, d)) (cell_new _ rfl)) (fun _ _ _ hr => hr) (by omega) (by have h1 := hb2.size; first | (simp at h1; omega) | (simp at h1 ⊢; omega) | (simp; omega) | omega) ?_; intro A3 c3 w3 hown3 hg3 hb3)
          | (refine step_appAny (R := RSl) _ rfl (.tmp 47) (.tmp 49) 24 27 rfl (.slice none 0 0) 24 Tryz.underlying24 info_ints rfl (by decide) w.heap.size k c2 A2 ((ts.take k).map slV) (by rfl) hown2 (some ⟨w.heap.size + 1, 0, none⟩) 1 1 [(B, m, d)] slV (fun _ => rfl) (by rfl) (rd_cell (t := (B, m, d)) (hg2.cell (v := slV (B, m, d)) (cell_new _ (by simp)) (by simp [Value.ownBlock]))) (fun _ _ _ hr => hr) (by omega) (by have h1 := hb2.size; first | (simp at h1; omega) | (simp at h1 ⊢; omega) | (simp; omega) | omega) ?_; intro A3 c3 w3 hown3 hg3 hb3)
          | (refine step_appAny (R := RSl) _ rfl (.tmp 47) (.tmp 49) 24 27 rfl (.slice none 0 0) 24 Tryz.underlying24 info_ints rfl (by decide) w.heap.size k c2 A2 ((ts.take k).map slV) (by rfl) hown2 (some ⟨w.heap.size, 0, none⟩) 1 1 [(B, m, d)] slV (fun _ => rfl) (by rfl) (rd_cell (t := (B, m, d)) (hg2.cell (v := slV (B, m, d)) (cell_new2 _ _ (by simp)) (by simp [Value.ownBlock]))) (fun _ _ _ hr => hr) (by omega) (by have h1 := hb2.size; first | (simp at h1; omega) | (simp at h1 ⊢; omega) | (simp; omega) | omega) ?_; intro A3 c3 w3 hown3 hg3 hb3)
          | (refine step_appAny _ rfl (.tmp 50) (.tmp 53) 24 27 rfl (.slice none 0 0) 24 Tryz.underlying24 info_ints rfl (by decide) w.heap.size (k + 1) c3 A3 ((ts.take k).map slV ++ [slV (B, m, d)]) (by rfl) hown3 (some ⟨b, o + k, none⟩) (n - k) (c - k) (ts.drop k) slV (fun _ => rfl) (by rfl) ((hts.drop k).next stab_RSl (by refine Below.trans ?_ hb3; first | (refine Below.trans ?_ hb2; first | exact (below_drewN (Below.refl _ _) _).alloc (by simp) _ | exact ((below_drewN (Below.refl _ _) _).alloc (by simp) _).alloc (by first | (simp; done) | (simp; omega)) _) | (refine Below.alloc ?_ (by have h1 := hb2.size; first | (simp at h1; omega) | omega) _; refine Below.trans ?_ hb2; first | exact (below_drewN (Below.refl _ _) _).alloc (by simp) _ | exact ((below_drewN (Below.refl _ _) _).alloc (by simp) _).alloc (by first | (simp; done) | (simp; omega)) _))) (fun _ _ _ hr => hr) (by omega) (by have h1 := hb2.size; have h2 := hb3.size; first | (simp at h1; omega) | (simp at h1 h2; omega) | (simp at h2; omega) | omega) ?_; intro A4 c4 w4 hown4 hg4 hb4))
        all_goals
          have hF3 : Below w.heap.size w w3 := (by refine Below.trans ?_ hb3; first | (refine Below.trans ?_ hb2; first | exact (below_drewN (Below.refl _ _) _).alloc (by simp) _ | exact ((below_drewN (Below.refl _ _) _).alloc (by simp) _).alloc (by first | (simp; done) | (simp; omega)) _) | (refine Below.alloc ?_ (by have h1 := hb2.size; first | (simp at h1; omega) | omega) _; refine Below.trans ?_ hb2; first | exact (below_drewN (Below.refl _ _) _).alloc (by simp) _ | exact ((below_drewN (Below.refl _ _) _).alloc (by simp) _).alloc (by first | (simp; done) | (simp; omega)) _))
          have hF := hF3.trans hb4
          have e1 : k + 1 + (n - k) = n + 1 := by omega
          rw [e1] at hown4
          have eL : (ts.take k).map slV ++ [slV (B, m, d)] ++ (ts.drop k).map slV = ((ts.take k) ++ (B, m, d) :: ts.drop k).map slV := by simp
          rw [eL] at hown4
          obtain ⟨g4, hA4, -, hcap⟩ := own_form hown4 (by omega)
          have hres := sort_res (p := p) hown4 HTS.out hlen.out HP.out (by omega) (fun j t xs ht hx => (htr j t xs ht hx).next stab_RI hF) (hp.next stab_RI hF)
          rw [hA4] at hres
          have HA4 := Lib.hid hA4
          clear hA4 e1 eL
          go_wp2
          go_ret
          exact ⟨g4, c4, by rw [← HA4.out, show k + 1 + (n - k) = n + 1 from by omega]; rfl, hcap, hres, hF⟩
end Go.Proofs.YtkmgbdljiajlaaaGreatDoor
namespace Go.Proofs.YtkmgbdljiajlaaaGreatDoor
open Go.RowKit

def putL (p : List Int) (xss : List (List Int)) : List (List Int) := if 0 ≤ place xss p then xss else insT p xss
/-- One set more: its meets with all sets so far. -/
def addTo (s : List Int) : List (List Int) → List (List Int) → List (List Int)
  | [], out => out
  | t :: l, out => addTo s l (putL (meetL s t) out)
def systemTo : List (List Int) → List (List Int) → List (List Int)
  | [], out => out
  | s :: l, out => systemTo l (addTo s out out)
def systemL (n : Nat) (xss : List (List Int)) : List (List Int) := systemTo xss [upTo n]
end Go.Proofs.YtkmgbdljiajlaaaGreatDoor
namespace Go.Proofs.YtkmgbdljiajlaaaGreatDoor
open Go.RowKit

/-! ## Lists in a strict order are known by their members -/
theorem ordered_ext {α : Type} {r : α → α → Prop} (hirr : ∀ x, ¬ r x x) (htr : ∀ x y z, r x y → r y z → r x z) : ∀ {l m : List α}, l.Pairwise r → m.Pairwise r → (∀ x, x ∈ l ↔ x ∈ m) → l = m
  | [], [], _, _, _ => rfl
  | [], y :: m, _, _, h => absurd ((h y).2 (List.mem_cons_self ..)) (by simp)
  | x :: l, [], _, _, h => absurd ((h x).1 (List.mem_cons_self ..)) (by simp)
  | x :: l, y :: m, hl, hm, h => by
    have hl' := List.pairwise_cons.1 hl
    have hm' := List.pairwise_cons.1 hm
    have hxy : x = y := by
      rcases List.mem_cons.1 ((h x).1 (List.mem_cons_self ..)) with e | e
      · exact e
      · rcases List.mem_cons.1 ((h y).2 (List.mem_cons_self ..)) with e' | e'
        · exact e'.symm
        · exact absurd (htr _ _ _ (hm'.1 x e) (hl'.1 y e')) (hirr y)
    subst hxy
    rw [ordered_ext hirr htr hl'.2 hm'.2 fun z => by
      constructor
      · intro hz
        rcases List.mem_cons.1 ((h z).1 (List.mem_cons_of_mem _ hz)) with e | e
        · subst e; exact absurd (hl'.1 z hz) (hirr z)
        · exact e
      · intro hz
        rcases List.mem_cons.1 ((h z).2 (List.mem_cons_of_mem _ hz)) with e | e
        · subst e; exact absurd (hm'.1 z hz) (hirr z)
        · exact e]
/-! ## Numbers, members -/
theorem hasI_iff {x : Int} : ∀ {l : List Int}, hasI x l = true ↔ x ∈ l
  | [] => by simp [hasI]
  | y :: l => by
    rw [hasI, Bool.or_eq_true, hasI_iff (l := l), beq_iff_eq, List.mem_cons]
    constructor
    · rintro (h | h)
      · exact .inl h.symm
      · exact .inr h
    · rintro (h | h)
      · exact .inl h.symm
      · exact .inr h
theorem mem_meetL {ys : List Int} {x : Int} : ∀ {xs : List Int}, x ∈ meetL ys xs ↔ x ∈ xs ∧ x ∈ ys
  | [] => by simp [meetL]
  | y :: l => by
    rw [meetL]
    split
    · rename_i h
      rw [hasI_iff] at h
      simp only [List.mem_cons, mem_meetL (xs := l)]
      constructor
      · rintro (rfl | h')
        · exact ⟨.inl rfl, h⟩
        · exact ⟨.inr h'.1, h'.2⟩
      · rintro ⟨rfl | h', h2⟩
        · exact .inl rfl
        · exact .inr ⟨h', h2⟩
    · rename_i h
      rw [hasI_iff] at h
      simp only [List.mem_cons, mem_meetL (xs := l)]
      constructor
      · rintro ⟨h1, h2⟩; exact ⟨.inr h1, h2⟩
      · rintro ⟨rfl | h', h2⟩
        · exact absurd h2 h
        · exact ⟨h', h2⟩
theorem meetL_sub (ys : List Int) : ∀ xs, (meetL ys xs).Sublist xs
  | [] => List.Sublist.refl _
  | x :: l => by
    rw [meetL]
    split
    · exact (meetL_sub ys l).cons_cons x
    · exact (meetL_sub ys l).cons x
theorem rises_iff : ∀ {l : List Int}, risesL l = true ↔ l.Pairwise (· < ·)
  | [] => by simp [risesL]
  | [x] => by simp [risesL]
  | x :: y :: l => by
    rw [risesL, Bool.and_eq_true, rises_iff (l := y :: l), decide_eq_true_eq]
    constructor
    · rintro ⟨h1, h2⟩
      refine List.pairwise_cons.2 ⟨fun z hz => ?_, h2⟩
      rcases List.mem_cons.1 hz with rfl | hz
      · exact h1
      · have := (List.pairwise_cons.1 h2).1 z hz; omega
    · intro h
      obtain ⟨h1, h2⟩ := List.pairwise_cons.1 h
      exact ⟨h1 y (List.mem_cons_self ..), h2⟩
theorem allIn_iff {a b : Int} : ∀ {l : List Int}, allIn a b l = true ↔ ∀ x ∈ l, a ≤ x ∧ x ≤ b
  | [] => by simp [allIn]
  | y :: l => by simp [allIn, allIn_iff (l := l), inB]
/-- A set of numbers from 0 on, below n. -/
def IsSet (n : Nat) (p : List Int) : Prop := p.Pairwise (· < ·) ∧ ∀ x ∈ p, 0 ≤ x ∧ x < (n : Int)
theorem setB_iff {n : Nat} {p : List Int} : setB n p = true ↔ IsSet n p := by
  unfold setB IsSet
  rw [Bool.and_eq_true, rises_iff, allIn_iff]
  constructor
  · rintro ⟨h1, h2⟩
    exact ⟨h2, fun x hx => by have := h1 x hx; omega⟩
  · rintro ⟨h1, h2⟩
    exact ⟨fun x hx => by have := h2 x hx; omega, h1⟩
theorem set_ext {n m : Nat} {p q : List Int} (hp : IsSet n p) (hq : IsSet m q) (h : ∀ x, x ∈ p ↔ x ∈ q) : p = q :=
  ordered_ext (r := fun (a b : Int) => a < b) (fun x => by omega) (fun x y z => by omega) hp.1 hq.1 h
theorem IsSet.meet {n : Nat} {p : List Int} (h : IsSet n p) (q : List Int) : IsSet n (meetL q p) :=
  ⟨h.1.sublist (meetL_sub q p), fun x hx => h.2 x (mem_meetL.1 hx).1⟩
theorem mem_upTo {n : Nat} {x : Int} : x ∈ upTo n ↔ 0 ≤ x ∧ x < (n : Int) := by
  unfold upTo
  rw [List.mem_map]
  constructor
  · rintro ⟨k, hk, rfl⟩
    have := List.mem_range.1 hk
    omega
  · rintro ⟨h1, h2⟩
    exact ⟨x.toNat, List.mem_range.2 (by omega), by omega⟩
theorem upTo_set (n : Nat) : IsSet n (upTo n) := by
  refine ⟨?_, fun x hx => mem_upTo.1 hx⟩
  unfold upTo
  rw [List.pairwise_map]
  exact (List.pairwise_lt_range (n := n)).imp fun h => by omega
theorem meet_upTo {n : Nat} {p : List Int} (hp : IsSet n p) : meetL p (upTo n) = p :=
  set_ext ((upTo_set n).meet p) hp fun x => by
    rw [mem_meetL, mem_upTo]
    exact ⟨fun h => h.2, fun h => ⟨hp.2 x h, h⟩⟩
/-! ## The order of the sets -/
theorem lessL_irr : ∀ l : List Int, lessL l l = false
  | [] => rfl
  | x :: l => by simp [lessL, lessL_irr l]
theorem lessL_trans : ∀ {p q r : List Int}, p.length = q.length → q.length = r.length → lessL p q = true → lessL q r = true → lessL p r = true
  | [], _, _, _, _, h, _ => by simp [lessL] at h
  | x :: p, [], _, h, _, _, _ => by simp at h
  | x :: p, y :: q, [], _, h, _, _ => by simp at h
  | x :: p, y :: q, z :: r, h1, h2, h3, h4 => by
    simp only [List.length_cons, Nat.add_right_cancel_iff] at h1 h2
    simp only [lessL] at h3 h4 ⊢
    by_cases e1 : x = y
    · subst e1
      simp only [beq_self_eq_true, if_true] at h3
      by_cases e2 : x = z
      · subst e2
        simp only [beq_self_eq_true, if_true] at h4 ⊢
        exact lessL_trans h1 h2 h3 h4
      · have e2' : (x == z) = false := beq_eq_false_iff_ne.2 e2
        rw [e2'] at h4 ⊢
        exact h4
    · have e1' : (x == y) = false := beq_eq_false_iff_ne.2 e1
      rw [e1'] at h3
      simp at h3
      by_cases e2 : y = z
      · subst e2
        rw [e1']
        simp [h3]
      · have e2' : (y == z) = false := beq_eq_false_iff_ne.2 e2
        rw [e2'] at h4
        simp at h4
        have e3 : (x == z) = false := beq_eq_false_iff_ne.2 (by omega)
        rw [e3]
        simp; omega
theorem lessL_total : ∀ {p q : List Int}, p.length = q.length → p = q ∨ lessL p q = true ∨ lessL q p = true
  | [], [], _ => .inl rfl
  | [], _ :: _, h => by simp at h
  | _ :: _, [], h => by simp at h
  | x :: p, y :: q, h => by
    simp only [List.length_cons, Nat.add_right_cancel_iff] at h
    simp only [lessL]
    rcases Int.lt_trichotomy x y with h1 | h1 | h1
    · right; left
      rw [beq_eq_false_iff_ne.2 (by omega : x ≠ y)]
      simp [h1]
    · subst h1
      simp only [beq_self_eq_true, if_true]
      rcases lessL_total h with rfl | h2 | h2
      · exact .inl rfl
      · exact .inr (.inl h2)
      · exact .inr (.inr h2)
    · right; right
      rw [beq_eq_false_iff_ne.2 (by omega : y ≠ x)]
      simp [h1]
theorem lessT_iff {p q : List Int} : lessT p q = true ↔ p.length < q.length ∨ (p.length = q.length ∧ lessL p q = true) := by
  unfold lessT
  rw [Bool.or_eq_true, Bool.and_eq_true, decide_eq_true_eq, decide_eq_true_eq]
theorem lessT_irr (p : List Int) : ¬ lessT p p = true := by
  rw [lessT_iff, lessL_irr]
  simp
theorem lessT_trans (p q r : List Int) (h1 : lessT p q = true) (h2 : lessT q r = true) : lessT p r = true := by
  rw [lessT_iff] at *
  rcases h1 with h1 | ⟨h1, h1'⟩ <;> rcases h2 with h2 | ⟨h2, h2'⟩
  · left; omega
  · left; omega
  · left; omega
  · exact .inr ⟨by omega, lessL_trans h1 h2 h1' h2'⟩
theorem lessT_total (p q : List Int) : p = q ∨ lessT p q = true ∨ lessT q p = true := by
  rw [lessT_iff, lessT_iff]
  rcases Nat.lt_trichotomy p.length q.length with h | h | h
  · exact .inr (.inl (.inl h))
  · rcases lessL_total h with h' | h' | h'
    · exact .inl h'
    · exact .inr (.inl (.inr ⟨h, h'⟩))
    · exact .inr (.inr (.inr ⟨h.symm, h'⟩))
  · exact .inr (.inr (.inl h))
theorem lexL_lessL : ∀ {p q : List Int}, p.length = q.length → (lexL p q < 0 ↔ lessL p q = true)
  | [], [], _ => by simp [lexL, lessL]
  | [], _ :: _, h => by simp at h
  | _ :: _, [], h => by simp at h
  | x :: p, y :: q, h => by
    simp only [List.length_cons, Nat.add_right_cancel_iff] at h
    simp only [lexL, lessL]
    by_cases e : x = y
    · subst e
      simp only [beq_self_eq_true, if_true]
      exact lexL_lessL h
    · rw [beq_eq_false_iff_ne.2 e]
      by_cases h2 : x < y
      · simp [h2]
      · simp [h2]
theorem cmpT_lt {p q : List Int} : cmpT p q < 0 ↔ lessT p q = true := by
  rw [lessT_iff]
  unfold cmpT
  by_cases h1 : p.length < q.length
  · simp [h1]
  · by_cases h2 : q.length < p.length
    · rw [if_neg h1, if_pos h2]
      constructor
      · intro h; omega
      · rintro (h | ⟨h, _⟩) <;> omega
    · rw [if_neg h1, if_neg h2]
      have h3 : p.length = q.length := by omega
      rw [lexL_lessL h3]
      constructor
      · intro h; exact .inr ⟨h3, h⟩
      · rintro (h | ⟨_, h⟩)
        · exact absurd h h1
        · exact h

/-! ## Places, insertions -/
theorem placeFrom_ge (p : List Int) : ∀ (l : List (List Int)) (k : Int), 0 ≤ k → (0 ≤ placeFrom p l k ↔ p ∈ l)
  | [], k, _ => by simp [placeFrom]
  | q :: l, k, hk => by
    rw [placeFrom]
    split
    · rename_i h
      rw [eqL_iff] at h
      simp [h, hk]
    · rename_i h
      rw [placeFrom_ge p l (k + 1) (by omega), List.mem_cons]
      constructor
      · exact .inr
      · rintro (e | e)
        · exact absurd (eqL_iff.2 e) h
        · exact e
theorem place_iff {p : List Int} {xss : List (List Int)} : 0 ≤ place xss p ↔ p ∈ xss := placeFrom_ge p xss 0 (Int.le_refl _)
def Srt (xss : List (List Int)) : Prop := xss.Pairwise fun p q => lessT p q = true
theorem Srt.ext {xss yss : List (List Int)} (h1 : Srt xss) (h2 : Srt yss) (h : ∀ p, p ∈ xss ↔ p ∈ yss) : xss = yss :=
  ordered_ext (r := fun p q => lessT p q = true) lessT_irr lessT_trans h1 h2 h
theorem mem_insT {p q : List Int} {xss : List (List Int)} : q ∈ insT p xss ↔ q = p ∨ q ∈ xss := by
  unfold insT
  rw [List.mem_append, List.mem_cons]
  have := List.take_append_drop (insPos p xss xss.length) xss
  constructor
  · rintro (h | h | h)
    · exact .inr (List.mem_of_mem_take h)
    · exact .inl h
    · exact .inr (List.mem_of_mem_drop h)
  · rintro (h | h)
    · exact .inr (.inl h)
    · rw [← this] at h
      rcases List.mem_append.1 h with h | h
      · exact .inl h
      · exact .inr (.inr h)
theorem mem_putL {p q : List Int} {xss : List (List Int)} : q ∈ putL p xss ↔ q = p ∨ q ∈ xss := by
  unfold putL
  split
  · rename_i h
    rw [place_iff] at h
    constructor
    · exact .inr
    · rintro (rfl | h')
      · exact h
      · exact h'
  · exact mem_insT
/-- What stands at and behind the place of insertion goes behind, what stands ahead of it ahead. -/
theorem insPos_spec (p : List Int) {xss : List (List Int)} (hs : Srt xss) (hp : p ∉ xss) : ∀ n, n ≤ xss.length →
    (∀ j, insPos p xss n ≤ j → (hj : j < n) → ∀ (h : j < xss.length), lessT p xss[j] = true) ∧ (∀ j, j < insPos p xss n → ∀ (h : j < xss.length), lessT xss[j] p = true)
  | 0, _ => ⟨fun j _ hj => absurd hj (by omega), fun j hj => absurd hj (by simp [insPos])⟩
  | n + 1, hn => by
    have hl : n < xss.length := by omega
    have ih := insPos_spec p hs hp n (by omega)
    have hg : xss.getD n [] = xss[n] := by simp [List.getD_eq_getElem?_getD, List.getElem?_eq_getElem hl]
    rw [insPos, hg]
    by_cases h : lessT p xss[n] = true
    · rw [if_pos h]
      refine ⟨fun j h1 h2 h3 => ?_, ih.2⟩
      by_cases hjn : j = n
      · subst hjn; exact h
      · exact ih.1 j h1 (by omega) h3
    · rw [if_neg h]
      refine ⟨fun j h1 h2 => absurd h2 (by omega), fun j hj h3 => ?_⟩
      have hn' : lessT xss[n] p = true := by
        rcases lessT_total p xss[n] with e | e | e
        · exact absurd (e ▸ List.getElem_mem hl) hp
        · exact absurd e h
        · exact e
      by_cases hjn : j = n
      · subst hjn; exact hn'
      · have := List.pairwise_iff_getElem.1 hs j n h3 hl (by omega)
        exact lessT_trans _ _ _ this hn'
theorem Srt.insT {p : List Int} {xss : List (List Int)} (hs : Srt xss) (hp : p ∉ xss) : Srt (insT p xss) := by
  obtain ⟨h1, h2⟩ := insPos_spec p hs hp xss.length (Nat.le_refl _)
  have hle := insPos_le p xss xss.length
  unfold Go.Proofs.YtkmgbdljiajlaaaGreatDoor.insT
  unfold Srt at *
  rw [List.pairwise_append, List.pairwise_cons]
  have hsplit := List.take_append_drop (insPos p xss xss.length) xss
  have hs' := hs
  rw [← hsplit, List.pairwise_append] at hs'
  refine ⟨hs'.1, ⟨fun q hq => ?_, hs'.2.1⟩, fun a ha b hb => ?_⟩
  · obtain ⟨j, hj⟩ := List.getElem?_of_mem hq
    rw [List.getElem?_drop] at hj
    obtain ⟨hl, he⟩ := List.getElem?_eq_some_iff.1 hj
    rw [← he]
    exact h1 _ (by omega) hl hl
  · have hap : lessT a p = true := by
      obtain ⟨j, hj⟩ := List.getElem?_of_mem ha
      rw [List.getElem?_take] at hj
      split at hj
      · rename_i hjk
        obtain ⟨hl, he⟩ := List.getElem?_eq_some_iff.1 hj
        rw [← he]
        exact h2 _ hjk hl
      · cases hj
    rcases List.mem_cons.1 hb with rfl | hb
    · exact hap
    · exact hs'.2.2 a ha b hb
theorem Srt.putL {p : List Int} {xss : List (List Int)} (hs : Srt xss) : Srt (putL p xss) := by
  unfold Go.Proofs.YtkmgbdljiajlaaaGreatDoor.putL
  split
  · exact hs
  · rename_i h
    exact hs.insT (fun hp => h (place_iff.2 hp))
/-! ## How many sets there are -/
def subs : List Int → List (List Int)
  | [] => [[]]
  | x :: l => subs l ++ (subs l).map (x :: ·)
theorem subs_len : ∀ l : List Int, (subs l).length = 2 ^ l.length
  | [] => rfl
  | x :: l => by simp only [subs, List.length_append, List.length_map, subs_len l, List.length_cons, Nat.pow_succ]; omega
theorem mem_subs : ∀ {l p : List Int}, p.Sublist l → p ∈ subs l
  | [], p, h => by simp [subs, List.sublist_nil.1 h]
  | x :: l, p, h => by
    rw [subs, List.mem_append, List.mem_map]
    cases h with
    | cons _ h => exact .inl (mem_subs h)
    | cons_cons _ h => exact .inr ⟨_, mem_subs h, rfl⟩
theorem nodup_len {α : Type} [DecidableEq α] : ∀ {l m : List α}, l.Nodup → (∀ x ∈ l, x ∈ m) → l.length ≤ m.length
  | [], _, _, _ => Nat.zero_le _
  | x :: l, m, h, hs => by
    have hx := hs x (List.mem_cons_self ..)
    have h' := List.nodup_cons.1 h
    have := nodup_len (l := l) (m := m.erase x) h'.2 fun y hy => (List.mem_erase_of_ne (by rintro rfl; exact h'.1 hy)).2 (hs y (List.mem_cons_of_mem _ hy))
    rw [List.length_erase_of_mem hx] at this
    have hpos : 0 < m.length := List.length_pos_of_mem hx
    simp
    omega
theorem set_sub {n : Nat} {p : List Int} (hp : IsSet n p) : p.Sublist (upTo n) := by
  have := meetL_sub p (upTo n)
  rwa [meet_upTo hp] at this
/-! ## Closure systems -/
def Inv (n : Nat) (out : List (List Int)) : Prop := Srt out ∧ ∀ p ∈ out, IsSet n p
/-- Closed under meets. -/
def Cl (out : List (List Int)) : Prop := ∀ p ∈ out, ∀ q ∈ out, meetL q p ∈ out
theorem mem_addTo {s q : List Int} : ∀ {l out : List (List Int)}, q ∈ addTo s l out ↔ q ∈ out ∨ ∃ t ∈ l, q = meetL s t
  | [], out => by simp [addTo]
  | t :: l, out => by
    rw [addTo, mem_addTo, mem_putL]
    constructor
    · rintro ((h | h) | ⟨u, hu, h⟩)
      · exact .inr ⟨t, List.mem_cons_self .., h⟩
      · exact .inl h
      · exact .inr ⟨u, List.mem_cons_of_mem _ hu, h⟩
    · rintro (h | ⟨u, hu, h⟩)
      · exact .inl (.inr h)
      · rcases List.mem_cons.1 hu with rfl | hu
        · exact .inl (.inl h)
        · exact .inr ⟨u, hu, h⟩
theorem Inv.addTo {n : Nat} {s : List Int} : ∀ {l out : List (List Int)}, Inv n out → (∀ t ∈ l, IsSet n t) → Inv n (addTo s l out)
  | [], _, h, _ => h
  | t :: l, out, h, hl => by
    rw [Go.Proofs.YtkmgbdljiajlaaaGreatDoor.addTo]
    refine Inv.addTo ⟨h.1.putL, fun p hp => ?_⟩ fun u hu => hl u (List.mem_cons_of_mem _ hu)
    rcases mem_putL.1 hp with rfl | hp
    · exact (hl t (List.mem_cons_self ..)).meet s
    · exact h.2 p hp
theorem Inv.systemTo {n : Nat} : ∀ {l out : List (List Int)}, Inv n out → Inv n (systemTo l out)
  | [], _, h => h
  | s :: l, out, h => by rw [Go.Proofs.YtkmgbdljiajlaaaGreatDoor.systemTo]; exact Inv.systemTo (h.addTo h.2)
theorem meet_meet {n : Nat} {a b c d : List Int} (hb : IsSet n b) (hd : IsSet n d) (h : ∀ x, (x ∈ b ∧ x ∈ a) ↔ (x ∈ d ∧ x ∈ c)) : meetL a b = meetL c d :=
  set_ext (hb.meet a) (hd.meet c) fun x => by rw [mem_meetL, mem_meetL]; exact h x
theorem Cl.addTo {n : Nat} {s : List Int} {out : List (List Int)} (hi : Inv n out) (h : Cl out) : Cl (addTo s out out) := by
  intro p hp q hq
  rw [mem_addTo] at *
  rcases hp with hp | ⟨t, ht, rfl⟩ <;> rcases hq with hq | ⟨u, hu, rfl⟩
  · exact .inl (h p hp q hq)
  · refine .inr ⟨_, h p hp u hu, meet_meet (hi.2 p hp) ((hi.2 p hp).meet u) fun x => ?_⟩
    rw [mem_meetL, mem_meetL]
    constructor <;> (rintro ⟨h1, h2⟩; simp_all)
  · refine .inr ⟨_, h t ht q hq, meet_meet ((hi.2 t ht).meet s) ((hi.2 t ht).meet q) fun x => ?_⟩
    rw [mem_meetL, mem_meetL]
    constructor <;> (rintro ⟨h1, h2⟩; simp_all)
  · refine .inr ⟨_, h t ht u hu, meet_meet ((hi.2 t ht).meet s) ((hi.2 t ht).meet u) fun x => ?_⟩
    rw [mem_meetL, mem_meetL, mem_meetL]
    constructor <;> (rintro ⟨h1, h2⟩; simp_all)
theorem Cl.systemTo {n : Nat} : ∀ {l out : List (List Int)}, Inv n out → Cl out → Cl (systemTo l out)
  | [], _, _, h => h
  | s :: l, out, hi, h => by rw [Go.Proofs.YtkmgbdljiajlaaaGreatDoor.systemTo]; exact Cl.systemTo (hi.addTo hi.2) (h.addTo hi)
theorem systemTo_keeps : ∀ {l out : List (List Int)} {p : List Int}, p ∈ out → p ∈ systemTo l out
  | [], _, _, h => h
  | s :: l, out, p, h => by rw [systemTo]; exact systemTo_keeps (mem_addTo.2 (.inl h))
theorem inv_start (n : Nat) : Inv n [upTo n] := ⟨by simp [Srt], fun p hp => by rw [List.mem_singleton.1 hp]; exact upTo_set n⟩
theorem cl_start (n : Nat) : Cl [upTo n] := by
  intro p hp q hq
  rw [List.mem_singleton.1 hp, List.mem_singleton.1 hq, meet_upTo (upTo_set n)]
  exact List.mem_singleton.2 rfl
theorem systemL_cl (n : Nat) (xss : List (List Int)) : Cl (systemL n xss) := (cl_start n).systemTo (inv_start n)
theorem systemL_top (n : Nat) (xss : List (List Int)) : upTo n ∈ systemL n xss := systemTo_keeps (List.mem_singleton.2 rfl)

/-- A closure system: sorted sets below n, closed under meets, the whole set among them. -/
def IsSys (n : Nat) (xss : List (List Int)) : Prop := Inv n xss ∧ Cl xss ∧ upTo n ∈ xss
/-! ## What the program tests is just that -/
theorem meetsIn_iff {xss : List (List Int)} {s : List Int} : ∀ {l : List (List Int)}, meetsIn xss s l = true ↔ ∀ t ∈ l, meetL t s ∈ xss
  | [] => by simp [meetsIn]
  | t :: l => by
    rw [meetsIn]
    split
    · rename_i h
      simp only [Bool.false_eq_true, false_iff]
      intro hh
      have := place_iff.2 (hh t (List.mem_cons_self ..))
      omega
    · rename_i h
      rw [meetsIn_iff]
      constructor
      · intro hh u hu
        rcases List.mem_cons.1 hu with rfl | hu
        · exact place_iff.1 (by omega)
        · exact hh u hu
      · intro hh u hu
        exact hh u (List.mem_cons_of_mem _ hu)
theorem sysRest_iff {n : Int} {xss : List (List Int)} : ∀ (l : List (List Int)) (k : Nat), xss.drop k = l → (sysRest n xss k l = true ↔
    (∀ j, k ≤ j → ∀ (h : j < xss.length), setB n xss[j] = true ∧ (0 < j → cmpT (xss.getD (j - 1) []) xss[j] < 0) ∧ ∀ t ∈ xss.take j, meetL t xss[j] ∈ xss) ∧ (0 < xss.length ∧ ((xss.getLast?.getD []).length : Int) = n))
  | [], k, hd => by
    have hk : xss.length ≤ k := by have := congrArg List.length hd; simp at this; omega
    rw [sysRest, Bool.and_eq_true, decide_eq_true_eq, beq_iff_eq]
    constructor
    · intro h; exact ⟨fun j hj hl => absurd hl (by omega), h⟩
    · intro h; exact h.2
  | s :: l, k, hd => by
    have hk : k < xss.length := by have := congrArg List.length hd; simp at this; omega
    have hd' : xss.drop (k + 1) = l := by
      have := List.drop_eq_getElem_cons hk
      rw [hd] at this
      injection this with _ h2
      exact h2.symm
    have hs : xss[k] = s := by
      have := List.drop_eq_getElem_cons hk
      rw [hd] at this
      injection this with h1 _
      exact h1.symm
    rw [sysRest, Bool.and_eq_true, Bool.and_eq_true, Bool.and_eq_true, sysRest_iff l (k + 1) hd', meetsIn_iff, Bool.or_eq_true, beq_iff_eq, decide_eq_true_eq]
    constructor
    · rintro ⟨⟨⟨h1, h2⟩, h3⟩, h4, h5⟩
      refine ⟨fun j hj hl => ?_, h5⟩
      by_cases e : j = k
      · subst e
        rw [hs]
        exact ⟨h1, fun h0 => by rcases h2 with h2 | h2; · omega
                                · exact h2, h3⟩
      · exact h4 j (by omega) hl
    · rintro ⟨h4, h5⟩
      have := h4 k (Nat.le_refl _) hk
      rw [hs] at this
      refine ⟨⟨⟨this.1, ?_⟩, this.2.2⟩, fun j hj hl => h4 j (by omega) hl, h5⟩
      by_cases h0 : k = 0
      · exact .inl h0
      · exact .inr (this.2.1 (by omega))
theorem srt_of_next {xss : List (List Int)} (h : ∀ j, ∀ (hj : j + 1 < xss.length), lessT xss[j] xss[j + 1] = true) : Srt xss := by
  unfold Srt
  rw [List.pairwise_iff_getElem]
  intro i j hi hj hij
  obtain ⟨d, rfl⟩ : ∃ d, j = i + 1 + d := ⟨j - i - 1, by omega⟩
  induction d with
  | zero => exact h i hj
  | succ d ih => exact lessT_trans _ _ _ (ih (by omega) (by omega)) (h (i + 1 + d) hj)
theorem sys_last {n : Nat} {xss : List (List Int)} (h : Inv n xss) : (0 < xss.length ∧ ((xss.getLast?.getD []).length : Int) = n) ↔ upTo n ∈ xss := by
  constructor
  · rintro ⟨h1, h2⟩
    have hne : xss ≠ [] := by intro e; simp [e] at h1
    have hl : xss.getLast?.getD [] = xss.getLast hne := by rw [List.getLast?_eq_some_getLast hne]; rfl
    rw [hl] at h2
    have hm := List.getLast_mem hne
    have hset := h.2 _ hm
    have hsub := set_sub hset
    have : xss.getLast hne = upTo n := hsub.eq_of_length (by rw [upTo_len]; omega)
    rw [← this]
    exact hm
  · intro hm
    have h1 : 0 < xss.length := List.length_pos_of_mem hm
    refine ⟨h1, ?_⟩
    have hne : xss ≠ [] := by intro e; simp [e] at h1
    have hl : xss.getLast?.getD [] = xss.getLast hne := by rw [List.getLast?_eq_some_getLast hne]; rfl
    rw [hl]
    have hset := h.2 _ (List.getLast_mem hne)
    have hle := (set_sub hset).length_le
    rw [upTo_len] at hle
    have hge : n ≤ (xss.getLast hne).length := by
      obtain ⟨j, hj, he⟩ := List.getElem_of_mem hm
      rw [List.getLast_eq_getElem]
      by_cases e : j = xss.length - 1
      · subst e
        rw [he, upTo_len]; exact Nat.le_refl _
      · have := List.pairwise_iff_getElem.1 h.1 j (xss.length - 1) hj (by omega) (by omega)
        rw [he, lessT_iff, upTo_len] at this
        omega
    omega
theorem sysB_iff {n : Nat} {xss : List (List Int)} : sysB n xss = true ↔ IsSys n xss := by
  unfold sysB
  rw [sysRest_iff xss 0 rfl]
  constructor
  · rintro ⟨h1, h2⟩
    have hs : Srt xss := srt_of_next fun j hj => by
      have := (h1 (j + 1) (Nat.zero_le _) hj).2.1 (by omega)
      rw [Nat.add_sub_cancel, cmpT_lt, List.getD_eq_getElem?_getD, List.getElem?_eq_getElem (by omega : j < xss.length)] at this
      exact this
    have hi : Inv n xss := ⟨hs, fun p hp => by
      obtain ⟨j, hj, he⟩ := List.getElem_of_mem hp
      rw [← he]
      exact setB_iff.1 (h1 j (Nat.zero_le _) hj).1⟩
    refine ⟨hi, fun p hp q hq => ?_, (sys_last hi).1 h2⟩
    obtain ⟨i, hi', rfl⟩ := List.getElem_of_mem hp
    obtain ⟨j, hj', rfl⟩ := List.getElem_of_mem hq
    rcases Nat.lt_trichotomy i j with h | h | h
    · have := (h1 j (Nat.zero_le _) hj').2.2 xss[i] (List.mem_take_iff_getElem.2 ⟨i, by omega, rfl⟩)
      rwa [meet_meet (n := n) (a := xss[j]) (b := xss[i]) (c := xss[i]) (d := xss[j]) (hi.2 _ (List.getElem_mem _)) (hi.2 _ (List.getElem_mem _)) (fun x => And.comm)]
    · subst h
      have : meetL xss[i] xss[i] = xss[i] := set_ext ((hi.2 _ (List.getElem_mem _)).meet _) (hi.2 _ (List.getElem_mem _)) fun x => by rw [mem_meetL]; exact and_self_iff
      rw [this]
      exact List.getElem_mem _
    · exact (h1 i (Nat.zero_le _) hi').2.2 xss[j] (List.mem_take_iff_getElem.2 ⟨j, by omega, rfl⟩)
  · rintro ⟨hi, hc, ht⟩
    refine ⟨fun j _ hj => ⟨setB_iff.2 (hi.2 _ (List.getElem_mem _)), fun h0 => ?_, fun t htk => hc _ (List.getElem_mem _) t (List.mem_of_mem_take htk)⟩, (sys_last hi).2 ht⟩
    rw [cmpT_lt, List.getD_eq_getElem?_getD, List.getElem?_eq_getElem (by omega : j - 1 < xss.length)]
    exact List.pairwise_iff_getElem.1 hi.1 (j - 1) j (by omega) hj (by omega)
end Go.Proofs.YtkmgbdljiajlaaaGreatDoor
namespace Go.Proofs.YtkmgbdljiajlaaaGreatDoor
open Go.RowKit

/-- A slice of slices that is not nil, as it is handed from call to call. -/
def OutM (w : World) (v : Value) (out : List (List Int)) : Prop := ∃ b o n c, v = .slice (some ⟨b, o, none⟩) n c ∧ n ≤ c ∧ RdL (RV RI) w (some ⟨b, o, none⟩) n out
set_option maxHeartbeats 400000 in
theorem isSystemSize_any (n : Int) (w : World) : Calls Tryz.prog 34 #[.int .i64 n] w fun e w' => e = .returned (.bool (inB n 0 6)) ∧ w = w' := by
  unfold inB
  by_cases h : 0 ≤ n
  all_goals
    go_enter Tryz.func34, Tryz.ntmps34
    go_wp2
    go_ret
    exact ⟨ret_bool (by simp; omega), rfl⟩
end Go.Proofs.YtkmgbdljiajlaaaGreatDoor
namespace Go.Proofs.YtkmgbdljiajlaaaGreatDoor
open Go.RowKit

theorem ret_bool2 {a b c d : Bool} (h : a = c) (h' : b = d) : Ending.returned (.tuple #[.bool a, .bool b]) = .returned (.tuple #[.bool c, .bool d]) := by rw [h, h']
def sysRes (n : Int) (xss : List (List Int)) : Bool := inB n 0 6 && sysB n xss
set_option maxHeartbeats 400000 in
theorem implIsSys_any (A : Option Addr) (m c : Nat) (xss : List (List Int)) (n : Int) (w : World) (h : RdL (RV RI) w A m xss) (hm : m ≤ c) (hm2 : ∀ xs ∈ xss, xs.length ≤ 1048576) :
    Calls Tryz.prog 14 #[.int .i64 n, .slice A m c] w (Bl w (.tuple #[.bool (sysRes n xss), .bool (inB n 0 6)])) := by
  rcases h1 : inB n 0 6 with _ | _
  all_goals
    have H1 := Lib.hid h1
    go_enter Tryz.func14, Tryz.ntmps14
    go_wp2_with (first | (go_at_call 34; refine (isSystemSize_any _ _).mono ?_; rintro e w' ⟨rfl, rfl⟩) | (go_at_call 35; refine (isSystem_any _ _ _ _ _ _ h hm hm2).mono ?_; rintro e w1 ⟨rfl, hb1⟩))
    go_ret2
    exact ⟨ret_bool2 (by unfold sysRes; rw [H1.out]; rfl) rfl, by first | exact Below.refl _ _ | exact hb1⟩
end Go.Proofs.YtkmgbdljiajlaaaGreatDoor
namespace Go.Proofs.YtkmgbdljiajlaaaGreatDoor
open Go.RowKit

/-- The first closed set that has all of a set. -/
def closeL (set : List Int) : List (List Int) → List Int
  | [] => []
  | s :: l => if partL s set then s else closeL set l
/-- The call hands back an int slice of its own. -/
def OwnR (w : World) (xs : List Int) (e : Ending) (w' : World) : Prop := ∃ A n c, e = .returned (.slice A n c) ∧ w'.ownsRow w.heap.size 3 1 (.slice A n c) n (ints xs) ∧ Below w.heap.size w w'
set_option maxHeartbeats 400000 in
theorem closureIn_any (A B : Option Addr) (n m c d : Nat) (xss : List (List Int)) (set : List Int) (w : World) (h : RdL (RV RI) w A n xss) (h' : RdL RI w B m set) (hn : ∀ xs ∈ xss, xs.length ≤ 1048576) :
    Calls Tryz.prog 38 #[.slice A n c, .slice B m d] w (OwnR w (closeL set xss)) := by
  have hle := h.le
  have HN := Lib.hid hn
  clear hn
  go_enter Tryz.func38, Tryz.ntmps38
  go_wp2
  go_loop [9] (fun i => ∃ k : Nat, k ≤ n ∧ i = .int .i64 k ∧ At (closeL set) xss k) (fun i => n - (intOf i).toNat)
  case atStart => exact ⟨0, Nat.zero_le _, rfl, rfl⟩
  case round =>
    obtain ⟨k, hk, rfl, H⟩ := hrel
    by_cases hlt : k < n
    · obtain ⟨b, o, v, s, rfl, hc, ⟨P, j, g, rfl, hs⟩, hd, hx⟩ := h.at hlt
      have H1 := Lib.hid hd
      have hj : j ≤ 1048576 := by rw [← hs.len]; exact HN.out s (List.mem_of_getElem? hx)
      clear hd hx
      go_wp2_with (first | (go_at_call 73; refine (isPart_any _ _ _ _ _ _ _ _ _ h' hs).mono ?_; rintro e w' ⟨rfl, rfl⟩) | (go_at_call 74; refine (clone_any _ _ _ _ _ hs hj).mono ?_; rintro e w1 ⟨A1, c1, rfl, how, hb1⟩))
      · have hin : partL s set = true := (by first | assumption | exact bt2 (by assumption) | exact net (by assumption) | exact netc (by assumption) | exact eqc (by assumption))
        have HR := Lib.hid (H.stop H1.out (r := s) (by rw [closeL, if_pos hin]))
        go_ret
        exact ⟨A1, j, c1, rfl, by rw [← HR.out]; exact how, hb1⟩
      · have hin : ¬ partL s set = true := by rw [show partL s set = false from (by first | assumption | exact bf1 (by assumption) | exact bf2 (by assumption) | exact nef (by assumption) | exact nefc (by assumption) | exact eqc (by assumption))]; decide
        go_round
        case rel => exact ⟨k + 1, by omega, by go_num, H.step H1.out (by rw [closeL, if_neg hin])⟩
        case measure => simp [intOf]; omega
    · have HR := Lib.hid (H.done (h.drop_end hlt) (r := []) rfl)
      go_wp2
      go_ret
      exact ⟨none, 0, 0, rfl, by rw [← HR.out]; exact World.ownsRow_nil _ _ _ _, Below.refl _ _⟩

set_option maxHeartbeats 400000 in
theorem hasSystem_any (A : Option Addr) (m c : Nat) (xss : List (List Int)) (n : Int) (w : World) (h : RdL (RV RI) w A m xss) (hm : m ≤ c) (hm2 : ∀ xs ∈ xss, xs.length ≤ 1048576) :
    Calls Tryz.prog 36 #[.int .i64 n, .slice A m c] w (Bl w (.bool (sysRes n xss))) := by
  rcases h1 : inB n 0 6 with _ | _
  all_goals
    have H1 := Lib.hid h1
    go_enter Tryz.func36, Tryz.ntmps36
    go_wp2_with (first | (go_at_call 34; refine (isSystemSize_any _ _).mono ?_; rintro e w' ⟨rfl, rfl⟩) | (go_at_call 35; refine (isSystem_any _ _ _ _ _ _ h hm hm2).mono ?_; rintro e w1 ⟨rfl, hb1⟩))
    go_ret
    exact ⟨ret_bool (by unfold sysRes; rw [H1.out]; rfl), by first | exact Below.refl _ _ | exact hb1⟩

def closeOk (n : Int) (xss : List (List Int)) (set : List Int) : Bool := sysRes n xss && setB n set
def closeRes (n : Int) (xss : List (List Int)) (set : List Int) : List Int := if closeOk n xss set then closeL set xss else []
/-- The call hands back an int slice of its own and a bool. -/
def OwnB (w : World) (xs : List Int) (b : Bool) (e : Ending) (w' : World) : Prop := ∃ A n c, e = .returned (.tuple #[.slice A n c, .bool b]) ∧ w'.ownsRow w.heap.size 3 1 (.slice A n c) n (ints xs) ∧ Below w.heap.size w w'
theorem own_lit0 {w w1 : World} (h : Below w.heap.size w w1) : (w1.alloc (.cells #[] 3)).ownsRow w.heap.size 3 1 (.slice (some ⟨w1.heap.size, 0, none⟩) 0 0) 0 (ints []) := World.ownsRow_lit _ _ _ h.size (Nat.zero_le _) rfl
set_option maxHeartbeats 1000000 in
theorem implClosureOf_any (A B : Option Addr) (m c j d : Nat) (xss : List (List Int)) (set : List Int) (n : Int) (w : World) (h : RdL (RV RI) w A m xss) (hm : m ≤ c) (hm2 : ∀ xs ∈ xss, xs.length ≤ 1048576) (h' : RdL RI w B j set) :
    Calls Tryz.prog 16 #[.int .i64 n, .slice A m c, .slice B j d] w (OwnB w (closeRes n xss set) (closeOk n xss set)) := by
  rcases h1 : sysRes n xss with _ | _
  · have HR : Hid (closeOk n xss set = false) := by show _ = _; unfold closeOk; rw [h1]; rfl
    have H1 := Lib.hid h1
    clear h1
    go_enter Tryz.func16, Tryz.ntmps16
    go_wp2_with fail
    refine (hasSystem_any _ _ _ _ _ _ h hm hm2).mono ?_
    rintro e w1 ⟨rfl, hb1⟩
    rw [H1.out]
    go_wp2_with fail
    go_ret2
    exact ⟨_, 0, 0, by rw [HR.out]; rfl, by unfold closeRes; rw [HR.out]; exact own_lit0 hb1, below_next hb1 (below_box _ _) rfl⟩
  · rcases h2 : setB n set with _ | _
    · have HR : Hid (closeOk n xss set = false) := by show _ = _; unfold closeOk; rw [h1, h2]; rfl
      have H1 := Lib.hid h1
      have H2 := Lib.hid h2
      clear h1 h2
      go_enter Tryz.func16, Tryz.ntmps16
      go_wp2_with fail
      refine (hasSystem_any _ _ _ _ _ _ h hm hm2).mono ?_
      rintro e w1 ⟨rfl, hb1⟩
      rw [H1.out]
      go_wp2_with fail
      refine (isSetOf_any _ _ _ _ _ _ (h'.next stab_RI hb1)).mono ?_
      rintro e w2 ⟨rfl, z, rfl⟩
      rw [H2.out]
      go_wp2_with fail
      go_ret2
      exact ⟨_, 0, 0, by rw [HR.out]; rfl, by unfold closeRes; rw [HR.out]; exact own_lit0 (below_drewN hb1 _), below_next (below_drewN hb1 _) (below_box _ _) rfl⟩
    · have HR : Hid (closeOk n xss set = true) := by show _ = _; unfold closeOk; rw [h1, h2]; rfl
      have H1 := Lib.hid h1
      have H2 := Lib.hid h2
      have HM2 := Lib.hid hm2
      clear h1 h2 hm2
      go_enter Tryz.func16, Tryz.ntmps16
      go_wp2_with fail
      refine (hasSystem_any _ _ _ _ _ _ h hm HM2.out).mono ?_
      rintro e w1 ⟨rfl, hb1⟩
      rw [H1.out]
      go_wp2_with fail
      refine (isSetOf_any _ _ _ _ _ _ (h'.next stab_RI hb1)).mono ?_
      rintro e w2 ⟨rfl, z, rfl⟩
      rw [H2.out]
      go_wp2_with fail
      refine (closureIn_any _ _ _ _ _ _ _ _ _ ((h.next stab_RVI hb1).drewN stab_RVI _) ((h'.next stab_RI hb1).drewN stab_RI _) HM2.out).mono ?_
      rintro e w3 ⟨A3, n3, c3, rfl, how, hb3⟩
      go_wp2_with fail
      go_ret2
      have hT := below_drewN hb1 z
      exact ⟨A3, n3, c3, by rw [HR.out]; rfl, by unfold closeRes; rw [HR.out]; exact own_mono how hT.size, below_next hT hb3 rfl⟩

end Go.Proofs.YtkmgbdljiajlaaaGreatDoor
namespace Go.Proofs.YtkmgbdljiajlaaaGreatDoor
open Go.RowKit

end Go.Proofs.YtkmgbdljiajlaaaGreatDoor
