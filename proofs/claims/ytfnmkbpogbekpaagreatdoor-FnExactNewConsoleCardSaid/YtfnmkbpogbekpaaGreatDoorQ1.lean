/- Parts of the proof: Mem, Ints, List, NumB, TxB, Mark, Shape, HOp, Alg, Code, Own1, Gb. -/
import Derived.WalkKit
import Derived.WalkSpells
import Derived.WalkLawsBesides
import Derived.Lib.Hide
import Derived.Lib.IndexMore
import Derived.BigGuardPart
import Derived.BigQuiet
import Derived.Deep.QuietTactic
import Derived.Test.YtfnmkbpogbekpaaGreatDoorProg
import Derived.Test.YtfnmkbpogbekpaaGreatDoorShelf
import Derived.Lib.AppendIntMem
import Derived.Deep.RegionHeld3
import Derived.Deep.RegionWith
import Derived.Deep.DeepFit
import Derived.Lib.ItoaNum
import Derived.Lib.ItoaMem
import Derived.Lib.Strings
import Derived.Sort.Grow
import Derived.IntWalk
import Derived.Laws.Concat
import Derived.Lib.Builder
import Derived.Lib.OthersKept
import Derived.Shelf.Strings.Builder1
import Derived.Shelf.Strings.BuilderK
import Derived.Lib.Split
import Derived.Lib.AtoiAll
import Derived.ProofKit
import Derived.OpenShut
import Derived.Lib.SmallJoins
import Derived.Deep.Slices
import Derived.Deep.DeepCutAuto
namespace Go.Proofs.YtfnmkbpogbekpaaGreatDoor
open Go.RowKit

theorem ret_bool {a b : Bool} (h : a = b) : Ending.returned (.bool a) = .returned (.bool b) := by rw [h]
theorem ret_int {k : IntKind} {a b : Int} (h : a = b) : Ending.returned (.int k a) = .returned (.int k b) := by rw [h]
theorem ret_str {a b : ByteArray} (h : a = b) : Ending.returned (.string a) = .returned (.string b) := by rw [h]

/-- The call returns v, and of what was there nothing has turned. -/
def Bl (w : World) (v : Value) (e : Ending) (w' : World) : Prop := e = .returned v ∧ Below w.heap.size w w'

/-- wr is w but for draws. -/
def Drawn (w wr : World) : Prop := ∃ z, wr = w.drewN z
theorem Drawn.zero (w : World) : Drawn w w := ⟨0, rfl⟩
theorem Drawn.at_ (w : World) (z : Nat) : Drawn w (w.drewN z) := ⟨z, rfl⟩
theorem Drawn.more {w wr : World} (h : Drawn w wr) (m : Nat) : Drawn w (wr.drewN m) := by
  obtain ⟨z, rfl⟩ := h
  exact ⟨z + m, World.drewN_drewN ..⟩
/-- The call returns v and only reads. -/
def Qt (w : World) (v : Value) (e : Ending) (w' : World) : Prop := e = .returned v ∧ Drawn w w'
theorem quiet_add {P : Program} {f : FuncId} {args : Array Value} {w : World} {a n : Nat} {v : Value}
    (h : Calls P f args (w.drewN (a + n)) (Qt (w.drewN (a + n)) v)) : Calls P f args (w.drewN (a + n)) fun e w'' => e = .returned v ∧ ∃ m, w'' = w.drewN (a + m) :=
  h.mono fun _ _ ⟨he, m, hm⟩ => ⟨he, n + m, by rw [hm, World.drewN_drewN, Nat.add_assoc]⟩
theorem quiet_one {P : Program} {f : FuncId} {args : Array Value} {w : World} {n : Nat} {v : Value}
    (h : Calls P f args (w.drewN n) (Qt (w.drewN n) v)) : Calls P f args (w.drewN n) fun e w'' => e = .returned v ∧ ∃ m, w'' = w.drewN m :=
  h.mono fun _ _ ⟨he, m, hm⟩ => ⟨he, n + m, by rw [hm, World.drewN_drewN]⟩
/-- A contract that leaves the world alone is a quiet one. -/
theorem quiet_same {P : Program} {f : FuncId} {args : Array Value} {w : World} {v : Value} (h : Calls P f args w fun e w' => e = .returned v ∧ w = w') : Calls P f args w (Qt w v) :=
  h.mono fun _ _ ⟨he, hm⟩ => ⟨he, 0, hm.symm⟩
theorem Qt.zero {w : World} {v : Value} : Qt w v (.returned v) w := ⟨rfl, 0, rfl⟩
theorem Qt.bl {w w' : World} {v : Value} {e : Ending} (h : Qt w v e w') : Bl w v e w' := by
  obtain ⟨he, n, rfl⟩ := h
  exact ⟨he, ⟨rfl, rfl, rfl, Nat.le_refl _, fun _ _ => rfl⟩⟩
theorem bl_of_quiet {P : Program} {f : FuncId} {args : Array Value} {w : World} {v : Value} (h : Calls P f args w (Qt w v)) : Calls P f args w (Bl w v) := h.mono fun _ _ h => h.bl
/-- One call more behind what is below B as it was. -/
theorem below_next {B : Nat} {w w1 w2 : World} (h : Below B w w1) (k : Below w1.heap.size w1 w2) (hB : B = w.heap.size) : Below B w w2 :=
  h.trans (k.mono (by rw [hB]; exact h.size))
theorem below_drewN {B : Nat} {a w : World} (h : Below B a w) (k : Nat) : Below B a (w.drewN k) := ⟨h.os, h.tape, h.output, h.size, h.block⟩
theorem below_box (w : World) (o : Obj) : Below w.heap.size w (w.alloc o) := (Below.refl _ _).alloc (Nat.le_refl _) _
theorem below_box2 (w : World) (o o2 : Obj) : Below w.heap.size w ((w.alloc o).alloc o2) := (below_box w o).alloc (by simp) _
theorem below_box3 (w : World) (o o2 o3 : Obj) : Below w.heap.size w (((w.alloc o).alloc o2).alloc o3) := (below_box2 w o o2).alloc (by simp; omega) _
/-- Block g holds just the cells cs of element type t, none frozen. -/
def Blk (w : World) (g : Nat) (t : TypeId) (cs : Array Value) : Prop := w.heap[g]? = some (.cells cs t (0, 0))
section
variable {w w' : World} {g : Nat} {t : TypeId} {cs : Array Value}
theorem Blk.lt (h : Blk w g t cs) : g < w.heap.size := by
  rcases Nat.lt_or_ge g w.heap.size with hlt | hge
  · exact hlt
  · unfold Blk at h; rw [Array.getElem?_eq_none hge] at h; cases h
theorem Blk.cell (h : Blk w g t cs) (i : Nat) : w.cell? ⟨g, i, none⟩ = cs[i]? := cell_of_row w g i cs t (0, 0) h
theorem Blk.frozen (h : Blk w g t cs) (i : Nat) : w.frozen? ⟨g, i, none⟩ = false := by
  unfold Blk at h
  simp [World.frozen?, h]
theorem Blk.new (w : World) (t : TypeId) (cs : Array Value) : Blk (w.alloc (.cells cs t)) w.heap.size t cs := heap_alloc_new w _
theorem Blk.drew (h : Blk w g t cs) : Blk w.drew g t cs := h
theorem Blk.drewN (h : Blk w g t cs) (n : Nat) : Blk (w.drewN n) g t cs := h
theorem Blk.alloc (h : Blk w g t cs) (o : Obj) : Blk (w.alloc o) g t cs := (Below.heap_alloc w o g h.lt).trans h
theorem Blk.set_ (h : Blk w g t cs) (i : Nat) (u : Value) : Blk (w.setCell ⟨g, i, none⟩ u) g t (cs.setIfInBounds i u) := by
  unfold Blk at h ⊢
  simp [World.setCell, Array.getElem?_modify, h]
theorem Blk.far (h : Blk w g t cs) {p : Addr} (hp : g ≠ p.block) (u : Value) : Blk (w.setCell p u) g t cs := (Below.heap_setCell w p u g hp).trans h
theorem Blk.below {B : Nat} (h : Blk w g t cs) (hb : Below B w w') (hg : g < B) : Blk w' g t cs := (hb.block g hg).trans h
theorem Blk.next (h : Blk w g t cs) (hb : Below w.heap.size w w') : Blk w' g t cs := h.below hb h.lt
theorem Blk.grown {row : Option Nat} (h : Blk w g t cs) (hb : w.grownBy w' row) (hg : some g ≠ row) : Blk w' g t cs := (hb.block g h.lt hg).trans h
end

/-- The bytes of a string. -/
def bs (s : ByteArray) : List UInt8 := s.data.toList
theorem bs_inj {a b : ByteArray} (h : bs a = bs b) : a = b := by
  obtain ⟨⟨a⟩⟩ := a
  obtain ⟨⟨b⟩⟩ := b
  simp only [bs] at h
  rw [h]
theorem drop_cons (s : ByteArray) (k : Nat) (h : k < s.size) : (bs s).drop k = s[k] :: (bs s).drop (k + 1) := by
  unfold bs; exact List.drop_eq_getElem_cons (l := s.data.toList) h
theorem drop_end (s : ByteArray) (k : Nat) (h : ¬ k < s.size) : (bs s).drop k = [] := by
  apply List.drop_eq_nil_of_le
  show s.data.size ≤ k
  exact Nat.le_of_not_lt h
/-- Does the byte c stand in the list? -/
def has (c : Int) : List UInt8 → Bool
  | [] => false
  | x :: l => (x.toNat : Int) == c || has c l
theorem bf1 {b : Bool} (h : ¬ b = true) : b = false := by simpa using h
theorem bf2 {b : Bool} (h : (!b) = true) : b = false := by simpa using h
theorem bt2 {b : Bool} (h : (!b) = false) : b = true := by simpa using h
theorem nef {x y : Int} (h : (x != y) = true) : (x == y) = false := by simpa using h
theorem net {x y : Int} (h : (x != y) = false) : (x == y) = true := by simpa using h
theorem eqc {x y : Int} {b : Bool} (h : (y == x) = b) : (x == y) = b := by rw [← h]; exact Bool.beq_comm
theorem nefc {x y : Int} (h : (y != x) = true) : (x == y) = false := eqc (nef h)
theorem netc {x y : Int} (h : (y != x) = false) : (x == y) = true := eqc (net h)

/-! ## Slices that read as lists -/
/-- A slice value that begins at A, of n elements, reads as xs: its k-th cell holds a value that R says is xs[k]. -/
def RdL {α : Type} (R : World → Value → α → Prop) (w : World) (A : Option Addr) (n : Nat) (xs : List α) : Prop :=
  xs.length = n ∧ n ≤ maxLen ∧ ∀ k x, xs[k]? = some x → ∃ b o v, A = some ⟨b, o, none⟩ ∧ w.cell? ⟨b, o + k, none⟩ = some v ∧ R w v x
theorem cell_lt {w : World} {p : Addr} {v : Value} (h : w.cell? p = some v) : p.block < w.heap.size := by
  rcases Nat.lt_or_ge p.block w.heap.size with hlt | hge
  · exact hlt
  · exfalso
    have : w.heap[p.block]? = none := Array.getElem?_eq_none hge
    simp [World.cell?, this] at h
def RI (_ : World) (v : Value) (x : Int) : Prop := v = .int .i64 x ∧ -9223372036854775808 ≤ x ∧ x ≤ 9223372036854775807
def RB (_ : World) (v : Value) (x : Bool) : Prop := v = .bool x
def RS (_ : World) (v : Value) (x : ByteArray) : Prop := v = .string x ∧ x.size ≤ maxLen
/-- A slice value reads as a list. -/
def RV {α : Type} (R : World → Value → α → Prop) (w : World) (v : Value) (xs : List α) : Prop := ∃ A n c, v = .slice A n c ∧ RdL R w A n xs
/-- What R says holds on where the blocks that there were hold what they held. -/
def Stab {α : Type} (R : World → Value → α → Prop) : Prop := ∀ w w' v x, (∀ b, b < w.heap.size → w'.heap[b]? = w.heap[b]?) → R w v x → R w' v x
theorem stab_RI : Stab RI := fun _ _ _ _ _ h => h
theorem stab_RB : Stab RB := fun _ _ _ _ _ h => h
section
variable {α : Type} {R : World → Value → α → Prop} {w w' : World} {A : Option Addr} {n : Nat} {xs : List α}
theorem RdL.same (hR : Stab R) (h : RdL R w A n xs) (hb : ∀ b, b < w.heap.size → w'.heap[b]? = w.heap[b]?) : RdL R w' A n xs :=
  ⟨h.1, h.2.1, fun k x hk => by
    obtain ⟨b, o, v, e, hc, hr⟩ := h.2.2 k x hk
    exact ⟨b, o, v, e, (World.cell?_of_block (w := w) (hb b (cell_lt hc))).trans hc, hR _ _ _ _ hb hr⟩⟩
theorem RdL.next (hR : Stab R) (h : RdL R w A n xs) (hb : Below w.heap.size w w') : RdL R w' A n xs := h.same hR hb.block
theorem RdL.drew (h : RdL R w A n xs) (hR : Stab R) : RdL R w.drew A n xs := h.same hR fun _ _ => rfl
theorem RdL.drewN (h : RdL R w A n xs) (hR : Stab R) (k : Nat) : RdL R (w.drewN k) A n xs := h.same hR fun _ _ => rfl
theorem RdL.alloc (h : RdL R w A n xs) (hR : Stab R) (o : Obj) : RdL R (w.alloc o) A n xs := h.next hR (below_box w o)
theorem RdL.len (h : RdL R w A n xs) : xs.length = n := h.1
theorem RdL.le (h : RdL R w A n xs) : n ≤ 9223372036854775807 := by have := h.2.1; unfold maxLen at this; omega
theorem RdL.nil (R : World → Value → α → Prop) (w : World) (A : Option Addr) : RdL R w A 0 [] := ⟨rfl, Nat.zero_le _, fun k x hk => by simp at hk⟩
theorem stab_RV (hR : Stab R) : Stab (RV R) := fun _ _ _ _ hb ⟨A, n, c, e, h⟩ => ⟨A, n, c, e, h.same hR hb⟩
/-- The cell of the k-th element; and the list from there on. -/
theorem RdL.at (h : RdL R w A n xs) {k : Nat} (hk : k < n) : ∃ b o v x, A = some ⟨b, o, none⟩ ∧ w.cell? ⟨b, o + k, none⟩ = some v ∧ R w v x ∧ xs.drop k = x :: xs.drop (k + 1) ∧ xs[k]? = some x := by
  have hl : k < xs.length := by rw [h.1]; exact hk
  obtain ⟨b, o, v, e, hc, hr⟩ := h.2.2 k _ (List.getElem?_eq_getElem hl)
  exact ⟨b, o, v, xs[k], e, hc, hr, List.drop_eq_getElem_cons hl, List.getElem?_eq_getElem hl⟩
theorem RdL.at' {b o : Nat} (h : RdL R w (some ⟨b, o, none⟩) n xs) {k : Nat} (hk : k < n) : ∃ v x, w.cell? ⟨b, o + k, none⟩ = some v ∧ R w v x ∧ xs.drop k = x :: xs.drop (k + 1) ∧ xs[k]? = some x := by
  obtain ⟨b', o', v, x, e, r⟩ := h.at hk
  simp only [Option.some.injEq, Addr.mk.injEq, and_true] at e
  obtain ⟨rfl, rfl⟩ := e
  exact ⟨v, x, r⟩
theorem RdL.drop_end (h : RdL R w A n xs) {k : Nat} (hk : ¬ k < n) : xs.drop k = [] := List.drop_eq_nil_of_le (by rw [h.1]; omega)
theorem RdL.ofOwn {base : Nat} {e : TypeId} {v : Value} {vs : List Value} (hn : n ≤ maxLen) (h : w.ownsRow base e 1 v n vs) (hl : xs.length = n) (hr : ∀ (k : Nat) x, xs[k]? = some x → ∃ u, vs[k]? = some u ∧ R w u x) :
    ∃ A c, v = .slice A n c ∧ RdL R w A n xs := by
  rcases h.2 with ⟨rfl, rfl⟩ | ⟨g, cap, cur, rfl, hb, hg, hnc, hcm, hcs, ht⟩
  · have : xs = [] := List.eq_nil_of_length_eq_zero hl
    subst this
    exact ⟨none, 0, rfl, RdL.nil _ _ _⟩
  · refine ⟨_, cap, rfl, hl, hn, fun k x hk => ?_⟩
    obtain ⟨u, hu, hr'⟩ := hr k x hk
    refine ⟨g, 0, u, rfl, ?_, hr'⟩
    have hkn : k < n := by have := (List.getElem?_eq_some_iff.1 hk).1; omega
    have := h.cellAt k (by omega)
    rw [Nat.zero_add, this]
    exact hu
end
/-- An int slice of the call's own: it lies in a block of its own from lo on (below hi), nothing frozen. -/
def OwL {α : Type} (R : World → Value → α → Prop) (lo hi : Nat) (w : World) (A : Option Addr) (n : Nat) (xs : List α) : Prop :=
  RdL R w A n xs ∧ (0 < n → ∃ b o, A = some ⟨b, o, none⟩ ∧ lo ≤ b ∧ b < hi ∧ ∀ k, k < n → w.frozen? ⟨b, o + k, none⟩ = false)
section
variable {α : Type} {R : World → Value → α → Prop} {w w' : World} {A : Option Addr} {n lo hi : Nat} {xs : List α}
theorem OwL.rd (h : OwL R lo hi w A n xs) : RdL R w A n xs := h.1
theorem OwL.mono {lo' hi' : Nat} (h : OwL R lo hi w A n xs) (h1 : lo' ≤ lo) (h2 : hi ≤ hi') : OwL R lo' hi' w A n xs :=
  ⟨h.1, fun hn => by obtain ⟨b, o, e, hb, hb', hf⟩ := h.2 hn; exact ⟨b, o, e, by omega, by omega, hf⟩⟩
end
/-! ## Rows of the call's own -/
section
variable {w w' : World} {base : Nat} {e : TypeId} {size : Nat} {v : Value} {n : Nat} {xs : List Value}
theorem own_same (h : w.ownsRow base e size v n xs) (hb : ∀ b, v.ownBlock = some b → w'.heap[b]? = w.heap[b]?) : w'.ownsRow base e size v n xs := by
  obtain ⟨h1, h2⟩ := h
  refine ⟨h1, ?_⟩
  rcases h2 with h2 | ⟨g, cap, cur, hv, hg, hh, r⟩
  · exact Or.inl h2
  · exact Or.inr ⟨g, cap, cur, hv, hg, by rw [hb g (by rw [hv]; rfl)]; exact hh, r⟩
theorem own_next (h : w.ownsRow base e size v n xs) (hb : Below w.heap.size w w') : w'.ownsRow base e size v n xs :=
  own_same h fun b hv => hb.block b (h.lt b hv).2
theorem own_mono {base' : Nat} (h : w.ownsRow base e size v n xs) (hb : base' ≤ base) : w.ownsRow base' e size v n xs := by
  obtain ⟨h1, h2⟩ := h
  refine ⟨h1, ?_⟩
  rcases h2 with h2 | ⟨g, cap, cur, hv, hg, r⟩
  · exact Or.inl h2
  · exact Or.inr ⟨g, cap, cur, hv, by omega, r⟩
theorem own_set (h : w.ownsRow base e size v n xs) {p : Addr} (hp : v.ownBlock ≠ some p.block) (u : Value) : (w.setCell p u).ownsRow base e size v n xs :=
  own_same h fun b hv => Below.heap_setCell w p u b (fun ee => hp (by rw [hv, ee]))
theorem own_ne {e' : TypeId} {base' size' : Nat} {v' : Value} {n' : Nat} {xs' : List Value} (h : w.ownsRow base e size v n xs) (h' : w.ownsRow base' e' size' v' n' xs') (hne : e ≠ e') {g : Nat} (hg : v.ownBlock = some g) : v'.ownBlock ≠ some g := by
  rcases h.2 with ⟨rfl, _⟩ | ⟨g1, cap, cur, rfl, _, hh, _⟩
  · simp [Value.ownBlock] at hg
  · rcases h'.2 with ⟨rfl, _⟩ | ⟨g2, cap2, cur2, rfl, _, hh2, _⟩
    · simp [Value.ownBlock]
    · intro hc
      simp only [Value.ownBlock, Option.some.injEq] at hg hc
      subst hg
      subst hc
      rw [hh] at hh2
      injection hh2 with hh2
      injection hh2 with _ ht
      exact hne ht
end

/-- A slice of slices of the call's own: an outer row, inner rows, each in a block of its own. -/
def OwM {α : Type} (eo ei : TypeId) (f : α → Value) (lo : Nat) (w : World) (v : Value) (n : Nat) (xss : List (List α)) : Prop :=
  ∃ vs : List Value, w.ownsRow lo eo 1 v n vs ∧ vs.length = xss.length ∧ (∀ (k : Nat) u xs, vs[k]? = some u → xss[k]? = some xs → w.ownsRow lo ei 1 u xs.length (xs.map f)) ∧ (vs.filterMap Value.ownBlock).Nodup
/-- A row that is owned reads as its list. -/
theorem rd_of_own {α : Type} {R : World → Value → α → Prop} {f : α → Value} {w : World} {base : Nat} {e : TypeId} {A : Option Addr} {n c : Nat} {xs : List α} (h : w.ownsRow base e 1 (.slice A n c) n (xs.map f))
    (hR : ∀ x ∈ xs, R w (f x) x) : RdL R w A n xs := by
  have hl : xs.length = n := by have := h.1; simpa using this
  have hn : n ≤ maxLen := by
    rcases h.2 with ⟨_, h0⟩ | ⟨g, cap, cur, _, _, _, h1, h2, _⟩
    · omega
    · omega
  obtain ⟨A', c', e', hr⟩ := RdL.ofOwn (R := R) (xs := xs) hn h hl (fun k x hk => ⟨f x, by simp [hk], hR x (List.mem_of_getElem? hk)⟩)
  injection e' with e1 e2 e3
  rw [e1]
  exact hr
theorem own_slice {w : World} {base : Nat} {e : TypeId} {size : Nat} {v : Value} {n : Nat} {xs : List Value} (h : w.ownsRow base e size v n xs) : ∃ A c, v = .slice A n c := by
  rcases h.2 with ⟨rfl, rfl⟩ | ⟨g, cap, cur, rfl, _⟩
  · exact ⟨none, 0, rfl⟩
  · exact ⟨_, cap, rfl⟩
section
variable {α : Type} {eo ei : TypeId} {f : α → Value} {lo : Nat} {w w' : World} {v : Value} {n : Nat} {xss : List (List α)}
theorem OwM.next (h : OwM eo ei f lo w v n xss) (hb : Below w.heap.size w w') : OwM eo ei f lo w' v n xss := by
  obtain ⟨vs, h1, h2, h3, h4⟩ := h
  exact ⟨vs, own_next h1 hb, h2, fun k u xs hu hx => own_next (h3 k u xs hu hx) hb, h4⟩
theorem OwM.mono {lo' : Nat} (h : OwM eo ei f lo w v n xss) (hb : lo' ≤ lo) : OwM eo ei f lo' w v n xss := by
  obtain ⟨vs, h1, h2, h3, h4⟩ := h
  exact ⟨vs, own_mono h1 hb, h2, fun k u xs hu hx => own_mono (h3 k u xs hu hx) hb, h4⟩
theorem OwM.rd {R : World → Value → α → Prop} {A : Option Addr} {c : Nat} (h : OwM eo ei f lo w (.slice A n c) n xss) (hR : ∀ xs ∈ xss, ∀ x ∈ xs, R w (f x) x) : RdL (RV R) w A n xss := by
  obtain ⟨vs, h1, h2, h3, h4⟩ := h
  have hl : vs.length = n := by have := h1.1; simpa using this
  have hn : n ≤ maxLen := by
    rcases h1.2 with ⟨_, h0⟩ | ⟨g, cap, cur, _, _, _, h1, h2, _⟩
    · omega
    · omega
  obtain ⟨A', c', e', hr⟩ := RdL.ofOwn (R := RV R) (xs := xss) hn h1 (by omega) (fun k xs hk => by
    have hk' : k < vs.length := by rw [h2]; exact (List.getElem?_eq_some_iff.1 hk).1
    have hu : vs[k]? = some vs[k] := List.getElem?_eq_getElem hk'
    have ho := h3 k _ xs hu hk
    obtain ⟨B, d, hv⟩ := own_slice ho
    rw [hv] at ho
    exact ⟨_, hu, B, xs.length, d, hv, rd_of_own ho (hR xs (List.mem_of_getElem? hk))⟩)
  injection e' with e1 e2 e3
  rw [e1]
  exact hr
end

/-- A matrix being filled: k rows laid, the other n - k places as made. -/
def FillM {α : Type} (eo ei : TypeId) (f : α → Value) (lo g n : Nat) (w : World) (xss : List (List α)) (k : Nat) : Prop :=
  ∃ vs : List Value, w.ownsRow lo eo 1 (.slice (some ⟨g, 0, none⟩) n n) n (vs ++ List.replicate (n - k) (.slice none 0 0)) ∧ vs.length = k ∧ (∀ (j : Nat) u xs, vs[j]? = some u → xss[j]? = some xs → w.ownsRow lo ei 1 u xs.length (xs.map f)) ∧ (vs.filterMap Value.ownBlock).Nodup
section
variable {α : Type} {eo ei : TypeId} {f : α → Value} {lo g n : Nat} {w w' : World} {xss : List (List α)} {k : Nat}
theorem FillM.start (h : w.ownsRow lo eo 1 (.slice (some ⟨g, 0, none⟩) n n) n (List.replicate n (.slice none 0 0))) : FillM eo ei f lo g n w xss 0 :=
  ⟨[], by simpa using h, rfl, fun j u xs hu => by simp at hu, by simp⟩
theorem FillM.next (h : FillM eo ei f lo g n w xss k) (hb : Below w.heap.size w w') : FillM eo ei f lo g n w' xss k := by
  obtain ⟨vs, h1, h2, h3, h4⟩ := h
  exact ⟨vs, own_next h1 hb, h2, fun k u xs hu hx => own_next (h3 k u xs hu hx) hb, h4⟩
theorem FillM.cell (h : FillM eo ei f lo g n w xss k) (hk : k < n) : w.cell? ⟨g, k, none⟩ = some (.slice none 0 0) := by
  obtain ⟨vs, h1, h2, -, -⟩ := h
  rw [h1.cellAt k (by omega), List.getElem?_append_right (by omega), h2, Nat.sub_self, List.getElem?_replicate, if_pos (by omega)]
theorem FillM.frozen (h : FillM eo ei f lo g n w xss k) : w.frozen? ⟨g, k, none⟩ = false := by
  obtain ⟨vs, h1, -, -, -⟩ := h
  exact h1.frozenAt k
theorem FillM.lt (h : FillM eo ei f lo g n w xss k) : lo ≤ g ∧ g < w.heap.size := by
  obtain ⟨vs, h1, -, -, -⟩ := h
  exact h1.lt g rfl
/-- One row more, that a call has laid since. -/
theorem FillM.set_ (hne : eo ≠ ei) (h0 : FillM eo ei f lo g n w xss k) (hb : Below w.heap.size w w') (hk : k < n) {u : Value} {xs : List α} (hx : xss[k]? = some xs) (hu0 : w'.ownsRow w.heap.size ei 1 u xs.length (xs.map f)) (hlo : lo ≤ w.heap.size) :
    FillM eo ei f lo g n (w'.setCell ⟨g, k, none⟩ u) xss (k + 1) := by
  have hu := own_mono hu0 hlo
  obtain ⟨vs, h01, h2, h03, h4⟩ := h0
  have h1 := own_next h01 hb
  have hst := (h1.stored k u).1
  refine ⟨vs ++ [u], ?_, by simp [h2], ?_, ?_⟩
  · have e : (vs ++ List.replicate (n - k) (Value.slice none 0 0)).set k u = (vs ++ [u]) ++ List.replicate (n - (k + 1)) (.slice none 0 0) := by
      rw [List.set_append_right _ _ (by omega), h2, Nat.sub_self]
      have h2 : n - k = (n - (k + 1)) + 1 := by omega
      rw [h2, List.replicate_succ, List.set_cons_zero]
      simp
    rw [← e]
    exact hst
  · intro j v ys hv hy
    have far : ∀ {v : Value} {ys : List α}, w'.ownsRow lo ei 1 v ys.length (ys.map f) → (w'.setCell ⟨g, k, none⟩ u).ownsRow lo ei 1 v ys.length (ys.map f) := fun ho =>
      own_set (p := ⟨g, k, none⟩) ho (fun hc => own_ne ho h1 hne.symm (g := g) hc rfl) u
    rcases Nat.lt_or_ge j k with hj | hj
    · rw [List.getElem?_append_left (by omega)] at hv
      exact far (own_next (h03 j v ys hv hy) hb)
    · have hjk : j = k := by
        have := (List.getElem?_eq_some_iff.1 hv).1
        simp at this
        omega
      subst hjk
      rw [List.getElem?_append_right (by omega), h2, Nat.sub_self] at hv
      simp at hv
      subst hv
      rw [hx] at hy
      injection hy with hy
      subst hy
      exact far hu
  · rw [List.filterMap_append, List.nodup_append]
    refine ⟨h4, ?_, ?_⟩
    · simp only [List.filterMap_cons, List.filterMap_nil]
      cases u.ownBlock <;> simp
    · intro a ha b hb
      simp only [List.filterMap_cons, List.filterMap_nil] at hb
      obtain ⟨v, hv, hva⟩ := List.mem_filterMap.1 ha
      obtain ⟨j, hj⟩ := List.getElem?_of_mem hv
      have hjk := (List.getElem?_eq_some_iff.1 hj).1
      have hjx : j < xss.length := by have := (List.getElem?_eq_some_iff.1 hx).1; omega
      have hlt := ((h03 j v _ hj (List.getElem?_eq_getElem hjx)).lt a hva).2
      cases hub : u.ownBlock with
      | none => rw [hub] at hb; simp at hb
      | some b' =>
        rw [hub] at hb
        simp at hb
        subst hb
        have := (hu0.lt b hub).1
        omega
theorem FillM.done (h : FillM eo ei f lo g n w xss k) (hl : xss.length = n) (hk : k ≤ n) (hk' : ¬ k < n) : OwM eo ei f lo w (.slice (some ⟨g, 0, none⟩) n n) n xss := by
  obtain ⟨vs, h1, h2, h3, h4⟩ := h
  have e : n - k = 0 := by omega
  rw [e] at h1
  simp only [List.replicate_zero, List.append_nil] at h1
  exact ⟨vs, h1, by omega, h3, h4⟩
end

/-! ## Loops over a list: what is left answers as the whole does -/
def At {α β : Type} (f : List α → β) (xs : List α) (k : Nat) : Prop := f (xs.drop k) = f xs
section
variable {α β : Type} {f : List α → β} {xs : List α} {k : Nat} {x : α} {r : β}
theorem At.start (f : List α → β) (xs : List α) : At f xs 0 := rfl
theorem At.step (h : At f xs k) (hd : xs.drop k = x :: xs.drop (k + 1)) (he : f (x :: xs.drop (k + 1)) = f (xs.drop (k + 1))) : At f xs (k + 1) := by
  unfold At at *; rw [← h, hd, he]
theorem At.stop (h : At f xs k) (hd : xs.drop k = x :: xs.drop (k + 1)) (he : f (x :: xs.drop (k + 1)) = r) : r = f xs := by
  unfold At at *; rw [← h, hd, he]
theorem At.done (h : At f xs k) (hd : xs.drop k = []) (he : f [] = r) : r = f xs := by
  unfold At at *; rw [← h, hd, he]
end
def At2 {α β γ : Type} (f : List α → List γ → β) (xs : List α) (ys : List γ) (k : Nat) : Prop := f (xs.drop k) (ys.drop k) = f xs ys
section
variable {α β γ : Type} {f : List α → List γ → β} {xs : List α} {ys : List γ} {k : Nat} {x : α} {y : γ} {r : β}
theorem At2.start (f : List α → List γ → β) (xs : List α) (ys : List γ) : At2 f xs ys 0 := rfl
theorem At2.step (h : At2 f xs ys k) (hd : xs.drop k = x :: xs.drop (k + 1)) (hd' : ys.drop k = y :: ys.drop (k + 1)) (he : f (x :: xs.drop (k + 1)) (y :: ys.drop (k + 1)) = f (xs.drop (k + 1)) (ys.drop (k + 1))) : At2 f xs ys (k + 1) := by
  unfold At2 at *; rw [← h, hd, hd', he]
theorem At2.stop (h : At2 f xs ys k) (hd : xs.drop k = x :: xs.drop (k + 1)) (hd' : ys.drop k = y :: ys.drop (k + 1)) (he : f (x :: xs.drop (k + 1)) (y :: ys.drop (k + 1)) = r) : r = f xs ys := by
  unfold At2 at *; rw [← h, hd, hd', he]
theorem At2.done (h : At2 f xs ys k) {l : List α} {m : List γ} (hd : xs.drop k = l) (hd' : ys.drop k = m) (he : f l m = r) : r = f xs ys := by
  unfold At2 at *; rw [← h, hd, hd', he]
end
/-- A loop that gathers: what has been gathered, and behind it what the rest gives, is what the whole gives. -/
def Acc {α γ : Type} (f : List α → List γ) (xs : List α) (k : Nat) (acc : List γ) : Prop := acc ++ f (xs.drop k) = f xs
section
variable {α γ : Type} {f : List α → List γ} {xs : List α} {k : Nat} {x : α} {y : γ} {acc : List γ}
theorem Acc.start (f : List α → List γ) (xs : List α) : Acc f xs 0 [] := rfl
theorem Acc.keep (h : Acc f xs k acc) (hd : xs.drop k = x :: xs.drop (k + 1)) (he : f (x :: xs.drop (k + 1)) = y :: f (xs.drop (k + 1))) : Acc f xs (k + 1) (acc ++ [y]) := by
  unfold Acc at *; rw [← h, hd, he]; simp
theorem Acc.skip (h : Acc f xs k acc) (hd : xs.drop k = x :: xs.drop (k + 1)) (he : f (x :: xs.drop (k + 1)) = f (xs.drop (k + 1))) : Acc f xs (k + 1) acc := by
  unfold Acc at *; rw [← h, hd, he]
theorem Acc.done (h : Acc f xs k acc) (hd : xs.drop k = []) (he : f [] = []) : acc = f xs := by
  unfold Acc at *; rw [← h, hd, he]; simp
end

/-! ## append of one element to a row of the call's own -/
theorem wp_app1 {P : Program} (w0 : World) {o : Oper} {a : Act} {K : Act → World → Prop} {Q : Exit → Act → World → Prop} (s x : Operand) (t e : TypeId)
    (ho : o.op = .call { callee := .builtin .append, args := #[s, x], argTypes := #[t, t] }) (z : Value) (bytes : Nat)
    (ht : P.underlying t = some (.slice e)) (hi : (P.info? e).map (fun i => (i.zero, i.size, i.bytes)) = some (some z, 1, bytes)) (hzs : z.cells.size = 1) (hbb : bytes ≤ 64)
    (base n c : Nat) (A : Option Addr) (xs : List Value) (hs : a.eval s = .slice A n c) (hown : w0.ownsRow base e 1 (.slice A n c) n xs) (u : Value) (h1 : u.oneCell' = true) (hx : a.eval x = .slice (some ⟨w0.heap.size, 0, none⟩) 1 1)
    (hn : n ≤ 1099511627776) (hbase : base ≤ w0.heap.size)
    (hK : ∀ A' c' w', w'.ownsRow base e 1 (.slice A' (n + 1) c') (n + 1) (xs ++ [u]) → w0.grownBy w' (Value.slice A n c).ownBlock → Below base w0 w' → K (a.put o.dst (.slice A' (n + 1) c')) w') :
    o.wp P a (w0.alloc (.cells #[u] e)) K Q := by
  obtain ⟨i, hi, hz, hsize, hby⟩ := info_parts hi
  have hbound : (n + 1) * bytes ≤ 140737488355328 := Nat.le_trans (Nat.mul_le_mul_left (n + 1) hbb) (by omega)
  refine wp_append_own (w0.alloc (.cells #[u] e)) s x t ho base e i z 1 bytes ht hi hz hsize hby hzs (by omega) (.slice A n c) n xs hs (hown.alloc _) ⟨w0.heap.size, 0, none⟩ 1 1 [u] hx rfl ?_ ?_ (by unfold maxLen; omega) hbound (by simp; omega) ?_
  · intro j v hj
    match j, hj with
    | 0, hj => simp at hj; subst hj; simp [Addr.add]
  · intro v hv; simp at hv; subst hv; exact h1
  · intro v' w' hown' hgrow _
    obtain ⟨A', c', rfl⟩ := own_slice hown'
    have hg : w0.grownBy w' (Value.slice A n c).ownBlock :=
      ⟨hgrow.os, hgrow.tape, hgrow.output, Nat.le_trans (by simp) hgrow.size, fun k hk hne => (hgrow.block k (by simp; omega) hne).trans (Below.heap_alloc w0 _ k hk)⟩
    exact hK A' c' w' hown' hg ((Below.refl base w0).grown hg hbase (fun k hk => (hown.lt k hk).1))

theorem run_append_of_nil {P : Program} (w : World) (base : Nat) (t ty e : TypeId) (i : TypeInfo) (size : Nat) (ht : P.underlying t = some (.slice e)) (hi : P.info? e = some i)
    (v : Value) (n : Nat) (xs : List Value) (hown : w.ownsRow base e size v n xs) (c : Nat) : (Builtin.append_ #[t, t] ty #[v, .slice none 0 c]).run P w = .ok v w := by
  rcases hown.2 with ⟨rfl, rfl⟩ | ⟨g, cap, cur, rfl, _, _, hnc, _⟩
  · simp [Builtin.append_, run_underlying ht, sizeOf, typeInfo, hi, Builtin.lenOf, Builtin.firstCells]
  · simp [Builtin.append_, run_underlying ht, sizeOf, typeInfo, hi, Builtin.lenOf, Builtin.firstCells, hnc, storeCells]
/-- append of a whole slice, nil or not, to a row of the call's own. -/
theorem wp_appAny {P : Program} {α : Type} {R : World → Value → α → Prop} (w : World) {o : Oper} {a : Act} {K : Act → World → Prop} {Q : Exit → Act → World → Prop} (s x : Operand) (t e : TypeId)
    (ho : o.op = .call { callee := .builtin .append, args := #[s, x], argTypes := #[t, t] }) (z : Value) (bytes : Nat)
    (ht : P.underlying t = some (.slice e)) (hi : (P.info? e).map (fun i => (i.zero, i.size, i.bytes)) = some (some z, 1, bytes)) (hzs : z.cells.size = 1) (hbb : bytes ≤ 64)
    (base n c : Nat) (A : Option Addr) (vs : List Value) (hs : a.eval s = .slice A n c) (hown : w.ownsRow base e 1 (.slice A n c) n vs)
    (B : Option Addr) (m d : Nat) (xs : List α) (f : α → Value) (h1 : ∀ x, (f x).oneCell' = true) (hx : a.eval x = .slice B m d) (hr : RdL R w B m xs) (hf : ∀ w v x, R w v x → v = f x)
    (hn : n + m ≤ 1099511627776) (hbase : base ≤ w.heap.size)
    (hK : ∀ A' c' w', w'.ownsRow base e 1 (.slice A' (n + m) c') (n + m) (vs ++ xs.map f) → w.grownBy w' (Value.slice A n c).ownBlock → Below base w w' → K (a.put o.dst (.slice A' (n + m) c')) w') :
    o.wp P a w K Q := by
  obtain ⟨i, hi, hz, hsize, hby⟩ := info_parts hi
  have hbound : (n + m) * bytes ≤ 140737488355328 := Nat.le_trans (Nat.mul_le_mul_left (n + m) hbb) (by omega)
  rcases B with _ | ad
  · have hm : m = 0 := by
      rcases Nat.eq_zero_or_pos m with h0 | h0
      · exact h0
      · obtain ⟨b, o, v, x, h, _⟩ := hr.at h0
        cases h
    subst hm
    have hxs : xs = [] := List.eq_nil_of_length_eq_zero hr.1
    subst hxs
    have hrun := run_append_of_nil (P := P) w base t o.type e i 1 ht hi _ n vs hown d
    unfold Oper.wp execOp
    simp only [ho, resolve, invoke, builtin, Sem.run_bind, Sem.run_pure, Result.andThen_ok, List.map_toArray, List.map_cons, List.map_nil, hs, hx, hrun]
    exact hK A c w (by simpa using hown) (World.grownBy.refl w _) (Below.refl _ _)
  · refine wp_append_own w s x t ho base e i z 1 bytes ht hi hz hsize hby hzs (by omega) (.slice A n c) n vs hs hown ad m d (xs.map f) hx (by simp [hr.1]) ?_ ?_ (by unfold maxLen; omega) hbound hbase ?_
    · intro j u hu
      rw [List.getElem?_map] at hu
      obtain ⟨y, hy, rfl⟩ := Option.map_eq_some_iff.1 hu
      obtain ⟨b, o, v, e', hc, hv⟩ := hr.2.2 j y hy
      have he : ad = ⟨b, o, none⟩ := by injection e'
      subst he
      rw [hf _ _ _ hv] at hc
      have ea : (⟨b, o, none⟩ : Addr).add j = ⟨b, o + j, none⟩ := by
        unfold Addr.add
        split
        · rename_i h0; subst h0; rfl
        · rfl
      rw [ea]
      exact hc
    · intro v hv
      obtain ⟨y, -, rfl⟩ := List.mem_map.1 hv
      exact h1 y
    · intro v' w' hown' hgrow _
      obtain ⟨A', c', rfl⟩ := own_slice hown'
      exact hK A' c' w' hown' hgrow ((Below.refl base w).grown hgrow hbase (fun k hk => (hown.lt k hk).1))
theorem app1 {P : Program} (w0 : World) {ops : Array Oper} {rest : List Oper} {o : Oper} {a : Act} {Q : Exit → Act → World → Prop} (hgd : o.guard = none) (s x : Operand) (t e : TypeId)
    (ho : o.op = .call { callee := .builtin .append, args := #[s, x], argTypes := #[t, t] }) (z : Value) (bytes : Nat)
    (ht : P.underlying t = some (.slice e)) (hi : (P.info? e).map (fun i => (i.zero, i.size, i.bytes)) = some (some z, 1, bytes)) (hzs : z.cells.size = 1) (hbb : bytes ≤ 64)
    (base n c : Nat) (A : Option Addr) (xs : List Value) (hs : a.eval s = .slice A n c) (hown : w0.ownsRow base e 1 (.slice A n c) n xs) (u : Value) (h1 : u.oneCell' = true) (hx : a.eval x = .slice (some ⟨w0.heap.size, 0, none⟩) 1 1)
    (hn : n ≤ 1099511627776) (hbase : base ≤ w0.heap.size)
    (hK : ∀ A' c' w', w'.ownsRow base e 1 (.slice A' (n + 1) c') (n + 1) (xs ++ [u]) → w0.grownBy w' (Value.slice A n c).ownBlock → Below base w0 w' → wpList P ops Q rest (a.put o.dst (.slice A' (n + 1) c')) w') :
    wpList P ops Q (o :: rest) a (w0.alloc (.cells #[u] e)) :=
  wpList_plain hgd fun _ hK' => wp_app1 w0 s x t e ho z bytes ht hi hzs hbb base n c A xs hs hown u h1 hx hn hbase fun A' c' w' h2 h3 h4 => hK' _ _ (hK A' c' w' h2 h3 h4)
theorem step_app1 {P : Program} (w0 : World) {ops : Array Oper} {o : Oper} {a : Act} {K : Act → World → Prop} {Q : Exit → Act → World → Prop} {E : Prop} (hgd : o.guard = none) (s x : Operand) (t e : TypeId)
    (ho : o.op = .call { callee := .builtin .append, args := #[s, x], argTypes := #[t, t] }) (z : Value) (bytes : Nat)
    (ht : P.underlying t = some (.slice e)) (hi : (P.info? e).map (fun i => (i.zero, i.size, i.bytes)) = some (some z, 1, bytes)) (hzs : z.cells.size = 1) (hbb : bytes ≤ 64)
    (base n c : Nat) (A : Option Addr) (xs : List Value) (hs : a.eval s = .slice A n c) (hown : w0.ownsRow base e 1 (.slice A n c) n xs) (u : Value) (h1 : u.oneCell' = true) (hx : a.eval x = .slice (some ⟨w0.heap.size, 0, none⟩) 1 1)
    (hn : n ≤ 1099511627776) (hbase : base ≤ w0.heap.size)
    (hK : ∀ A' c' w', w'.ownsRow base e 1 (.slice A' (n + 1) c') (n + 1) (xs ++ [u]) → w0.grownBy w' (Value.slice A n c).ownBlock → Below base w0 w' → K (a.put o.dst (.slice A' (n + 1) c')) w') :
    if Region.wanted o (yielded ops a.tmps) = true then Oper.wp P o a (w0.alloc (.cells #[u] e)) K Q else E := by
  have hw : Region.wanted o (yielded ops a.tmps) = true := by simp [Region.wanted, hgd]
  rw [if_pos hw]
  exact wp_app1 w0 s x t e ho z bytes ht hi hzs hbb base n c A xs hs hown u h1 hx hn hbase hK
theorem appAny {P : Program} {α : Type} {R : World → Value → α → Prop} (w : World) {ops : Array Oper} {rest : List Oper} {o : Oper} {a : Act} {Q : Exit → Act → World → Prop} (hgd : o.guard = none) (s x : Operand) (t e : TypeId)
    (ho : o.op = .call { callee := .builtin .append, args := #[s, x], argTypes := #[t, t] }) (z : Value) (bytes : Nat)
    (ht : P.underlying t = some (.slice e)) (hi : (P.info? e).map (fun i => (i.zero, i.size, i.bytes)) = some (some z, 1, bytes)) (hzs : z.cells.size = 1) (hbb : bytes ≤ 64)
    (base n c : Nat) (A : Option Addr) (vs : List Value) (hs : a.eval s = .slice A n c) (hown : w.ownsRow base e 1 (.slice A n c) n vs)
    (B : Option Addr) (m d : Nat) (xs : List α) (f : α → Value) (h1 : ∀ x, (f x).oneCell' = true) (hx : a.eval x = .slice B m d) (hr : RdL R w B m xs) (hf : ∀ w v x, R w v x → v = f x)
    (hn : n + m ≤ 1099511627776) (hbase : base ≤ w.heap.size)
    (hK : ∀ A' c' w', w'.ownsRow base e 1 (.slice A' (n + m) c') (n + m) (vs ++ xs.map f) → w.grownBy w' (Value.slice A n c).ownBlock → Below base w w' → wpList P ops Q rest (a.put o.dst (.slice A' (n + m) c')) w') :
    wpList P ops Q (o :: rest) a w :=
  wpList_plain hgd fun _ hK' => wp_appAny w s x t e ho z bytes ht hi hzs hbb base n c A vs hs hown B m d xs f h1 hx hr hf hn hbase fun A' c' w' h2 h3 h4 => hK' _ _ (hK A' c' w' h2 h3 h4)
end Go.Proofs.YtfnmkbpogbekpaaGreatDoor
namespace Go.Proofs.YtfnmkbpogbekpaaGreatDoor
open Go.RowKit

theorem info_int : (Tryz.prog.info? 3).map (fun i => (i.zero, i.size, i.bytes)) = some (some (.int .i64 0), 1, 8) := by kernel_rfl
def szInts (xs : List Int) (left : Int) : Int := if left - xs.length < 0 then -1 else left - xs.length
/-- Two lists of numbers are the same, as the program compares them. -/
def eqL : List Int → List Int → Bool
  | [], [] => true
  | x :: l, y :: m => x == y && eqL l m
  | _, _ => false
theorem eqL_iff : ∀ {l m : List Int}, eqL l m = true ↔ l = m
  | [], [] => by simp [eqL]
  | [], _ :: _ => by simp [eqL]
  | _ :: _, [] => by simp [eqL]
  | x :: l, y :: m => by simp [eqL, eqL_iff (l := l) (m := m)]
theorem eqL_len {l m : List Int} (h : l.length ≠ m.length) : false = eqL l m := by
  rcases e : eqL l m with _ | _
  · rfl
  · exact absurd (congrArg List.length (eqL_iff.1 e)) h
def EqAt (xs ys : List Int) (k : Nat) : Prop := eqL (xs.drop k) (ys.drop k) = eqL xs ys
theorem EqAt.step {xs ys : List Int} {k : Nat} {x y : Int} (h : EqAt xs ys k) (h1 : xs.drop k = x :: xs.drop (k + 1)) (h2 : ys.drop k = y :: ys.drop (k + 1)) (he : (x == y) = true) : EqAt xs ys (k + 1) := by
  unfold EqAt at *; rw [← h, h1, h2, eqL, he]; rfl
theorem EqAt.stop {xs ys : List Int} {k : Nat} {x y : Int} (h : EqAt xs ys k) (h1 : xs.drop k = x :: xs.drop (k + 1)) (h2 : ys.drop k = y :: ys.drop (k + 1)) (he : (x == y) = false) : false = eqL xs ys := by
  unfold EqAt at *; rw [← h, h1, h2, eqL, he]; rfl
theorem EqAt.done {xs ys : List Int} {k : Nat} (h : EqAt xs ys k) (h1 : xs.drop k = []) (h2 : ys.drop k = []) : true = eqL xs ys := by
  unfold EqAt at *; rw [← h, h1, h2]; rfl

set_option maxHeartbeats 400000 in
theorem eqIntS_any (A B : Option Addr) (n m c d : Nat) (xs ys : List Int) (w : World) (h : RdL RI w A n xs) (h' : RdL RI w B m ys) :
    Calls Tryz.prog 49 #[.slice A n c, .slice B m d] w (Qt w (.bool (eqL xs ys))) := by
  have hle := h.le
  have hle' := h'.le
  by_cases hnm : n = m
  · subst hnm
    go_enter Tryz.func49, Tryz.ntmps49
    go_wp2
    go_loopw [5] (fun i wr => ∃ k : Nat, k ≤ n ∧ i = .int .i64 k ∧ EqAt xs ys k ∧ Drawn w wr) (fun i _ => n - (intOf i).toNat)
    case atStart => exact ⟨0, Nat.zero_le _, rfl, rfl, Drawn.zero _⟩
    case round =>
      obtain ⟨k, hk, rfl, H, z, rfl⟩ := hrel
      by_cases hlt : k < n
      · obtain ⟨b, o, v, x, rfl, hc, ⟨rfl, -⟩, hd, -⟩ := h.at hlt
        obtain ⟨b', o', v', y, rfl, hc', ⟨rfl, -⟩, hd', -⟩ := h'.at hlt
        have H1 := Lib.hid hd
        have H2 := Lib.hid hd'
        clear hd hd'
        go_wp2
        go_quiet (fail)
        go_wp2
        · go_ret
          exact ⟨ret_bool (H.stop H1.out H2.out (by simpa using ‹(x != y) = true›)), (by first | exact Drawn.zero _ | exact Drawn.at_ _ _ | exact (Drawn.at_ _ _).more _ | exact ((Drawn.at_ _ _).more _).more _)⟩
        all_goals first
          | (go_roundw
             case rel => exact ⟨k + 1, by omega, by go_num, H.step H1.out H2.out (by simpa using ‹(x != y) = false›), (by first | exact Drawn.zero _ | exact Drawn.at_ _ _ | exact (Drawn.at_ _ _).more _ | exact ((Drawn.at_ _ _).more _).more _)⟩
             case measure => simp [intOf]; omega)
      · go_wp2
        go_ret
        exact ⟨ret_bool (H.done (h.drop_end hlt) (h'.drop_end hlt)), (by first | exact Drawn.zero _ | exact Drawn.at_ _ _ | exact (Drawn.at_ _ _).more _ | exact ((Drawn.at_ _ _).more _).more _)⟩
  · have hne : ((n : Int) != (m : Int)) = true := by rw [bne_iff_ne]; omega
    go_enter Tryz.func49, Tryz.ntmps49
    go_wp2
    go_ret
    exact ⟨ret_bool (eqL_len (by rw [h.len, h'.len]; omega)), (by first | exact Drawn.zero _ | exact Drawn.at_ _ _ | exact (Drawn.at_ _ _).more _ | exact ((Drawn.at_ _ _).more _).more _)⟩

theorem make_ints (w : World) {ops : Array Oper} {rest : List Oper} {o : Oper} {a : Act} {Q : Exit → Act → World → Prop} (hg : o.guard = none) (l c : Operand) (hop : o.op = Op.makeSlice 43 l c)
    (n : Nat) (hl : a.eval l = .int .i64 n) (hc : a.eval c = .int .i64 n) (b : n ≤ 17592186044416)
    (hK : ∀ w', w'.ownsRow w.heap.size 3 1 (.slice (some ⟨w.heap.size, 0, none⟩) n n) n (List.replicate n (.int .i64 0)) → w.grownBy w' none → wpList Tryz.prog ops Q rest (a.put o.dst (.slice (some ⟨w.heap.size, 0, none⟩) n n)) w') :
    wpList Tryz.prog ops Q (o :: rest) a w := by
  obtain ⟨i0, hi, hz0, hz1, hz2⟩ := info_parts info_int
  refine wpList_make_full w hg l c 43 hop w.heap.size 3 i0 (.int .i64 0) 1 Tryz.underlying43 hi hz0 hz1 .i64 .i64 n n n hl hc rfl rfl (by rw [hz2]; omega) (by unfold maxLen; omega) (Nat.le_refl _) ?_
  intro w' h1 h2
  refine hK w' ?_ h2
  have e : (madeCells (Value.int .i64 0).cells (n * 1)).toList = List.replicate n (.int .i64 0) := by rw [Nat.mul_one]; exact toList_madeCells_one (.int .i64 0) n
  rw [← e]
  exact h1

def ints (xs : List Int) : List Value := xs.map (.int .i64)
theorem RdL.bounds {w : World} {A : Option Addr} {n : Nat} {xs : List Int} (h : RdL RI w A n xs) : ∀ x ∈ xs, -9223372036854775808 ≤ x ∧ x ≤ 9223372036854775807 := by
  intro x hx
  obtain ⟨k, hk⟩ := List.getElem?_of_mem hx
  obtain ⟨b, o, v, -, -, hr⟩ := h.2.2 k x hk
  exact hr.2

theorem RI_ints {xs : List Int} {w : World} (h : ∀ x ∈ xs, -9223372036854775808 ≤ x ∧ x ≤ 9223372036854775807) : ∀ x ∈ xs, RI w (.int .i64 x) x := fun x hx => ⟨rfl, h x hx⟩

/-! ## [][]int -/
/-- What szIntSS answers: left less the outer length and the inner ones, or -1 as soon as it is below 0. -/
def szRows : List (List Int) → Int → Int
  | [], left => left
  | xs :: l, left => if szInts xs left < 0 then -1 else szRows l (szInts xs left)
def SzAt (xss : List (List Int)) (l0 left : Int) (k : Nat) : Prop := szRows (xss.drop k) left = szRows xss l0
theorem SzAt.step {xss : List (List Int)} {l0 left : Int} {k : Nat} {xs : List Int} (h : SzAt xss l0 left k) (h1 : xss.drop k = xs :: xss.drop (k + 1)) (h2 : ¬ szInts xs left < 0) : SzAt xss l0 (szInts xs left) (k + 1) := by
  unfold SzAt at *; rw [← h, h1, szRows, if_neg h2]
theorem SzAt.stop {xss : List (List Int)} {l0 left : Int} {k : Nat} {xs : List Int} (h : SzAt xss l0 left k) (h1 : xss.drop k = xs :: xss.drop (k + 1)) (h2 : szInts xs left < 0) : -1 = szRows xss l0 := by
  unfold SzAt at *; rw [← h, h1, szRows, if_pos h2]
theorem SzAt.done {xss : List (List Int)} {l0 left : Int} {k : Nat} (h : SzAt xss l0 left k) (h1 : xss.drop k = []) : left = szRows xss l0 := by
  unfold SzAt at *; rw [← h, h1]; rfl


def eqLL : List (List Int) → List (List Int) → Bool
  | [], [] => true
  | x :: l, y :: m => eqL x y && eqLL l m
  | _, _ => false
def EqqAt (xs ys : List (List Int)) (k : Nat) : Prop := eqLL (xs.drop k) (ys.drop k) = eqLL xs ys
theorem EqqAt.step {xs ys : List (List Int)} {k : Nat} {x y : List Int} (h : EqqAt xs ys k) (h1 : xs.drop k = x :: xs.drop (k + 1)) (h2 : ys.drop k = y :: ys.drop (k + 1)) (he : eqL x y = true) : EqqAt xs ys (k + 1) := by
  unfold EqqAt at *; rw [← h, h1, h2, eqLL, he]; rfl
theorem EqqAt.stop {xs ys : List (List Int)} {k : Nat} {x y : List Int} (h : EqqAt xs ys k) (h1 : xs.drop k = x :: xs.drop (k + 1)) (h2 : ys.drop k = y :: ys.drop (k + 1)) (he : eqL x y = false) : false = eqLL xs ys := by
  unfold EqqAt at *; rw [← h, h1, h2, eqLL, he]; rfl
theorem EqqAt.done {xs ys : List (List Int)} {k : Nat} (h : EqqAt xs ys k) (h1 : xs.drop k = []) (h2 : ys.drop k = []) : true = eqLL xs ys := by
  unfold EqqAt at *; rw [← h, h1, h2]; rfl


end Go.Proofs.YtfnmkbpogbekpaaGreatDoor
namespace Go.Proofs.YtfnmkbpogbekpaaGreatDoor
open Go.RowKit

def inB (x a b : Int) : Bool := decide (a ≤ x) && decide (x ≤ b)
set_option maxHeartbeats 400000 in
theorem l1In_any (x a b : Int) (w : World) :
    Calls Tryz.prog 68 #[.int .i64 x, .int .i64 a, .int .i64 b] w fun e w' => e = .returned (.bool (inB x a b)) ∧ w = w' := by
  unfold inB
  by_cases h : a ≤ x
  all_goals
    go_enter Tryz.func68, Tryz.ntmps68
    go_wp2
    go_ret
    exact ⟨ret_bool (by simp; omega), rfl⟩

/-- Does x stand in the list? -/
def hasI (x : Int) : List Int → Bool
  | [] => false
  | y :: l => y == x || hasI x l
set_option maxHeartbeats 400000 in
theorem sameList_any (A B : Option Addr) (n m c d : Nat) (xs ys : List Int) (w : World) (h : RdL RI w A n xs) (h' : RdL RI w B m ys) :
    Calls Tryz.prog 184 #[.slice A n c, .slice B m d] w fun e w' => e = .returned (.bool (eqL xs ys)) ∧ w = w' := by
  have hle := h.le
  have hle' := h'.le
  by_cases hnm : n = m
  · subst hnm
    go_enter Tryz.func184, Tryz.ntmps184
    go_wp2
    go_loop [14] (fun i => ∃ k : Nat, k ≤ n ∧ i = .int .i64 k ∧ At2 eqL xs ys k) (fun i => n - (intOf i).toNat)
    case atStart => exact ⟨0, Nat.zero_le _, rfl, rfl⟩
    case round =>
      obtain ⟨k, hk, rfl, H⟩ := hrel
      by_cases hlt : k < n
      · obtain ⟨b, o, v, x, rfl, hc, ⟨rfl, -⟩, hd, -⟩ := h.at hlt
        obtain ⟨b', o', v', y, rfl, hc', ⟨rfl, -⟩, hd', -⟩ := h'.at hlt
        have H1 := Lib.hid hd
        have H2 := Lib.hid hd'
        clear hd hd'
        go_wp2
        all_goals first
          | (go_ret
             exact ⟨ret_bool (H.stop H1.out H2.out (by rw [eqL, show (x == y) = false from (by first | assumption | exact bf1 (by assumption) | exact bf2 (by assumption) | exact nef (by assumption) | exact nefc (by assumption) | exact eqc (by assumption))]; rfl)), rfl⟩)
          | (go_round
             case rel => exact ⟨k + 1, by omega, by go_num, H.step H1.out H2.out (by rw [eqL, show (x == y) = true from (by first | assumption | exact bt2 (by assumption) | exact net (by assumption) | exact netc (by assumption) | exact eqc (by assumption))]; rfl)⟩
             case measure => simp [intOf]; omega)
      · go_wp2
        go_ret
        exact ⟨ret_bool (H.done (h.drop_end hlt) (h'.drop_end hlt) rfl), rfl⟩
  · have hne : ((n : Int) != (m : Int)) = true := by rw [bne_iff_ne]; omega
    go_enter Tryz.func184, Tryz.ntmps184
    go_wp2
    go_ret
    exact ⟨ret_bool (eqL_len (by rw [h.len, h'.len]; omega)), rfl⟩

/-- The first place at which a list stands among lists, or -1. -/
def placeFrom (p : List Int) : List (List Int) → Int → Int
  | [], _ => -1
  | q :: l, k => if eqL p q then k else placeFrom p l (k + 1)
def place (xss : List (List Int)) (p : List Int) : Int := placeFrom p xss 0
def PlAt (xss : List (List Int)) (p : List Int) (k : Nat) : Prop := placeFrom p (xss.drop k) k = place xss p
theorem PlAt.step {xss : List (List Int)} {p q : List Int} {k : Nat} (h : PlAt xss p k) (hd : xss.drop k = q :: xss.drop (k + 1)) (he : eqL p q = false) : PlAt xss p (k + 1) := by
  unfold PlAt at *; rw [← h, hd, placeFrom, he]; rfl
theorem PlAt.stop {xss : List (List Int)} {p q : List Int} {k : Nat} (h : PlAt xss p k) (hd : xss.drop k = q :: xss.drop (k + 1)) (he : eqL p q = true) : (k : Int) = place xss p := by
  unfold PlAt at *; rw [← h, hd, placeFrom, he]; rfl
theorem PlAt.done {xss : List (List Int)} {p : List Int} {k : Nat} (h : PlAt xss p k) (hd : xss.drop k = []) : -1 = place xss p := by
  unfold PlAt at *; rw [← h, hd]; rfl

/-- Do all numbers lie from a to b? -/
def allIn (a b : Int) : List Int → Bool
  | [] => true
  | x :: l => inB x a b && allIn a b l
set_option maxHeartbeats 400000 in
theorem inSize_any (A : Option Addr) (n c : Nat) (xs : List Int) (m : Int) (w : World) (h : RdL RI w A n xs) :
    Calls Tryz.prog 130 #[.slice A n c, .int .i64 m] w fun e w' => e = .returned (.bool (allIn 0 (m - 1) xs)) ∧ w = w' := by
  have hle := h.le
  go_enter Tryz.func130, Tryz.ntmps130
  go_wp2
  go_loop [9] (fun i => ∃ k : Nat, k ≤ n ∧ i = .int .i64 k ∧ At (allIn 0 (m - 1)) xs k) (fun i => n - (intOf i).toNat)
  case atStart => exact ⟨0, Nat.zero_le _, rfl, rfl⟩
  case round =>
    obtain ⟨k, hk, rfl, H⟩ := hrel
    by_cases hlt : k < n
    · obtain ⟨b, o, v, x, rfl, hc, ⟨rfl, -⟩, hd, -⟩ := h.at hlt
      have H1 := Lib.hid hd
      clear hd
      go_wp2
      all_goals first
        | (go_ret
           exact ⟨ret_bool (H.stop H1.out (by rw [allIn, show inB x 0 (m - 1) = false by unfold inB; simp; omega]; rfl)), rfl⟩)
        | (go_round
           case rel => exact ⟨k + 1, by omega, by go_num, H.step H1.out (by rw [allIn, show inB x 0 (m - 1) = true by unfold inB; simp; omega]; rfl)⟩
           case measure => simp [intOf]; omega)
    · go_wp2
      go_ret
      exact ⟨ret_bool (H.done (h.drop_end hlt) rfl), rfl⟩
end Go.Proofs.YtfnmkbpogbekpaaGreatDoor
namespace Go.Proofs.YtfnmkbpogbekpaaGreatDoor
open Go.RowKit

/-- Are the numbers strictly rising? -/
def risesL : List Int → Bool
  | x :: y :: l => decide (x < y) && risesL (y :: l)
  | _ => true
def RisAt (xs : List Int) (k : Nat) : Prop := risesL (xs.drop k) = risesL xs
theorem drop_two {xs : List Int} {k : Nat} {x y : Int} (h1 : xs[k]? = some x) (h2 : xs[k + 1]? = some y) : xs.drop k = x :: y :: xs.drop (k + 2) := by
  obtain ⟨l1, e1⟩ := List.getElem?_eq_some_iff.1 h1
  obtain ⟨l2, e2⟩ := List.getElem?_eq_some_iff.1 h2
  rw [List.drop_eq_getElem_cons l1, List.drop_eq_getElem_cons l2, e1, e2]
theorem RisAt.step {xs : List Int} {k : Nat} {x y : Int} (h : RisAt xs k) (h1 : xs[k]? = some x) (h2 : xs[k + 1]? = some y) (hlt : x < y) : RisAt xs (k + 1) := by
  obtain ⟨l2, e2⟩ := List.getElem?_eq_some_iff.1 h2
  unfold RisAt at *; rw [← h, drop_two h1 h2, risesL, List.drop_eq_getElem_cons l2, e2]; simp [hlt]
theorem RisAt.stop {xs : List Int} {k : Nat} {x y : Int} (h : RisAt xs k) (h1 : xs[k]? = some x) (h2 : xs[k + 1]? = some y) (hlt : ¬ x < y) : false = risesL xs := by
  unfold RisAt at *; rw [← h, drop_two h1 h2, risesL]; simp; omega
theorem RisAt.done {xs : List Int} {k : Nat} (h : RisAt xs k) (hl : xs.length ≤ k + 1) : true = risesL xs := by
  unfold RisAt at *; rw [← h]
  match hd : xs.drop k with
  | [] => rfl
  | [x] => rfl
  | x :: y :: l =>
    have := congrArg List.length hd
    simp at this
    omega

set_option maxHeartbeats 400000 in
theorem rises_any (A : Option Addr) (n c : Nat) (xs : List Int) (w : World) (h : RdL RI w A n xs) :
    Calls Tryz.prog 131 #[.slice A n c] w (Qt w (.bool (risesL xs))) := by
  have hle := h.le
  have hlen := Lib.hid h.len
  by_cases h1 : 1 < n
  · obtain ⟨b0, o0, v0, x0, rfl, -, -, -, -⟩ := h.at (k := 0) (by omega)
    go_enter Tryz.func131, Tryz.ntmps131
    go_wp2
    go_loopw [3] (fun i wr => ∃ k : Nat, k + 1 ≤ n ∧ i = .int .i64 (k + 1) ∧ RisAt xs k ∧ Drawn w wr) (fun i _ => n - (intOf i).toNat)
    case atStart => exact ⟨0, by omega, rfl, rfl, Drawn.zero _⟩
    case round =>
      obtain ⟨k, hk, rfl, H, z, rfl⟩ := hrel
      by_cases hlt : k + 1 < n
      · obtain ⟨v, x, hc, ⟨rfl, -⟩, -, hx⟩ := h.at' (k := k) (by omega)
        obtain ⟨v', y, hc', ⟨rfl, -⟩, -, hy⟩ := h.at' hlt
        have H1 := Lib.hid hx
        have H2 := Lib.hid hy
        clear hx hy
        have e1 : ((k : Int) + 1 - 1) = k := by omega
        have HE := Lib.hid e1
        clear e1
        have hb1 : (0 : Int) ≤ (k : Int) + 1 - 1 := by omega
        have hb2 : (k : Int) + 1 - 1 < (n : Int) := by omega
        go_wp2
        go_quiet (fail)
        go_wp2
        all_goals first
          | (go_ret
             exact ⟨ret_bool (H.stop H1.out H2.out (by omega)), (by first | exact Drawn.zero _ | exact Drawn.at_ _ _ | exact (Drawn.at_ _ _).more _ | exact ((Drawn.at_ _ _).more _).more _)⟩)
          | (go_roundw
             case rel => exact ⟨k + 1, by omega, by go_num, H.step H1.out H2.out (by omega), (by first | exact Drawn.zero _ | exact Drawn.at_ _ _ | exact (Drawn.at_ _ _).more _ | exact ((Drawn.at_ _ _).more _).more _)⟩
             case measure => simp [intOf]; omega)
      · go_wp2
        go_ret
        exact ⟨ret_bool (H.done (by rw [hlen.out]; omega)), (by first | exact Drawn.zero _ | exact Drawn.at_ _ _ | exact (Drawn.at_ _ _).more _ | exact ((Drawn.at_ _ _).more _).more _)⟩
  · go_enter Tryz.func131, Tryz.ntmps131
    go_wp2
    go_loop [3] (fun i => i = .int .i64 1) (fun _ => 0)
    case atStart => rfl
    case round =>
      subst hrel
      go_wp2
      go_ret
      exact ⟨ret_bool (RisAt.done (k := 0) rfl (by rw [hlen.out]; omega)), (by first | exact Drawn.zero _ | exact Drawn.at_ _ _ | exact (Drawn.at_ _ _).more _ | exact ((Drawn.at_ _ _).more _).more _)⟩

def RInAt (lo hi : Int) (xs : List Int) (k : Nat) : Prop := (allIn lo hi (xs.drop k) && risesL (xs.drop (k - 1))) = (allIn lo hi xs && risesL xs)
theorem RInAt.start (lo hi : Int) (xs : List Int) : RInAt lo hi xs 0 := rfl
theorem RInAt.step {lo hi : Int} {xs : List Int} {j : Nat} {p x : Int} (h : RInAt lo hi xs (j + 1)) (hd : xs.drop (j + 1) = x :: xs.drop (j + 1 + 1)) (h1 : xs[j]? = some p) (h2 : xs[j + 1]? = some x) (hi' : inB x lo hi = true) (hlt : p < x) : RInAt lo hi xs (j + 1 + 1) := by
  have hr : RisAt xs j → RisAt xs (j + 1) := fun hh => hh.step h1 h2 hlt
  have hr' : risesL (xs.drop j) = risesL (xs.drop (j + 1)) := by
    obtain ⟨l2, e2⟩ := List.getElem?_eq_some_iff.1 h2
    rw [drop_two h1 h2, risesL, List.drop_eq_getElem_cons l2, e2]; simp [hlt]
  unfold RInAt at *
  rw [← h, hd, allIn, hi', Bool.true_and, Nat.add_sub_cancel, Nat.add_sub_cancel, hr']
theorem RInAt.stop1 {lo hi : Int} {xs : List Int} {k : Nat} {x : Int} (h : RInAt lo hi xs k) (hd : xs.drop k = x :: xs.drop (k + 1)) (hi' : inB x lo hi = false) : false = (allIn lo hi xs && risesL xs) := by
  unfold RInAt at *; rw [← h, hd, allIn, hi']; rfl
theorem RInAt.stop2 {lo hi : Int} {xs : List Int} {j : Nat} {p x : Int} (h : RInAt lo hi xs (j + 1)) (h1 : xs[j]? = some p) (h2 : xs[j + 1]? = some x) (hlt : ¬ p < x) : false = (allIn lo hi xs && risesL xs) := by
  unfold RInAt at *
  rw [← h, Nat.add_sub_cancel, drop_two h1 h2, risesL, decide_eq_false hlt]
  simp
theorem RInAt.done {lo hi : Int} {xs : List Int} {k : Nat} (h : RInAt lo hi xs k) (hl : xs.length ≤ k) : true = (allIn lo hi xs && risesL xs) := by
  unfold RInAt at *
  rw [← h, List.drop_eq_nil_of_le hl]
  have : true = risesL (xs.drop (k - 1)) := by
    match hd : xs.drop (k - 1) with
    | [] => rfl
    | [x] => rfl
    | x :: y :: l =>
      have := congrArg List.length hd
      simp at this
      omega
  rw [← this]
  rfl

/-- compareLists: lexicographic, a beginning before the longer list. -/
def lexL : List Int → List Int → Int
  | [], [] => 0
  | [], _ :: _ => -1
  | _ :: _, [] => 1
  | x :: l, y :: m => if x == y then lexL l m else if x < y then -1 else 1
/-- compareTerms: shorter lists first. -/
def cmpT (xs ys : List Int) : Int := if xs.length < ys.length then -1 else if ys.length < xs.length then 1 else lexL xs ys
/-- l5Less, at lists of one length. -/
def lessL : List Int → List Int → Bool
  | x :: l, y :: m => if x == y then lessL l m else decide (x < y)
  | _, _ => false
end Go.Proofs.YtfnmkbpogbekpaaGreatDoor
namespace Go.Proofs.YtfnmkbpogbekpaaGreatDoor
open Go.RowKit

/-- The members of a list that stand in another. -/
def meetL (ys : List Int) : List Int → List Int
  | [] => []
  | x :: l => if hasI x ys then x :: meetL ys l else meetL ys l
/-- 0, 1, .. n - 1 -/
def upTo (n : Nat) : List Int := (List.range n).map fun (k : Nat) => (k : Int)
theorem upTo_len (k : Nat) : (upTo k).length = k := by simp [upTo]
theorem upTo_get {n k : Nat} (h : k < n) : (upTo n)[k]? = some (k : Int) := by simp [upTo, h]

set_option maxHeartbeats 400000 in
theorem clone_any (A : Option Addr) (n c : Nat) (xs : List Int) (w : World) (h : RdL RI w A n xs) (hn : n ≤ 1048576) :
    Calls Tryz.prog 137 #[.slice A n c] w fun e w' => ∃ A' c', e = .returned (.slice A' n c') ∧ w'.ownsRow w.heap.size 3 1 (.slice A' n c') n (ints xs) ∧ Below w.heap.size w w' := by
  have hT := below_box w (.cells #[] 3)
  have hown : (w.alloc (.cells #[] 3)).ownsRow w.heap.size 3 1 (.slice (some ⟨w.heap.size, 0, none⟩) 0 0) 0 [] := World.ownsRow_lit _ _ _ (Nat.le_refl _) (Nat.zero_le _) rfl
  have h1 := h.next stab_RI hT
  go_enter Tryz.func137, Tryz.ntmps137
  go_wp2_with (at_builtin; refine appAny _ rfl _ _ 43 3 rfl (.int .i64 0) 8 Tryz.underlying43 info_int rfl (by decide) w.heap.size 0 0 (some ⟨w.heap.size, 0, none⟩) [] rfl hown A n c xs (.int .i64) (fun _ => rfl) rfl h1 (fun _ _ _ hr => hr.1) (by omega) hT.size ?_; intro A2 c2 w2 hown2 hg2 hb2)
  go_ret
  refine ⟨A2, c2, by simp, ?_, hT.trans hb2⟩
  simpa [ints] using hown2
end Go.Proofs.YtfnmkbpogbekpaaGreatDoor
namespace Go.Proofs.YtfnmkbpogbekpaaGreatDoor
open Go.RowKit

abbrev Bs := List UInt8
def mk (l : Bs) : ByteArray := ⟨l.toArray⟩
theorem bs_of (l : Bs) : bs (mk l) = l := rfl
theorem mk_of (s : ByteArray) : mk (bs s) = s := bs_inj rfl
theorem mk_eq {s : ByteArray} {l : Bs} (h : bs s = l) : s = mk l := bs_inj h
theorem bs_app (a b : ByteArray) : bs (a ++ b) = bs a ++ bs b := by
  unfold bs
  rw [ByteArray.data_append, Array.toList_append]
theorem bs_ext (s : ByteArray) (i j : Nat) : bs (s.extract i j) = ((bs s).drop i).take (j - i) := Lib.extract_data s i j
theorem size_bs (s : ByteArray) : s.size = (bs s).length := rfl
theorem size_mk (l : Bs) : (mk l).size = l.length := rfl
/-- A concatenation, as the walk meets it. -/
theorem cat (a b : ByteArray) (h : a.size + b.size ≤ 1099511627776) : ∀ w, (Op.stringOp .add a b).run Tryz.prog w = .ok (.string (a ++ b)) w := fun w => run_string_add_sum w a b (by omega)
theorem size_app (a b : ByteArray) : (a ++ b).size = a.size + b.size := by rw [size_bs, bs_app, List.length_append]; rfl
theorem ndig_le {u : Nat} (h : u < 1000000) : Lib.nDigits u ≤ 6 := by
  rcases Nat.lt_or_ge u 10 with h1 | h1
  · rw [Lib.nDigits_small h1]; omega
  rw [Lib.nDigits_big (by omega)]
  rcases Nat.lt_or_ge (u / 10) 10 with h2 | h2
  · rw [Lib.nDigits_small h2]; omega
  rw [Lib.nDigits_big (by omega)]
  rcases Nat.lt_or_ge (u / 10 / 10) 10 with h3 | h3
  · rw [Lib.nDigits_small h3]; omega
  rw [Lib.nDigits_big (by omega)]
  rcases Nat.lt_or_ge (u / 10 / 10 / 10) 10 with h4 | h4
  · rw [Lib.nDigits_small h4]; omega
  rw [Lib.nDigits_big (by omega)]
  rcases Nat.lt_or_ge (u / 10 / 10 / 10 / 10) 10 with h5 | h5
  · rw [Lib.nDigits_small h5]; omega
  rw [Lib.nDigits_big (by omega), Lib.nDigits_small (by omega)]
  omega
theorem dec_len {u : Nat} (h : u < 1000000) : (Lib.decDigits u).length ≤ 6 := by rw [Lib.decDigits_length]; exact ndig_le h
/-- The library's table of powers of ten reads as its initialiser lays it. -/
def Tab (w : World) : Prop := Lib.TabIs Tryz.prog w "internal/strconv.uint64pow10" .u64 Lib.pow10Tab
theorem Tab.next {w w' : World} (h : Tab w) (hb : Below w.heap.size w w') : Tab w' := (Lib.tabBelow_of_tabIs h) w' hb
theorem Tab.drewN {w : World} (h : Tab w) (n : Nat) : Tab (w.drewN n) := h.next (below_drewN (Below.refl _ _) _)
theorem below_grow (w : World) (os : Array Obj) (k : Nat) : Below w.heap.size w (Sort.grow (w.drewN k) os) := by
  refine ⟨rfl, rfl, rfl, ?_, fun i hi => ?_⟩
  · show w.heap.size ≤ (w.heap ++ os).size
    rw [Array.size_append]; omega
  · show (w.heap ++ os)[i]? = w.heap[i]?
    rw [Array.getElem?_append_left hi]

/-! ## the reference's numeral -/
theorem digit_piece {i : Nat} (h : i < 10) : ((([48, 49, 50, 51, 52, 53, 54, 55, 56, 57] : Bs).drop i).take (i + 1 - i)) = [UInt8.ofNat (48 + i)] := by
  have : ∀ i : Fin 10, ((([48, 49, 50, 51, 52, 53, 54, 55, 56, 57] : Bs).drop i.val).take (i.val + 1 - i.val)) = [UInt8.ofNat (48 + i.val)] := by decide
  exact this ⟨i, h⟩
theorem num_small {n : Nat} (h : n < 10) : (⟨#[48, 49, 50, 51, 52, 53, 54, 55, 56, 57]⟩ : ByteArray).extract n (n + 1) = mk (Lib.decDigits n) := by
  apply mk_eq
  rw [bs_ext, Lib.decDigits_one h]
  exact digit_piece h
theorem num_big {n : Nat} (h : ¬ n < 10) : mk (Lib.decDigits (n / 10)) ++ (⟨#[48, 49, 50, 51, 52, 53, 54, 55, 56, 57]⟩ : ByteArray).extract (n % 10) (n % 10 + 1) = mk (Lib.decDigits n) := by
  apply mk_eq
  rw [bs_app, bs_ext, bs_of, Lib.decDigits.eq_def n, dif_neg h]
  congr 1
  exact digit_piece (Nat.mod_lt _ (by decide))

set_option maxHeartbeats 1000000 in
theorem l1Num_any (n : Nat) : ∀ (_hn : n < 1000000) (w : World), Calls Tryz.prog 156 #[.int .i64 n] w (Qt w (.string (mk (Lib.decDigits n)))) := by
  induction n using Nat.strongRecOn with
  | _ n ih =>
    intro hn w
    by_cases h10 : n < 10
    · have HD := Lib.hid (num_small h10)
      have hi0 : (0 : Int) ≤ (n : Int) := by omega
      have hi1 : (n : Int) < 10 := by omega
      clear ih
      go_enter Tryz.func156, Tryz.ntmps156
      go_wp2
      go_ret
      exact ⟨ret_str HD.out, 0, rfl⟩
    · have HD := Lib.hid (num_big h10)
      have hr := ih (n / 10) (by omega) (by omega)
      have hi0 : (10 : Int) ≤ (n : Int) := by omega
      have f1 : IntKind.i64.wrap ((n : Int) / 10) = (n : Int) / 10 := IntWalk.i64_in _ (by omega)
      have f2 : (n : Int).tmod 10 = (n : Int) % 10 := rfl
      have f3 : IntKind.i64.wrap ((n : Int) % 10 + 1) = (n : Int) % 10 + 1 := IntWalk.i64_in _ (by omega)
      have b0 : (0 : Int) ≤ (n : Int) % 10 := by omega
      have b1 : (n : Int) % 10 + 1 ≤ 10 := by omega
      have b2 : (n : Int) % 10 ≤ 9 := by omega
      have b3 : (n : Int) % 10 < 10 := by omega
      have b4 : (0 : Int) ≤ (n : Int) % 10 + 1 := by omega
      have b5 : (n : Int) % 10 + 1 ≤ ((⟨#[48, 49, 50, 51, 52, 53, 54, 55, 56, 57]⟩ : ByteArray).size : Int) := b1
      have hsl : ∀ w, (Instr.slice 9 (.string ⟨#[48, 49, 50, 51, 52, 53, 54, 55, 56, 57]⟩) (some (.int .i64 ((n : Int) % 10))) (some (.int .i64 ((n : Int) % 10 + 1))) none).run Tryz.prog w = .ok (.string ((⟨#[48, 49, 50, 51, 52, 53, 54, 55, 56, 57]⟩ : ByteArray).extract (n % 10) (n % 10 + 1))) w := fun w => by
        have := run_slice_string (P := Tryz.prog) (w := w) 9 ⟨#[48, 49, 50, 51, 52, 53, 54, 55, 56, 57]⟩ .i64 .i64 ((n : Int) % 10) ((n : Int) % 10 + 1) Tryz.underlying9 b0 (by omega) b1
        rw [this]
        have e1 : ((n : Int) % 10).toNat = n % 10 := by omega
        have e2 : ((n : Int) % 10 + 1).toNat = n % 10 + 1 := by omega
        rw [e1, e2]
      have hr' : ∀ w, Calls Tryz.prog 156 #[.int .i64 ((n : Int) / 10)] w (Qt w (.string (mk (Lib.decDigits (n / 10))))) := hr
      have kc := cat (mk (Lib.decDigits (n / 10))) ((⟨#[48, 49, 50, 51, 52, 53, 54, 55, 56, 57]⟩ : ByteArray).extract (n % 10) (n % 10 + 1)) (by
        have h1 := dec_len (u := n / 10) (by omega)
        rw [size_mk, size_bs, bs_ext, List.length_take]
        omega)
      clear ih h10
      go_enter Tryz.func156, Tryz.ntmps156
      go_wp2
      go_quiet ((go_at_call 156; (first | exact quiet_one (hr' _) | exact quiet_add (hr' _))))
      go_wp2
      go_ret
      exact ⟨ret_str HD.out, (by first | exact Drawn.zero _ | exact Drawn.at_ _ _ | exact (Drawn.at_ _ _).more _ | exact ((Drawn.at_ _ _).more _).more _)⟩

theorem belowB_next {b : Nat} {w w1 w2 : World} (h : Below b w w1) (k : Below w1.heap.size w1 w2) (hb : b ≤ w1.heap.size) : Below b w w2 := h.trans (k.mono hb)
theorem keepB {b : Nat} {w w' : World} {p : Addr} {v : Value} (hb : Below b w w') (hp : p.block < b) (h : w.cell? p = some v) : w'.cell? p = some v := (hb.cell hp).trans h
end Go.Proofs.YtfnmkbpogbekpaaGreatDoor
namespace Go.Proofs.YtfnmkbpogbekpaaGreatDoor
open Go.RowKit
set_option linter.unusedVariables false

/-- A builder in block b that holds l; its bytes lie above b. -/
def Bd (w : World) (b : Nat) (l : Bs) : Prop := Lib.IsBuilder 166 5 b b (Lib.byteCells l) w
/-- Nothing below b turns, nor what is neither the builder nor a row of bytes. -/
def Kb (b : Nat) (w w' : World) : Prop := Below b w w' ∧ Lib.OthersKept 5 (some b) w w'
theorem Kb.refl (b : Nat) (w : World) : Kb b w w := ⟨Below.refl _ _, Lib.OthersKept.refl _ _ _⟩
theorem Kb.trans {b : Nat} {a c d : World} (h : Kb b a c) (k : Kb b c d) : Kb b a d := ⟨h.1.trans k.1, h.2.trans k.2⟩
theorem Bd.new (w : World) : Bd (w.alloc (.cells #[.pointer none, .slice none 0 0] 166)) w.heap.size [] :=
  .inl ⟨Nat.le_refl _, .slice none 0 0, Blk.new w 166 #[.pointer none, .slice none 0 0], World.ownsRow_nil _ _ _ _, by simp [Value.ownBlock]⟩
theorem Bd.lt {w : World} {b : Nat} {l : Bs} (h : Bd w b l) : b < w.heap.size := by
  rcases h with ⟨_, v, hb, _⟩ | ⟨_, v, hb, _⟩
  · exact (Array.getElem?_eq_some_iff.1 hb).1
  · exact (Array.getElem?_eq_some_iff.1 hb).1
theorem Bd.next {w w' : World} {b : Nat} {l : Bs} (h : Bd w b l) (hb : Below w.heap.size w w') : Bd w' b l := by
  have hlt := h.lt
  rcases h with ⟨h1, v, h2, h3, h4⟩ | ⟨h1, v, h2, h3, h4⟩
  · exact .inl ⟨h1, v, (hb.block b hlt).trans h2, own_next h3 hb, h4⟩
  · exact .inr ⟨h1, v, (hb.block b hlt).trans h2, own_next h3 hb, h4⟩
theorem kb_next {w w' : World} {b : Nat} (hlt : b < w.heap.size) (hb : Below w.heap.size w w') : Kb b w w' :=
  ⟨⟨hb.os, hb.tape, hb.output, hb.size, fun i hi => hb.block i (by omega)⟩, fun k o hk _ _ => (hb.block k (Array.getElem?_eq_some_iff.1 hk).1).trans hk⟩
set_option maxRecDepth 100000 in
set_option maxHeartbeats 1000000 in
theorem copyCheck_any (b : Nat) (l : Bs) (w : World) (h : Bd w b l) :
    Calls Tryz.prog 190 #[.pointer (some ⟨b, 0, none⟩)] w fun e w' => e = .returned (.tuple #[]) ∧ Lib.BuilderAt 166 5 b b (.pointer (some ⟨b, 0, none⟩)) (Lib.byteCells l) w' ∧ Kb b w w' := by
  obtain ⟨j, hj, hjs⟩ := Option.map_eq_some_iff.1 (show (Tryz.prog.info? 166).map (·.size) = some 2 by kernel_rfl)
  have hlt := h.lt
  rcases h with h | h
  · have h0 := h.cell0
    have hsh := h.shape
    have hfz := h.frozen0
    have HU := Lib.hid (h.used (.pointer (some ⟨b, 0, none⟩)))
    have T1 : Kb b w (w.setCell ⟨b, 0, none⟩ (.pointer (some ⟨b, 0, none⟩))) := ⟨(Below.refl b w).setCell (p := ⟨b, 0, none⟩) (Nat.le_refl _) _, (Lib.OthersKept.refl _ _ w).setCell ⟨b, 0, none⟩ rfl _⟩
    clear h
    go_enter Tryz.func190, Tryz.ntmps190
    go_wp2
    rw [Lib.run_to_unsafe w ⟨b, 0, none⟩ Tryz.underlying164 Tryz.underlying202 hj (by rw [hjs]; decide) hsh (Nat.zero_lt_succ 1)]
    simp only [Result.andThen]
    rw [Oper.upon_value]
    go_wp2
    rw [run_callFunc_extern Tryz.func211 (by kernel_rfl) (by kernel_rfl) (by kernel_rfl) (e := Extern.AbiNoEscape.same) (by kernel_rfl)]
    rw [Lib.run_noEscape]
    simp only [Result.andThen]
    rw [Oper.upon_value]
    go_wp2
    rw [Lib.run_from_unsafe w ⟨b, 0, none⟩ Tryz.underlying202 Tryz.underlying164 hj hsh (by kernel_rfl)]
    simp only [Result.andThen]
    rw [Oper.upon_value]
    go_wp2
    go_end0
    exact ⟨rfl, HU.out, T1⟩
  · have h0 := h.cell0
    go_enter Tryz.func190, Tryz.ntmps190
    go_wp2
    rw [Lib.run_neq_ptr_same w _ Tryz.underlying164 hj]
    go_wp2
    go_end0
    exact ⟨rfl, h, Kb.refl _ _⟩
set_option maxRecDepth 100000 in
set_option maxHeartbeats 2000000 in
theorem writeString_any (b : Nat) (l : Bs) (s : ByteArray) (w : World) (h : Bd w b l) (hl : l.length + s.size ≤ 1000000000) :
    Calls Tryz.prog 142 #[.pointer (some ⟨b, 0, none⟩), .string s] w fun e w' => e = .returned (.tuple #[.int .i64 s.size, .nilIface]) ∧ Bd w' b (l ++ bs s) ∧ Kb b w w' := by
  obtain ⟨i0, hi, hz0, hz1, hz2⟩ := info_parts (show (Tryz.prog.info? 5).map (fun i => (i.zero, i.size, i.bytes)) = some (some (.int .u8 0), 1, 1) by kernel_rfl)
  have hlt := h.lt
  go_enter Tryz.func142, Tryz.ntmps142
  go_wp2_with fail
  refine (copyCheck_any b l _ h).mono ?_
  rintro e w1 ⟨rfl, h1, hb1⟩
  obtain ⟨hB, v, hbk, hown, hne⟩ := h1
  have c0 : w1.cell? ⟨b, 0, none⟩ = some (.pointer (some ⟨b, 0, none⟩)) := by rw [Lib.cell_of_heap hbk]; rfl
  have c1 : w1.cell? ⟨b, 1, none⟩ = some v := by rw [Lib.cell_of_heap hbk]; rfl
  have hz1' := hb1.1.size
  have hlen : (Lib.byteCells l).length = l.length := Lib.byteCells_length l
  go_wp2_with (at_builtin; refine Lib.wpList_append_own_string _ rfl _ _ 130 9 rfl b 5 i0 Tryz.underlying130 Tryz.underlying9 hi hz0 hz1 hz2 _ _ _ rfl hown s rfl ?c3 ?c4 ?c5 ?_)
  case c3 => unfold maxLen; omega
  case c4 => omega
  case c5 => omega
  intro v' w2 hown' hgrow _
  have hlt1 : b < w1.heap.size := by omega
  have hb2 : w2.heap[b]? = some (.cells #[.pointer (some ⟨b, 0, none⟩), v] 166 (0, 0)) := (hgrow.block b hlt1 (fun e => hne e.symm)).trans hbk
  have d0 : w2.cell? ⟨b, 0, none⟩ = some (.pointer (some ⟨b, 0, none⟩)) := by rw [Lib.cell_of_heap hb2]; rfl
  have d1 : w2.cell? ⟨b, 1, none⟩ = some v := by rw [Lib.cell_of_heap hb2]; rfl
  have f1 : w2.frozen? ⟨b, 1, none⟩ = false := Lib.frozen_of_heap hb2 1
  obtain ⟨ao, n', cap, rfl⟩ : ∃ ao n' cap, v' = .slice ao n' cap := by
    rcases hown'.2 with ⟨hv, _⟩ | ⟨g, cap, cur, hv, _⟩
    · exact ⟨_, _, _, hv⟩
    · exact ⟨_, _, _, hv⟩
  go_wp2
  go_ret2
  refine ⟨rfl, .inr ?_, hb1.trans ⟨((Below.refl b w1).grown hgrow (by omega) (fun k hk => (hown.lt k hk).1)).setCell (p := ⟨b, 1, none⟩) hB _, ((Lib.OthersKept.refl _ _ w1).grown hgrow (Lib.ownsRowF_kind (World.ownsRowF_of hown))).setCell ⟨b, 1, none⟩ rfl _⟩⟩
  have e1 : Lib.byteCells (l ++ bs s) = Lib.byteCells l ++ Lib.strCells s := by rw [Lib.strCells_eq]; unfold Lib.byteCells bs; rw [List.map_append]
  rw [e1]
  exact Lib.BuilderAt.put (T := 166) (e := 5) hB hb2 (bs' := Lib.byteCells l ++ Lib.strCells s) (by rw [List.length_append, Lib.strCells_length, hlen]; exact hown') (by decide)
theorem string_any (b : Nat) (l : Bs) (w : World) (h : Bd w b l) :
    Calls Tryz.prog 145 #[.pointer (some ⟨b, 0, none⟩)] w fun e w' => e = .returned (.string (mk l)) ∧ Below b w w' :=
  Tryz.Builder_String_any b b l w h (Nat.le_of_lt h.lt)
theorem Kb.blk {b g : Nat} {w w' : World} {ty : TypeId} {cs : Array Value} (h : Kb b w w') (hB : Blk w g ty cs) (hg : g ≠ b) (ht : ty ≠ 5) : Blk w' g ty cs :=
  h.2 g _ hB (fun e => hg (by injection e)) (fun c fz e => ht (by injection e))
end Go.Proofs.YtfnmkbpogbekpaaGreatDoor
namespace Go.Proofs.YtfnmkbpogbekpaaGreatDoor
open Go.RowKit
set_option linter.unusedVariables false

/-! ## numerals -/
def InD (v : Int) : Prop := -999999 ≤ v ∧ v ≤ 999999
def isDg (c : UInt8) : Prop := 48 ≤ c.toNat ∧ c.toNat ≤ 57
def valD : Nat → Bs → Nat
  | acc, [] => acc
  | acc, c :: r => valD (acc * 10 + (c.toNat - 48)) r
theorem valD_app : ∀ (a b : Bs) (acc : Nat), valD acc (a ++ b) = valD (valD acc a) b
  | [], _, _ => rfl
  | c :: a, b, acc => valD_app a b _
theorem dg_byte {d : Nat} (h : d < 10) : (UInt8.ofNat (48 + d)).toNat = 48 + d := by
  rw [UInt8.toNat_ofNat']
  omega
theorem dec_dg (u : Nat) : ∀ c ∈ Lib.decDigits u, isDg c := by
  induction u using Nat.strongRecOn with
  | _ u ih =>
    intro c hc
    by_cases h : u < 10
    · rw [Lib.decDigits, dif_pos h] at hc
      have hc := List.mem_singleton.1 hc
      subst hc
      unfold isDg
      rw [dg_byte h]
      omega
    · rw [Lib.decDigits, dif_neg h, List.mem_append] at hc
      rcases hc with hc | hc
      · exact ih (u / 10) (by omega) c hc
      · have hc := List.mem_singleton.1 hc
        subst hc
        unfold isDg
        rw [dg_byte (Nat.mod_lt _ (by decide))]
        omega
theorem dec_val (u : Nat) : valD 0 (Lib.decDigits u) = u := by
  induction u using Nat.strongRecOn with
  | _ u ih =>
    by_cases h : u < 10
    · rw [Lib.decDigits, dif_pos h]
      show 0 * 10 + ((UInt8.ofNat (48 + u)).toNat - 48) = u
      rw [dg_byte h]
      omega
    · rw [Lib.decDigits, dif_neg h, valD_app, ih (u / 10) (by omega)]
      show u / 10 * 10 + ((UInt8.ofNat (48 + u % 10)).toNat - 48) = u
      rw [dg_byte (Nat.mod_lt _ (by decide))]
      omega
theorem dec_ne (u : Nat) : Lib.decDigits u ≠ [] := fun e => by
  have h := Lib.decDigits_length u
  rw [e] at h
  have := Lib.nDigits_pos u
  simp at h
  omega
theorem itoa_pos {v : Int} (h : 0 ≤ v) : Lib.itoa v = Lib.decDigits v.toNat := by unfold Lib.itoa; rw [if_neg (by omega)]
theorem itoa_min {v : Int} (h : v < 0) : Lib.itoa v = 45 :: Lib.decDigits v.natAbs := by unfold Lib.itoa; rw [if_pos h]
theorem itoa_ch {v : Int} : ∀ c ∈ Lib.itoa v, c = 45 ∨ isDg c := by
  intro c hc
  by_cases h : v < 0
  · rw [itoa_min h] at hc
    rcases List.mem_cons.1 hc with hc | hc
    · exact .inl hc
    · exact .inr (dec_dg _ c hc)
  · rw [itoa_pos (by omega)] at hc
    exact .inr (dec_dg _ c hc)
theorem itoa_no {v : Int} {b : UInt8} (h1 : b ≠ 45) (h2 : ¬ isDg b) : b ∉ Lib.itoa v := fun h => (itoa_ch b h).elim h1 h2
theorem itoa_inj {v u : Int} (h : Lib.itoa v = Lib.itoa u) : v = u := by
  have key : ∀ (a : Nat), ∀ l : Bs, Lib.decDigits a ≠ 45 :: l := fun a l e => by
    have := dec_dg a 45 (by rw [e]; exact List.mem_cons_self ..)
    unfold isDg at this
    simp at this
  by_cases hv : v < 0
  · by_cases hu : u < 0
    · rw [itoa_min hv, itoa_min hu] at h
      injection h with _ h
      have := congrArg (valD 0) h
      rw [dec_val, dec_val] at this
      omega
    · rw [itoa_min hv, itoa_pos (by omega)] at h
      exact absurd h.symm (key _ _)
  · by_cases hu : u < 0
    · rw [itoa_min hu, itoa_pos (by omega)] at h
      exact absurd h (key _ _)
    · rw [itoa_pos (by omega), itoa_pos (by omega)] at h
      have := congrArg (valD 0) h
      rw [dec_val, dec_val] at this
      omega
theorem valD_ge : ∀ (l : Bs) (acc : Nat), acc ≤ valD acc l
  | [], acc => Nat.le_refl _
  | c :: r, acc => Nat.le_trans (by omega) (valD_ge r (acc * 10 + (c.toNat - 48)))
theorem parse_dg : ∀ (l : Bs) (acc : Nat), (∀ c ∈ l, isDg c) → valD acc l < 1844674407370955162 → Lib.parseUint10 acc l = .ok (valD acc l)
  | [], acc, _, _ => rfl
  | c :: r, acc, h, hv => by
    have hc := h c (List.mem_cons_self ..)
    have h1 := valD_ge r (acc * 10 + (c.toNat - 48))
    have h2 : valD acc (c :: r) = valD (acc * 10 + (c.toNat - 48)) r := rfl
    rw [h2] at hv
    unfold Lib.parseUint10
    rw [if_pos (show 48 ≤ c.toNat ∧ c.toNat ≤ 57 from hc), if_neg (by omega), if_neg (by omega), h2]
    exact parse_dg r _ (fun c' hc' => h c' (List.mem_cons_of_mem _ hc')) hv
theorem atoi_itoa {v : Int} (h : InD v) : Lib.atoiAll (Lib.itoa v) = .ok v := by
  obtain ⟨h1, h2⟩ := h
  by_cases hv : v < 0
  · rw [itoa_min hv]
    have hp : Lib.parseUint10 0 (Lib.decDigits v.natAbs) = .ok v.natAbs := by
      rw [parse_dg _ _ (dec_dg _) (by rw [dec_val]; omega), dec_val]
    unfold Lib.atoiAll Lib.parseMag
    simp only [show ((45 : UInt8).toNat = 43 ∨ (45 : UInt8).toNat = 45) from .inr (by decide), if_true]
    rw [if_neg (dec_ne _), hp]
    simp only
    rw [if_neg (by simp), if_neg (by simp; omega)]
    simp
    omega
  · rw [itoa_pos (by omega)]
    obtain ⟨u, rfl⟩ : ∃ u : Nat, v = u := ⟨v.toNat, by omega⟩
    rw [Int.toNat_natCast]
    have hp : Lib.parseUint10 0 (Lib.decDigits u) = .ok u := by
      rw [parse_dg _ _ (dec_dg _) (by rw [dec_val]; omega), dec_val]
    obtain ⟨c, r, e⟩ : ∃ c r, Lib.decDigits u = c :: r := by
      rcases e : Lib.decDigits u with _ | ⟨c, r⟩
      · exact absurd e (dec_ne u)
      · exact ⟨c, r, rfl⟩
    have hc := dec_dg u c (by rw [e]; exact List.mem_cons_self ..)
    unfold isDg at hc
    rw [e] at hp ⊢
    unfold Lib.atoiAll Lib.parseMag
    simp only
    rw [if_neg (show ¬ (c.toNat = 43 ∨ c.toNat = 45) by omega), if_neg (by simp), hp]
    simp only
    rw [if_neg (by omega), if_neg (by omega), if_neg (by omega)]
theorem itoa_len {v : Int} (h : InD v) : (Lib.itoa v).length ≤ 7 := by
  obtain ⟨h1, h2⟩ := h
  by_cases hv : v < 0
  · rw [itoa_min hv, List.length_cons]
    have := dec_len (u := v.natAbs) (by omega)
    omega
  · rw [itoa_pos (by omega)]
    have := dec_len (u := v.toNat) (by omega)
    omega
open Classical in
/-- The number that a text is the numeral of. -/
noncomputable def readI (s : ByteArray) : Option Int := if h : ∃ v, InD v ∧ s = mk (Lib.itoa v) then some (Classical.choose h) else none
theorem mk_inj {a b : Bs} (h : mk a = mk b) : a = b := by
  have := congrArg bs h
  rwa [bs_of, bs_of] at this
theorem readI_some {s : ByteArray} {v : Int} (hv : InD v) (h : s = mk (Lib.itoa v)) : readI s = some v := by
  have he : ∃ v, InD v ∧ s = mk (Lib.itoa v) := ⟨v, hv, h⟩
  unfold readI
  rw [dif_pos he]
  have h2 := (Classical.choose_spec he).2
  have h3 : mk (Lib.itoa v) = mk (Lib.itoa (Classical.choose he)) := h.symm.trans h2
  rw [← itoa_inj (mk_inj h3)]
theorem readI_none {s : ByteArray} (h : ∀ v, InD v → s ≠ mk (Lib.itoa v)) : readI s = none := by
  unfold readI
  rw [dif_neg]
  rintro ⟨v, h1, h2⟩
  exact h v h1 h2
theorem readI_iff {s : ByteArray} {v : Int} : readI s = some v ↔ InD v ∧ s = mk (Lib.itoa v) := by
  constructor
  · intro h
    by_cases he : ∃ v, InD v ∧ s = mk (Lib.itoa v)
    · obtain ⟨u, h1, h2⟩ := he
      rw [readI_some h1 h2] at h
      injection h with h
      subst h
      exact ⟨h1, h2⟩
    · rw [readI_none fun v h1 h2 => he ⟨v, h1, h2⟩] at h
      cases h
  · exact fun ⟨h1, h2⟩ => readI_some h1 h2

/-! ## The reference's reading of a numeral -/
def tl (l : Bs) : Bs := if 1 < l.length ∧ l[0]? = some 45 then l.drop 1 else l
theorem tl_itoa {v : Int} : tl (Lib.itoa v) = Lib.decDigits v.natAbs ∧ ((tl (Lib.itoa v)).length < (Lib.itoa v).length ↔ v < 0) := by
  by_cases hv : v < 0
  · have hn := dec_ne v.natAbs
    have hl : 0 < (Lib.decDigits v.natAbs).length := List.length_pos_iff.2 hn
    have e : tl (Lib.itoa v) = Lib.decDigits v.natAbs := by
      rw [itoa_min hv]
      unfold tl
      rw [if_pos ⟨by rw [List.length_cons]; omega, rfl⟩]
      rfl
    rw [e, itoa_min hv, List.length_cons]
    exact ⟨rfl, fun _ => hv, fun _ => by omega⟩
  · have e : tl (Lib.itoa v) = Lib.itoa v := by
      unfold tl
      rw [if_neg]
      rintro ⟨-, h⟩
      rw [itoa_pos (by omega)] at h
      have := dec_dg v.toNat 45 (List.mem_of_getElem? h)
      unfold isDg at this
      simp at this
    rw [e, itoa_pos (by omega)]
    exact ⟨by congr 1; omega, fun h => absurd h (by omega), fun h => absurd h hv⟩
theorem valD_lt : ∀ (l : Bs) (acc : Nat), (∀ c ∈ l, isDg c) → valD acc l < (acc + 1) * 10 ^ l.length
  | [], acc, _ => by
    show acc < (acc + 1) * 1
    omega
  | c :: r, acc, h => by
    have hc := h c (List.mem_cons_self ..)
    have ih := valD_lt r (acc * 10 + (c.toNat - 48)) fun c' hc' => h c' (List.mem_cons_of_mem _ hc')
    have h2 : valD acc (c :: r) = valD (acc * 10 + (c.toNat - 48)) r := rfl
    unfold isDg at hc
    rw [h2, List.length_cons, Nat.pow_succ, Nat.mul_comm (10 ^ r.length) 10, ← Nat.mul_assoc]
    refine Nat.lt_of_lt_of_le ih (Nat.mul_le_mul_right _ ?_)
    omega
theorem valD_six {l : Bs} (h : ∀ c ∈ l, isDg c) (hl : l.length ≤ 6) : valD 0 l ≤ 999999 := by
  have h1 := valD_lt l 0 h
  have h2 : 10 ^ l.length ≤ 10 ^ 6 := Nat.pow_le_pow_right (by decide) hl
  omega
/-- What the loop has read behind k bytes. -/
def DvAt (t : Bs) (k n : Nat) : Prop := (∀ c ∈ t.take k, isDg c) ∧ n = valD 0 (t.take k)
theorem DvAt.start (t : Bs) : DvAt t 0 0 := ⟨by simp, rfl⟩
theorem DvAt.step {t : Bs} {k n : Nat} {c : UInt8} (h : DvAt t k n) (hc : t[k]? = some c) (hd : isDg c) : DvAt t (k + 1) (10 * n + (c.toNat - 48)) := by
  obtain ⟨h1, h2⟩ := h
  have e : t.take (k + 1) = t.take k ++ [c] := by rw [List.take_add_one, hc]; rfl
  refine ⟨fun c' hc' => ?_, ?_⟩
  · rw [e, List.mem_append] at hc'
    rcases hc' with h' | h'
    · exact h1 c' h'
    · rw [List.mem_singleton.1 h']; exact hd
  · rw [e, valD_app, ← h2]
    show _ = n * 10 + (c.toNat - 48)
    omega
theorem DvAt.bd {t : Bs} {k n : Nat} (h : DvAt t k n) (hl : t.length ≤ 6) : n ≤ 999999 := by
  rw [h.2]
  exact valD_six h.1 (by rw [List.length_take]; omega)
theorem read_no {s : Bs} (h : ∀ v, InD v → s = Lib.itoa v → False) : readI (mk s) = none := readI_none fun v h1 h2 => h v h1 (mk_inj h2)
theorem read_bad1 {s : Bs} (h : ¬ (1 ≤ (tl s).length ∧ (tl s).length ≤ 6)) : readI (mk s) = none := read_no fun v hv e => h (by
  rw [e, (tl_itoa (v := v)).1]
  have h1 : 0 < (Lib.decDigits v.natAbs).length := List.length_pos_iff.2 (dec_ne _)
  have h2 := dec_len (u := v.natAbs) (by obtain ⟨_, _⟩ := hv; omega)
  omega)
theorem read_bad2 {s : Bs} {c : UInt8} (hc : c ∈ tl s) (h : ¬ isDg c) : readI (mk s) = none := read_no fun v hv e => h (by
  rw [e, (tl_itoa (v := v)).1] at hc
  exact dec_dg _ c hc)
def sgn (s : Bs) (n : Nat) : Int := if (tl s).length < s.length then -(n : Int) else n
theorem read_yes {s : Bs} {n : Nat} (h : DvAt (tl s) (tl s).length n) (hl : (tl s).length ≤ 6) (he : Lib.itoa (sgn s n) = s) : readI (mk s) = some (sgn s n) := by
  have hb := h.bd hl
  exact readI_some (by unfold sgn InD; split <;> omega) (by rw [he])
theorem read_bad3 {s : Bs} {n : Nat} (h : DvAt (tl s) (tl s).length n) (he : Lib.itoa (sgn s n) ≠ s) : readI (mk s) = none := read_no fun v hv e => he (by
  obtain ⟨h1, h2⟩ := h
  rw [List.take_length] at h2
  have h3 := (tl_itoa (v := v)).1
  have h4 := (tl_itoa (v := v)).2
  rw [← e] at h3 h4
  rw [h3, dec_val] at h2
  rw [e]
  congr 1
  unfold sgn
  rw [← e]
  split
  · rename_i h5
    have := h4.1 h5
    omega
  · rename_i h5
    have : ¬ v < 0 := fun h6 => h5 (h4.2 h6)
    omega)

/-! ## pieces -/
def joinB (sep : Bs) : List Bs → Bs
  | [] => []
  | [t] => t
  | t :: u :: l => t ++ (sep ++ joinB sep (u :: l))
def sepB (sep : Bs) (l : List Bs) : Bs := (l.map fun t => sep ++ t).flatten
theorem joinB_cons (sep t : Bs) : ∀ l : List Bs, joinB sep (t :: l) = t ++ sepB sep l
  | [] => by simp [joinB, sepB]
  | u :: l => by
    rw [joinB, joinB_cons sep u l]
    simp [sepB]
def splL (b : UInt8) : Bs → List Bs
  | [] => [[]]
  | x :: l => if x = b then [] :: splL b l else match splL b l with
    | [] => [[x]]
    | p :: ps => (x :: p) :: ps
theorem splL_no {b : UInt8} : ∀ {l : Bs}, b ∉ l → splL b l = [l]
  | [], _ => rfl
  | x :: l, h => by
    rw [splL, if_neg (fun e => h (by rw [e]; simp)), splL_no (fun hm => h (List.mem_cons_of_mem _ hm))]
theorem splL_app {b : UInt8} : ∀ {a x : Bs}, b ∉ a → splL b (a ++ b :: x) = a :: splL b x
  | [], x, _ => by rw [List.nil_append, splL, if_pos rfl]
  | d :: a, x, h => by
    rw [List.cons_append, splL, if_neg (fun e => h (by rw [e]; simp)), splL_app (fun hm => h (List.mem_cons_of_mem _ hm))]
theorem splL_join {b : UInt8} : ∀ {l : List Bs}, l ≠ [] → (∀ t ∈ l, b ∉ t) → splL b (joinB [b] l) = l
  | [], h, _ => absurd rfl h
  | [t], _, h => splL_no (h t (List.mem_cons_self ..))
  | t :: u :: l, _, h => by
    rw [joinB, List.singleton_append, splL_app (h t (List.mem_cons_self ..)), splL_join (by simp) fun t' ht => h t' (List.mem_cons_of_mem _ ht)]
theorem index_no {c : UInt8} {r a : Bs} (h : c ∉ a) : Lib.index a (c :: r) = -1 := Lib.index_none fun j hj => by
  rcases e : Lib.occAt a (c :: r) j with _ | _
  · rfl
  · exact absurd (List.mem_of_getElem? (Lib.occAt_head rfl e)) h
theorem index_app {c : UInt8} {r a x : Bs} (h : c ∉ a) : Lib.index (a ++ ((c :: r) ++ x)) (c :: r) = a.length := by
  refine Lib.index_first (by simp) ?_ fun j hj => ?_
  · unfold Lib.occAt
    rw [List.drop_left]
    exact List.isPrefixOf_iff_prefix.2 ⟨x, rfl⟩
  · rcases e : Lib.occAt (a ++ ((c :: r) ++ x)) (c :: r) j with _ | _
    · rfl
    · have := Lib.occAt_head rfl e
      rw [List.getElem?_append_left hj] at this
      exact absurd (List.mem_of_getElem? this) h
theorem spl_no {c : UInt8} {r a : Bs} (h : c ∉ a) : Lib.split a (c :: r) = [a] := by
  unfold Lib.split
  rw [Lib.count_miss (index_no h)]
  rfl
theorem spl_app {c : UInt8} {r a x : Bs} (h : c ∉ a) : Lib.split (a ++ ((c :: r) ++ x)) (c :: r) = a :: Lib.split x (c :: r) := by
  unfold Lib.split
  have hi := index_app (r := r) (x := x) h
  have hd : (a ++ ((c :: r) ++ x)).drop (a.length + (c :: r).length) = x := by
    rw [← List.append_assoc, ← List.length_append, List.drop_left]
  rw [Lib.count_hit (by simp) hi, hd, Nat.add_comm 1, Lib.splitK, hi]
  rw [if_neg (by simp), Int.toNat_natCast, Nat.add_zero, List.take_left, hd]
theorem spl_join {c : UInt8} {r : Bs} : ∀ {l : List Bs}, l ≠ [] → (∀ t ∈ l, c ∉ t) → Lib.split (joinB (c :: r) l) (c :: r) = l
  | [], h, _ => absurd rfl h
  | [t], _, h => spl_no (h t (List.mem_cons_self ..))
  | t :: u :: l, _, h => by
    rw [joinB, spl_app (h t (List.mem_cons_self ..)), spl_join (by simp) fun t' ht => h t' (List.mem_cons_of_mem _ ht)]
theorem mem_joinB {sep : Bs} {c : UInt8} : ∀ {l : List Bs}, c ∈ joinB sep l → c ∈ sep ∨ ∃ t ∈ l, c ∈ t
  | [], h => by simp [joinB] at h
  | [t], h => .inr ⟨t, List.mem_cons_self .., h⟩
  | t :: u :: l, h => by
    rw [joinB, List.mem_append, List.mem_append] at h
    rcases h with h | h | h
    · exact .inr ⟨t, List.mem_cons_self .., h⟩
    · exact .inl h
    · rcases mem_joinB h with h | ⟨t', h1, h2⟩
      · exact .inl h
      · exact .inr ⟨t', List.mem_cons_of_mem _ h1, h2⟩
end Go.Proofs.YtfnmkbpogbekpaaGreatDoor
namespace Go.Proofs.YtfnmkbpogbekpaaGreatDoor
open Go.RowKit

/-- Of the blocks that there were, only some from lo on and below hi have turned. -/
structure Chg (lo hi : Nat) (w w' : World) : Prop where
  os : w'.os = w.os
  tape : w'.tape = w.tape
  output : w'.output = w.output
  size : w.heap.size ≤ w'.heap.size
  block : ∀ b, b < w.heap.size → (b < lo ∨ hi ≤ b) → w'.heap[b]? = w.heap[b]?
theorem Chg.below {lo hi B : Nat} {w w' : World} (h : Chg lo hi w w') (hB : B ≤ lo) (hBw : B ≤ w.heap.size) : Below B w w' :=
  ⟨h.os, h.tape, h.output, h.size, fun k hk => h.block k (by omega) (.inl (by omega))⟩
theorem Chg.refl (lo hi : Nat) (w : World) : Chg lo hi w w := ⟨rfl, rfl, rfl, Nat.le_refl _, fun _ _ _ => rfl⟩
theorem Chg.trans {lo hi : Nat} {a b c : World} (h : Chg lo hi a b) (k : Chg lo hi b c) : Chg lo hi a c :=
  ⟨k.os.trans h.os, k.tape.trans h.tape, k.output.trans h.output, Nat.le_trans h.size k.size, fun i hi hh => (k.block i (Nat.lt_of_lt_of_le hi h.size) hh).trans (h.block i hi hh)⟩
theorem Chg.ofBelow {lo hi B : Nat} {w w' : World} (h : Below B w w') (hB : w.heap.size ≤ B) : Chg lo hi w w' :=
  ⟨h.os, h.tape, h.output, h.size, fun k hk _ => h.block k (by omega)⟩
theorem Chg.mono {lo hi lo' hi' : Nat} {w w' : World} (h : Chg lo hi w w') (h1 : lo' ≤ lo) (h2 : hi ≤ hi') : Chg lo' hi' w w' :=
  ⟨h.os, h.tape, h.output, h.size, fun k hk hh => h.block k hk (by omega)⟩
theorem Chg.grown {lo hi g : Nat} {w w' : World} (h : w.grownBy w' (some g)) (h1 : lo ≤ g) (h2 : g < hi) : Chg lo hi w w' :=
  ⟨h.os, h.tape, h.output, h.size, fun k hk hh => h.block k hk (by simp; omega)⟩

/-- k, k + 1, .. : n numbers. -/
def nums (k : Int) : Nat → List Int
  | 0 => []
  | n + 1 => k :: nums (k + 1) n
theorem nums_len : ∀ (n : Nat) (k : Int), (nums k n).length = n
  | 0, _ => rfl
  | n + 1, k => by simp [nums, nums_len n]
theorem nums_get : ∀ (n : Nat) (k : Int) (j : Nat), j < n → (nums k n)[j]? = some (k + j)
  | 0, _, j, h => absurd h (by omega)
  | n + 1, k, 0, _ => by simp [nums]
  | n + 1, k, j + 1, h => by
    rw [nums, List.getElem?_cons_succ, nums_get n (k + 1) j (by omega)]
    congr 1
    omega
theorem nums_bounds {n : Nat} {k : Int} (h0 : 0 ≤ k) (h1 : k + n ≤ 4611686018427387904) : ∀ x ∈ nums k n, -9223372036854775808 ≤ x ∧ x ≤ 9223372036854775807 := by
  intro x hx
  obtain ⟨j, hj⟩ := List.getElem?_of_mem hx
  have hl := (List.getElem?_eq_some_iff.1 hj).1
  rw [nums_len] at hl
  rw [nums_get n k j hl] at hj
  injection hj with hj
  omega
/-- The first j places marked, the others as they were. -/
def markTo (k : Int) (xs : List Int) (j : Nat) : List Int := (nums k xs.length).take j ++ xs.drop j
theorem markTo_set {k : Int} {xs : List Int} {j : Nat} (h : j < xs.length) : (ints (markTo k xs j)).set j (.int .i64 (k + j)) = ints (markTo k xs (j + 1)) := by
  have l1 : ((nums k xs.length).take j).length = j := by rw [List.length_take, nums_len]; omega
  unfold ints
  rw [← List.map_set]
  unfold markTo
  rw [List.set_append_right _ _ (by omega), l1, Nat.sub_self, List.drop_eq_getElem_cons h, List.set_cons_zero, List.take_add_one, nums_get _ _ _ h]
  simp

set_option maxHeartbeats 400000 in
theorem markIntS_any (A : Option Addr) (n c : Nat) (xs : List Int) (k : Int) (lo : Nat) (w : World) (h : w.ownsRow lo 3 1 (.slice A n c) n (ints xs)) (h0 : 0 ≤ k) (h1 : k + n ≤ 4611686018427387904) :
    Calls Tryz.prog 53 #[.slice A n c, .int .i64 k] w fun e w' => e = .returned (.int .i64 (k + n)) ∧ w'.ownsRow lo 3 1 (.slice A n c) n (ints (nums k n)) ∧ w.grownBy w' (Value.slice A n c).ownBlock := by
  have hlen := Lib.hid (show xs.length = n by have := h.1; simpa [ints] using this)
  go_enter Tryz.func53, Tryz.ntmps53
  go_wp2
  go_loopw [1, 5] (fun q i wr => ∃ j : Nat, j ≤ n ∧ i = .int .i64 j ∧ q = .int .i64 (k + j) ∧ wr.ownsRow lo 3 1 (.slice A n c) n (ints (markTo k xs j)) ∧ w.grownBy wr (Value.slice A n c).ownBlock) (fun _ i _ => n - (intOf i).toNat)
  case atStart => exact ⟨0, Nat.zero_le _, rfl, by simp, by simpa [markTo] using h, World.grownBy.refl _ _⟩
  case round =>
    obtain ⟨j, hj, rfl, rfl, hown, hg⟩ := hrel
    by_cases hlt : j < n
    · obtain ⟨g, hA, -, -⟩ : ∃ g, A = some ⟨g, 0, none⟩ ∧ lo ≤ g ∧ n ≤ c := by
        rcases hown.2 with ⟨_, h0⟩ | ⟨g, cap, cur, hv, hb, _, hnc, _⟩
        · omega
        · injection hv with hA _ hc
          exact ⟨g, hA, hb, by omega⟩
      subst hA
      obtain ⟨u, hu⟩ : ∃ u, (ints (markTo k xs j))[j]? = some u := by
        have hl := hown.1
        exact ⟨_, List.getElem?_eq_getElem (by omega)⟩
      have hcell := (hown.cellAt j (by omega)).trans hu
      have hfz : wr.frozen? ⟨g, j, none⟩ = false := hown.frozenAt j
      obtain ⟨hst, hgr⟩ := hown.stored j (.int .i64 (k + j))
      rw [markTo_set (by rw [hlen.out]; exact hlt)] at hst
      have hg2 : w.grownBy (wr.setCell ⟨g, j, none⟩ (.int .i64 (k + j))) (some g) :=
        ⟨hgr.os.trans hg.os, hgr.tape.trans hg.tape, hgr.output.trans hg.output, Nat.le_trans hg.size hgr.size, fun b hb hne => (hgr.block b (Nat.lt_of_lt_of_le hb hg.size) hne).trans (hg.block b hb hne)⟩
      clear hu hgr hg hown
      go_wp2
      go_roundw
      case rel => exact ⟨j + 1, by omega, by go_num, by rw [show k + (j : Int) + 1 = k + ((j + 1 : Nat) : Int) from by omega], hst, hg2⟩
      case measure => simp [intOf]; omega
    · have hjn : j = n := by omega
      have HJ : Hid (markTo k xs j = nums k n) := by
        show _ = _
        unfold markTo
        rw [hlen.out, List.drop_eq_nil_of_le (by rw [hlen.out]; omega), List.append_nil, List.take_of_length_le (by rw [nums_len]; omega)]
      rw [HJ.out] at hown
      have HN := Lib.hid hjn
      clear hjn
      go_wp2
      go_ret
      exact ⟨ret_int (by rw [HN.out]), hown, hg⟩

set_option maxHeartbeats 400000 in
theorem heldIntS_any (A : Option Addr) (n c : Nat) (k : Int) (w : World) (h : RdL RI w A n (nums k n)) (h0 : 0 ≤ k) (h1 : k + n ≤ 4611686018427387904) :
    Calls Tryz.prog 93 #[.slice A n c, .int .i64 k] w fun e w' => e = .returned (.int .i64 (k + n)) ∧ w = w' := by
  have hle := h.le
  go_enter Tryz.func93, Tryz.ntmps93
  go_wp2
  go_loop [1, 5] (fun q i => ∃ j : Nat, j ≤ n ∧ i = .int .i64 j ∧ q = .int .i64 (k + j)) (fun _ i => n - (intOf i).toNat)
  case atStart => exact ⟨0, Nat.zero_le _, rfl, by simp⟩
  case round =>
    obtain ⟨j, hj, rfl, rfl⟩ := hrel
    by_cases hlt : j < n
    · obtain ⟨b, o, v, x, rfl, hc, ⟨rfl, -⟩, -, hx⟩ := h.at hlt
      have hxj : x = k + j := by rw [nums_get n k j hlt] at hx; injection hx with hx; exact hx.symm
      subst hxj
      clear hx
      have hne : (k + (j : Int) != k + (j : Int)) = false := by simp
      go_wp2
      go_round
      case rel => exact ⟨j + 1, by omega, by go_num, by rw [show k + (j : Int) + 1 = k + ((j + 1 : Nat) : Int) from by omega]⟩
      case measure => simp [intOf]; omega
    · have hjn : j = n := by omega
      have HN := Lib.hid hjn
      clear hjn
      go_wp2
      go_ret
      exact ⟨ret_int (by rw [HN.out]), rfl⟩

/-! ## [][]int -/
/-- A slice of slices of the call's own, its inner slices by name. -/
def OwMv {α : Type} (eo ei : TypeId) (f : α → Value) (lo : Nat) (w : World) (v : Value) (n : Nat) (vs : List Value) (xss : List (List α)) : Prop :=
  w.ownsRow lo eo 1 v n vs ∧ vs.length = xss.length ∧ (∀ (k : Nat) u xs, vs[k]? = some u → xss[k]? = some xs → w.ownsRow lo ei 1 u xs.length (xs.map f)) ∧ (vs.filterMap Value.ownBlock).Nodup
/-- The inner slices' blocks lie below hi. -/
def InHi (hi : Nat) (vs : List Value) : Prop := ∀ u ∈ vs, ∀ b, u.ownBlock = some b → b < hi
section
variable {α : Type} {eo ei : TypeId} {f : α → Value} {lo hi : Nat} {w w' : World} {v : Value} {n : Nat} {vs : List Value} {xss : List (List α)}
theorem OwM.names (h : OwM eo ei f lo w v n xss) : ∃ vs, OwMv eo ei f lo w v n vs xss ∧ InHi w.heap.size vs := by
  obtain ⟨vs, h1, h2, h3, h4⟩ := h
  refine ⟨vs, ⟨h1, h2, h3, h4⟩, fun u hu b hb => ?_⟩
  obtain ⟨k, hk⟩ := List.getElem?_of_mem hu
  have hkl : k < xss.length := by rw [← h2]; exact (List.getElem?_eq_some_iff.1 hk).1
  exact ((h3 k u _ hk (List.getElem?_eq_getElem hkl)).lt b hb).2
theorem OwMv.own (h : OwMv eo ei f lo w v n vs xss) : OwM eo ei f lo w v n xss := ⟨vs, h⟩
theorem OwMv.next (h : OwMv eo ei f lo w v n vs xss) (hb : Below w.heap.size w w') : OwMv eo ei f lo w' v n vs xss :=
  ⟨own_next h.1 hb, h.2.1, fun k u xs hu hx => own_next (h.2.2.1 k u xs hu hx) hb, h.2.2.2⟩
theorem OwMv.mono {lo' : Nat} (h : OwMv eo ei f lo w v n vs xss) (hb : lo' ≤ lo) : OwMv eo ei f lo' w v n vs xss :=
  ⟨own_mono h.1 hb, h.2.1, fun k u xs hu hx => own_mono (h.2.2.1 k u xs hu hx) hb, h.2.2.2⟩
end
def numss (k : Int) : List (List Int) → List (List Int)
  | [] => []
  | xs :: l => nums k xs.length :: numss (k + xs.length) l
def total : List (List Int) → Nat
  | [] => 0
  | xs :: l => xs.length + total l
/-- Marked as far as the j-th row, the next number being k. -/
def MarkAt (k0 : Int) (xss yss : List (List Int)) (j : Nat) (k : Int) : Prop := yss.take j ++ numss k (xss.drop j) = numss k0 xss ∧ yss.drop j = xss.drop j ∧ yss.length = xss.length ∧ k + total (xss.drop j) = k0 + total xss ∧ k0 ≤ k
theorem MarkAt.start (k0 : Int) (xss : List (List Int)) : MarkAt k0 xss xss 0 k0 := ⟨by simp, rfl, rfl, by simp, Int.le_refl _⟩
theorem MarkAt.step {k0 k : Int} {xss yss : List (List Int)} {j : Nat} (h : MarkAt k0 xss yss j k) (hj : j < xss.length) : MarkAt k0 xss (yss.set j (nums k (xss[j]).length)) (j + 1) (k + (xss[j]).length) := by
  obtain ⟨h1, h2, h3, h4, h5⟩ := h
  have hjy : j < yss.length := by omega
  have hd := List.drop_eq_getElem_cons hj
  refine ⟨?_, ?_, by simp [h3], ?_, by omega⟩
  · rw [← h1, hd, numss, List.take_add_one, List.getElem?_set_self hjy, List.take_set_of_le (Nat.le_refl j)]
    simp
  · rw [List.drop_set_of_lt (by omega)]
    have e1 : (yss.drop j).drop 1 = (xss.drop j).drop 1 := by rw [h2]
    simpa [List.drop_drop] using e1
  · rw [hd, total] at h4
    omega
theorem MarkAt.done {k0 k : Int} {xss yss : List (List Int)} {j : Nat} (h : MarkAt k0 xss yss j k) (hj : xss.length ≤ j) : yss = numss k0 xss ∧ k = k0 + total xss := by
  obtain ⟨h1, h2, h3, h4, h5⟩ := h
  rw [List.drop_eq_nil_of_le hj, numss, List.append_nil, List.take_of_length_le (by omega)] at h1
  rw [List.drop_eq_nil_of_le hj, total] at h4
  exact ⟨h1, by omega⟩
def HeldAt (k0 : Int) (xss : List (List Int)) (j : Nat) (k : Int) : Prop := numss k (xss.drop j) = (numss k0 xss).drop j ∧ k + total (xss.drop j) = k0 + total xss ∧ k0 ≤ k
theorem HeldAt.start (k0 : Int) (xss : List (List Int)) : HeldAt k0 xss 0 k0 := ⟨rfl, rfl, Int.le_refl _⟩
theorem HeldAt.step {k0 k : Int} {xss : List (List Int)} {j : Nat} (h : HeldAt k0 xss j k) (hj : j < xss.length) : (numss k0 xss)[j]? = some (nums k (xss[j]).length) ∧ HeldAt k0 xss (j + 1) (k + (xss[j]).length) := by
  obtain ⟨h1, h2, h3⟩ := h
  have hd := List.drop_eq_getElem_cons hj
  rw [hd, numss] at h1
  rw [hd, total] at h2
  refine ⟨?_, ?_, by omega, by omega⟩
  · have := congrArg (fun l => l[0]?) h1
    simpa [List.getElem?_drop] using this.symm
  · have := congrArg (fun l => l.drop 1) h1
    simpa [List.drop_drop] using this
end Go.Proofs.YtfnmkbpogbekpaaGreatDoor
namespace Go.Proofs.YtfnmkbpogbekpaaGreatDoor
open Go.ChangeShapes Go.WideShapes Go.ChangeAt Go.RowKit Go.Joins Go.Deep
section
variable {H : Type} {enc : TypeId × Value → H} {P : Program} {w : World}
end
end Go.Proofs.YtfnmkbpogbekpaaGreatDoor
namespace Go.Proofs.YtfnmkbpogbekpaaGreatDoor
open Go.RowKit

/-- A row of elements of m cells each reads as a list. -/
def RdN {α : Type} (m : Nat) (R : World → List Value → α → Prop) (w : World) (A : Option Addr) (n : Nat) (xs : List α) : Prop :=
  xs.length = n ∧ n ≤ maxLen ∧ ∀ k x, xs[k]? = some x → ∃ b o vs, A = some ⟨b, o, none⟩ ∧ vs.length = m ∧ (∀ i v, vs[i]? = some v → w.cell? ⟨b, o + k * m + i, none⟩ = some v) ∧ R w vs x
def Same (w w' : World) : Prop := ∀ b, b < w.heap.size → w'.heap[b]? = w.heap[b]?
structure Sh (α : Type) where
  m : Nat
  rd : World → List Value → α → Prop
  own : World → List Value → α → List Nat → Prop
  cnt : α → Nat
  rd_len : ∀ {w : World} {cs : List Value} {x : α}, rd w cs x → cs.length = m
  stab : ∀ {w w' : World} {cs : List Value} {x : α}, rd w cs x → Same w w' → rd w' cs x
  ord : ∀ {w : World} {cs : List Value} {x : α} {bl : List Nat}, own w cs x bl → rd w cs x
  olt : ∀ {w : World} {cs : List Value} {x : α} {bl : List Nat}, own w cs x bl → ∀ b ∈ bl, b < w.heap.size
  osame : ∀ {w w' : World} {cs : List Value} {x : α} {bl : List Nat}, own w cs x bl → (∀ b ∈ bl, w'.heap[b]? = w.heap[b]?) → own w' cs x bl

def Sh.int : Sh Int where
  m := 1
  rd := fun w cs x => ∃ v, cs = [v] ∧ RI w v x
  own := fun w cs x bl => ∃ v, cs = [v] ∧ RI w v x ∧ bl = []
  cnt := fun _ => 0
  rd_len := fun ⟨_, e, _⟩ => by rw [e]; rfl
  stab := fun ⟨v, e, h⟩ _ => ⟨v, e, h⟩
  ord := fun ⟨v, e, h, _⟩ => ⟨v, e, h⟩
  olt := fun ⟨_, _, _, e⟩ b hb => by rw [e] at hb; simp at hb
  osame := fun ⟨v, e, h, e'⟩ _ => ⟨v, e, h, e'⟩
def Sh.bool : Sh Bool where
  m := 1
  rd := fun w cs x => ∃ v, cs = [v] ∧ RB w v x
  own := fun w cs x bl => ∃ v, cs = [v] ∧ RB w v x ∧ bl = []
  cnt := fun _ => 0
  rd_len := fun ⟨_, e, _⟩ => by rw [e]; rfl
  stab := fun ⟨v, e, h⟩ _ => ⟨v, e, h⟩
  ord := fun ⟨v, e, h, _⟩ => ⟨v, e, h⟩
  olt := fun ⟨_, _, _, e⟩ b hb => by rw [e] at hb; simp at hb
  osame := fun ⟨v, e, h, e'⟩ _ => ⟨v, e, h, e'⟩
def Sh.str : Sh ByteArray where
  m := 1
  rd := fun w cs x => ∃ v, cs = [v] ∧ RS w v x
  own := fun w cs x bl => ∃ v, cs = [v] ∧ RS w v x ∧ bl = []
  cnt := fun s => s.size
  rd_len := fun ⟨_, e, _⟩ => by rw [e]; rfl
  stab := fun ⟨v, e, h⟩ _ => ⟨v, e, h⟩
  ord := fun ⟨v, e, h, _⟩ => ⟨v, e, h⟩
  olt := fun ⟨_, _, _, e⟩ b hb => by rw [e] at hb; simp at hb
  osame := fun ⟨v, e, h, e'⟩ _ => ⟨v, e, h, e'⟩
def Sh.pair {α β : Type} (A : Sh α) (B : Sh β) : Sh (α × β) where
  m := A.m + B.m
  rd := fun w cs p => ∃ c1 c2, cs = c1 ++ c2 ∧ A.rd w c1 p.1 ∧ B.rd w c2 p.2
  own := fun w cs p bl => ∃ c1 c2 b1 b2, cs = c1 ++ c2 ∧ bl = b1 ++ b2 ∧ A.own w c1 p.1 b1 ∧ B.own w c2 p.2 b2
  cnt := fun p => A.cnt p.1 + B.cnt p.2
  rd_len := fun ⟨c1, c2, e, h1, h2⟩ => by rw [e, List.length_append, A.rd_len h1, B.rd_len h2]
  stab := fun ⟨c1, c2, e, h1, h2⟩ hs => ⟨c1, c2, e, A.stab h1 hs, B.stab h2 hs⟩
  ord := fun ⟨c1, c2, b1, b2, e, e', h1, h2⟩ => ⟨c1, c2, e, A.ord h1, B.ord h2⟩
  olt := fun ⟨c1, c2, b1, b2, e, e', h1, h2⟩ b hb => by
    rw [e', List.mem_append] at hb
    exact hb.elim (A.olt h1 b) (B.olt h2 b)
  osame := fun ⟨c1, c2, b1, b2, e, e', h1, h2⟩ hs => ⟨c1, c2, b1, b2, e, e', A.osame h1 fun b hb => hs b (by rw [e']; exact List.mem_append_left _ hb), B.osame h2 fun b hb => hs b (by rw [e']; exact List.mem_append_right _ hb)⟩

def InR (x : Int) : Prop := -9223372036854775808 ≤ x ∧ x ≤ 9223372036854775807
def obl (v : Value) : List Nat := v.ownBlock.toList
theorem mem_obl {v : Value} {b : Nat} : b ∈ obl v ↔ v.ownBlock = some b := by unfold obl; simp
/-- []int: E is the type of its elements. -/
def Sh.il (E : TypeId) : Sh (List Int) where
  m := 1
  rd := fun w cs xs => ∃ v, cs = [v] ∧ RV RI w v xs
  own := fun w cs xs bl => ∃ v, cs = [v] ∧ w.ownsRow 0 E 1 v xs.length (ints xs) ∧ (∀ x ∈ xs, InR x) ∧ bl = obl v
  cnt := fun xs => xs.length
  rd_len := fun ⟨_, e, _⟩ => by rw [e]; rfl
  stab := fun ⟨v, e, h⟩ hs => ⟨v, e, stab_RV stab_RI _ _ _ _ hs h⟩
  ord := fun {w} {cs} {xs} {bl} ⟨v, e, h, hx, _⟩ => by
    obtain ⟨A, c, rfl⟩ := own_slice h
    exact ⟨_, e, A, xs.length, c, rfl, rd_of_own h (RI_ints hx)⟩
  olt := fun ⟨v, _, h, _, e⟩ b hb => by rw [e, mem_obl] at hb; exact (h.lt b hb).2
  osame := fun ⟨v, e, h, hx, e'⟩ hs => ⟨v, e, own_same h fun b hb => hs b (by rw [e', mem_obl]; exact hb), hx, e'⟩

theorem flat_get : ∀ {css : List (List Value)} {m : Nat}, (∀ c ∈ css, c.length = m) → ∀ (k i : Nat), i < m → css.flatten[k * m + i]? = (css[k]?).bind fun c => c[i]?
  | [], m, _, k, i, _ => by simp
  | c :: l, m, h, 0, i, hi => by
    have hc := h c (List.mem_cons_self ..)
    rw [List.flatten_cons, Nat.zero_mul, Nat.zero_add, List.getElem?_append_left (by omega)]
    rfl
  | c :: l, m, h, k + 1, i, hi => by
    have hc := h c (List.mem_cons_self ..)
    have ih := flat_get (fun c' hc' => h c' (List.mem_cons_of_mem _ hc')) k i hi (css := l)
    have e : (k + 1) * m + i = m + (k * m + i) := by rw [Nat.succ_mul]; omega
    rw [List.flatten_cons, List.getElem?_append_right (by omega), hc, e, Nat.add_sub_cancel_left, ih]
    rfl
theorem flat_len : ∀ {css : List (List Value)} {m : Nat}, (∀ c ∈ css, c.length = m) → css.flatten.length = css.length * m
  | [], m, _ => by simp
  | c :: l, m, h => by
    rw [List.flatten_cons, List.length_append, h c (List.mem_cons_self ..), flat_len fun c' hc' => h c' (List.mem_cons_of_mem _ hc'), List.length_cons, Nat.succ_mul]
    omega
/-- A slice of structs of the call's own, its elements' cells and blocks by name. -/
structure Parts {α : Type} (A : Sh α) (E : TypeId) (w : World) (v : Value) (xs : List α) (css : List (List Value)) (bls : List (List Nat)) : Prop where
  row : w.ownsRow 0 E A.m v xs.length css.flatten
  l1 : css.length = xs.length
  l2 : bls.length = xs.length
  el : ∀ (k : Nat) c x bk, css[k]? = some c → xs[k]? = some x → bls[k]? = some bk → A.own w c x bk
section
variable {α : Type} {A : Sh α} {E : TypeId} {w w' : World} {v : Value} {xs : List α} {css : List (List Value)} {bls : List (List Nat)}
theorem Parts.all (h : Parts A E w v xs css bls) : ∀ c ∈ css, c.length = A.m := by
  intro c hc
  obtain ⟨k, hk⟩ := List.getElem?_of_mem hc
  have hkl := (List.getElem?_eq_some_iff.1 hk).1
  have h1 := h.l1
  have h2 := h.l2
  exact A.rd_len (A.ord (h.el k c _ _ hk (List.getElem?_eq_getElem (by omega)) (List.getElem?_eq_getElem (by omega))))
theorem Parts.same (h : Parts A E w v xs css bls) (hs : ∀ b ∈ obl v ++ bls.flatten, w'.heap[b]? = w.heap[b]?) : Parts A E w' v xs css bls :=
  ⟨own_same h.row fun b hb => hs b (List.mem_append_left _ (mem_obl.2 hb)), h.l1, h.l2, fun k c x bk h1 h2 h3 => A.osame (h.el k c x bk h1 h2 h3) fun b hb => hs b (List.mem_append_right _ (List.mem_flatten.2 ⟨bk, List.mem_of_getElem? h3, hb⟩))⟩
theorem Parts.lt (h : Parts A E w v xs css bls) : ∀ b ∈ obl v ++ bls.flatten, b < w.heap.size := by
  intro b hb
  rcases List.mem_append.1 hb with hb | hb
  · exact (h.row.lt b (mem_obl.1 hb)).2
  · obtain ⟨bk, hbk, hb⟩ := List.mem_flatten.1 hb
    obtain ⟨k, hk⟩ := List.getElem?_of_mem hbk
    have hkl := (List.getElem?_eq_some_iff.1 hk).1
    have h1 := h.l1
    have h2 := h.l2
    exact A.olt (h.el k _ _ bk (List.getElem?_eq_getElem (by omega)) (List.getElem?_eq_getElem (by omega)) hk) b hb
theorem own_len_le {base size : Nat} {e : TypeId} {n : Nat} {ys : List Value} (h : w.ownsRow base e size v n ys) : n ≤ maxLen := by
  rcases h.2 with ⟨_, h0⟩ | ⟨g, cap, cur, _, _, _, h1, h2, _⟩
  · omega
  · omega
theorem Parts.cell (h : Parts A E w v xs css bls) {g n c : Nat} (hv : v = .slice (some ⟨g, 0, none⟩) n c) {k i : Nat} {cs : List Value} {u : Value} (hk : css[k]? = some cs) (hi : cs[i]? = some u) : w.cell? ⟨g, k * A.m + i, none⟩ = some u := by
  have hall := h.all
  have hcl := hall cs (List.mem_of_getElem? hk)
  have him : i < A.m := by have := (List.getElem?_eq_some_iff.1 hi).1; omega
  have hkl : k < xs.length := by have := (List.getElem?_eq_some_iff.1 hk).1; have := h.l1; omega
  have hr := h.row
  subst hv
  have hn : n = xs.length := by
    rcases hr.2 with ⟨h0, _⟩ | ⟨g', cap, cur, h0, _⟩
    · cases h0
    · injection h0
  subst hn
  have hlt : k * A.m + i < xs.length * A.m := by
    have := Nat.mul_le_mul_right A.m (show k + 1 ≤ xs.length from hkl)
    rw [Nat.succ_mul] at this
    omega
  rw [hr.cellAt _ hlt, flat_get hall k i him, hk]
  exact hi
theorem Parts.rd (h : Parts A E w v xs css bls) : ∃ B c, v = .slice B xs.length c ∧ RdN A.m A.rd w B xs.length xs := by
  obtain ⟨B, c, rfl⟩ := own_slice h.row
  refine ⟨B, c, rfl, rfl, own_len_le h.row, fun k x hk => ?_⟩
  have hkl := (List.getElem?_eq_some_iff.1 hk).1
  have h1 := h.l1
  have h2 := h.l2
  have hc : css[k]? = some (css[k]'(by omega)) := List.getElem?_eq_getElem (by omega)
  have hb : bls[k]? = some (bls[k]'(by omega)) := List.getElem?_eq_getElem (by omega)
  have ho := h.el k _ x _ hc hk hb
  obtain ⟨g, rfl⟩ : ∃ g, B = some ⟨g, 0, none⟩ := by
    rcases h.row.2 with ⟨_, h0⟩ | ⟨g, cap, cur, h0, _⟩
    · omega
    · injection h0 with h0
      exact ⟨g, h0⟩
  refine ⟨g, 0, _, rfl, h.all _ (List.mem_of_getElem? hc), fun i u hi => ?_, A.ord ho⟩
  rw [Nat.zero_add]
  exact h.cell rfl hc hi
end
/-- A slice of structs: E is the type of its elements. -/
def Sh.rows {α : Type} (A : Sh α) (E : TypeId) : Sh (List α) where
  m := 1
  rd := fun w cs xs => ∃ B n c, cs = [.slice B n c] ∧ RdN A.m A.rd w B n xs
  own := fun w cs xs bl => ∃ v css bls, cs = [v] ∧ Parts A E w v xs css bls ∧ bl = obl v ++ bls.flatten
  cnt := fun xs => xs.length + (xs.map A.cnt).sum
  rd_len := fun ⟨_, _, _, e, _⟩ => by rw [e]; rfl
  stab := fun {w} {w'} {cs} {xs} ⟨B, n, c, e, h1, h2, h3⟩ hs => ⟨B, n, c, e, h1, h2, fun k x hk => by
    obtain ⟨b, o, vs, e1, hl, hc, hr⟩ := h3 k x hk
    exact ⟨b, o, vs, e1, hl, fun i v hi => (World.cell?_of_block (w := w) (hs b (cell_lt (hc i v hi)))).trans (hc i v hi), A.stab hr hs⟩⟩
  ord := fun {w} {cs} {xs} {bl} ⟨v, css, bls, e, h, _⟩ => by
    obtain ⟨B, c, hv, hr⟩ := h.rd
    exact ⟨B, xs.length, c, by rw [e, hv], hr⟩
  olt := fun {w} {cs} {xs} {bl} ⟨v, css, bls, _, h, e⟩ b hb => by rw [e] at hb; exact h.lt b hb
  osame := fun {w} {w'} {cs} {xs} {bl} ⟨v, css, bls, e, h, e'⟩ hs => ⟨v, css, bls, e, h.same fun b hb => hs b (by rw [e']; exact hb), e'⟩

section
variable {α : Type} {m : Nat} {R : World → List Value → α → Prop} {w w' : World} {A : Option Addr} {n : Nat} {xs : List α}
theorem RdN.at (h : RdN m R w A n xs) {k : Nat} (hk : k < n) : ∃ b o vs x, A = some ⟨b, o, none⟩ ∧ vs.length = m ∧ (∀ i v, vs[i]? = some v → w.cell? ⟨b, o + k * m + i, none⟩ = some v) ∧ R w vs x ∧ xs.drop k = x :: xs.drop (k + 1) ∧ xs[k]? = some x := by
  have hl : k < xs.length := by rw [h.1]; exact hk
  obtain ⟨b, o, vs, e, hm, hc, hr⟩ := h.2.2 k _ (List.getElem?_eq_getElem hl)
  exact ⟨b, o, vs, xs[k], e, hm, hc, hr, List.drop_eq_getElem_cons hl, List.getElem?_eq_getElem hl⟩
theorem RdN.len (h : RdN m R w A n xs) : xs.length = n := h.1
theorem RdN.le (h : RdN m R w A n xs) : n ≤ 9223372036854775807 := by have := h.2.1; unfold maxLen at this; omega
theorem RdN.drop_end (h : RdN m R w A n xs) {k : Nat} (hk : ¬ k < n) : xs.drop k = [] := List.drop_eq_nil_of_le (by rw [h.1]; omega)
theorem RdN.nil (m : Nat) (R : World → List Value → α → Prop) (w : World) (A : Option Addr) : RdN m R w A 0 [] := ⟨rfl, Nat.zero_le _, fun k x hk => by simp at hk⟩
end
theorem RdN.same {α : Type} {S : Sh α} {w w' : World} {A : Option Addr} {n : Nat} {xs : List α} (h : RdN S.m S.rd w A n xs) (hs : Same w w') : RdN S.m S.rd w' A n xs := by
  obtain ⟨B, n', c, e, h'⟩ := (Sh.rows S 0).stab (w := w) (w' := w') (cs := [.slice A n 0]) (x := xs) ⟨A, n, 0, rfl, h⟩ hs
  injection e with e _
  injection e with e1 e2 e3
  subst e1
  subst e2
  exact h'
theorem RdN.next {α : Type} {S : Sh α} {w w' : World} {A : Option Addr} {n : Nat} {xs : List α} (h : RdN S.m S.rd w A n xs) (hb : Below w.heap.size w w') : RdN S.m S.rd w' A n xs := h.same hb.block

/-! ## Several cells stored side by side -/
def setAll : List Value → Nat → List Value → List Value
  | l, _, [] => l
  | l, p, c :: cs => setAll (l.set p c) (p + 1) cs
def setAllW : World → Nat → Nat → List Value → World
  | w, _, _, [] => w
  | w, g, p, c :: cs => setAllW (w.setCell ⟨g, p, none⟩ c) g (p + 1) cs
theorem setAll_get : ∀ (cs : List Value) (l : List Value) (p j : Nat), p + cs.length ≤ l.length → (setAll l p cs)[j]? = if p ≤ j ∧ j < p + cs.length then cs[j - p]? else l[j]?
  | [], l, p, j, _ => by rw [setAll, if_neg (by simp)]
  | c :: cs, l, p, j, h => by
    rw [List.length_cons] at h
    rw [setAll, setAll_get cs _ _ _ (by rw [List.length_set]; omega), List.length_cons]
    by_cases h1 : p + 1 ≤ j ∧ j < p + 1 + cs.length
    · rw [if_pos h1, if_pos (by omega), show j - p = (j - (p + 1)) + 1 by omega, List.getElem?_cons_succ]
    · rw [if_neg h1, List.getElem?_set]
      by_cases h2 : p = j
      · subst h2
        rw [if_pos rfl, if_pos (by omega), if_pos (by omega), Nat.sub_self]
        rfl
      · rw [if_neg h2, if_neg (by omega)]
theorem setAll_mid (pre z post cs : List Value) (h : cs.length = z.length) : setAll (pre ++ (z ++ post)) pre.length cs = pre ++ (cs ++ post) := by
  apply List.ext_getElem?
  intro j
  rw [setAll_get _ _ _ _ (by simp; omega)]
  by_cases h1 : j < pre.length
  · rw [if_neg (by omega), List.getElem?_append_left h1, List.getElem?_append_left h1]
  · by_cases h2 : j < pre.length + cs.length
    · rw [if_pos (by omega), List.getElem?_append_right (by omega), List.getElem?_append_left (by omega)]
    · rw [if_neg (by omega), List.getElem?_append_right (by omega), List.getElem?_append_right (by omega), List.getElem?_append_right (by omega), List.getElem?_append_right (by omega), h]
theorem own_storeAll : ∀ (cs : List Value) {w : World} {base : Nat} {e : TypeId} {size g n cap : Nat} {xs : List Value} (p : Nat), w.ownsRow base e size (.slice (some ⟨g, 0, none⟩) n cap) n xs →
    (setAllW w g p cs).ownsRow base e size (.slice (some ⟨g, 0, none⟩) n cap) n (setAll xs p cs) ∧ w.grownBy (setAllW w g p cs) (some g)
  | [], w, base, e, size, g, n, cap, xs, p, h => ⟨h, ⟨rfl, rfl, rfl, Nat.le_refl _, fun _ _ _ => rfl⟩⟩
  | c :: cs, w, base, e, size, g, n, cap, xs, p, h => by
    obtain ⟨h1, g1⟩ := h.stored p c
    obtain ⟨h2, g2⟩ := own_storeAll cs (p + 1) h1
    exact ⟨h2, ⟨g2.os.trans g1.os, g2.tape.trans g1.tape, g2.output.trans g1.output, Nat.le_trans g1.size g2.size, fun k hk hne => (g2.block k (Nat.lt_of_lt_of_le hk g1.size) hne).trans (g1.block k hk hne)⟩⟩

/-! ## A slice of structs being filled -/
/-- Of n elements that a make laid in block g, k have been copied in; zc are the cells of an element as made. -/
structure FillN {α : Type} (A : Sh α) (E : TypeId) (zc : List Value) (lo g n : Nat) (w : World) (xs : List α) (css : List (List Value)) (bls : List (List Nat)) (k : Nat) : Prop where
  row : w.ownsRow 0 E A.m (.slice (some ⟨g, 0, none⟩) n n) n (css.flatten ++ (List.replicate (n - k) zc).flatten)
  l1 : css.length = k
  l2 : bls.length = k
  all : ∀ c ∈ css, c.length = A.m
  el : ∀ (j : Nat) c x bk, css[j]? = some c → xs[j]? = some x → bls[j]? = some bk → A.own w c x bk
  nd : (g :: bls.flatten).Nodup
  lo_ : ∀ b ∈ g :: bls.flatten, lo ≤ b ∧ b < w.heap.size
section
variable {α : Type} {A : Sh α} {E : TypeId} {zc : List Value} {lo g n : Nat} {w w' : World} {xs : List α} {css : List (List Value)} {bls : List (List Nat)} {k : Nat}
theorem FillN.start (h : w.ownsRow lo E A.m (.slice (some ⟨g, 0, none⟩) n n) n (List.replicate n zc).flatten) : FillN A E zc lo g n w xs [] [] 0 :=
  ⟨own_mono h (Nat.zero_le _), rfl, rfl, fun c hc => by simp at hc, fun j c x bk hc => by simp at hc, by simp, fun b hb => by simp at hb; subst hb; exact h.lt b rfl⟩
theorem FillN.next (h : FillN A E zc lo g n w xs css bls k) (hb : Below w.heap.size w w') : FillN A E zc lo g n w' xs css bls k :=
  ⟨own_next h.row hb, h.l1, h.l2, h.all, fun j c x bk h1 h2 h3 => A.osame (h.el j c x bk h1 h2 h3) fun b hb' => hb.block b (h.lo_ b (List.mem_cons_of_mem _ (List.mem_flatten.2 ⟨bk, List.mem_of_getElem? h3, hb'⟩))).2, h.nd,
    fun b hb' => ⟨(h.lo_ b hb').1, Nat.lt_of_lt_of_le (h.lo_ b hb').2 hb.size⟩⟩
theorem FillN.cell (h : FillN A E zc lo g n w xs css bls k) (hz : zc.length = A.m) (hk : k < n) {i : Nat} {u : Value} (hi : zc[i]? = some u) : w.cell? ⟨g, k * A.m + i, none⟩ = some u := by
  have him : i < A.m := by have := (List.getElem?_eq_some_iff.1 hi).1; omega
  have hl := flat_len h.all
  rw [h.l1] at hl
  have hlt : k * A.m + i < n * A.m := by
    have := Nat.mul_le_mul_right A.m (show k + 1 ≤ n from hk)
    rw [Nat.succ_mul] at this
    omega
  rw [h.row.cellAt _ hlt, List.getElem?_append_right (by omega), hl, Nat.add_sub_cancel_left]
  have e : n - k = (n - (k + 1)) + 1 := by omega
  rw [e, List.replicate_succ, List.flatten_cons, List.getElem?_append_left (by omega)]
  exact hi
theorem FillN.frozen (h : FillN A E zc lo g n w xs css bls k) (j : Nat) : w.frozen? ⟨g, j, none⟩ = false := h.row.frozenAt j
/-- One element more, that a call has laid since. -/
theorem FillN.set_ (h0 : FillN A E zc lo g n w xs css bls k) (hz : zc.length = A.m) (hb : Below w.heap.size w w') (hk : k < n) {x : α} {c : List Value} {bk : List Nat} (hx : xs[k]? = some x) (ho : A.own w' c x bk) (hnd : bk.Nodup) (hlo : ∀ b ∈ bk, w.heap.size ≤ b) (hlw : lo ≤ w.heap.size) :
    FillN A E zc lo g n (setAllW w' g (k * A.m) c) xs (css ++ [c]) (bls ++ [bk]) (k + 1) := by
  have h := h0.next hb
  have hcl := A.rd_len (A.ord ho)
  have hl := flat_len h.all
  rw [h.l1] at hl
  have hgl := (h0.lo_ g (List.mem_cons_self ..)).2
  obtain ⟨hst, hgr⟩ := own_storeAll c (k * A.m) h.row
  have e : n - k = (n - (k + 1)) + 1 := by omega
  rw [e, List.replicate_succ, List.flatten_cons, ← hl, setAll_mid _ _ _ _ (by omega), hl] at hst
  have hold : ∀ b ∈ g :: bls.flatten, b < w.heap.size := fun b hb' => (h0.lo_ b hb').2
  refine ⟨?_, by simp [h.l1], by simp [h.l2], ?_, ?_, ?_, ?_⟩
  · rw [List.flatten_append]
    simpa using hst
  · intro c' hc'
    rcases List.mem_append.1 hc' with h1 | h1
    · exact h.all c' h1
    · simp at h1
      subst h1
      exact hcl
  · intro j c' x' bk' h1 h2 h3
    have hg : ∀ b, b ≠ g → b < w'.heap.size → (setAllW w' g (k * A.m) c).heap[b]? = w'.heap[b]? := fun b hne hlt => hgr.block b hlt (by simpa using hne)
    rcases Nat.lt_or_ge j k with hj | hj
    · rw [List.getElem?_append_left (by rw [h.l1]; exact hj)] at h1
      rw [List.getElem?_append_left (by rw [h.l2]; exact hj)] at h3
      refine A.osame (h.el j c' x' bk' h1 h2 h3) fun b hb' => ?_
      have hm : b ∈ bls.flatten := List.mem_flatten.2 ⟨bk', List.mem_of_getElem? h3, hb'⟩
      exact hg b (fun ee => (List.nodup_cons.1 h.nd).1 (ee ▸ hm)) (h.lo_ b (List.mem_cons_of_mem _ hm)).2
    · have hjk : j = k := by
        have := (List.getElem?_eq_some_iff.1 h1).1
        rw [List.length_append, h.l1] at this
        simp at this
        omega
      subst hjk
      rw [List.getElem?_append_right (by rw [h.l1]; exact Nat.le_refl _), h.l1, Nat.sub_self] at h1
      rw [List.getElem?_append_right (by rw [h.l2]; exact Nat.le_refl _), h.l2, Nat.sub_self] at h3
      simp at h1 h3
      subst h1
      subst h3
      rw [hx] at h2
      injection h2 with h2
      subst h2
      exact A.osame ho fun b hb' => hg b (fun ee => by have := hlo b hb'; omega) (A.olt ho b hb')
  · rw [List.flatten_append, ← List.cons_append, List.nodup_append]
    refine ⟨h.nd, by simpa using hnd, fun a ha b hb' => ?_⟩
    have := hold a ha
    have := hlo b (by simpa using hb')
    omega
  · intro b hb'
    have hs : w'.heap.size ≤ (setAllW w' g (k * A.m) c).heap.size := hgr.size
    rw [List.flatten_append, ← List.cons_append] at hb'
    rcases List.mem_append.1 hb' with h1 | h1
    · have := h.lo_ b h1
      omega
    · have h2 : b ∈ bk := by simpa using h1
      have := hlo b h2
      have := A.olt ho b h2
      omega
theorem FillN.done (h : FillN A E zc lo g n w xs css bls k) (hl : xs.length = n) (hk : ¬ k < n) (hk' : k ≤ n) : (Sh.rows A E).own w [.slice (some ⟨g, 0, none⟩) n n] xs (g :: bls.flatten) := by
  have e : n - k = 0 := by omega
  have hr := h.row
  rw [e] at hr
  simp only [List.replicate_zero, List.flatten_nil, List.append_nil] at hr
  have h1 := h.l1
  have h2 := h.l2
  exact ⟨_, css, bls, rfl, ⟨by rw [hl]; exact hr, by omega, by omega, h.el⟩, rfl⟩
end
/-! ## Changes within a list of blocks -/
structure ChgB (bl : List Nat) (w w' : World) : Prop where
  os : w'.os = w.os
  tape : w'.tape = w.tape
  output : w'.output = w.output
  size : w.heap.size ≤ w'.heap.size
  block : ∀ b, b < w.heap.size → b ∉ bl → w'.heap[b]? = w.heap[b]?
theorem ChgB.refl (bl : List Nat) (w : World) : ChgB bl w w := ⟨rfl, rfl, rfl, Nat.le_refl _, fun _ _ _ => rfl⟩
theorem ChgB.trans {bl : List Nat} {a b c : World} (h : ChgB bl a b) (k : ChgB bl b c) : ChgB bl a c :=
  ⟨k.os.trans h.os, k.tape.trans h.tape, k.output.trans h.output, Nat.le_trans h.size k.size, fun i hi hh => (k.block i (Nat.lt_of_lt_of_le hi h.size) hh).trans (h.block i hi hh)⟩
theorem ChgB.mono {bl bl' : List Nat} {w w' : World} (h : ChgB bl w w') (hs : ∀ b ∈ bl, b ∈ bl') : ChgB bl' w w' :=
  ⟨h.os, h.tape, h.output, h.size, fun b hb hn => h.block b hb fun hh => hn (hs b hh)⟩
theorem ChgB.chg {bl : List Nat} {lo hi : Nat} {w w' : World} (h : ChgB bl w w') (hs : ∀ b ∈ bl, lo ≤ b ∧ b < hi) : Chg lo hi w w' :=
  ⟨h.os, h.tape, h.output, h.size, fun b hb hn => h.block b hb fun hh => by have := hs b hh; omega⟩
theorem ChgB.ofBelow {bl : List Nat} {w w' : World} (h : Below w.heap.size w w') : ChgB bl w w' := ⟨h.os, h.tape, h.output, h.size, fun b hb _ => h.block b hb⟩
theorem ChgB.set {bl : List Nat} {w : World} {p : Addr} (hp : p.block ∈ bl) (u : Value) : ChgB bl w (w.setCell p u) :=
  ⟨rfl, rfl, rfl, by simp, fun b _ hn => Below.heap_setCell w p u b (fun e => hn (e ▸ hp))⟩
theorem ChgB.grown {v : Value} {w w' : World} (h : w.grownBy w' v.ownBlock) : ChgB (obl v) w w' := ⟨h.os, h.tape, h.output, h.size, fun b hb hn => h.block b hb fun e => hn (mem_obl.2 e.symm)⟩
theorem flat_once : ∀ {bls : List (List Nat)}, bls.flatten.Nodup → ∀ {i j : Nat} {x y : List Nat} {b : Nat}, bls[i]? = some x → bls[j]? = some y → b ∈ x → b ∈ y → i = j
  | [], _, i, j, x, y, b, hi, _, _, _ => by simp at hi
  | z :: l, h, i, j, x, y, b, hi, hj, hx, hy => by
    rw [List.flatten_cons, List.nodup_append] at h
    have mem : ∀ {k : Nat} {u : List Nat}, l[k]? = some u → b ∈ u → b ∈ l.flatten := fun hk hu => List.mem_flatten.2 ⟨_, List.mem_of_getElem? hk, hu⟩
    match i, j with
    | 0, 0 => rfl
    | 0, j + 1 =>
      simp at hi hj
      subst hi
      exact absurd rfl (h.2.2 b hx b (mem hj hy))
    | i + 1, 0 =>
      simp at hi hj
      subst hj
      exact absurd rfl (h.2.2 b hy b (mem hi hx))
    | i + 1, j + 1 =>
      simp at hi hj
      rw [flat_once h.2.1 hi hj hx hy]
/-- One element turned into another one, in place. -/
theorem Parts.put {α : Type} {A : Sh α} {E : TypeId} {w w' : World} {v : Value} {xs : List α} {css : List (List Value)} {bls : List (List Nat)} (h : Parts A E w v xs css bls) (hnd : (obl v ++ bls.flatten).Nodup) {k : Nat} {bk : List Nat} (hbk : bls[k]? = some bk) {c' : List Value} {x' : α}
    (hr : w'.ownsRow 0 E A.m v xs.length (setAll css.flatten (k * A.m) c')) (ho : A.own w' c' x' bk) (hfr : ∀ b ∈ bls.flatten, b ∉ bk → w'.heap[b]? = w.heap[b]?) : Parts A E w' v (xs.set k x') (css.set k c') bls := by
  have hall := h.all
  have hcl := A.rd_len (A.ord ho)
  have hl1 := h.l1
  have hl2 := h.l2
  have hkl : k < bls.length := (List.getElem?_eq_some_iff.1 hbk).1
  have hfl := flat_len hall
  have hall' : ∀ c ∈ css.set k c', c.length = A.m := fun c hc => by
    rcases List.mem_or_eq_of_mem_set hc with h1 | h1
    · exact hall c h1
    · rw [h1]; exact hcl
  have hle : k * A.m + A.m ≤ css.length * A.m := by
    have := Nat.mul_le_mul_right A.m (show k + 1 ≤ css.length by omega)
    rw [Nat.succ_mul] at this
    exact this
  have e : setAll css.flatten (k * A.m) c' = (css.set k c').flatten := by
    have hfl' := flat_len hall'
    rw [List.length_set] at hfl'
    apply List.ext_getElem?
    intro j
    rw [setAll_get _ _ _ _ (by omega), hcl]
    rcases Nat.eq_zero_or_pos A.m with h0 | h0
    · rw [h0] at hfl hfl' ⊢
      rw [if_neg (by omega), List.getElem?_eq_none (by omega), List.getElem?_eq_none (by omega)]
    · have hj := Nat.div_add_mod j A.m
      have hm := Nat.mod_lt j h0
      rw [Nat.mul_comm] at hj
      have g1 := flat_get hall (j / A.m) (j % A.m) hm
      have g2 := flat_get hall' (j / A.m) (j % A.m) hm
      rw [hj] at g1 g2
      rw [g2]
      by_cases hjk : j / A.m = k
      · have hjk' : k * A.m + j % A.m = j := by rw [← hjk]; exact hj
        rw [if_pos (by omega), hjk, List.getElem?_set_self (by omega), show j - k * A.m = j % A.m by omega]
        rfl
      · rw [List.getElem?_set_ne (fun ee => hjk ee.symm), ← g1, if_neg]
        rintro ⟨h1, h2⟩
        apply hjk
        exact Nat.div_eq_of_lt_le (by omega) (by rw [Nat.succ_mul]; omega)
  refine ⟨by rw [List.length_set, ← e]; exact hr, by simp [hl1], by simp [hl2], fun j c x b h1 h2 h3 => ?_⟩
  by_cases hjk : j = k
  · subst hjk
    rw [List.getElem?_set_self (by omega)] at h1 h2
    injection h1 with h1
    injection h2 with h2
    rw [hbk] at h3
    injection h3 with h3
    subst h1
    subst h2
    subst h3
    exact ho
  · rw [List.getElem?_set_ne (fun ee => hjk ee.symm)] at h1 h2
    refine A.osame (h.el j c x b h1 h2 h3) fun q hq => hfr q (List.mem_flatten.2 ⟨b, List.mem_of_getElem? h3, hq⟩) fun hq' => ?_
    have hnd' : bls.flatten.Nodup := (List.nodup_append.1 hnd).2.1
    exact hjk (flat_once hnd' h3 hbk hq hq')
end Go.Proofs.YtfnmkbpogbekpaaGreatDoor
namespace Go.Proofs.YtfnmkbpogbekpaaGreatDoor
open Go.ChangeShapes Go.WideShapes Go.ChangeAt Go.RowKit Go.Joins Go.Deep

/-! ## Sizes -/
def szR (c : Nat) (left : Int) : Int := if left < c then -1 else left - c
theorem szR_add {a b : Nat} {left : Int} (h : ¬ szR a left < 0) : szR b (szR a left) = szR (a + b) left := by
  unfold szR at *
  split at h
  · omega
  · rename_i h1
    rw [if_neg h1]
    by_cases h2 : left - a < b
    · rw [if_pos h2, if_pos (by omega)]
    · rw [if_neg h2, if_neg (by omega)]; omega
theorem szR_neg {a b : Nat} {left : Int} (h : szR a left < 0) (_hl : 0 ≤ left) : (-1 : Int) = szR (a + b) left := by
  unfold szR at *
  split at h
  · rw [if_pos (by omega)]
  · omega
theorem szR_zero {left : Int} (h : 0 ≤ left) : szR 0 left = left := by
  have h' : ¬ left < ((0 : Nat) : Int) := by omega
  unfold szR
  rw [if_neg h']
  omega
def cntS {α : Type} (f : α → Nat) (xs : List α) : Nat := (xs.map f).sum
theorem cntS_cons {α : Type} (f : α → Nat) (x : α) (xs : List α) : cntS f (x :: xs) = f x + cntS f xs := by simp [cntS]
theorem cntS_nil {α : Type} (f : α → Nat) : cntS f [] = 0 := rfl
theorem cntS_mem {α : Type} {f : α → Nat} : ∀ {xs : List α} {x : α}, x ∈ xs → f x ≤ cntS f xs
  | y :: l, x, h => by
    rw [cntS_cons]
    rcases List.mem_cons.1 h with rfl | h
    · omega
    · have := cntS_mem (f := f) h
      omega
def SumAt {α : Type} (f : α → Nat) (xs : List α) (l0 left : Int) (k : Nat) : Prop := szR (cntS f (xs.drop k)) left = szR (cntS f xs) l0
section
variable {α : Type} {f : α → Nat} {xs : List α} {l0 left : Int} {k : Nat} {x : α}
theorem SumAt.start (f : α → Nat) (xs : List α) (l0 : Int) : SumAt f xs l0 l0 0 := rfl
theorem SumAt.step (h : SumAt f xs l0 left k) (h1 : xs.drop k = x :: xs.drop (k + 1)) (h2 : ¬ szR (f x) left < 0) : SumAt f xs l0 (szR (f x) left) (k + 1) := by
  unfold SumAt at *; rw [← h, h1, cntS_cons, szR_add h2]
theorem SumAt.stop (h : SumAt f xs l0 left k) (h1 : xs.drop k = x :: xs.drop (k + 1)) (h2 : szR (f x) left < 0) (hl : 0 ≤ left) : -1 = szR (cntS f xs) l0 := by
  unfold SumAt at *; rw [← h, h1, cntS_cons]; exact szR_neg h2 hl
theorem SumAt.done (h : SumAt f xs l0 left k) (h1 : xs.drop k = []) (hl : 0 ≤ left) : left = szR (cntS f xs) l0 := by
  unfold SumAt at *; rw [← h, h1, cntS_nil, szR_zero hl]
end

/-! ## Equality -/
/-- Are they the same? For things of whatever type. -/
noncomputable def eqC {α : Type} (x y : α) : Bool := @decide (x = y) (Classical.propDecidable _)
theorem eqC_iff {α : Type} {x y : α} : eqC x y = true ↔ x = y := by unfold eqC; exact @decide_eq_true_iff _ (Classical.propDecidable _)
theorem eqC_no {α : Type} {x y : α} : eqC x y = false ↔ ¬ x = y := by
  constructor
  · intro h e
    rw [eqC_iff.2 e] at h
    cases h
  · intro h
    rcases e : eqC x y with _ | _
    · rfl
    · exact absurd (eqC_iff.1 e) h
theorem eqC_self {α : Type} (x : α) : eqC x x = true := eqC_iff.2 rfl
theorem eqC_dec {α : Type} [DecidableEq α] (x y : α) : eqC x y = decide (x = y) := by
  by_cases h : x = y
  · rw [eqC_iff.2 h]; simp [h]
  · rw [eqC_no.2 h]; simp [h]
theorem eqL_dec (xs ys : List Int) : eqL xs ys = eqC xs ys := by
  rcases h : eqL xs ys with _ | _
  · symm; rw [eqC_no]; intro e; rw [eqL_iff.2 e] at h; exact absurd h (by decide)
  · symm; rw [eqC_iff]; exact eqL_iff.1 h
theorem neq_int {x y : Int} {b : Bool} (h : eqC x y = b) : (x != y) = !b := by
  subst h
  rw [eqC_dec]
  by_cases e : x = y
  · subst e; simp
  · simp [e]
theorem eqq_bool {x y : Bool} {b : Bool} (h : eqC x y = b) : (x == y) = b := by
  subst h
  rw [eqC_dec]
  cases x <;> cases y <;> rfl
theorem eqq_str {x y : ByteArray} {b : Bool} (h : eqC x y = b) : (x.toList == y.toList) = b := by
  subst h
  rw [ByteArray.toList_eq, ByteArray.toList_eq]
  by_cases e : x = y
  · subst e; rw [eqC_self]; simp
  · have h2 : ¬ x.data.toList = y.data.toList := fun e2 => e (bs_inj e2)
    rw [eqC_no.2 e]
    exact beq_eq_false_iff_ne.2 h2
def EqdAt {α : Type} (xs ys : List α) (k : Nat) : Prop := eqC (xs.drop k) (ys.drop k) = eqC xs ys
theorem eqC_cons {α : Type} (x y : α) (xs ys : List α) : eqC (x :: xs) (y :: ys) = (eqC x y && eqC xs ys) := by
  rw [Bool.eq_iff_iff, Bool.and_eq_true, eqC_iff, eqC_iff, eqC_iff]; simp
section
variable {α : Type} {xs ys : List α} {k : Nat} {x y : α}
theorem EqdAt.start (xs ys : List α) : EqdAt xs ys 0 := rfl
theorem EqdAt.step (h : EqdAt xs ys k) (h1 : xs.drop k = x :: xs.drop (k + 1)) (h2 : ys.drop k = y :: ys.drop (k + 1)) (he : eqC x y = true) : EqdAt xs ys (k + 1) := by
  unfold EqdAt at *; rw [← h, h1, h2, eqC_cons, he]; rfl
theorem EqdAt.stop (h : EqdAt xs ys k) (h1 : xs.drop k = x :: xs.drop (k + 1)) (h2 : ys.drop k = y :: ys.drop (k + 1)) (he : eqC x y = false) : false = eqC xs ys := by
  unfold EqdAt at *; rw [← h, h1, h2, eqC_cons, he]; rfl
theorem EqdAt.done (h : EqdAt xs ys k) (h1 : xs.drop k = []) (h2 : ys.drop k = []) : true = eqC xs ys := by
  unfold EqdAt at *; rw [← h, h1, h2, eqC_self]
theorem eqd_len {n m : Nat} (h1 : xs.length = n) (h2 : ys.length = m) (h : ¬ n = m) : false = eqC xs ys := by
  symm; rw [eqC_no]; intro e; subst e; omega
end
theorem dec_pair {α β : Type} (a c : α) (b d : β) : eqC (a, b) (c, d) = (eqC a c && eqC b d) := by
  rw [Bool.eq_iff_iff, Bool.and_eq_true, eqC_iff, eqC_iff, eqC_iff]; simp

/-! ## Blocks between two marks -/
def Iv (lo hi : Nat) (bl : List Nat) : Prop := bl.Nodup ∧ ∀ b ∈ bl, lo ≤ b ∧ b < hi
theorem Iv.nil (lo hi : Nat) : Iv lo hi [] := ⟨List.nodup_nil, fun b hb => by simp at hb⟩
theorem Iv.app {lo m1 m2 hi : Nat} {a b : List Nat} (ha : Iv lo m1 a) (hb : Iv m2 hi b) (h1 : lo ≤ m2) (h2 : m1 ≤ m2) (h3 : m2 ≤ hi) : Iv lo hi (a ++ b) := by
  refine ⟨List.nodup_append.2 ⟨ha.1, hb.1, fun x hx y hy => ?_⟩, fun x hx => ?_⟩
  · have := (ha.2 x hx).2
    have := (hb.2 y hy).1
    omega
  · rcases List.mem_append.1 hx with h | h
    · have := ha.2 x h
      omega
    · have := hb.2 x h
      omega
theorem Iv.mono {lo hi lo' hi' : Nat} {a : List Nat} (h : Iv lo hi a) (h1 : lo' ≤ lo) (h2 : hi ≤ hi') : Iv lo' hi' a := ⟨h.1, fun x hx => by have := h.2 x hx; omega⟩
theorem Sh.onext {α : Type} {S : Sh α} {w w' : World} {cs : List Value} {x : α} {bl : List Nat} (h : S.own w cs x bl) (hb : Below w.heap.size w w') : S.own w' cs x bl := S.osame h fun b hb' => hb.block b (S.olt h b hb')
/-- A copy handed back: a struct, one value. -/
def ToE {α : Type} (S : Sh α) (w : World) (x : α) (e : Ending) (w' : World) : Prop := ∃ cs bl, e = .returned (.agg cs.toArray) ∧ S.own w' cs x bl ∧ Iv w.heap.size w'.heap.size bl ∧ Below w.heap.size w w'
/-- The three boxes of a copy of a struct. -/
theorem boxes3 (w : World) (cp cz co : Array Value) (tp tr : TypeId) : ∃ w3, w3 = ((w.alloc (.cells cp tp)).alloc (.cells cz tr)).alloc (.cells co tr) ∧ Below w.heap.size w w3 ∧ w3.heap.size = w.heap.size + 3 ∧ Blk w3 w.heap.size tp cp ∧ Blk w3 (w.heap.size + 1) tr cz ∧ Blk w3 (w.heap.size + 1 + 1) tr co := by
  refine ⟨_, rfl, below_box3 _ _ _ _, by simp, ((Blk.new w _ _).next (below_box _ _)).next (below_box _ _), ?_, ?_⟩
  · have := (Blk.new (w.alloc (.cells cp tp)) tr cz).next (below_box _ (.cells co tr))
    rwa [World.size_alloc] at this
  · have := Blk.new ((w.alloc (.cells cp tp)).alloc (.cells cz tr)) tr co
    rwa [World.size_alloc, World.size_alloc] at this
theorem boxes2 (w : World) (cp cz : Array Value) (tp tr : TypeId) : ∃ w3, w3 = (w.alloc (.cells cp tp)).alloc (.cells cz tr) ∧ Below w.heap.size w w3 ∧ w3.heap.size = w.heap.size + 2 ∧ Blk w3 w.heap.size tp cp ∧ Blk w3 (w.heap.size + 1) tr cz := by
  refine ⟨_, rfl, below_box2 _ _ _, by simp, (Blk.new w _ _).next (below_box _ _), ?_⟩
  have := Blk.new (w.alloc (.cells cp tp)) tr cz
  rwa [World.size_alloc] at this
theorem boxes1 (w : World) (cp : Array Value) (tp : TypeId) : ∃ w3, w3 = w.alloc (.cells cp tp) ∧ Below w.heap.size w w3 ∧ w3.heap.size = w.heap.size + 1 ∧ Blk w3 w.heap.size tp cp := ⟨_, rfl, below_box _ _, by simp, Blk.new _ _ _⟩
theorem keepc {w w' : World} {p : Addr} {v : Value} (hb : Below w.heap.size w w') (h : w.cell? p = some v) : w'.cell? p = some v := (hb.cell (cell_lt h)).trans h
theorem bl_same {P : Program} {f : FuncId} {args : Array Value} {w : World} {v : Value} (h : Calls P f args w fun e w' => e = .returned v ∧ w = w') : Calls P f args w (Bl w v) := bl_of_quiet (quiet_same h)

/-! ## Arguments -/
section
variable {H : Type} {enc : TypeId × Value → H} {P : Program} {w : World}
end
end Go.Proofs.YtfnmkbpogbekpaaGreatDoor
namespace Go.Proofs.YtfnmkbpogbekpaaGreatDoor
open Go.RowKit

section
variable {α : Type} (mk : Int → α → α) (mc : α → Nat)
/-- The elements marked one after the other, from k on. -/
def mkL : Int → List α → List α
  | _, [] => []
  | k, x :: l => mk k x :: mkL (k + mc x) l
theorem mkL_len : ∀ (k : Int) (xs : List α), (mkL mk mc k xs).length = xs.length
  | _, [] => rfl
  | k, x :: l => by simp [mkL, mkL_len]
/-- Marked as far as the j-th element, the next number being k. -/
def MkAt (k0 : Int) (xs ys : List α) (j : Nat) (k : Int) : Prop := ys.take j ++ mkL mk mc k (xs.drop j) = mkL mk mc k0 xs ∧ ys.drop j = xs.drop j ∧ ys.length = xs.length ∧ k + cntS mc (xs.drop j) = k0 + cntS mc xs ∧ k0 ≤ k
def HkAt (k0 : Int) (xs : List α) (j : Nat) (k : Int) : Prop := mkL mk mc k (xs.drop j) = (mkL mk mc k0 xs).drop j ∧ k + cntS mc (xs.drop j) = k0 + cntS mc xs ∧ k0 ≤ k
end
section
variable {α : Type} {mk : Int → α → α} {mc : α → Nat} {k0 k : Int} {xs ys : List α} {j : Nat} {x : α}
theorem MkAt.start (k0 : Int) (xs : List α) : MkAt mk mc k0 xs xs 0 k0 := ⟨by simp, rfl, rfl, by simp, Int.le_refl _⟩
theorem MkAt.step (h : MkAt mk mc k0 xs ys j k) (hd : xs.drop j = x :: xs.drop (j + 1)) : MkAt mk mc k0 xs (ys.set j (mk k x)) (j + 1) (k + mc x) := by
  obtain ⟨h1, h2, h3, h4, h5⟩ := h
  have hjl : j < xs.length := by
    rcases Nat.lt_or_ge j xs.length with h | h
    · exact h
    · rw [List.drop_eq_nil_of_le h] at hd; cases hd
  have hjy : j < ys.length := by omega
  refine ⟨?_, ?_, by simp [h3], ?_, by omega⟩
  · rw [← h1, hd, mkL, List.take_add_one, List.getElem?_set_self hjy, List.take_set_of_le (Nat.le_refl j)]
    simp
  · rw [List.drop_set_of_lt (by omega)]
    have e1 : (ys.drop j).drop 1 = (xs.drop j).drop 1 := by rw [h2]
    simpa [List.drop_drop] using e1
  · rw [hd, cntS_cons] at h4
    omega
theorem MkAt.done (h : MkAt mk mc k0 xs ys j k) (hj : xs.drop j = []) : ys = mkL mk mc k0 xs ∧ k = k0 + cntS mc xs := by
  obtain ⟨h1, h2, h3, h4, h5⟩ := h
  rw [hj] at h1 h2 h4
  rw [mkL, List.append_nil] at h1
  rw [cntS_nil] at h4
  refine ⟨?_, by omega⟩
  rw [← h1]
  have := List.take_append_drop j ys
  rw [h2, List.append_nil] at this
  exact this.symm
theorem MkAt.left (h : MkAt mk mc k0 xs ys j k) (hd : xs.drop j = x :: xs.drop (j + 1)) : ys[j]? = some x ∧ k0 ≤ k ∧ k + mc x ≤ k0 + cntS mc xs := by
  obtain ⟨h1, h2, h3, h4, h5⟩ := h
  rw [hd, cntS_cons] at h4
  have e := congrArg (fun l => l[0]?) (h2.trans hd)
  simp [List.getElem?_drop] at e
  exact ⟨e, h5, by omega⟩
theorem HkAt.start (k0 : Int) (xs : List α) : HkAt mk mc k0 xs 0 k0 := ⟨rfl, rfl, Int.le_refl _⟩
theorem HkAt.step (h : HkAt mk mc k0 xs j k) (hd : xs.drop j = x :: xs.drop (j + 1)) : HkAt mk mc k0 xs (j + 1) (k + mc x) := by
  obtain ⟨h1, h2, h3⟩ := h
  rw [hd, mkL] at h1
  rw [hd, cntS_cons] at h2
  refine ⟨?_, by omega, by omega⟩
  have := congrArg (fun l => l.drop 1) h1
  simpa [List.drop_drop] using this
theorem HkAt.left (h : HkAt mk mc k0 xs j k) (hd : xs.drop j = x :: xs.drop (j + 1)) : (mkL mk mc k0 xs)[j]? = some (mk k x) ∧ k0 ≤ k ∧ k + mc x ≤ k0 + cntS mc xs := by
  obtain ⟨h1, h2, h3⟩ := h
  rw [hd, mkL] at h1
  rw [hd, cntS_cons] at h2
  have e := congrArg (fun l => l[0]?) h1
  simp [List.getElem?_drop] at e
  exact ⟨e.symm, h3, by omega⟩
theorem HkAt.done (h : HkAt mk mc k0 xs j k) (hj : xs.drop j = []) : k = k0 + cntS mc xs := by
  obtain ⟨-, h2, -⟩ := h
  rw [hj, cntS_nil] at h2
  omega
end
theorem set_same {l : List Value} {i : Nat} {v : Value} (h : l[i]? = some v) : l.set i v = l := by
  apply List.ext_getElem?
  intro j
  rw [List.getElem?_set]
  by_cases e : i = j
  · subst e
    rw [if_pos rfl, if_pos (List.getElem?_eq_some_iff.1 h).1, h]
  · rw [if_neg e]
theorem set_get_ne {l : List Value} {i j : Nat} {v u : Value} (h : l[j]? = some u) (hij : i ≠ j) : (l.set i v)[j]? = some u := by rw [List.getElem?_set_ne hij, h]
/-- A row of a call's own of which something within a list of blocks has changed that does not hold it. -/
theorem row_chg {w w' : World} {base size n : Nat} {e : TypeId} {v : Value} {xs : List Value} {bl : List Nat} (h : w.ownsRow base e size v n xs) (hc : ChgB bl w w') (hn : ∀ b, v.ownBlock = some b → b ∉ bl) : w'.ownsRow base e size v n xs :=
  own_same h fun b hb => hc.block b (h.lt b hb).2 (hn b hb)
theorem Sh.ochg {α : Type} {S : Sh α} {w w' : World} {cs : List Value} {x : α} {b1 bl : List Nat} (h : S.own w cs x b1) (hc : ChgB bl w w') (hn : ∀ b ∈ b1, b ∉ bl) : S.own w' cs x b1 := S.osame h fun b hb => hc.block b (S.olt h b hb) (hn b hb)
theorem Sh.oset' {α : Type} {S : Sh α} {w : World} {cs : List Value} {x : α} {b1 : List Nat} (h : S.own w cs x b1) {p : Addr} (hn : p.block ∉ b1) (v : Value) : S.own (w.setCell p v) cs x b1 :=
  S.osame h fun b hb => Below.heap_setCell w p v b (fun e => hn (e ▸ hb))
theorem Parts.slice {α : Type} {A : Sh α} {E : TypeId} {w : World} {v : Value} {xs : List α} {css : List (List Value)} {bls : List (List Nat)} (h : Parts A E w v xs css bls) {j : Nat} (hj : j < xs.length) : ∃ g cap, v = .slice (some ⟨g, 0, none⟩) xs.length cap := by
  rcases h.row.2 with ⟨_, h0⟩ | ⟨g, cap, cur, hv, _⟩
  · omega
  · exact ⟨g, cap, hv⟩
/-- A mark laid: the next number, the thing marked, nothing else changed. -/
def MkE {α : Type} (S : Sh α) (w : World) (cs : List Value) (x : α) (bl : List Nat) (k : Int) (e : Ending) (w' : World) : Prop := e = .returned (.int .i64 k) ∧ S.own w' cs x bl ∧ ChgB bl w w'
theorem nd_head {v : Value} {bls : List (List Nat)} (h : (obl v ++ bls.flatten).Nodup) {g n c : Nat} (hv : v = .slice (some ⟨g, 0, none⟩) n c) : g ∉ bls.flatten := by
  subst hv
  have := (List.nodup_append.1 h).2.2 g (mem_obl.2 rfl)
  exact fun hm => this g hm rfl
theorem nd_flat : ∀ {bls : List (List Nat)}, bls.flatten.Nodup → ∀ b ∈ bls, b.Nodup
  | [], _, b, hb => by simp at hb
  | x :: l, h, b, hb => by
    rw [List.flatten_cons, List.nodup_append] at h
    rcases List.mem_cons.1 hb with rfl | hb
    · exact h.1
    · exact nd_flat h.2.1 b hb
theorem nd_el {v : Value} {bls : List (List Nat)} (h : (obl v ++ bls.flatten).Nodup) {j : Nat} {bk : List Nat} (hj : bls[j]? = some bk) : bk.Nodup := by
  have h2 := (List.nodup_append.1 h).2.1
  exact nd_flat h2 bk (List.mem_of_getElem? hj)
theorem nd_l {a b : List Nat} (h : (a ++ b).Nodup) : a.Nodup := (List.nodup_append.1 h).1
theorem nd_r {a b : List Nat} (h : (a ++ b).Nodup) : b.Nodup := (List.nodup_append.1 h).2.1
theorem nd_x {a b : List Nat} (h : (a ++ b).Nodup) : ∀ x ∈ a, x ∉ b := fun x hx hy => (List.nodup_append.1 h).2.2 x hx x hy rfl
theorem nd_y {a b : List Nat} (h : (a ++ b).Nodup) : ∀ x ∈ b, x ∉ a := fun x hx hy => (List.nodup_append.1 h).2.2 x hy x hx rfl

theorem markIl_any (v : Value) (xs : List Int) (bl : List Nat) (k : Int) (w : World) (h : (Sh.il 3).own w [v] xs bl) (h0 : 0 ≤ k) (h1 : k + xs.length ≤ 4611686018427387904) :
    Calls Tryz.prog 53 #[v, .int .i64 k] w fun e w' => e = .returned (.int .i64 (k + xs.length)) ∧ (Sh.il 3).own w' [v] (nums k xs.length) bl ∧ ChgB bl w w' := by
  obtain ⟨v', e, ho, hx, rfl⟩ := h
  injection e with e _
  subst e
  obtain ⟨A, c, rfl⟩ := own_slice ho
  refine (markIntS_any A xs.length c xs k 0 w ho h0 h1).mono fun e w' ⟨he, ho', hg⟩ => ⟨he, ⟨_, rfl, by rw [nums_len]; exact ho', nums_bounds h0 h1, rfl⟩, ChgB.grown hg⟩
theorem heldIl_any (A : Option Addr) (n c : Nat) (xs : List Int) (k : Int) (w : World) (h : RdL RI w A n (nums k xs.length)) (h0 : 0 ≤ k) (h1 : k + xs.length ≤ 4611686018427387904) :
    Calls Tryz.prog 93 #[.slice A n c, .int .i64 k] w (Bl w (.int .i64 (k + xs.length))) := by
  have hn : n = xs.length := by rw [← h.len, nums_len]
  subst hn
  exact bl_same (heldIntS_any A _ c k w h h0 h1)
theorem Blk.chg' {w w' : World} {g lo hi : Nat} {t : TypeId} {cs : Array Value} (h : Blk w g t cs) (hc : Chg lo hi w w') (hg : g < lo ∨ hi ≤ g) : Blk w' g t cs := (hc.block g h.lt hg).trans h
theorem bne_self (b : Bool) : (b != b) = false := by cases b <;> rfl
/-! ## What the functions hand back -/
def RdV {α : Type} (S : Sh α) (w : World) (x : α) (ok : Bool) (e : Ending) (w' : World) : Prop := ∃ v, e = .returned (.tuple #[v, .bool ok]) ∧ S.rd w' [v] x ∧ Below w.heap.size w w'
def RdA {α : Type} (S : Sh α) (w : World) (x : α) (ok : Bool) (e : Ending) (w' : World) : Prop := ∃ cs, e = .returned (.tuple #[.agg cs.toArray, .bool ok]) ∧ S.rd w' cs x ∧ Below w.heap.size w w'
def OwV {α : Type} (S : Sh α) (w : World) (x : α) (ok : Bool) (e : Ending) (w' : World) : Prop := ∃ v bl, e = .returned (.tuple #[v, .bool ok]) ∧ S.own w' [v] x bl ∧ Iv w.heap.size w'.heap.size bl ∧ Below w.heap.size w w'
def OwA {α : Type} (S : Sh α) (w : World) (x : α) (ok : Bool) (e : Ending) (w' : World) : Prop := ∃ cs bl, e = .returned (.tuple #[.agg cs.toArray, .bool ok]) ∧ S.own w' cs x bl ∧ Iv w.heap.size w'.heap.size bl ∧ Below w.heap.size w w'
theorem OwV.rd {α : Type} {S : Sh α} {w w' : World} {x : α} {ok : Bool} {e : Ending} (h : OwV S w x ok e w') : RdV S w x ok e w' := by
  obtain ⟨v, bl, h1, h2, h3, h4⟩ := h
  exact ⟨v, h1, S.ord h2, h4⟩
theorem OwA.rd {α : Type} {S : Sh α} {w w' : World} {x : α} {ok : Bool} {e : Ending} (h : OwA S w x ok e w') : RdA S w x ok e w' := by
  obtain ⟨v, bl, h1, h2, h3, h4⟩ := h
  exact ⟨v, h1, S.ord h2, h4⟩
end Go.Proofs.YtfnmkbpogbekpaaGreatDoor
namespace Go.Proofs.YtfnmkbpogbekpaaGreatDoor
open Go.RowKit

abbrev OpM : Type := (Int × List Int)
def shOp : Sh OpM := (Sh.pair Sh.int (Sh.il 3))
theorem rdOp {w : World} {cs : List Value} {x : OpM} (h : shOp.rd w cs x) : ∃ (ATable : Option Addr) (nTable cTable : Nat), cs = [.int .i64 x.1, .slice ATable nTable cTable] ∧ InR x.1 ∧ RdL RI w ATable nTable x.2 := by
  obtain ⟨_, _, rfl, ⟨_, rfl, rfl, loArity, hiArity⟩, ⟨_, rfl, ATable, nTable, cTable, rfl, rTable⟩⟩ := h
  exact ⟨ATable, nTable, cTable, rfl, ⟨loArity, hiArity⟩, rTable⟩
theorem eqPOp (x y : OpM) : eqC x y = (eqC (x.1) (y.1) && eqC (x.2) (y.2)) := by
  obtain ⟨x0, x1⟩ := x
  obtain ⟨y0, y1⟩ := y
  simp only [dec_pair]
set_option linter.unusedVariables false in
set_option maxHeartbeats 4000000 in
theorem eqOp_any (cs ds : List Value) (x y : OpM) (w : World) (h : shOp.rd w cs x) (h' : shOp.rd w ds y) :
    Calls Tryz.prog 155 #[.agg cs.toArray, .agg ds.toArray] w (Bl w (.bool (eqC x y))) := by
  obtain ⟨ATable, nTable, cTable, rfl, qArity, qTable⟩ := rdOp h
  obtain ⟨AyTable, nyTable, cyTable, rfl, qyArity, qyTable⟩ := rdOp h'
  obtain ⟨w0, hw0, T0, hsz0, BP, BQ⟩ := boxes2 w #[.int .i64 x.1, .slice ATable nTable cTable] #[.int .i64 y.1, .slice AyTable nyTable cyTable] 122 122
  replace qTable := qTable.next stab_RI T0
  replace qyTable := qyTable.next stab_RI T0
  have HD := Lib.hid (eqPOp x y)
  go_enter Tryz.func155, Tryz.ntmps155
  rcases hd0 : eqC (x.1) (y.1) with _ | _
  · have ht : (x.1 != y.1) = true := neq_int hd0
    have HH0 := Lib.hid hd0
    clear hd0
    have cP0 := BP.cell 0
    have cQ0 := BQ.cell 0
    simp at cP0 cQ0
    rw [hw0] at cP0 cQ0
    go_wp2_with fail
    go_ret
    exact ⟨ret_bool (by rw [HD.out, HH0.out]; first | rfl | simp), by first | exact T0 | (rw [← hw0]; exact T0)⟩
  have ht0 : (x.1 != y.1) = false := neq_int hd0
  have HH0 := Lib.hid hd0
  clear hd0
  have cP0 := BP.cell 0
  have cQ0 := BQ.cell 0
  simp at cP0 cQ0
  rw [hw0] at cP0 cQ0
  rcases hd1 : eqC (x.2) (y.2) with _ | _
  · have HH1 := Lib.hid hd1
    clear hd1
    have cP1 := BP.cell 1
    have cQ1 := BQ.cell 1
    simp at cP1 cQ1
    rw [hw0] at cP1 cQ1
    go_wp2_with fail
    rw [← hw0]
    refine (bl_of_quiet (eqIntS_any _ _ _ _ _ _ _ _ _ qTable qyTable)).mono ?_
    rintro e w1 ⟨rfl, hb1⟩
    rw [eqL_dec]
    rw [HH1.out]
    have T1 := below_next T0 hb1 rfl
    go_wp2_with fail
    go_ret
    exact ⟨ret_bool (by rw [HD.out, HH0.out, HH1.out]; first | rfl | simp), T1⟩
  have HH1 := Lib.hid hd1
  clear hd1
  have cP1 := BP.cell 1
  have cQ1 := BQ.cell 1
  simp at cP1 cQ1
  rw [hw0] at cP1 cQ1
  go_wp2_with fail
  rw [← hw0]
  refine (bl_of_quiet (eqIntS_any _ _ _ _ _ _ _ _ _ qTable qyTable)).mono ?_
  rintro e w1 ⟨rfl, hb1⟩
  rw [eqL_dec]
  rw [HH1.out]
  have T1 := below_next T0 hb1 rfl
  clear cP1 cQ1 cP0 cQ0 ht0
  replace BP := BP.next hb1
  replace BQ := BQ.next hb1
  replace qTable := qTable.next stab_RI hb1
  replace qyTable := qyTable.next stab_RI hb1
  go_wp2_with fail
  go_ret
  exact ⟨ret_bool (by rw [HD.out, HH0.out, HH1.out]; first | rfl | simp), T1⟩
set_option linter.unusedVariables false in
set_option maxHeartbeats 4000000 in
theorem eqOpS_any (A B : Option Addr) (n m c d : Nat) (xs ys : List OpM) (w : World) (h : RdN shOp.m shOp.rd w A n xs) (h' : RdN shOp.m shOp.rd w B m ys) :
    Calls Tryz.prog 88 #[.slice A n c, .slice B m d] w (Bl w (.bool (eqC xs ys))) := by
  have hle := h.le
  have hle' := h'.le
  by_cases hnm : n = m
  · subst hnm
    go_enter Tryz.func88, Tryz.ntmps88
    go_wp2
    go_loopw [5] (fun i wr => ∃ k : Nat, k ≤ n ∧ i = .int .i64 k ∧ EqdAt xs ys k ∧ Below w.heap.size w wr) (fun i _ => n - (intOf i).toNat)
    case atStart => exact ⟨0, Nat.zero_le _, rfl, EqdAt.start _ _, Below.refl _ _⟩
    case round =>
      obtain ⟨k, hk, rfl, H, hT⟩ := hrel
      replace h := h.next hT
      replace h' := h'.next hT
      by_cases hlt : k < n
      · obtain ⟨b, o, vs, x, rfl, -, hc, hr, hd, -⟩ := h.at hlt
        obtain ⟨b', o', vs', y, rfl, -, hc', hr', hd', -⟩ := h'.at hlt
        obtain ⟨ATable, nTable, cTable, rfl, qArity, qTable⟩ := rdOp hr
        obtain ⟨AyTable, nyTable, cyTable, rfl, qyArity, qyTable⟩ := rdOp hr'
        have cc0 : wr.cell? ⟨b, o + k * 2, none⟩ = some (.int .i64 x.1) := hc 0 _ rfl
        have dd0 : wr.cell? ⟨b', o' + k * 2, none⟩ = some (.int .i64 y.1) := hc' 0 _ rfl
        have cc1 : wr.cell? ⟨b, o + k * 2 + 1, none⟩ = some (.slice ATable nTable cTable) := hc 1 _ rfl
        have dd1 : wr.cell? ⟨b', o' + k * 2 + 1, none⟩ = some (.slice AyTable nyTable cyTable) := hc' 1 _ rfl
        clear hc hc'
        have H1 := Lib.hid hd
        have H2 := Lib.hid hd'
        clear hd hd'
        have hk0 : (0 : Int) ≤ (k : Int) := by omega
        have hk1 : (k : Int) < (n : Int) := by omega
        obtain ⟨e0, HE⟩ : ∃ e0, Hid (eqC x y = e0) := ⟨_, rfl⟩
        have Tk : Below wr.heap.size wr wr := Below.refl _ _
        go_upto_region 6 with fail
        go_cut [26] (fun v wx => v = .bool (!e0) ∧ Below wr.heap.size wr wx)
        case first =>
          go_region_held3 (fun w' => w'.cell? ⟨b, o + k * 2, none⟩ = some (.int .i64 x.1) ∧ w'.cell? ⟨b', o' + k * 2, none⟩ = some (.int .i64 y.1) ∧ w'.cell? ⟨b, o + k * 2 + 1, none⟩ = some (.slice ATable nTable cTable) ∧ w'.cell? ⟨b', o' + k * 2 + 1, none⟩ = some (.slice AyTable nyTable cyTable)) (first | go_keep | exact ⟨keepc Tk cc0, keepc Tk dd0, keepc Tk cc1, keepc Tk dd1⟩) ((go_at_call 155; refine (eqOp_any [.int .i64 x.1, .slice ATable nTable cTable] [.int .i64 y.1, .slice AyTable nyTable cyTable] x y _ (shOp.stab hr (by first | exact Tk.block | exact (Below.drew Tk).block)) (shOp.stab hr' (by first | exact Tk.block | exact (Below.drew Tk).block))).mono ?_; rintro e wn ⟨rfl, hbn⟩; replace Tk := below_next (by first | exact Tk | exact Below.drew Tk) hbn rfl; rw [HE.out]))
          all_goals (go_wp2_with fail; go_meet; exact ⟨rfl, Tk⟩)
        case rest =>
          obtain ⟨rfl, hb4⟩ := hcut
          have hT4 := below_next hT hb4 rfl
          clear hb4 Tk cc0 dd0 cc1 dd1
          rcases e0 with _ | _
          · go_wp2_with fail
            go_ret
            exact ⟨ret_bool (H.stop H1.out H2.out HE.out), hT4⟩
          · go_wp2_with fail
            go_roundw
            case rel => exact ⟨k + 1, by omega, by go_num, H.step H1.out H2.out HE.out, hT4⟩
            case measure => simp [intOf]; omega
      · have hlt' : ¬ (k : Int) < (n : Int) := by omega
        go_wp2_with fail
        go_ret
        exact ⟨ret_bool (H.done (h.drop_end hlt) (h'.drop_end hlt)), hT⟩
  · have hne : ((n : Int) != (m : Int)) = true := by rw [bne_iff_ne]; omega
    have HL := Lib.hid (eqd_len h.len h'.len hnm)
    go_enter Tryz.func88, Tryz.ntmps88
    go_wp2_with fail
    go_ret
    exact ⟨ret_bool HL.out, Below.refl _ _⟩
end Go.Proofs.YtfnmkbpogbekpaaGreatDoor
namespace Go.Proofs.YtfnmkbpogbekpaaGreatDoor
open Go.RowKit

abbrev AlgebraM : Type := (Int × List OpM)
def shAlgebra : Sh AlgebraM := (Sh.pair Sh.int (Sh.rows shOp 122))
theorem rdAlgebra {w : World} {cs : List Value} {x : AlgebraM} (h : shAlgebra.rd w cs x) : ∃ (AOps : Option Addr) (nOps cOps : Nat), cs = [.int .i64 x.1, .slice AOps nOps cOps] ∧ InR x.1 ∧ RdN shOp.m shOp.rd w AOps nOps x.2 := by
  obtain ⟨_, _, rfl, ⟨_, rfl, rfl, loSize, hiSize⟩, ⟨AOps, nOps, cOps, rfl, rOps⟩⟩ := h
  exact ⟨AOps, nOps, cOps, rfl, ⟨loSize, hiSize⟩, rOps⟩
theorem mkAlgebra {w : World} {x : AlgebraM} {AOps : Option Addr} {nOps cOps : Nat} (hSize : InR x.1) (hOps : RdN shOp.m shOp.rd w AOps nOps x.2) : shAlgebra.rd w [.int .i64 x.1, .slice AOps nOps cOps] x :=
  ⟨[.int .i64 x.1], [.slice AOps nOps cOps], rfl, ⟨_, rfl, rfl, hSize.1, hSize.2⟩, ⟨_, _, _, rfl, hOps⟩⟩
theorem eqPAlgebra (x y : AlgebraM) : eqC x y = (eqC (x.1) (y.1) && eqC (x.2) (y.2)) := by
  obtain ⟨x0, x1⟩ := x
  obtain ⟨y0, y1⟩ := y
  simp only [dec_pair]
set_option linter.unusedVariables false in
set_option maxHeartbeats 4000000 in
theorem eqAlgebra_any (cs ds : List Value) (x y : AlgebraM) (w : World) (h : shAlgebra.rd w cs x) (h' : shAlgebra.rd w ds y) :
    Calls Tryz.prog 46 #[.agg cs.toArray, .agg ds.toArray] w (Bl w (.bool (eqC x y))) := by
  obtain ⟨AOps, nOps, cOps, rfl, qSize, qOps⟩ := rdAlgebra h
  obtain ⟨AyOps, nyOps, cyOps, rfl, qySize, qyOps⟩ := rdAlgebra h'
  obtain ⟨w0, hw0, T0, hsz0, BP, BQ⟩ := boxes2 w #[.int .i64 x.1, .slice AOps nOps cOps] #[.int .i64 y.1, .slice AyOps nyOps cyOps] 24 24
  replace qOps := qOps.next T0
  replace qyOps := qyOps.next T0
  have HD := Lib.hid (eqPAlgebra x y)
  go_enter Tryz.func46, Tryz.ntmps46
  rcases hd0 : eqC (x.1) (y.1) with _ | _
  · have ht : (x.1 != y.1) = true := neq_int hd0
    have HH0 := Lib.hid hd0
    clear hd0
    have cP0 := BP.cell 0
    have cQ0 := BQ.cell 0
    simp at cP0 cQ0
    rw [hw0] at cP0 cQ0
    go_wp2_with fail
    go_ret
    exact ⟨ret_bool (by rw [HD.out, HH0.out]; first | rfl | simp), by first | exact T0 | (rw [← hw0]; exact T0)⟩
  have ht0 : (x.1 != y.1) = false := neq_int hd0
  have HH0 := Lib.hid hd0
  clear hd0
  have cP0 := BP.cell 0
  have cQ0 := BQ.cell 0
  simp at cP0 cQ0
  rw [hw0] at cP0 cQ0
  rcases hd1 : eqC (x.2) (y.2) with _ | _
  · have HH1 := Lib.hid hd1
    clear hd1
    have cP1 := BP.cell 1
    have cQ1 := BQ.cell 1
    simp at cP1 cQ1
    rw [hw0] at cP1 cQ1
    go_wp2_with fail
    rw [← hw0]
    refine (eqOpS_any _ _ _ _ _ _ _ _ _ qOps qyOps).mono ?_
    rintro e w1 ⟨rfl, hb1⟩
    rw [HH1.out]
    have T1 := below_next T0 hb1 rfl
    go_wp2_with fail
    go_ret
    exact ⟨ret_bool (by rw [HD.out, HH0.out, HH1.out]; first | rfl | simp), T1⟩
  have HH1 := Lib.hid hd1
  clear hd1
  have cP1 := BP.cell 1
  have cQ1 := BQ.cell 1
  simp at cP1 cQ1
  rw [hw0] at cP1 cQ1
  go_wp2_with fail
  rw [← hw0]
  refine (eqOpS_any _ _ _ _ _ _ _ _ _ qOps qyOps).mono ?_
  rintro e w1 ⟨rfl, hb1⟩
  rw [HH1.out]
  have T1 := below_next T0 hb1 rfl
  clear cP1 cQ1 cP0 cQ0 ht0
  replace BP := BP.next hb1
  replace BQ := BQ.next hb1
  replace qOps := qOps.next hb1
  replace qyOps := qyOps.next hb1
  go_wp2_with fail
  go_ret
  exact ⟨ret_bool (by rw [HD.out, HH0.out, HH1.out]; first | rfl | simp), T1⟩
end Go.Proofs.YtfnmkbpogbekpaaGreatDoor
namespace Go.Proofs.YtfnmkbpogbekpaaGreatDoor
open Go.RowKit

def mcOp (x : OpM) : Nat := 1 + x.2.length
def mqOp (k : Int) (x : OpM) : OpM := (k, nums (k + 1) x.2.length)
def msAlgebra (x : AlgebraM) : Nat := cntS mcOp x.2
def mqAlgebra (k : Int) (x : AlgebraM) : AlgebraM := (x.1, mkL mqOp mcOp k x.2)

set_option linter.unusedVariables false in
set_option maxHeartbeats 8000000 in
theorem markOpS_any (v : Value) (xs : List OpM) (bl : List Nat) (k0 : Int) (w : World) (h : (Sh.rows shOp 122).own w [v] xs bl) (hnd : bl.Nodup) (h0 : 0 ≤ k0) (h1 : k0 + cntS mcOp xs ≤ 4611686018427387904) :
    Calls Tryz.prog 90 #[v, .int .i64 k0] w (MkE (Sh.rows shOp 122) w [v] (mkL mqOp mcOp k0 xs) bl (k0 + cntS mcOp xs)) := by
  obtain ⟨v', css0, bls, e, hP0, rfl⟩ := h
  injection e with e _
  subst e
  obtain ⟨A, c, rfl⟩ := own_slice hP0.row
  have hnl := own_len_le hP0.row
  unfold maxLen at hnl
  have HND := Lib.hid hnd
  clear hnd
  go_enter Tryz.func90, Tryz.ntmps90
  go_wp2
  go_loopw [1, 5] (fun q i wr => ∃ (j : Nat) (k : Int) (ys : List OpM) (css : List (List Value)), j ≤ xs.length ∧ i = .int .i64 j ∧ q = .int .i64 k ∧ MkAt mqOp mcOp k0 xs ys j k ∧ Parts shOp 122 wr (.slice A xs.length c) ys css bls ∧ ChgB (obl (.slice A xs.length c) ++ bls.flatten) w wr) (fun _ i _ => xs.length - (intOf i).toNat)
  case atStart => exact ⟨0, k0, xs, css0, Nat.zero_le _, rfl, rfl, MkAt.start _ _, hP0, ChgB.refl _ _⟩
  case round =>
    clear hP0
    obtain ⟨j, k, ys, css, hj, rfl, rfl, HM, hP, CH⟩ := hrel
    have hyl : ys.length = xs.length := HM.2.2.1
    by_cases hlt : j < xs.length
    · have hd : xs.drop j = xs[j] :: xs.drop (j + 1) := List.drop_eq_getElem_cons hlt
      generalize xs[j] = x at hd
      obtain ⟨hyj, hk0, hk1⟩ := HM.left hd
      have HS := Lib.hid (HM.step hd)
      obtain ⟨g, cap, hv⟩ := hP.slice (by omega : j < ys.length)
      injection hv with hA hn2 hc2
      subst hA
      clear hn2 hc2
      have hl1 := hP.l1
      have hl2 := hP.l2
      have hcj : css[j]? = some (css[j]'(by omega)) := List.getElem?_eq_getElem (by omega)
      have hbj : bls[j]? = some (bls[j]'(by omega)) := List.getElem?_eq_getElem (by omega)
      generalize css[j]'(by omega) = cj at hcj
      generalize bls[j]'(by omega) = bk at hbj
      have ho := hP.el j cj x bk hcj hyj hbj
      obtain ⟨c0, c1, b0, b1, rfl, rfl, O0, O1⟩ := ho
      obtain ⟨_, rfl, ⟨rfl, lo0, hi0⟩, rfl⟩ := O0
      obtain ⟨_, rfl, B, m, d, rfl, -⟩ := (Sh.il 3).ord O1
      have hgb := nd_head HND.out (g := g) rfl
      have hbk : ∀ b ∈ b1, b ∈ bls.flatten := fun b hb => List.mem_flatten.2 ⟨_, List.mem_of_getElem? hbj, by simpa using hb⟩
      have hgk : g ∉ b1 := fun hh => hgb (hbk g hh)
      have hmb : j * 2 + 2 ≤ xs.length * 2 := by omega
      have ROW := hP.row
      rw [hyl] at ROW
      have hall := hP.all
      have q0 : j * 2 < xs.length * shOp.m := by show _ < _ * 2; omega
      have q1 : j * 2 + 1 < xs.length * shOp.m := by show _ < _ * 2; omega
      have F0 : css.flatten[j * 2]? = some (.int .i64 x.1) := by have := flat_get hall j 0 (by decide); rw [hcj] at this; exact this
      have F1 : css.flatten[j * 2 + 1]? = some (.slice B m d) := by have := flat_get hall j 1 (by decide); rw [hcj] at this; exact this
      have cc0 : wr.cell? ⟨g, j * 2, none⟩ = some (.int .i64 x.1) := (ROW.cellAt _ q0).trans F0
      have cc1 : wr.cell? ⟨g, j * 2 + 1, none⟩ = some (.slice B m d) := (ROW.cellAt _ q1).trans F1
      have ff0 : wr.frozen? ⟨g, j * 2, none⟩ = false := ROW.frozenAt _
      obtain ⟨w1, hw1⟩ : ∃ wb, wb = wr.setCell ⟨g, j * 2, none⟩ (.int .i64 k) := ⟨_, rfl⟩
      have ROW1 : w1.ownsRow 0 122 shOp.m (.slice (some ⟨g, 0, none⟩) xs.length c) xs.length (css.flatten.set (j * 2) (.int .i64 k)) := by rw [hw1]; exact (ROW.stored (j * 2) (.int .i64 k)).1
      have O2 : (Sh.il 3).own w1 [.slice B m d] x.2 b1 := by rw [hw1]; exact Sh.oset' (p := ⟨g, j * 2, none⟩) O1 hgk _
      have C1 : ChgB (g :: b1) wr w1 := by rw [hw1]; exact ChgB.set (p := ⟨g, j * 2, none⟩) (List.mem_cons_self ..) _
      have HCJ := Lib.hid hcj
      have HBJ := Lib.hid hbj
      have HP := Lib.hid hP
      have HD := Lib.hid hd
      have HYL := Lib.hid hyl
      have HF1 := Lib.hid F1
      have hj0 : (0 : Int) ≤ (j : Int) := by omega
      have hj1 : (j : Int) < (xs.length : Int) := by omega
      have hmc : mcOp x = 1 + x.2.length := rfl
      clear hd HM hP hyl hcj hbj hyj ROW O1 F0 F1
      go_wp2_with fail
      rw [← hw1]
      clear hw1 cc0 cc1 ff0
      refine (markIl_any _ x.2 b1 (k + 1) w1 O2 (by omega) (by omega)).mono ?_
      rintro e w2 ⟨rfl, O3, hc2⟩
      have ROW2 := row_chg ROW1 hc2 (fun b hb => by injection hb with hb; subst hb; exact hgk)
      have C2 := C1.trans (hc2.mono fun b hb => List.mem_cons_of_mem _ hb)
      have hset : css.flatten.set (j * 2) (.int .i64 k) = setAll css.flatten (j * shOp.m) [.int .i64 k, .slice B m d] := by
        show _ = (css.flatten.set (j * 2) (.int .i64 k)).set (j * 2 + 1) (.slice B m d)
        rw [set_same (set_get_ne HF1.out (by omega))]
      rw [hset] at ROW2
      have ROW3 : w2.ownsRow 0 122 shOp.m (.slice (some ⟨g, 0, none⟩) xs.length c) ys.length (setAll css.flatten (j * shOp.m) [.int .i64 k, .slice B m d]) := by rw [HYL.out]; exact ROW2
      have hkr : InR k := ⟨by omega, by omega⟩
      have HPP := HP.out.put HND.out HBJ.out (c' := [.int .i64 k, .slice B m d]) (x' := mqOp k x) ROW3 ⟨[.int .i64 k], [.slice B m d], [], b1, rfl, rfl, ⟨_, rfl, ⟨rfl, hkr.1, hkr.2⟩, rfl⟩, O3⟩
        (fun b hb hn => C2.block b (HP.out.lt b (List.mem_append_right _ hb)) (by simp; exact ⟨fun e => hgb (e ▸ hb), by simpa using hn⟩))
      have CH2 := CH.trans (C2.mono fun b hb => by
        rcases List.mem_cons.1 hb with rfl | hb
        · exact List.mem_append_left _ (mem_obl.2 rfl)
        · exact List.mem_append_right _ (hbk b hb))
      clear hset ROW2 ROW3 C2 O3 C1 O2 ROW1
      have HPP' := Lib.hid HPP
      clear HPP
      go_wp2_with fail
      go_roundw
      case rel => exact ⟨j + 1, _, _, _, by omega, by go_num, rfl, by rw [show k + 1 + ((x.2.length : Nat) : Int) = k + mcOp x from by rw [hmc]; omega]; exact HS.out, HPP'.out, CH2⟩
      case measure => simp [intOf]; omega
    · have hj' : j = xs.length := by omega
      obtain ⟨rfl, hk⟩ := HM.done (List.drop_eq_nil_of_le (by omega))
      have HK := Lib.hid hk
      have HPP := Lib.hid hP
      clear hP hk hyl
      have hlt' : ¬ (j : Int) < (xs.length : Int) := by omega
      have hl := mkL_len mqOp mcOp k0 xs
      have HL := Lib.hid hl
      clear hl hj'
      go_wp2_with fail
      go_ret
      exact ⟨ret_int HK.out, ⟨_, css, bls, rfl, HPP.out, rfl⟩, CH⟩
set_option linter.unusedVariables false in
set_option maxHeartbeats 4000000 in
theorem heldOpS_any (A : Option Addr) (n c : Nat) (xs : List OpM) (k0 : Int) (w : World) (h : RdN shOp.m shOp.rd w A n (mkL mqOp mcOp k0 xs)) (h0 : 0 ≤ k0) (h1 : k0 + cntS mcOp xs ≤ 4611686018427387904) :
    Calls Tryz.prog 92 #[.slice A n c, .int .i64 k0] w (Bl w (.int .i64 (k0 + cntS mcOp xs))) := by
  have hle := h.le
  have hxl : xs.length = n := by rw [← mkL_len mqOp mcOp k0 xs]; exact h.len
  have HXL := Lib.hid hxl
  clear hxl
  go_enter Tryz.func92, Tryz.ntmps92
  go_wp2
  go_loopw [1, 5] (fun q i wr => ∃ (j : Nat) (k : Int), j ≤ n ∧ i = .int .i64 j ∧ q = .int .i64 k ∧ HkAt mqOp mcOp k0 xs j k ∧ Below w.heap.size w wr) (fun _ i _ => n - (intOf i).toNat)
  case atStart => exact ⟨0, k0, Nat.zero_le _, rfl, rfl, HkAt.start _ _, Below.refl _ _⟩
  case round =>
    obtain ⟨j, k, hj, rfl, rfl, HM, hT⟩ := hrel
    have h' := h.next hT
    by_cases hlt : j < n
    · have hjx : j < xs.length := by rw [HXL.out]; exact hlt
      have hd : xs.drop j = xs[j] :: xs.drop (j + 1) := List.drop_eq_getElem_cons hjx
      generalize xs[j] = x at hd
      obtain ⟨hxj, hk0, hk1⟩ := HM.left hd
      have HS := Lib.hid (HM.step hd)
      obtain ⟨b, o, vs, y, rfl, -, hc, hr, -, hy⟩ := h'.at hlt
      rw [hxj] at hy
      injection hy with hy
      subst hy
      obtain ⟨B, m, d, rfl, q0, q1⟩ := rdOp hr
      have cc0 : wr.cell? ⟨b, o + j * 2, none⟩ = some (.int .i64 k) := hc 0 _ rfl
      have cc1 : wr.cell? ⟨b, o + j * 2 + 1, none⟩ = some (.slice B m d) := hc 1 _ rfl
      have hmc : mcOp x = 1 + x.2.length := rfl
      have hne : (k != k) = false := by simp
      have hj0 : (0 : Int) ≤ (j : Int) := by omega
      have hj1 : (j : Int) < (n : Int) := by omega
      clear hc hd hxj hr
      go_wp2_with fail
      refine (heldIl_any B m d x.2 (k + 1) wr q1 (by omega) (by omega)).mono ?_
      rintro e w1 ⟨rfl, hb1⟩
      have hT1 := below_next hT hb1 rfl
      have hnn : ¬ k + 1 + (x.2.length : Int) < 0 := by omega
      clear cc0 cc1
      go_wp2_with fail
      go_roundw
      case rel => exact ⟨j + 1, _, by omega, by go_num, rfl, by rw [show k + 1 + ((x.2.length : Nat) : Int) = k + mcOp x from by rw [hmc]; omega]; exact HS.out, hT1⟩
      case measure => simp [intOf]; omega
    · have HK := Lib.hid (HM.done (List.drop_eq_nil_of_le (by rw [HXL.out]; omega)))
      have hlt' : ¬ (j : Int) < (n : Int) := by omega
      go_wp2_with fail
      go_ret
      exact ⟨ret_int HK.out, hT⟩
set_option linter.unusedVariables false in
set_option maxHeartbeats 2000000 in
theorem markAlgebra_any (cs : List Value) (x : AlgebraM) (bl : List Nat) (k0 : Int) (w : World) (h : shAlgebra.own w cs x bl) (hnd : bl.Nodup) (h0 : 0 ≤ k0) (h1 : k0 + msAlgebra x ≤ 4611686018427387904) :
    Calls Tryz.prog 50 #[.agg cs.toArray, .int .i64 k0] w (MkE shAlgebra w cs (mqAlgebra k0 x) bl (k0 + msAlgebra x)) := by
  obtain ⟨c0, c1, b0, b1, rfl, rfl, O0, O1⟩ := h
  obtain ⟨_, rfl, ⟨rfl, lo0, hi0⟩, rfl⟩ := O0
  obtain ⟨B, m, d, rfl, -⟩ := (Sh.rows shOp 122).ord O1
  obtain ⟨w0, hw0, T0, hsz0, BP⟩ := boxes1 w #[.int .i64 x.1, .slice B m d] 24
  have O2 := Sh.onext O1 T0
  go_enter Tryz.func50, Tryz.ntmps50
  go_wp2_with fail
  rw [← hw0]
  clear hw0
  refine (markOpS_any _ x.2 b1 k0 w0 O2 (by simpa using hnd) h0 h1).mono ?_
  rintro e w1 ⟨rfl, O3, hc⟩
  go_wp2_with fail
  go_ret
  exact ⟨rfl, ⟨[.int .i64 x.1], [.slice B m d], [], b1, rfl, rfl, ⟨_, rfl, ⟨rfl, lo0, hi0⟩, rfl⟩, O3⟩, (ChgB.ofBelow T0).trans (hc.mono fun b hb => by simpa using hb)⟩
set_option linter.unusedVariables false in
set_option maxHeartbeats 2000000 in
theorem heldAlgebra_any (cs : List Value) (x : AlgebraM) (k0 : Int) (w : World) (h : shAlgebra.rd w cs (mqAlgebra k0 x)) (h0 : 0 ≤ k0) (h1 : k0 + msAlgebra x ≤ 4611686018427387904) :
    Calls Tryz.prog 54 #[.agg cs.toArray, .int .i64 k0] w (Bl w (.int .i64 (k0 + msAlgebra x))) := by
  obtain ⟨B, m, d, rfl, q0, q1⟩ := rdAlgebra h
  obtain ⟨w0, hw0, T0, hsz0, BP⟩ := boxes1 w #[.int .i64 x.1, .slice B m d] 24
  go_enter Tryz.func54, Tryz.ntmps54
  go_wp2_with fail
  have hw0' : w.alloc (.cells #[.int .i64 (mqAlgebra k0 x).1, .slice B m d] 24) = w0 := hw0.symm
  rw [hw0']
  clear hw0' hw0
  refine (heldOpS_any _ _ _ x.2 k0 w0 (q1.next T0) h0 h1).mono ?_
  rintro e w1 ⟨rfl, hb1⟩
  have T1 := below_next T0 hb1 rfl
  have hnn : ¬ k0 + (cntS mcOp x.2 : Int) < 0 := by omega
  go_wp2_with fail
  go_ret
  exact ⟨rfl, T1⟩
end Go.Proofs.YtfnmkbpogbekpaaGreatDoor
namespace Go.Proofs.YtfnmkbpogbekpaaGreatDoor
open Go.RowKit

theorem pow_step {n k j : Nat} (h0 : 0 < j) (hj : j ≤ k) : n ^ (k - j) * n = n ^ (k - (j - 1)) := by
  rw [show k - (j - 1) = (k - j) + 1 by omega, Nat.pow_succ]
theorem pow_bd {n k : Nat} (hn : n ≤ 8) (hk : k ≤ 4) : n ^ k ≤ 4096 := by
  have h1 : n ^ k ≤ 8 ^ k := Nat.pow_le_pow_left hn k
  have h2 : 8 ^ k ≤ 8 ^ 4 := Nat.pow_le_pow_right (by decide) hk
  exact Nat.le_trans h1 h2
set_option maxHeartbeats 400000 in
theorem power_any (n k r : Nat) (w : World) (hr : n ^ k = r) (hn : n ≤ 8) (hk : k ≤ 4) :
    Calls Tryz.prog 141 #[.int .i64 n, .int .i64 k] w fun e w' => e = .returned (.int .i64 r) ∧ w = w' := by
  have HR := Lib.hid hr
  clear hr
  go_enter Tryz.func141, Tryz.ntmps141
  go_wp2
  go_loop [1, 5] (fun k' p => ∃ (j P : Nat), j ≤ k ∧ k' = .int .i64 j ∧ p = .int .i64 P ∧ Hid (P = n ^ (k - j))) (fun k' _ => (intOf k').toNat)
  case atStart => exact ⟨k, 1, Nat.le_refl _, rfl, rfl, by show _ = _; rw [Nat.sub_self, Nat.pow_zero]⟩
  case round =>
    obtain ⟨j, P, hj, rfl, rfl, HP⟩ := hrel
    by_cases hlt : 0 < j
    · have hP : P ≤ 4096 := by rw [HP.out]; exact pow_bd hn (by omega)
      have hM : P * n ≤ 4096 * 8 := Nat.mul_le_mul hP hn
      have hm0 : (0 : Int) ≤ (P : Int) * (n : Int) := by rw [← Int.natCast_mul]; omega
      have hm1 : (P : Int) * (n : Int) ≤ 32768 := by rw [← Int.natCast_mul]; omega
      have HE : Hid ((P : Int) * (n : Int) = ((P * n : Nat) : Int)) := (Int.natCast_mul _ _).symm
      have HF : Hid (P * n = n ^ (k - (j - 1))) := by show _ = _; rw [HP.out]; exact pow_step hlt hj
      have hj' : (0 : Int) < (j : Int) := by omega
      clear hM
      go_wp2
      go_round
      case rel => exact ⟨j - 1, P * n, by omega, by rw [show ((j - 1 : Nat) : Int) = (j : Int) - 1 by omega], by rw [HE.out], HF⟩
      case measure => simp [intOf]; omega
    · have hj' : ¬ (0 : Int) < (j : Int) := by omega
      have hj0 : (j : Int) ≤ 0 := by omega
      go_wp2
      go_ret
      exact ⟨ret_int (by rw [HP.out, show k - j = k by omega, HR.out]), rfl⟩
set_option maxHeartbeats 400000 in
theorem l2Pow_any (n k r : Nat) (w : World) (hr : n ^ k = r) (hn : n ≤ 8) (hk : k ≤ 4) :
    Calls Tryz.prog 96 #[.int .i64 n, .int .i64 k] w fun e w' => e = .returned (.int .i64 r) ∧ w = w' := by
  have HR := Lib.hid hr
  clear hr
  go_enter Tryz.func96, Tryz.ntmps96
  go_wp2
  go_loop [1, 5] (fun k' p => ∃ (j P : Nat), j ≤ k ∧ k' = .int .i64 j ∧ p = .int .i64 P ∧ Hid (P = n ^ (k - j))) (fun k' _ => (intOf k').toNat)
  case atStart => exact ⟨k, 1, Nat.le_refl _, rfl, rfl, by show _ = _; rw [Nat.sub_self, Nat.pow_zero]⟩
  case round =>
    obtain ⟨j, P, hj, rfl, rfl, HP⟩ := hrel
    by_cases hlt : 0 < j
    · have hP : P ≤ 4096 := by rw [HP.out]; exact pow_bd hn (by omega)
      have hM : P * n ≤ 4096 * 8 := Nat.mul_le_mul hP hn
      have hm0 : (0 : Int) ≤ (P : Int) * (n : Int) := by rw [← Int.natCast_mul]; omega
      have hm1 : (P : Int) * (n : Int) ≤ 32768 := by rw [← Int.natCast_mul]; omega
      have HE : Hid ((P : Int) * (n : Int) = ((P * n : Nat) : Int)) := (Int.natCast_mul _ _).symm
      have HF : Hid (P * n = n ^ (k - (j - 1))) := by show _ = _; rw [HP.out]; exact pow_step hlt hj
      have hj' : (0 : Int) < (j : Int) := by omega
      clear hM
      go_wp2
      go_round
      case rel => exact ⟨j - 1, P * n, by omega, by rw [show ((j - 1 : Nat) : Int) = (j : Int) - 1 by omega], by rw [HE.out], HF⟩
      case measure => simp [intOf]; omega
    · have hj' : ¬ (0 : Int) < (j : Int) := by omega
      have hj0 : (j : Int) ≤ 0 := by omega
      go_wp2
      go_ret
      exact ⟨ret_int (by rw [HP.out, show k - j = k by omega, HR.out]), rfl⟩

/-- Is x an operation on n elements? -/
def opB (n : Nat) (x : OpM) : Bool := inB x.1 0 3 && (decide (x.2.length = n ^ x.1.toNat) && allIn 0 ((n : Int) - 1) x.2)
theorem power_is {n k r : Nat} {w : World} (hr : n ^ k = r) (hn : n ≤ 8) (hk : k ≤ 4) : Calls Tryz.prog 141 #[.int .i64 n, .int .i64 k] w (Qt w (.int .i64 r)) := quiet_same (power_any n k r w hr hn hk)
theorem l2Pow_is {n k r : Nat} {w : World} (hr : n ^ k = r) (hn : n ≤ 8) (hk : k ≤ 4) : Calls Tryz.prog 96 #[.int .i64 n, .int .i64 k] w (Qt w (.int .i64 r)) := quiet_same (l2Pow_any n k r w hr hn hk)
theorem inSize_is {A : Option Addr} {n c : Nat} {xs : List Int} {m : Int} {w : World} {r : Bool} (hr : allIn 0 (m - 1) xs = r) (h : RdL RI w A n xs) : Calls Tryz.prog 130 #[.slice A n c, .int .i64 m] w (Qt w (.bool r)) := hr ▸ quiet_same (inSize_any A n c xs m w h)
theorem l1In_is {x a b : Int} {w : World} {r : Bool} (hr : inB x a b = r) : Calls Tryz.prog 68 #[.int .i64 x, .int .i64 a, .int .i64 b] w (Qt w (.bool r)) := hr ▸ quiet_same (l1In_any x a b w)

set_option maxRecDepth 20000 in
set_option maxHeartbeats 4000000 in
theorem isOp_any (cs : List Value) (x : OpM) (n : Nat) (w : World) (h : shOp.rd w cs x) (hn : n ≤ 8) :
    Calls Tryz.prog 125 #[.agg cs.toArray, .int .i64 n] w (Bl w (.bool (opB n x))) := by
  obtain ⟨a, t⟩ := x
  obtain ⟨B, m, d, rfl, ⟨lo, hi⟩, qt⟩ := rdOp h
  have hml := Lib.hid qt.len
  have hle := qt.le
  obtain ⟨w0, hw0, T0, hsz0, BP⟩ := boxes1 w #[.int .i64 a, .slice B m d] 122
  have HW0 := Lib.hid hw0
  clear hw0
  replace qt := qt.next stab_RI T0
  by_cases h0 : 0 ≤ a
  rotate_left
  · have HM : Hid (opB n (a, t) = false) := by show _ = _; unfold opB inB; simp [h0]
    go_enter Tryz.func125, Tryz.ntmps125
    go_upto_region 1 with fail
    rw [← HW0.out]
    have c0 := BP.cell 0
    have c1 := BP.cell 1
    simp at c0 c1
    go_quiet (fail)
    go_wp2_with fail
    go_ret
    exact ⟨ret_bool HM.out.symm, (by first | exact T0 | exact below_drewN (T0) _ | exact below_drewN (below_drewN (T0) _) _ | exact below_drewN (below_drewN (below_drewN (T0) _) _) _)⟩
  by_cases h3 : a ≤ 3
  rotate_left
  · have HM : Hid (opB n (a, t) = false) := by show _ = _; unfold opB inB; simp [h3]
    go_enter Tryz.func125, Tryz.ntmps125
    go_upto_region 1 with fail
    rw [← HW0.out]
    have c0 := BP.cell 0
    have c1 := BP.cell 1
    simp at c0 c1
    go_quiet (fail)
    go_wp2_with fail
    go_ret
    exact ⟨ret_bool HM.out.symm, (by first | exact T0 | exact below_drewN (T0) _ | exact below_drewN (below_drewN (T0) _) _ | exact below_drewN (below_drewN (below_drewN (T0) _) _) _)⟩
  obtain ⟨ar, rfl⟩ := Int.eq_ofNat_of_zero_le h0
  obtain ⟨r, hr⟩ : ∃ r, n ^ ar = r := ⟨_, rfl⟩
  have HR := Lib.hid hr
  clear hr
  have hd : decide (m = r) = ((m : Int) == (r : Int)) := by by_cases e : m = r <;> simp [e]; omega
  have HM : Hid (opB n ((ar : Int), t) = (((m : Int) == (r : Int)) && allIn 0 ((n : Int) - 1) t)) := by
    have hi3 : inB (ar : Int) 0 3 = true := by unfold inB; simp; omega
    show (inB (ar : Int) 0 3 && (decide (t.length = n ^ ((ar : Int)).toNat) && allIn 0 ((n : Int) - 1) t)) = _
    rw [hi3, Int.toNat_natCast, hml.out, HR.out, hd]
    rfl
  clear hd
  rcases h4 : allIn 0 ((n : Int) - 1) t with _ | _ <;> rcases h5 : ((m : Int) == (r : Int)) with _ | _
  all_goals
    have H4 := Lib.hid h4
    have H5 := Lib.hid h5
    clear h4
    go_enter Tryz.func125, Tryz.ntmps125
    go_upto_region 1 with fail
    rw [← HW0.out]
    have c0 := BP.cell 0
    have c1 := BP.cell 1
    simp at c0 c1
    go_quiet ((first | (go_at_call 141; first | exact quiet_one (power_is HR.out hn (by omega)) | exact quiet_add (power_is HR.out hn (by omega))) | (go_at_call 130; first | exact quiet_one (inSize_is H4.out (qt.drewN stab_RI _)) | exact quiet_add (inSize_is H4.out (qt.drewN stab_RI _)))))
    go_wp2_with fail
    go_ret
    exact ⟨ret_bool (by rw [HM.out, H4.out, H5.out]; rfl), (by first | exact T0 | exact below_drewN (T0) _ | exact below_drewN (below_drewN (T0) _) _ | exact below_drewN (below_drewN (below_drewN (T0) _) _) _)⟩

set_option maxRecDepth 20000 in
set_option maxHeartbeats 4000000 in
theorem l2Op_any (cs : List Value) (x : OpM) (n : Nat) (w : World) (h : shOp.rd w cs x) (hn : n ≤ 8) :
    Calls Tryz.prog 121 #[.int .i64 n, .agg cs.toArray] w (Bl w (.bool (opB n x))) := by
  obtain ⟨a, t⟩ := x
  obtain ⟨B, m, d, rfl, ⟨lo, hi⟩, qt⟩ := rdOp h
  have hml := Lib.hid qt.len
  have hle := qt.le
  obtain ⟨w0, hw0, T0, hsz0, BP⟩ := boxes1 w #[.int .i64 a, .slice B m d] 122
  have HW0 := Lib.hid hw0
  clear hw0
  replace qt := qt.next stab_RI T0
  rcases h0 : inB a 0 3 with _ | _
  · have HM : Hid (opB n (a, t) = false) := by show (inB a 0 3 && _) = false; rw [h0]; rfl
    have H0 := Lib.hid h0
    clear h0
    go_enter Tryz.func121, Tryz.ntmps121
    go_upto_region 1 with fail
    rw [← HW0.out]
    have c0 := BP.cell 0
    have c1 := BP.cell 1
    simp at c0 c1
    go_quiet ((go_at_call 68; first | exact quiet_one (l1In_is H0.out) | exact quiet_add (l1In_is H0.out)))
    go_wp2_with fail
    go_ret
    exact ⟨ret_bool HM.out.symm, (by first | exact T0 | exact below_drewN (T0) _ | exact below_drewN (below_drewN (T0) _) _ | exact below_drewN (below_drewN (below_drewN (T0) _) _) _)⟩
  have h03 : 0 ≤ a ∧ a ≤ 3 := by unfold inB at h0; simp at h0; omega
  have H0 := Lib.hid h0
  clear h0
  obtain ⟨ar, rfl⟩ := Int.eq_ofNat_of_zero_le h03.1
  obtain ⟨r, hr⟩ : ∃ r, n ^ ar = r := ⟨_, rfl⟩
  have HR := Lib.hid hr
  clear hr
  have hd : decide (m = r) = !((m : Int) != (r : Int)) := by by_cases e : m = r <;> simp [e]; omega
  have HM : Hid (opB n ((ar : Int), t) = (!((m : Int) != (r : Int)) && allIn 0 ((n : Int) - 1) t)) := by
    show (inB (ar : Int) 0 3 && (decide (t.length = n ^ ((ar : Int)).toNat) && allIn 0 ((n : Int) - 1) t)) = _
    rw [H0.out, Int.toNat_natCast, hml.out, HR.out, hd]
    rfl
  clear hd
  rcases h5 : ((m : Int) != (r : Int)) with _ | _
  all_goals
    have H5 := Lib.hid h5
    go_enter Tryz.func121, Tryz.ntmps121
    go_upto_region 1 with fail
    rw [← HW0.out]
    have c0 := BP.cell 0
    have c1 := BP.cell 1
    simp at c0 c1
    go_quiet ((first | (go_at_call 68; first | exact quiet_one (l1In_is H0.out) | exact quiet_add (l1In_is H0.out)) | (go_at_call 96; first | exact quiet_one (l2Pow_is HR.out hn (by omega)) | exact quiet_add (l2Pow_is HR.out hn (by omega)))))
  rotate_left
  · go_wp2_with fail
    go_ret
    exact ⟨ret_bool (by rw [HM.out, H5.out]; rfl), (by first | exact T0 | exact below_drewN (T0) _ | exact below_drewN (below_drewN (T0) _) _ | exact below_drewN (below_drewN (below_drewN (T0) _) _) _)⟩
  · have HN : Hid (opB n ((ar : Int), t) = allIn 0 ((n : Int) - 1) t) := by show _ = _; rw [HM.out, H5.out]; rfl
    clear HM c0 c1
    have hn1 : (0 : Int) ≤ (n : Int) := by omega
    have hn8 : (n : Int) ≤ 8 := by omega
    go_wp2_with fail
    go_loopw [5] (fun i wr => ∃ k : Nat, k ≤ m ∧ i = .int .i64 k ∧ At (allIn 0 ((n : Int) - 1)) t k ∧ Drawn w0 wr) (fun i _ => m - (intOf i).toNat)
    case atStart => exact ⟨0, Nat.zero_le _, rfl, rfl, (by first | exact Drawn.zero _ | exact Drawn.at_ _ _ | exact (Drawn.at_ _ _).more _ | exact ((Drawn.at_ _ _).more _).more _)⟩
    case round =>
      obtain ⟨k, hk, rfl, H, z, rfl⟩ := hrel
      have c1 := (BP.drewN z).cell 1
      simp at c1
      have q' := qt.drewN stab_RI z
      by_cases hlt : k < m
      · obtain ⟨b, o, v, x, rfl, hc, ⟨rfl, -⟩, hd, -⟩ := q'.at hlt
        have H1 := Lib.hid hd
        clear hd
        have hk0 : (0 : Int) ≤ (k : Int) := by omega
        have hk1 : (k : Int) < (m : Int) := by omega
        rcases hx : inB x 0 ((n : Int) - 1) with _ | _
        · have HX := Lib.hid hx
          clear hx
          go_wp2_with (go_at_call 68; refine (l1In_any _ _ _ _).mono ?_; rintro e w' ⟨rfl, rfl⟩; rw [HX.out])
          go_ret
          exact ⟨ret_bool (by rw [HN.out]; exact H.stop H1.out (by rw [allIn, HX.out]; rfl)), (by first | exact T0 | exact below_drewN (T0) _ | exact below_drewN (below_drewN (T0) _) _ | exact below_drewN (below_drewN (below_drewN (T0) _) _) _)⟩
        · have HX := Lib.hid hx
          clear hx
          go_wp2_with (go_at_call 68; refine (l1In_any _ _ _ _).mono ?_; rintro e w' ⟨rfl, rfl⟩; rw [HX.out])
          go_roundw
          case rel => exact ⟨k + 1, by omega, by go_num, H.step H1.out (by rw [allIn, HX.out]; rfl), (by first | exact Drawn.zero _ | exact Drawn.at_ _ _ | exact (Drawn.at_ _ _).more _ | exact ((Drawn.at_ _ _).more _).more _)⟩
          case measure => simp [intOf]; omega
      · have hlt' : ¬ (k : Int) < (m : Int) := by omega
        go_wp2_with fail
        go_ret
        exact ⟨ret_bool (by rw [HN.out]; exact H.done (qt.drop_end hlt) rfl), (by first | exact T0 | exact below_drewN (T0) _ | exact below_drewN (below_drewN (T0) _) _ | exact below_drewN (below_drewN (below_drewN (T0) _) _) _)⟩

/-- Is it an algebra? -/
def algB (x : AlgebraM) : Bool := inB x.1 1 8 && (decide (x.2.length ≤ 4) && x.2.all (opB x.1.toNat))
def allOp (n : Nat) (xs : List OpM) : Bool := xs.all (opB n)
theorem allOp_cons (n : Nat) (x : OpM) (xs : List OpM) : allOp n (x :: xs) = (opB n x && allOp n xs) := rfl
set_option maxRecDepth 20000 in
set_option maxHeartbeats 4000000 in
theorem isAlgebra_any (cs : List Value) (x : AlgebraM) (w : World) (h : shAlgebra.rd w cs x) :
    Calls Tryz.prog 74 #[.agg cs.toArray] w (Bl w (.bool (algB x))) := by
  obtain ⟨a, ops⟩ := x
  obtain ⟨B, m, d, rfl, ⟨lo, hi⟩, qo⟩ := rdAlgebra h
  have hml := Lib.hid qo.len
  have hle := qo.le
  obtain ⟨w0, hw0, T0, hsz0, BP⟩ := boxes1 w #[.int .i64 a, .slice B m d] 24
  have HW0 := Lib.hid hw0
  clear hw0
  by_cases h1 : a < 1
  · have HM : Hid (algB (a, ops) = false) := by show _ = _; unfold algB inB; simp; intro h; omega
    go_enter Tryz.func74, Tryz.ntmps74
    go_wp2_with fail
    go_ret
    exact ⟨ret_bool HM.out.symm, below_box _ _⟩
  by_cases h8 : 8 < a
  · have HM : Hid (algB (a, ops) = false) := by show _ = _; unfold algB inB; simp; intro h h'; omega
    go_enter Tryz.func74, Tryz.ntmps74
    go_wp2_with fail
    go_ret
    exact ⟨ret_bool HM.out.symm, below_box _ _⟩
  obtain ⟨n, rfl⟩ := Int.eq_ofNat_of_zero_le (show 0 ≤ a by omega)
  have hi8 : inB (n : Int) 1 8 = true := by unfold inB; simp; omega
  by_cases h4 : 4 < m
  · have HM : Hid (algB ((n : Int), ops) = false) := by show (inB (n : Int) 1 8 && (decide (ops.length ≤ 4) && _)) = false; rw [hml.out]; simp; intro _ h; omega
    go_enter Tryz.func74, Tryz.ntmps74
    go_wp2_with fail
    go_ret
    exact ⟨ret_bool HM.out.symm, below_box _ _⟩
  have HM : Hid (algB ((n : Int), ops) = allOp n ops) := by
    show (inB (n : Int) 1 8 && (decide (ops.length ≤ 4) && ops.all (opB (n : Int).toNat))) = _
    rw [hi8, hml.out, Int.toNat_natCast, show decide (m ≤ 4) = true by simp; omega]
    rfl
  clear hi8
  have hn8 : n ≤ 8 := by omega
  replace qo := qo.next T0
  go_enter Tryz.func74, Tryz.ntmps74
  go_wp2_with fail
  rw [← HW0.out]
  go_loopw [4, 22] (fun _ i wr => ∃ k : Nat, k ≤ m ∧ i = .int .i64 k ∧ At (allOp n) ops k ∧ Below w0.heap.size w0 wr) (fun _ i _ => m - (intOf i).toNat)
  case atStart => exact ⟨0, Nat.zero_le _, rfl, rfl, Below.refl _ _⟩
  case round =>
    obtain ⟨k, hk, rfl, H, hT⟩ := hrel
    have q' := qo.next hT
    by_cases hlt : k < m
    · obtain ⟨b, o, vs, x, rfl, -, hc, hr, hd, -⟩ := q'.at hlt
      obtain ⟨B', m', d', rfl, qa, qt⟩ := rdOp hr
      have cc0 : wr.cell? ⟨b, o + k * 2, none⟩ = some (.int .i64 x.1) := hc 0 _ rfl
      have cc1 : wr.cell? ⟨b, o + k * 2 + 1, none⟩ = some (.slice B' m' d') := hc 1 _ rfl
      obtain ⟨w1, hw1, T1, hsz1, BX⟩ := boxes1 wr #[.int .i64 x.1, .slice B' m' d'] 122
      have HW1 := Lib.hid hw1
      have cP := ((BP.next hT).next T1).cell 0
      simp at cP
      rw [HW1.out] at cP
      have H1 := Lib.hid hd
      have hr1 := shOp.stab hr T1.block
      have hT1 := below_next hT T1 rfl
      clear hd hc hw1
      have hk0 : (0 : Int) ≤ (k : Int) := by omega
      have hk1 : (k : Int) < (m : Int) := by omega
      obtain ⟨r, hr'⟩ : ∃ r, opB n x = r := ⟨_, rfl⟩
      have HR := Lib.hid hr'
      clear hr'
      go_wp2_with fail
      rw [← HW1.out]
      refine (isOp_any _ x n _ hr1 hn8).mono ?_
      rintro e w2 ⟨rfl, hb2⟩
      rw [HR.out]
      have hT2 := below_next hT1 hb2 rfl
      clear cc0 cc1 cP
      rcases r with _ | _
      · go_wp2_with fail
        go_ret
        exact ⟨ret_bool (by rw [HM.out]; exact H.stop H1.out (by rw [allOp_cons, HR.out]; rfl)), below_next T0 hT2 rfl⟩
      · go_wp2_with fail
        go_roundw
        case rel => exact ⟨k + 1, by omega, by go_num, H.step H1.out (by rw [allOp_cons, HR.out]; rfl), hT2⟩
        case measure => simp [intOf]; omega
    · have hlt' : ¬ (k : Int) < (m : Int) := by omega
      go_wp2_with fail
      go_ret
      exact ⟨ret_bool (by rw [HM.out]; exact H.done (qo.drop_end hlt) rfl), below_next T0 hT rfl⟩

set_option maxRecDepth 20000 in
set_option maxHeartbeats 4000000 in
theorem l2Good_any (cs : List Value) (x : AlgebraM) (w : World) (h : shAlgebra.rd w cs x) :
    Calls Tryz.prog 69 #[.agg cs.toArray] w (Bl w (.bool (algB x))) := by
  obtain ⟨a, ops⟩ := x
  obtain ⟨B, m, d, rfl, ⟨lo, hi⟩, qo⟩ := rdAlgebra h
  have hml := Lib.hid qo.len
  have hle := qo.le
  obtain ⟨w0, hw0, T0, hsz0, BP⟩ := boxes1 w #[.int .i64 a, .slice B m d] 24
  have HW0 := Lib.hid hw0
  clear hw0
  rcases h1 : inB a 1 8 with _ | _
  · have HM : Hid (algB (a, ops) = false) := by show (inB a 1 8 && _) = false; rw [h1]; rfl
    have H1 := Lib.hid h1
    clear h1
    go_enter Tryz.func69, Tryz.ntmps69
    go_wp2_with (go_at_call 68; refine (l1In_any _ _ _ _).mono ?_; rintro e w' ⟨rfl, rfl⟩; rw [H1.out])
    go_ret
    exact ⟨ret_bool HM.out.symm, below_box _ _⟩
  have h18 : 1 ≤ a ∧ a ≤ 8 := by unfold inB at h1; simp at h1; omega
  have H1 := Lib.hid h1
  clear h1
  obtain ⟨n, rfl⟩ := Int.eq_ofNat_of_zero_le (show 0 ≤ a by omega)
  by_cases h4 : 4 < m
  · have HM : Hid (algB ((n : Int), ops) = false) := by show (inB (n : Int) 1 8 && (decide (ops.length ≤ 4) && _)) = false; rw [hml.out]; simp; intro _ h; omega
    go_enter Tryz.func69, Tryz.ntmps69
    go_wp2_with (go_at_call 68; refine (l1In_any _ _ _ _).mono ?_; rintro e w' ⟨rfl, rfl⟩; rw [H1.out])
    go_ret
    exact ⟨ret_bool HM.out.symm, below_box _ _⟩
  have HM : Hid (algB ((n : Int), ops) = allOp n ops) := by
    show (inB (n : Int) 1 8 && (decide (ops.length ≤ 4) && ops.all (opB (n : Int).toNat))) = _
    rw [H1.out, hml.out, Int.toNat_natCast, show decide (m ≤ 4) = true by simp; omega]
    rfl
  have hn8 : n ≤ 8 := by omega
  replace qo := qo.next T0
  go_enter Tryz.func69, Tryz.ntmps69
  go_wp2_with (go_at_call 68; refine (l1In_any _ _ _ _).mono ?_; rintro e w' ⟨rfl, rfl⟩; rw [H1.out])
  rw [← HW0.out]
  go_loopw [3] (fun i wr => ∃ k : Nat, k ≤ m ∧ i = .int .i64 k ∧ At (allOp n) ops k ∧ Below w0.heap.size w0 wr) (fun i _ => m - (intOf i).toNat)
  case atStart => exact ⟨0, Nat.zero_le _, rfl, rfl, Below.refl _ _⟩
  case round =>
    obtain ⟨k, hk, rfl, H, hT⟩ := hrel
    have q' := qo.next hT
    have BPr := BP.next hT
    have cP0 := BPr.cell 0
    have cP1 := BPr.cell 1
    simp at cP0 cP1
    by_cases hlt : k < m
    · obtain ⟨b, o, vs, x, rfl, -, hc, hr, hd, -⟩ := q'.at hlt
      obtain ⟨B', m', d', rfl, qa, qt⟩ := rdOp hr
      have cc0 : wr.cell? ⟨b, o + k * 2, none⟩ = some (.int .i64 x.1) := hc 0 _ rfl
      have cc1 : wr.cell? ⟨b, o + k * 2 + 1, none⟩ = some (.slice B' m' d') := hc 1 _ rfl
      have HD := Lib.hid hd
      clear hd hc
      have hk0 : (0 : Int) ≤ (k : Int) := by omega
      have hk1 : (k : Int) < (m : Int) := by omega
      obtain ⟨r, hr'⟩ : ∃ r, opB n x = r := ⟨_, rfl⟩
      have HR := Lib.hid hr'
      clear hr'
      have Tk : Below wr.heap.size wr wr := Below.refl _ _
      go_upto_region 6 with fail
      go_cut [29] (fun v wx => v = .bool (!r) ∧ Below wr.heap.size wr wx)
      case first =>
        go_region_held3 (fun w' => w'.cell? ⟨w.heap.size, 0, none⟩ = some (.int .i64 n) ∧ w'.cell? ⟨w.heap.size, 1, none⟩ = some (.slice (some ⟨b, o, none⟩) m d) ∧ w'.cell? ⟨b, o + k * 2, none⟩ = some (.int .i64 x.1) ∧ w'.cell? ⟨b, o + k * 2 + 1, none⟩ = some (.slice B' m' d')) (first | go_keep | exact ⟨keepc Tk cP0, keepc Tk cP1, keepc Tk cc0, keepc Tk cc1⟩) ((go_at_call 121; refine (l2Op_any [.int .i64 x.1, .slice B' m' d'] x n _ (shOp.stab hr (by first | exact Tk.block | exact (Below.drew Tk).block)) hn8).mono ?_; rintro e wn ⟨rfl, hbn⟩; replace Tk := below_next (by first | exact Tk | exact Below.drew Tk) hbn rfl; rw [HR.out]))
        all_goals (go_wp2_with fail; go_meet; exact ⟨rfl, Tk⟩)
      case rest =>
        obtain ⟨rfl, hb4⟩ := hcut
        have hT2 := below_next hT hb4 rfl
        clear hb4 Tk cP0 cP1 cc0 cc1
        rcases r with _ | _
        · go_wp2_with fail
          go_ret
          exact ⟨ret_bool (by rw [HM.out]; exact H.stop HD.out (by rw [allOp_cons, HR.out]; rfl)), below_next T0 hT2 rfl⟩
        · go_wp2_with fail
          go_roundw
          case rel => exact ⟨k + 1, by omega, by go_num, H.step HD.out (by rw [allOp_cons, HR.out]; rfl), hT2⟩
          case measure => simp [intOf]; omega
    · have hlt' : ¬ (k : Int) < (m : Int) := by omega
      go_wp2_with fail
      go_ret
      exact ⟨ret_bool (by rw [HM.out]; exact H.done (qo.drop_end hlt) rfl), below_next T0 hT rfl⟩

end Go.Proofs.YtfnmkbpogbekpaaGreatDoor
namespace Go.Proofs.YtfnmkbpogbekpaaGreatDoor
open Go.RowKit

def codeL : List OpM → List Int
  | [] => []
  | x :: l => x.2 ++ codeL l
theorem codeL_len : ∀ xs : List OpM, (codeL xs).length = cntS shOp.cnt xs
  | [] => rfl
  | x :: l => by
    rw [codeL, List.length_append, codeL_len l, cntS_cons]
    show x.2.length + _ = (0 + x.2.length) + _
    omega
/-- What has been gathered, and what the rest gives. -/
def CdAt (xs : List OpM) (k : Nat) (acc : List Int) : Prop := acc ++ codeL (xs.drop k) = codeL xs
theorem CdAt.step {xs : List OpM} {k : Nat} {acc : List Int} {x : OpM} (h : CdAt xs k acc) (hd : xs.drop k = x :: xs.drop (k + 1)) : CdAt xs (k + 1) (acc ++ x.2) := by
  unfold CdAt at *
  rw [← h, hd, codeL, List.append_assoc]
theorem CdAt.done {xs : List OpM} {k : Nat} {acc : List Int} (h : CdAt xs k acc) (hd : xs.drop k = []) : acc = codeL xs := by
  unfold CdAt at h
  rwa [hd, codeL, List.append_nil] at h
theorem CdAt.len {xs : List OpM} {k : Nat} {acc : List Int} {x : OpM} (h : CdAt xs k acc) (hd : xs.drop k = x :: xs.drop (k + 1)) : acc.length + x.2.length ≤ cntS shOp.cnt xs := by
  unfold CdAt at h
  have := congrArg List.length h
  rw [hd, codeL, List.length_append, List.length_append, codeL_len] at this
  have h2 := codeL_len xs
  omega
theorem own_off {w : World} {base : Nat} {e : TypeId} {size : Nat} {v : Value} {n : Nat} {xs : List Value} (h : w.ownsRow base e size v n xs) {g : Nat} {t : TypeId} {cs : Array Value} (hB : Blk w g t cs) (hne : e ≠ t) : v.ownBlock ≠ some g := by
  rcases h.2 with ⟨rfl, _⟩ | ⟨g1, cap, cur, rfl, _, hh, _⟩
  · simp [Value.ownBlock]
  · intro hc
    simp only [Value.ownBlock, Option.some.injEq] at hc
    subst hc
    rw [hB] at hh
    injection hh with hh
    injection hh with _ ht
    exact hne ht.symm
/-! ## CodeOf -/
theorem obl_iv {w : World} {base size : Nat} {e : TypeId} {v : Value} {n : Nat} {xs : List Value} (h : w.ownsRow base e size v n xs) : Iv base w.heap.size (obl v) := by
  refine ⟨?_, fun b hb => h.lt b (mem_obl.1 hb)⟩
  unfold obl
  cases v.ownBlock <;> simp
theorem mcle_stAlgebra {x : AlgebraM} (h : shAlgebra.cnt x ≤ 1048576) : msAlgebra x ≤ 4194304 := by
  have hcn : 0 + (x.2.length + cntS shOp.cnt x.2) ≤ 1048576 := h
  have : ∀ l : List OpM, cntS mcOp l = l.length + cntS shOp.cnt l := fun l => by
    induction l with
    | nil => rfl
    | cons y l ih =>
      rw [cntS_cons, cntS_cons, ih, List.length_cons]
      show 1 + y.2.length + _ = _ + ((0 + y.2.length) + _)
      omega
  unfold msAlgebra
  rw [this]
  omega
end Go.Proofs.YtfnmkbpogbekpaaGreatDoor
namespace Go.Proofs.YtfnmkbpogbekpaaGreatDoor
open Go.RowKit

end Go.Proofs.YtfnmkbpogbekpaaGreatDoor
namespace Go.Proofs.YtfnmkbpogbekpaaGreatDoor
open Go.RowKit

/-- The marked numbers in ascending order. -/
def markL (n : Nat) (M : Nat → Bool) : List Int := ((List.range n).filter M).map fun (y : Nat) => (y : Int)
theorem markL_congr {n : Nat} {M H : Nat → Bool} (h : ∀ y, y < n → M y = H y) : markL n M = markL n H := by
  unfold markL
  congr 1
  exact List.filter_congr fun y hy => h y (List.mem_range.1 hy)
theorem markL_succ (n : Nat) (M : Nat → Bool) : markL (n + 1) M = markL n M ++ if M n then [(n : Int)] else [] := by
  unfold markL
  rw [List.range_succ, List.filter_append, List.map_append]
  congr 1
  rcases e : M n with _ | _ <;> simp [e]
theorem markL_mem {n : Nat} {M : Nat → Bool} {v : Int} : v ∈ markL n M ↔ ∃ y : Nat, y < n ∧ M y = true ∧ v = (y : Int) := by
  unfold markL
  rw [List.mem_map]
  constructor
  · rintro ⟨y, hy, rfl⟩
    rw [List.mem_filter, List.mem_range] at hy
    exact ⟨y, hy.1, hy.2, rfl⟩
  · rintro ⟨y, h1, h2, rfl⟩
    exact ⟨y, List.mem_filter.2 ⟨List.mem_range.2 h1, h2⟩, rfl⟩
theorem markL_le (n : Nat) (M : Nat → Bool) : (markL n M).length ≤ n := by
  unfold markL
  rw [List.length_map]
  exact Nat.le_trans (List.length_filter_le _ _) (by simp)
theorem markL_in {n : Nat} {M : Nat → Bool} : ∀ v ∈ markL n M, 0 ≤ v ∧ v ≤ (n : Int) - 1 := fun v hv => by
  obtain ⟨y, hy, -, rfl⟩ := markL_mem.1 hv
  omega
/-! ## Marks as a list of truth values -/
def gB (L : List Bool) (y : Nat) : Bool := L.getD y false
theorem gB_get {L : List Bool} {y : Nat} {b : Bool} (h : L[y]? = some b) : gB L y = b := by unfold gB; rw [List.getD_eq_getElem?_getD, h]; rfl
theorem gB_at {L : List Bool} {y : Nat} (h : y < L.length) : L[y]? = some (gB L y) := by unfold gB; rw [List.getD_eq_getElem?_getD, List.getElem?_eq_getElem h]; rfl
theorem gB_set {L : List Bool} {x y : Nat} (hx : x < L.length) (b : Bool) : gB (L.set x b) y = if y = x then b else gB L y := by
  unfold gB
  rw [List.getD_eq_getElem?_getD, List.getElem?_set]
  by_cases h : x = y
  · subst h
    rw [if_pos rfl, if_pos hx, if_pos rfl]
    rfl
  · rw [if_neg h, if_neg (fun e => h e.symm), List.getD_eq_getElem?_getD]
theorem markL_asc (n : Nat) (M : Nat → Bool) : (markL n M).Pairwise (· < ·) := by
  unfold markL
  rw [List.pairwise_map]
  exact ((List.pairwise_lt_range (n := n)).filter _).imp fun h => by omega
theorem gB_ext {L M : List Bool} {n : Nat} (hl : L.length = n) (hm : M.length = n) (h : ∀ y, y < n → gB L y = gB M y) : L = M := by
  apply List.ext_getElem?
  intro y
  by_cases hy : y < n
  · rw [gB_at (by omega), gB_at (by omega), h y hy]
  · rw [List.getElem?_eq_none (by omega), List.getElem?_eq_none (by omega)]
def inL (n : Nat) (S : List Int) : List Bool := (List.range n).map fun (y : Nat) => hasI (y : Int) S
theorem inL_len (n : Nat) (S : List Int) : (inL n S).length = n := by simp [inL]
theorem hasI_m {x : Int} : ∀ {l : List Int}, hasI x l = true ↔ x ∈ l
  | [] => by simp [hasI]
  | y :: l => by
    rw [hasI, Bool.or_eq_true, hasI_m, beq_iff_eq, List.mem_cons]
    exact ⟨fun h => h.imp Eq.symm id, fun h => h.imp Eq.symm id⟩
end Go.Proofs.YtfnmkbpogbekpaaGreatDoor
