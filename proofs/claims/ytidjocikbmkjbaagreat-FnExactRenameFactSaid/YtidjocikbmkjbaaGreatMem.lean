
/- Words for memory that all texts of this seat use: a block that is known whole, worlds that agree below a block, strings as lists of bytes. Plain theorems, no program. -/
import Derived.WalkKit
import Derived.WalkSpells
import Derived.WalkLawsBesides
import Derived.Lib.Hide
import Derived.Lib.IndexMore
import Derived.BigGuardPart
import Derived.BigQuiet
import Derived.Deep.QuietTactic
namespace Go.Proofs.YtidjocikbmkjbaaGreat
open Go.RowKit

theorem ret_bool {a b : Bool} (h : a = b) : Ending.returned (.bool a) = .returned (.bool b) := by rw [h]
theorem ret_int {k : IntKind} {a b : Int} (h : a = b) : Ending.returned (.int k a) = .returned (.int k b) := by rw [h]
theorem ret_str {a b : ByteArray} (h : a = b) : Ending.returned (.string a) = .returned (.string b) := by rw [h]

/-- The call returns v, and of what was there nothing has turned. -/
def Bl (w : World) (v : Value) (e : Ending) (w' : World) : Prop := e = .returned v ∧ Below w.heap.size w w'

/-- wr is w but for draws. -/
def Drawn (w wr : World) : Prop := ∃ z, wr = w.drewN z
theorem Drawn.zero (w : World) : Drawn w w := ⟨0, rfl⟩
theorem Drawn.at_ (w : World) (z : Nat) : Drawn w (w.drewN z) := ⟨z, rfl⟩
theorem Drawn.more {w wr : World} (h : Drawn w wr) (m : Nat) : Drawn w (wr.drewN m) := by
  obtain ⟨z, rfl⟩ := h
  exact ⟨z + m, World.drewN_drewN ..⟩
/-- The call returns v and only reads. -/
def Qt (w : World) (v : Value) (e : Ending) (w' : World) : Prop := e = .returned v ∧ Drawn w w'
theorem quiet_add {P : Program} {f : FuncId} {args : Array Value} {w : World} {a n : Nat} {v : Value}
    (h : Calls P f args (w.drewN (a + n)) (Qt (w.drewN (a + n)) v)) : Calls P f args (w.drewN (a + n)) fun e w'' => e = .returned v ∧ ∃ m, w'' = w.drewN (a + m) :=
  h.mono fun _ _ ⟨he, m, hm⟩ => ⟨he, n + m, by rw [hm, World.drewN_drewN, Nat.add_assoc]⟩
theorem quiet_one {P : Program} {f : FuncId} {args : Array Value} {w : World} {n : Nat} {v : Value}
    (h : Calls P f args (w.drewN n) (Qt (w.drewN n) v)) : Calls P f args (w.drewN n) fun e w'' => e = .returned v ∧ ∃ m, w'' = w.drewN m :=
  h.mono fun _ _ ⟨he, m, hm⟩ => ⟨he, n + m, by rw [hm, World.drewN_drewN]⟩
/-- A contract that leaves the world alone is a quiet one. -/
theorem quiet_same {P : Program} {f : FuncId} {args : Array Value} {w : World} {v : Value} (h : Calls P f args w fun e w' => e = .returned v ∧ w = w') : Calls P f args w (Qt w v) :=
  h.mono fun _ _ ⟨he, hm⟩ => ⟨he, 0, hm.symm⟩
theorem Qt.zero {w : World} {v : Value} : Qt w v (.returned v) w := ⟨rfl, 0, rfl⟩
theorem Qt.bl {w w' : World} {v : Value} {e : Ending} (h : Qt w v e w') : Bl w v e w' := by
  obtain ⟨he, n, rfl⟩ := h
  exact ⟨he, ⟨rfl, rfl, rfl, Nat.le_refl _, fun _ _ => rfl⟩⟩
theorem bl_of_quiet {P : Program} {f : FuncId} {args : Array Value} {w : World} {v : Value} (h : Calls P f args w (Qt w v)) : Calls P f args w (Bl w v) := h.mono fun _ _ h => h.bl
theorem bcell {W w1 : World} (hb : Below W.heap.size W w1) : (∀ b o, b < W.heap.size → w1.cell? ⟨b, o, none⟩ = W.cell? ⟨b, o, none⟩) ∧ (∀ b o, b < W.heap.size → w1.frozen? ⟨b, o, none⟩ = W.frozen? ⟨b, o, none⟩) :=
  ⟨fun b o h => hb.cell (p := ⟨b, o, none⟩) h, fun b o h => hb.frozen (p := ⟨b, o, none⟩) h⟩
/-- One call more behind what is below B as it was. -/
theorem below_next {B : Nat} {w w1 w2 : World} (h : Below B w w1) (k : Below w1.heap.size w1 w2) (hB : B = w.heap.size) : Below B w w2 :=
  h.trans (k.mono (by rw [hB]; exact h.size))
theorem below_drewN {B : Nat} {a w : World} (h : Below B a w) (k : Nat) : Below B a (w.drewN k) := ⟨h.os, h.tape, h.output, h.size, h.block⟩
theorem below_box (w : World) (o : Obj) : Below w.heap.size w (w.alloc o) := (Below.refl _ _).alloc (Nat.le_refl _) _
theorem below_box2 (w : World) (o o2 : Obj) : Below w.heap.size w ((w.alloc o).alloc o2) := (below_box w o).alloc (by simp) _
theorem below_box3 (w : World) (o o2 o3 : Obj) : Below w.heap.size w (((w.alloc o).alloc o2).alloc o3) := (below_box2 w o o2).alloc (by simp; omega) _
theorem below_box4 (w : World) (o o2 o3 o4 : Obj) : Below w.heap.size w ((((w.alloc o).alloc o2).alloc o3).alloc o4) := (below_box3 w o o2 o3).alloc (by simp; omega) _

/-- Block g holds just the cells cs of element type t, none frozen. -/
def Blk (w : World) (g : Nat) (t : TypeId) (cs : Array Value) : Prop := w.heap[g]? = some (.cells cs t (0, 0))
section
variable {w w' : World} {g : Nat} {t : TypeId} {cs : Array Value}
theorem Blk.lt (h : Blk w g t cs) : g < w.heap.size := by
  rcases Nat.lt_or_ge g w.heap.size with hlt | hge
  · exact hlt
  · unfold Blk at h; rw [Array.getElem?_eq_none hge] at h; cases h
theorem Blk.cell (h : Blk w g t cs) (i : Nat) : w.cell? ⟨g, i, none⟩ = cs[i]? := cell_of_row w g i cs t (0, 0) h
theorem Blk.frozen (h : Blk w g t cs) (i : Nat) : w.frozen? ⟨g, i, none⟩ = false := by
  unfold Blk at h
  simp [World.frozen?, h]
theorem Blk.new (w : World) (t : TypeId) (cs : Array Value) : Blk (w.alloc (.cells cs t)) w.heap.size t cs := heap_alloc_new w _
theorem Blk.drew (h : Blk w g t cs) : Blk w.drew g t cs := h
theorem Blk.drewN (h : Blk w g t cs) (n : Nat) : Blk (w.drewN n) g t cs := h
theorem Blk.alloc (h : Blk w g t cs) (o : Obj) : Blk (w.alloc o) g t cs := (Below.heap_alloc w o g h.lt).trans h
theorem Blk.set_ (h : Blk w g t cs) (i : Nat) (u : Value) : Blk (w.setCell ⟨g, i, none⟩ u) g t (cs.setIfInBounds i u) := by
  unfold Blk at h ⊢
  simp [World.setCell, Array.getElem?_modify, h]
theorem Blk.far (h : Blk w g t cs) {p : Addr} (hp : g ≠ p.block) (u : Value) : Blk (w.setCell p u) g t cs := (Below.heap_setCell w p u g hp).trans h
theorem Blk.below {B : Nat} (h : Blk w g t cs) (hb : Below B w w') (hg : g < B) : Blk w' g t cs := (hb.block g hg).trans h
theorem Blk.next (h : Blk w g t cs) (hb : Below w.heap.size w w') : Blk w' g t cs := h.below hb h.lt
theorem Blk.grown {row : Option Nat} (h : Blk w g t cs) (hb : w.grownBy w' row) (hg : some g ≠ row) : Blk w' g t cs := (hb.block g h.lt hg).trans h
theorem Blk.ne_ {g' : Nat} {t' : TypeId} {cs' : Array Value} (h : Blk w g t cs) (h' : Blk w g' t' cs') (hne : t ≠ t') : g ≠ g' := by
  rintro rfl
  unfold Blk at h h'
  rw [h] at h'
  injection h' with h'
  injection h' with _ ht
  exact hne ht
end

/-- The bytes of a string. -/
def bs (s : ByteArray) : List UInt8 := s.data.toList
theorem bs_len (s : ByteArray) : (bs s).length = s.size := rfl
theorem bs_mk (l : List UInt8) : bs ⟨l.toArray⟩ = l := rfl
theorem bs_inj {a b : ByteArray} (h : bs a = bs b) : a = b := by
  obtain ⟨⟨a⟩⟩ := a
  obtain ⟨⟨b⟩⟩ := b
  simp only [bs] at h
  rw [h]
theorem bs_empty (s : ByteArray) : s.toList.isEmpty = (bs s).isEmpty := by rw [ByteArray.toList_eq]; rfl
theorem drop_cons (s : ByteArray) (k : Nat) (h : k < s.size) : (bs s).drop k = s[k] :: (bs s).drop (k + 1) := by
  unfold bs; exact List.drop_eq_getElem_cons (l := s.data.toList) h
theorem drop_end (s : ByteArray) (k : Nat) (h : ¬ k < s.size) : (bs s).drop k = [] := by
  apply List.drop_eq_nil_of_le
  show s.data.size ≤ k
  exact Nat.le_of_not_lt h
theorem byte_lt (c : UInt8) : (c.toNat : Int) < 256 := by have := c.toNat_lt; omega
theorem byte64 (c : UInt8) : wrap64 (c.toNat : Int) = c.toNat := by
  have : c.toNat < 256 := c.toNat_lt
  exact IntWalk.wrap64_in _ ⟨by omega, by omega⟩

/-- Does the byte c stand in the list? -/
def has (c : Int) : List UInt8 → Bool
  | [] => false
  | x :: l => (x.toNat : Int) == c || has c l
theorem has_indexByte (c : UInt8) : ∀ l : List UInt8, decide (0 ≤ Lib.indexByte l c) = has c.toNat l
  | [] => rfl
  | x :: l => by
    have ih := has_indexByte c l
    have hg := Lib.indexByte_ge l c
    unfold has Lib.indexByte
    rw [← ih]
    by_cases h : x = c
    · subst h; simp
    · have h1 : (x == c) = false := beq_eq_false_iff_ne.2 h
      have h2 : ((x.toNat : Int) == (c.toNat : Int)) = false := beq_eq_false_iff_ne.2 (fun e => h (UInt8.toNat_inj.1 (by omega)))
      rw [h1, h2, Bool.false_or, if_neg (by decide)]
      by_cases h3 : Lib.indexByte l c = -1
      · rw [h3]; simp
      · have h4 : (Lib.indexByte l c == -1) = false := beq_eq_false_iff_ne.2 h3
        rw [h4, if_neg (by decide)]
        have : (0 ≤ Lib.indexByte l c + 1) ↔ (0 ≤ Lib.indexByte l c) := by omega
        simp only [this]

theorem bf1 {b : Bool} (h : ¬ b = true) : b = false := by simpa using h
theorem bf2 {b : Bool} (h : (!b) = true) : b = false := by simpa using h
theorem bt2 {b : Bool} (h : (!b) = false) : b = true := by simpa using h
theorem nef {x y : Int} (h : (x != y) = true) : (x == y) = false := by simpa using h
theorem net {x y : Int} (h : (x != y) = false) : (x == y) = true := by simpa using h
theorem eqc {x y : Int} {b : Bool} (h : (y == x) = b) : (x == y) = b := by rw [← h]; exact Bool.beq_comm
theorem nefc {x y : Int} (h : (y != x) = true) : (x == y) = false := eqc (nef h)
theorem netc {x y : Int} (h : (y != x) = false) : (x == y) = true := eqc (net h)

/-! ## Slices that read as lists -/
/-- A slice value that begins at A, of n elements, reads as xs: its k-th cell holds a value that R says is xs[k]. -/
def RdL {α : Type} (R : World → Value → α → Prop) (w : World) (A : Option Addr) (n : Nat) (xs : List α) : Prop :=
  xs.length = n ∧ n ≤ maxLen ∧ ∀ k x, xs[k]? = some x → ∃ b o v, A = some ⟨b, o, none⟩ ∧ w.cell? ⟨b, o + k, none⟩ = some v ∧ R w v x
theorem cell_lt {w : World} {p : Addr} {v : Value} (h : w.cell? p = some v) : p.block < w.heap.size := by
  rcases Nat.lt_or_ge p.block w.heap.size with hlt | hge
  · exact hlt
  · exfalso
    have : w.heap[p.block]? = none := Array.getElem?_eq_none hge
    simp [World.cell?, this] at h
def RI (_ : World) (v : Value) (x : Int) : Prop := v = .int .i64 x ∧ -9223372036854775808 ≤ x ∧ x ≤ 9223372036854775807
def RB (_ : World) (v : Value) (x : Bool) : Prop := v = .bool x
def RS (_ : World) (v : Value) (x : ByteArray) : Prop := v = .string x ∧ x.size ≤ maxLen
/-- A slice value reads as a list. -/
def RV {α : Type} (R : World → Value → α → Prop) (w : World) (v : Value) (xs : List α) : Prop := ∃ A n c, v = .slice A n c ∧ RdL R w A n xs
/-- What R says holds on where the blocks that there were hold what they held. -/
def Stab {α : Type} (R : World → Value → α → Prop) : Prop := ∀ w w' v x, (∀ b, b < w.heap.size → w'.heap[b]? = w.heap[b]?) → R w v x → R w' v x
theorem stab_RI : Stab RI := fun _ _ _ _ _ h => h
theorem stab_RB : Stab RB := fun _ _ _ _ _ h => h
theorem stab_RS : Stab RS := fun _ _ _ _ _ h => h
section
variable {α : Type} {R : World → Value → α → Prop} {w w' : World} {A : Option Addr} {n : Nat} {xs : List α}
theorem RdL.same (hR : Stab R) (h : RdL R w A n xs) (hb : ∀ b, b < w.heap.size → w'.heap[b]? = w.heap[b]?) : RdL R w' A n xs :=
  ⟨h.1, h.2.1, fun k x hk => by
    obtain ⟨b, o, v, e, hc, hr⟩ := h.2.2 k x hk
    exact ⟨b, o, v, e, (World.cell?_of_block (w := w) (hb b (cell_lt hc))).trans hc, hR _ _ _ _ hb hr⟩⟩
theorem RdL.next (hR : Stab R) (h : RdL R w A n xs) (hb : Below w.heap.size w w') : RdL R w' A n xs := h.same hR hb.block
theorem RdL.drew (h : RdL R w A n xs) (hR : Stab R) : RdL R w.drew A n xs := h.same hR fun _ _ => rfl
theorem RdL.drewN (h : RdL R w A n xs) (hR : Stab R) (k : Nat) : RdL R (w.drewN k) A n xs := h.same hR fun _ _ => rfl
theorem RdL.alloc (h : RdL R w A n xs) (hR : Stab R) (o : Obj) : RdL R (w.alloc o) A n xs := h.next hR (below_box w o)
theorem RdL.len (h : RdL R w A n xs) : xs.length = n := h.1
theorem RdL.le (h : RdL R w A n xs) : n ≤ 9223372036854775807 := by have := h.2.1; unfold maxLen at this; omega
theorem RdL.nil (R : World → Value → α → Prop) (w : World) (A : Option Addr) : RdL R w A 0 [] := ⟨rfl, Nat.zero_le _, fun k x hk => by simp at hk⟩
theorem stab_RV (hR : Stab R) : Stab (RV R) := fun _ _ _ _ hb ⟨A, n, c, e, h⟩ => ⟨A, n, c, e, h.same hR hb⟩
/-- The cell of the k-th element; and the list from there on. -/
theorem RdL.at (h : RdL R w A n xs) {k : Nat} (hk : k < n) : ∃ b o v x, A = some ⟨b, o, none⟩ ∧ w.cell? ⟨b, o + k, none⟩ = some v ∧ R w v x ∧ xs.drop k = x :: xs.drop (k + 1) ∧ xs[k]? = some x := by
  have hl : k < xs.length := by rw [h.1]; exact hk
  obtain ⟨b, o, v, e, hc, hr⟩ := h.2.2 k _ (List.getElem?_eq_getElem hl)
  exact ⟨b, o, v, xs[k], e, hc, hr, List.drop_eq_getElem_cons hl, List.getElem?_eq_getElem hl⟩
theorem RdL.at' {b o : Nat} (h : RdL R w (some ⟨b, o, none⟩) n xs) {k : Nat} (hk : k < n) : ∃ v x, w.cell? ⟨b, o + k, none⟩ = some v ∧ R w v x ∧ xs.drop k = x :: xs.drop (k + 1) ∧ xs[k]? = some x := by
  obtain ⟨b', o', v, x, e, r⟩ := h.at hk
  simp only [Option.some.injEq, Addr.mk.injEq, and_true] at e
  obtain ⟨rfl, rfl⟩ := e
  exact ⟨v, x, r⟩
theorem RdL.drop_end (h : RdL R w A n xs) {k : Nat} (hk : ¬ k < n) : xs.drop k = [] := List.drop_eq_nil_of_le (by rw [h.1]; omega)
theorem RdL.ofOwn {base : Nat} {e : TypeId} {v : Value} {vs : List Value} (hn : n ≤ maxLen) (h : w.ownsRow base e 1 v n vs) (hl : xs.length = n) (hr : ∀ (k : Nat) x, xs[k]? = some x → ∃ u, vs[k]? = some u ∧ R w u x) :
    ∃ A c, v = .slice A n c ∧ RdL R w A n xs := by
  rcases h.2 with ⟨rfl, rfl⟩ | ⟨g, cap, cur, rfl, hb, hg, hnc, hcm, hcs, ht⟩
  · have : xs = [] := List.eq_nil_of_length_eq_zero hl
    subst this
    exact ⟨none, 0, rfl, RdL.nil _ _ _⟩
  · refine ⟨_, cap, rfl, hl, hn, fun k x hk => ?_⟩
    obtain ⟨u, hu, hr'⟩ := hr k x hk
    refine ⟨g, 0, u, rfl, ?_, hr'⟩
    have hkn : k < n := by have := (List.getElem?_eq_some_iff.1 hk).1; omega
    have := h.cellAt k (by omega)
    rw [Nat.zero_add, this]
    exact hu
end
/-- An int slice of the call's own: it lies in a block of its own from lo on (below hi), nothing frozen. -/
def OwL {α : Type} (R : World → Value → α → Prop) (lo hi : Nat) (w : World) (A : Option Addr) (n : Nat) (xs : List α) : Prop :=
  RdL R w A n xs ∧ (0 < n → ∃ b o, A = some ⟨b, o, none⟩ ∧ lo ≤ b ∧ b < hi ∧ ∀ k, k < n → w.frozen? ⟨b, o + k, none⟩ = false)
section
variable {α : Type} {R : World → Value → α → Prop} {w w' : World} {A : Option Addr} {n lo hi : Nat} {xs : List α}
theorem OwL.rd (h : OwL R lo hi w A n xs) : RdL R w A n xs := h.1
theorem OwL.mono {lo' hi' : Nat} (h : OwL R lo hi w A n xs) (h1 : lo' ≤ lo) (h2 : hi ≤ hi') : OwL R lo' hi' w A n xs :=
  ⟨h.1, fun hn => by obtain ⟨b, o, e, hb, hb', hf⟩ := h.2 hn; exact ⟨b, o, e, by omega, by omega, hf⟩⟩
end
/-- The first k cells done, the others as they were made. -/
def fillTo (vs : List Value) (z : Value) (n k : Nat) : List Value := vs.take k ++ List.replicate (n - k) z
theorem fillTo_zero (vs : List Value) (z : Value) (n : Nat) : fillTo vs z n 0 = List.replicate n z := by simp [fillTo]
theorem fillTo_all {vs : List Value} (z : Value) {n k : Nat} (hl : vs.length = n) (hk : ¬ k < n) : fillTo vs z n k = vs := by
  have h : n - k = 0 := by omega
  simp only [fillTo, h, List.replicate_zero, List.append_nil]
  exact List.take_of_length_le (by omega)
theorem fillTo_get {vs : List Value} {z : Value} {n k : Nat} (hl : vs.length = n) (hk : k < n) : (fillTo vs z n k)[k]? = some z := by
  have h1 : (vs.take k).length = k := by rw [List.length_take]; omega
  unfold fillTo
  rw [List.getElem?_append_right (by omega), h1, Nat.sub_self, List.getElem?_replicate, if_pos (by omega)]
theorem fillTo_set {vs : List Value} {z v : Value} {n k : Nat} (hl : vs.length = n) (hk : k < n) (hv : vs[k]? = some v) : (fillTo vs z n k).set k v = fillTo vs z n (k + 1) := by
  have h1 : (vs.take k).length = k := by rw [List.length_take]; omega
  unfold fillTo
  rw [List.set_append_right _ _ (by omega), h1, Nat.sub_self]
  have h2 : n - k = (n - (k + 1)) + 1 := by omega
  rw [h2, List.replicate_succ, List.set_cons_zero, List.take_add_one, hv]
  simp

/-! ## Rows of the call's own -/
section
variable {w w' : World} {base : Nat} {e : TypeId} {size : Nat} {v : Value} {n : Nat} {xs : List Value}
theorem own_same (h : w.ownsRow base e size v n xs) (hb : ∀ b, v.ownBlock = some b → w'.heap[b]? = w.heap[b]?) : w'.ownsRow base e size v n xs := by
  obtain ⟨h1, h2⟩ := h
  refine ⟨h1, ?_⟩
  rcases h2 with h2 | ⟨g, cap, cur, hv, hg, hh, r⟩
  · exact Or.inl h2
  · exact Or.inr ⟨g, cap, cur, hv, hg, by rw [hb g (by rw [hv]; rfl)]; exact hh, r⟩
theorem own_next (h : w.ownsRow base e size v n xs) (hb : Below w.heap.size w w') : w'.ownsRow base e size v n xs :=
  own_same h fun b hv => hb.block b (h.lt b hv).2
theorem own_below {B : Nat} (h : w.ownsRow base e size v n xs) (hb : Below B w w') (hB : ∀ b, v.ownBlock = some b → b < B) : w'.ownsRow base e size v n xs :=
  own_same h fun b hv => hb.block b (hB b hv)
theorem own_drewN (h : w.ownsRow base e size v n xs) (k : Nat) : (w.drewN k).ownsRow base e size v n xs := h
theorem own_mono {base' : Nat} (h : w.ownsRow base e size v n xs) (hb : base' ≤ base) : w.ownsRow base' e size v n xs := by
  obtain ⟨h1, h2⟩ := h
  refine ⟨h1, ?_⟩
  rcases h2 with h2 | ⟨g, cap, cur, hv, hg, r⟩
  · exact Or.inl h2
  · exact Or.inr ⟨g, cap, cur, hv, by omega, r⟩
theorem own_set (h : w.ownsRow base e size v n xs) {p : Addr} (hp : v.ownBlock ≠ some p.block) (u : Value) : (w.setCell p u).ownsRow base e size v n xs :=
  own_same h fun b hv => Below.heap_setCell w p u b (fun ee => hp (by rw [hv, ee]))
theorem own_ne {e' : TypeId} {base' size' : Nat} {v' : Value} {n' : Nat} {xs' : List Value} (h : w.ownsRow base e size v n xs) (h' : w.ownsRow base' e' size' v' n' xs') (hne : e ≠ e') {g : Nat} (hg : v.ownBlock = some g) : v'.ownBlock ≠ some g := by
  rcases h.2 with ⟨rfl, _⟩ | ⟨g1, cap, cur, rfl, _, hh, _⟩
  · simp [Value.ownBlock] at hg
  · rcases h'.2 with ⟨rfl, _⟩ | ⟨g2, cap2, cur2, rfl, _, hh2, _⟩
    · simp [Value.ownBlock]
    · intro hc
      simp only [Value.ownBlock, Option.some.injEq] at hg hc
      subst hg
      subst hc
      rw [hh] at hh2
      injection hh2 with hh2
      injection hh2 with _ ht
      exact hne ht
theorem own_grown_below {B : Nat} {a : World} (h : Below B a w) {row : Option Nat} (hg : w.grownBy w' row) (hB : B ≤ w.heap.size) (hr : ∀ k, row = some k → B ≤ k) : Below B a w' := h.grown hg hB hr
end

/-- A slice of slices of the call's own: an outer row, inner rows, each in a block of its own. -/
def OwM {α : Type} (eo ei : TypeId) (f : α → Value) (lo : Nat) (w : World) (v : Value) (n : Nat) (xss : List (List α)) : Prop :=
  ∃ vs : List Value, w.ownsRow lo eo 1 v n vs ∧ vs.length = xss.length ∧ (∀ (k : Nat) u xs, vs[k]? = some u → xss[k]? = some xs → w.ownsRow lo ei 1 u xs.length (xs.map f)) ∧ (vs.filterMap Value.ownBlock).Nodup
/-- A row that is owned reads as its list. -/
theorem rd_of_own {α : Type} {R : World → Value → α → Prop} {f : α → Value} {w : World} {base : Nat} {e : TypeId} {A : Option Addr} {n c : Nat} {xs : List α} (h : w.ownsRow base e 1 (.slice A n c) n (xs.map f))
    (hR : ∀ x ∈ xs, R w (f x) x) : RdL R w A n xs := by
  have hl : xs.length = n := by have := h.1; simpa using this
  have hn : n ≤ maxLen := by
    rcases h.2 with ⟨_, h0⟩ | ⟨g, cap, cur, _, _, _, h1, h2, _⟩
    · omega
    · omega
  obtain ⟨A', c', e', hr⟩ := RdL.ofOwn (R := R) (xs := xs) hn h hl (fun k x hk => ⟨f x, by simp [hk], hR x (List.mem_of_getElem? hk)⟩)
  injection e' with e1 e2 e3
  rw [e1]
  exact hr
theorem own_slice {w : World} {base : Nat} {e : TypeId} {size : Nat} {v : Value} {n : Nat} {xs : List Value} (h : w.ownsRow base e size v n xs) : ∃ A c, v = .slice A n c := by
  rcases h.2 with ⟨rfl, rfl⟩ | ⟨g, cap, cur, rfl, _⟩
  · exact ⟨none, 0, rfl⟩
  · exact ⟨_, cap, rfl⟩
section
variable {α : Type} {eo ei : TypeId} {f : α → Value} {lo : Nat} {w w' : World} {v : Value} {n : Nat} {xss : List (List α)}
theorem OwM.next (h : OwM eo ei f lo w v n xss) (hb : Below w.heap.size w w') : OwM eo ei f lo w' v n xss := by
  obtain ⟨vs, h1, h2, h3, h4⟩ := h
  exact ⟨vs, own_next h1 hb, h2, fun k u xs hu hx => own_next (h3 k u xs hu hx) hb, h4⟩
theorem OwM.mono {lo' : Nat} (h : OwM eo ei f lo w v n xss) (hb : lo' ≤ lo) : OwM eo ei f lo' w v n xss := by
  obtain ⟨vs, h1, h2, h3, h4⟩ := h
  exact ⟨vs, own_mono h1 hb, h2, fun k u xs hu hx => own_mono (h3 k u xs hu hx) hb, h4⟩
theorem OwM.rd {R : World → Value → α → Prop} {A : Option Addr} {c : Nat} (h : OwM eo ei f lo w (.slice A n c) n xss) (hR : ∀ xs ∈ xss, ∀ x ∈ xs, R w (f x) x) : RdL (RV R) w A n xss := by
  obtain ⟨vs, h1, h2, h3, h4⟩ := h
  have hl : vs.length = n := by have := h1.1; simpa using this
  have hn : n ≤ maxLen := by
    rcases h1.2 with ⟨_, h0⟩ | ⟨g, cap, cur, _, _, _, h1, h2, _⟩
    · omega
    · omega
  obtain ⟨A', c', e', hr⟩ := RdL.ofOwn (R := RV R) (xs := xss) hn h1 (by omega) (fun k xs hk => by
    have hk' : k < vs.length := by rw [h2]; exact (List.getElem?_eq_some_iff.1 hk).1
    have hu : vs[k]? = some vs[k] := List.getElem?_eq_getElem hk'
    have ho := h3 k _ xs hu hk
    obtain ⟨B, d, hv⟩ := own_slice ho
    rw [hv] at ho
    exact ⟨_, hu, B, xs.length, d, hv, rd_of_own ho (hR xs (List.mem_of_getElem? hk))⟩)
  injection e' with e1 e2 e3
  rw [e1]
  exact hr
end

/-- A matrix being filled: k rows laid, the other n - k places as made. -/
def FillM {α : Type} (eo ei : TypeId) (f : α → Value) (lo g n : Nat) (w : World) (xss : List (List α)) (k : Nat) : Prop :=
  ∃ vs : List Value, w.ownsRow lo eo 1 (.slice (some ⟨g, 0, none⟩) n n) n (vs ++ List.replicate (n - k) (.slice none 0 0)) ∧ vs.length = k ∧ (∀ (j : Nat) u xs, vs[j]? = some u → xss[j]? = some xs → w.ownsRow lo ei 1 u xs.length (xs.map f)) ∧ (vs.filterMap Value.ownBlock).Nodup
section
variable {α : Type} {eo ei : TypeId} {f : α → Value} {lo g n : Nat} {w w' : World} {xss : List (List α)} {k : Nat}
theorem FillM.start (h : w.ownsRow lo eo 1 (.slice (some ⟨g, 0, none⟩) n n) n (List.replicate n (.slice none 0 0))) : FillM eo ei f lo g n w xss 0 :=
  ⟨[], by simpa using h, rfl, fun j u xs hu => by simp at hu, by simp⟩
theorem FillM.next (h : FillM eo ei f lo g n w xss k) (hb : Below w.heap.size w w') : FillM eo ei f lo g n w' xss k := by
  obtain ⟨vs, h1, h2, h3, h4⟩ := h
  exact ⟨vs, own_next h1 hb, h2, fun k u xs hu hx => own_next (h3 k u xs hu hx) hb, h4⟩
theorem FillM.cell (h : FillM eo ei f lo g n w xss k) (hk : k < n) : w.cell? ⟨g, k, none⟩ = some (.slice none 0 0) := by
  obtain ⟨vs, h1, h2, -, -⟩ := h
  rw [h1.cellAt k (by omega), List.getElem?_append_right (by omega), h2, Nat.sub_self, List.getElem?_replicate, if_pos (by omega)]
theorem FillM.frozen (h : FillM eo ei f lo g n w xss k) : w.frozen? ⟨g, k, none⟩ = false := by
  obtain ⟨vs, h1, -, -, -⟩ := h
  exact h1.frozenAt k
theorem FillM.lt (h : FillM eo ei f lo g n w xss k) : lo ≤ g ∧ g < w.heap.size := by
  obtain ⟨vs, h1, -, -, -⟩ := h
  exact h1.lt g rfl
/-- One row more, that a call has laid since. -/
theorem FillM.set_ (hne : eo ≠ ei) (h0 : FillM eo ei f lo g n w xss k) (hb : Below w.heap.size w w') (hk : k < n) {u : Value} {xs : List α} (hx : xss[k]? = some xs) (hu0 : w'.ownsRow w.heap.size ei 1 u xs.length (xs.map f)) (hlo : lo ≤ w.heap.size) :
    FillM eo ei f lo g n (w'.setCell ⟨g, k, none⟩ u) xss (k + 1) := by
  have hu := own_mono hu0 hlo
  obtain ⟨vs, h01, h2, h03, h4⟩ := h0
  have h1 := own_next h01 hb
  have hst := (h1.stored k u).1
  refine ⟨vs ++ [u], ?_, by simp [h2], ?_, ?_⟩
  · have e : (vs ++ List.replicate (n - k) (Value.slice none 0 0)).set k u = (vs ++ [u]) ++ List.replicate (n - (k + 1)) (.slice none 0 0) := by
      rw [List.set_append_right _ _ (by omega), h2, Nat.sub_self]
      have h2 : n - k = (n - (k + 1)) + 1 := by omega
      rw [h2, List.replicate_succ, List.set_cons_zero]
      simp
    rw [← e]
    exact hst
  · intro j v ys hv hy
    have far : ∀ {v : Value} {ys : List α}, w'.ownsRow lo ei 1 v ys.length (ys.map f) → (w'.setCell ⟨g, k, none⟩ u).ownsRow lo ei 1 v ys.length (ys.map f) := fun ho =>
      own_set (p := ⟨g, k, none⟩) ho (fun hc => own_ne ho h1 hne.symm (g := g) hc rfl) u
    rcases Nat.lt_or_ge j k with hj | hj
    · rw [List.getElem?_append_left (by omega)] at hv
      exact far (own_next (h03 j v ys hv hy) hb)
    · have hjk : j = k := by
        have := (List.getElem?_eq_some_iff.1 hv).1
        simp at this
        omega
      subst hjk
      rw [List.getElem?_append_right (by omega), h2, Nat.sub_self] at hv
      simp at hv
      subst hv
      rw [hx] at hy
      injection hy with hy
      subst hy
      exact far hu
  · rw [List.filterMap_append, List.nodup_append]
    refine ⟨h4, ?_, ?_⟩
    · simp only [List.filterMap_cons, List.filterMap_nil]
      cases u.ownBlock <;> simp
    · intro a ha b hb
      simp only [List.filterMap_cons, List.filterMap_nil] at hb
      obtain ⟨v, hv, hva⟩ := List.mem_filterMap.1 ha
      obtain ⟨j, hj⟩ := List.getElem?_of_mem hv
      have hjk := (List.getElem?_eq_some_iff.1 hj).1
      have hjx : j < xss.length := by have := (List.getElem?_eq_some_iff.1 hx).1; omega
      have hlt := ((h03 j v _ hj (List.getElem?_eq_getElem hjx)).lt a hva).2
      cases hub : u.ownBlock with
      | none => rw [hub] at hb; simp at hb
      | some b' =>
        rw [hub] at hb
        simp at hb
        subst hb
        have := (hu0.lt b hub).1
        omega
theorem FillM.done (h : FillM eo ei f lo g n w xss k) (hl : xss.length = n) (hk : k ≤ n) (hk' : ¬ k < n) : OwM eo ei f lo w (.slice (some ⟨g, 0, none⟩) n n) n xss := by
  obtain ⟨vs, h1, h2, h3, h4⟩ := h
  have e : n - k = 0 := by omega
  rw [e] at h1
  simp only [List.replicate_zero, List.append_nil] at h1
  exact ⟨vs, h1, by omega, h3, h4⟩
end

/-! ## Loops over a list: what is left answers as the whole does -/
def At {α β : Type} (f : List α → β) (xs : List α) (k : Nat) : Prop := f (xs.drop k) = f xs
section
variable {α β : Type} {f : List α → β} {xs : List α} {k : Nat} {x : α} {r : β}
theorem At.start (f : List α → β) (xs : List α) : At f xs 0 := rfl
theorem At.step (h : At f xs k) (hd : xs.drop k = x :: xs.drop (k + 1)) (he : f (x :: xs.drop (k + 1)) = f (xs.drop (k + 1))) : At f xs (k + 1) := by
  unfold At at *; rw [← h, hd, he]
theorem At.stop (h : At f xs k) (hd : xs.drop k = x :: xs.drop (k + 1)) (he : f (x :: xs.drop (k + 1)) = r) : r = f xs := by
  unfold At at *; rw [← h, hd, he]
theorem At.done (h : At f xs k) (hd : xs.drop k = []) (he : f [] = r) : r = f xs := by
  unfold At at *; rw [← h, hd, he]
end
def At2 {α β γ : Type} (f : List α → List γ → β) (xs : List α) (ys : List γ) (k : Nat) : Prop := f (xs.drop k) (ys.drop k) = f xs ys
section
variable {α β γ : Type} {f : List α → List γ → β} {xs : List α} {ys : List γ} {k : Nat} {x : α} {y : γ} {r : β}
theorem At2.start (f : List α → List γ → β) (xs : List α) (ys : List γ) : At2 f xs ys 0 := rfl
theorem At2.step (h : At2 f xs ys k) (hd : xs.drop k = x :: xs.drop (k + 1)) (hd' : ys.drop k = y :: ys.drop (k + 1)) (he : f (x :: xs.drop (k + 1)) (y :: ys.drop (k + 1)) = f (xs.drop (k + 1)) (ys.drop (k + 1))) : At2 f xs ys (k + 1) := by
  unfold At2 at *; rw [← h, hd, hd', he]
theorem At2.stop (h : At2 f xs ys k) (hd : xs.drop k = x :: xs.drop (k + 1)) (hd' : ys.drop k = y :: ys.drop (k + 1)) (he : f (x :: xs.drop (k + 1)) (y :: ys.drop (k + 1)) = r) : r = f xs ys := by
  unfold At2 at *; rw [← h, hd, hd', he]
theorem At2.done (h : At2 f xs ys k) {l : List α} {m : List γ} (hd : xs.drop k = l) (hd' : ys.drop k = m) (he : f l m = r) : r = f xs ys := by
  unfold At2 at *; rw [← h, hd, hd', he]
end
/-- A loop that gathers: what has been gathered, and behind it what the rest gives, is what the whole gives. -/
def Acc {α γ : Type} (f : List α → List γ) (xs : List α) (k : Nat) (acc : List γ) : Prop := acc ++ f (xs.drop k) = f xs
section
variable {α γ : Type} {f : List α → List γ} {xs : List α} {k : Nat} {x : α} {y : γ} {acc : List γ}
theorem Acc.start (f : List α → List γ) (xs : List α) : Acc f xs 0 [] := rfl
theorem Acc.keep (h : Acc f xs k acc) (hd : xs.drop k = x :: xs.drop (k + 1)) (he : f (x :: xs.drop (k + 1)) = y :: f (xs.drop (k + 1))) : Acc f xs (k + 1) (acc ++ [y]) := by
  unfold Acc at *; rw [← h, hd, he]; simp
theorem Acc.skip (h : Acc f xs k acc) (hd : xs.drop k = x :: xs.drop (k + 1)) (he : f (x :: xs.drop (k + 1)) = f (xs.drop (k + 1))) : Acc f xs (k + 1) acc := by
  unfold Acc at *; rw [← h, hd, he]
theorem Acc.done (h : Acc f xs k acc) (hd : xs.drop k = []) (he : f [] = []) : acc = f xs := by
  unfold Acc at *; rw [← h, hd, he]; simp
end

/-! ## append of one element to a row of the call's own -/
theorem wp_app1 {P : Program} (w0 : World) {o : Oper} {a : Act} {K : Act → World → Prop} {Q : Exit → Act → World → Prop} (s x : Operand) (t e : TypeId)
    (ho : o.op = .call { callee := .builtin .append, args := #[s, x], argTypes := #[t, t] }) (z : Value) (bytes : Nat)
    (ht : P.underlying t = some (.slice e)) (hi : (P.info? e).map (fun i => (i.zero, i.size, i.bytes)) = some (some z, 1, bytes)) (hzs : z.cells.size = 1) (hbb : bytes ≤ 64)
    (base n c : Nat) (A : Option Addr) (xs : List Value) (hs : a.eval s = .slice A n c) (hown : w0.ownsRow base e 1 (.slice A n c) n xs) (u : Value) (h1 : u.oneCell' = true) (hx : a.eval x = .slice (some ⟨w0.heap.size, 0, none⟩) 1 1)
    (hn : n ≤ 1099511627776) (hbase : base ≤ w0.heap.size)
    (hK : ∀ A' c' w', w'.ownsRow base e 1 (.slice A' (n + 1) c') (n + 1) (xs ++ [u]) → w0.grownBy w' (Value.slice A n c).ownBlock → Below base w0 w' → K (a.put o.dst (.slice A' (n + 1) c')) w') :
    o.wp P a (w0.alloc (.cells #[u] e)) K Q := by
  obtain ⟨i, hi, hz, hsize, hby⟩ := info_parts hi
  have hbound : (n + 1) * bytes ≤ 140737488355328 := Nat.le_trans (Nat.mul_le_mul_left (n + 1) hbb) (by omega)
  refine wp_append_own (w0.alloc (.cells #[u] e)) s x t ho base e i z 1 bytes ht hi hz hsize hby hzs (by omega) (.slice A n c) n xs hs (hown.alloc _) ⟨w0.heap.size, 0, none⟩ 1 1 [u] hx rfl ?_ ?_ (by unfold maxLen; omega) hbound (by simp; omega) ?_
  · intro j v hj
    match j, hj with
    | 0, hj => simp at hj; subst hj; simp [Addr.add]
  · intro v hv; simp at hv; subst hv; exact h1
  · intro v' w' hown' hgrow _
    obtain ⟨A', c', rfl⟩ := own_slice hown'
    have hg : w0.grownBy w' (Value.slice A n c).ownBlock :=
      ⟨hgrow.os, hgrow.tape, hgrow.output, Nat.le_trans (by simp) hgrow.size, fun k hk hne => (hgrow.block k (by simp; omega) hne).trans (Below.heap_alloc w0 _ k hk)⟩
    exact hK A' c' w' hown' hg ((Below.refl base w0).grown hg hbase (fun k hk => (hown.lt k hk).1))

theorem run_append_of_nil {P : Program} (w : World) (base : Nat) (t ty e : TypeId) (i : TypeInfo) (size : Nat) (ht : P.underlying t = some (.slice e)) (hi : P.info? e = some i)
    (v : Value) (n : Nat) (xs : List Value) (hown : w.ownsRow base e size v n xs) (c : Nat) : (Builtin.append_ #[t, t] ty #[v, .slice none 0 c]).run P w = .ok v w := by
  rcases hown.2 with ⟨rfl, rfl⟩ | ⟨g, cap, cur, rfl, _, _, hnc, _⟩
  · simp [Builtin.append_, run_underlying ht, sizeOf, typeInfo, hi, Builtin.lenOf, Builtin.firstCells]
  · simp [Builtin.append_, run_underlying ht, sizeOf, typeInfo, hi, Builtin.lenOf, Builtin.firstCells, hnc, storeCells]
/-- append of a whole slice, nil or not, to a row of the call's own. -/
theorem wp_appAny {P : Program} {α : Type} {R : World → Value → α → Prop} (w : World) {o : Oper} {a : Act} {K : Act → World → Prop} {Q : Exit → Act → World → Prop} (s x : Operand) (t e : TypeId)
    (ho : o.op = .call { callee := .builtin .append, args := #[s, x], argTypes := #[t, t] }) (z : Value) (bytes : Nat)
    (ht : P.underlying t = some (.slice e)) (hi : (P.info? e).map (fun i => (i.zero, i.size, i.bytes)) = some (some z, 1, bytes)) (hzs : z.cells.size = 1) (hbb : bytes ≤ 64)
    (base n c : Nat) (A : Option Addr) (vs : List Value) (hs : a.eval s = .slice A n c) (hown : w.ownsRow base e 1 (.slice A n c) n vs)
    (B : Option Addr) (m d : Nat) (xs : List α) (f : α → Value) (h1 : ∀ x, (f x).oneCell' = true) (hx : a.eval x = .slice B m d) (hr : RdL R w B m xs) (hf : ∀ w v x, R w v x → v = f x)
    (hn : n + m ≤ 1099511627776) (hbase : base ≤ w.heap.size)
    (hK : ∀ A' c' w', w'.ownsRow base e 1 (.slice A' (n + m) c') (n + m) (vs ++ xs.map f) → w.grownBy w' (Value.slice A n c).ownBlock → Below base w w' → K (a.put o.dst (.slice A' (n + m) c')) w') :
    o.wp P a w K Q := by
  obtain ⟨i, hi, hz, hsize, hby⟩ := info_parts hi
  have hbound : (n + m) * bytes ≤ 140737488355328 := Nat.le_trans (Nat.mul_le_mul_left (n + m) hbb) (by omega)
  rcases B with _ | ad
  · have hm : m = 0 := by
      rcases Nat.eq_zero_or_pos m with h0 | h0
      · exact h0
      · obtain ⟨b, o, v, x, h, _⟩ := hr.at h0
        cases h
    subst hm
    have hxs : xs = [] := List.eq_nil_of_length_eq_zero hr.1
    subst hxs
    have hrun := run_append_of_nil (P := P) w base t o.type e i 1 ht hi _ n vs hown d
    unfold Oper.wp execOp
    simp only [ho, resolve, invoke, builtin, Sem.run_bind, Sem.run_pure, Result.andThen_ok, List.map_toArray, List.map_cons, List.map_nil, hs, hx, hrun]
    exact hK A c w (by simpa using hown) (World.grownBy.refl w _) (Below.refl _ _)
  · refine wp_append_own w s x t ho base e i z 1 bytes ht hi hz hsize hby hzs (by omega) (.slice A n c) n vs hs hown ad m d (xs.map f) hx (by simp [hr.1]) ?_ ?_ (by unfold maxLen; omega) hbound hbase ?_
    · intro j u hu
      rw [List.getElem?_map] at hu
      obtain ⟨y, hy, rfl⟩ := Option.map_eq_some_iff.1 hu
      obtain ⟨b, o, v, e', hc, hv⟩ := hr.2.2 j y hy
      have he : ad = ⟨b, o, none⟩ := by injection e'
      subst he
      rw [hf _ _ _ hv] at hc
      have ea : (⟨b, o, none⟩ : Addr).add j = ⟨b, o + j, none⟩ := by
        unfold Addr.add
        split
        · rename_i h0; subst h0; rfl
        · rfl
      rw [ea]
      exact hc
    · intro v hv
      obtain ⟨y, -, rfl⟩ := List.mem_map.1 hv
      exact h1 y
    · intro v' w' hown' hgrow _
      obtain ⟨A', c', rfl⟩ := own_slice hown'
      exact hK A' c' w' hown' hgrow ((Below.refl base w).grown hgrow hbase (fun k hk => (hown.lt k hk).1))
theorem app1 {P : Program} (w0 : World) {ops : Array Oper} {rest : List Oper} {o : Oper} {a : Act} {Q : Exit → Act → World → Prop} (hgd : o.guard = none) (s x : Operand) (t e : TypeId)
    (ho : o.op = .call { callee := .builtin .append, args := #[s, x], argTypes := #[t, t] }) (z : Value) (bytes : Nat)
    (ht : P.underlying t = some (.slice e)) (hi : (P.info? e).map (fun i => (i.zero, i.size, i.bytes)) = some (some z, 1, bytes)) (hzs : z.cells.size = 1) (hbb : bytes ≤ 64)
    (base n c : Nat) (A : Option Addr) (xs : List Value) (hs : a.eval s = .slice A n c) (hown : w0.ownsRow base e 1 (.slice A n c) n xs) (u : Value) (h1 : u.oneCell' = true) (hx : a.eval x = .slice (some ⟨w0.heap.size, 0, none⟩) 1 1)
    (hn : n ≤ 1099511627776) (hbase : base ≤ w0.heap.size)
    (hK : ∀ A' c' w', w'.ownsRow base e 1 (.slice A' (n + 1) c') (n + 1) (xs ++ [u]) → w0.grownBy w' (Value.slice A n c).ownBlock → Below base w0 w' → wpList P ops Q rest (a.put o.dst (.slice A' (n + 1) c')) w') :
    wpList P ops Q (o :: rest) a (w0.alloc (.cells #[u] e)) :=
  wpList_plain hgd fun _ hK' => wp_app1 w0 s x t e ho z bytes ht hi hzs hbb base n c A xs hs hown u h1 hx hn hbase fun A' c' w' h2 h3 h4 => hK' _ _ (hK A' c' w' h2 h3 h4)
theorem step_app1 {P : Program} (w0 : World) {ops : Array Oper} {o : Oper} {a : Act} {K : Act → World → Prop} {Q : Exit → Act → World → Prop} {E : Prop} (hgd : o.guard = none) (s x : Operand) (t e : TypeId)
    (ho : o.op = .call { callee := .builtin .append, args := #[s, x], argTypes := #[t, t] }) (z : Value) (bytes : Nat)
    (ht : P.underlying t = some (.slice e)) (hi : (P.info? e).map (fun i => (i.zero, i.size, i.bytes)) = some (some z, 1, bytes)) (hzs : z.cells.size = 1) (hbb : bytes ≤ 64)
    (base n c : Nat) (A : Option Addr) (xs : List Value) (hs : a.eval s = .slice A n c) (hown : w0.ownsRow base e 1 (.slice A n c) n xs) (u : Value) (h1 : u.oneCell' = true) (hx : a.eval x = .slice (some ⟨w0.heap.size, 0, none⟩) 1 1)
    (hn : n ≤ 1099511627776) (hbase : base ≤ w0.heap.size)
    (hK : ∀ A' c' w', w'.ownsRow base e 1 (.slice A' (n + 1) c') (n + 1) (xs ++ [u]) → w0.grownBy w' (Value.slice A n c).ownBlock → Below base w0 w' → K (a.put o.dst (.slice A' (n + 1) c')) w') :
    if Region.wanted o (yielded ops a.tmps) = true then Oper.wp P o a (w0.alloc (.cells #[u] e)) K Q else E := by
  have hw : Region.wanted o (yielded ops a.tmps) = true := by simp [Region.wanted, hgd]
  rw [if_pos hw]
  exact wp_app1 w0 s x t e ho z bytes ht hi hzs hbb base n c A xs hs hown u h1 hx hn hbase hK
theorem appAny {P : Program} {α : Type} {R : World → Value → α → Prop} (w : World) {ops : Array Oper} {rest : List Oper} {o : Oper} {a : Act} {Q : Exit → Act → World → Prop} (hgd : o.guard = none) (s x : Operand) (t e : TypeId)
    (ho : o.op = .call { callee := .builtin .append, args := #[s, x], argTypes := #[t, t] }) (z : Value) (bytes : Nat)
    (ht : P.underlying t = some (.slice e)) (hi : (P.info? e).map (fun i => (i.zero, i.size, i.bytes)) = some (some z, 1, bytes)) (hzs : z.cells.size = 1) (hbb : bytes ≤ 64)
    (base n c : Nat) (A : Option Addr) (vs : List Value) (hs : a.eval s = .slice A n c) (hown : w.ownsRow base e 1 (.slice A n c) n vs)
    (B : Option Addr) (m d : Nat) (xs : List α) (f : α → Value) (h1 : ∀ x, (f x).oneCell' = true) (hx : a.eval x = .slice B m d) (hr : RdL R w B m xs) (hf : ∀ w v x, R w v x → v = f x)
    (hn : n + m ≤ 1099511627776) (hbase : base ≤ w.heap.size)
    (hK : ∀ A' c' w', w'.ownsRow base e 1 (.slice A' (n + m) c') (n + m) (vs ++ xs.map f) → w.grownBy w' (Value.slice A n c).ownBlock → Below base w w' → wpList P ops Q rest (a.put o.dst (.slice A' (n + m) c')) w') :
    wpList P ops Q (o :: rest) a w :=
  wpList_plain hgd fun _ hK' => wp_appAny w s x t e ho z bytes ht hi hzs hbb base n c A vs hs hown B m d xs f h1 hx hr hf hn hbase fun A' c' w' h2 h3 h4 => hK' _ _ (hK A' c' w' h2 h3 h4)
theorem step_appAny {P : Program} {α : Type} {R : World → Value → α → Prop} (w : World) {ops : Array Oper} {o : Oper} {a : Act} {K : Act → World → Prop} {Q : Exit → Act → World → Prop} {E : Prop} (hgd : o.guard = none) (s x : Operand) (t e : TypeId)
    (ho : o.op = .call { callee := .builtin .append, args := #[s, x], argTypes := #[t, t] }) (z : Value) (bytes : Nat)
    (ht : P.underlying t = some (.slice e)) (hi : (P.info? e).map (fun i => (i.zero, i.size, i.bytes)) = some (some z, 1, bytes)) (hzs : z.cells.size = 1) (hbb : bytes ≤ 64)
    (base n c : Nat) (A : Option Addr) (vs : List Value) (hs : a.eval s = .slice A n c) (hown : w.ownsRow base e 1 (.slice A n c) n vs)
    (B : Option Addr) (m d : Nat) (xs : List α) (f : α → Value) (h1 : ∀ x, (f x).oneCell' = true) (hx : a.eval x = .slice B m d) (hr : RdL R w B m xs) (hf : ∀ w v x, R w v x → v = f x)
    (hn : n + m ≤ 1099511627776) (hbase : base ≤ w.heap.size)
    (hK : ∀ A' c' w', w'.ownsRow base e 1 (.slice A' (n + m) c') (n + m) (vs ++ xs.map f) → w.grownBy w' (Value.slice A n c).ownBlock → Below base w w' → K (a.put o.dst (.slice A' (n + m) c')) w') :
    if Region.wanted o (yielded ops a.tmps) = true then Oper.wp P o a w K Q else E := by
  have hw : Region.wanted o (yielded ops a.tmps) = true := by simp [Region.wanted, hgd]
  rw [if_pos hw]
  exact wp_appAny w s x t e ho z bytes ht hi hzs hbb base n c A vs hs hown B m d xs f h1 hx hr hf hn hbase hK
end Go.Proofs.YtidjocikbmkjbaaGreat
