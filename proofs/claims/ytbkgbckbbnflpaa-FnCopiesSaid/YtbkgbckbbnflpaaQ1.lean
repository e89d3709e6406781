import Derived.WalkKit
import Derived.WalkSpells
import Derived.WalkLawsBesides
import Derived.Lib.Hide
import Derived.Lib.IndexMore
import Derived.BigGuardPart
import Derived.BigQuiet
import Derived.Deep.QuietTactic
import Derived.Test.YtbkgbckbbnflpaaProg
import Derived.ProofKit
import Derived.OpenShut
import Derived.Lib.SmallJoins
import Derived.Deep.Slices
import Derived.Deep.RegionHeld3
import Derived.Deep.DeepCutAuto
import Derived.Deep.RegionLaw
import Derived.StillTailTactics
set_option linter.unusedVariables false
set_option linter.unusedSimpArgs false
set_option maxRecDepth 100000
set_option maxHeartbeats 32000000
namespace Go.Proofs.Ytbkgbckbbnflpaa
open Go.RowKit
theorem ret_bool {a b : Bool} (h : a = b) : Ending.returned (.bool a) = .returned (.bool b) := by rw [h]
theorem ret_int {k : IntKind} {a b : Int} (h : a = b) : Ending.returned (.int k a) = .returned (.int k b) := by rw [h]
/-- The call returns v, and of what was there nothing has turned. -/
def Bl (w : World) (v : Value) (e : Ending) (w' : World) : Prop := e = .returned v ∧ Below w.heap.size w w'
/-- wr is w but for draws. -/
def Drawn (w wr : World) : Prop := ∃ z, wr = w.drewN z
theorem Drawn.zero (w : World) : Drawn w w := ⟨0, rfl⟩
theorem Drawn.at_ (w : World) (z : Nat) : Drawn w (w.drewN z) := ⟨z, rfl⟩
theorem Drawn.more {w wr : World} (h : Drawn w wr) (m : Nat) : Drawn w (wr.drewN m) := by
  obtain ⟨z, rfl⟩ := h
  exact ⟨z + m, World.drewN_drewN ..⟩
/-- The call returns v and only reads. -/
def Qt (w : World) (v : Value) (e : Ending) (w' : World) : Prop := e = .returned v ∧ Drawn w w'
theorem quiet_add {P : Program} {f : FuncId} {args : Array Value} {w : World} {a n : Nat} {v : Value}
    (h : Calls P f args (w.drewN (a + n)) (Qt (w.drewN (a + n)) v)) : Calls P f args (w.drewN (a + n)) fun e w'' => e = .returned v ∧ ∃ m, w'' = w.drewN (a + m) :=
  h.mono fun _ _ ⟨he, m, hm⟩ => ⟨he, n + m, by rw [hm, World.drewN_drewN, Nat.add_assoc]⟩
theorem quiet_one {P : Program} {f : FuncId} {args : Array Value} {w : World} {n : Nat} {v : Value}
    (h : Calls P f args (w.drewN n) (Qt (w.drewN n) v)) : Calls P f args (w.drewN n) fun e w'' => e = .returned v ∧ ∃ m, w'' = w.drewN m :=
  h.mono fun _ _ ⟨he, m, hm⟩ => ⟨he, n + m, by rw [hm, World.drewN_drewN]⟩
/-- A contract that leaves the world alone is a quiet one. -/
theorem quiet_same {P : Program} {f : FuncId} {args : Array Value} {w : World} {v : Value} (h : Calls P f args w fun e w' => e = .returned v ∧ w = w') : Calls P f args w (Qt w v) :=
  h.mono fun _ _ ⟨he, hm⟩ => ⟨he, 0, hm.symm⟩
theorem Qt.bl {w w' : World} {v : Value} {e : Ending} (h : Qt w v e w') : Bl w v e w' := by
  obtain ⟨he, n, rfl⟩ := h
  exact ⟨he, ⟨rfl, rfl, rfl, Nat.le_refl _, fun _ _ => rfl⟩⟩
theorem bl_of_quiet {P : Program} {f : FuncId} {args : Array Value} {w : World} {v : Value} (h : Calls P f args w (Qt w v)) : Calls P f args w (Bl w v) := h.mono fun _ _ h => h.bl
/-- One call more behind what is below B as it was. -/
theorem below_next {B : Nat} {w w1 w2 : World} (h : Below B w w1) (k : Below w1.heap.size w1 w2) (hB : B = w.heap.size) : Below B w w2 :=
  h.trans (k.mono (by rw [hB]; exact h.size))
theorem below_drewN {B : Nat} {a w : World} (h : Below B a w) (k : Nat) : Below B a (w.drewN k) := ⟨h.os, h.tape, h.output, h.size, h.block⟩
theorem below_box (w : World) (o : Obj) : Below w.heap.size w (w.alloc o) := (Below.refl _ _).alloc (Nat.le_refl _) _
theorem below_box2 (w : World) (o o2 : Obj) : Below w.heap.size w ((w.alloc o).alloc o2) := (below_box w o).alloc (by simp) _
theorem below_box3 (w : World) (o o2 o3 : Obj) : Below w.heap.size w (((w.alloc o).alloc o2).alloc o3) := (below_box2 w o o2).alloc (by simp; omega) _
theorem below_box4 (w : World) (o o2 o3 o4 : Obj) : Below w.heap.size w ((((w.alloc o).alloc o2).alloc o3).alloc o4) := (below_box3 w o o2 o3).alloc (by simp; omega) _
/-- Block g holds just the cells cs of element type t, none frozen. -/
def Blk (w : World) (g : Nat) (t : TypeId) (cs : Array Value) : Prop := w.heap[g]? = some (.cells cs t (0, 0))
section
variable {w w' : World} {g : Nat} {t : TypeId} {cs : Array Value}
theorem Blk.lt (h : Blk w g t cs) : g < w.heap.size := by
  rcases Nat.lt_or_ge g w.heap.size with hlt | hge
  · exact hlt
  · unfold Blk at h; rw [Array.getElem?_eq_none hge] at h; cases h
theorem Blk.cell (h : Blk w g t cs) (i : Nat) : w.cell? ⟨g, i, none⟩ = cs[i]? := cell_of_row w g i cs t (0, 0) h
theorem Blk.frozen (h : Blk w g t cs) (i : Nat) : w.frozen? ⟨g, i, none⟩ = false := by
  unfold Blk at h
  simp [World.frozen?, h]
theorem Blk.new (w : World) (t : TypeId) (cs : Array Value) : Blk (w.alloc (.cells cs t)) w.heap.size t cs := heap_alloc_new w _
theorem Blk.drew (h : Blk w g t cs) : Blk w.drew g t cs := h
theorem Blk.drewN (h : Blk w g t cs) (n : Nat) : Blk (w.drewN n) g t cs := h
theorem Blk.alloc (h : Blk w g t cs) (o : Obj) : Blk (w.alloc o) g t cs := (Below.heap_alloc w o g h.lt).trans h
theorem Blk.set_ (h : Blk w g t cs) (i : Nat) (u : Value) : Blk (w.setCell ⟨g, i, none⟩ u) g t (cs.setIfInBounds i u) := by
  unfold Blk at h ⊢
  simp [World.setCell, Array.getElem?_modify, h]
theorem Blk.far (h : Blk w g t cs) {p : Addr} (hp : g ≠ p.block) (u : Value) : Blk (w.setCell p u) g t cs := (Below.heap_setCell w p u g hp).trans h
theorem Blk.below {B : Nat} (h : Blk w g t cs) (hb : Below B w w') (hg : g < B) : Blk w' g t cs := (hb.block g hg).trans h
theorem Blk.next (h : Blk w g t cs) (hb : Below w.heap.size w w') : Blk w' g t cs := h.below hb h.lt
theorem Blk.grown {row : Option Nat} (h : Blk w g t cs) (hb : w.grownBy w' row) (hg : some g ≠ row) : Blk w' g t cs := (hb.block g h.lt hg).trans h
theorem Blk.ne_ {g' : Nat} {t' : TypeId} {cs' : Array Value} (h : Blk w g t cs) (h' : Blk w g' t' cs') (hne : t ≠ t') : g ≠ g' := by
  rintro rfl
  unfold Blk at h h'
  rw [h] at h'
  injection h' with h'
  injection h' with _ ht
  exact hne ht
end
/-- The bytes of a string. -/
def bs (s : ByteArray) : List UInt8 := s.data.toList
theorem bf2 {b : Bool} (h : (!b) = true) : b = false := by simpa using h
theorem bt2 {b : Bool} (h : (!b) = false) : b = true := by simpa using h
theorem nef {x y : Int} (h : (x != y) = true) : (x == y) = false := by simpa using h
theorem net {x y : Int} (h : (x != y) = false) : (x == y) = true := by simpa using h
theorem eqc {x y : Int} {b : Bool} (h : (y == x) = b) : (x == y) = b := by rw [← h]; exact Bool.beq_comm
theorem nefc {x y : Int} (h : (y != x) = true) : (x == y) = false := eqc (nef h)
theorem netc {x y : Int} (h : (y != x) = false) : (x == y) = true := eqc (net h)
/-- A slice value that begins at A, of n elements, reads as xs: its k-th cell holds a value that R says is xs[k]. -/
def RdL {α : Type} (R : World → Value → α → Prop) (w : World) (A : Option Addr) (n : Nat) (xs : List α) : Prop :=
  xs.length = n ∧ n ≤ maxLen ∧ ∀ k x, xs[k]? = some x → ∃ b o v, A = some ⟨b, o, none⟩ ∧ w.cell? ⟨b, o + k, none⟩ = some v ∧ R w v x
theorem cell_lt {w : World} {p : Addr} {v : Value} (h : w.cell? p = some v) : p.block < w.heap.size := by
  rcases Nat.lt_or_ge p.block w.heap.size with hlt | hge
  · exact hlt
  · exfalso
    have : w.heap[p.block]? = none := Array.getElem?_eq_none hge
    simp [World.cell?, this] at h
def RI (_ : World) (v : Value) (x : Int) : Prop := v = .int .i64 x ∧ -9223372036854775808 ≤ x ∧ x ≤ 9223372036854775807
/-- A slice value reads as a list. -/
def RV {α : Type} (R : World → Value → α → Prop) (w : World) (v : Value) (xs : List α) : Prop := ∃ A n c, v = .slice A n c ∧ RdL R w A n xs
/-- What R says holds on where the blocks that there were hold what they held. -/
def Stab {α : Type} (R : World → Value → α → Prop) : Prop := ∀ w w' v x, (∀ b, b < w.heap.size → w'.heap[b]? = w.heap[b]?) → R w v x → R w' v x
theorem stab_RI : Stab RI := fun _ _ _ _ _ h => h
section
variable {α : Type} {R : World → Value → α → Prop} {w w' : World} {A : Option Addr} {n : Nat} {xs : List α}
theorem RdL.same (hR : Stab R) (h : RdL R w A n xs) (hb : ∀ b, b < w.heap.size → w'.heap[b]? = w.heap[b]?) : RdL R w' A n xs :=
  ⟨h.1, h.2.1, fun k x hk => by
    obtain ⟨b, o, v, e, hc, hr⟩ := h.2.2 k x hk
    exact ⟨b, o, v, e, (World.cell?_of_block (w := w) (hb b (cell_lt hc))).trans hc, hR _ _ _ _ hb hr⟩⟩
theorem RdL.next (hR : Stab R) (h : RdL R w A n xs) (hb : Below w.heap.size w w') : RdL R w' A n xs := h.same hR hb.block
theorem RdL.drewN (h : RdL R w A n xs) (hR : Stab R) (k : Nat) : RdL R (w.drewN k) A n xs := h.same hR fun _ _ => rfl
theorem RdL.len (h : RdL R w A n xs) : xs.length = n := h.1
theorem RdL.le (h : RdL R w A n xs) : n ≤ 9223372036854775807 := by have := h.2.1; unfold maxLen at this; omega
theorem RdL.nil (R : World → Value → α → Prop) (w : World) (A : Option Addr) : RdL R w A 0 [] := ⟨rfl, Nat.zero_le _, fun k x hk => by simp at hk⟩
theorem stab_RV (hR : Stab R) : Stab (RV R) := fun _ _ _ _ hb ⟨A, n, c, e, h⟩ => ⟨A, n, c, e, h.same hR hb⟩
/-- The cell of the k-th element; and the list from there on. -/
theorem RdL.at (h : RdL R w A n xs) {k : Nat} (hk : k < n) : ∃ b o v x, A = some ⟨b, o, none⟩ ∧ w.cell? ⟨b, o + k, none⟩ = some v ∧ R w v x ∧ xs.drop k = x :: xs.drop (k + 1) ∧ xs[k]? = some x := by
  have hl : k < xs.length := by rw [h.1]; exact hk
  obtain ⟨b, o, v, e, hc, hr⟩ := h.2.2 k _ (List.getElem?_eq_getElem hl)
  exact ⟨b, o, v, xs[k], e, hc, hr, List.drop_eq_getElem_cons hl, List.getElem?_eq_getElem hl⟩
theorem RdL.at' {b o : Nat} (h : RdL R w (some ⟨b, o, none⟩) n xs) {k : Nat} (hk : k < n) : ∃ v x, w.cell? ⟨b, o + k, none⟩ = some v ∧ R w v x ∧ xs.drop k = x :: xs.drop (k + 1) ∧ xs[k]? = some x := by
  obtain ⟨b', o', v, x, e, r⟩ := h.at hk
  simp only [Option.some.injEq, Addr.mk.injEq, and_true] at e
  obtain ⟨rfl, rfl⟩ := e
  exact ⟨v, x, r⟩
theorem RdL.drop_end (h : RdL R w A n xs) {k : Nat} (hk : ¬ k < n) : xs.drop k = [] := List.drop_eq_nil_of_le (by rw [h.1]; omega)
theorem RdL.ofOwn {base : Nat} {e : TypeId} {v : Value} {vs : List Value} (hn : n ≤ maxLen) (h : w.ownsRow base e 1 v n vs) (hl : xs.length = n) (hr : ∀ (k : Nat) x, xs[k]? = some x → ∃ u, vs[k]? = some u ∧ R w u x) :
    ∃ A c, v = .slice A n c ∧ RdL R w A n xs := by
  rcases h.2 with ⟨rfl, rfl⟩ | ⟨g, cap, cur, rfl, hb, hg, hnc, hcm, hcs, ht⟩
  · have : xs = [] := List.eq_nil_of_length_eq_zero hl
    subst this
    exact ⟨none, 0, rfl, RdL.nil _ _ _⟩
  · refine ⟨_, cap, rfl, hl, hn, fun k x hk => ?_⟩
    obtain ⟨u, hu, hr'⟩ := hr k x hk
    refine ⟨g, 0, u, rfl, ?_, hr'⟩
    have hkn : k < n := by have := (List.getElem?_eq_some_iff.1 hk).1; omega
    have := h.cellAt k (by omega)
    rw [Nat.zero_add, this]
    exact hu
end
section
variable {w w' : World} {base : Nat} {e : TypeId} {size : Nat} {v : Value} {n : Nat} {xs : List Value}
theorem own_same (h : w.ownsRow base e size v n xs) (hb : ∀ b, v.ownBlock = some b → w'.heap[b]? = w.heap[b]?) : w'.ownsRow base e size v n xs := by
  obtain ⟨h1, h2⟩ := h
  refine ⟨h1, ?_⟩
  rcases h2 with h2 | ⟨g, cap, cur, hv, hg, hh, r⟩
  · exact Or.inl h2
  · exact Or.inr ⟨g, cap, cur, hv, hg, by rw [hb g (by rw [hv]; rfl)]; exact hh, r⟩
theorem own_next (h : w.ownsRow base e size v n xs) (hb : Below w.heap.size w w') : w'.ownsRow base e size v n xs :=
  own_same h fun b hv => hb.block b (h.lt b hv).2
theorem own_drewN (h : w.ownsRow base e size v n xs) (k : Nat) : (w.drewN k).ownsRow base e size v n xs := h
theorem own_mono {base' : Nat} (h : w.ownsRow base e size v n xs) (hb : base' ≤ base) : w.ownsRow base' e size v n xs := by
  obtain ⟨h1, h2⟩ := h
  refine ⟨h1, ?_⟩
  rcases h2 with h2 | ⟨g, cap, cur, hv, hg, r⟩
  · exact Or.inl h2
  · exact Or.inr ⟨g, cap, cur, hv, by omega, r⟩
theorem own_set (h : w.ownsRow base e size v n xs) {p : Addr} (hp : v.ownBlock ≠ some p.block) (u : Value) : (w.setCell p u).ownsRow base e size v n xs :=
  own_same h fun b hv => Below.heap_setCell w p u b (fun ee => hp (by rw [hv, ee]))
theorem own_ne {e' : TypeId} {base' size' : Nat} {v' : Value} {n' : Nat} {xs' : List Value} (h : w.ownsRow base e size v n xs) (h' : w.ownsRow base' e' size' v' n' xs') (hne : e ≠ e') {g : Nat} (hg : v.ownBlock = some g) : v'.ownBlock ≠ some g := by
  rcases h.2 with ⟨rfl, _⟩ | ⟨g1, cap, cur, rfl, _, hh, _⟩
  · simp [Value.ownBlock] at hg
  · rcases h'.2 with ⟨rfl, _⟩ | ⟨g2, cap2, cur2, rfl, _, hh2, _⟩
    · simp [Value.ownBlock]
    · intro hc
      simp only [Value.ownBlock, Option.some.injEq] at hg hc
      subst hg
      subst hc
      rw [hh] at hh2
      injection hh2 with hh2
      injection hh2 with _ ht
      exact hne ht
end
/-- A slice of slices of the call's own: an outer row, inner rows, each in a block of its own. -/
def OwM {α : Type} (eo ei : TypeId) (f : α → Value) (lo : Nat) (w : World) (v : Value) (n : Nat) (xss : List (List α)) : Prop :=
  ∃ vs : List Value, w.ownsRow lo eo 1 v n vs ∧ vs.length = xss.length ∧ (∀ (k : Nat) u xs, vs[k]? = some u → xss[k]? = some xs → w.ownsRow lo ei 1 u xs.length (xs.map f)) ∧ (vs.filterMap Value.ownBlock).Nodup
/-- A row that is owned reads as its list. -/
theorem rd_of_own {α : Type} {R : World → Value → α → Prop} {f : α → Value} {w : World} {base : Nat} {e : TypeId} {A : Option Addr} {n c : Nat} {xs : List α} (h : w.ownsRow base e 1 (.slice A n c) n (xs.map f))
    (hR : ∀ x ∈ xs, R w (f x) x) : RdL R w A n xs := by
  have hl : xs.length = n := by have := h.1; simpa using this
  have hn : n ≤ maxLen := by
    rcases h.2 with ⟨_, h0⟩ | ⟨g, cap, cur, _, _, _, h1, h2, _⟩
    · omega
    · omega
  obtain ⟨A', c', e', hr⟩ := RdL.ofOwn (R := R) (xs := xs) hn h hl (fun k x hk => ⟨f x, by simp [hk], hR x (List.mem_of_getElem? hk)⟩)
  injection e' with e1 e2 e3
  rw [e1]
  exact hr
theorem own_slice {w : World} {base : Nat} {e : TypeId} {size : Nat} {v : Value} {n : Nat} {xs : List Value} (h : w.ownsRow base e size v n xs) : ∃ A c, v = .slice A n c := by
  rcases h.2 with ⟨rfl, rfl⟩ | ⟨g, cap, cur, rfl, _⟩
  · exact ⟨none, 0, rfl⟩
  · exact ⟨_, cap, rfl⟩
section
variable {α : Type} {eo ei : TypeId} {f : α → Value} {lo : Nat} {w w' : World} {v : Value} {n : Nat} {xss : List (List α)}
theorem OwM.rd {R : World → Value → α → Prop} {A : Option Addr} {c : Nat} (h : OwM eo ei f lo w (.slice A n c) n xss) (hR : ∀ xs ∈ xss, ∀ x ∈ xs, R w (f x) x) : RdL (RV R) w A n xss := by
  obtain ⟨vs, h1, h2, h3, h4⟩ := h
  have hl : vs.length = n := by have := h1.1; simpa using this
  have hn : n ≤ maxLen := by
    rcases h1.2 with ⟨_, h0⟩ | ⟨g, cap, cur, _, _, _, h1, h2, _⟩
    · omega
    · omega
  obtain ⟨A', c', e', hr⟩ := RdL.ofOwn (R := RV R) (xs := xss) hn h1 (by omega) (fun k xs hk => by
    have hk' : k < vs.length := by rw [h2]; exact (List.getElem?_eq_some_iff.1 hk).1
    have hu : vs[k]? = some vs[k] := List.getElem?_eq_getElem hk'
    have ho := h3 k _ xs hu hk
    obtain ⟨B, d, hv⟩ := own_slice ho
    rw [hv] at ho
    exact ⟨_, hu, B, xs.length, d, hv, rd_of_own ho (hR xs (List.mem_of_getElem? hk))⟩)
  injection e' with e1 e2 e3
  rw [e1]
  exact hr
end
def At {α β : Type} (f : List α → β) (xs : List α) (k : Nat) : Prop := f (xs.drop k) = f xs
section
variable {α β : Type} {f : List α → β} {xs : List α} {k : Nat} {x : α} {r : β}
theorem At.start (f : List α → β) (xs : List α) : At f xs 0 := rfl
theorem At.step (h : At f xs k) (hd : xs.drop k = x :: xs.drop (k + 1)) (he : f (x :: xs.drop (k + 1)) = f (xs.drop (k + 1))) : At f xs (k + 1) := by
  unfold At at *; rw [← h, hd, he]
theorem At.stop (h : At f xs k) (hd : xs.drop k = x :: xs.drop (k + 1)) (he : f (x :: xs.drop (k + 1)) = r) : r = f xs := by
  unfold At at *; rw [← h, hd, he]
theorem At.done (h : At f xs k) (hd : xs.drop k = []) (he : f [] = r) : r = f xs := by
  unfold At at *; rw [← h, hd, he]
end
def At2 {α β γ : Type} (f : List α → List γ → β) (xs : List α) (ys : List γ) (k : Nat) : Prop := f (xs.drop k) (ys.drop k) = f xs ys
section
variable {α β γ : Type} {f : List α → List γ → β} {xs : List α} {ys : List γ} {k : Nat} {x : α} {y : γ} {r : β}
theorem At2.step (h : At2 f xs ys k) (hd : xs.drop k = x :: xs.drop (k + 1)) (hd' : ys.drop k = y :: ys.drop (k + 1)) (he : f (x :: xs.drop (k + 1)) (y :: ys.drop (k + 1)) = f (xs.drop (k + 1)) (ys.drop (k + 1))) : At2 f xs ys (k + 1) := by
  unfold At2 at *; rw [← h, hd, hd', he]
theorem At2.stop (h : At2 f xs ys k) (hd : xs.drop k = x :: xs.drop (k + 1)) (hd' : ys.drop k = y :: ys.drop (k + 1)) (he : f (x :: xs.drop (k + 1)) (y :: ys.drop (k + 1)) = r) : r = f xs ys := by
  unfold At2 at *; rw [← h, hd, hd', he]
theorem At2.done (h : At2 f xs ys k) {l : List α} {m : List γ} (hd : xs.drop k = l) (hd' : ys.drop k = m) (he : f l m = r) : r = f xs ys := by
  unfold At2 at *; rw [← h, hd, hd', he]
end
theorem wp_app1 {P : Program} (w0 : World) {o : Oper} {a : Act} {K : Act → World → Prop} {Q : Exit → Act → World → Prop} (s x : Operand) (t e : TypeId)
    (ho : o.op = .call { callee := .builtin .append, args := #[s, x], argTypes := #[t, t] }) (z : Value) (bytes : Nat)
    (ht : P.underlying t = some (.slice e)) (hi : (P.info? e).map (fun i => (i.zero, i.size, i.bytes)) = some (some z, 1, bytes)) (hzs : z.cells.size = 1) (hbb : bytes ≤ 64)
    (base n c : Nat) (A : Option Addr) (xs : List Value) (hs : a.eval s = .slice A n c) (hown : w0.ownsRow base e 1 (.slice A n c) n xs) (u : Value) (h1 : u.oneCell' = true) (hx : a.eval x = .slice (some ⟨w0.heap.size, 0, none⟩) 1 1)
    (hn : n ≤ 1099511627776) (hbase : base ≤ w0.heap.size)
    (hK : ∀ A' c' w', w'.ownsRow base e 1 (.slice A' (n + 1) c') (n + 1) (xs ++ [u]) → w0.grownBy w' (Value.slice A n c).ownBlock → Below base w0 w' → K (a.put o.dst (.slice A' (n + 1) c')) w') :
    o.wp P a (w0.alloc (.cells #[u] e)) K Q := by
  obtain ⟨i, hi, hz, hsize, hby⟩ := info_parts hi
  have hbound : (n + 1) * bytes ≤ 140737488355328 := Nat.le_trans (Nat.mul_le_mul_left (n + 1) hbb) (by omega)
  refine wp_append_own (w0.alloc (.cells #[u] e)) s x t ho base e i z 1 bytes ht hi hz hsize hby hzs (by omega) (.slice A n c) n xs hs (hown.alloc _) ⟨w0.heap.size, 0, none⟩ 1 1 [u] hx rfl ?_ ?_ (by unfold maxLen; omega) hbound (by simp; omega) ?_
  · intro j v hj
    match j, hj with
    | 0, hj => simp at hj; subst hj; simp [Addr.add]
  · intro v hv; simp at hv; subst hv; exact h1
  · intro v' w' hown' hgrow _
    obtain ⟨A', c', rfl⟩ := own_slice hown'
    have hg : w0.grownBy w' (Value.slice A n c).ownBlock :=
      ⟨hgrow.os, hgrow.tape, hgrow.output, Nat.le_trans (by simp) hgrow.size, fun k hk hne => (hgrow.block k (by simp; omega) hne).trans (Below.heap_alloc w0 _ k hk)⟩
    exact hK A' c' w' hown' hg ((Below.refl base w0).grown hg hbase (fun k hk => (hown.lt k hk).1))
theorem run_append_of_nil {P : Program} (w : World) (base : Nat) (t ty e : TypeId) (i : TypeInfo) (size : Nat) (ht : P.underlying t = some (.slice e)) (hi : P.info? e = some i)
    (v : Value) (n : Nat) (xs : List Value) (hown : w.ownsRow base e size v n xs) (c : Nat) : (Builtin.append_ #[t, t] ty #[v, .slice none 0 c]).run P w = .ok v w := by
  rcases hown.2 with ⟨rfl, rfl⟩ | ⟨g, cap, cur, rfl, _, _, hnc, _⟩
  · simp [Builtin.append_, run_underlying ht, sizeOf, typeInfo, hi, Builtin.lenOf, Builtin.firstCells]
  · simp [Builtin.append_, run_underlying ht, sizeOf, typeInfo, hi, Builtin.lenOf, Builtin.firstCells, hnc, storeCells]
/-- append of a whole slice, nil or not, to a row of the call's own. -/
theorem wp_appAny {P : Program} {α : Type} {R : World → Value → α → Prop} (w : World) {o : Oper} {a : Act} {K : Act → World → Prop} {Q : Exit → Act → World → Prop} (s x : Operand) (t e : TypeId)
    (ho : o.op = .call { callee := .builtin .append, args := #[s, x], argTypes := #[t, t] }) (z : Value) (bytes : Nat)
    (ht : P.underlying t = some (.slice e)) (hi : (P.info? e).map (fun i => (i.zero, i.size, i.bytes)) = some (some z, 1, bytes)) (hzs : z.cells.size = 1) (hbb : bytes ≤ 64)
    (base n c : Nat) (A : Option Addr) (vs : List Value) (hs : a.eval s = .slice A n c) (hown : w.ownsRow base e 1 (.slice A n c) n vs)
    (B : Option Addr) (m d : Nat) (xs : List α) (f : α → Value) (h1 : ∀ x, (f x).oneCell' = true) (hx : a.eval x = .slice B m d) (hr : RdL R w B m xs) (hf : ∀ w v x, R w v x → v = f x)
    (hn : n + m ≤ 1099511627776) (hbase : base ≤ w.heap.size)
    (hK : ∀ A' c' w', w'.ownsRow base e 1 (.slice A' (n + m) c') (n + m) (vs ++ xs.map f) → w.grownBy w' (Value.slice A n c).ownBlock → Below base w w' → K (a.put o.dst (.slice A' (n + m) c')) w') :
    o.wp P a w K Q := by
  obtain ⟨i, hi, hz, hsize, hby⟩ := info_parts hi
  have hbound : (n + m) * bytes ≤ 140737488355328 := Nat.le_trans (Nat.mul_le_mul_left (n + m) hbb) (by omega)
  rcases B with _ | ad
  · have hm : m = 0 := by
      rcases Nat.eq_zero_or_pos m with h0 | h0
      · exact h0
      · obtain ⟨b, o, v, x, h, _⟩ := hr.at h0
        cases h
    subst hm
    have hxs : xs = [] := List.eq_nil_of_length_eq_zero hr.1
    subst hxs
    have hrun := run_append_of_nil (P := P) w base t o.type e i 1 ht hi _ n vs hown d
    unfold Oper.wp execOp
    simp only [ho, resolve, invoke, builtin, Sem.run_bind, Sem.run_pure, Result.andThen_ok, List.map_toArray, List.map_cons, List.map_nil, hs, hx, hrun]
    exact hK A c w (by simpa using hown) (World.grownBy.refl w _) (Below.refl _ _)
  · refine wp_append_own w s x t ho base e i z 1 bytes ht hi hz hsize hby hzs (by omega) (.slice A n c) n vs hs hown ad m d (xs.map f) hx (by simp [hr.1]) ?_ ?_ (by unfold maxLen; omega) hbound hbase ?_
    · intro j u hu
      rw [List.getElem?_map] at hu
      obtain ⟨y, hy, rfl⟩ := Option.map_eq_some_iff.1 hu
      obtain ⟨b, o, v, e', hc, hv⟩ := hr.2.2 j y hy
      have he : ad = ⟨b, o, none⟩ := by injection e'
      subst he
      rw [hf _ _ _ hv] at hc
      have ea : (⟨b, o, none⟩ : Addr).add j = ⟨b, o + j, none⟩ := by
        unfold Addr.add
        split
        · rename_i h0; subst h0; rfl
        · rfl
      rw [ea]
      exact hc
    · intro v hv
      obtain ⟨y, -, rfl⟩ := List.mem_map.1 hv
      exact h1 y
    · intro v' w' hown' hgrow _
      obtain ⟨A', c', rfl⟩ := own_slice hown'
      exact hK A' c' w' hown' hgrow ((Below.refl base w).grown hgrow hbase (fun k hk => (hown.lt k hk).1))
theorem app1 {P : Program} (w0 : World) {ops : Array Oper} {rest : List Oper} {o : Oper} {a : Act} {Q : Exit → Act → World → Prop} (hgd : o.guard = none) (s x : Operand) (t e : TypeId)
    (ho : o.op = .call { callee := .builtin .append, args := #[s, x], argTypes := #[t, t] }) (z : Value) (bytes : Nat)
    (ht : P.underlying t = some (.slice e)) (hi : (P.info? e).map (fun i => (i.zero, i.size, i.bytes)) = some (some z, 1, bytes)) (hzs : z.cells.size = 1) (hbb : bytes ≤ 64)
    (base n c : Nat) (A : Option Addr) (xs : List Value) (hs : a.eval s = .slice A n c) (hown : w0.ownsRow base e 1 (.slice A n c) n xs) (u : Value) (h1 : u.oneCell' = true) (hx : a.eval x = .slice (some ⟨w0.heap.size, 0, none⟩) 1 1)
    (hn : n ≤ 1099511627776) (hbase : base ≤ w0.heap.size)
    (hK : ∀ A' c' w', w'.ownsRow base e 1 (.slice A' (n + 1) c') (n + 1) (xs ++ [u]) → w0.grownBy w' (Value.slice A n c).ownBlock → Below base w0 w' → wpList P ops Q rest (a.put o.dst (.slice A' (n + 1) c')) w') :
    wpList P ops Q (o :: rest) a (w0.alloc (.cells #[u] e)) :=
  wpList_plain hgd fun _ hK' => wp_app1 w0 s x t e ho z bytes ht hi hzs hbb base n c A xs hs hown u h1 hx hn hbase fun A' c' w' h2 h3 h4 => hK' _ _ (hK A' c' w' h2 h3 h4)
theorem step_app1 {P : Program} (w0 : World) {ops : Array Oper} {o : Oper} {a : Act} {K : Act → World → Prop} {Q : Exit → Act → World → Prop} {E : Prop} (hgd : o.guard = none) (s x : Operand) (t e : TypeId)
    (ho : o.op = .call { callee := .builtin .append, args := #[s, x], argTypes := #[t, t] }) (z : Value) (bytes : Nat)
    (ht : P.underlying t = some (.slice e)) (hi : (P.info? e).map (fun i => (i.zero, i.size, i.bytes)) = some (some z, 1, bytes)) (hzs : z.cells.size = 1) (hbb : bytes ≤ 64)
    (base n c : Nat) (A : Option Addr) (xs : List Value) (hs : a.eval s = .slice A n c) (hown : w0.ownsRow base e 1 (.slice A n c) n xs) (u : Value) (h1 : u.oneCell' = true) (hx : a.eval x = .slice (some ⟨w0.heap.size, 0, none⟩) 1 1)
    (hn : n ≤ 1099511627776) (hbase : base ≤ w0.heap.size)
    (hK : ∀ A' c' w', w'.ownsRow base e 1 (.slice A' (n + 1) c') (n + 1) (xs ++ [u]) → w0.grownBy w' (Value.slice A n c).ownBlock → Below base w0 w' → K (a.put o.dst (.slice A' (n + 1) c')) w') :
    if Region.wanted o (yielded ops a.tmps) = true then Oper.wp P o a (w0.alloc (.cells #[u] e)) K Q else E := by
  have hw : Region.wanted o (yielded ops a.tmps) = true := by simp [Region.wanted, hgd]
  rw [if_pos hw]
  exact wp_app1 w0 s x t e ho z bytes ht hi hzs hbb base n c A xs hs hown u h1 hx hn hbase hK
theorem appAny {P : Program} {α : Type} {R : World → Value → α → Prop} (w : World) {ops : Array Oper} {rest : List Oper} {o : Oper} {a : Act} {Q : Exit → Act → World → Prop} (hgd : o.guard = none) (s x : Operand) (t e : TypeId)
    (ho : o.op = .call { callee := .builtin .append, args := #[s, x], argTypes := #[t, t] }) (z : Value) (bytes : Nat)
    (ht : P.underlying t = some (.slice e)) (hi : (P.info? e).map (fun i => (i.zero, i.size, i.bytes)) = some (some z, 1, bytes)) (hzs : z.cells.size = 1) (hbb : bytes ≤ 64)
    (base n c : Nat) (A : Option Addr) (vs : List Value) (hs : a.eval s = .slice A n c) (hown : w.ownsRow base e 1 (.slice A n c) n vs)
    (B : Option Addr) (m d : Nat) (xs : List α) (f : α → Value) (h1 : ∀ x, (f x).oneCell' = true) (hx : a.eval x = .slice B m d) (hr : RdL R w B m xs) (hf : ∀ w v x, R w v x → v = f x)
    (hn : n + m ≤ 1099511627776) (hbase : base ≤ w.heap.size)
    (hK : ∀ A' c' w', w'.ownsRow base e 1 (.slice A' (n + m) c') (n + m) (vs ++ xs.map f) → w.grownBy w' (Value.slice A n c).ownBlock → Below base w w' → wpList P ops Q rest (a.put o.dst (.slice A' (n + m) c')) w') :
    wpList P ops Q (o :: rest) a w :=
  wpList_plain hgd fun _ hK' => wp_appAny w s x t e ho z bytes ht hi hzs hbb base n c A vs hs hown B m d xs f h1 hx hr hf hn hbase fun A' c' w' h2 h3 h4 => hK' _ _ (hK A' c' w' h2 h3 h4)
theorem step_appAny {P : Program} {α : Type} {R : World → Value → α → Prop} (w : World) {ops : Array Oper} {o : Oper} {a : Act} {K : Act → World → Prop} {Q : Exit → Act → World → Prop} {E : Prop} (hgd : o.guard = none) (s x : Operand) (t e : TypeId)
    (ho : o.op = .call { callee := .builtin .append, args := #[s, x], argTypes := #[t, t] }) (z : Value) (bytes : Nat)
    (ht : P.underlying t = some (.slice e)) (hi : (P.info? e).map (fun i => (i.zero, i.size, i.bytes)) = some (some z, 1, bytes)) (hzs : z.cells.size = 1) (hbb : bytes ≤ 64)
    (base n c : Nat) (A : Option Addr) (vs : List Value) (hs : a.eval s = .slice A n c) (hown : w.ownsRow base e 1 (.slice A n c) n vs)
    (B : Option Addr) (m d : Nat) (xs : List α) (f : α → Value) (h1 : ∀ x, (f x).oneCell' = true) (hx : a.eval x = .slice B m d) (hr : RdL R w B m xs) (hf : ∀ w v x, R w v x → v = f x)
    (hn : n + m ≤ 1099511627776) (hbase : base ≤ w.heap.size)
    (hK : ∀ A' c' w', w'.ownsRow base e 1 (.slice A' (n + m) c') (n + m) (vs ++ xs.map f) → w.grownBy w' (Value.slice A n c).ownBlock → Below base w w' → K (a.put o.dst (.slice A' (n + m) c')) w') :
    if Region.wanted o (yielded ops a.tmps) = true then Oper.wp P o a w K Q else E := by
  have hw : Region.wanted o (yielded ops a.tmps) = true := by simp [Region.wanted, hgd]
  rw [if_pos hw]
  exact wp_appAny w s x t e ho z bytes ht hi hzs hbb base n c A vs hs hown B m d xs f h1 hx hr hf hn hbase hK
theorem info_int : (Try.prog.info? 3).map (fun i => (i.zero, i.size, i.bytes)) = some (some (.int .i64 0), 1, 8) := by kernel_rfl
theorem info_ints : (Try.prog.info? 38).map (fun i => (i.zero, i.size, i.bytes)) = some (some (.slice none 0 0), 1, 24) := by kernel_rfl
/-- Two lists of numbers are the same, as the program compares them. -/
def eqL : List Int → List Int → Bool
  | [], [] => true
  | x :: l, y :: m => x == y && eqL l m
  | _, _ => false
theorem eqL_iff : ∀ {l m : List Int}, eqL l m = true ↔ l = m
  | [], [] => by simp [eqL]
  | [], _ :: _ => by simp [eqL]
  | _ :: _, [] => by simp [eqL]
  | x :: l, y :: m => by simp [eqL, eqL_iff (l := l) (m := m)]
theorem eqL_len {l m : List Int} (h : l.length ≠ m.length) : false = eqL l m := by
  rcases e : eqL l m with _ | _
  · rfl
  · exact absurd (congrArg List.length (eqL_iff.1 e)) h
theorem make_ints (w : World) {ops : Array Oper} {rest : List Oper} {o : Oper} {a : Act} {Q : Exit → Act → World → Prop} (hg : o.guard = none) (l c : Operand) (hop : o.op = Op.makeSlice 38 l c)
    (n : Nat) (hl : a.eval l = .int .i64 n) (hc : a.eval c = .int .i64 n) (b : n ≤ 17592186044416)
    (hK : ∀ w', w'.ownsRow w.heap.size 3 1 (.slice (some ⟨w.heap.size, 0, none⟩) n n) n (List.replicate n (.int .i64 0)) → w.grownBy w' none → wpList Try.prog ops Q rest (a.put o.dst (.slice (some ⟨w.heap.size, 0, none⟩) n n)) w') :
    wpList Try.prog ops Q (o :: rest) a w := by
  obtain ⟨i0, hi, hz0, hz1, hz2⟩ := info_parts info_int
  refine wpList_make_full w hg l c 38 hop w.heap.size 3 i0 (.int .i64 0) 1 Try.underlying38 hi hz0 hz1 .i64 .i64 n n n hl hc rfl rfl (by rw [hz2]; omega) (by unfold maxLen; omega) (Nat.le_refl _) ?_
  intro w' h1 h2
  refine hK w' ?_ h2
  have e : (madeCells (Value.int .i64 0).cells (n * 1)).toList = List.replicate n (.int .i64 0) := by rw [Nat.mul_one]; exact toList_madeCells_one (.int .i64 0) n
  rw [← e]
  exact h1
def ints (xs : List Int) : List Value := xs.map (.int .i64)
theorem RdL.bounds {w : World} {A : Option Addr} {n : Nat} {xs : List Int} (h : RdL RI w A n xs) : ∀ x ∈ xs, -9223372036854775808 ≤ x ∧ x ≤ 9223372036854775807 := by
  intro x hx
  obtain ⟨k, hk⟩ := List.getElem?_of_mem hx
  obtain ⟨b, o, v, -, -, hr⟩ := h.2.2 k x hk
  exact hr.2
theorem RI_ints {xs : List Int} {w : World} (h : ∀ x ∈ xs, -9223372036854775808 ≤ x ∧ x ≤ 9223372036854775807) : ∀ x ∈ xs, RI w (.int .i64 x) x := fun x hx => ⟨rfl, h x hx⟩
def eqLL : List (List Int) → List (List Int) → Bool
  | [], [] => true
  | x :: l, y :: m => eqL x y && eqLL l m
  | _, _ => false
theorem eqLL_iff : ∀ {l m : List (List Int)}, eqLL l m = true ↔ l = m
  | [], [] => by simp [eqLL]
  | [], _ :: _ => by simp [eqLL]
  | _ :: _, [] => by simp [eqLL]
  | x :: l, y :: m => by simp [eqLL, eqLL_iff (l := l) (m := m), eqL_iff]
theorem eqLL_self (l : List (List Int)) : eqLL l l = true := eqLL_iff.2 rfl
theorem eqLL_len {l m : List (List Int)} (h : l.length ≠ m.length) : false = eqLL l m := by
  rcases e : eqLL l m with _ | _
  · rfl
  · exact absurd (congrArg List.length (eqLL_iff.1 e)) h
def EqqAt (xs ys : List (List Int)) (k : Nat) : Prop := eqLL (xs.drop k) (ys.drop k) = eqLL xs ys
theorem EqqAt.step {xs ys : List (List Int)} {k : Nat} {x y : List Int} (h : EqqAt xs ys k) (h1 : xs.drop k = x :: xs.drop (k + 1)) (h2 : ys.drop k = y :: ys.drop (k + 1)) (he : eqL x y = true) : EqqAt xs ys (k + 1) := by
  unfold EqqAt at *; rw [← h, h1, h2, eqLL, he]; rfl
theorem EqqAt.stop {xs ys : List (List Int)} {k : Nat} {x y : List Int} (h : EqqAt xs ys k) (h1 : xs.drop k = x :: xs.drop (k + 1)) (h2 : ys.drop k = y :: ys.drop (k + 1)) (he : eqL x y = false) : false = eqLL xs ys := by
  unfold EqqAt at *; rw [← h, h1, h2, eqLL, he]; rfl
theorem EqqAt.done {xs ys : List (List Int)} {k : Nat} (h : EqqAt xs ys k) (h1 : xs.drop k = []) (h2 : ys.drop k = []) : true = eqLL xs ys := by
  unfold EqqAt at *; rw [← h, h1, h2]; rfl
theorem stab_RVI : Stab (RV RI) := stab_RV stab_RI
def inB (x a b : Int) : Bool := decide (a ≤ x) && decide (x ≤ b)
theorem l1In_any (x a b : Int) (w : World) :
    Calls Try.prog 55 #[.int .i64 x, .int .i64 a, .int .i64 b] w fun e w' => e = .returned (.bool (inB x a b)) ∧ w = w' := by
  unfold inB
  by_cases h : a ≤ x
  all_goals
    go_enter Try.func55, Try.ntmps55
    go_wp2
    go_ret
    exact ⟨ret_bool (by simp; omega), rfl⟩
/-- Does x stand in the list? -/
def hasI (x : Int) : List Int → Bool
  | [] => false
  | y :: l => y == x || hasI x l
theorem l1Has_any (A : Option Addr) (n c : Nat) (xs : List Int) (y : Int) (w : World) (h : RdL RI w A n xs) :
    Calls Try.prog 73 #[.slice A n c, .int .i64 y] w fun e w' => e = .returned (.bool (hasI y xs)) ∧ w = w' := by
  have hle := h.le
  go_enter Try.func73, Try.ntmps73
  go_wp2
  go_loop [5] (fun i => ∃ k : Nat, k ≤ n ∧ i = .int .i64 k ∧ At (hasI y) xs k) (fun i => n - (intOf i).toNat)
  case atStart => exact ⟨0, Nat.zero_le _, rfl, At.start _ _⟩
  case round =>
    obtain ⟨k, hk, rfl, H⟩ := hrel
    by_cases hlt : k < n
    · obtain ⟨b, o, v, x, rfl, hc, ⟨rfl, -⟩, hd, -⟩ := h.at hlt
      have H1 := Lib.hid hd
      clear hd
      go_wp2
      all_goals first
        | (go_ret
           exact ⟨ret_bool (H.stop H1.out (by rw [hasI, ‹(x == y) = true›]; rfl)), rfl⟩)
        | (go_round
           case rel => exact ⟨k + 1, by omega, by go_num, H.step H1.out (by rw [hasI, ‹(x == y) = false›]; rfl)⟩
           case measure => simp [intOf]; omega)
    · go_wp2
      go_ret
      exact ⟨ret_bool (H.done (h.drop_end hlt) rfl), rfl⟩
theorem hasNot_any (A : Option Addr) (n c : Nat) (xs : List Int) (y : Int) (w : World) (h : RdL RI w A n xs) :
    Calls Try.prog 86 #[.slice A n c, .int .i64 y] w fun e w' => e = .returned (.bool (!hasI y xs)) ∧ w = w' := by
  have hle := h.le
  go_enter Try.func86, Try.ntmps86
  go_wp2
  go_loop [9] (fun i => ∃ k : Nat, k ≤ n ∧ i = .int .i64 k ∧ At (hasI y) xs k) (fun i => n - (intOf i).toNat)
  case atStart => exact ⟨0, Nat.zero_le _, rfl, At.start _ _⟩
  case round =>
    obtain ⟨k, hk, rfl, H⟩ := hrel
    by_cases hlt : k < n
    · obtain ⟨b, o, v, x, rfl, hc, ⟨rfl, -⟩, hd, -⟩ := h.at hlt
      have H1 := Lib.hid hd
      clear hd
      go_wp2
      all_goals first
        | (go_ret
           exact ⟨ret_bool (by rw [← H.stop H1.out (r := true) (by rw [hasI, show (x == y) = true from (by first | assumption | exact bt2 (by assumption) | exact net (by assumption) | exact netc (by assumption) | exact eqc (by assumption))]; rfl)]; rfl), rfl⟩)
        | (go_round
           case rel => exact ⟨k + 1, by omega, by go_num, H.step H1.out (by rw [hasI, show (x == y) = false from (by first | assumption | exact bf1 (by assumption) | exact bf2 (by assumption) | exact nef (by assumption) | exact nefc (by assumption) | exact eqc (by assumption))]; rfl)⟩
           case measure => simp [intOf]; omega)
    · go_wp2
      go_ret
      exact ⟨ret_bool (by rw [← H.done (h.drop_end hlt) (r := false) rfl]; rfl), rfl⟩
theorem l1Same_any (A B : Option Addr) (n m c d : Nat) (xs ys : List Int) (w : World) (h : RdL RI w A n xs) (h' : RdL RI w B m ys) :
    Calls Try.prog 65 #[.slice A n c, .slice B m d] w (Qt w (.bool (eqL xs ys))) := by
  have hle := h.le
  have hle' := h'.le
  by_cases hnm : n = m
  · subst hnm
    go_enter Try.func65, Try.ntmps65
    go_wp2
    go_loopw [5] (fun i wr => ∃ k : Nat, k ≤ n ∧ i = .int .i64 k ∧ At2 eqL xs ys k ∧ Drawn w wr) (fun i _ => n - (intOf i).toNat)
    case atStart => exact ⟨0, Nat.zero_le _, rfl, rfl, Drawn.zero _⟩
    case round =>
      obtain ⟨k, hk, rfl, H, z, rfl⟩ := hrel
      by_cases hlt : k < n
      · obtain ⟨b, o, v, x, rfl, hc, ⟨rfl, -⟩, hd, -⟩ := h.at hlt
        obtain ⟨b', o', v', y, rfl, hc', ⟨rfl, -⟩, hd', -⟩ := h'.at hlt
        have H1 := Lib.hid hd
        have H2 := Lib.hid hd'
        clear hd hd'
        go_wp2
        go_quiet (fail)
        go_wp2
        all_goals first
          | (go_ret
             exact ⟨ret_bool (H.stop H1.out H2.out (by rw [eqL, show (x == y) = false from (by first | assumption | exact bf1 (by assumption) | exact bf2 (by assumption) | exact nef (by assumption) | exact nefc (by assumption) | exact eqc (by assumption))]; rfl)), (by first | exact Drawn.zero _ | exact Drawn.at_ _ _ | exact (Drawn.at_ _ _).more _ | exact ((Drawn.at_ _ _).more _).more _)⟩)
          | (go_roundw
             case rel => exact ⟨k + 1, by omega, by go_num, H.step H1.out H2.out (by rw [eqL, show (x == y) = true from (by first | assumption | exact bt2 (by assumption) | exact net (by assumption) | exact netc (by assumption) | exact eqc (by assumption))]; rfl), (by first | exact Drawn.zero _ | exact Drawn.at_ _ _ | exact (Drawn.at_ _ _).more _ | exact ((Drawn.at_ _ _).more _).more _)⟩
             case measure => simp [intOf]; omega)
      · go_wp2
        go_ret
        exact ⟨ret_bool (H.done (h.drop_end hlt) (h'.drop_end hlt) rfl), (by first | exact Drawn.zero _ | exact Drawn.at_ _ _ | exact (Drawn.at_ _ _).more _ | exact ((Drawn.at_ _ _).more _).more _)⟩
  · have hne : ((n : Int) != (m : Int)) = true := by rw [bne_iff_ne]; omega
    go_enter Try.func65, Try.ntmps65
    go_wp2
    go_ret
    exact ⟨ret_bool (eqL_len (by rw [h.len, h'.len]; omega)), (by first | exact Drawn.zero _ | exact Drawn.at_ _ _ | exact (Drawn.at_ _ _).more _ | exact ((Drawn.at_ _ _).more _).more _)⟩
theorem sameList_any (A B : Option Addr) (n m c d : Nat) (xs ys : List Int) (w : World) (h : RdL RI w A n xs) (h' : RdL RI w B m ys) :
    Calls Try.prog 36 #[.slice A n c, .slice B m d] w fun e w' => e = .returned (.bool (eqL xs ys)) ∧ w = w' := by
  have hle := h.le
  have hle' := h'.le
  by_cases hnm : n = m
  · subst hnm
    go_enter Try.func36, Try.ntmps36
    go_wp2
    go_loop [14] (fun i => ∃ k : Nat, k ≤ n ∧ i = .int .i64 k ∧ At2 eqL xs ys k) (fun i => n - (intOf i).toNat)
    case atStart => exact ⟨0, Nat.zero_le _, rfl, rfl⟩
    case round =>
      obtain ⟨k, hk, rfl, H⟩ := hrel
      by_cases hlt : k < n
      · obtain ⟨b, o, v, x, rfl, hc, ⟨rfl, -⟩, hd, -⟩ := h.at hlt
        obtain ⟨b', o', v', y, rfl, hc', ⟨rfl, -⟩, hd', -⟩ := h'.at hlt
        have H1 := Lib.hid hd
        have H2 := Lib.hid hd'
        clear hd hd'
        go_wp2
        all_goals first
          | (go_ret
             exact ⟨ret_bool (H.stop H1.out H2.out (by rw [eqL, show (x == y) = false from (by first | assumption | exact bf1 (by assumption) | exact bf2 (by assumption) | exact nef (by assumption) | exact nefc (by assumption) | exact eqc (by assumption))]; rfl)), rfl⟩)
          | (go_round
             case rel => exact ⟨k + 1, by omega, by go_num, H.step H1.out H2.out (by rw [eqL, show (x == y) = true from (by first | assumption | exact bt2 (by assumption) | exact net (by assumption) | exact netc (by assumption) | exact eqc (by assumption))]; rfl)⟩
             case measure => simp [intOf]; omega)
      · go_wp2
        go_ret
        exact ⟨ret_bool (H.done (h.drop_end hlt) (h'.drop_end hlt) rfl), rfl⟩
  · have hne : ((n : Int) != (m : Int)) = true := by rw [bne_iff_ne]; omega
    go_enter Try.func36, Try.ntmps36
    go_wp2
    go_ret
    exact ⟨ret_bool (eqL_len (by rw [h.len, h'.len]; omega)), rfl⟩
/-- The first place at which a list stands among lists, or -1. -/
def placeFrom (p : List Int) : List (List Int) → Int → Int
  | [], _ => -1
  | q :: l, k => if eqL p q then k else placeFrom p l (k + 1)
def place (xss : List (List Int)) (p : List Int) : Int := placeFrom p xss 0
def PlAt (xss : List (List Int)) (p : List Int) (k : Nat) : Prop := placeFrom p (xss.drop k) k = place xss p
theorem PlAt.step {xss : List (List Int)} {p q : List Int} {k : Nat} (h : PlAt xss p k) (hd : xss.drop k = q :: xss.drop (k + 1)) (he : eqL p q = false) : PlAt xss p (k + 1) := by
  unfold PlAt at *; rw [← h, hd, placeFrom, he]; rfl
theorem PlAt.stop {xss : List (List Int)} {p q : List Int} {k : Nat} (h : PlAt xss p k) (hd : xss.drop k = q :: xss.drop (k + 1)) (he : eqL p q = true) : (k : Int) = place xss p := by
  unfold PlAt at *; rw [← h, hd, placeFrom, he]; rfl
theorem PlAt.done {xss : List (List Int)} {p : List Int} {k : Nat} (h : PlAt xss p k) (hd : xss.drop k = []) : -1 = place xss p := by
  unfold PlAt at *; rw [← h, hd]; rfl
theorem eqL_comm : ∀ l m : List Int, eqL l m = eqL m l
  | [], [] => rfl
  | [], _ :: _ => rfl
  | _ :: _, [] => rfl
  | x :: l, y :: m => by rw [eqL, eqL, eqL_comm l m, Bool.beq_comm]
theorem l12Place_any (A B : Option Addr) (n m c d : Nat) (xss : List (List Int)) (p : List Int) (w : World) (h : RdL (RV RI) w A n xss) (h' : RdL RI w B m p) :
    Calls Try.prog 45 #[.slice A n c, .slice B m d] w (Qt w (.int .i64 (place xss p))) := by
  have hle := h.le
  go_enter Try.func45, Try.ntmps45
  go_wp2
  go_loopw [5] (fun i wr => ∃ k : Nat, k ≤ n ∧ i = .int .i64 k ∧ PlAt xss p k ∧ Drawn w wr) (fun i _ => n - (intOf i).toNat)
  case atStart => exact ⟨0, Nat.zero_le _, rfl, rfl, Drawn.zero _⟩
  case round =>
    obtain ⟨k, hk, rfl, H, z, rfl⟩ := hrel
    by_cases hlt : k < n
    · obtain ⟨b, o, v, q, rfl, hc, ⟨Q, j, g, rfl, hq⟩, hd, -⟩ := h.at hlt
      have H1 := Lib.hid hd
      clear hd
      have H2 := Lib.hid (eqL_comm q p)
      go_wp2_with (go_at_call 65; refine (l1Same_any _ _ _ _ _ _ _ _ _ (hq.drewN stab_RI _) (h'.drewN stab_RI _)).mono ?_; rintro e w' ⟨rfl, z', rfl⟩)
      all_goals first
        | (go_ret
           exact ⟨ret_int (H.stop H1.out (by rw [← H2.out]; exact (by first | assumption | exact bt2 (by assumption) | exact net (by assumption) | exact netc (by assumption) | exact eqc (by assumption)))), (by first | exact Drawn.zero _ | exact Drawn.at_ _ _ | exact (Drawn.at_ _ _).more _ | exact ((Drawn.at_ _ _).more _).more _)⟩)
        | (go_roundw
           case rel => exact ⟨k + 1, by omega, by go_num, H.step H1.out (by rw [← H2.out]; exact (by first | assumption | exact bf1 (by assumption) | exact bf2 (by assumption) | exact nef (by assumption) | exact nefc (by assumption) | exact eqc (by assumption))), (by first | exact Drawn.zero _ | exact Drawn.at_ _ _ | exact (Drawn.at_ _ _).more _ | exact ((Drawn.at_ _ _).more _).more _)⟩
           case measure => simp [intOf]; omega)
    · go_wp2
      go_ret
      exact ⟨ret_int (H.done (h.drop_end hlt)), (by first | exact Drawn.zero _ | exact Drawn.at_ _ _ | exact (Drawn.at_ _ _).more _ | exact ((Drawn.at_ _ _).more _).more _)⟩
/-- Do all numbers lie from a to b? -/
def allIn (a b : Int) : List Int → Bool
  | [] => true
  | x :: l => inB x a b && allIn a b l
theorem l2Elements_any (A : Option Addr) (n c : Nat) (xs : List Int) (m : Int) (w : World) (h : RdL RI w A n xs) (hm0 : -1 ≤ m) (hm1 : m ≤ 4611686018427387904) :
    Calls Try.prog 57 #[.int .i64 m, .slice A n c] w fun e w' => e = .returned (.bool (allIn 0 (m - 1) xs)) ∧ w = w' := by
  have hle := h.le
  go_enter Try.func57, Try.ntmps57
  go_wp2
  go_loop [5] (fun i => ∃ k : Nat, k ≤ n ∧ i = .int .i64 k ∧ At (allIn 0 (m - 1)) xs k) (fun i => n - (intOf i).toNat)
  case atStart => exact ⟨0, Nat.zero_le _, rfl, rfl⟩
  case round =>
    obtain ⟨k, hk, rfl, H⟩ := hrel
    by_cases hlt : k < n
    · obtain ⟨b, o, v, x, rfl, hc, ⟨rfl, -⟩, hd, -⟩ := h.at hlt
      have H1 := Lib.hid hd
      clear hd
      go_wp2_with (go_at_call 55; refine (l1In_any _ _ _ _).mono ?_; rintro e w' ⟨rfl, rfl⟩)
      all_goals first
        | (go_ret
           exact ⟨ret_bool (H.stop H1.out (by rw [allIn, show inB x 0 (m - 1) = false from (by first | assumption | exact bf1 (by assumption) | exact bf2 (by assumption) | exact nef (by assumption) | exact nefc (by assumption) | exact eqc (by assumption))]; rfl)), rfl⟩)
        | (go_round
           case rel => exact ⟨k + 1, by omega, by go_num, H.step H1.out (by rw [allIn, show inB x 0 (m - 1) = true from (by first | assumption | exact bt2 (by assumption) | exact net (by assumption) | exact netc (by assumption) | exact eqc (by assumption))]; rfl)⟩
           case measure => simp [intOf]; omega)
    · go_wp2
      go_ret
      exact ⟨ret_bool (H.done (h.drop_end hlt) rfl), rfl⟩
theorem inSize_any (A : Option Addr) (n c : Nat) (xs : List Int) (m : Int) (w : World) (h : RdL RI w A n xs) :
    Calls Try.prog 76 #[.slice A n c, .int .i64 m] w fun e w' => e = .returned (.bool (allIn 0 (m - 1) xs)) ∧ w = w' := by
  have hle := h.le
  go_enter Try.func76, Try.ntmps76
  go_wp2
  go_loop [9] (fun i => ∃ k : Nat, k ≤ n ∧ i = .int .i64 k ∧ At (allIn 0 (m - 1)) xs k) (fun i => n - (intOf i).toNat)
  case atStart => exact ⟨0, Nat.zero_le _, rfl, rfl⟩
  case round =>
    obtain ⟨k, hk, rfl, H⟩ := hrel
    by_cases hlt : k < n
    · obtain ⟨b, o, v, x, rfl, hc, ⟨rfl, -⟩, hd, -⟩ := h.at hlt
      have H1 := Lib.hid hd
      clear hd
      go_wp2
      all_goals first
        | (go_ret
           exact ⟨ret_bool (H.stop H1.out (by rw [allIn, show inB x 0 (m - 1) = false by unfold inB; simp; omega]; rfl)), rfl⟩)
        | (go_round
           case rel => exact ⟨k + 1, by omega, by go_num, H.step H1.out (by rw [allIn, show inB x 0 (m - 1) = true by unfold inB; simp; omega]; rfl)⟩
           case measure => simp [intOf]; omega)
    · go_wp2
      go_ret
      exact ⟨ret_bool (H.done (h.drop_end hlt) rfl), rfl⟩
/-- Are the numbers strictly rising? -/
def risesL : List Int → Bool
  | x :: y :: l => decide (x < y) && risesL (y :: l)
  | _ => true
/-- compareLists: lexicographic, a beginning before the longer list. -/
def lexL : List Int → List Int → Int
  | [], [] => 0
  | [], _ :: _ => -1
  | _ :: _, [] => 1
  | x :: l, y :: m => if x == y then lexL l m else if x < y then -1 else 1
theorem lexL_ends {xs ys : List Int} {k n m : Nat} (hx : xs.length = n) (hy : ys.length = m) (hk : ¬ (k < n ∧ k < m)) (hkn : k ≤ n) (hkm : k ≤ m) : lexL (xs.drop k) (ys.drop k) = if n < m then -1 else if m < n then 1 else 0 := by
  rcases hxd : xs.drop k with _ | ⟨x, l⟩
  · rcases hyd : ys.drop k with _ | ⟨y, l'⟩
    · have h1 := congrArg List.length hxd
      have h2 := congrArg List.length hyd
      simp at h1 h2
      rw [if_neg (by omega), if_neg (by omega)]
      rfl
    · have h1 := congrArg List.length hxd
      have h2 := congrArg List.length hyd
      simp at h1 h2
      rw [if_pos (by omega)]
      rfl
  · rcases hyd : ys.drop k with _ | ⟨y, l'⟩
    · have h1 := congrArg List.length hxd
      have h2 := congrArg List.length hyd
      simp at h1 h2
      rw [if_neg (by omega), if_pos (by omega)]
      rfl
    · have h1 := congrArg List.length hxd
      have h2 := congrArg List.length hyd
      simp at h1 h2
      omega
theorem compareLists_any (A B : Option Addr) (n m c d : Nat) (xs ys : List Int) (w : World) (h : RdL RI w A n xs) (h' : RdL RI w B m ys) :
    Calls Try.prog 62 #[.slice A n c, .slice B m d] w (Qt w (.int .i64 (lexL xs ys))) := by
  have hle := h.le
  have hle' := h'.le
  have hx := Lib.hid h.len
  have hy := Lib.hid h'.len
  go_enter Try.func62, Try.ntmps62
  go_wp2
  go_loopw [5] (fun i wr => ∃ k : Nat, k ≤ n ∧ k ≤ m ∧ i = .int .i64 k ∧ At2 lexL xs ys k ∧ Drawn w wr) (fun i _ => n - (intOf i).toNat)
  case atStart => exact ⟨0, Nat.zero_le _, Nat.zero_le _, rfl, rfl, Drawn.zero _⟩
  case round =>
    obtain ⟨k, hk, hk', rfl, H, z, rfl⟩ := hrel
    by_cases hlt : k < n
    · by_cases hlt' : k < m
      · obtain ⟨b, o, v, x, rfl, hc, ⟨rfl, -⟩, hd, -⟩ := h.at hlt
        obtain ⟨b', o', v', y, rfl, hc', ⟨rfl, -⟩, hd', -⟩ := h'.at hlt'
        have H1 := Lib.hid hd
        have H2 := Lib.hid hd'
        clear hd hd'
        by_cases hxy : x = y
        · have hxy' : (x != y) = false := by simp [hxy]
          have HE : Hid ((x == y) = true) := by simp [Hid, hxy]
          clear hxy
          go_wp2
          go_quiet (fail)
          go_wp2
          go_roundw
          case rel => exact ⟨k + 1, by omega, by omega, by go_num, H.step H1.out H2.out (by rw [lexL, HE.out, if_pos rfl]), (by first | exact Drawn.zero _ | exact Drawn.at_ _ _ | exact (Drawn.at_ _ _).more _ | exact ((Drawn.at_ _ _).more _).more _)⟩
          case measure => simp [intOf]; omega
        · have hxy' : (x != y) = true := by simp [hxy]
          have HE : Hid ((x == y) = false) := by simp [Hid, hxy]
          clear hxy
          go_wp2
          go_quiet (fail)
          go_wp2
          go_quiet (fail)
          go_wp2
          · go_ret
            exact ⟨ret_int (H.stop H1.out H2.out (by rw [lexL, HE.out, if_neg (by decide), if_pos (by assumption)])), (by first | exact Drawn.zero _ | exact Drawn.at_ _ _ | exact (Drawn.at_ _ _).more _ | exact ((Drawn.at_ _ _).more _).more _)⟩
          · go_ret
            exact ⟨ret_int (H.stop H1.out H2.out (by rw [lexL, HE.out, if_neg (by decide), if_neg (by omega)])), (by first | exact Drawn.zero _ | exact Drawn.at_ _ _ | exact (Drawn.at_ _ _).more _ | exact ((Drawn.at_ _ _).more _).more _)⟩
      · go_wp2
        all_goals
          go_ret
          exact ⟨ret_int (H.done rfl rfl (by rw [lexL_ends hx.out hy.out (by omega) hk hk']; first | rw [if_pos (by omega)] | rw [if_neg (by omega), if_pos (by omega)] | rw [if_neg (by omega), if_neg (by omega)])), (by first | exact Drawn.zero _ | exact Drawn.at_ _ _ | exact (Drawn.at_ _ _).more _ | exact ((Drawn.at_ _ _).more _).more _)⟩
    · go_wp2
      all_goals
        go_ret
        exact ⟨ret_int (H.done rfl rfl (by rw [lexL_ends hx.out hy.out (by omega) hk hk']; first | rw [if_pos (by omega)] | rw [if_neg (by omega), if_pos (by omega)] | rw [if_neg (by omega), if_neg (by omega)])), (by first | exact Drawn.zero _ | exact Drawn.at_ _ _ | exact (Drawn.at_ _ _).more _ | exact ((Drawn.at_ _ _).more _).more _)⟩
/-- l5Less, at lists of one length. -/
def lessL : List Int → List Int → Bool
  | x :: l, y :: m => if x == y then lessL l m else decide (x < y)
  | _, _ => false
theorem l5Less_any (A B : Option Addr) (n c d : Nat) (xs ys : List Int) (w : World) (h : RdL RI w A n xs) (h' : RdL RI w B n ys) :
    Calls Try.prog 88 #[.slice A n c, .slice B n d] w (Qt w (.bool (lessL xs ys))) := by
  have hle := h.le
  go_enter Try.func88, Try.ntmps88
  go_wp2
  go_loopw [5] (fun i wr => ∃ k : Nat, k ≤ n ∧ i = .int .i64 k ∧ At2 lessL xs ys k ∧ Drawn w wr) (fun i _ => n - (intOf i).toNat)
  case atStart => exact ⟨0, Nat.zero_le _, rfl, rfl, Drawn.zero _⟩
  case round =>
    obtain ⟨k, hk, rfl, H, z, rfl⟩ := hrel
    by_cases hlt : k < n
    · obtain ⟨b, o, v, x, rfl, hc, ⟨rfl, -⟩, hd, -⟩ := h.at hlt
      obtain ⟨b', o', v', y, rfl, hc', ⟨rfl, -⟩, hd', -⟩ := h'.at hlt
      have H1 := Lib.hid hd
      have H2 := Lib.hid hd'
      clear hd hd'
      by_cases hxy : x = y
      · have hxy' : (x != y) = false := by simp [hxy]
        have HE : Hid ((x == y) = true) := by simp [Hid, hxy]
        clear hxy
        go_wp2
        go_quiet (fail)
        go_wp2
        go_roundw
        case rel => exact ⟨k + 1, by omega, by go_num, H.step H1.out H2.out (by rw [lessL, HE.out, if_pos rfl]), (by first | exact Drawn.zero _ | exact Drawn.at_ _ _ | exact (Drawn.at_ _ _).more _ | exact ((Drawn.at_ _ _).more _).more _)⟩
        case measure => simp [intOf]; omega
      · have hxy' : (x != y) = true := by simp [hxy]
        have HE : Hid ((x == y) = false) := by simp [Hid, hxy]
        clear hxy
        go_wp2
        go_quiet (fail)
        go_wp2
        go_quiet (fail)
        go_wp2
        go_ret
        exact ⟨ret_bool (H.stop H1.out H2.out (by rw [lessL, HE.out, if_neg (by decide)])), (by first | exact Drawn.zero _ | exact Drawn.at_ _ _ | exact (Drawn.at_ _ _).more _ | exact ((Drawn.at_ _ _).more _).more _)⟩
    · go_wp2
      go_ret
      exact ⟨ret_bool (H.done (h.drop_end hlt) (h'.drop_end hlt) rfl), (by first | exact Drawn.zero _ | exact Drawn.at_ _ _ | exact (Drawn.at_ _ _).more _ | exact ((Drawn.at_ _ _).more _).more _)⟩
theorem ints_snoc (xs : List Int) (x : Int) : ints (xs ++ [x]) = ints xs ++ [.int .i64 x] := by simp [ints]
/-- 0, 1, .. n - 1 -/
def upTo (n : Nat) : List Int := (List.range n).map fun (k : Nat) => (k : Int)
theorem upTo_succ (k : Nat) : upTo (k + 1) = upTo k ++ [(k : Int)] := by simp [upTo, List.range_succ]
theorem upTo_len (k : Nat) : (upTo k).length = k := by simp [upTo]
theorem upTo_get {n k : Nat} (h : k < n) : (upTo n)[k]? = some (k : Int) := by simp [upTo, h]
theorem clone_any (A : Option Addr) (n c : Nat) (xs : List Int) (w : World) (h : RdL RI w A n xs) (hn : n ≤ 1048576) :
    Calls Try.prog 63 #[.slice A n c] w fun e w' => ∃ A' c', e = .returned (.slice A' n c') ∧ w'.ownsRow w.heap.size 3 1 (.slice A' n c') n (ints xs) ∧ Below w.heap.size w w' := by
  have hT := below_box w (.cells #[] 3)
  have hown : (w.alloc (.cells #[] 3)).ownsRow w.heap.size 3 1 (.slice (some ⟨w.heap.size, 0, none⟩) 0 0) 0 [] := World.ownsRow_lit _ _ _ (Nat.le_refl _) (Nat.zero_le _) rfl
  have h1 := h.next stab_RI hT
  go_enter Try.func63, Try.ntmps63
  go_wp2_with (at_builtin; refine appAny _ rfl _ _ 38 3 rfl (.int .i64 0) 8 Try.underlying38 info_int rfl (by decide) w.heap.size 0 0 (some ⟨w.heap.size, 0, none⟩) [] rfl hown A n c xs (.int .i64) (fun _ => rfl) rfl h1 (fun _ _ _ hr => hr.1) (by omega) hT.size ?_; intro A2 c2 w2 hown2 hg2 hb2)
  go_ret
  refine ⟨A2, c2, by simp, ?_, hT.trans hb2⟩
  simpa [ints] using hown2
def gB (L : List Bool) (y : Nat) : Bool := L.getD y false
theorem gB_get {L : List Bool} {y : Nat} {b : Bool} (h : L[y]? = some b) : gB L y = b := by unfold gB; rw [List.getD_eq_getElem?_getD, h]; rfl
theorem gB_at {L : List Bool} {y : Nat} (h : y < L.length) : L[y]? = some (gB L y) := by unfold gB; rw [List.getD_eq_getElem?_getD, List.getElem?_eq_getElem h]; rfl
theorem gB_set {L : List Bool} {x y : Nat} (hx : x < L.length) (b : Bool) : gB (L.set x b) y = if y = x then b else gB L y := by
  unfold gB
  rw [List.getD_eq_getElem?_getD, List.getElem?_set]
  by_cases h : x = y
  · subst h
    rw [if_pos rfl, if_pos hx, if_pos rfl]
    rfl
  · rw [if_neg h, if_neg (fun e => h e.symm), List.getD_eq_getElem?_getD]
theorem gB_ext {L M : List Bool} {n : Nat} (hl : L.length = n) (hm : M.length = n) (h : ∀ y, y < n → gB L y = gB M y) : L = M := by
  apply List.ext_getElem?
  intro y
  by_cases hy : y < n
  · rw [gB_at (by omega), gB_at (by omega), h y hy]
  · rw [List.getElem?_eq_none (by omega), List.getElem?_eq_none (by omega)]
def inL (n : Nat) (S : List Int) : List Bool := (List.range n).map fun (y : Nat) => hasI (y : Int) S
theorem inL_len (n : Nat) (S : List Int) : (inL n S).length = n := by simp [inL]
theorem hasI_m {x : Int} : ∀ {l : List Int}, hasI x l = true ↔ x ∈ l
  | [] => by simp [hasI]
  | y :: l => by
    rw [hasI, Bool.or_eq_true, hasI_m, beq_iff_eq, List.mem_cons]
    exact ⟨fun h => h.imp Eq.symm id, fun h => h.imp Eq.symm id⟩
def bls (L : List Bool) : List Value := L.map fun b => .bool b
theorem bls_get {L : List Bool} {y : Nat} (h : y < L.length) : (bls L)[y]? = some (.bool (gB L y)) := by unfold bls; rw [List.getElem?_map, gB_at h]; rfl
theorem bls_set (L : List Bool) (y : Nat) (b : Bool) : (bls L).set y (.bool b) = bls (L.set y b) := by simp [bls, List.map_set]
theorem bls_rep (n : Nat) : bls (List.replicate n false) = List.replicate n (.bool false) := by simp [bls]
theorem info_bl : (Try.prog.info? 4).map (fun i => (i.zero, i.size, i.bytes)) = some (some (.bool false), 1, 1) := by kernel_rfl
theorem make_bl (w : World) {ops : Array Oper} {rest : List Oper} {o : Oper} {a : Act} {Q : Exit → Act → World → Prop} (hg : o.guard = none) (l c : Operand) (hop : o.op = Op.makeSlice 74 l c)
    (n : Nat) (hl : a.eval l = .int .i64 n) (hc : a.eval c = .int .i64 n) (b : n ≤ 17592186044416)
    (hK : ∀ w', w'.ownsRow w.heap.size 4 1 (.slice (some ⟨w.heap.size, 0, none⟩) n n) n (bls (List.replicate n false)) → w.grownBy w' none → wpList Try.prog ops Q rest (a.put o.dst (.slice (some ⟨w.heap.size, 0, none⟩) n n)) w') :
    wpList Try.prog ops Q (o :: rest) a w := by
  obtain ⟨i0, hi, hz0, hz1, hz2⟩ := info_parts info_bl
  refine wpList_make_full w hg l c 74 hop w.heap.size 4 i0 (.bool false) 1 Try.underlying74 hi hz0 hz1 .i64 .i64 n n n hl hc rfl rfl (by rw [hz2]; omega) (by unfold maxLen; omega) (Nat.le_refl _) ?_
  intro w' h1 h2
  refine hK w' ?_ h2
  have e : (madeCells (Value.bool false).cells (n * 1)).toList = List.replicate n (.bool false) := by rw [Nat.mul_one]; exact toList_madeCells_one (.bool false) n
  rw [bls_rep, ← e]
  exact h1
/-- The marked numbers as a list of the call's own. -/
def OwI (w : World) (L : List Int) (e : Ending) (w' : World) : Prop := ∃ A c, e = .returned (.slice A L.length c) ∧ w'.ownsRow w.heap.size 3 1 (.slice A L.length c) L.length (ints L) ∧ Below w.heap.size w w'
theorem inL_get {n y : Nat} {S : List Int} (h : y < n) : gB (inL n S) y = hasI (y : Int) S := by
  refine gB_get ?_
  unfold inL
  rw [List.getElem?_map, List.getElem?_range h]
  rfl
theorem inL_set {n k x : Nat} {S : List Int} (hx : S[k]? = some (x : Int)) (hxn : x < n) : (inL n (S.take k)).set x true = inL n (S.take (k + 1)) := by
  refine gB_ext (n := n) (by rw [List.length_set, inL_len]) (inL_len _ _) fun y hy => ?_
  rw [gB_set (by rw [inL_len]; exact hxn), inL_get hy, inL_get hy, List.take_add_one, hx]
  rw [Bool.eq_iff_iff]
  by_cases e : y = x
  · subst e; simp [hasI_m]
  · rw [if_neg e, hasI_m, hasI_m, List.mem_append]
    constructor
    · exact .inl
    · rintro (h | h)
      · exact h
      · simp at h; omega
/-- A slice of slices of the call's own, its inner slices by name. -/
def OwMv {α : Type} (eo ei : TypeId) (f : α → Value) (lo : Nat) (w : World) (v : Value) (n : Nat) (vs : List Value) (xss : List (List α)) : Prop :=
  w.ownsRow lo eo 1 v n vs ∧ vs.length = xss.length ∧ (∀ (k : Nat) u xs, vs[k]? = some u → xss[k]? = some xs → w.ownsRow lo ei 1 u xs.length (xs.map f)) ∧ (vs.filterMap Value.ownBlock).Nodup
/-- The inner slices' blocks lie below hi. -/
def InHi (hi : Nat) (vs : List Value) : Prop := ∀ u ∈ vs, ∀ b, u.ownBlock = some b → b < hi
section
variable {α : Type} {eo ei : TypeId} {f : α → Value} {lo hi : Nat} {w w' : World} {v : Value} {n : Nat} {vs : List Value} {xss : List (List α)}
theorem OwMv.own (h : OwMv eo ei f lo w v n vs xss) : OwM eo ei f lo w v n xss := ⟨vs, h⟩
theorem OwMv.next (h : OwMv eo ei f lo w v n vs xss) (hb : Below w.heap.size w w') : OwMv eo ei f lo w' v n vs xss :=
  ⟨own_next h.1 hb, h.2.1, fun k u xs hu hx => own_next (h.2.2.1 k u xs hu hx) hb, h.2.2.2⟩
theorem OwMv.mono {lo' : Nat} (h : OwMv eo ei f lo w v n vs xss) (hb : lo' ≤ lo) : OwMv eo ei f lo' w v n vs xss :=
  ⟨own_mono h.1 hb, h.2.1, fun k u xs hu hx => own_mono (h.2.2.1 k u xs hu hx) hb, h.2.2.2⟩
end
section
open Go.ChangeShapes Go.WideShapes Go.ChangeAt Go.Joins Go.Deep
section
variable {H : Type} {enc : TypeId × Value → H} {P : Program} {w : World}
/-- Whatever reads as data of type t is something that R speaks of. -/
def Opens {α : Type} (enc : TypeId × Value → H) (P : Program) (w : World) (t : TypeId) (R : World → Value → α → Prop) : Prop :=
  ∀ (fuel : Nat) (v : Value) (y : DataW H × List MemPlace), DataW.trod enc P w 0 (fun _ => true) true fuel t [v] = some y → ∃ x, R w v x
/-- A slice that comes in, with its capacity. -/
def RVc {α : Type} (R : World → Value → α → Prop) (w : World) (v : Value) (xs : List α) : Prop := ∃ A n c, v = .slice A n c ∧ n ≤ c ∧ RdL R w A n xs
theorem opens_slice {α : Type} {R : World → Value → α → Prop} {t e : TypeId} (ht : P.underlying t = some (.slice e)) (hc : P.cellsOf e = 1) (he : Opens enc P w e R) : Opens enc P w t (RVc R) := fun fuel v y h => by
  rcases open_slice1 ht hc h with ⟨e, -⟩ | ⟨a, len, cap, m, n, V, D, Pl, e, -, hl, hm, hmm, -, hx⟩
  · simp at e
    exact ⟨[], none, 0, 0, e, Nat.le_refl _, RdL.nil _ _ _⟩
  · simp at e
    simp only [if_true] at hmm
    subst hmm
    have hch : ∀ k, k < len → ∃ x, R w (V k) x := fun k hk => he n (V k) _ (hx k (by omega)).2
    obtain ⟨xs, hxl, hxp⟩ : ∃ l : List α, l.length = len ∧ ∀ (k : Nat) x, l[k]? = some x → R w (V k) x := by
      clear hx hl hm e
      induction len with
      | zero => exact ⟨[], rfl, fun k x hx => by simp at hx⟩
      | succ len ih =>
        obtain ⟨l, hl, hp⟩ := ih fun k hk => hch k (by omega)
        obtain ⟨x, hx⟩ := hch len (by omega)
        refine ⟨l ++ [x], by simp [hl], fun k y hy => ?_⟩
        by_cases hk : k < len
        · rw [List.getElem?_append_left (by omega)] at hy
          exact hp k y hy
        · have hk2 := (List.getElem?_eq_some_iff.1 hy).1
          simp at hk2
          have hkn : k = len := by omega
          subst hkn
          rw [List.getElem?_append_right (by omega), hl, Nat.sub_self] at hy
          simp at hy
          subst hy
          exact hx
    refine ⟨xs, some a, len, m, e, hl, hxl, by omega, fun k x hk => ?_⟩
    have hkl : k < len := by rw [← hxl]; exact (List.getElem?_eq_some_iff.1 hk).1
    have hc0 := (hx k (by omega)).1
    have hspot : a.spot = none := by
      have h0 := (hx 0 (by omega)).1
      have := World.cell?_spot h0
      simpa [Addr.add] using this
    obtain ⟨b, o, spot⟩ := a
    simp only at hspot
    subst hspot
    refine ⟨b, o, V k, rfl, ?_, hxp k x hk⟩
    have ea : (⟨b, o, none⟩ : Addr).add k = ⟨b, o + k, none⟩ := by
      unfold Addr.add
      split
      · rename_i h0; subst h0; rfl
      · rfl
    rw [← ea]
    exact hc0
end
end
/-- A row of elements of m cells each reads as a list. -/
def RdN {α : Type} (m : Nat) (R : World → List Value → α → Prop) (w : World) (A : Option Addr) (n : Nat) (xs : List α) : Prop :=
  xs.length = n ∧ n ≤ maxLen ∧ ∀ k x, xs[k]? = some x → ∃ b o vs, A = some ⟨b, o, none⟩ ∧ vs.length = m ∧ (∀ i v, vs[i]? = some v → w.cell? ⟨b, o + k * m + i, none⟩ = some v) ∧ R w vs x
def Same (w w' : World) : Prop := ∀ b, b < w.heap.size → w'.heap[b]? = w.heap[b]?
structure Sh (α : Type) where
  m : Nat
  rd : World → List Value → α → Prop
  own : World → List Value → α → List Nat → Prop
  cnt : α → Nat
  rd_len : ∀ {w : World} {cs : List Value} {x : α}, rd w cs x → cs.length = m
  stab : ∀ {w w' : World} {cs : List Value} {x : α}, rd w cs x → Same w w' → rd w' cs x
  ord : ∀ {w : World} {cs : List Value} {x : α} {bl : List Nat}, own w cs x bl → rd w cs x
  olt : ∀ {w : World} {cs : List Value} {x : α} {bl : List Nat}, own w cs x bl → ∀ b ∈ bl, b < w.heap.size
  osame : ∀ {w w' : World} {cs : List Value} {x : α} {bl : List Nat}, own w cs x bl → (∀ b ∈ bl, w'.heap[b]? = w.heap[b]?) → own w' cs x bl
def Sh.int : Sh Int where
  m := 1
  rd := fun w cs x => ∃ v, cs = [v] ∧ RI w v x
  own := fun w cs x bl => ∃ v, cs = [v] ∧ RI w v x ∧ bl = []
  cnt := fun _ => 0
  rd_len := fun ⟨_, e, _⟩ => by rw [e]; rfl
  stab := fun ⟨v, e, h⟩ _ => ⟨v, e, h⟩
  ord := fun ⟨v, e, h, _⟩ => ⟨v, e, h⟩
  olt := fun ⟨_, _, _, e⟩ b hb => by rw [e] at hb; simp at hb
  osame := fun ⟨v, e, h, e'⟩ _ => ⟨v, e, h, e'⟩
def Sh.pair {α β : Type} (A : Sh α) (B : Sh β) : Sh (α × β) where
  m := A.m + B.m
  rd := fun w cs p => ∃ c1 c2, cs = c1 ++ c2 ∧ A.rd w c1 p.1 ∧ B.rd w c2 p.2
  own := fun w cs p bl => ∃ c1 c2 b1 b2, cs = c1 ++ c2 ∧ bl = b1 ++ b2 ∧ A.own w c1 p.1 b1 ∧ B.own w c2 p.2 b2
  cnt := fun p => A.cnt p.1 + B.cnt p.2
  rd_len := fun ⟨c1, c2, e, h1, h2⟩ => by rw [e, List.length_append, A.rd_len h1, B.rd_len h2]
  stab := fun ⟨c1, c2, e, h1, h2⟩ hs => ⟨c1, c2, e, A.stab h1 hs, B.stab h2 hs⟩
  ord := fun ⟨c1, c2, b1, b2, e, e', h1, h2⟩ => ⟨c1, c2, e, A.ord h1, B.ord h2⟩
  olt := fun ⟨c1, c2, b1, b2, e, e', h1, h2⟩ b hb => by
    rw [e', List.mem_append] at hb
    exact hb.elim (A.olt h1 b) (B.olt h2 b)
  osame := fun ⟨c1, c2, b1, b2, e, e', h1, h2⟩ hs => ⟨c1, c2, b1, b2, e, e', A.osame h1 fun b hb => hs b (by rw [e']; exact List.mem_append_left _ hb), B.osame h2 fun b hb => hs b (by rw [e']; exact List.mem_append_right _ hb)⟩
def InR (x : Int) : Prop := -9223372036854775808 ≤ x ∧ x ≤ 9223372036854775807
def obl (v : Value) : List Nat := v.ownBlock.toList
theorem mem_obl {v : Value} {b : Nat} : b ∈ obl v ↔ v.ownBlock = some b := by unfold obl; simp
/-- []int: E is the type of its elements. -/
def Sh.il (E : TypeId) : Sh (List Int) where
  m := 1
  rd := fun w cs xs => ∃ v, cs = [v] ∧ RV RI w v xs
  own := fun w cs xs bl => ∃ v, cs = [v] ∧ w.ownsRow 0 E 1 v xs.length (ints xs) ∧ (∀ x ∈ xs, InR x) ∧ bl = obl v
  cnt := fun xs => xs.length
  rd_len := fun ⟨_, e, _⟩ => by rw [e]; rfl
  stab := fun ⟨v, e, h⟩ hs => ⟨v, e, stab_RV stab_RI _ _ _ _ hs h⟩
  ord := fun {w} {cs} {xs} {bl} ⟨v, e, h, hx, _⟩ => by
    obtain ⟨A, c, rfl⟩ := own_slice h
    exact ⟨_, e, A, xs.length, c, rfl, rd_of_own h (RI_ints hx)⟩
  olt := fun ⟨v, _, h, _, e⟩ b hb => by rw [e, mem_obl] at hb; exact (h.lt b hb).2
  osame := fun ⟨v, e, h, hx, e'⟩ hs => ⟨v, e, own_same h fun b hb => hs b (by rw [e', mem_obl]; exact hb), hx, e'⟩
theorem flat_get : ∀ {css : List (List Value)} {m : Nat}, (∀ c ∈ css, c.length = m) → ∀ (k i : Nat), i < m → css.flatten[k * m + i]? = (css[k]?).bind fun c => c[i]?
  | [], m, _, k, i, _ => by simp
  | c :: l, m, h, 0, i, hi => by
    have hc := h c (List.mem_cons_self ..)
    rw [List.flatten_cons, Nat.zero_mul, Nat.zero_add, List.getElem?_append_left (by omega)]
    rfl
  | c :: l, m, h, k + 1, i, hi => by
    have hc := h c (List.mem_cons_self ..)
    have ih := flat_get (fun c' hc' => h c' (List.mem_cons_of_mem _ hc')) k i hi (css := l)
    have e : (k + 1) * m + i = m + (k * m + i) := by rw [Nat.succ_mul]; omega
    rw [List.flatten_cons, List.getElem?_append_right (by omega), hc, e, Nat.add_sub_cancel_left, ih]
    rfl
theorem flat_len : ∀ {css : List (List Value)} {m : Nat}, (∀ c ∈ css, c.length = m) → css.flatten.length = css.length * m
  | [], m, _ => by simp
  | c :: l, m, h => by
    rw [List.flatten_cons, List.length_append, h c (List.mem_cons_self ..), flat_len fun c' hc' => h c' (List.mem_cons_of_mem _ hc'), List.length_cons, Nat.succ_mul]
    omega
/-- A slice of structs of the call's own, its elements' cells and blocks by name. -/
structure Parts {α : Type} (A : Sh α) (E : TypeId) (w : World) (v : Value) (xs : List α) (css : List (List Value)) (bls : List (List Nat)) : Prop where
  row : w.ownsRow 0 E A.m v xs.length css.flatten
  l1 : css.length = xs.length
  l2 : bls.length = xs.length
  el : ∀ (k : Nat) c x bk, css[k]? = some c → xs[k]? = some x → bls[k]? = some bk → A.own w c x bk
section
variable {α : Type} {A : Sh α} {E : TypeId} {w w' : World} {v : Value} {xs : List α} {css : List (List Value)} {bls : List (List Nat)}
theorem Parts.all (h : Parts A E w v xs css bls) : ∀ c ∈ css, c.length = A.m := by
  intro c hc
  obtain ⟨k, hk⟩ := List.getElem?_of_mem hc
  have hkl := (List.getElem?_eq_some_iff.1 hk).1
  have h1 := h.l1
  have h2 := h.l2
  exact A.rd_len (A.ord (h.el k c _ _ hk (List.getElem?_eq_getElem (by omega)) (List.getElem?_eq_getElem (by omega))))
theorem Parts.same (h : Parts A E w v xs css bls) (hs : ∀ b ∈ obl v ++ bls.flatten, w'.heap[b]? = w.heap[b]?) : Parts A E w' v xs css bls :=
  ⟨own_same h.row fun b hb => hs b (List.mem_append_left _ (mem_obl.2 hb)), h.l1, h.l2, fun k c x bk h1 h2 h3 => A.osame (h.el k c x bk h1 h2 h3) fun b hb => hs b (List.mem_append_right _ (List.mem_flatten.2 ⟨bk, List.mem_of_getElem? h3, hb⟩))⟩
theorem Parts.lt (h : Parts A E w v xs css bls) : ∀ b ∈ obl v ++ bls.flatten, b < w.heap.size := by
  intro b hb
  rcases List.mem_append.1 hb with hb | hb
  · exact (h.row.lt b (mem_obl.1 hb)).2
  · obtain ⟨bk, hbk, hb⟩ := List.mem_flatten.1 hb
    obtain ⟨k, hk⟩ := List.getElem?_of_mem hbk
    have hkl := (List.getElem?_eq_some_iff.1 hk).1
    have h1 := h.l1
    have h2 := h.l2
    exact A.olt (h.el k _ _ bk (List.getElem?_eq_getElem (by omega)) (List.getElem?_eq_getElem (by omega)) hk) b hb
theorem own_len_le {base size : Nat} {e : TypeId} {n : Nat} {ys : List Value} (h : w.ownsRow base e size v n ys) : n ≤ maxLen := by
  rcases h.2 with ⟨_, h0⟩ | ⟨g, cap, cur, _, _, _, h1, h2, _⟩
  · omega
  · omega
theorem Parts.cell (h : Parts A E w v xs css bls) {g n c : Nat} (hv : v = .slice (some ⟨g, 0, none⟩) n c) {k i : Nat} {cs : List Value} {u : Value} (hk : css[k]? = some cs) (hi : cs[i]? = some u) : w.cell? ⟨g, k * A.m + i, none⟩ = some u := by
  have hall := h.all
  have hcl := hall cs (List.mem_of_getElem? hk)
  have him : i < A.m := by have := (List.getElem?_eq_some_iff.1 hi).1; omega
  have hkl : k < xs.length := by have := (List.getElem?_eq_some_iff.1 hk).1; have := h.l1; omega
  have hr := h.row
  subst hv
  have hn : n = xs.length := by
    rcases hr.2 with ⟨h0, _⟩ | ⟨g', cap, cur, h0, _⟩
    · cases h0
    · injection h0
  subst hn
  have hlt : k * A.m + i < xs.length * A.m := by
    have := Nat.mul_le_mul_right A.m (show k + 1 ≤ xs.length from hkl)
    rw [Nat.succ_mul] at this
    omega
  rw [hr.cellAt _ hlt, flat_get hall k i him, hk]
  exact hi
theorem Parts.rd (h : Parts A E w v xs css bls) : ∃ B c, v = .slice B xs.length c ∧ RdN A.m A.rd w B xs.length xs := by
  obtain ⟨B, c, rfl⟩ := own_slice h.row
  refine ⟨B, c, rfl, rfl, own_len_le h.row, fun k x hk => ?_⟩
  have hkl := (List.getElem?_eq_some_iff.1 hk).1
  have h1 := h.l1
  have h2 := h.l2
  have hc : css[k]? = some (css[k]'(by omega)) := List.getElem?_eq_getElem (by omega)
  have hb : bls[k]? = some (bls[k]'(by omega)) := List.getElem?_eq_getElem (by omega)
  have ho := h.el k _ x _ hc hk hb
  obtain ⟨g, rfl⟩ : ∃ g, B = some ⟨g, 0, none⟩ := by
    rcases h.row.2 with ⟨_, h0⟩ | ⟨g, cap, cur, h0, _⟩
    · omega
    · injection h0 with h0
      exact ⟨g, h0⟩
  refine ⟨g, 0, _, rfl, h.all _ (List.mem_of_getElem? hc), fun i u hi => ?_, A.ord ho⟩
  rw [Nat.zero_add]
  exact h.cell rfl hc hi
end
/-- A slice of structs: E is the type of its elements. -/
def Sh.rows {α : Type} (A : Sh α) (E : TypeId) : Sh (List α) where
  m := 1
  rd := fun w cs xs => ∃ B n c, cs = [.slice B n c] ∧ RdN A.m A.rd w B n xs
  own := fun w cs xs bl => ∃ v css bls, cs = [v] ∧ Parts A E w v xs css bls ∧ bl = obl v ++ bls.flatten
  cnt := fun xs => xs.length + (xs.map A.cnt).sum
  rd_len := fun ⟨_, _, _, e, _⟩ => by rw [e]; rfl
  stab := fun {w} {w'} {cs} {xs} ⟨B, n, c, e, h1, h2, h3⟩ hs => ⟨B, n, c, e, h1, h2, fun k x hk => by
    obtain ⟨b, o, vs, e1, hl, hc, hr⟩ := h3 k x hk
    exact ⟨b, o, vs, e1, hl, fun i v hi => (World.cell?_of_block (w := w) (hs b (cell_lt (hc i v hi)))).trans (hc i v hi), A.stab hr hs⟩⟩
  ord := fun {w} {cs} {xs} {bl} ⟨v, css, bls, e, h, _⟩ => by
    obtain ⟨B, c, hv, hr⟩ := h.rd
    exact ⟨B, xs.length, c, by rw [e, hv], hr⟩
  olt := fun {w} {cs} {xs} {bl} ⟨v, css, bls, _, h, e⟩ b hb => by rw [e] at hb; exact h.lt b hb
  osame := fun {w} {w'} {cs} {xs} {bl} ⟨v, css, bls, e, h, e'⟩ hs => ⟨v, css, bls, e, h.same fun b hb => hs b (by rw [e']; exact hb), e'⟩
section
variable {α : Type} {m : Nat} {R : World → List Value → α → Prop} {w w' : World} {A : Option Addr} {n : Nat} {xs : List α}
theorem RdN.at (h : RdN m R w A n xs) {k : Nat} (hk : k < n) : ∃ b o vs x, A = some ⟨b, o, none⟩ ∧ vs.length = m ∧ (∀ i v, vs[i]? = some v → w.cell? ⟨b, o + k * m + i, none⟩ = some v) ∧ R w vs x ∧ xs.drop k = x :: xs.drop (k + 1) ∧ xs[k]? = some x := by
  have hl : k < xs.length := by rw [h.1]; exact hk
  obtain ⟨b, o, vs, e, hm, hc, hr⟩ := h.2.2 k _ (List.getElem?_eq_getElem hl)
  exact ⟨b, o, vs, xs[k], e, hm, hc, hr, List.drop_eq_getElem_cons hl, List.getElem?_eq_getElem hl⟩
theorem RdN.len (h : RdN m R w A n xs) : xs.length = n := h.1
theorem RdN.le (h : RdN m R w A n xs) : n ≤ 9223372036854775807 := by have := h.2.1; unfold maxLen at this; omega
theorem RdN.drop_end (h : RdN m R w A n xs) {k : Nat} (hk : ¬ k < n) : xs.drop k = [] := List.drop_eq_nil_of_le (by rw [h.1]; omega)
end
theorem RdN.same {α : Type} {S : Sh α} {w w' : World} {A : Option Addr} {n : Nat} {xs : List α} (h : RdN S.m S.rd w A n xs) (hs : Same w w') : RdN S.m S.rd w' A n xs := by
  obtain ⟨B, n', c, e, h'⟩ := (Sh.rows S 0).stab (w := w) (w' := w') (cs := [.slice A n 0]) (x := xs) ⟨A, n, 0, rfl, h⟩ hs
  injection e with e _
  injection e with e1 e2 e3
  subst e1
  subst e2
  exact h'
theorem RdN.next {α : Type} {S : Sh α} {w w' : World} {A : Option Addr} {n : Nat} {xs : List α} (h : RdN S.m S.rd w A n xs) (hb : Below w.heap.size w w') : RdN S.m S.rd w' A n xs := h.same hb.block
def setAll : List Value → Nat → List Value → List Value
  | l, _, [] => l
  | l, p, c :: cs => setAll (l.set p c) (p + 1) cs
theorem setAll_get : ∀ (cs : List Value) (l : List Value) (p j : Nat), p + cs.length ≤ l.length → (setAll l p cs)[j]? = if p ≤ j ∧ j < p + cs.length then cs[j - p]? else l[j]?
  | [], l, p, j, _ => by rw [setAll, if_neg (by simp)]
  | c :: cs, l, p, j, h => by
    rw [List.length_cons] at h
    rw [setAll, setAll_get cs _ _ _ (by rw [List.length_set]; omega), List.length_cons]
    by_cases h1 : p + 1 ≤ j ∧ j < p + 1 + cs.length
    · rw [if_pos h1, if_pos (by omega), show j - p = (j - (p + 1)) + 1 by omega, List.getElem?_cons_succ]
    · rw [if_neg h1, List.getElem?_set]
      by_cases h2 : p = j
      · subst h2
        rw [if_pos rfl, if_pos (by omega), if_pos (by omega), Nat.sub_self]
        rfl
      · rw [if_neg h2, if_neg (by omega)]
structure ChgB (bl : List Nat) (w w' : World) : Prop where
  os : w'.os = w.os
  tape : w'.tape = w.tape
  output : w'.output = w.output
  size : w.heap.size ≤ w'.heap.size
  block : ∀ b, b < w.heap.size → b ∉ bl → w'.heap[b]? = w.heap[b]?
theorem ChgB.refl (bl : List Nat) (w : World) : ChgB bl w w := ⟨rfl, rfl, rfl, Nat.le_refl _, fun _ _ _ => rfl⟩
theorem ChgB.trans {bl : List Nat} {a b c : World} (h : ChgB bl a b) (k : ChgB bl b c) : ChgB bl a c :=
  ⟨k.os.trans h.os, k.tape.trans h.tape, k.output.trans h.output, Nat.le_trans h.size k.size, fun i hi hh => (k.block i (Nat.lt_of_lt_of_le hi h.size) hh).trans (h.block i hi hh)⟩
theorem ChgB.mono {bl bl' : List Nat} {w w' : World} (h : ChgB bl w w') (hs : ∀ b ∈ bl, b ∈ bl') : ChgB bl' w w' :=
  ⟨h.os, h.tape, h.output, h.size, fun b hb hn => h.block b hb fun hh => hn (hs b hh)⟩
theorem ChgB.ofBelow {bl : List Nat} {w w' : World} (h : Below w.heap.size w w') : ChgB bl w w' := ⟨h.os, h.tape, h.output, h.size, fun b hb _ => h.block b hb⟩
theorem ChgB.set {bl : List Nat} {w : World} {p : Addr} (hp : p.block ∈ bl) (u : Value) : ChgB bl w (w.setCell p u) :=
  ⟨rfl, rfl, rfl, by simp, fun b _ hn => Below.heap_setCell w p u b (fun e => hn (e ▸ hp))⟩
theorem ChgB.grown {v : Value} {w w' : World} (h : w.grownBy w' v.ownBlock) : ChgB (obl v) w w' := ⟨h.os, h.tape, h.output, h.size, fun b hb hn => h.block b hb fun e => hn (mem_obl.2 e.symm)⟩
theorem flat_once : ∀ {bls : List (List Nat)}, bls.flatten.Nodup → ∀ {i j : Nat} {x y : List Nat} {b : Nat}, bls[i]? = some x → bls[j]? = some y → b ∈ x → b ∈ y → i = j
  | [], _, i, j, x, y, b, hi, _, _, _ => by simp at hi
  | z :: l, h, i, j, x, y, b, hi, hj, hx, hy => by
    rw [List.flatten_cons, List.nodup_append] at h
    have mem : ∀ {k : Nat} {u : List Nat}, l[k]? = some u → b ∈ u → b ∈ l.flatten := fun hk hu => List.mem_flatten.2 ⟨_, List.mem_of_getElem? hk, hu⟩
    match i, j with
    | 0, 0 => rfl
    | 0, j + 1 =>
      simp at hi hj
      subst hi
      exact absurd rfl (h.2.2 b hx b (mem hj hy))
    | i + 1, 0 =>
      simp at hi hj
      subst hj
      exact absurd rfl (h.2.2 b hy b (mem hi hx))
    | i + 1, j + 1 =>
      simp at hi hj
      rw [flat_once h.2.1 hi hj hx hy]
/-- One element turned into another one, in place. -/
theorem Parts.put {α : Type} {A : Sh α} {E : TypeId} {w w' : World} {v : Value} {xs : List α} {css : List (List Value)} {bls : List (List Nat)} (h : Parts A E w v xs css bls) (hnd : (obl v ++ bls.flatten).Nodup) {k : Nat} {bk : List Nat} (hbk : bls[k]? = some bk) {c' : List Value} {x' : α}
    (hr : w'.ownsRow 0 E A.m v xs.length (setAll css.flatten (k * A.m) c')) (ho : A.own w' c' x' bk) (hfr : ∀ b ∈ bls.flatten, b ∉ bk → w'.heap[b]? = w.heap[b]?) : Parts A E w' v (xs.set k x') (css.set k c') bls := by
  have hall := h.all
  have hcl := A.rd_len (A.ord ho)
  have hl1 := h.l1
  have hl2 := h.l2
  have hkl : k < bls.length := (List.getElem?_eq_some_iff.1 hbk).1
  have hfl := flat_len hall
  have hall' : ∀ c ∈ css.set k c', c.length = A.m := fun c hc => by
    rcases List.mem_or_eq_of_mem_set hc with h1 | h1
    · exact hall c h1
    · rw [h1]; exact hcl
  have hle : k * A.m + A.m ≤ css.length * A.m := by
    have := Nat.mul_le_mul_right A.m (show k + 1 ≤ css.length by omega)
    rw [Nat.succ_mul] at this
    exact this
  have e : setAll css.flatten (k * A.m) c' = (css.set k c').flatten := by
    have hfl' := flat_len hall'
    rw [List.length_set] at hfl'
    apply List.ext_getElem?
    intro j
    rw [setAll_get _ _ _ _ (by omega), hcl]
    rcases Nat.eq_zero_or_pos A.m with h0 | h0
    · rw [h0] at hfl hfl' ⊢
      rw [if_neg (by omega), List.getElem?_eq_none (by omega), List.getElem?_eq_none (by omega)]
    · have hj := Nat.div_add_mod j A.m
      have hm := Nat.mod_lt j h0
      rw [Nat.mul_comm] at hj
      have g1 := flat_get hall (j / A.m) (j % A.m) hm
      have g2 := flat_get hall' (j / A.m) (j % A.m) hm
      rw [hj] at g1 g2
      rw [g2]
      by_cases hjk : j / A.m = k
      · have hjk' : k * A.m + j % A.m = j := by rw [← hjk]; exact hj
        rw [if_pos (by omega), hjk, List.getElem?_set_self (by omega), show j - k * A.m = j % A.m by omega]
        rfl
      · rw [List.getElem?_set_ne (fun ee => hjk ee.symm), ← g1, if_neg]
        rintro ⟨h1, h2⟩
        apply hjk
        exact Nat.div_eq_of_lt_le (by omega) (by rw [Nat.succ_mul]; omega)
  refine ⟨by rw [List.length_set, ← e]; exact hr, by simp [hl1], by simp [hl2], fun j c x b h1 h2 h3 => ?_⟩
  by_cases hjk : j = k
  · subst hjk
    rw [List.getElem?_set_self (by omega)] at h1 h2
    injection h1 with h1
    injection h2 with h2
    rw [hbk] at h3
    injection h3 with h3
    subst h1
    subst h2
    subst h3
    exact ho
  · rw [List.getElem?_set_ne (fun ee => hjk ee.symm)] at h1 h2
    refine A.osame (h.el j c x b h1 h2 h3) fun q hq => hfr q (List.mem_flatten.2 ⟨b, List.mem_of_getElem? h3, hq⟩) fun hq' => ?_
    have hnd' : bls.flatten.Nodup := (List.nodup_append.1 hnd).2.1
    exact hjk (flat_once hnd' h3 hbk hq hq')
section
open Go.ChangeShapes Go.WideShapes Go.ChangeAt Go.Joins Go.Deep
def cntS {α : Type} (f : α → Nat) (xs : List α) : Nat := (xs.map f).sum
theorem cntS_cons {α : Type} (f : α → Nat) (x : α) (xs : List α) : cntS f (x :: xs) = f x + cntS f xs := by simp [cntS]
theorem cntS_mem {α : Type} {f : α → Nat} : ∀ {xs : List α} {x : α}, x ∈ xs → f x ≤ cntS f xs
  | y :: l, x, h => by
    rw [cntS_cons]
    rcases List.mem_cons.1 h with rfl | h
    · omega
    · have := cntS_mem (f := f) h
      omega
/-- Are they the same? For things of whatever type. -/
noncomputable def eqC {α : Type} (x y : α) : Bool := @decide (x = y) (Classical.propDecidable _)
theorem eqC_iff {α : Type} {x y : α} : eqC x y = true ↔ x = y := by unfold eqC; exact @decide_eq_true_iff _ (Classical.propDecidable _)
theorem eqC_no {α : Type} {x y : α} : eqC x y = false ↔ ¬ x = y := by
  constructor
  · intro h e
    rw [eqC_iff.2 e] at h
    cases h
  · intro h
    rcases e : eqC x y with _ | _
    · rfl
    · exact absurd (eqC_iff.1 e) h
theorem eqC_self {α : Type} (x : α) : eqC x x = true := eqC_iff.2 rfl
theorem eqC_dec {α : Type} [DecidableEq α] (x y : α) : eqC x y = decide (x = y) := by
  by_cases h : x = y
  · rw [eqC_iff.2 h]; simp [h]
  · rw [eqC_no.2 h]; simp [h]
theorem eqL_dec (xs ys : List Int) : eqL xs ys = eqC xs ys := by
  rcases h : eqL xs ys with _ | _
  · symm; rw [eqC_no]; intro e; rw [eqL_iff.2 e] at h; exact absurd h (by decide)
  · symm; rw [eqC_iff]; exact eqL_iff.1 h
theorem neq_int {x y : Int} {b : Bool} (h : eqC x y = b) : (x != y) = !b := by
  subst h
  rw [eqC_dec]
  by_cases e : x = y
  · subst e; simp
  · simp [e]
def EqdAt {α : Type} (xs ys : List α) (k : Nat) : Prop := eqC (xs.drop k) (ys.drop k) = eqC xs ys
theorem eqC_cons {α : Type} (x y : α) (xs ys : List α) : eqC (x :: xs) (y :: ys) = (eqC x y && eqC xs ys) := by
  rw [Bool.eq_iff_iff, Bool.and_eq_true, eqC_iff, eqC_iff, eqC_iff]; simp
section
variable {α : Type} {xs ys : List α} {k : Nat} {x y : α}
theorem EqdAt.start (xs ys : List α) : EqdAt xs ys 0 := rfl
theorem EqdAt.step (h : EqdAt xs ys k) (h1 : xs.drop k = x :: xs.drop (k + 1)) (h2 : ys.drop k = y :: ys.drop (k + 1)) (he : eqC x y = true) : EqdAt xs ys (k + 1) := by
  unfold EqdAt at *; rw [← h, h1, h2, eqC_cons, he]; rfl
theorem EqdAt.stop (h : EqdAt xs ys k) (h1 : xs.drop k = x :: xs.drop (k + 1)) (h2 : ys.drop k = y :: ys.drop (k + 1)) (he : eqC x y = false) : false = eqC xs ys := by
  unfold EqdAt at *; rw [← h, h1, h2, eqC_cons, he]; rfl
theorem EqdAt.done (h : EqdAt xs ys k) (h1 : xs.drop k = []) (h2 : ys.drop k = []) : true = eqC xs ys := by
  unfold EqdAt at *; rw [← h, h1, h2, eqC_self]
theorem eqd_len {n m : Nat} (h1 : xs.length = n) (h2 : ys.length = m) (h : ¬ n = m) : false = eqC xs ys := by
  symm; rw [eqC_no]; intro e; subst e; omega
end
theorem dec_pair {α β : Type} (a c : α) (b d : β) : eqC (a, b) (c, d) = (eqC a c && eqC b d) := by
  rw [Bool.eq_iff_iff, Bool.and_eq_true, eqC_iff, eqC_iff, eqC_iff]; simp
def Iv (lo hi : Nat) (bl : List Nat) : Prop := bl.Nodup ∧ ∀ b ∈ bl, lo ≤ b ∧ b < hi
theorem Iv.nil (lo hi : Nat) : Iv lo hi [] := ⟨List.nodup_nil, fun b hb => by simp at hb⟩
theorem Iv.app {lo m1 m2 hi : Nat} {a b : List Nat} (ha : Iv lo m1 a) (hb : Iv m2 hi b) (h1 : lo ≤ m2) (h2 : m1 ≤ m2) (h3 : m2 ≤ hi) : Iv lo hi (a ++ b) := by
  refine ⟨List.nodup_append.2 ⟨ha.1, hb.1, fun x hx y hy => ?_⟩, fun x hx => ?_⟩
  · have := (ha.2 x hx).2
    have := (hb.2 y hy).1
    omega
  · rcases List.mem_append.1 hx with h | h
    · have := ha.2 x h
      omega
    · have := hb.2 x h
      omega
theorem Iv.app0 {lo hi : Nat} {a : List Nat} (ha : Iv lo hi a) : Iv lo hi (a ++ []) := by rw [List.append_nil]; exact ha
theorem Iv.mono {lo hi lo' hi' : Nat} {a : List Nat} (h : Iv lo hi a) (h1 : lo' ≤ lo) (h2 : hi ≤ hi') : Iv lo' hi' a := ⟨h.1, fun x hx => by have := h.2 x hx; omega⟩
theorem Sh.onext {α : Type} {S : Sh α} {w w' : World} {cs : List Value} {x : α} {bl : List Nat} (h : S.own w cs x bl) (hb : Below w.heap.size w w') : S.own w' cs x bl := S.osame h fun b hb' => hb.block b (S.olt h b hb')
/-- A copy handed back: a struct, one value. -/
def ToE {α : Type} (S : Sh α) (w : World) (x : α) (e : Ending) (w' : World) : Prop := ∃ cs bl, e = .returned (.agg cs.toArray) ∧ S.own w' cs x bl ∧ Iv w.heap.size w'.heap.size bl ∧ Below w.heap.size w w'
/-- The three boxes of a copy of a struct. -/
theorem boxes3 (w : World) (cp cz co : Array Value) (tp tr : TypeId) : ∃ w3, w3 = ((w.alloc (.cells cp tp)).alloc (.cells cz tr)).alloc (.cells co tr) ∧ Below w.heap.size w w3 ∧ w3.heap.size = w.heap.size + 3 ∧ Blk w3 w.heap.size tp cp ∧ Blk w3 (w.heap.size + 1) tr cz ∧ Blk w3 (w.heap.size + 1 + 1) tr co := by
  refine ⟨_, rfl, below_box3 _ _ _ _, by simp, ((Blk.new w _ _).next (below_box _ _)).next (below_box _ _), ?_, ?_⟩
  · have := (Blk.new (w.alloc (.cells cp tp)) tr cz).next (below_box _ (.cells co tr))
    rwa [World.size_alloc] at this
  · have := Blk.new ((w.alloc (.cells cp tp)).alloc (.cells cz tr)) tr co
    rwa [World.size_alloc, World.size_alloc] at this
theorem boxes2 (w : World) (cp cz : Array Value) (tp tr : TypeId) : ∃ w3, w3 = (w.alloc (.cells cp tp)).alloc (.cells cz tr) ∧ Below w.heap.size w w3 ∧ w3.heap.size = w.heap.size + 2 ∧ Blk w3 w.heap.size tp cp ∧ Blk w3 (w.heap.size + 1) tr cz := by
  refine ⟨_, rfl, below_box2 _ _ _, by simp, (Blk.new w _ _).next (below_box _ _), ?_⟩
  have := Blk.new (w.alloc (.cells cp tp)) tr cz
  rwa [World.size_alloc] at this
theorem boxes1 (w : World) (cp : Array Value) (tp : TypeId) : ∃ w3, w3 = w.alloc (.cells cp tp) ∧ Below w.heap.size w w3 ∧ w3.heap.size = w.heap.size + 1 ∧ Blk w3 w.heap.size tp cp := ⟨_, rfl, below_box _ _, by simp, Blk.new _ _ _⟩
theorem stab_same {α : Type} {S : Sh α} {w w' : World} {cs : List Value} {x : α} (h : S.rd w cs x) (hb : Below w.heap.size w w') : S.rd w' cs x := S.stab h hb.block
theorem keepc {w w' : World} {p : Addr} {v : Value} (hb : Below w.heap.size w w') (h : w.cell? p = some v) : w'.cell? p = some v := (hb.cell (cell_lt h)).trans h
end
theorem set_same {l : List Value} {i : Nat} {v : Value} (h : l[i]? = some v) : l.set i v = l := by
  apply List.ext_getElem?
  intro j
  rw [List.getElem?_set]
  by_cases e : i = j
  · subst e
    rw [if_pos rfl, if_pos (List.getElem?_eq_some_iff.1 h).1, h]
  · rw [if_neg e]
/-- A row of a call's own of which something within a list of blocks has changed that does not hold it. -/
theorem row_chg {w w' : World} {base size n : Nat} {e : TypeId} {v : Value} {xs : List Value} {bl : List Nat} (h : w.ownsRow base e size v n xs) (hc : ChgB bl w w') (hn : ∀ b, v.ownBlock = some b → b ∉ bl) : w'.ownsRow base e size v n xs :=
  own_same h fun b hb => hc.block b (h.lt b hb).2 (hn b hb)
theorem Sh.oset' {α : Type} {S : Sh α} {w : World} {cs : List Value} {x : α} {b1 : List Nat} (h : S.own w cs x b1) {p : Addr} (hn : p.block ∉ b1) (v : Value) : S.own (w.setCell p v) cs x b1 :=
  S.osame h fun b hb => Below.heap_setCell w p v b (fun e => hn (e ▸ hb))
theorem Parts.slice {α : Type} {A : Sh α} {E : TypeId} {w : World} {v : Value} {xs : List α} {css : List (List Value)} {bls : List (List Nat)} (h : Parts A E w v xs css bls) {j : Nat} (hj : j < xs.length) : ∃ g cap, v = .slice (some ⟨g, 0, none⟩) xs.length cap := by
  rcases h.row.2 with ⟨_, h0⟩ | ⟨g, cap, cur, hv, _⟩
  · omega
  · exact ⟨g, cap, hv⟩
def RdA {α : Type} (S : Sh α) (w : World) (x : α) (ok : Bool) (e : Ending) (w' : World) : Prop := ∃ cs, e = .returned (.tuple #[.agg cs.toArray, .bool ok]) ∧ S.rd w' cs x ∧ Below w.heap.size w w'
def OwV {α : Type} (S : Sh α) (w : World) (x : α) (ok : Bool) (e : Ending) (w' : World) : Prop := ∃ v bl, e = .returned (.tuple #[v, .bool ok]) ∧ S.own w' [v] x bl ∧ Iv w.heap.size w'.heap.size bl ∧ Below w.heap.size w w'
def OwA {α : Type} (S : Sh α) (w : World) (x : α) (ok : Bool) (e : Ending) (w' : World) : Prop := ∃ cs bl, e = .returned (.tuple #[.agg cs.toArray, .bool ok]) ∧ S.own w' cs x bl ∧ Iv w.heap.size w'.heap.size bl ∧ Below w.heap.size w w'
abbrev OpM : Type := (Int × List Int)
def shOp : Sh OpM := (Sh.pair Sh.int (Sh.il 3))
theorem rdOp {w : World} {cs : List Value} {x : OpM} (h : shOp.rd w cs x) : ∃ (ATable : Option Addr) (nTable cTable : Nat), cs = [.int .i64 x.1, .slice ATable nTable cTable] ∧ InR x.1 ∧ RdL RI w ATable nTable x.2 := by
  obtain ⟨_, _, rfl, ⟨_, rfl, rfl, loArity, hiArity⟩, ⟨_, rfl, ATable, nTable, cTable, rfl, rTable⟩⟩ := h
  exact ⟨ATable, nTable, cTable, rfl, ⟨loArity, hiArity⟩, rTable⟩
abbrev AlgebraM : Type := (Int × List OpM)
def shAlgebra : Sh AlgebraM := (Sh.pair Sh.int (Sh.rows shOp 72))
theorem rdAlgebra {w : World} {cs : List Value} {x : AlgebraM} (h : shAlgebra.rd w cs x) : ∃ (AOps : Option Addr) (nOps cOps : Nat), cs = [.int .i64 x.1, .slice AOps nOps cOps] ∧ InR x.1 ∧ RdN shOp.m shOp.rd w AOps nOps x.2 := by
  obtain ⟨_, _, rfl, ⟨_, rfl, rfl, loSize, hiSize⟩, ⟨AOps, nOps, cOps, rfl, rOps⟩⟩ := h
  exact ⟨AOps, nOps, cOps, rfl, ⟨loSize, hiSize⟩, rOps⟩
theorem pow_step {n k j : Nat} (h0 : 0 < j) (hj : j ≤ k) : n ^ (k - j) * n = n ^ (k - (j - 1)) := by
  rw [show k - (j - 1) = (k - j) + 1 by omega, Nat.pow_succ]
theorem pow_bd {n k : Nat} (hn : n ≤ 8) (hk : k ≤ 4) : n ^ k ≤ 4096 := by
  have h1 : n ^ k ≤ 8 ^ k := Nat.pow_le_pow_left hn k
  have h2 : 8 ^ k ≤ 8 ^ 4 := Nat.pow_le_pow_right (by decide) hk
  exact Nat.le_trans h1 h2
theorem power_any (n k r : Nat) (w : World) (hr : n ^ k = r) (hn : n ≤ 8) (hk : k ≤ 4) :
    Calls Try.prog 89 #[.int .i64 n, .int .i64 k] w fun e w' => e = .returned (.int .i64 r) ∧ w = w' := by
  have HR := Lib.hid hr
  clear hr
  go_enter Try.func89, Try.ntmps89
  go_wp2
  go_loop [1, 5] (fun k' p => ∃ (j P : Nat), j ≤ k ∧ k' = .int .i64 j ∧ p = .int .i64 P ∧ Hid (P = n ^ (k - j))) (fun k' _ => (intOf k').toNat)
  case atStart => exact ⟨k, 1, Nat.le_refl _, rfl, rfl, by show _ = _; rw [Nat.sub_self, Nat.pow_zero]⟩
  case round =>
    obtain ⟨j, P, hj, rfl, rfl, HP⟩ := hrel
    by_cases hlt : 0 < j
    · have hP : P ≤ 4096 := by rw [HP.out]; exact pow_bd hn (by omega)
      have hM : P * n ≤ 4096 * 8 := Nat.mul_le_mul hP hn
      have hm0 : (0 : Int) ≤ (P : Int) * (n : Int) := by rw [← Int.natCast_mul]; omega
      have hm1 : (P : Int) * (n : Int) ≤ 32768 := by rw [← Int.natCast_mul]; omega
      have HE : Hid ((P : Int) * (n : Int) = ((P * n : Nat) : Int)) := (Int.natCast_mul _ _).symm
      have HF : Hid (P * n = n ^ (k - (j - 1))) := by show _ = _; rw [HP.out]; exact pow_step hlt hj
      have hj' : (0 : Int) < (j : Int) := by omega
      clear hM
      go_wp2
      go_round
      case rel => exact ⟨j - 1, P * n, by omega, by rw [show ((j - 1 : Nat) : Int) = (j : Int) - 1 by omega], by rw [HE.out], HF⟩
      case measure => simp [intOf]; omega
    · have hj' : ¬ (0 : Int) < (j : Int) := by omega
      have hj0 : (j : Int) ≤ 0 := by omega
      go_wp2
      go_ret
      exact ⟨ret_int (by rw [HP.out, show k - j = k by omega, HR.out]), rfl⟩
theorem l2Pow_any (n k r : Nat) (w : World) (hr : n ^ k = r) (hn : n ≤ 8) (hk : k ≤ 4) :
    Calls Try.prog 81 #[.int .i64 n, .int .i64 k] w fun e w' => e = .returned (.int .i64 r) ∧ w = w' := by
  have HR := Lib.hid hr
  clear hr
  go_enter Try.func81, Try.ntmps81
  go_wp2
  go_loop [1, 5] (fun k' p => ∃ (j P : Nat), j ≤ k ∧ k' = .int .i64 j ∧ p = .int .i64 P ∧ Hid (P = n ^ (k - j))) (fun k' _ => (intOf k').toNat)
  case atStart => exact ⟨k, 1, Nat.le_refl _, rfl, rfl, by show _ = _; rw [Nat.sub_self, Nat.pow_zero]⟩
  case round =>
    obtain ⟨j, P, hj, rfl, rfl, HP⟩ := hrel
    by_cases hlt : 0 < j
    · have hP : P ≤ 4096 := by rw [HP.out]; exact pow_bd hn (by omega)
      have hM : P * n ≤ 4096 * 8 := Nat.mul_le_mul hP hn
      have hm0 : (0 : Int) ≤ (P : Int) * (n : Int) := by rw [← Int.natCast_mul]; omega
      have hm1 : (P : Int) * (n : Int) ≤ 32768 := by rw [← Int.natCast_mul]; omega
      have HE : Hid ((P : Int) * (n : Int) = ((P * n : Nat) : Int)) := (Int.natCast_mul _ _).symm
      have HF : Hid (P * n = n ^ (k - (j - 1))) := by show _ = _; rw [HP.out]; exact pow_step hlt hj
      have hj' : (0 : Int) < (j : Int) := by omega
      clear hM
      go_wp2
      go_round
      case rel => exact ⟨j - 1, P * n, by omega, by rw [show ((j - 1 : Nat) : Int) = (j : Int) - 1 by omega], by rw [HE.out], HF⟩
      case measure => simp [intOf]; omega
    · have hj' : ¬ (0 : Int) < (j : Int) := by omega
      have hj0 : (j : Int) ≤ 0 := by omega
      go_wp2
      go_ret
      exact ⟨ret_int (by rw [HP.out, show k - j = k by omega, HR.out]), rfl⟩
/-- Is x an operation on n elements? -/
def opB (n : Nat) (x : OpM) : Bool := inB x.1 0 3 && (decide (x.2.length = n ^ x.1.toNat) && allIn 0 ((n : Int) - 1) x.2)
theorem power_is {n k r : Nat} {w : World} (hr : n ^ k = r) (hn : n ≤ 8) (hk : k ≤ 4) : Calls Try.prog 89 #[.int .i64 n, .int .i64 k] w (Qt w (.int .i64 r)) := quiet_same (power_any n k r w hr hn hk)
theorem l2Pow_is {n k r : Nat} {w : World} (hr : n ^ k = r) (hn : n ≤ 8) (hk : k ≤ 4) : Calls Try.prog 81 #[.int .i64 n, .int .i64 k] w (Qt w (.int .i64 r)) := quiet_same (l2Pow_any n k r w hr hn hk)
theorem inSize_is {A : Option Addr} {n c : Nat} {xs : List Int} {m : Int} {w : World} {r : Bool} (hr : allIn 0 (m - 1) xs = r) (h : RdL RI w A n xs) : Calls Try.prog 76 #[.slice A n c, .int .i64 m] w (Qt w (.bool r)) := hr ▸ quiet_same (inSize_any A n c xs m w h)
theorem l1In_is {x a b : Int} {w : World} {r : Bool} (hr : inB x a b = r) : Calls Try.prog 55 #[.int .i64 x, .int .i64 a, .int .i64 b] w (Qt w (.bool r)) := hr ▸ quiet_same (l1In_any x a b w)
theorem isOp_any (cs : List Value) (x : OpM) (n : Nat) (w : World) (h : shOp.rd w cs x) (hn : n ≤ 8) :
    Calls Try.prog 67 #[.agg cs.toArray, .int .i64 n] w (Bl w (.bool (opB n x))) := by
  obtain ⟨a, t⟩ := x
  obtain ⟨B, m, d, rfl, ⟨lo, hi⟩, qt⟩ := rdOp h
  have hml := Lib.hid qt.len
  have hle := qt.le
  obtain ⟨w0, hw0, T0, hsz0, BP⟩ := boxes1 w #[.int .i64 a, .slice B m d] 72
  have HW0 := Lib.hid hw0
  clear hw0
  replace qt := qt.next stab_RI T0
  by_cases h0 : 0 ≤ a
  rotate_left
  · have HM : Hid (opB n (a, t) = false) := by show _ = _; unfold opB inB; simp [h0]
    go_enter Try.func67, Try.ntmps67
    go_upto_region 1 with fail
    rw [← HW0.out]
    have c0 := BP.cell 0
    have c1 := BP.cell 1
    simp at c0 c1
    go_quiet (fail)
    go_wp2_with fail
    go_ret
    exact ⟨ret_bool HM.out.symm, (by first | exact T0 | exact below_drewN (T0) _ | exact below_drewN (below_drewN (T0) _) _ | exact below_drewN (below_drewN (below_drewN (T0) _) _) _)⟩
  by_cases h3 : a ≤ 3
  rotate_left
  · have HM : Hid (opB n (a, t) = false) := by show _ = _; unfold opB inB; simp [h3]
    go_enter Try.func67, Try.ntmps67
    go_upto_region 1 with fail
    rw [← HW0.out]
    have c0 := BP.cell 0
    have c1 := BP.cell 1
    simp at c0 c1
    go_quiet (fail)
    go_wp2_with fail
    go_ret
    exact ⟨ret_bool HM.out.symm, (by first | exact T0 | exact below_drewN (T0) _ | exact below_drewN (below_drewN (T0) _) _ | exact below_drewN (below_drewN (below_drewN (T0) _) _) _)⟩
  obtain ⟨ar, rfl⟩ := Int.eq_ofNat_of_zero_le h0
  obtain ⟨r, hr⟩ : ∃ r, n ^ ar = r := ⟨_, rfl⟩
  have HR := Lib.hid hr
  clear hr
  have hd : decide (m = r) = ((m : Int) == (r : Int)) := by by_cases e : m = r <;> simp [e]; omega
  have HM : Hid (opB n ((ar : Int), t) = (((m : Int) == (r : Int)) && allIn 0 ((n : Int) - 1) t)) := by
    have hi3 : inB (ar : Int) 0 3 = true := by unfold inB; simp; omega
    show (inB (ar : Int) 0 3 && (decide (t.length = n ^ ((ar : Int)).toNat) && allIn 0 ((n : Int) - 1) t)) = _
    rw [hi3, Int.toNat_natCast, hml.out, HR.out, hd]
    rfl
  clear hd
  rcases h4 : allIn 0 ((n : Int) - 1) t with _ | _ <;> rcases h5 : ((m : Int) == (r : Int)) with _ | _
  all_goals
    have H4 := Lib.hid h4
    have H5 := Lib.hid h5
    clear h4
    go_enter Try.func67, Try.ntmps67
    go_upto_region 1 with fail
    rw [← HW0.out]
    have c0 := BP.cell 0
    have c1 := BP.cell 1
    simp at c0 c1
    go_quiet ((first | (go_at_call 89; first | exact quiet_one (power_is HR.out hn (by omega)) | exact quiet_add (power_is HR.out hn (by omega))) | (go_at_call 76; first | exact quiet_one (inSize_is H4.out (qt.drewN stab_RI _)) | exact quiet_add (inSize_is H4.out (qt.drewN stab_RI _)))))
    go_wp2_with fail
    go_ret
    exact ⟨ret_bool (by rw [HM.out, H4.out, H5.out]; rfl), (by first | exact T0 | exact below_drewN (T0) _ | exact below_drewN (below_drewN (T0) _) _ | exact below_drewN (below_drewN (below_drewN (T0) _) _) _)⟩
theorem l2Op_any (cs : List Value) (x : OpM) (n : Nat) (w : World) (h : shOp.rd w cs x) (hn : n ≤ 8) :
    Calls Try.prog 56 #[.int .i64 n, .agg cs.toArray] w (Bl w (.bool (opB n x))) := by
  obtain ⟨a, t⟩ := x
  obtain ⟨B, m, d, rfl, ⟨lo, hi⟩, qt⟩ := rdOp h
  have hml := Lib.hid qt.len
  have hle := qt.le
  obtain ⟨w0, hw0, T0, hsz0, BP⟩ := boxes1 w #[.int .i64 a, .slice B m d] 72
  have HW0 := Lib.hid hw0
  clear hw0
  replace qt := qt.next stab_RI T0
  rcases h0 : inB a 0 3 with _ | _
  · have HM : Hid (opB n (a, t) = false) := by show (inB a 0 3 && _) = false; rw [h0]; rfl
    have H0 := Lib.hid h0
    clear h0
    go_enter Try.func56, Try.ntmps56
    go_upto_region 1 with fail
    rw [← HW0.out]
    have c0 := BP.cell 0
    have c1 := BP.cell 1
    simp at c0 c1
    go_quiet ((go_at_call 55; first | exact quiet_one (l1In_is H0.out) | exact quiet_add (l1In_is H0.out)))
    go_wp2_with fail
    go_ret
    exact ⟨ret_bool HM.out.symm, (by first | exact T0 | exact below_drewN (T0) _ | exact below_drewN (below_drewN (T0) _) _ | exact below_drewN (below_drewN (below_drewN (T0) _) _) _)⟩
  have h03 : 0 ≤ a ∧ a ≤ 3 := by unfold inB at h0; simp at h0; omega
  have H0 := Lib.hid h0
  clear h0
  obtain ⟨ar, rfl⟩ := Int.eq_ofNat_of_zero_le h03.1
  obtain ⟨r, hr⟩ : ∃ r, n ^ ar = r := ⟨_, rfl⟩
  have HR := Lib.hid hr
  clear hr
  have hd : decide (m = r) = !((m : Int) != (r : Int)) := by by_cases e : m = r <;> simp [e]; omega
  have HM : Hid (opB n ((ar : Int), t) = (!((m : Int) != (r : Int)) && allIn 0 ((n : Int) - 1) t)) := by
    show (inB (ar : Int) 0 3 && (decide (t.length = n ^ ((ar : Int)).toNat) && allIn 0 ((n : Int) - 1) t)) = _
    rw [H0.out, Int.toNat_natCast, hml.out, HR.out, hd]
    rfl
  clear hd
  rcases h5 : ((m : Int) != (r : Int)) with _ | _
  all_goals
    have H5 := Lib.hid h5
    go_enter Try.func56, Try.ntmps56
    go_upto_region 1 with fail
    rw [← HW0.out]
    have c0 := BP.cell 0
    have c1 := BP.cell 1
    simp at c0 c1
    go_quiet ((first | (go_at_call 55; first | exact quiet_one (l1In_is H0.out) | exact quiet_add (l1In_is H0.out)) | (go_at_call 81; first | exact quiet_one (l2Pow_is HR.out hn (by omega)) | exact quiet_add (l2Pow_is HR.out hn (by omega)))))
  rotate_left
  · go_wp2_with fail
    go_ret
    exact ⟨ret_bool (by rw [HM.out, H5.out]; rfl), (by first | exact T0 | exact below_drewN (T0) _ | exact below_drewN (below_drewN (T0) _) _ | exact below_drewN (below_drewN (below_drewN (T0) _) _) _)⟩
  · have HN : Hid (opB n ((ar : Int), t) = allIn 0 ((n : Int) - 1) t) := by show _ = _; rw [HM.out, H5.out]; rfl
    clear HM c0 c1
    have hn1 : (0 : Int) ≤ (n : Int) := by omega
    have hn8 : (n : Int) ≤ 8 := by omega
    go_wp2_with fail
    go_loopw [5] (fun i wr => ∃ k : Nat, k ≤ m ∧ i = .int .i64 k ∧ At (allIn 0 ((n : Int) - 1)) t k ∧ Drawn w0 wr) (fun i _ => m - (intOf i).toNat)
    case atStart => exact ⟨0, Nat.zero_le _, rfl, rfl, (by first | exact Drawn.zero _ | exact Drawn.at_ _ _ | exact (Drawn.at_ _ _).more _ | exact ((Drawn.at_ _ _).more _).more _)⟩
    case round =>
      obtain ⟨k, hk, rfl, H, z, rfl⟩ := hrel
      have c1 := (BP.drewN z).cell 1
      simp at c1
      have q' := qt.drewN stab_RI z
      by_cases hlt : k < m
      · obtain ⟨b, o, v, x, rfl, hc, ⟨rfl, -⟩, hd, -⟩ := q'.at hlt
        have H1 := Lib.hid hd
        clear hd
        have hk0 : (0 : Int) ≤ (k : Int) := by omega
        have hk1 : (k : Int) < (m : Int) := by omega
        rcases hx : inB x 0 ((n : Int) - 1) with _ | _
        · have HX := Lib.hid hx
          clear hx
          go_wp2_with (go_at_call 55; refine (l1In_any _ _ _ _).mono ?_; rintro e w' ⟨rfl, rfl⟩; rw [HX.out])
          go_ret
          exact ⟨ret_bool (by rw [HN.out]; exact H.stop H1.out (by rw [allIn, HX.out]; rfl)), (by first | exact T0 | exact below_drewN (T0) _ | exact below_drewN (below_drewN (T0) _) _ | exact below_drewN (below_drewN (below_drewN (T0) _) _) _)⟩
        · have HX := Lib.hid hx
          clear hx
          go_wp2_with (go_at_call 55; refine (l1In_any _ _ _ _).mono ?_; rintro e w' ⟨rfl, rfl⟩; rw [HX.out])
          go_roundw
          case rel => exact ⟨k + 1, by omega, by go_num, H.step H1.out (by rw [allIn, HX.out]; rfl), (by first | exact Drawn.zero _ | exact Drawn.at_ _ _ | exact (Drawn.at_ _ _).more _ | exact ((Drawn.at_ _ _).more _).more _)⟩
          case measure => simp [intOf]; omega
      · have hlt' : ¬ (k : Int) < (m : Int) := by omega
        go_wp2_with fail
        go_ret
        exact ⟨ret_bool (by rw [HN.out]; exact H.done (qt.drop_end hlt) rfl), (by first | exact T0 | exact below_drewN (T0) _ | exact below_drewN (below_drewN (T0) _) _ | exact below_drewN (below_drewN (below_drewN (T0) _) _) _)⟩
/-- Is it an algebra? -/
def algB (x : AlgebraM) : Bool := inB x.1 1 8 && (decide (x.2.length ≤ 4) && x.2.all (opB x.1.toNat))
def allOp (n : Nat) (xs : List OpM) : Bool := xs.all (opB n)
theorem allOp_cons (n : Nat) (x : OpM) (xs : List OpM) : allOp n (x :: xs) = (opB n x && allOp n xs) := rfl
theorem isAlgebra_any (cs : List Value) (x : AlgebraM) (w : World) (h : shAlgebra.rd w cs x) :
    Calls Try.prog 35 #[.agg cs.toArray] w (Bl w (.bool (algB x))) := by
  obtain ⟨a, ops⟩ := x
  obtain ⟨B, m, d, rfl, ⟨lo, hi⟩, qo⟩ := rdAlgebra h
  have hml := Lib.hid qo.len
  have hle := qo.le
  obtain ⟨w0, hw0, T0, hsz0, BP⟩ := boxes1 w #[.int .i64 a, .slice B m d] 26
  have HW0 := Lib.hid hw0
  clear hw0
  by_cases h1 : a < 1
  · have HM : Hid (algB (a, ops) = false) := by show _ = _; unfold algB inB; simp; intro h; omega
    go_enter Try.func35, Try.ntmps35
    go_wp2_with fail
    go_ret
    exact ⟨ret_bool HM.out.symm, below_box _ _⟩
  by_cases h8 : 8 < a
  · have HM : Hid (algB (a, ops) = false) := by show _ = _; unfold algB inB; simp; intro h h'; omega
    go_enter Try.func35, Try.ntmps35
    go_wp2_with fail
    go_ret
    exact ⟨ret_bool HM.out.symm, below_box _ _⟩
  obtain ⟨n, rfl⟩ := Int.eq_ofNat_of_zero_le (show 0 ≤ a by omega)
  have hi8 : inB (n : Int) 1 8 = true := by unfold inB; simp; omega
  by_cases h4 : 4 < m
  · have HM : Hid (algB ((n : Int), ops) = false) := by show (inB (n : Int) 1 8 && (decide (ops.length ≤ 4) && _)) = false; rw [hml.out]; simp; intro _ h; omega
    go_enter Try.func35, Try.ntmps35
    go_wp2_with fail
    go_ret
    exact ⟨ret_bool HM.out.symm, below_box _ _⟩
  have HM : Hid (algB ((n : Int), ops) = allOp n ops) := by
    show (inB (n : Int) 1 8 && (decide (ops.length ≤ 4) && ops.all (opB (n : Int).toNat))) = _
    rw [hi8, hml.out, Int.toNat_natCast, show decide (m ≤ 4) = true by simp; omega]
    rfl
  clear hi8
  have hn8 : n ≤ 8 := by omega
  replace qo := qo.next T0
  go_enter Try.func35, Try.ntmps35
  go_wp2_with fail
  rw [← HW0.out]
  go_loopw [4, 22] (fun _ i wr => ∃ k : Nat, k ≤ m ∧ i = .int .i64 k ∧ At (allOp n) ops k ∧ Below w0.heap.size w0 wr) (fun _ i _ => m - (intOf i).toNat)
  case atStart => exact ⟨0, Nat.zero_le _, rfl, rfl, Below.refl _ _⟩
  case round =>
    obtain ⟨k, hk, rfl, H, hT⟩ := hrel
    have q' := qo.next hT
    by_cases hlt : k < m
    · obtain ⟨b, o, vs, x, rfl, -, hc, hr, hd, -⟩ := q'.at hlt
      obtain ⟨B', m', d', rfl, qa, qt⟩ := rdOp hr
      have cc0 : wr.cell? ⟨b, o + k * 2, none⟩ = some (.int .i64 x.1) := hc 0 _ rfl
      have cc1 : wr.cell? ⟨b, o + k * 2 + 1, none⟩ = some (.slice B' m' d') := hc 1 _ rfl
      obtain ⟨w1, hw1, T1, hsz1, BX⟩ := boxes1 wr #[.int .i64 x.1, .slice B' m' d'] 72
      have HW1 := Lib.hid hw1
      have cP := ((BP.next hT).next T1).cell 0
      simp at cP
      rw [HW1.out] at cP
      have H1 := Lib.hid hd
      have hr1 := shOp.stab hr T1.block
      have hT1 := below_next hT T1 rfl
      clear hd hc hw1
      have hk0 : (0 : Int) ≤ (k : Int) := by omega
      have hk1 : (k : Int) < (m : Int) := by omega
      obtain ⟨r, hr'⟩ : ∃ r, opB n x = r := ⟨_, rfl⟩
      have HR := Lib.hid hr'
      clear hr'
      go_wp2_with fail
      rw [← HW1.out]
      refine (isOp_any _ x n _ hr1 hn8).mono ?_
      rintro e w2 ⟨rfl, hb2⟩
      rw [HR.out]
      have hT2 := below_next hT1 hb2 rfl
      clear cc0 cc1 cP
      rcases r with _ | _
      · go_wp2_with fail
        go_ret
        exact ⟨ret_bool (by rw [HM.out]; exact H.stop H1.out (by rw [allOp_cons, HR.out]; rfl)), below_next T0 hT2 rfl⟩
      · go_wp2_with fail
        go_roundw
        case rel => exact ⟨k + 1, by omega, by go_num, H.step H1.out (by rw [allOp_cons, HR.out]; rfl), hT2⟩
        case measure => simp [intOf]; omega
    · have hlt' : ¬ (k : Int) < (m : Int) := by omega
      go_wp2_with fail
      go_ret
      exact ⟨ret_bool (by rw [HM.out]; exact H.done (qo.drop_end hlt) rfl), below_next T0 hT rfl⟩
theorem l2Good_any (cs : List Value) (x : AlgebraM) (w : World) (h : shAlgebra.rd w cs x) :
    Calls Try.prog 25 #[.agg cs.toArray] w (Bl w (.bool (algB x))) := by
  obtain ⟨a, ops⟩ := x
  obtain ⟨B, m, d, rfl, ⟨lo, hi⟩, qo⟩ := rdAlgebra h
  have hml := Lib.hid qo.len
  have hle := qo.le
  obtain ⟨w0, hw0, T0, hsz0, BP⟩ := boxes1 w #[.int .i64 a, .slice B m d] 26
  have HW0 := Lib.hid hw0
  clear hw0
  rcases h1 : inB a 1 8 with _ | _
  · have HM : Hid (algB (a, ops) = false) := by show (inB a 1 8 && _) = false; rw [h1]; rfl
    have H1 := Lib.hid h1
    clear h1
    go_enter Try.func25, Try.ntmps25
    go_wp2_with (go_at_call 55; refine (l1In_any _ _ _ _).mono ?_; rintro e w' ⟨rfl, rfl⟩; rw [H1.out])
    go_ret
    exact ⟨ret_bool HM.out.symm, below_box _ _⟩
  have h18 : 1 ≤ a ∧ a ≤ 8 := by unfold inB at h1; simp at h1; omega
  have H1 := Lib.hid h1
  clear h1
  obtain ⟨n, rfl⟩ := Int.eq_ofNat_of_zero_le (show 0 ≤ a by omega)
  by_cases h4 : 4 < m
  · have HM : Hid (algB ((n : Int), ops) = false) := by show (inB (n : Int) 1 8 && (decide (ops.length ≤ 4) && _)) = false; rw [hml.out]; simp; intro _ h; omega
    go_enter Try.func25, Try.ntmps25
    go_wp2_with (go_at_call 55; refine (l1In_any _ _ _ _).mono ?_; rintro e w' ⟨rfl, rfl⟩; rw [H1.out])
    go_ret
    exact ⟨ret_bool HM.out.symm, below_box _ _⟩
  have HM : Hid (algB ((n : Int), ops) = allOp n ops) := by
    show (inB (n : Int) 1 8 && (decide (ops.length ≤ 4) && ops.all (opB (n : Int).toNat))) = _
    rw [H1.out, hml.out, Int.toNat_natCast, show decide (m ≤ 4) = true by simp; omega]
    rfl
  have hn8 : n ≤ 8 := by omega
  replace qo := qo.next T0
  go_enter Try.func25, Try.ntmps25
  go_wp2_with (go_at_call 55; refine (l1In_any _ _ _ _).mono ?_; rintro e w' ⟨rfl, rfl⟩; rw [H1.out])
  rw [← HW0.out]
  go_loopw [3] (fun i wr => ∃ k : Nat, k ≤ m ∧ i = .int .i64 k ∧ At (allOp n) ops k ∧ Below w0.heap.size w0 wr) (fun i _ => m - (intOf i).toNat)
  case atStart => exact ⟨0, Nat.zero_le _, rfl, rfl, Below.refl _ _⟩
  case round =>
    obtain ⟨k, hk, rfl, H, hT⟩ := hrel
    have q' := qo.next hT
    have BPr := BP.next hT
    have cP0 := BPr.cell 0
    have cP1 := BPr.cell 1
    simp at cP0 cP1
    by_cases hlt : k < m
    · obtain ⟨b, o, vs, x, rfl, -, hc, hr, hd, -⟩ := q'.at hlt
      obtain ⟨B', m', d', rfl, qa, qt⟩ := rdOp hr
      have cc0 : wr.cell? ⟨b, o + k * 2, none⟩ = some (.int .i64 x.1) := hc 0 _ rfl
      have cc1 : wr.cell? ⟨b, o + k * 2 + 1, none⟩ = some (.slice B' m' d') := hc 1 _ rfl
      have HD := Lib.hid hd
      clear hd hc
      have hk0 : (0 : Int) ≤ (k : Int) := by omega
      have hk1 : (k : Int) < (m : Int) := by omega
      obtain ⟨r, hr'⟩ : ∃ r, opB n x = r := ⟨_, rfl⟩
      have HR := Lib.hid hr'
      clear hr'
      have Tk : Below wr.heap.size wr wr := Below.refl _ _
      go_upto_region 6 with fail
      go_cut [29] (fun v wx => v = .bool (!r) ∧ Below wr.heap.size wr wx)
      case first =>
        go_region_held3 (fun w' => w'.cell? ⟨w.heap.size, 0, none⟩ = some (.int .i64 n) ∧ w'.cell? ⟨w.heap.size, 1, none⟩ = some (.slice (some ⟨b, o, none⟩) m d) ∧ w'.cell? ⟨b, o + k * 2, none⟩ = some (.int .i64 x.1) ∧ w'.cell? ⟨b, o + k * 2 + 1, none⟩ = some (.slice B' m' d')) (first | go_keep | exact ⟨keepc Tk cP0, keepc Tk cP1, keepc Tk cc0, keepc Tk cc1⟩) ((go_at_call 56; refine (l2Op_any [.int .i64 x.1, .slice B' m' d'] x n _ (shOp.stab hr (by first | exact Tk.block | exact (Below.drew Tk).block)) hn8).mono ?_; rintro e wn ⟨rfl, hbn⟩; replace Tk := below_next (by first | exact Tk | exact Below.drew Tk) hbn rfl; rw [HR.out]))
        all_goals (go_wp2_with fail; go_meet; exact ⟨rfl, Tk⟩)
      case rest =>
        obtain ⟨rfl, hb4⟩ := hcut
        have hT2 := below_next hT hb4 rfl
        clear hb4 Tk cP0 cP1 cc0 cc1
        rcases r with _ | _
        · go_wp2_with fail
          go_ret
          exact ⟨ret_bool (by rw [HM.out]; exact H.stop HD.out (by rw [allOp_cons, HR.out]; rfl)), below_next T0 hT2 rfl⟩
        · go_wp2_with fail
          go_roundw
          case rel => exact ⟨k + 1, by omega, by go_num, H.step HD.out (by rw [allOp_cons, HR.out]; rfl), hT2⟩
          case measure => simp [intOf]; omega
    · have hlt' : ¬ (k : Int) < (m : Int) := by omega
      go_wp2_with fail
      go_ret
      exact ⟨ret_bool (by rw [HM.out]; exact H.done (qo.drop_end hlt) rfl), below_next T0 hT rfl⟩
/-- Is it a small algebra? -/
def smallB (x : AlgebraM) : Bool := algB x && decide (x.1 ≤ 5)
theorem isNamed_any (cs : List Value) (x : AlgebraM) (w : World) (h : shAlgebra.rd w cs x) :
    Calls Try.prog 29 #[.agg cs.toArray] w (Bl w (.bool (smallB x))) := by
  obtain ⟨B, m, d, rfl, qs, qo⟩ := rdAlgebra h
  obtain ⟨w0, hw0, T0, hsz0, BP⟩ := boxes1 w #[.int .i64 x.1, .slice B m d] 26
  have HW0 := Lib.hid hw0
  clear hw0
  obtain ⟨r, hr⟩ : ∃ r, algB x = r := ⟨_, rfl⟩
  have HM : Hid (smallB x = (r && decide (x.1 ≤ 5))) := by show _ = _; unfold smallB; rw [hr]
  have HR := Lib.hid hr
  clear hr
  go_enter Try.func29, Try.ntmps29
  go_wp2_with fail
  rw [← HW0.out]
  refine (isAlgebra_any _ x _ (shAlgebra.stab h T0.block)).mono ?_
  rintro e w1 ⟨rfl, hb1⟩
  rw [HR.out]
  have T1 := below_next T0 hb1 rfl
  have cP := (BP.next hb1).cell 0
  simp at cP
  rcases r with _ | _
  all_goals
    go_wp2_with fail
    go_ret
    exact ⟨ret_bool (by rw [HM.out]; simp), T1⟩
theorem l31Takes_any (cs : List Value) (x : AlgebraM) (w : World) (h : shAlgebra.rd w cs x) :
    Calls Try.prog 32 #[.agg cs.toArray] w (Bl w (.bool (smallB x))) := by
  obtain ⟨B, m, d, rfl, qs, qo⟩ := rdAlgebra h
  obtain ⟨w0, hw0, T0, hsz0, BP⟩ := boxes1 w #[.int .i64 x.1, .slice B m d] 26
  have HW0 := Lib.hid hw0
  clear hw0
  obtain ⟨r, hr⟩ : ∃ r, algB x = r := ⟨_, rfl⟩
  have HM : Hid (smallB x = (r && decide (x.1 ≤ 5))) := by show _ = _; unfold smallB; rw [hr]
  have HR := Lib.hid hr
  clear hr
  go_enter Try.func32, Try.ntmps32
  go_wp2_with fail
  rw [← HW0.out]
  refine (l2Good_any _ x _ (shAlgebra.stab h T0.block)).mono ?_
  rintro e w1 ⟨rfl, hb1⟩
  rw [HR.out]
  have T1 := below_next T0 hb1 rfl
  have cP := (BP.next hb1).cell 0
  simp at cP
  rcases r with _ | _
  all_goals
    go_wp2_with fail
    go_ret
    exact ⟨ret_bool (by rw [HM.out]; simp), T1⟩
def codeL : List OpM → List Int
  | [] => []
  | x :: l => x.2 ++ codeL l
theorem codeL_len : ∀ xs : List OpM, (codeL xs).length = cntS shOp.cnt xs
  | [] => rfl
  | x :: l => by
    rw [codeL, List.length_append, codeL_len l, cntS_cons]
    show x.2.length + _ = (0 + x.2.length) + _
    omega
/-- What has been gathered, and what the rest gives. -/
def CdAt (xs : List OpM) (k : Nat) (acc : List Int) : Prop := acc ++ codeL (xs.drop k) = codeL xs
theorem CdAt.step {xs : List OpM} {k : Nat} {acc : List Int} {x : OpM} (h : CdAt xs k acc) (hd : xs.drop k = x :: xs.drop (k + 1)) : CdAt xs (k + 1) (acc ++ x.2) := by
  unfold CdAt at *
  rw [← h, hd, codeL, List.append_assoc]
theorem CdAt.done {xs : List OpM} {k : Nat} {acc : List Int} (h : CdAt xs k acc) (hd : xs.drop k = []) : acc = codeL xs := by
  unfold CdAt at h
  rwa [hd, codeL, List.append_nil] at h
theorem CdAt.len {xs : List OpM} {k : Nat} {acc : List Int} {x : OpM} (h : CdAt xs k acc) (hd : xs.drop k = x :: xs.drop (k + 1)) : acc.length + x.2.length ≤ cntS shOp.cnt xs := by
  unfold CdAt at h
  have := congrArg List.length h
  rw [hd, codeL, List.length_append, List.length_append, codeL_len] at this
  have h2 := codeL_len xs
  omega
/-- A code handed back. -/
def CodeE (w : World) (xs : List OpM) (e : Ending) (w' : World) : Prop := ∃ A c, e = .returned (.slice A (codeL xs).length c) ∧ w'.ownsRow w.heap.size 3 1 (.slice A (codeL xs).length c) (codeL xs).length (ints (codeL xs)) ∧ Below w.heap.size w w'
theorem lit_below {w w0 : World} (hT : Below w.heap.size w w0) : (w0.alloc (.cells #[] 3)).ownsRow w.heap.size 3 1 (.slice (some ⟨w0.heap.size, 0, none⟩) 0 0) 0 [] := World.ownsRow_lit _ _ _ hT.size (Nat.zero_le _) rfl
theorem codeOf_any (cs : List Value) (x : AlgebraM) (w : World) (h : shAlgebra.rd w cs x) (hn : shAlgebra.cnt x ≤ 1048576) :
    Calls Try.prog 61 #[.agg cs.toArray] w (CodeE w x.2) := by
  obtain ⟨B, m, d, rfl, qs, qo⟩ := rdAlgebra h
  have hle := qo.le
  have hcn : 0 + (x.2.length + cntS shOp.cnt x.2) ≤ 1048576 := hn
  obtain ⟨w0, hw0, T0, hsz0, BP⟩ := boxes1 w #[.int .i64 x.1, .slice B m d] 26
  have hown0 := lit_below T0
  have T1 := below_next T0 (below_box w0 (.cells #[] 3)) rfl
  obtain ⟨w1, hw1⟩ : ∃ wb, wb = w0.alloc (.cells #[] 3) := ⟨_, rfl⟩
  rw [← hw1] at hown0 T1
  have hz1 : w1.heap.size = w.heap.size + 2 := by rw [hw1]; simp; omega
  rw [hsz0] at hown0
  have HW : Hid (w1 = (w.alloc (.cells #[.int .i64 x.1, .slice B m d] 26)).alloc (.cells #[] 3)) := by show _ = _; rw [hw1, hw0]
  clear hw0 hw1 T0 BP
  have HL := Lib.hid (codeL_len x.2)
  go_enter Try.func61, Try.ntmps61
  go_wp2_with fail
  rw [← HW.out]
  go_loopw [3, 5, 10] (fun v _ i wr => ∃ (k : Nat) (acc : List Int) (A : Option Addr) (c : Nat), k ≤ m ∧ i = .int .i64 k ∧ v = .slice A acc.length c ∧ CdAt x.2 k acc ∧ wr.ownsRow w.heap.size 3 1 (.slice A acc.length c) acc.length (ints acc) ∧ Below w.heap.size w wr) (fun _ _ i _ => m - (intOf i).toNat)
  case atStart => exact ⟨0, [], _, _, Nat.zero_le _, rfl, rfl, rfl, hown0, T1⟩
  case round =>
    clear hown0 T1
    obtain ⟨k, acc, A, c, hk, rfl, rfl, HA, hown, hTw⟩ := hrel
    have q' := qo.next hTw
    by_cases hlt : k < m
    · obtain ⟨b, o, vs, y, rfl, -, hc, hr, hd, -⟩ := q'.at hlt
      obtain ⟨B', m', d', rfl, qa, qt⟩ := rdOp hr
      obtain rfl : y.2.length = m' := qt.len
      have cc0 : wr.cell? ⟨b, o + k * 2, none⟩ = some (.int .i64 y.1) := hc 0 _ rfl
      have cc1 : wr.cell? ⟨b, o + k * 2 + 1, none⟩ = some (.slice B' y.2.length d') := hc 1 _ rfl
      have hb1 := below_box wr (.cells #[.int .i64 y.1, .slice B' y.2.length d'] 72)
      have hown1 := own_next hown hb1
      have qt1 := qt.next stab_RI hb1
      have hTw1 := below_next hTw hb1 rfl
      have hbase := hTw1.size
      have hal := HA.len hd
      have HS := Lib.hid (HA.step hd)
      clear hd hc hb1
      have hk0 : (0 : Int) ≤ (k : Int) := by omega
      have hk1 : (k : Int) < (m : Int) := by omega
      go_wp2_with (at_builtin; refine appAny _ rfl _ _ 38 3 rfl (.int .i64 0) 8 Try.underlying38 info_int rfl (by decide) w.heap.size acc.length c A (ints acc) rfl hown1 B' y.2.length d' y.2 (.int .i64) (fun _ => rfl) rfl qt1 (fun _ _ _ hr => hr.1) (by omega) hbase ?_; intro A2 c2 w2 hown2 hg2 hb2)
      go_roundw
      case rel => exact ⟨k + 1, acc ++ y.2, A2, c2, by omega, by go_num, by rw [List.length_append], HS.out, by rw [List.length_append]; simpa [ints] using hown2, hTw1.trans hb2⟩
      case measure => simp [intOf]; omega
    · obtain rfl := HA.done (qo.drop_end hlt)
      have hlt' : ¬ (k : Int) < (m : Int) := by omega
      go_wp2_with fail
      go_ret
      exact ⟨A, c, rfl, hown, hTw⟩
theorem own_off {w : World} {base : Nat} {e : TypeId} {size : Nat} {v : Value} {n : Nat} {xs : List Value} (h : w.ownsRow base e size v n xs) {g : Nat} {t : TypeId} {cs : Array Value} (hB : Blk w g t cs) (hne : e ≠ t) : v.ownBlock ≠ some g := by
  rcases h.2 with ⟨rfl, _⟩ | ⟨g1, cap, cur, rfl, _, hh, _⟩
  · simp [Value.ownBlock]
  · intro hc
    simp only [Value.ownBlock, Option.some.injEq] at hc
    subst hc
    rw [hB] at hh
    injection hh with hh
    injection hh with _ ht
    exact hne ht.symm
theorem l31Code_any (cs : List Value) (x : AlgebraM) (w : World) (h : shAlgebra.rd w cs x) (hn : shAlgebra.cnt x ≤ 1048576) :
    Calls Try.prog 44 #[.agg cs.toArray] w (CodeE w x.2) := by
  obtain ⟨B, m, d, rfl, qs, qo⟩ := rdAlgebra h
  have hle := qo.le
  have hcn : 0 + (x.2.length + cntS shOp.cnt x.2) ≤ 1048576 := hn
  obtain ⟨w0, hw0, T0, hsz0, BP⟩ := boxes1 w #[.int .i64 x.1, .slice B m d] 26
  have hown0 := lit_below T0
  have T1 := below_next T0 (below_box w0 (.cells #[] 3)) rfl
  obtain ⟨w1, hw1⟩ : ∃ wb, wb = w0.alloc (.cells #[] 3) := ⟨_, rfl⟩
  replace BP : Blk w1 w.heap.size 26 #[.int .i64 x.1, .slice B m d] := by rw [hw1]; exact BP.alloc _
  rw [← hw1] at hown0 T1
  have hz1 : w1.heap.size = w.heap.size + 2 := by rw [hw1]; simp; omega
  rw [hsz0] at hown0
  have HW : Hid (w1 = (w.alloc (.cells #[.int .i64 x.1, .slice B m d] 26)).alloc (.cells #[] 3)) := by show _ = _; rw [hw1, hw0]
  clear hw0 hw1 T0
  have HL := Lib.hid (codeL_len x.2)
  go_enter Try.func44, Try.ntmps44
  go_wp2_with fail
  rw [← HW.out]
  go_loopw [3, 4] (fun v i wr => ∃ (k : Nat) (acc : List Int) (A : Option Addr) (c : Nat), k ≤ m ∧ i = .int .i64 k ∧ v = .slice A acc.length c ∧ CdAt x.2 k acc ∧ wr.ownsRow w.heap.size 3 1 (.slice A acc.length c) acc.length (ints acc) ∧ Blk wr w.heap.size 26 #[.int .i64 x.1, .slice B m d] ∧ Below w.heap.size w wr) (fun _ i _ => m - (intOf i).toNat)
  case atStart => exact ⟨0, [], _, _, Nat.zero_le _, rfl, rfl, rfl, hown0, BP, T1⟩
  case round =>
    clear hown0 T1 BP
    obtain ⟨k, acc, A, c, hk, rfl, rfl, HA, hown, BP, hTw⟩ := hrel
    have q' := qo.next hTw
    have cP := BP.cell 1
    simp at cP
    by_cases hlt : k < m
    · obtain ⟨b, o, vs, y, rfl, -, hc, hr, hd, -⟩ := q'.at hlt
      obtain ⟨B', m', d', rfl, qa, qt⟩ := rdOp hr
      obtain rfl : y.2.length = m' := qt.len
      have cc1 : wr.cell? ⟨b, o + k * 2 + 1, none⟩ = some (.slice B' y.2.length d') := hc 1 _ rfl
      have hbase := hTw.size
      have hal := HA.len hd
      have HS := Lib.hid (HA.step hd)
      clear hd hc
      have hk0 : (0 : Int) ≤ (k : Int) := by omega
      have hk1 : (k : Int) < (m : Int) := by omega
      go_wp2_with (at_builtin; refine appAny _ rfl _ _ 38 3 rfl (.int .i64 0) 8 Try.underlying38 info_int rfl (by decide) w.heap.size acc.length c A (ints acc) rfl hown B' y.2.length d' y.2 (.int .i64) (fun _ => rfl) rfl qt (fun _ _ _ hr => hr.1) (by omega) hbase ?_; intro A2 c2 w2 hown2 hg2 hb2)
      go_roundw
      case rel => exact ⟨k + 1, acc ++ y.2, A2, c2, by omega, by go_num, by rw [List.length_append], HS.out, by rw [List.length_append]; simpa [ints] using hown2, BP.grown hg2 (fun e => own_off hown BP (by decide) e.symm), hTw.trans hb2⟩
      case measure => simp [intOf]; omega
    · obtain rfl := HA.done (qo.drop_end hlt)
      have hlt' : ¬ (k : Int) < (m : Int) := by omega
      go_wp2_with fail
      go_ret
      exact ⟨A, c, rfl, hown, hTw⟩
theorem own_shape {w : World} {base : Nat} {v : Value} {xs : List Int} (h : w.ownsRow base 3 1 v xs.length (ints xs)) (hx : ∀ y ∈ xs, InR y) : (Sh.il 3).own w [v] xs (obl v) := ⟨v, rfl, own_mono h (Nat.zero_le _), hx, rfl⟩
theorem obl_iv {w : World} {base size : Nat} {e : TypeId} {v : Value} {n : Nat} {xs : List Value} (h : w.ownsRow base e size v n xs) : Iv base w.heap.size (obl v) := by
  refine ⟨?_, fun b hb => h.lt b (mem_obl.1 hb)⟩
  unfold obl
  cases v.ownBlock <;> simp
theorem l1Own_any (A : Option Addr) (n c : Nat) (xs : List Int) (w : World) (h : RdL RI w A n xs) (hn : n ≤ 1048576) :
    Calls Try.prog 72 #[.slice A n c] w fun e w' => ∃ A' c', e = .returned (.slice A' n c') ∧ w'.ownsRow w.heap.size 3 1 (.slice A' n c') n (ints xs) ∧ Below w.heap.size w w' := by
  have hT := below_box w (.cells #[] 3)
  have hown : (w.alloc (.cells #[] 3)).ownsRow w.heap.size 3 1 (.slice (some ⟨w.heap.size, 0, none⟩) 0 0) 0 [] := World.ownsRow_lit _ _ _ (Nat.le_refl _) (Nat.zero_le _) rfl
  have h1 := h.next stab_RI hT
  go_enter Try.func72, Try.ntmps72
  go_wp2_with (at_builtin; refine appAny _ rfl _ _ 38 3 rfl (.int .i64 0) 8 Try.underlying38 info_int rfl (by decide) w.heap.size 0 0 (some ⟨w.heap.size, 0, none⟩) [] rfl hown A n c xs (.int .i64) (fun _ => rfl) rfl h1 (fun _ _ _ hr => hr.1) (by omega) hT.size ?_; intro A2 c2 w2 hown2 hg2 hb2)
  go_ret
  refine ⟨A2, c2, by simp, ?_, hT.trans hb2⟩
  simpa [ints] using hown2
theorem allIn_m {a b : Int} : ∀ {l : List Int}, allIn a b l = true ↔ ∀ x ∈ l, a ≤ x ∧ x ≤ b
  | [] => by simp [allIn]
  | y :: l => by
    simp [allIn, inB, allIn_m (l := l)]
def digs (n : Nat) : Nat → Nat → List Nat
  | 0, _ => []
  | k + 1, i => digs n k (i / n) ++ [i % n]
def idx (n : Nat) (l : List Nat) : Nat := l.foldl (fun a d => a * n + d) 0
theorem idx_snoc (n : Nat) (l : List Nat) (d : Nat) : idx n (l ++ [d]) = idx n l * n + d := by simp [idx, List.foldl_append]
theorem digs_len (n : Nat) : ∀ k i, (digs n k i).length = k
  | 0, _ => rfl
  | k + 1, i => by rw [digs, List.length_append, digs_len n k]; rfl
theorem digs_lt {n : Nat} (hn : 0 < n) : ∀ {k i d}, d ∈ digs n k i → d < n
  | 0, _, _, h => by cases h
  | k + 1, i, d, h => by
    rw [digs, List.mem_append] at h
    rcases h with h | h
    · exact digs_lt hn h
    · rw [List.mem_singleton] at h
      subst h
      exact Nat.mod_lt _ hn
theorem idx_digs {n : Nat} (hn : 0 < n) : ∀ {k i}, i < n ^ k → idx n (digs n k i) = i
  | 0, i, h => by
    simp at h
    subst h
    rfl
  | k + 1, i, h => by
    rw [digs, idx_snoc, idx_digs hn (k := k) (by rw [Nat.div_lt_iff_lt_mul hn, ← Nat.pow_succ]; exact h)]
    rw [Nat.mul_comm]
    exact Nat.div_add_mod i n
theorem idx_lt {n : Nat} : ∀ (k : Nat) (l : List Nat), l.length = k → (∀ d ∈ l, d < n) → idx n l < n ^ k
  | 0, l, hl, _ => by
    rw [List.length_eq_zero_iff] at hl
    subst hl
    simp [idx]
  | k + 1, l, hl, h => by
    obtain ⟨l', d, rfl⟩ : ∃ l' d, l = l' ++ [d] := by
      rcases List.eq_nil_or_concat l with rfl | ⟨l', d, rfl⟩
      · simp at hl
      · exact ⟨l', d, by simp⟩
    rw [idx_snoc]
    have h1 := idx_lt k l' (by simp at hl; exact hl) fun x hx => h x (by simp [hx])
    have h2 := h d (by simp)
    rw [Nat.pow_succ]
    have := Nat.mul_le_mul_right n (Nat.succ_le_of_lt h1)
    rw [Nat.succ_mul] at this
    omega
theorem digs_idx {n : Nat} (hn : 0 < n) : ∀ (k : Nat) (l : List Nat), l.length = k → (∀ d ∈ l, d < n) → digs n k (idx n l) = l
  | 0, l, hl, _ => by
    rw [List.length_eq_zero_iff] at hl
    subst hl
    rfl
  | k + 1, l, hl, h => by
    obtain ⟨l', d, rfl⟩ : ∃ l' d, l = l' ++ [d] := by
      rcases List.eq_nil_or_concat l with rfl | ⟨l', d, rfl⟩
      · simp at hl
      · exact ⟨l', d, by simp⟩
    have h2 := h d (by simp)
    rw [idx_snoc, digs, Nat.mul_comm, Nat.mul_add_div hn, Nat.div_eq_of_lt h2, Nat.add_zero, Nat.mul_add_mod, Nat.mod_eq_of_lt h2]
    rw [digs_idx hn k l' (by simp at hl; exact hl) fun x hx => h x (by simp [hx])]
def nmI (s : List Int) (v : Int) : Int := s.getD v.toNat 0
def nmAt (s : List Int) (x : Nat) : Nat := (s.getD x 0).toNat
def PermL (n : Nat) (s : List Int) : Prop := s.length = n ∧ (∀ v ∈ s, 0 ≤ v ∧ v ≤ (n : Int) - 1) ∧ s.Nodup
theorem nmAt_get {s : List Int} {x : Nat} {v : Int} (h : s[x]? = some v) : nmAt s x = v.toNat := by simp [nmAt, List.getD_eq_getElem?_getD, h]
theorem nmI_get {s : List Int} {x : Nat} {v : Int} (h : s[x]? = some v) : nmI s x = v := by simp [nmI, List.getD_eq_getElem?_getD, h]
theorem PermL.at {n : Nat} {s : List Int} (h : PermL n s) {x : Nat} (hx : x < n) : ∃ v : Nat, s[x]? = some (v : Int) ∧ v < n ∧ nmAt s x = v := by
  have hl : x < s.length := by rw [h.1]; exact hx
  have hv := h.2.1 s[x] (List.getElem_mem hl)
  refine ⟨(s[x]).toNat, ?_, by omega, ?_⟩
  · rw [List.getElem?_eq_getElem hl, Int.toNat_of_nonneg hv.1]
  · exact nmAt_get (List.getElem?_eq_getElem hl)
theorem nodup_sub : ∀ {l m : List Int}, l.Nodup → (∀ x ∈ l, x ∈ m) → l.length ≤ m.length
  | [], _, _, _ => Nat.zero_le _
  | a :: l, m, hn, hs => by
    rw [List.nodup_cons] at hn
    have hm := hs a (by simp)
    have ih := nodup_sub (m := m.erase a) hn.2 fun x hx => (List.mem_erase_of_ne (fun e => hn.1 (by rw [← e]; exact hx))).2 (hs x (by simp [hx]))
    rw [List.length_erase_of_mem hm] at ih
    have := List.length_pos_of_mem hm
    rw [List.length_cons]
    omega
theorem PermL.surj {n : Nat} {s : List Int} (h : PermL n s) {d : Nat} (hd : d < n) : ∃ x, x < n ∧ nmAt s x = d := by
  by_cases hm : (d : Int) ∈ s
  · obtain ⟨x, hx⟩ := List.getElem?_of_mem hm
    have := (List.getElem?_eq_some_iff.1 hx).1
    exact ⟨x, by rw [← h.1]; exact this, by rw [nmAt_get hx]; simp⟩
  · exfalso
    have hl : ((d : Int) :: s).length ≤ (upTo n).length := nodup_sub (List.nodup_cons.2 ⟨hm, h.2.2⟩) fun x hx => by
      have hb : 0 ≤ x ∧ x ≤ (n : Int) - 1 := by
        rcases List.mem_cons.1 hx with rfl | hx
        · omega
        · exact h.2.1 x hx
      unfold upTo
      rw [List.mem_map]
      exact ⟨x.toNat, List.mem_range.2 (by omega), by omega⟩
    rw [List.length_cons, upTo_len, h.1] at hl
    omega
def toI (n k : Nat) (s : List Int) (i : Nat) : Nat := idx n ((digs n k i).map (nmAt s))
theorem toI_lt {n k : Nat} {s : List Int} (hn : 0 < n) (hs : PermL n s) (i : Nat) : toI n k s i < n ^ k := by
  refine idx_lt k _ (by rw [List.length_map, digs_len]) fun d hd => ?_
  rw [List.mem_map] at hd
  obtain ⟨x, hx, rfl⟩ := hd
  obtain ⟨v, -, hv, e⟩ := hs.at (digs_lt hn hx)
  omega
theorem pre_list {n : Nat} {s : List Int} (hs : PermL n s) : ∀ {l : List Nat}, (∀ d ∈ l, d < n) → ∃ l' : List Nat, l'.length = l.length ∧ (∀ d ∈ l', d < n) ∧ l'.map (nmAt s) = l
  | [], _ => ⟨[], rfl, (fun d hd => by simp at hd), rfl⟩
  | d :: l, h => by
    obtain ⟨x, hx, e⟩ := hs.surj (h d (by simp))
    obtain ⟨l', h1, h2, h3⟩ := pre_list hs (l := l) fun y hy => h y (by simp [hy])
    refine ⟨x :: l', by simp [h1], fun y hy => ?_, by rw [List.map_cons, e, h3]⟩
    rcases List.mem_cons.1 hy with rfl | hy
    · exact hx
    · exact h2 y hy
theorem toI_surj {n k : Nat} {s : List Int} (hn : 0 < n) (hs : PermL n s) {j : Nat} (hj : j < n ^ k) : ∃ i, i < n ^ k ∧ toI n k s i = j := by
  obtain ⟨l', h1, h2, h3⟩ := pre_list hs (l := digs n k j) fun d hd => digs_lt hn hd
  rw [digs_len] at h1
  refine ⟨idx n l', idx_lt k l' h1 h2, ?_⟩
  unfold toI
  rw [digs_idx hn k l' h1 h2, h3, idx_digs hn hj]
def renTo (n k : Nat) (s t T : List Int) : Nat → List Int
  | 0 => T
  | m + 1 => (renTo n k s t T m).set (toI n k s m) (nmI s (t.getD m 0))
theorem renTo_len (n k : Nat) (s t T : List Int) : ∀ m, (renTo n k s t T m).length = T.length
  | 0 => rfl
  | m + 1 => by rw [renTo, List.length_set, renTo_len n k s t T m]
theorem renTo_eq {n k : Nat} {s t T T' : List Int} (hl : T.length = T'.length) : ∀ m j, (∃ i, i < m ∧ toI n k s i = j) → (renTo n k s t T m)[j]? = (renTo n k s t T' m)[j]?
  | 0, _, ⟨i, hi, _⟩ => absurd hi (by omega)
  | m + 1, j, ⟨i, hi, e⟩ => by
    rw [renTo, renTo, List.getElem?_set, List.getElem?_set, renTo_len, renTo_len, hl]
    by_cases h1 : toI n k s m = j
    · rw [if_pos h1, if_pos h1]
    · rw [if_neg h1, if_neg h1]
      refine renTo_eq hl m j ⟨i, ?_, e⟩
      rcases Nat.lt_or_ge i m with h2 | h2
      · exact h2
      · obtain rfl : i = m := by omega
        exact absurd e h1
theorem renTo_any {n k : Nat} {s t T T' : List Int} (hn : 0 < n) (hs : PermL n s) (h1 : T.length = n ^ k) (h2 : T'.length = n ^ k) : renTo n k s t T (n ^ k) = renTo n k s t T' (n ^ k) := by
  apply List.ext_getElem?
  intro j
  by_cases hj : j < n ^ k
  · exact renTo_eq (by rw [h1, h2]) _ _ (toI_surj hn hs hj)
  · rw [List.getElem?_eq_none (by rw [renTo_len]; omega), List.getElem?_eq_none (by rw [renTo_len]; omega)]
theorem renTo_in {n k : Nat} {s t T : List Int} (hs : PermL n s) (hT : ∀ v ∈ T, 0 ≤ v ∧ v ≤ (n : Int) - 1) (ht : ∀ v ∈ t, 0 ≤ v ∧ v ≤ (n : Int) - 1) : ∀ m, m ≤ t.length → ∀ v ∈ renTo n k s t T m, 0 ≤ v ∧ v ≤ (n : Int) - 1
  | 0, _ => hT
  | m + 1, hm => by
    intro v hv
    rw [renTo] at hv
    rcases List.mem_or_eq_of_mem_set hv with hv | rfl
    · exact renTo_in hs hT ht m (by omega) v hv
    · have h1 : t[m]? = some t[m] := List.getElem?_eq_getElem (by omega)
      have h2 := ht t[m] (List.getElem_mem _)
      rw [List.getD_eq_getElem?_getD, h1]
      obtain ⟨u, hu, hun, -⟩ := hs.at (x := (t[m]).toNat) (by omega)
      have := nmI_get hu
      rw [Int.toNat_of_nonneg h2.1] at this
      show 0 ≤ nmI s t[m] ∧ nmI s t[m] ≤ _
      rw [this]
      omega
theorem upTo_perm (n : Nat) : PermL n (upTo n) := by
  refine ⟨upTo_len n, fun v hv => ?_, ?_⟩
  · unfold upTo at hv
    rw [List.mem_map] at hv
    obtain ⟨x, hx, rfl⟩ := hv
    have := List.mem_range.1 hx
    omega
  · unfold upTo
    rw [List.nodup_iff_pairwise_ne, List.pairwise_map]
    exact (List.nodup_iff_pairwise_ne.1 List.nodup_range).imp fun h e => h (by omega)
theorem nmAt_up {n x : Nat} (hx : x < n) : nmAt (upTo n) x = x := by rw [nmAt_get (upTo_get hx)]; simp
theorem toI_up {n k : Nat} (hn : 0 < n) {i : Nat} (hi : i < n ^ k) : toI n k (upTo n) i = i := by
  unfold toI
  have e : (digs n k i).map (nmAt (upTo n)) = digs n k i := by
    conv => rhs; rw [← List.map_id (digs n k i)]
    apply List.map_congr_left
    intro d hd
    rw [nmAt_up (digs_lt hn hd)]
    rfl
  rw [e, idx_digs hn hi]
theorem renTo_up {n k : Nat} {t : List Int} (hn : 0 < n) (hl : t.length = n ^ k) (ht : ∀ v ∈ t, 0 ≤ v ∧ v ≤ (n : Int) - 1) : ∀ m, m ≤ n ^ k → renTo n k (upTo n) t t m = t
  | 0, _ => rfl
  | m + 1, hm => by
    rw [renTo, renTo_up hn hl ht m (by omega), toI_up hn (by omega)]
    have hml : m < t.length := by omega
    have h2 := ht t[m] (List.getElem_mem hml)
    have e : nmI (upTo n) (t.getD m 0) = t[m] := by
      rw [List.getD_eq_getElem?_getD, List.getElem?_eq_getElem hml]
      show nmI (upTo n) t[m] = _
      have := nmI_get (upTo_get (n := n) (k := (t[m]).toNat) (by omega))
      rw [Int.toNat_of_nonneg h2.1] at this
      exact this
    rw [e]
    apply List.ext_getElem?
    intro j
    rw [List.getElem?_set]
    by_cases hj : m = j
    · subst hj
      rw [if_pos rfl, if_pos hml, List.getElem?_eq_getElem hml]
    · rw [if_neg hj]
def renOp (n : Nat) (s : List Int) (x : OpM) : OpM := (x.1, renTo n x.1.toNat s x.2 x.2 x.2.length)
def ren (x : AlgebraM) (s : List Int) : AlgebraM := (x.1, x.2.map (renOp x.1.toNat s))
def OpP (n : Nat) (x : OpM) : Prop := 0 ≤ x.1 ∧ x.1 ≤ 3 ∧ x.2.length = n ^ x.1.toNat ∧ ∀ v ∈ x.2, 0 ≤ v ∧ v ≤ (n : Int) - 1
def SmallP (x : AlgebraM) : Prop := 1 ≤ x.1 ∧ x.1 ≤ 5 ∧ x.2.length ≤ 4 ∧ ∀ o ∈ x.2, OpP x.1.toNat o
def AlgP (x : AlgebraM) : Prop := 1 ≤ x.1 ∧ x.1 ≤ 8 ∧ x.2.length ≤ 4 ∧ ∀ o ∈ x.2, OpP x.1.toNat o
theorem alg_iff {x : AlgebraM} : algB x = true ↔ AlgP x := by
  have hop : ∀ n o, opB n o = true ↔ OpP n o := fun n o => by
    unfold opB OpP inB
    rw [Bool.and_eq_true, Bool.and_eq_true, Bool.and_eq_true, decide_eq_true_eq, decide_eq_true_eq, decide_eq_true_eq, allIn_m]
    exact ⟨fun ⟨⟨a, b⟩, c, d⟩ => ⟨a, b, c, d⟩, fun ⟨a, b, c, d⟩ => ⟨⟨a, b⟩, c, d⟩⟩
  unfold algB AlgP inB
  simp only [Bool.and_eq_true, decide_eq_true_eq, List.all_eq_true, hop]
  exact ⟨fun ⟨⟨a, b⟩, c, d⟩ => ⟨a, b, c, d⟩, fun ⟨a, b, c, d⟩ => ⟨⟨a, b⟩, c, d⟩⟩
theorem SmallP.alg {x : AlgebraM} (h : SmallP x) : AlgP x := ⟨h.1, by have := h.2.1; omega, h.2.2⟩
theorem small_iff {x : AlgebraM} : smallB x = true ↔ SmallP x := by
  have hop : ∀ n o, opB n o = true ↔ OpP n o := fun n o => by
    unfold opB OpP inB
    rw [Bool.and_eq_true, Bool.and_eq_true, Bool.and_eq_true, decide_eq_true_eq, decide_eq_true_eq, decide_eq_true_eq, allIn_m]
    exact ⟨fun ⟨⟨a, b⟩, c, d⟩ => ⟨a, b, c, d⟩, fun ⟨a, b, c, d⟩ => ⟨⟨a, b⟩, c, d⟩⟩
  unfold smallB algB SmallP inB
  simp only [Bool.and_eq_true, decide_eq_true_eq, List.all_eq_true, hop]
  exact ⟨fun ⟨⟨⟨a, b⟩, c, d⟩, e⟩ => ⟨a, e, c, d⟩, fun ⟨a, e, c, d⟩ => ⟨⟨⟨a, by omega⟩, c, d⟩, e⟩⟩
theorem renOp_small {n : Nat} {s : List Int} {x : OpM} (hs : PermL n s) (h : OpP n x) : OpP n (renOp n s x) :=
  ⟨h.1, h.2.1, by show (renTo _ _ _ _ _ _).length = _; rw [renTo_len]; exact h.2.2.1, renTo_in hs h.2.2.2 h.2.2.2 _ (Nat.le_refl _)⟩
theorem ren_small {x : AlgebraM} {s : List Int} (hs : PermL x.1.toNat s) (h : SmallP x) : SmallP (ren x s) := by
  refine ⟨h.1, h.2.1, by show (List.map _ _).length ≤ 4; rw [List.length_map]; exact h.2.2.1, fun o ho => ?_⟩
  have ho' : o ∈ x.2.map (renOp x.1.toNat s) := ho
  rw [List.mem_map] at ho'
  obtain ⟨o', h1, rfl⟩ := ho'
  exact renOp_small hs (h.2.2.2 o' h1)
theorem ren_up {x : AlgebraM} (h : SmallP x) : ren x (upTo x.1.toNat) = x := by
  obtain ⟨a, ops⟩ := x
  unfold ren
  show (a, ops.map (renOp a.toNat (upTo a.toNat))) = (a, ops)
  congr 1
  conv => rhs; rw [← List.map_id ops]
  apply List.map_congr_left
  intro o ho
  obtain ⟨k, t⟩ := o
  have h1 := h.2.2.2 (k, t) ho
  have hn : 0 < a.toNat := by have h0 : 1 ≤ a := h.1; omega
  show (k, renTo a.toNat k.toNat (upTo a.toNat) t t t.length) = (k, t)
  rw [renTo_up hn h1.2.2.1 h1.2.2.2 _ (Nat.le_of_eq h1.2.2.1)]
theorem ren_type {x : AlgebraM} {s : List Int} : (ren x s).2.map (·.1) = x.2.map (·.1) := by
  show (x.2.map (renOp x.1.toNat s)).map (·.1) = _
  rw [List.map_map]
  rfl
theorem code_eq {n : Nat} : ∀ {xs ys : List OpM}, (∀ o ∈ xs, OpP n o) → (∀ o ∈ ys, OpP n o) → xs.map (·.1) = ys.map (·.1) → codeL xs = codeL ys → xs = ys
  | [], [], _, _, _, _ => rfl
  | [], y :: ys, _, _, h, _ => by simp at h
  | x :: xs, [], _, _, h, _ => by simp at h
  | x :: xs, y :: ys, hx, hy, ht, hc => by
    rw [List.map_cons, List.map_cons] at ht
    injection ht with h1 h2
    have h3 := (hx x (by simp)).2.2.1
    have h4 := (hy y (by simp)).2.2.1
    rw [codeL, codeL] at hc
    obtain ⟨h5, h6⟩ := List.append_inj hc (by rw [h3, h4, h1])
    rw [code_eq (fun o ho => hx o (by simp [ho])) (fun o ho => hy o (by simp [ho])) h2 h6]
    congr 1
    exact Prod.ext h1 h5
theorem code_len_eq {n : Nat} : ∀ {xs ys : List OpM}, (∀ o ∈ xs, OpP n o) → (∀ o ∈ ys, OpP n o) → xs.map (·.1) = ys.map (·.1) → (codeL xs).length = (codeL ys).length
  | [], [], _, _, _ => rfl
  | [], y :: ys, _, _, h => by simp at h
  | x :: xs, [], _, _, h => by simp at h
  | x :: xs, y :: ys, hx, hy, ht => by
    rw [List.map_cons, List.map_cons] at ht
    injection ht with h1 h2
    rw [codeL, codeL, List.length_append, List.length_append, code_len_eq (fun o ho => hx o (by simp [ho])) (fun o ho => hy o (by simp [ho])) h2, (hx x (by simp)).2.2.1, (hy y (by simp)).2.2.1, h1]
def ords (n : Nat) : Nat → List Int → List (List Int)
  | 0, s => [s]
  | r + 1, s => (List.range n).flatMap fun (x : Nat) => if hasI (x : Int) s then [] else ords n r (s ++ [(x : Int)])
def ordsTo (n r : Nat) (s : List Int) (k : Nat) : List (List Int) := (List.range k).flatMap fun (x : Nat) => if hasI (x : Int) s then [] else ords n r (s ++ [(x : Int)])
theorem ordsTo_succ (n r : Nat) (s : List Int) (k : Nat) : ordsTo n r s (k + 1) = ordsTo n r s k ++ if hasI k s then [] else ords n r (s ++ [(k : Int)]) := by
  unfold ordsTo
  rw [List.range_succ, List.flatMap_append]
  simp
theorem ords_perm {n : Nat} : ∀ (r : Nat) {s : List Int}, s.length + r = n → (∀ v ∈ s, 0 ≤ v ∧ v ≤ (n : Int) - 1) → s.Nodup → ∀ p ∈ ords n r s, PermL n p
  | 0, s, hl, hb, hn => by
    intro p hp
    rw [ords, List.mem_singleton] at hp
    subst hp
    exact ⟨by omega, hb, hn⟩
  | r + 1, s, hl, hb, hn => by
    intro p hp
    rw [ords, List.mem_flatMap] at hp
    obtain ⟨x, hx, hp⟩ := hp
    rw [List.mem_range] at hx
    split at hp
    · cases hp
    · rename_i h
      refine ords_perm r (by rw [List.length_append]; simp; omega) (fun v hv => ?_) ?_ p hp
      · rw [List.mem_append] at hv
        rcases hv with hv | hv
        · exact hb v hv
        · rw [List.mem_singleton] at hv
          omega
      · rw [List.nodup_append]
        refine ⟨hn, by simp, fun a ha b hb' e => ?_⟩
        rw [List.mem_singleton] at hb'
        subst hb'
        subst e
        exact h (hasI_m.2 ha)
theorem ords_head {n : Nat} : ∀ (r k : Nat), k + r = n → ∃ l, ords n r (upTo k) = upTo n :: l
  | 0, k, h => ⟨[], by rw [ords, show k = n by omega]⟩
  | r + 1, k, h => by
    have h0 : ∀ j, j ≤ k → ordsTo n r (upTo k) j = [] := by
      intro j
      induction j with
      | zero => intro _; rfl
      | succ j ih =>
        intro hj
        rw [ordsTo_succ, ih (by omega), if_pos (hasI_m.2 (List.mem_of_getElem? (upTo_get (by omega))))]
        rfl
    obtain ⟨l, hl⟩ := ords_head (n := n) r (k + 1) (by omega)
    have hno : hasI (k : Int) (upTo k) = false := by
      rcases e : hasI (k : Int) (upTo k) with _ | _
      · rfl
      · have := (upTo_perm k).2.1 _ (hasI_m.1 e)
        omega
    have h1 : ∀ j, k + 1 ≤ j → ∃ l, ordsTo n r (upTo k) j = upTo n :: l := by
      intro j
      induction j with
      | zero => intro h; omega
      | succ j ih =>
        intro hj
        rw [ordsTo_succ]
        rcases Nat.lt_or_ge k j with h2 | h2
        · obtain ⟨l', hl'⟩ := ih (by omega)
          rw [hl']
          exact ⟨_, rfl⟩
        · obtain rfl : j = k := by omega
          rw [h0 _ (Nat.le_refl _), hno, if_neg (by simp), ← upTo_succ, hl]
          exact ⟨_, rfl⟩
    exact h1 n (by omega)
def better (x : AlgebraM) (b : Option (List Int)) (s : List Int) : Option (List Int) :=
  match b with
  | none => some s
  | some b => if lessL (codeL (ren x s).2) (codeL (ren x b).2) then some s else some b
def bestOf (x : AlgebraM) (l : List (List Int)) : Option (List Int) := l.foldl (better x) none
theorem bestOf_snoc (x : AlgebraM) (l : List (List Int)) (s : List Int) : bestOf x (l ++ [s]) = better x (bestOf x l) s := by simp [bestOf, List.foldl_append]
def canN (x : AlgebraM) : List Int := (bestOf x (ords x.1.toNat x.1.toNat [])).getD []
def canA (x : AlgebraM) : AlgebraM := ren x (canN x)
theorem lex_less : ∀ {xs ys : List Int}, xs.length = ys.length → (lexL xs ys < 0 ↔ lessL xs ys = true)
  | [], [], _ => by simp [lexL, lessL]
  | [], _ :: _, h => by simp at h
  | _ :: _, [], h => by simp at h
  | x :: l, y :: m, h => by
    rw [lexL, lessL]
    rcases e : (x == y) with _ | _
    · by_cases h1 : x < y
      · simp [h1]
      · simp [h1]
    · simp only [if_true]
      exact lex_less (by simpa using h)
theorem best_mem {x : AlgebraM} : ∀ {l : List (List Int)} {b : List Int}, bestOf x l = some b → b ∈ l := by
  have key : ∀ (l : List (List Int)) (a : Option (List Int)) (b : List Int), l.foldl (better x) a = some b → a = some b ∨ b ∈ l := by
    intro l
    induction l with
    | nil => intro a b h; exact .inl h
    | cons s l ih =>
      intro a b h
      rw [List.foldl_cons] at h
      rcases ih _ b h with h1 | h1
      · unfold better at h1
        split at h1
        · injection h1 with h1
          exact .inr (by rw [h1]; simp)
        · split at h1
          · injection h1 with h1
            exact .inr (by rw [h1]; simp)
          · exact .inl h1
      · exact .inr (by simp [h1])
  intro l b h
  rcases key l none b h with h1 | h1
  · cases h1
  · exact h1
theorem best_some {x : AlgebraM} {l : List (List Int)} (h : l ≠ []) : ∃ b, bestOf x l = some b := by
  have key : ∀ (l : List (List Int)) (b : List Int), ∃ c, l.foldl (better x) (some b) = some c := by
    intro l
    induction l with
    | nil => intro b; exact ⟨b, rfl⟩
    | cons s l ih =>
      intro b
      rw [List.foldl_cons]
      unfold better
      split
      · rename_i h; cases h
      · split
        · exact ih _
        · exact ih _
  rcases l with _ | ⟨s, l⟩
  · exact absurd rfl h
  · obtain ⟨c, hc⟩ := key l s
    exact ⟨c, hc⟩
theorem all_perm {x : AlgebraM} : ∀ p ∈ ords x.1.toNat x.1.toNat [], PermL x.1.toNat p := ords_perm _ (by simp) (fun v hv => by cases hv) List.nodup_nil
theorem canN_ok {x : AlgebraM} : bestOf x (ords x.1.toNat x.1.toNat []) = some (canN x) ∧ PermL x.1.toNat (canN x) := by
  obtain ⟨l, hl⟩ := ords_head x.1.toNat 0 (Nat.zero_add _) (n := x.1.toNat)
  have e : upTo 0 = [] := rfl
  rw [e] at hl
  obtain ⟨b, hb⟩ := best_some (x := x) (l := ords x.1.toNat x.1.toNat []) (by rw [hl]; simp)
  have : canN x = b := by unfold canN; rw [hb]; rfl
  rw [this]
  exact ⟨hb, all_perm _ (best_mem hb)⟩
def nats (l : List Nat) : List Int := l.map fun (d : Nat) => (d : Int)
theorem nats_len (l : List Nat) : (nats l).length = l.length := by simp [nats]
/-- p places still to be laid; cur is what is left of the index. -/
def DgAt (n k i p cur : Nat) (L : List Int) : Prop := ∃ tl : List Nat, digs n k i = digs n p cur ++ tl ∧ L = List.replicate p 0 ++ nats tl ∧ p + tl.length = k ∧ cur ≤ i
theorem DgAt.start (n k i : Nat) : DgAt n k i k i (List.replicate k 0) := ⟨[], by simp, by simp [nats], rfl, Nat.le_refl _⟩
theorem DgAt.step {n k i p cur : Nat} {L : List Int} (h : DgAt n k i (p + 1) cur L) : DgAt n k i p (cur / n) (L.set p ((cur % n : Nat) : Int)) := by
  obtain ⟨tl, h1, rfl, h3, h4⟩ := h
  refine ⟨(cur % n) :: tl, by rw [h1, digs]; simp, ?_, by simp; omega, Nat.le_trans (Nat.div_le_self _ _) h4⟩
  rw [show List.replicate (p + 1) (0 : Int) = List.replicate p 0 ++ [0] by rw [List.replicate_succ'], List.append_assoc, List.set_append_right _ _ (by simp)]
  simp [nats]
theorem DgAt.done {n k i cur : Nat} {L : List Int} (h : DgAt n k i 0 cur L) : L = nats (digs n k i) := by
  obtain ⟨tl, h1, rfl, h3, -⟩ := h
  rw [h1, digs]
  simp
theorem ints_set (l : List Int) (p : Nat) (v : Int) : (ints l).set p (.int .i64 v) = ints (l.set p v) := by simp [ints, List.map_set]
theorem ints_rep (n : Nat) : ints (List.replicate n 0) = List.replicate n (.int .i64 0) := by simp [ints]
theorem ints_len (l : List Int) : (ints l).length = l.length := by simp [ints]
theorem w64 {x : Nat} (h : x ≤ 1048576) : wrap64 (x : Int) = x := by unfold wrap64; omega
theorem argsAt_any (i k n : Nat) (w : World) (hn : 0 < n) (hn8 : n ≤ 1048576) (hk : k ≤ 1048576) (hi : i ≤ 1048576) :
    Calls Try.prog 78 #[.int .i64 i, .int .i64 k, .int .i64 n] w fun e w' => ∃ g, e = .returned (.slice (some ⟨g, 0, none⟩) k k) ∧ w'.ownsRow w.heap.size 3 1 (.slice (some ⟨g, 0, none⟩) k k) k (ints (nats (digs n k i))) ∧ Below w.heap.size w w' := by
  go_enter Try.func78, Try.ntmps78
  go_wp2_with (at_make; refine make_ints _ rfl _ _ rfl k rfl rfl (by omega) ?_; intro w1 hown hg1)
  have hT := (Below.refl w.heap.size w).grown hg1 (Nat.le_refl _) (by simp)
  clear hg1
  go_loopw [0, 8] (fun c j wr => ∃ (p cur : Nat) (L : List Int), p ≤ k ∧ c = .int .i64 cur ∧ j = .int .i64 ((p : Int) - 1) ∧ Hid (DgAt n k i p cur L) ∧ cur ≤ 1048576 ∧ wr.ownsRow w.heap.size 3 1 (.slice (some ⟨w.heap.size, 0, none⟩) k k) k (ints L) ∧ Below w.heap.size w wr) (fun _ j _ => (intOf j + 1).toNat)
  case atStart => exact ⟨k, i, List.replicate k 0, Nat.le_refl _, rfl, by go_num, DgAt.start _ _ _, by omega, by rw [ints_rep]; exact hown, hT⟩
  case round =>
    clear hown hT
    obtain ⟨p, cur, L, hp, rfl, rfl, HD, hc, hown, hT⟩ := hrel
    rcases p with _ | p
    · have hl : Hid (L = nats (digs n k i)) := HD.out.done
      have h0 : ¬ (0 : Int) ≤ ((0 : Nat) : Int) - 1 := by omega
      go_wp2
      go_ret
      exact ⟨_, rfl, by rw [← hl.out]; exact hown, hT⟩
    · have h0 : (0 : Int) ≤ ((p + 1 : Nat) : Int) - 1 := by omega
      have hp0 : (0 : Int) ≤ (p : Int) := by omega
      have hp1 : (p : Int) < (k : Int) := by omega
      have HS : Hid (DgAt n k i p (cur / n) (L.set p ((cur % n : Nat) : Int))) := HD.out.step
      have e1 : ((p + 1 : Nat) : Int) - 1 = (p : Int) := by omega
      have hLl : p < (ints L).length := by have := hown.1; omega
      have hcell : wr.cell? ⟨w.heap.size, p, none⟩ = some ((ints L)[p]) := (hown.cellAt p (by omega)).trans (List.getElem?_eq_getElem hLl)
      have hfz : wr.frozen? ⟨w.heap.size, p, none⟩ = false := hown.frozenAt p
      have hst := (hown.stored p (.int .i64 ((cur % n : Nat) : Int))).1
      rw [ints_set] at hst
      have hnz : ¬ (n : Int) = 0 := by omega
      have hcd : cur / n ≤ 1048576 := Nat.le_trans (Nat.div_le_self _ _) hc
      have HQ : Hid (wrap64 ((cur : Int) / (n : Int)) = ((cur / n : Nat) : Int)) := by
        show _ = _
        have e : (cur : Int) / (n : Int) = ((cur / n : Nat) : Int) := by simp
        rw [e]
        exact w64 hcd
      rw [e1]
      clear h0 e1
      go_wp2
      go_roundw
      case rel => exact ⟨p, cur / n, _, by omega, by rw [HQ.out], by go_num, HS, hcd, hst, hT.setCell (Nat.le_refl _) _⟩
      case measure => simp [intOf]; try omega
theorem l2Args_any (i k n : Nat) (w : World) (hn : 0 < n) (hn8 : n ≤ 1048576) (hk : k ≤ 1048576) (hi : i ≤ 1048576) :
    Calls Try.prog 58 #[.int .i64 n, .int .i64 k, .int .i64 i] w fun e w' => ∃ g, e = .returned (.slice (some ⟨g, 0, none⟩) k k) ∧ w'.ownsRow w.heap.size 3 1 (.slice (some ⟨g, 0, none⟩) k k) k (ints (nats (digs n k i))) ∧ Below w.heap.size w w' := by
  go_enter Try.func58, Try.ntmps58
  go_wp2_with (at_make; refine make_ints _ rfl _ _ rfl k rfl rfl (by omega) ?_; intro w1 hown hg1)
  have hT := (Below.refl w.heap.size w).grown hg1 (Nat.le_refl _) (by simp)
  clear hg1
  go_loopw [2, 8] (fun c j wr => ∃ (p cur : Nat) (L : List Int), p ≤ k ∧ c = .int .i64 cur ∧ j = .int .i64 ((p : Int) - 1) ∧ Hid (DgAt n k i p cur L) ∧ cur ≤ 1048576 ∧ wr.ownsRow w.heap.size 3 1 (.slice (some ⟨w.heap.size, 0, none⟩) k k) k (ints L) ∧ Below w.heap.size w wr) (fun _ j _ => (intOf j + 1).toNat)
  case atStart => exact ⟨k, i, List.replicate k 0, Nat.le_refl _, rfl, by go_num, DgAt.start _ _ _, by omega, by rw [ints_rep]; exact hown, hT⟩
  case round =>
    clear hown hT
    obtain ⟨p, cur, L, hp, rfl, rfl, HD, hc, hown, hT⟩ := hrel
    rcases p with _ | p
    · have hl : Hid (L = nats (digs n k i)) := HD.out.done
      have h0 : ¬ (0 : Int) ≤ ((0 : Nat) : Int) - 1 := by omega
      go_wp2
      go_ret
      exact ⟨_, rfl, by rw [← hl.out]; exact hown, hT⟩
    · have h0 : (0 : Int) ≤ ((p + 1 : Nat) : Int) - 1 := by omega
      have hp0 : (0 : Int) ≤ (p : Int) := by omega
      have hp1 : (p : Int) < (k : Int) := by omega
      have HS : Hid (DgAt n k i p (cur / n) (L.set p ((cur % n : Nat) : Int))) := HD.out.step
      have e1 : ((p + 1 : Nat) : Int) - 1 = (p : Int) := by omega
      have hLl : p < (ints L).length := by have := hown.1; omega
      have hcell : wr.cell? ⟨w.heap.size, p, none⟩ = some ((ints L)[p]) := (hown.cellAt p (by omega)).trans (List.getElem?_eq_getElem hLl)
      have hfz : wr.frozen? ⟨w.heap.size, p, none⟩ = false := hown.frozenAt p
      have hst := (hown.stored p (.int .i64 ((cur % n : Nat) : Int))).1
      rw [ints_set] at hst
      have hnz : ¬ (n : Int) = 0 := by omega
      have hcd : cur / n ≤ 1048576 := Nat.le_trans (Nat.div_le_self _ _) hc
      have HQ : Hid (wrap64 ((cur : Int) / (n : Int)) = ((cur / n : Nat) : Int)) := by
        show _ = _
        have e : (cur : Int) / (n : Int) = ((cur / n : Nat) : Int) := by simp
        rw [e]
        exact w64 hcd
      rw [e1]
      clear h0 e1
      go_wp2
      go_roundw
      case rel => exact ⟨p, cur / n, _, by omega, by rw [HQ.out], by go_num, HS, hcd, hst, hT.setCell (Nat.le_refl _) _⟩
      case measure => simp [intOf]; try omega
/-- The index of a list of digits. -/
theorem idx_take {n : Nat} {l : List Nat} {k d : Nat} (h : l[k]? = some d) : idx n (l.take (k + 1)) = idx n (l.take k) * n + d := by
  rw [List.take_add_one, h]
  exact idx_snoc _ _ _
theorem nats_get {l : List Nat} {k : Nat} {v : Int} (h : (nats l)[k]? = some v) : ∃ d : Nat, l[k]? = some d ∧ v = d := by
  unfold nats at h
  rw [List.getElem?_map] at h
  rcases e : l[k]? with _ | d
  · rw [e] at h; simp at h
  · rw [e] at h
    simp at h
    exact ⟨d, rfl, h.symm⟩
theorem idx_small {n : Nat} (hn : n ≤ 8) {l : List Nat} (hl : l.length ≤ 4) (hd : ∀ d ∈ l, d < n) : idx n l < 4096 + 1 := by
  have := idx_lt l.length l rfl hd
  have h2 := pow_bd hn hl
  omega
theorem indexOf_any (A : Option Addr) (k c n : Nat) (l : List Nat) (w : World) (h : RdL RI w A k (nats l)) (hn : n ≤ 8) (hk : k ≤ 4) (hd : ∀ d ∈ l, d < n) :
    Calls Try.prog 79 #[.slice A k c, .int .i64 n] w fun e w' => e = .returned (.int .i64 (idx n l : Nat)) ∧ w = w' := by
  have hle := h.le
  have HL : Hid (l.length = k) := by show _ = _; rw [← nats_len]; exact h.len
  have HD := Lib.hid hd
  clear hd
  go_enter Try.func79, Try.ntmps79
  go_wp2
  go_loop [5, 10] (fun v i => ∃ q : Nat, q ≤ k ∧ i = .int .i64 q ∧ v = .int .i64 (idx n (l.take q) : Nat)) (fun _ i => k - (intOf i).toNat)
  case atStart => exact ⟨0, Nat.zero_le _, rfl, rfl⟩
  case round =>
    obtain ⟨q, hq, rfl, rfl⟩ := hrel
    obtain ⟨P, HP⟩ : ∃ P, Hid (idx n (l.take q) = P) := ⟨_, rfl⟩
    have hP : P ≤ 4096 := by
      rw [← HP.out]
      have := idx_small hn (l := l.take q) (by rw [List.length_take, HL.out]; omega) fun d hd => HD.out d (List.mem_of_mem_take hd)
      omega
    rw [HP.out]
    by_cases hlt : q < k
    · obtain ⟨b, o, v, x, rfl, hc, ⟨rfl, -⟩, -, hx⟩ := h.at hlt
      obtain ⟨d, hd, rfl⟩ := nats_get hx
      have hdn := HD.out d (List.mem_of_getElem? hd)
      have HT : Hid (idx n (l.take (q + 1)) = P * n + d) := by show _ = _; rw [idx_take hd, HP.out]
      have hM : P * n ≤ 4096 * 8 := Nat.mul_le_mul hP hn
      have hm0 : (0 : Int) ≤ (P : Int) * (n : Int) := by rw [← Int.natCast_mul]; omega
      have hm1 : (P : Int) * (n : Int) ≤ 32768 := by rw [← Int.natCast_mul]; omega
      have HE : Hid ((P : Int) * (n : Int) = ((P * n : Nat) : Int)) := (Int.natCast_mul _ _).symm
      have hq0 : (0 : Int) ≤ (q : Int) := by omega
      have hq1 : (q : Int) < (k : Int) := by omega
      clear hM hx hd
      go_wp2
      go_round
      case rel => exact ⟨q + 1, by omega, by go_num, by rw [HT.out, HE.out]; simp⟩
      case measure => simp [intOf]; omega
    · obtain rfl : q = k := by omega
      have hlt' : ¬ (q : Int) < (q : Int) := by omega
      have HF : Hid (P = idx n l) := by show _ = _; rw [← HP.out, List.take_of_length_le (by rw [HL.out]; exact Nat.le_refl _)]
      go_wp2
      go_ret
      exact ⟨by rw [HF.out]; rfl, rfl⟩
noncomputable def tt (p : Prop) : Bool := @decide p (Classical.propDecidable p)
theorem tt_true {p : Prop} (h : p) : true = tt p := by unfold tt; simp [h]
theorem tt_false {p : Prop} (h : ¬ p) : false = tt p := by unfold tt; simp [h]
theorem tt_iff {p : Prop} : tt p = true ↔ p := by unfold tt; simp
abbrev SlT : Type := Option Addr × Nat × Nat
def slV (t : SlT) : Value := .slice t.1 t.2.1 t.2.2
def RSl (_ : World) (v : Value) (t : SlT) : Prop := v = slV t
theorem RdL.take {α : Type} {R : World → Value → α → Prop} {w : World} {A : Option Addr} {n : Nat} {xs : List α} (h : RdL R w A n xs) {k : Nat} (hk : k ≤ n) : RdL R w A k (xs.take k) := by
  refine ⟨by rw [List.length_take, h.1]; omega, Nat.le_trans hk h.2.1, fun j x hj => ?_⟩
  rw [List.getElem?_take] at hj
  split at hj
  · exact h.2.2 j x hj
  · cases hj
theorem RdL.drop {α : Type} {R : World → Value → α → Prop} {w : World} {b o n : Nat} {xs : List α} (h : RdL R w (some ⟨b, o, none⟩) n xs) (k : Nat) : RdL R w (some ⟨b, o + k, none⟩) (n - k) (xs.drop k) := by
  refine ⟨by rw [List.length_drop, h.1], Nat.le_trans (Nat.sub_le _ _) h.2.1, fun j x hj => ?_⟩
  rw [List.getElem?_drop] at hj
  obtain ⟨b', o', v, e, hc, hr⟩ := h.2.2 (k + j) x hj
  simp only [Option.some.injEq, Addr.mk.injEq, and_true] at e
  obtain ⟨rfl, rfl⟩ := e
  exact ⟨b, o + k, v, rfl, by rw [Nat.add_assoc]; exact hc, hr⟩
theorem lit0 {B : Nat} {e : TypeId} (w : World) (hB : w.heap.size = B) : (w.alloc (.cells #[] e)).ownsRow B e 1 (.slice (some ⟨B, 0, none⟩) 0 0) 0 [] := by
  subst hB
  exact World.ownsRow_lit _ _ _ (Nat.le_refl _) (Nat.zero_le _) rfl
theorem lit1 {B : Nat} {e : TypeId} (w : World) (hB : w.heap.size = B + 1) : (w.alloc (.cells #[] e)).ownsRow B e 1 (.slice (some ⟨B + 1, 0, none⟩) 0 0) 0 [] := by
  rw [← hB]
  exact World.ownsRow_lit _ _ _ (by omega) (Nat.zero_le _) rfl
theorem cell_new {B : Nat} {e : TypeId} {u : Value} (w : World) (hB : w.heap.size = B) : (w.alloc (.cells #[u] e)).cell? ⟨B, 0, none⟩ = some u := by
  subst hB
  exact (Blk.new w e #[u]).cell 0
theorem cell_new2 {B : Nat} {e : TypeId} {u : Value} (w : World) (o : Obj) (hB : w.heap.size = B) : ((w.alloc (.cells #[u] e)).alloc o).cell? ⟨B, 0, none⟩ = some u := by
  subst hB
  exact ((Blk.new w e #[u]).alloc o).cell 0
theorem own_form {w : World} {base : Nat} {e : TypeId} {size : Nat} {A : Option Addr} {n c : Nat} {xs : List Value} (h : w.ownsRow base e size (.slice A n c) n xs) (hn : 0 < n) : ∃ g, A = some ⟨g, 0, none⟩ ∧ base ≤ g ∧ n ≤ c := by
  rcases h.2 with ⟨h0, h1⟩ | ⟨g, cap, cur, hv, hb, _, hnc, _⟩
  · omega
  · injection hv with hA _ hc
    exact ⟨g, hA, hb, by omega⟩
theorem sort_cap {w : World} {base : Nat} {e : TypeId} {size : Nat} {A : Option Addr} {n c : Nat} {xs : List Value} (h : w.ownsRow base e size (.slice A n c) n xs) : n ≤ c := by
  rcases h.2 with ⟨h0, h1⟩ | ⟨g, cap, cur, hv, _, _, hnc, _⟩
  · omega
  · injection hv with _ _ hc
    omega
theorem hasI_iff {x : Int} : ∀ {l : List Int}, hasI x l = true ↔ x ∈ l
  | [] => by simp [hasI]
  | y :: l => by
    rw [hasI, Bool.or_eq_true, hasI_iff (l := l), beq_iff_eq, List.mem_cons]
    constructor
    · rintro (h | h)
      · exact .inl h.symm
      · exact .inr h
    · rintro (h | h)
      · exact .inl h.symm
      · exact .inr h
theorem allIn_iff {a b : Int} : ∀ {l : List Int}, allIn a b l = true ↔ ∀ x ∈ l, a ≤ x ∧ x ≤ b
  | [] => by simp [allIn]
  | y :: l => by simp [allIn, allIn_iff (l := l), inB]
theorem op_nat {n : Nat} {o : OpM} (h : OpP n o) : ∃ (a : Nat) (tb : List Int), o = ((a : Int), tb) ∧ a ≤ 3 := by
  obtain ⟨k, tb⟩ := o
  obtain ⟨a, ha⟩ := Int.eq_ofNat_of_zero_le h.1
  have h2 := h.2.1
  simp only at ha h2
  exact ⟨a, tb, by rw [ha], by omega⟩
theorem ints_app (a b : List Int) : ints (a ++ b) = ints a ++ ints b := by simp [ints]
theorem idx_bd {N : Nat} (hN : N ≤ 8) {l : List Nat} (hl : l.length ≤ 3) (hd : ∀ d ∈ l, d < N) : idx N l ≤ 4096 := by
  have := idx_small hN (l := l) (by omega) hd
  omega
theorem l2Value_any (cs : List Value) (x : AlgebraM) (A : Option Addr) (n c j N ar u : Nat) (l : List Nat) (tb : List Int) (w : World) (h : shAlgebra.rd w cs x) (hxN : x.1 = (N : Int)) (hN8 : N ≤ 8) (ht : RdL RI w A n (nats l)) (hd : ∀ d ∈ l, d < N) (hn : n ≤ 3) (hob : x.2[j]? = some ((ar : Int), tb)) (hu : tb[idx N l]? = some (u : Int)) :
    Calls Try.prog 98 #[.agg cs.toArray, .int .i64 j, .slice A n c] w (Bl w (.int .i64 (u : Int))) := by
  obtain ⟨a, ops⟩ := x
  simp only at hxN hob
  subst hxN
  obtain ⟨B, m, d, rfl, -, qo⟩ := rdAlgebra h
  have HLL : Hid (l.length = n) := by show _ = _; rw [← ht.len, nats_len]
  have HDL := Lib.hid hd
  have hjm : j < m := by rw [← qo.len]; exact (List.getElem?_eq_some_iff.1 hob).1
  obtain ⟨w0, hw0, T0, hsz0, BP⟩ := boxes1 w #[.int .i64 (N : Int), .slice B m d] 26
  have HW0 := Lib.hid hw0
  replace qo := qo.next T0
  replace ht := ht.next stab_RI T0
  obtain ⟨b2, o2, vs, y, rfl, -, hc2, hr2, -, hy⟩ := qo.at hjm
  simp only at hy
  rw [hob] at hy
  injection hy with hy
  subst hy
  obtain ⟨B', m', d', rfl, -, qt⟩ := rdOp hr2
  have cc1 : w0.cell? ⟨b2, o2 + j * 2 + 1, none⟩ = some (.slice B' m' d') := hc2 1 _ rfl
  have hj0 : (0 : Int) ≤ (j : Int) := by omega
  have hj1 : (j : Int) < (m : Int) := by omega
  have hPm : idx N l < m' := by rw [← qt.len]; exact (List.getElem?_eq_some_iff.1 hu).1
  obtain ⟨b3, o3, u3, y3, rfl, hc3, ⟨rfl, -, -⟩, -, hy3⟩ := qt.at hPm
  simp only at hy3
  rw [hu] at hy3
  injection hy3 with hy3
  subst hy3
  have cP0 := BP.cell 0
  have cP1 := BP.cell 1
  simp at cP0 cP1
  clear hw0 hsz0 hd hob hu hr2 hc2 qt qo h
  go_enter Try.func98, Try.ntmps98
  go_wp2_with fail
  rw [← HW0.out]
  go_loopw [7, 8] (fun at_ kk wi => ∃ p : Nat, p ≤ n ∧ kk = .int .i64 p ∧ at_ = .int .i64 ((idx N (l.take p) : Nat) : Int) ∧ Drawn w0 wi) (fun _ kk _ => n - (intOf kk).toNat)
  case atStart => exact ⟨0, Nat.zero_le _, rfl, rfl, Drawn.zero _⟩
  case round =>
    obtain ⟨p, hp, rfl, rfl, z, rfl⟩ := hrel
    obtain ⟨P, HP⟩ : ∃ P, Hid (idx N (l.take p) = P) := ⟨_, rfl⟩
    have hP : P ≤ 4096 := by rw [← HP.out]; exact idx_bd hN8 (by rw [List.length_take]; omega) fun d hd => HDL.out d (List.mem_of_mem_take hd)
    rw [HP.out]
    by_cases hlt : p < n
    · skip
      obtain ⟨b, o, v, q, rfl, hc, ⟨rfl, -, -⟩, -, hq⟩ := ht.at hlt
      obtain ⟨d, hd, rfl⟩ := nats_get hq
      have hdN := HDL.out d (List.mem_of_getElem? hd)
      have HT : Hid (idx N (l.take (p + 1)) = P * N + d) := by show _ = _; rw [idx_take hd, HP.out]
      have hM : P * N ≤ 4096 * 8 := Nat.mul_le_mul hP hN8
      have HEE : Hid ((P : Int) * (N : Int) = ((P * N : Nat) : Int)) := (Int.natCast_mul _ _).symm
      have hp1 : (p : Int) < (n : Int) := by omega
      have hp0 : (0 : Int) ≤ (p : Int) := by omega
      have hw1 : IntKind.i64.wrap ((P : Int) * (N : Int)) = (P : Int) * (N : Int) := by rw [IntKind.wrap_i64]; omega
      have hw2 : IntKind.i64.wrap ((P : Int) * (N : Int) + (d : Int)) = (P : Int) * (N : Int) + (d : Int) := by rw [IntKind.wrap_i64]; omega
      clear hM hq hd
      go_wp2_with fail
      go_quiet (fail)
      go_wp2_with fail
      go_roundw
      case rel => exact ⟨p + 1, by omega, by go_num, by rw [HT.out, HEE.out]; simp, (by first | exact Drawn.zero _ | exact Drawn.at_ _ _ | exact (Drawn.at_ _ _).more _ | exact ((Drawn.at_ _ _).more _).more _)⟩
      case measure => simp [intOf]; try omega
    · obtain rfl : p = n := by omega
      have hp1 : ¬ (p : Int) < (p : Int) := by omega
      have HPL : Hid (idx N l = P) := by
        show _ = _
        rw [← HP.out, List.take_of_length_le (by rw [HLL.out]; exact Nat.le_refl _)]
      rw [HPL.out] at hc3 hPm
      have hP0 : (0 : Int) ≤ (P : Int) := by omega
      have hP1 : (P : Int) < (m' : Int) := by omega
      go_wp2_with fail
      go_ret
      exact ⟨rfl, (by first | exact T0 | exact below_drewN (T0) _ | exact below_drewN (below_drewN (T0) _) _ | exact below_drewN (below_drewN (below_drewN (T0) _) _) _)⟩
/-- The image's index as far as k digits from the right. -/
def ImI (n ar i : Nat) (f : List Int) (k cur at_ st : Nat) : Prop := idx n ((digs n (ar - k) cur).map (nmAt f)) * st + at_ = toI n ar f i ∧ st = n ^ k
theorem ImI.start (n ar i : Nat) (f : List Int) : ImI n ar i f 0 i 0 1 := ⟨by show idx n ((digs n (ar - 0) i).map (nmAt f)) * 1 + 0 = toI n ar f i; rw [Nat.mul_one, Nat.add_zero]; rfl, (Nat.pow_zero n).symm⟩
theorem ImI.next {n ar i : Nat} {f : List Int} {k cur at_ st : Nat} (h : ImI n ar i f k cur at_ st) (hk : k < ar) : ImI n ar i f (k + 1) (cur / n) (at_ + nmAt f (cur % n) * st) (st * n) := by
  obtain ⟨h1, h2⟩ := h
  refine ⟨?_, by rw [h2, Nat.pow_succ]⟩
  rw [← h1, show ar - k = (ar - (k + 1)) + 1 by omega, digs, List.map_append, List.map_cons, List.map_nil, idx_snoc, Nat.add_mul]
  have : idx n ((digs n (ar - (k + 1)) (cur / n)).map (nmAt f)) * (st * n) = idx n ((digs n (ar - (k + 1)) (cur / n)).map (nmAt f)) * n * st := by rw [Nat.mul_assoc, Nat.mul_comm st n]
  omega
theorem ImI.done {n ar i : Nat} {f : List Int} {k cur at_ st : Nat} (h : ImI n ar i f k cur at_ st) (hk : ¬ k < ar) : at_ = toI n ar f i := by
  have h1 := h.1
  rw [show ar - k = 0 by omega] at h1
  simpa [digs, idx] using h1
theorem gk_set {w w' : World} {g : Nat} (h : w.grownBy w' (some g)) {p : Addr} (hp : p.block = g) (v : Value) : w.grownBy (w'.setCell p v) (some g) :=
  ⟨h.os, h.tape, h.output, by simpa using h.size, fun k hk hne => (Below.heap_setCell w' p v k (by intro he; rw [he, hp] at hne; exact hne rfl)).trans (h.block k hk hne)⟩
theorem gk_refl (w : World) (r : Option Nat) : w.grownBy w r := ⟨rfl, rfl, rfl, Nat.le_refl _, fun _ _ _ => rfl⟩
theorem gk_trans {w w1 w2 : World} {r : Option Nat} (h : w.grownBy w1 r) (k : w1.grownBy w2 r) : w.grownBy w2 r :=
  ⟨k.os.trans h.os, k.tape.trans h.tape, k.output.trans h.output, Nat.le_trans h.size k.size, fun b hb hne => (k.block b (Nat.lt_of_lt_of_le hb h.size) hne).trans (h.block b hb hne)⟩
theorem gk_of {w w' : World} {r : Option Nat} (h : Below w.heap.size w w') : w.grownBy w' r := ⟨h.os, h.tape, h.output, h.size, fun b hb _ => h.block b hb⟩
theorem gk_drewN {w w' : World} {r : Option Nat} (h : w.grownBy w' r) (z : Nat) : w.grownBy (w'.drewN z) r := ⟨h.os, h.tape, h.output, h.size, fun b hb hne => h.block b hb hne⟩
theorem par_cell {w : World} {base g n c : Nat} {p : List Int} (h : w.ownsRow base 3 1 (.slice (some ⟨g, 0, none⟩) n c) n (ints p)) {x : Nat} {v : Int} (hx : p[x]? = some v) (hxn : x < n) : w.cell? ⟨g, x, none⟩ = some (.int .i64 v) := by
  rw [h.cellAt x (by omega)]
  unfold ints
  rw [List.getElem?_map, hx]
  rfl
end Go.Proofs.Ytbkgbckbbnflpaa
