
/- Shapes: the harness's marks on them. -/
import Derived.Test.YtppnmpeicmlneaaShape2
namespace Go.Proofs.Ytppnmpeicmlneaa
open Go.RowKit

section
variable {α : Type} (mk : Int → α → α) (mc : α → Nat)
/-- The elements marked one after the other, from k on. -/
def mkL : Int → List α → List α
  | _, [] => []
  | k, x :: l => mk k x :: mkL (k + mc x) l
theorem mkL_len : ∀ (k : Int) (xs : List α), (mkL mk mc k xs).length = xs.length
  | _, [] => rfl
  | k, x :: l => by simp [mkL, mkL_len]
/-- Marked as far as the j-th element, the next number being k. -/
def MkAt (k0 : Int) (xs ys : List α) (j : Nat) (k : Int) : Prop := ys.take j ++ mkL mk mc k (xs.drop j) = mkL mk mc k0 xs ∧ ys.drop j = xs.drop j ∧ ys.length = xs.length ∧ k + cntS mc (xs.drop j) = k0 + cntS mc xs ∧ k0 ≤ k
def HkAt (k0 : Int) (xs : List α) (j : Nat) (k : Int) : Prop := mkL mk mc k (xs.drop j) = (mkL mk mc k0 xs).drop j ∧ k + cntS mc (xs.drop j) = k0 + cntS mc xs ∧ k0 ≤ k
end
section
variable {α : Type} {mk : Int → α → α} {mc : α → Nat} {k0 k : Int} {xs ys : List α} {j : Nat} {x : α}
theorem MkAt.start (k0 : Int) (xs : List α) : MkAt mk mc k0 xs xs 0 k0 := ⟨by simp, rfl, rfl, by simp, Int.le_refl _⟩
theorem MkAt.step (h : MkAt mk mc k0 xs ys j k) (hd : xs.drop j = x :: xs.drop (j + 1)) : MkAt mk mc k0 xs (ys.set j (mk k x)) (j + 1) (k + mc x) := by
  obtain ⟨h1, h2, h3, h4, h5⟩ := h
  have hjl : j < xs.length := by
    rcases Nat.lt_or_ge j xs.length with h | h
    · exact h
    · rw [List.drop_eq_nil_of_le h] at hd; cases hd
  have hjy : j < ys.length := by omega
  refine ⟨?_, ?_, by simp [h3], ?_, by omega⟩
  · rw [← h1, hd, mkL, List.take_add_one, List.getElem?_set_self hjy, List.take_set_of_le (Nat.le_refl j)]
    simp
  · rw [List.drop_set_of_lt (by omega)]
    have e1 : (ys.drop j).drop 1 = (xs.drop j).drop 1 := by rw [h2]
    simpa [List.drop_drop] using e1
  · rw [hd, cntS_cons] at h4
    omega
theorem MkAt.done (h : MkAt mk mc k0 xs ys j k) (hj : xs.drop j = []) : ys = mkL mk mc k0 xs ∧ k = k0 + cntS mc xs := by
  obtain ⟨h1, h2, h3, h4, h5⟩ := h
  rw [hj] at h1 h2 h4
  rw [mkL, List.append_nil] at h1
  rw [cntS_nil] at h4
  refine ⟨?_, by omega⟩
  rw [← h1]
  have := List.take_append_drop j ys
  rw [h2, List.append_nil] at this
  exact this.symm
theorem MkAt.left (h : MkAt mk mc k0 xs ys j k) (hd : xs.drop j = x :: xs.drop (j + 1)) : ys[j]? = some x ∧ k0 ≤ k ∧ k + mc x ≤ k0 + cntS mc xs := by
  obtain ⟨h1, h2, h3, h4, h5⟩ := h
  rw [hd, cntS_cons] at h4
  have e := congrArg (fun l => l[0]?) (h2.trans hd)
  simp [List.getElem?_drop] at e
  exact ⟨e, h5, by omega⟩
theorem HkAt.start (k0 : Int) (xs : List α) : HkAt mk mc k0 xs 0 k0 := ⟨rfl, rfl, Int.le_refl _⟩
theorem HkAt.step (h : HkAt mk mc k0 xs j k) (hd : xs.drop j = x :: xs.drop (j + 1)) : HkAt mk mc k0 xs (j + 1) (k + mc x) := by
  obtain ⟨h1, h2, h3⟩ := h
  rw [hd, mkL] at h1
  rw [hd, cntS_cons] at h2
  refine ⟨?_, by omega, by omega⟩
  have := congrArg (fun l => l.drop 1) h1
  simpa [List.drop_drop] using this
theorem HkAt.left (h : HkAt mk mc k0 xs j k) (hd : xs.drop j = x :: xs.drop (j + 1)) : (mkL mk mc k0 xs)[j]? = some (mk k x) ∧ k0 ≤ k ∧ k + mc x ≤ k0 + cntS mc xs := by
  obtain ⟨h1, h2, h3⟩ := h
  rw [hd, mkL] at h1
  rw [hd, cntS_cons] at h2
  have e := congrArg (fun l => l[0]?) h1
  simp [List.getElem?_drop] at e
  exact ⟨e.symm, h3, by omega⟩
theorem HkAt.done (h : HkAt mk mc k0 xs j k) (hj : xs.drop j = []) : k = k0 + cntS mc xs := by
  obtain ⟨-, h2, -⟩ := h
  rw [hj, cntS_nil] at h2
  omega
end
theorem set_same {l : List Value} {i : Nat} {v : Value} (h : l[i]? = some v) : l.set i v = l := by
  apply List.ext_getElem?
  intro j
  rw [List.getElem?_set]
  by_cases e : i = j
  · subst e
    rw [if_pos rfl, if_pos (List.getElem?_eq_some_iff.1 h).1, h]
  · rw [if_neg e]
theorem set_get_ne {l : List Value} {i j : Nat} {v u : Value} (h : l[j]? = some u) (hij : i ≠ j) : (l.set i v)[j]? = some u := by rw [List.getElem?_set_ne hij, h]
/-- A row of a call's own of which something within a list of blocks has changed that does not hold it. -/
theorem row_chg {w w' : World} {base size n : Nat} {e : TypeId} {v : Value} {xs : List Value} {bl : List Nat} (h : w.ownsRow base e size v n xs) (hc : ChgB bl w w') (hn : ∀ b, v.ownBlock = some b → b ∉ bl) : w'.ownsRow base e size v n xs :=
  own_same h fun b hb => hc.block b (h.lt b hb).2 (hn b hb)
theorem Sh.ochg {α : Type} {S : Sh α} {w w' : World} {cs : List Value} {x : α} {b1 bl : List Nat} (h : S.own w cs x b1) (hc : ChgB bl w w') (hn : ∀ b ∈ b1, b ∉ bl) : S.own w' cs x b1 := S.osame h fun b hb => hc.block b (S.olt h b hb) (hn b hb)
theorem Sh.oset' {α : Type} {S : Sh α} {w : World} {cs : List Value} {x : α} {b1 : List Nat} (h : S.own w cs x b1) {p : Addr} (hn : p.block ∉ b1) (v : Value) : S.own (w.setCell p v) cs x b1 :=
  S.osame h fun b hb => Below.heap_setCell w p v b (fun e => hn (e ▸ hb))
theorem Parts.slice {α : Type} {A : Sh α} {E : TypeId} {w : World} {v : Value} {xs : List α} {css : List (List Value)} {bls : List (List Nat)} (h : Parts A E w v xs css bls) {j : Nat} (hj : j < xs.length) : ∃ g cap, v = .slice (some ⟨g, 0, none⟩) xs.length cap := by
  rcases h.row.2 with ⟨_, h0⟩ | ⟨g, cap, cur, hv, _⟩
  · omega
  · exact ⟨g, cap, hv⟩
/-- A mark laid: the next number, the thing marked, nothing else changed. -/
def MkE {α : Type} (S : Sh α) (w : World) (cs : List Value) (x : α) (bl : List Nat) (k : Int) (e : Ending) (w' : World) : Prop := e = .returned (.int .i64 k) ∧ S.own w' cs x bl ∧ ChgB bl w w'
theorem nd_head {v : Value} {bls : List (List Nat)} (h : (obl v ++ bls.flatten).Nodup) {g n c : Nat} (hv : v = .slice (some ⟨g, 0, none⟩) n c) : g ∉ bls.flatten := by
  subst hv
  have := (List.nodup_append.1 h).2.2 g (mem_obl.2 rfl)
  exact fun hm => this g hm rfl
theorem nd_flat : ∀ {bls : List (List Nat)}, bls.flatten.Nodup → ∀ b ∈ bls, b.Nodup
  | [], _, b, hb => by simp at hb
  | x :: l, h, b, hb => by
    rw [List.flatten_cons, List.nodup_append] at h
    rcases List.mem_cons.1 hb with rfl | hb
    · exact h.1
    · exact nd_flat h.2.1 b hb
theorem nd_el {v : Value} {bls : List (List Nat)} (h : (obl v ++ bls.flatten).Nodup) {j : Nat} {bk : List Nat} (hj : bls[j]? = some bk) : bk.Nodup := by
  have h2 := (List.nodup_append.1 h).2.1
  exact nd_flat h2 bk (List.mem_of_getElem? hj)
theorem nd_l {a b : List Nat} (h : (a ++ b).Nodup) : a.Nodup := (List.nodup_append.1 h).1
theorem nd_r {a b : List Nat} (h : (a ++ b).Nodup) : b.Nodup := (List.nodup_append.1 h).2.1
theorem nd_x {a b : List Nat} (h : (a ++ b).Nodup) : ∀ x ∈ a, x ∉ b := fun x hx hy => (List.nodup_append.1 h).2.2 x hx x hy rfl
theorem nd_y {a b : List Nat} (h : (a ++ b).Nodup) : ∀ x ∈ b, x ∉ a := fun x hx hy => (List.nodup_append.1 h).2.2 x hy x hx rfl

theorem markIl_any (v : Value) (xs : List Int) (bl : List Nat) (k : Int) (w : World) (h : (Sh.il 3).own w [v] xs bl) (h0 : 0 ≤ k) (h1 : k + xs.length ≤ 4611686018427387904) :
    Calls Try.prog 32 #[v, .int .i64 k] w fun e w' => e = .returned (.int .i64 (k + xs.length)) ∧ (Sh.il 3).own w' [v] (nums k xs.length) bl ∧ ChgB bl w w' := by
  obtain ⟨v', e, ho, hx, rfl⟩ := h
  injection e with e _
  subst e
  obtain ⟨A, c, rfl⟩ := own_slice ho
  refine (markIntS_any A xs.length c xs k 0 w ho h0 h1).mono fun e w' ⟨he, ho', hg⟩ => ⟨he, ⟨_, rfl, by rw [nums_len]; exact ho', nums_bounds h0 h1, rfl⟩, ChgB.grown hg⟩
theorem heldIl_any (A : Option Addr) (n c : Nat) (xs : List Int) (k : Int) (w : World) (h : RdL RI w A n (nums k xs.length)) (h0 : 0 ≤ k) (h1 : k + xs.length ≤ 4611686018427387904) :
    Calls Try.prog 33 #[.slice A n c, .int .i64 k] w (Bl w (.int .i64 (k + xs.length))) := by
  have hn : n = xs.length := by rw [← h.len, nums_len]
  subst hn
  exact bl_same (heldIntS_any A _ c k w h h0 h1)
theorem Blk.chg' {w w' : World} {g lo hi : Nat} {t : TypeId} {cs : Array Value} (h : Blk w g t cs) (hc : Chg lo hi w w') (hg : g < lo ∨ hi ≤ g) : Blk w' g t cs := (hc.block g h.lt hg).trans h
theorem bne_self (b : Bool) : (b != b) = false := by cases b <;> rfl
theorem szIl_any (v : Value) (xs : List Int) (left : Int) (w : World) (h : (Sh.il 3).rd w [v] xs) (h0 : 0 ≤ left) (h1 : left ≤ 1048576) :
    Calls Try.prog 60 #[v, .int .i64 left] w (Bl w (.int .i64 (szR xs.length left))) := by
  obtain ⟨v', e, A, n, c, rfl, r⟩ := h
  injection e with e _
  subst e
  rw [← szInts_szR]
  exact bl_same (szIntS_any A n c xs left w r (by omega) h1)
theorem toIl_any (v : Value) (xs : List Int) (w : World) (h : (Sh.il 3).rd w [v] xs) (hn : xs.length ≤ 1048576) :
    Calls Try.prog 63 #[v] w (ToV (Sh.il 3) w xs) := by
  obtain ⟨v', e, A, n, c, rfl, r⟩ := h
  injection e with e _
  subst e
  have hl := r.len
  refine (toIntS_any A n c xs w r (by omega)).mono fun e w' ⟨g, he, hg, ho, hb⟩ => ⟨_, [g], he, ⟨_, rfl, by rw [hl]; exact own_mono ho (Nat.zero_le _), r.bounds, rfl⟩, ⟨by simp, fun b hb' => ?_⟩, hb⟩
  have := List.mem_singleton.1 hb'
  subst this
  exact ho.lt _ rfl
theorem eqIl_any (v u : Value) (xs ys : List Int) (w : World) (h : (Sh.il 3).rd w [v] xs) (h' : (Sh.il 3).rd w [u] ys) :
    Calls Try.prog 29 #[v, u] w (Bl w (.bool (eqC xs ys))) := by
  obtain ⟨v', e, A, n, c, rfl, r⟩ := h
  injection e with e _
  subst e
  obtain ⟨u', e, B, m, d, rfl, r'⟩ := h'
  injection e with e _
  subst e
  rw [← eqL_dec]
  exact bl_of_quiet (eqIntS_any A B n m c d xs ys w r r')
theorem heldIv_any (v : Value) (xs : List Int) (k : Int) (w : World) (h : (Sh.il 3).rd w [v] (nums k xs.length)) (h0 : 0 ≤ k) (h1 : k + xs.length ≤ 4611686018427387904) :
    Calls Try.prog 33 #[v, .int .i64 k] w (Bl w (.int .i64 (k + xs.length))) := by
  obtain ⟨v', e, A, n, c, rfl, r⟩ := h
  injection e with e _
  subst e
  exact heldIl_any A n c xs k w r h0 h1
/-! ## What the functions hand back -/
def RdV {α : Type} (S : Sh α) (w : World) (x : α) (ok : Bool) (e : Ending) (w' : World) : Prop := ∃ v, e = .returned (.tuple #[v, .bool ok]) ∧ S.rd w' [v] x ∧ Below w.heap.size w w'
def RdA {α : Type} (S : Sh α) (w : World) (x : α) (ok : Bool) (e : Ending) (w' : World) : Prop := ∃ cs, e = .returned (.tuple #[.agg cs.toArray, .bool ok]) ∧ S.rd w' cs x ∧ Below w.heap.size w w'
def OwV {α : Type} (S : Sh α) (w : World) (x : α) (ok : Bool) (e : Ending) (w' : World) : Prop := ∃ v bl, e = .returned (.tuple #[v, .bool ok]) ∧ S.own w' [v] x bl ∧ Iv w.heap.size w'.heap.size bl ∧ Below w.heap.size w w'
def OwA {α : Type} (S : Sh α) (w : World) (x : α) (ok : Bool) (e : Ending) (w' : World) : Prop := ∃ cs bl, e = .returned (.tuple #[.agg cs.toArray, .bool ok]) ∧ S.own w' cs x bl ∧ Iv w.heap.size w'.heap.size bl ∧ Below w.heap.size w w'
theorem OwV.rd {α : Type} {S : Sh α} {w w' : World} {x : α} {ok : Bool} {e : Ending} (h : OwV S w x ok e w') : RdV S w x ok e w' := by
  obtain ⟨v, bl, h1, h2, h3, h4⟩ := h
  exact ⟨v, h1, S.ord h2, h4⟩
theorem OwA.rd {α : Type} {S : Sh α} {w w' : World} {x : α} {ok : Bool} {e : Ending} (h : OwA S w x ok e w') : RdA S w x ok e w' := by
  obtain ⟨v, bl, h1, h2, h3, h4⟩ := h
  exact ⟨v, h1, S.ord h2, h4⟩
end Go.Proofs.Ytppnmpeicmlneaa
