
/- Matrices of truths (the program's orders), and posets by value. -/
import Derived.Test.YtlncpabnlnipoaaIrr
namespace Go.Proofs.Ytlncpabnlnipoaa
open Go.RowKit

theorem info_bool : (Try.prog.info? 4).map (fun i => (i.zero, i.size, i.bytes)) = some (some (.bool false), 1, 1) := by kernel_rfl
theorem info_bools : (Try.prog.info? 64).map (fun i => (i.zero, i.size, i.bytes)) = some (some (.slice none 0 0), 1, 24) := by kernel_rfl
theorem make_bools (w : World) {ops : Array Oper} {rest : List Oper} {o : Oper} {a : Act} {Q : Exit → Act → World → Prop} (hg : o.guard = none) (l c : Operand) (hop : o.op = Op.makeSlice 64 l c)
    (n : Nat) (hl : a.eval l = .int .i64 n) (hc : a.eval c = .int .i64 n) (b : n ≤ 1048576)
    (hK : ∀ w', w'.ownsRow w.heap.size 4 1 (.slice (some ⟨w.heap.size, 0, none⟩) n n) n (List.replicate n (.bool false)) → w.grownBy w' none → wpList Try.prog ops Q rest (a.put o.dst (.slice (some ⟨w.heap.size, 0, none⟩) n n)) w') :
    wpList Try.prog ops Q (o :: rest) a w := by
  obtain ⟨i0, hi, hz0, hz1, hz2⟩ := info_parts info_bool
  refine wpList_make_full w hg l c 64 hop w.heap.size 4 i0 (.bool false) 1 Try.underlying64 hi hz0 hz1 .i64 .i64 n n n hl hc rfl rfl (by rw [hz2]; omega) (by unfold maxLen; omega) (Nat.le_refl _) ?_
  intro w' h1 h2
  refine hK w' ?_ h2
  have e : (madeCells (Value.bool false).cells (n * 1)).toList = List.replicate n (.bool false) := by rw [Nat.mul_one]; exact toList_madeCells_one (.bool false) n
  rw [← e]
  exact h1
theorem make_order (w : World) {ops : Array Oper} {rest : List Oper} {o : Oper} {a : Act} {Q : Exit → Act → World → Prop} (hg : o.guard = none) (l c : Operand) (hop : o.op = Op.makeSlice 58 l c)
    (n : Nat) (hl : a.eval l = .int .i64 n) (hc : a.eval c = .int .i64 n) (b : n ≤ 1048576)
    (hK : ∀ w', w'.ownsRow w.heap.size 64 1 (.slice (some ⟨w.heap.size, 0, none⟩) n n) n (List.replicate n (.slice none 0 0)) → w.grownBy w' none → wpList Try.prog ops Q rest (a.put o.dst (.slice (some ⟨w.heap.size, 0, none⟩) n n)) w') :
    wpList Try.prog ops Q (o :: rest) a w := by
  obtain ⟨i0, hi, hz0, hz1, hz2⟩ := info_parts info_bools
  refine wpList_make_full w hg l c 58 hop w.heap.size 64 i0 (.slice none 0 0) 1 Try.underlying58 hi hz0 hz1 .i64 .i64 n n n hl hc rfl rfl (by rw [hz2]; omega) (by unfold maxLen; omega) (Nat.le_refl _) ?_
  intro w' h1 h2
  refine hK w' ?_ h2
  have e : (madeCells (Value.slice none 0 0).cells (n * 1)).toList = List.replicate n (.slice none 0 0) := by rw [Nat.mul_one]; exact toList_madeCells_one (.slice none 0 0) n
  rw [← e]
  exact h1

/-- The n x n table of a relation. -/
def tab (n : Nat) (F : Nat → Nat → Bool) : List (List Bool) := (List.range n).map fun i => (List.range n).map fun k => F i k
theorem tab_get {n : Nat} {F : Nat → Nat → Bool} {i : Nat} (h : i < n) : (tab n F)[i]? = some ((List.range n).map fun k => F i k) := by
  simp [tab, List.getElem?_map, List.getElem?_range h]
theorem tab_len (n : Nat) (F : Nat → Nat → Bool) : (tab n F).length = n := by simp [tab]
theorem row_get {n : Nat} {f : Nat → Bool} {k : Nat} (h : k < n) : ((List.range n).map f)[k]? = some (f k) := by simp [List.getElem?_range h]
theorem tab_ext {n : Nat} {F G : Nat → Nat → Bool} (h : ∀ i < n, ∀ k < n, F i k = G i k) : tab n F = tab n G := by
  unfold tab
  refine List.map_congr_left fun i hi => List.map_congr_left fun k hk => ?_
  exact h i (List.mem_range.1 hi) k (List.mem_range.1 hk)
theorem tab_false (n : Nat) : tab n (fun _ _ => false) = List.replicate n (List.replicate n false) := by
  unfold tab
  rw [List.map_const', List.map_const', List.length_range]
def upd (F : Nat → Nat → Bool) (i k : Nat) (b : Bool) : Nat → Nat → Bool := fun x y => if x = i ∧ y = k then b else F x y
theorem row_set {n : Nat} (f : Nat → Bool) {k : Nat} (h : k < n) (b : Bool) : ((List.range n).map f).set k b = (List.range n).map fun y => if y = k then b else f y := by
  apply List.ext_getElem?
  intro j
  by_cases hj : j < n
  · rw [row_get hj]
    by_cases e : j = k
    · subst e
      rw [List.getElem?_set_self (by simp; omega), if_pos rfl]
    · rw [List.getElem?_set_ne (fun h => e h.symm), row_get hj, if_neg e]
  · rw [List.getElem?_eq_none (by simp; omega), List.getElem?_eq_none (by simp; omega)]
theorem tab_set {n : Nat} (F : Nat → Nat → Bool) {i k : Nat} (hi : i < n) (hk : k < n) (b : Bool) : (tab n F).set i (((List.range n).map fun y => F i y).set k b) = tab n (upd F i k b) := by
  rw [row_set _ hk]
  apply List.ext_getElem?
  intro j
  by_cases hj : j < n
  · rw [tab_get hj]
    by_cases e : j = i
    · subst e
      rw [List.getElem?_set_self (by rw [tab_len]; exact hj)]
      congr 1
      apply List.map_congr_left
      intro y _
      unfold upd
      by_cases e2 : y = k
      · subst e2; simp
      · rw [if_neg e2, if_neg (fun h => e2 h.2)]
    · rw [List.getElem?_set_ne (fun h => e h.symm), tab_get hj]
      congr 1
      apply List.map_congr_left
      intro y _
      unfold upd
      rw [if_neg (fun h => e h.1)]
  · rw [List.getElem?_eq_none (by simp [tab_len]; omega), List.getElem?_eq_none (by rw [tab_len]; omega)]

/-- A matrix of truths of the call's own. -/
abbrev OwT (lo : Nat) (w : World) (g n : Nat) (F : Nat → Nat → Bool) : Prop := OwM 64 4 Value.bool lo w (.slice (some ⟨g, 0, none⟩) n n) n (tab n F)
theorem OwT.get {lo : Nat} {w : World} {g n : Nat} {F : Nat → Nat → Bool} (h : OwT lo w g n F) {i : Nat} (hi : i < n) :
    ∃ r d, r ≠ g ∧ w.cell? ⟨g, i, none⟩ = some (.slice (some ⟨r, 0, none⟩) n d) ∧ lo ≤ r ∧ r < w.heap.size ∧ (∀ k, k < n → w.cell? ⟨r, k, none⟩ = some (.bool (F i k)) ∧ w.frozen? ⟨r, k, none⟩ = false) ∧
      ∀ k b, k < n → OwT lo (w.setCell ⟨r, k, none⟩ (.bool b)) g n (upd F i k b) := by
  obtain ⟨vs, hv⟩ := h
  have hvl : vs.length = n := by rw [hv.2.1, tab_len]
  have hvi : vs[i]? = some vs[i] := List.getElem?_eq_getElem (by omega)
  have hrow := hv.2.2.1 i _ _ hvi (tab_get hi)
  have hlen : ((List.range n).map fun k => F i k).length = n := by simp
  rw [hlen] at hrow
  obtain ⟨B, d, hB⟩ := own_slice hrow
  rw [hB] at hrow
  obtain ⟨r, rfl, hlo⟩ : ∃ r, B = some ⟨r, 0, none⟩ ∧ lo ≤ r := by
    rcases hrow.2 with ⟨_, h0⟩ | ⟨r, cap, cur, e, hb, _⟩
    · omega
    · injection e with e1 e2 e3
      exact ⟨r, e1, hb⟩
  have hcell : w.cell? ⟨g, i, none⟩ = some (.slice (some ⟨r, 0, none⟩) n d) := by rw [hv.1.cellAt i (by omega), hvi, hB]
  have hgr : r ≠ g := fun e => own_ne hrow hv.1 (by decide) (g := r) rfl (by rw [e]; rfl)
  refine ⟨r, d, hgr, hcell, hlo, (hrow.lt r rfl).2, fun k hk => ⟨?_, hrow.frozenAt k⟩, fun k b hk => ?_⟩
  · rw [hrow.cellAt k (by omega), List.getElem?_map, row_get hk]
    rfl
  · obtain ⟨hst, hgr⟩ := hrow.stored k (.bool b)
    have e : (((List.range n).map fun k => F i k).map Value.bool).set k (.bool b) = (((List.range n).map fun y => F i y).set k b).map Value.bool := by rw [List.map_set]
    have hst' : (w.setCell ⟨r, k, none⟩ (.bool b)).ownsRow lo 4 1 vs[i] (((List.range n).map fun y => F i y).set k b).length ((((List.range n).map fun y => F i y).set k b).map Value.bool) := by
      rw [hB, ← e]
      simpa using hst
    have h2 : OwMv 64 4 Value.bool lo w (.slice (some ⟨g, 0, none⟩) n n) n vs (tab n F) := hv
    have h3 := h2.setRow (by decide) hvi (by rw [hB]; exact hgr) hst'
    rw [tab_set F hi hk b] at h3
    exact ⟨vs, h3⟩

set_option maxHeartbeats 1000000 in
theorem newOrder_any (n : Nat) (w : World) (hn : n ≤ 1048576) :
    Calls Try.prog 58 #[.int .i64 n] w fun e w' => ∃ g, e = .returned (.slice (some ⟨g, 0, none⟩) n n) ∧ OwT w.heap.size w' g n (fun _ _ => false) ∧ Below w.heap.size w w' := by
  go_enter Try.func58, Try.ntmps58
  go_wp2_with (at_make; refine make_order _ rfl _ _ rfl n rfl rfl hn ?_; intro w1 hown hg1)
  have hT := (Below.refl w.heap.size w).grown hg1 (Nat.le_refl _) (by simp)
  clear hg1
  go_loopw [9] (fun i wr => ∃ k : Nat, k ≤ n ∧ i = .int .i64 k ∧ FillM 64 4 Value.bool w.heap.size w.heap.size n wr (tab n fun _ _ => false) k ∧ Below w.heap.size w wr) (fun i _ => n - (intOf i).toNat)
  case atStart => exact ⟨0, Nat.zero_le _, rfl, FillM.start hown, hT⟩
  case round =>
    clear hown hT
    obtain ⟨k, hk, rfl, hown, hT⟩ := hrel
    by_cases hlt : k < n
    · have hk0 : (0 : Int) ≤ (k : Int) := by omega
      have hk1 : (k : Int) < (n : Int) := by omega
      have hlen : ((List.range n).map fun _ => false).length = n := by simp
      go_wp2_with (at_make; refine make_bools _ rfl _ _ rfl n rfl rfl hn ?_; intro w2 how2 hg2; have hb2 := (Below.refl wr.heap.size wr).grown hg2 (Nat.le_refl _) (by simp); have hcell := (hown.next hb2).cell hlt; have hfz := (hown.next hb2).frozen)
      have how3 : w2.ownsRow wr.heap.size 4 1 (.slice (some ⟨wr.heap.size, 0, none⟩) n n) ((List.range n).map fun _ => false).length (((List.range n).map fun _ => false).map Value.bool) := by
        rw [hlen]
        have e : ((List.range n).map fun _ => false).map Value.bool = List.replicate n (.bool false) := by rw [List.map_map]; exact List.map_const'.trans (by rw [List.length_range])
        rw [e]
        exact how2
      have hst := FillM.set_ (by decide) hown hb2 hlt (tab_get hlt) how3 hT.size
      go_roundw
      case rel => exact ⟨k + 1, by omega, by go_num, hst, (below_next hT hb2 rfl).setCell (Nat.le_refl _) _⟩
      case measure => simp [intOf]; omega
    · have hd := hown.done (tab_len _ _) hk hlt
      go_wp2
      go_ret
      exact ⟨_, rfl, hd, hT⟩
/-! ## Posets by value -/
theorem Blk.chg {w w' : World} {g : Nat} {t : TypeId} {cs : Array Value} (h : Blk w g t cs) {lo hi : Nat} (hc : Chg lo hi w w') (hg : g < lo ∨ hi ≤ g) : Blk w' g t cs := (hc.block g h.lt hg).trans h
theorem Chg.set {lo hi : Nat} (w : World) {p : Addr} (u : Value) (h1 : lo ≤ p.block) (h2 : p.block < hi) : Chg lo hi w (w.setCell p u) := by
  have hb := (Below.refl lo w).setCell h1 u
  exact ⟨hb.os, hb.tape, hb.output, hb.size, fun b _ hh => Below.heap_setCell w p u b (by omega)⟩
theorem OwM.kept {α : Type} {eo ei : TypeId} {f : α → Value} {lo : Nat} {w w' : World} {v : Value} {n : Nat} {xss : List (List α)} (h : OwM eo ei f lo w v n xss) {lo' hi' : Nat} (hc : Chg lo' hi' w w') (h1 : hi' ≤ lo) : OwM eo ei f lo w' v n xss := by
  obtain ⟨vs, hv⟩ := h
  exact ⟨vs, OwMv.kept hv hc h1⟩
theorem Below.two {B : Nat} {a w : World} (h : Below B a w) {p : Addr} (u : Value) (hp : B ≤ p.block) {q : Addr} (u' : Value) (hq : B ≤ q.block) : Below B a ((w.setCell p u).setCell q u') := (h.setCell hp u).setCell hq u'
theorem box_cells (w : World) (t : TypeId) (A : Option Addr) (n c : Nat) : (w.alloc (.cells #[.slice A n c] t)).cell? ⟨w.heap.size, 0, none⟩ = some (.slice A n c) := cell_new _ rfl
end Go.Proofs.Ytlncpabnlnipoaa
