
/- Matrices of truths (the program's orders), and posets by value. -/
import Derived.Test.YtfcjhmaggefhaaaIrr
namespace Go.Proofs.Ytfcjhmaggefhaaa
open Go.RowKit

theorem info_bool : (Try.prog.info? 4).map (fun i => (i.zero, i.size, i.bytes)) = some (some (.bool false), 1, 1) := by kernel_rfl
theorem info_bools : (Try.prog.info? 65).map (fun i => (i.zero, i.size, i.bytes)) = some (some (.slice none 0 0), 1, 24) := by kernel_rfl
theorem make_bools (w : World) {ops : Array Oper} {rest : List Oper} {o : Oper} {a : Act} {Q : Exit → Act → World → Prop} (hg : o.guard = none) (l c : Operand) (hop : o.op = Op.makeSlice 65 l c)
    (n : Nat) (hl : a.eval l = .int .i64 n) (hc : a.eval c = .int .i64 n) (b : n ≤ 1048576)
    (hK : ∀ w', w'.ownsRow w.heap.size 4 1 (.slice (some ⟨w.heap.size, 0, none⟩) n n) n (List.replicate n (.bool false)) → w.grownBy w' none → wpList Try.prog ops Q rest (a.put o.dst (.slice (some ⟨w.heap.size, 0, none⟩) n n)) w') :
    wpList Try.prog ops Q (o :: rest) a w := by
  obtain ⟨i0, hi, hz0, hz1, hz2⟩ := info_parts info_bool
  refine wpList_make_full w hg l c 65 hop w.heap.size 4 i0 (.bool false) 1 Try.underlying65 hi hz0 hz1 .i64 .i64 n n n hl hc rfl rfl (by rw [hz2]; omega) (by unfold maxLen; omega) (Nat.le_refl _) ?_
  intro w' h1 h2
  refine hK w' ?_ h2
  have e : (madeCells (Value.bool false).cells (n * 1)).toList = List.replicate n (.bool false) := by rw [Nat.mul_one]; exact toList_madeCells_one (.bool false) n
  rw [← e]
  exact h1
theorem make_order (w : World) {ops : Array Oper} {rest : List Oper} {o : Oper} {a : Act} {Q : Exit → Act → World → Prop} (hg : o.guard = none) (l c : Operand) (hop : o.op = Op.makeSlice 77 l c)
    (n : Nat) (hl : a.eval l = .int .i64 n) (hc : a.eval c = .int .i64 n) (b : n ≤ 1048576)
    (hK : ∀ w', w'.ownsRow w.heap.size 65 1 (.slice (some ⟨w.heap.size, 0, none⟩) n n) n (List.replicate n (.slice none 0 0)) → w.grownBy w' none → wpList Try.prog ops Q rest (a.put o.dst (.slice (some ⟨w.heap.size, 0, none⟩) n n)) w') :
    wpList Try.prog ops Q (o :: rest) a w := by
  obtain ⟨i0, hi, hz0, hz1, hz2⟩ := info_parts info_bools
  refine wpList_make_full w hg l c 77 hop w.heap.size 65 i0 (.slice none 0 0) 1 Try.underlying77 hi hz0 hz1 .i64 .i64 n n n hl hc rfl rfl (by rw [hz2]; omega) (by unfold maxLen; omega) (Nat.le_refl _) ?_
  intro w' h1 h2
  refine hK w' ?_ h2
  have e : (madeCells (Value.slice none 0 0).cells (n * 1)).toList = List.replicate n (.slice none 0 0) := by rw [Nat.mul_one]; exact toList_madeCells_one (.slice none 0 0) n
  rw [← e]
  exact h1

/-- The n x n table of a relation. -/
def tab (n : Nat) (F : Nat → Nat → Bool) : List (List Bool) := (List.range n).map fun i => (List.range n).map fun k => F i k
theorem tab_get {n : Nat} {F : Nat → Nat → Bool} {i : Nat} (h : i < n) : (tab n F)[i]? = some ((List.range n).map fun k => F i k) := by
  simp [tab, List.getElem?_map, List.getElem?_range h]
theorem tab_len (n : Nat) (F : Nat → Nat → Bool) : (tab n F).length = n := by simp [tab]
theorem row_get {n : Nat} {f : Nat → Bool} {k : Nat} (h : k < n) : ((List.range n).map f)[k]? = some (f k) := by simp [List.getElem?_range h]
theorem tab_ext {n : Nat} {F G : Nat → Nat → Bool} (h : ∀ i < n, ∀ k < n, F i k = G i k) : tab n F = tab n G := by
  unfold tab
  refine List.map_congr_left fun i hi => List.map_congr_left fun k hk => ?_
  exact h i (List.mem_range.1 hi) k (List.mem_range.1 hk)
theorem tab_false (n : Nat) : tab n (fun _ _ => false) = List.replicate n (List.replicate n false) := by
  unfold tab
  rw [List.map_const', List.map_const', List.length_range]
def upd (F : Nat → Nat → Bool) (i k : Nat) (b : Bool) : Nat → Nat → Bool := fun x y => if x = i ∧ y = k then b else F x y
theorem row_set {n : Nat} (f : Nat → Bool) {k : Nat} (h : k < n) (b : Bool) : ((List.range n).map f).set k b = (List.range n).map fun y => if y = k then b else f y := by
  apply List.ext_getElem?
  intro j
  by_cases hj : j < n
  · rw [row_get hj]
    by_cases e : j = k
    · subst e
      rw [List.getElem?_set_self (by simp; omega), if_pos rfl]
    · rw [List.getElem?_set_ne (fun h => e h.symm), row_get hj, if_neg e]
  · rw [List.getElem?_eq_none (by simp; omega), List.getElem?_eq_none (by simp; omega)]
theorem tab_set {n : Nat} (F : Nat → Nat → Bool) {i k : Nat} (hi : i < n) (hk : k < n) (b : Bool) : (tab n F).set i (((List.range n).map fun y => F i y).set k b) = tab n (upd F i k b) := by
  rw [row_set _ hk]
  apply List.ext_getElem?
  intro j
  by_cases hj : j < n
  · rw [tab_get hj]
    by_cases e : j = i
    · subst e
      rw [List.getElem?_set_self (by rw [tab_len]; exact hj)]
      congr 1
      apply List.map_congr_left
      intro y _
      unfold upd
      by_cases e2 : y = k
      · subst e2; simp
      · rw [if_neg e2, if_neg (fun h => e2 h.2)]
    · rw [List.getElem?_set_ne (fun h => e h.symm), tab_get hj]
      congr 1
      apply List.map_congr_left
      intro y _
      unfold upd
      rw [if_neg (fun h => e h.1)]
  · rw [List.getElem?_eq_none (by simp [tab_len]; omega), List.getElem?_eq_none (by rw [tab_len]; omega)]

/-- A matrix of truths of the call's own. -/
abbrev OwT (lo : Nat) (w : World) (g n : Nat) (F : Nat → Nat → Bool) : Prop := OwM 65 4 Value.bool lo w (.slice (some ⟨g, 0, none⟩) n n) n (tab n F)
theorem OwT.get {lo : Nat} {w : World} {g n : Nat} {F : Nat → Nat → Bool} (h : OwT lo w g n F) {i : Nat} (hi : i < n) :
    ∃ r d, r ≠ g ∧ w.cell? ⟨g, i, none⟩ = some (.slice (some ⟨r, 0, none⟩) n d) ∧ lo ≤ r ∧ r < w.heap.size ∧ (∀ k, k < n → w.cell? ⟨r, k, none⟩ = some (.bool (F i k)) ∧ w.frozen? ⟨r, k, none⟩ = false) ∧
      ∀ k b, k < n → OwT lo (w.setCell ⟨r, k, none⟩ (.bool b)) g n (upd F i k b) := by
  obtain ⟨vs, hv⟩ := h
  have hvl : vs.length = n := by rw [hv.2.1, tab_len]
  have hvi : vs[i]? = some vs[i] := List.getElem?_eq_getElem (by omega)
  have hrow := hv.2.2.1 i _ _ hvi (tab_get hi)
  have hlen : ((List.range n).map fun k => F i k).length = n := by simp
  rw [hlen] at hrow
  obtain ⟨B, d, hB⟩ := own_slice hrow
  rw [hB] at hrow
  obtain ⟨r, rfl, hlo⟩ : ∃ r, B = some ⟨r, 0, none⟩ ∧ lo ≤ r := by
    rcases hrow.2 with ⟨_, h0⟩ | ⟨r, cap, cur, e, hb, _⟩
    · omega
    · injection e with e1 e2 e3
      exact ⟨r, e1, hb⟩
  have hcell : w.cell? ⟨g, i, none⟩ = some (.slice (some ⟨r, 0, none⟩) n d) := by rw [hv.1.cellAt i (by omega), hvi, hB]
  have hgr : r ≠ g := fun e => own_ne hrow hv.1 (by decide) (g := r) rfl (by rw [e]; rfl)
  refine ⟨r, d, hgr, hcell, hlo, (hrow.lt r rfl).2, fun k hk => ⟨?_, hrow.frozenAt k⟩, fun k b hk => ?_⟩
  · rw [hrow.cellAt k (by omega), List.getElem?_map, row_get hk]
    rfl
  · obtain ⟨hst, hgr⟩ := hrow.stored k (.bool b)
    have e : (((List.range n).map fun k => F i k).map Value.bool).set k (.bool b) = (((List.range n).map fun y => F i y).set k b).map Value.bool := by rw [List.map_set]
    have hst' : (w.setCell ⟨r, k, none⟩ (.bool b)).ownsRow lo 4 1 vs[i] (((List.range n).map fun y => F i y).set k b).length ((((List.range n).map fun y => F i y).set k b).map Value.bool) := by
      rw [hB, ← e]
      simpa using hst
    have h2 : OwMv 65 4 Value.bool lo w (.slice (some ⟨g, 0, none⟩) n n) n vs (tab n F) := hv
    have h3 := h2.setRow (by decide) hvi (by rw [hB]; exact hgr) hst'
    rw [tab_set F hi hk b] at h3
    exact ⟨vs, h3⟩

set_option maxHeartbeats 1000000 in
theorem newOrder_any (n : Nat) (w : World) (hn : n ≤ 1048576) :
    Calls Try.prog 108 #[.int .i64 n] w fun e w' => ∃ g, e = .returned (.slice (some ⟨g, 0, none⟩) n n) ∧ OwT w.heap.size w' g n (fun _ _ => false) ∧ Below w.heap.size w w' := by
  go_enter Try.func108, Try.ntmps108
  go_wp2_with (at_make; refine make_order _ rfl _ _ rfl n rfl rfl hn ?_; intro w1 hown hg1)
  have hT := (Below.refl w.heap.size w).grown hg1 (Nat.le_refl _) (by simp)
  clear hg1
  go_loopw [9] (fun i wr => ∃ k : Nat, k ≤ n ∧ i = .int .i64 k ∧ FillM 65 4 Value.bool w.heap.size w.heap.size n wr (tab n fun _ _ => false) k ∧ Below w.heap.size w wr) (fun i _ => n - (intOf i).toNat)
  case atStart => exact ⟨0, Nat.zero_le _, rfl, FillM.start hown, hT⟩
  case round =>
    clear hown hT
    obtain ⟨k, hk, rfl, hown, hT⟩ := hrel
    by_cases hlt : k < n
    · have hk0 : (0 : Int) ≤ (k : Int) := by omega
      have hk1 : (k : Int) < (n : Int) := by omega
      have hlen : ((List.range n).map fun _ => false).length = n := by simp
      go_wp2_with (at_make; refine make_bools _ rfl _ _ rfl n rfl rfl hn ?_; intro w2 how2 hg2; have hb2 := (Below.refl wr.heap.size wr).grown hg2 (Nat.le_refl _) (by simp); have hcell := (hown.next hb2).cell hlt; have hfz := (hown.next hb2).frozen)
      have how3 : w2.ownsRow wr.heap.size 4 1 (.slice (some ⟨wr.heap.size, 0, none⟩) n n) ((List.range n).map fun _ => false).length (((List.range n).map fun _ => false).map Value.bool) := by
        rw [hlen]
        have e : ((List.range n).map fun _ => false).map Value.bool = List.replicate n (.bool false) := by rw [List.map_map]; exact List.map_const'.trans (by rw [List.length_range])
        rw [e]
        exact how2
      have hst := FillM.set_ (by decide) hown hb2 hlt (tab_get hlt) how3 hT.size
      go_roundw
      case rel => exact ⟨k + 1, by omega, by go_num, hst, (below_next hT hb2 rfl).setCell (Nat.le_refl _) _⟩
      case measure => simp [intOf]; omega
    · have hd := hown.done (tab_len _ _) hk hlt
      go_wp2
      go_ret
      exact ⟨_, rfl, hd, hT⟩
/-! ## Posets by value -/
theorem Blk.chg {w w' : World} {g : Nat} {t : TypeId} {cs : Array Value} (h : Blk w g t cs) {lo hi : Nat} (hc : Chg lo hi w w') (hg : g < lo ∨ hi ≤ g) : Blk w' g t cs := (hc.block g h.lt hg).trans h
theorem Chg.set {lo hi : Nat} (w : World) {p : Addr} (u : Value) (h1 : lo ≤ p.block) (h2 : p.block < hi) : Chg lo hi w (w.setCell p u) := by
  have hb := (Below.refl lo w).setCell h1 u
  exact ⟨hb.os, hb.tape, hb.output, hb.size, fun b _ hh => Below.heap_setCell w p u b (by omega)⟩
theorem OwM.kept {α : Type} {eo ei : TypeId} {f : α → Value} {lo : Nat} {w w' : World} {v : Value} {n : Nat} {xss : List (List α)} (h : OwM eo ei f lo w v n xss) {lo' hi' : Nat} (hc : Chg lo' hi' w w') (h1 : hi' ≤ lo) : OwM eo ei f lo w' v n xss := by
  obtain ⟨vs, hv⟩ := h
  exact ⟨vs, OwMv.kept hv hc h1⟩
theorem Below.two {B : Nat} {a w : World} (h : Below B a w) {p : Addr} (u : Value) (hp : B ≤ p.block) {q : Addr} (u' : Value) (hq : B ≤ q.block) : Below B a ((w.setCell p u).setCell q u') := (h.setCell hp u).setCell hq u'
theorem box_cells (w : World) (t : TypeId) (A : Option Addr) (n c : Nat) : (w.alloc (.cells #[.slice A n c] t)).cell? ⟨w.heap.size, 0, none⟩ = some (.slice A n c) := cell_new _ rfl
set_option maxRecDepth 20000 in
set_option maxHeartbeats 400000 in
theorem toPoset_any (A : Option Addr) (n c : Nat) (xss : List (List Int)) (w : World) (h : RdL (RV RI) w A n xss) (hn : n ≤ 1048576) (hn2 : ∀ xs ∈ xss, xs.length ≤ 1048576) :
    Calls Try.prog 17 #[.agg #[.slice A n c]] w fun e w' => ∃ g, e = .returned (.agg #[.slice (some ⟨g, 0, none⟩) n n]) ∧ OwII w.heap.size w' (.slice (some ⟨g, 0, none⟩) n n) n xss ∧ Below w.heap.size w w' := by
  go_enter Try.func17, Try.ntmps17
  have hb3 := below_box3 w (.cells #[.slice A n c] 24) (.cells #[.slice none 0 0] 29) (.cells #[.slice none 0 0] 29)
  have B1 : Blk (((w.alloc (.cells #[.slice A n c] 24)).alloc (.cells #[.slice none 0 0] 29)).alloc (.cells #[.slice none 0 0] 29)) (w.heap.size + 1) 29 #[.slice none 0 0] := by
    have h1 := (Blk.new (w.alloc (.cells #[.slice A n c] 24)) 29 #[.slice none 0 0]).alloc (.cells #[.slice none 0 0] 29)
    simpa using h1
  have B2 : Blk (((w.alloc (.cells #[.slice A n c] 24)).alloc (.cells #[.slice none 0 0] 29)).alloc (.cells #[.slice none 0 0] 29)) (w.heap.size + 1 + 1) 29 #[.slice none 0 0] := by
    have h1 := Blk.new ((w.alloc (.cells #[.slice A n c] 24)).alloc (.cells #[.slice none 0 0] 29)) 29 #[.slice none 0 0]
    simpa using h1
  have hs3 : (((w.alloc (.cells #[.slice A n c] 24)).alloc (.cells #[.slice none 0 0] 29)).alloc (.cells #[.slice none 0 0] 29)).heap.size = w.heap.size + 3 := by simp
  go_wp2_with fail
  refine (toIntSS_any _ _ _ _ _ (h.next stab_RVI hb3) hn hn2).mono ?_
  rintro e w2 ⟨g, rfl, ho, hb⟩
  replace B1 := B1.next hb
  replace B2 := B2.next hb
  have c1 := B1.cell 0
  have c2 := B2.cell 0
  have f1 := B1.frozen 0
  have f2 := B2.frozen 0
  simp at c1 c2
  have hT := below_next hb3 hb rfl
  rw [hs3] at ho
  clear hb hb3
  go_wp2
  have BR := (B1.far (p := ⟨w.heap.size + 1 + 1, 0, none⟩) (by simp) (.slice (some ⟨g, 0, none⟩) n n)).set_ 0 (.slice (some ⟨g, 0, none⟩) n n)
  (try simp only [Exit.inBlock, Exit.then])
  refine bodyPost_ret (v := .agg #[.slice (some ⟨g, 0, none⟩) n n]) (results_cell_row rfl _ _ (w.heap.size + 1) 29 #[.slice (some ⟨g, 0, none⟩) n n] (0, 0) _ (by simp) BR Try.underlying29 rfl (by kernel_rfl)) rfl ?_
  refine ⟨_, rfl, (ho.kept ((Chg.set (lo := w.heap.size) (hi := w.heap.size + 3) w2 _ (by show _ ≤ _; simp; try omega) (by show _ < _; simp; try omega)).trans (Chg.set _ _ (by show _ ≤ _; simp; try omega) (by show _ < _; simp; try omega))) (Nat.le_refl _)).mono (by omega), Below.two hT _ (by show _ ≤ _; simp; try omega) _ (by show _ ≤ _; simp; try omega)⟩
set_option maxRecDepth 20000 in
set_option maxHeartbeats 400000 in
theorem eqPoset_any (A B : Option Addr) (n m c d : Nat) (xss yss : List (List Int)) (w : World) (h : RdL (RV RI) w A n xss) (h' : RdL (RV RI) w B m yss) :
    Calls Try.prog 20 #[.agg #[.slice A n c], .agg #[.slice B m d]] w (Bl w (.bool (eqLL xss yss))) := by
  go_enter Try.func20, Try.ntmps20
  have hb2 := below_box2 w (.cells #[.slice A n c] 29) (.cells #[.slice B m d] 29)
  have B1 : Blk ((w.alloc (.cells #[.slice A n c] 29)).alloc (.cells #[.slice B m d] 29)) w.heap.size 29 #[.slice A n c] := (Blk.new w 29 #[.slice A n c]).alloc _
  have c1 := B1.cell 0
  simp at c1
  go_wp2_with (go_at_call 26; refine (eqIntSS_any _ _ _ _ _ _ _ _ _ (h.next stab_RVI hb2) (h'.next stab_RVI hb2)).mono ?_; rintro e w' ⟨rfl, z, rfl⟩)
  all_goals
    go_ret
    first
      | exact ⟨ret_bool (show false = eqLL xss yss from (show eqLL xss yss = false from (by first | assumption | exact bf1 (by assumption) | exact bf2 (by assumption) | exact nef (by assumption) | exact nefc (by assumption) | exact eqc (by assumption))).symm), below_drewN hb2 _⟩
      | exact ⟨ret_bool (show true = eqLL xss yss from (show eqLL xss yss = true from (by first | assumption | exact bt2 (by assumption) | exact net (by assumption) | exact netc (by assumption) | exact eqc (by assumption))).symm), below_drewN hb2 _⟩
set_option maxRecDepth 20000 in
set_option maxHeartbeats 400000 in
theorem markPoset_any (A : Option Addr) (n c : Nat) (vs : List Value) (xss : List (List Int)) (k0 : Int) (lo hi : Nat) (w : World) (h : OwMv 25 3 (.int .i64) lo w (.slice A n c) n vs xss) (hhi : InHi hi vs) (h0 : 0 ≤ k0) (h1 : k0 + total xss ≤ 4611686018427387904) :
    Calls Try.prog 29 #[.agg #[.slice A n c], .int .i64 k0] w fun e w' => e = .returned (.int .i64 (k0 + total xss)) ∧ OwMv 25 3 (.int .i64) lo w' (.slice A n c) n vs (numss k0 xss) ∧ Chg lo hi w w' := by
  have hb := below_box w (.cells #[.slice A n c] 29)
  go_enter Try.func29, Try.ntmps29
  go_wp2_with fail
  refine (markIntSS_any _ _ _ _ _ _ lo hi _ (h.next hb) hhi h0 h1).mono ?_
  rintro e w2 ⟨rfl, ho, hc⟩
  go_wp2
  go_ret
  exact ⟨rfl, ho, (Chg.ofBelow hb (Nat.le_refl _)).trans hc⟩
set_option maxRecDepth 20000 in
set_option maxHeartbeats 400000 in
theorem heldPoset_any (A : Option Addr) (n c : Nat) (xss : List (List Int)) (k0 : Int) (w : World) (h : RdL (RV RI) w A n (numss k0 xss)) (h0 : 0 ≤ k0) (h1 : k0 + total xss ≤ 4611686018427387904) :
    Calls Try.prog 42 #[.agg #[.slice A n c], .int .i64 k0] w (Bl w (.int .i64 (k0 + total xss))) := by
  have hb := below_box w (.cells #[.slice A n c] 29)
  have hk : ¬ k0 + (total xss : Int) < 0 := by omega
  go_enter Try.func42, Try.ntmps42
  go_wp2_with fail
  refine (heldIntSS_any _ _ _ _ _ _ (h.next stab_RVI hb) h0 h1).mono ?_
  rintro e w2 ⟨rfl, rfl⟩
  go_wp2
  go_ret
  exact ⟨rfl, hb⟩
end Go.Proofs.Ytfcjhmaggefhaaa
