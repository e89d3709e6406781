
/- Pairs of numbers in memory. -/
import Derived.Test.YtlncpabnlnipoaaFrom23
namespace Go.Proofs.Ytlncpabnlnipoaa
open Go.RowKit

theorem info_pair : (Try.prog.info? 83).map (fun i => (i.zero, i.size, i.bytes)) = some (some (.agg #[.int .i64 0, .int .i64 0]), 2, 16) := by kernel_rfl
/-- Append of one value of two cells to a row of the call's own. -/
theorem app2p {P : Program} (w0 : World) {ops : Array Oper} {rest : List Oper} {o : Oper} {a : Act} {Q : Exit → Act → World → Prop} (hgd : o.guard = none) (s x : Operand) (t e : TypeId)
    (ho : o.op = .call { callee := .builtin .append, args := #[s, x], argTypes := #[t, t] }) (z : Value) (bytes : Nat)
    (ht : P.underlying t = some (.slice e)) (hi : (P.info? e).map (fun i => (i.zero, i.size, i.bytes)) = some (some z, 2, bytes)) (hzs : z.cells.size = 2) (hbb : bytes ≤ 64)
    (base n c : Nat) (A : Option Addr) (xs : List Value) (hs : a.eval s = .slice A n c) (hown : w0.ownsRow base e 2 (.slice A n c) n xs) (u v : Value) (h1 : u.oneCell' = true) (h2 : v.oneCell' = true) (hx : a.eval x = .slice (some ⟨w0.heap.size, 0, none⟩) 1 1)
    (hn : n ≤ 1099511627776) (hbase : base ≤ w0.heap.size)
    (hK : ∀ A' c' w', w'.ownsRow base e 2 (.slice A' (n + 1) c') (n + 1) (xs ++ [u, v]) → w0.grownBy w' (Value.slice A n c).ownBlock → Below base w0 w' → wpList P ops Q rest (a.put o.dst (.slice A' (n + 1) c')) w') :
    wpList P ops Q (o :: rest) a (w0.alloc (.cells #[u, v] e)) := by
  obtain ⟨i, hi, hz, hsize, hby⟩ := info_parts hi
  have hbound : (n + 1) * bytes ≤ 140737488355328 := Nat.le_trans (Nat.mul_le_mul_left (n + 1) hbb) (by omega)
  refine wpList_plain hgd fun _ hK' => ?_
  refine wp_append_own (w0.alloc (.cells #[u, v] e)) s x t ho base e i z 2 bytes ht hi hz hsize hby hzs (by omega) (.slice A n c) n xs hs (hown.alloc _) ⟨w0.heap.size, 0, none⟩ 1 1 [u, v] hx rfl ?_ ?_ (by unfold maxLen; omega) hbound (by simp; omega) ?_
  · intro j y hj
    match j, hj with
    | 0, hj => simp at hj; subst hj; simp [Addr.add]
    | 1, hj => simp at hj; subst hj; simp [Addr.add]
  · intro y hy
    simp at hy
    rcases hy with rfl | rfl
    · exact h1
    · exact h2
  · intro v' w' hown' hgrow _
    obtain ⟨A', c', rfl⟩ := own_slice hown'
    have hg : w0.grownBy w' (Value.slice A n c).ownBlock :=
      ⟨hgrow.os, hgrow.tape, hgrow.output, Nat.le_trans (by simp) hgrow.size, fun k hk hne => (hgrow.block k (by simp; omega) hne).trans (Below.heap_alloc w0 _ k hk)⟩
    exact hK' _ _ (hK A' c' w' hown' hg ((Below.refl base w0).grown hg hbase (fun k hk => (hown.lt k hk).1)))
/-- Pairs of numbers below n, of the call's own. -/
def OwPr (lo n : Nat) (w : World) (v : Value) (m : Nat) : Prop := ∃ ps : List Int, w.ownsRow lo 83 2 v m (ints ps) ∧ ∀ x ∈ ps, 0 ≤ x ∧ x < (n : Int)
section
variable {lo n m g : Nat} {w w1 : World} {v : Value}
theorem OwPr.lit (w : World) (n : Nat) (cs : List Int) (m : Nat) (h : ∀ x ∈ cs, 0 ≤ x ∧ x < (n : Int)) (hm : m ≤ 1048576) (hl : cs.length = m * 2) : OwPr w.heap.size n (w.alloc (.cells (ints cs).toArray 83)) (.slice (some ⟨w.heap.size, 0, none⟩) m m) m :=
  ⟨cs, by simpa using World.ownsRow_lit (e := 83) w (ints cs).toArray m (size := 2) (Nat.le_refl _) (by unfold maxLen; omega) (by simpa [ints] using hl), h⟩
theorem OwPr.grownG (h : OwPr lo n w v m) (hg : w.grownBy w1 (some g)) (hl : g < lo) : OwPr lo n w1 v m := by
  obtain ⟨ps, h1, h2⟩ := h
  exact ⟨ps, own_grownG h1 hg hl, h2⟩
theorem OwPr.next (h : OwPr lo n w v m) (hb : Below w.heap.size w w1) : OwPr lo n w1 v m := by
  obtain ⟨ps, h1, h2⟩ := h
  exact ⟨ps, own_next h1 hb, h2⟩
theorem OwPr.snoc {A' : Option Addr} {c' : Nat} {ps : List Int} {x y : Nat} (h : w1.ownsRow lo 83 2 (.slice A' (m + 1) c') (m + 1) (ints ps ++ [.int .i64 x, .int .i64 y])) (h2 : ∀ x ∈ ps, 0 ≤ x ∧ x < (n : Int)) (hx : x < n) (hy : y < n) : OwPr lo n w1 (.slice A' (m + 1) c') (m + 1) := by
  refine ⟨ps ++ [(x : Int), (y : Int)], by simpa [ints] using h, fun z hz => ?_⟩
  rcases List.mem_append.1 hz with hz | hz
  · exact h2 z hz
  · simp only [List.mem_cons, List.not_mem_nil, or_false] at hz
    rcases hz with rfl | rfl <;> omega
/-- Pair i of the row: its cells, and the row with another pair in its place. -/
theorem OwPr.get {A : Option Addr} {c : Nat} (h : OwPr lo n w (.slice A m c) m) {i : Nat} (hi : i < m) :
    ∃ b x y, A = some ⟨b, 0, none⟩ ∧ lo ≤ b ∧ b < w.heap.size ∧ x < n ∧ y < n ∧ w.cell? ⟨b, i * 2, none⟩ = some (.int .i64 (x : Nat)) ∧ w.cell? ⟨b, i * 2 + 1, none⟩ = some (.int .i64 (y : Nat)) ∧ w.frozen? ⟨b, i * 2, none⟩ = false ∧ w.frozen? ⟨b, i * 2 + 1, none⟩ = false ∧
      ∀ x' y' : Nat, x' < n → y' < n → OwPr lo n ((w.setCell ⟨b, i * 2, none⟩ (.int .i64 x')).setCell ⟨b, i * 2 + 1, none⟩ (.int .i64 y')) (.slice A m c) m := by
  obtain ⟨ps, h1, h2⟩ := h
  have hl : ps.length = m * 2 := by have := h1.1; simpa [ints] using this
  obtain ⟨b, rfl, hlo, -⟩ := own_form h1 (by omega)
  have hx := h2 _ (List.getElem_mem (l := ps) (n := i * 2) (by omega))
  have hy := h2 _ (List.getElem_mem (l := ps) (n := i * 2 + 1) (by omega))
  obtain ⟨x, ex⟩ := Int.eq_ofNat_of_zero_le hx.1
  obtain ⟨y, ey⟩ := Int.eq_ofNat_of_zero_le hy.1
  refine ⟨b, x, y, rfl, hlo, (h1.lt b rfl).2, by omega, by omega, ?_, ?_, h1.frozenAt _, h1.frozenAt _, fun x' y' hx' hy' => ?_⟩
  · rw [h1.cellAt _ (by omega), ints, List.getElem?_map, List.getElem?_eq_getElem (by omega), ex]; rfl
  · rw [h1.cellAt _ (by omega), ints, List.getElem?_map, List.getElem?_eq_getElem (by omega), ey]; rfl
  · obtain ⟨h3, -⟩ := h1.stored (i * 2) (.int .i64 (x' : Nat))
    obtain ⟨h4, -⟩ := h3.stored (i * 2 + 1) (.int .i64 (y' : Nat))
    refine ⟨(ps.set (i * 2) x').set (i * 2 + 1) y', ?_, fun z hz => ?_⟩
    · have e : ints ((ps.set (i * 2) (x' : Int)).set (i * 2 + 1) (y' : Int)) = ((ints ps).set (i * 2) (.int .i64 x')).set (i * 2 + 1) (.int .i64 y') := by simp [ints, List.map_set]
      rw [e]
      exact h4
    · rcases List.mem_or_eq_of_mem_set hz with hz | rfl
      · rcases List.mem_or_eq_of_mem_set hz with hz | rfl
        · exact h2 z hz
        · omega
      · omega
theorem OwPr.rd {A : Option Addr} {c : Nat} (h : OwPr lo n w (.slice A m c) m) (hm : m ≤ 1048576) : RdPr n w A m :=
  ⟨hm, fun h0 => by
    obtain ⟨b, x, y, e, -⟩ := h.get h0
    refine ⟨b, e, fun i hi => ?_⟩
    obtain ⟨b', x, y, e', -, -, hx, hy, h1, h2, -⟩ := h.get hi
    rw [e] at e'
    simp only [Option.some.injEq, Addr.mk.injEq, and_true] at e'
    subst e'
    exact ⟨x, y, hx, hy, h1, h2⟩⟩
end
end Go.Proofs.Ytlncpabnlnipoaa
