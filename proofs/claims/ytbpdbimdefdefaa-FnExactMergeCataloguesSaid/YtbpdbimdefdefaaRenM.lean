
/- Memory: a slice of operations of the call's own: one more at its end, a cell of a table set. -/
import Derived.Test.YtbpdbimdefdefaaArgs
import Derived.Test.YtbpdbimdefdefaaKOp
import Derived.Deep.RegionHeld3
import Derived.Deep.DeepCutAuto
namespace Go.Proofs.Ytbpdbimdefdefaa
open Go.RowKit

/-- append of one element of two cells to a row of the call's own. -/
theorem wp_app2 {P : Program} (w0 : World) {o : Oper} {a : Act} {K : Act → World → Prop} {Q : Exit → Act → World → Prop} (s x : Operand) (t e : TypeId)
    (ho : o.op = .call { callee := .builtin .append, args := #[s, x], argTypes := #[t, t] }) (z : Value) (bytes : Nat)
    (ht : P.underlying t = some (.slice e)) (hi : (P.info? e).map (fun i => (i.zero, i.size, i.bytes)) = some (some z, 2, bytes)) (hzs : z.cells.size = 2) (hbb : bytes ≤ 64)
    (base n c : Nat) (A : Option Addr) (xs : List Value) (hs : a.eval s = .slice A n c) (hown : w0.ownsRow base e 2 (.slice A n c) n xs) (u v : Value) (h1 : u.oneCell' = true) (h2 : v.oneCell' = true) (hx : a.eval x = .slice (some ⟨w0.heap.size, 0, none⟩) 1 1)
    (hn : n ≤ 1099511627776) (hbase : base ≤ w0.heap.size)
    (hK : ∀ A' c' w', w'.ownsRow base e 2 (.slice A' (n + 1) c') (n + 1) (xs ++ [u, v]) → w0.grownBy w' (Value.slice A n c).ownBlock → Below base w0 w' → K (a.put o.dst (.slice A' (n + 1) c')) w') :
    o.wp P a (w0.alloc (.cells #[u, v] e)) K Q := by
  obtain ⟨i, hi, hz, hsize, hby⟩ := info_parts hi
  have hbound : (n + 1) * bytes ≤ 140737488355328 := Nat.le_trans (Nat.mul_le_mul_left (n + 1) hbb) (by omega)
  refine wp_append_own (w0.alloc (.cells #[u, v] e)) s x t ho base e i z 2 bytes ht hi hz hsize hby hzs (by omega) (.slice A n c) n xs hs (hown.alloc _) ⟨w0.heap.size, 0, none⟩ 1 1 [u, v] hx rfl ?_ ?_ (by unfold maxLen; omega) hbound (by simp; omega) ?_
  · intro j y hj
    match j, hj with
    | 0, hj => simp at hj; subst hj; simp [Addr.add]
    | 1, hj => simp at hj; subst hj; simp [Addr.add]
  · intro y hy
    simp at hy
    rcases hy with rfl | rfl
    · exact h1
    · exact h2
  · intro v' w' hown' hgrow _
    obtain ⟨A', c', rfl⟩ := own_slice hown'
    have hg : w0.grownBy w' (Value.slice A n c).ownBlock :=
      ⟨hgrow.os, hgrow.tape, hgrow.output, Nat.le_trans (by simp) hgrow.size, fun k hk hne => (hgrow.block k (by simp; omega) hne).trans (Below.heap_alloc w0 _ k hk)⟩
    exact hK A' c' w' hown' hg ((Below.refl base w0).grown hg hbase (fun k hk => (hown.lt k hk).1))
theorem app2 {P : Program} (w0 : World) {ops : Array Oper} {rest : List Oper} {o : Oper} {a : Act} {Q : Exit → Act → World → Prop} (hgd : o.guard = none) (s x : Operand) (t e : TypeId)
    (ho : o.op = .call { callee := .builtin .append, args := #[s, x], argTypes := #[t, t] }) (z : Value) (bytes : Nat)
    (ht : P.underlying t = some (.slice e)) (hi : (P.info? e).map (fun i => (i.zero, i.size, i.bytes)) = some (some z, 2, bytes)) (hzs : z.cells.size = 2) (hbb : bytes ≤ 64)
    (base n c : Nat) (A : Option Addr) (xs : List Value) (hs : a.eval s = .slice A n c) (hown : w0.ownsRow base e 2 (.slice A n c) n xs) (u v : Value) (h1 : u.oneCell' = true) (h2 : v.oneCell' = true) (hx : a.eval x = .slice (some ⟨w0.heap.size, 0, none⟩) 1 1)
    (hn : n ≤ 1099511627776) (hbase : base ≤ w0.heap.size)
    (hK : ∀ A' c' w', w'.ownsRow base e 2 (.slice A' (n + 1) c') (n + 1) (xs ++ [u, v]) → w0.grownBy w' (Value.slice A n c).ownBlock → Below base w0 w' → wpList P ops Q rest (a.put o.dst (.slice A' (n + 1) c')) w') :
    wpList P ops Q (o :: rest) a (w0.alloc (.cells #[u, v] e)) :=
  wpList_plain hgd fun _ hK' => wp_app2 w0 s x t e ho z bytes ht hi hzs hbb base n c A xs hs hown u v h1 h2 hx hn hbase fun A' c' w' h2 h3 h4 => hK' _ _ (hK A' c' w' h2 h3 h4)
theorem step_app2 {P : Program} (w0 : World) {ops : Array Oper} {o : Oper} {a : Act} {K : Act → World → Prop} {Q : Exit → Act → World → Prop} {E : Prop} (hgd : o.guard = none) (s x : Operand) (t e : TypeId)
    (ho : o.op = .call { callee := .builtin .append, args := #[s, x], argTypes := #[t, t] }) (z : Value) (bytes : Nat)
    (ht : P.underlying t = some (.slice e)) (hi : (P.info? e).map (fun i => (i.zero, i.size, i.bytes)) = some (some z, 2, bytes)) (hzs : z.cells.size = 2) (hbb : bytes ≤ 64)
    (base n c : Nat) (A : Option Addr) (xs : List Value) (hs : a.eval s = .slice A n c) (hown : w0.ownsRow base e 2 (.slice A n c) n xs) (u v : Value) (h1 : u.oneCell' = true) (h2 : v.oneCell' = true) (hx : a.eval x = .slice (some ⟨w0.heap.size, 0, none⟩) 1 1)
    (hn : n ≤ 1099511627776) (hbase : base ≤ w0.heap.size)
    (hK : ∀ A' c' w', w'.ownsRow base e 2 (.slice A' (n + 1) c') (n + 1) (xs ++ [u, v]) → w0.grownBy w' (Value.slice A n c).ownBlock → Below base w0 w' → K (a.put o.dst (.slice A' (n + 1) c')) w') :
    if Region.wanted o (yielded ops a.tmps) = true then Oper.wp P o a (w0.alloc (.cells #[u, v] e)) K Q else E := by
  have hw : Region.wanted o (yielded ops a.tmps) = true := by simp [Region.wanted, hgd]
  rw [if_pos hw]
  exact wp_app2 w0 s x t e ho z bytes ht hi hzs hbb base n c A xs hs hown u v h1 h2 hx hn hbase hK

theorem info_op2 : (Try.prog.info? 103).map (fun i => (i.zero, i.size, i.bytes)) = some (some (.agg #[.int .i64 0, .slice none 0 0]), 2, 32) := by kernel_rfl

/-- A slice of operations of the call's own, its blocks from lo on. -/
def PO (lo : Nat) (w : World) (v : Value) (xs : List OpM) (css : List (List Value)) (bls : List (List Nat)) : Prop :=
  Parts shOp 103 w v xs css bls ∧ w.ownsRow lo 103 2 v xs.length css.flatten ∧ Iv lo w.heap.size (obl v ++ bls.flatten)
theorem shOp_blk {w : World} {c : List Value} {x : OpM} {bk : List Nat} (h : shOp.own w c x bk) {b : Nat} (hb : b ∈ bk) : ∃ cur fr, w.heap[b]? = some (.cells cur 3 fr) := by
  obtain ⟨c0, c1, b0, b1, rfl, rfl, ⟨_, rfl, -, rfl⟩, ⟨v, rfl, ho, -, rfl⟩⟩ := h
  rw [List.nil_append, mem_obl] at hb
  rcases ho.2 with ⟨rfl, -⟩ | ⟨g, cap, cur, rfl, -, hh, -⟩
  · simp [Value.ownBlock] at hb
  · simp only [Value.ownBlock, Option.some.injEq] at hb
    subst hb
    exact ⟨_, _, hh⟩
theorem row_blk {w : World} {base size n : Nat} {e : TypeId} {v : Value} {xs : List Value} (h : w.ownsRow base e size v n xs) {b : Nat} (hb : b ∈ obl v) : ∃ cur fr, w.heap[b]? = some (.cells cur e fr) := by
  rw [mem_obl] at hb
  rcases h.2 with ⟨rfl, -⟩ | ⟨g, cap, cur, rfl, -, hh, -⟩
  · simp [Value.ownBlock] at hb
  · simp only [Value.ownBlock, Option.some.injEq] at hb
    subst hb
    exact ⟨_, _, hh⟩
theorem obl_nd (v : Value) : (obl v).Nodup := by
  unfold obl
  cases v.ownBlock <;> simp
section
variable {lo : Nat} {w : World} {v : Value} {xs : List OpM} {css : List (List Value)} {bls : List (List Nat)}
theorem PO.nil (lo : Nat) (w : World) : PO lo w (.slice none 0 0) [] [] [] :=
  ⟨⟨⟨rfl, .inl ⟨rfl, rfl⟩⟩, rfl, rfl, fun k c x bk h => by simp at h⟩, ⟨rfl, .inl ⟨rfl, rfl⟩⟩, Iv.nil _ _⟩
theorem PO.lit {lo : Nat} {w : World} (hlo : lo ≤ w.heap.size) : PO lo (w.alloc (.cells #[] 103)) (.slice (some ⟨w.heap.size, 0, none⟩) 0 0) [] [] [] := by
  have h := World.ownsRow_lit (e := 103) (size := 2) w #[] 0 hlo (Nat.zero_le _) rfl
  exact ⟨⟨own_mono h (Nat.zero_le _), rfl, rfl, fun k c x bk h => by simp at h⟩, h, by simp [obl, Value.ownBlock], fun b hb => by
    simp [obl, Value.ownBlock] at hb
    subst hb
    simp
    exact hlo⟩
theorem PO.own (h : PO lo w v xs css bls) : (Sh.rows shOp 103).own w [v] xs (obl v ++ bls.flatten) := ⟨v, css, bls, rfl, h.1, rfl⟩
theorem PO.next {w' : World} (h : PO lo w v xs css bls) (hb : Below w.heap.size w w') : PO lo w' v xs css bls :=
  ⟨h.1.same fun b hb' => hb.block b (h.1.lt b hb'), own_next h.2.1 hb, h.2.2.mono (Nat.le_refl _) hb.size⟩
theorem PO.same {w' : World} (h : PO lo w v xs css bls) (hz : w.heap.size ≤ w'.heap.size) (hs : ∀ b ∈ obl v ++ bls.flatten, w'.heap[b]? = w.heap[b]?) : PO lo w' v xs css bls :=
  ⟨h.1.same hs, own_same h.2.1 fun b hb => hs b (List.mem_append_left _ (mem_obl.2 hb)), h.2.2.mono (Nat.le_refl _) hz⟩
theorem PO.mono {lo' : Nat} (h : PO lo w v xs css bls) (hl : lo' ≤ lo) : PO lo' w v xs css bls := ⟨h.1, own_mono h.2.1 hl, h.2.2.mono hl (Nat.le_refl _)⟩
theorem PO.push (h : PO lo w v xs css bls) {w1 : World} (hb : Below w.heap.size w w1) (hlo : lo ≤ w.heap.size) {c : List Value} {x : OpM} {bk : List Nat} (ho : shOp.own w1 c x bk) (hiv : Iv w.heap.size w1.heap.size bk) :
    w1.ownsRow lo 103 2 v xs.length css.flatten ∧ ∀ {w2 : World} {v' : Value}, w2.ownsRow lo 103 2 v' (xs.length + 1) (css.flatten ++ c) → w1.grownBy w2 v.ownBlock → PO lo w2 v' (xs ++ [x]) (css ++ [c]) (bls ++ [bk]) := by
  have h1 := h.next hb
  refine ⟨h1.2.1, fun {w2 v'} hown hg => ?_⟩
  have hnd := List.nodup_append.1 h.2.2.1
  have far : ∀ b, b ∈ bls.flatten → w2.heap[b]? = w1.heap[b]? := fun b hb' => hg.block b (h1.2.2.2 b (List.mem_append_right _ hb')).2 fun e => hnd.2.2 b (mem_obl.2 e.symm) b hb' rfl
  have far2 : ∀ b, b ∈ bk → w2.heap[b]? = w1.heap[b]? := fun b hb' => hg.block b (hiv.2 b hb').2 fun e => by
    have h3 := (h.2.2.2 b (List.mem_append_left _ (mem_obl.2 e.symm))).2
    have h4 := (hiv.2 b hb').1
    omega
  have hl1 := h.1.l1
  have hl2 := h.1.l2
  have hP : Parts shOp 103 w2 v' (xs ++ [x]) (css ++ [c]) (bls ++ [bk]) := by
    refine ⟨?_, by simp [hl1], by simp [hl2], fun k c' x' bk' e1 e2 e3 => ?_⟩
    · rw [List.length_append, List.flatten_append, List.flatten_singleton]
      exact own_mono hown (Nat.zero_le _)
    · by_cases hk : k < xs.length
      · rw [List.getElem?_append_left (by omega)] at e1 e2 e3
        exact shOp.osame (h1.1.el k c' x' bk' e1 e2 e3) fun b hb' => far b (List.mem_flatten.2 ⟨_, List.mem_of_getElem? e3, hb'⟩)
      · have hk2 : k = xs.length := by
          have := (List.getElem?_eq_some_iff.1 e2).1
          simp at this
          omega
        subst hk2
        rw [List.getElem?_append_right (by omega)] at e1 e2 e3
        simp [hl1, hl2] at e1 e2 e3
        subst e1
        subst e2
        subst e3
        exact shOp.osame ho far2
  refine ⟨hP, by rw [List.length_append, List.flatten_append]; simpa using hown, ?_⟩
  rw [List.flatten_append]
  have hz : w1.heap.size ≤ w2.heap.size := hg.size
  have hzb := hb.size
  refine ⟨?_, fun b hb' => ?_⟩
  · rw [List.nodup_append]
    refine ⟨obl_nd _, ?_, fun a ha b hb' e => ?_⟩
    · rw [List.nodup_append]
      refine ⟨hnd.2.1, by simpa using hiv.1, fun a ha b hb' e => ?_⟩
      simp at hb'
      subst e
      have h3 := (h.2.2.2 a (List.mem_append_right _ ha)).2
      have h4 := (hiv.2 a hb').1
      omega
    · subst e
      obtain ⟨cur, fr, hc⟩ := row_blk hown ha
      have hb2 : a ∈ (bls ++ [bk]).flatten := by rw [List.flatten_append]; exact hb'
      obtain ⟨bq, hbq, hab⟩ := List.mem_flatten.1 hb2
      obtain ⟨k, hk⟩ := List.getElem?_of_mem hbq
      have hkl := (List.getElem?_eq_some_iff.1 hk).1
      have e1 := hP.l1
      have e2 := hP.l2
      have ho2 := hP.el k _ _ bq (List.getElem?_eq_getElem (by omega)) (List.getElem?_eq_getElem (by omega)) hk
      obtain ⟨cur2, fr2, hc2⟩ := shOp_blk ho2 hab
      rw [hc] at hc2
      injection hc2 with hc2
      injection hc2 with _ h5
      exact absurd h5 (by decide)
  · rcases List.mem_append.1 hb' with hb' | hb'
    · exact hown.lt b (mem_obl.1 hb')
    · rcases List.mem_append.1 hb' with hb' | hb'
      · have := h.2.2.2 b (List.mem_append_right _ hb')
        omega
      · have := hiv.2 b (by simpa using hb')
        omega
theorem set_nil_same {α : Type} {l : List α} {i : Nat} {x : α} (h : l[i]? = some x) : l.set i x = l := by
  apply List.ext_getElem?
  intro j
  rw [List.getElem?_set]
  by_cases hj : i = j
  · subst hj
    rw [if_pos rfl, if_pos (List.getElem?_eq_some_iff.1 h).1, h]
  · rw [if_neg hj]
theorem PO.tab (h : PO lo w v xs css bls) {k : Nat} {a : Int} {t : List Int} (hk : xs[k]? = some (a, t)) (ht : t ≠ []) :
    ∃ g cap tb d, v = .slice (some ⟨g, 0, none⟩) xs.length cap ∧ w.cell? ⟨g, k * 2, none⟩ = some (.int .i64 a) ∧ w.cell? ⟨g, k * 2 + 1, none⟩ = some (.slice (some ⟨tb, 0, none⟩) t.length d) ∧ lo ≤ tb ∧ tb < w.heap.size ∧
      (∀ p, w.frozen? ⟨tb, p, none⟩ = false) ∧ (∀ p x, t[p]? = some x → w.cell? ⟨tb, p, none⟩ = some (.int .i64 x)) ∧ tb ∈ bls.flatten ∧
      ∀ p u, InR u → PO lo (w.setCell ⟨tb, p, none⟩ (.int .i64 u)) v (xs.set k (a, t.set p u)) css bls := by
  obtain ⟨hP, hrow, hiv⟩ := h
  have hkl := (List.getElem?_eq_some_iff.1 hk).1
  obtain ⟨g, cap, hv⟩ := hP.slice hkl
  have hl1 := hP.l1
  have hl2 := hP.l2
  have hcj : css[k]? = some (css[k]'(by omega)) := List.getElem?_eq_getElem (by omega)
  have hbj : bls[k]? = some (bls[k]'(by omega)) := List.getElem?_eq_getElem (by omega)
  generalize css[k]'(by omega) = cj at hcj
  generalize bls[k]'(by omega) = bk at hbj
  have ho := hP.el k cj (a, t) bk hcj hk hbj
  have ho0 := ho
  obtain ⟨c0, c1, b0, b1, rfl, rfl, ⟨_, rfl, ⟨rfl, lo0, hi0⟩, rfl⟩, ⟨tv, rfl, O1, hR, rfl⟩⟩ := ho
  obtain ⟨tb, d, rfl⟩ : ∃ tb d, tv = .slice (some ⟨tb, 0, none⟩) t.length d := by
    rcases O1.2 with ⟨-, h0⟩ | ⟨g', cap', cur, rfl, -⟩
    · exact absurd (List.length_eq_zero_iff.1 h0) ht
    · exact ⟨_, _, rfl⟩
  have htm : tb ∈ bls.flatten := List.mem_flatten.2 ⟨_, List.mem_of_getElem? hbj, by simp [obl, Value.ownBlock]⟩
  have hbd := hiv.2 tb (List.mem_append_right _ htm)
  have hgb : tb ∉ obl v := fun hh => (List.nodup_append.1 hiv.1).2.2 tb hh tb htm rfl
  refine ⟨g, cap, tb, d, hv, hP.cell hv hcj (i := 0) rfl, hP.cell hv hcj (i := 1) rfl, hbd.1, hbd.2, fun p => O1.frozenAt p, fun p x hx => ?_, htm, fun p u hu => ?_⟩
  · have hpl := (List.getElem?_eq_some_iff.1 hx).1
    rw [O1.cellAt p (by show p < t.length * 1; omega)]
    show (t.map (Value.int .i64))[p]? = _
    rw [List.getElem?_map, hx]
    rfl
  · have hfar : ∀ b, b ≠ tb → (w.setCell ⟨tb, p, none⟩ (.int .i64 u)).heap[b]? = w.heap[b]? := fun b hb => Below.heap_setCell w _ _ b hb
    have hO2 : (w.setCell ⟨tb, p, none⟩ (.int .i64 u)).ownsRow 0 3 1 (.slice (some ⟨tb, 0, none⟩) t.length d) (t.set p u).length (ints (t.set p u)) := by
      have := (O1.stored p (.int .i64 u)).1
      rw [ints_set] at this
      simpa using this
    have hRu : ∀ y ∈ t.set p u, InR y := fun y hy => by
      rcases List.mem_or_eq_of_mem_set hy with h1 | h1
      · exact hR y h1
      · rw [h1]; exact hu
    have hrow2 : (w.setCell ⟨tb, p, none⟩ (.int .i64 u)).ownsRow lo 103 2 v xs.length css.flatten := own_same hrow fun b hb => hfar b fun e => hgb (by rw [← e]; exact mem_obl.2 hb)
    have hset : setAll css.flatten (k * shOp.m) [.int .i64 a, .slice (some ⟨tb, 0, none⟩) t.length d] = css.flatten := by
      have F0 : css.flatten[k * 2]? = some (.int .i64 a) := by have := flat_get hP.all k 0 (by decide); rw [hcj] at this; exact this
      have F1 : css.flatten[k * 2 + 1]? = some (.slice (some ⟨tb, 0, none⟩) t.length d) := by have := flat_get hP.all k 1 (by decide); rw [hcj] at this; exact this
      show (css.flatten.set (k * 2) _).set (k * 2 + 1) _ = _
      rw [set_same F0, set_same F1]
    have hPP := hP.put (w' := w.setCell ⟨tb, p, none⟩ (.int .i64 u)) hiv.1 hbj (c' := [.int .i64 a, .slice (some ⟨tb, 0, none⟩) t.length d]) (x' := (a, t.set p u)) (by rw [hset]; exact own_mono hrow2 (Nat.zero_le _))
      ⟨[.int .i64 a], [.slice (some ⟨tb, 0, none⟩) t.length d], [], [tb], rfl, rfl, ⟨_, rfl, ⟨rfl, lo0, hi0⟩, rfl⟩, ⟨_, rfl, hO2, hRu, rfl⟩⟩
      (fun b hb hn => hfar b fun e => hn (by rw [e]; simp [obl, Value.ownBlock]))
    have ecss : css.set k [.int .i64 a, .slice (some ⟨tb, 0, none⟩) t.length d] = css := set_nil_same hcj
    rw [ecss] at hPP
    exact ⟨hPP, by rw [List.length_set]; exact hrow2, by
      have : (w.setCell ⟨tb, p, none⟩ (.int .i64 u)).heap.size = w.heap.size := by simp
      rw [this]
      exact hiv⟩
end
end Go.Proofs.Ytbpdbimdefdefaa
