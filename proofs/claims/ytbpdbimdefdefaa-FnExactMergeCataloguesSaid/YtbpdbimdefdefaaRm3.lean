
/- Walks: RemoveEntry of the reference. -/
import Derived.Test.YtbpdbimdefdefaaRm2
import Derived.Deep.RegionLaw
import Derived.Deep.RegionHeld3
import Derived.Deep.DeepCutAuto
namespace Go.Proofs.Ytbpdbimdefdefaa
open Go.RowKit

/-! ## Raw rows of entries -/
theorem choose_row {α : Type} {p : Nat → α → Prop} (n : Nat) (h : ∀ (k : Nat), k < n → ∃ x, p k x) : ∃ l : List α, l.length = n ∧ ∀ (k : Nat) x, l[k]? = some x → p k x := by
  induction n with
  | zero => exact ⟨[], rfl, fun k x hx => by simp at hx⟩
  | succ n ih =>
    obtain ⟨l, hl, hp⟩ := ih fun k hk => h k (by omega)
    obtain ⟨x, hx⟩ := h n (by omega)
    refine ⟨l ++ [x], by simp [hl], fun k y hy => ?_⟩
    rcases Nat.lt_or_ge k n with _ | _
    · rw [List.getElem?_append_left (by omega)] at hy
      exact hp k y hy
    · have hk2 := (List.getElem?_eq_some_iff.1 hy).1
      simp at hk2
      have hkn : k = n := by omega
      subst hkn
      rw [List.getElem?_append_right (by omega), hl, Nat.sub_self] at hy
      simp at hy
      subst hy
      exact hx
theorem rawE {w : World} {b o n : Nat} {xs : List EntryM} (h : RdN shEntry.m shEntry.rd w (some ⟨b, o, none⟩) n xs) :
    ∃ css : List (List Value), css.length = n ∧ (∀ c ∈ css, c.length = 3) ∧ (∀ c ∈ css, ∀ u ∈ c, u.oneCell' = true) ∧ (∀ (k : Nat) cs, css[k]? = some cs → ∀ (i : Nat) v, cs[i]? = some v → w.cell? ⟨b, o + k * 3 + i, none⟩ = some v) ∧ ∀ (k : Nat) cs x, css[k]? = some cs → xs[k]? = some x → shEntry.rd w cs x := by
  obtain ⟨css, hl, hp⟩ := choose_row (p := fun k (cs : List Value) => ∃ x, xs[k]? = some x ∧ cs.length = 3 ∧ (∀ (i : Nat) v, cs[i]? = some v → w.cell? ⟨b, o + k * 3 + i, none⟩ = some v) ∧ shEntry.rd w cs x) n (fun k hk => by
    obtain ⟨b', o', vs, x, e, hm, hc, hr, -, hx⟩ := h.at hk
    injection e with e
    injection e with e1 e2 _
    subst e1
    subst e2
    exact ⟨vs, x, hx, hm, hc, hr⟩)
  refine ⟨css, hl, fun c hc => ?_, fun c hc u hu => ?_, fun k cs hk i v hv => ?_, fun k cs x hk hx => ?_⟩
  · obtain ⟨k, hk⟩ := List.getElem?_of_mem hc
    obtain ⟨x, -, h3, -⟩ := hp k c hk
    exact h3
  · obtain ⟨k, hk⟩ := List.getElem?_of_mem hc
    obtain ⟨x, -, -, -, hr⟩ := hp k c hk
    obtain ⟨B, m, d, rfl, -⟩ := rdEntry hr
    simp at hu
    rcases hu with rfl | rfl | rfl <;> rfl
  · obtain ⟨x, -, -, h4, -⟩ := hp k cs hk
    exact h4 i v hv
  · obtain ⟨y, hy, -, -, hr⟩ := hp k cs hk
    rw [hx] at hy
    injection hy with hy
    rw [hy]
    exact hr
theorem raw_cells {w : World} {b o : Nat} {css : List (List Value)} (hall : ∀ c ∈ css, c.length = 3) (hc : ∀ (k : Nat) cs, css[k]? = some cs → ∀ (i : Nat) v, cs[i]? = some v → w.cell? ⟨b, o + k * 3 + i, none⟩ = some v) (a m : Nat) :
    ∀ (j : Nat) u, ((css.drop a).take m).flatten[j]? = some u → w.cell? ((⟨b, o + a * 3, none⟩ : Addr).add j) = some u := by
  intro j u hj
  have hall' : ∀ c ∈ (css.drop a).take m, c.length = 3 := fun c h => hall c (List.mem_of_mem_drop (List.mem_of_mem_take h))
  have hr : j % 3 < 3 := Nat.mod_lt _ (by decide)
  have ej : j = j / 3 * 3 + j % 3 := by omega
  rw [ej, flat_get hall' (j / 3) (j % 3) hr] at hj
  have ea : (⟨b, o + a * 3, none⟩ : Addr).add j = ⟨b, o + (a + j / 3) * 3 + j % 3, none⟩ := by
    have : (⟨b, o + a * 3, none⟩ : Addr).add j = ⟨b, o + a * 3 + j, none⟩ := by
      unfold Addr.add
      split
      · rename_i h0; rw [h0]; rfl
      · rfl
    rw [this]
    congr 1
    omega
  rw [ea]
  cases hq : ((css.drop a).take m)[j / 3]? with
  | none => rw [hq] at hj; simp at hj
  | some cs =>
    rw [hq] at hj
    have hcs : css[a + j / 3]? = some cs := by
      rw [List.getElem?_take] at hq
      split at hq
      · rwa [List.getElem?_drop] at hq
      · cases hq
    exact hc _ cs hcs _ _ hj
theorem rdE_of_rows {w : World} {base n c : Nat} {A : Option Addr} {css : List (List Value)} {xs : List EntryM} (h : w.ownsRow base 64 3 (.slice A n c) n css.flatten) (hall : ∀ c ∈ css, c.length = 3) (hl : css.length = n) (hx : xs.length = n)
    (hR : ∀ (k : Nat) cs x, css[k]? = some cs → xs[k]? = some x → shEntry.rd w cs x) : RdN shEntry.m shEntry.rd w A n xs := by
  refine ⟨hx, own_len_le h, fun k x hk => ?_⟩
  have hkl := (List.getElem?_eq_some_iff.1 hk).1
  have hc : css[k]? = some (css[k]'(by omega)) := List.getElem?_eq_getElem (by omega)
  obtain ⟨g, rfl⟩ : ∃ g, A = some ⟨g, 0, none⟩ := by
    rcases h.2 with ⟨_, h0⟩ | ⟨g, cap, cur, h0, _⟩
    · omega
    · injection h0 with h0
      exact ⟨g, h0⟩
  have hcl := hall _ (List.mem_of_getElem? hc)
  refine ⟨g, 0, _, rfl, hcl, fun i u hi => ?_, hR k _ x hc hk⟩
  have him : i < 3 := by have := (List.getElem?_eq_some_iff.1 hi).1; omega
  have hlt : k * 3 + i < n * 3 := by omega
  show w.cell? ⟨g, 0 + k * 3 + i, none⟩ = some u
  rw [Nat.zero_add, h.cellAt _ hlt, flat_get hall k i him, hc]
  exact hi
theorem own_lit (w : World) : (w.alloc (.cells #[] 64)).ownsRow w.heap.size 64 3 (.slice (some ⟨w.heap.size, 0, none⟩) 0 0) 0 [] :=
  (PE.lit (lo := w.heap.size) (w := w) (Nat.le_refl _)).2.1
theorem step_appN {P : Program} (w : World) {ops : Array Oper} {o : Oper} {a : Act} {K : Act → World → Prop} {Q : Exit → Act → World → Prop} {E : Prop} (hgd : o.guard = none) (s x : Operand) (t e : TypeId)
    (ho : o.op = .call { callee := .builtin .append, args := #[s, x], argTypes := #[t, t] }) (z : Value) (bytes : Nat)
    (ht : P.underlying t = some (.slice e)) (hi : (P.info? e).map (fun i => (i.zero, i.size, i.bytes)) = some (some z, 3, bytes)) (hzs : z.cells.size = 3) (hbb : bytes ≤ 64)
    (base n c : Nat) (A : Option Addr) (xs : List Value) (hs : a.eval s = .slice A n c) (hown : w.ownsRow base e 3 (.slice A n c) n xs)
    (ad : Addr) (m c2 : Nat) (news : List Value) (hx : a.eval x = .slice (some ad) m c2) (hl : news.length = m * 3) (hnews : ∀ j u, news[j]? = some u → w.cell? (ad.add j) = some u) (h1 : ∀ u ∈ news, u.oneCell' = true)
    (hn : n + m ≤ 1048576) (hbase : base ≤ w.heap.size)
    (hK : ∀ A' c' w', w'.ownsRow base e 3 (.slice A' (n + m) c') (n + m) (xs ++ news) → w.grownBy w' (Value.slice A n c).ownBlock → Below base w w' → K (a.put o.dst (.slice A' (n + m) c')) w') :
    if Region.wanted o (yielded ops a.tmps) = true then Oper.wp P o a w K Q else E := by
  have hw : Region.wanted o (yielded ops a.tmps) = true := by simp [Region.wanted, hgd]
  rw [if_pos hw]
  obtain ⟨i, hi, hz, hsize, hby⟩ := info_parts hi
  have hbound : (n + m) * bytes ≤ 140737488355328 := Nat.le_trans (Nat.mul_le_mul_left (n + m) hbb) (by omega)
  refine wp_append_at w s x t ho base e i z 3 bytes ht hi hz hsize hby hzs (by omega) (.slice A n c) n xs hs hown ad m c2 news hx hl hnews h1 (by unfold maxLen; omega) hbound hbase fun v' w' h2 h3 _ => ?_
  obtain ⟨A', c', rfl⟩ := own_slice h2
  refine hK A' c' w' h2 h3 ?_
  exact own_grown_below (Below.refl _ _) h3 hbase fun k hk => (hown.lt k hk).1

/-! ## The plain law -/
theorem catF_far {s : ByteArray} : ∀ (l pre : List EntryM), catF pre l = true → hasS s (pre.map (·.1)) = true → ∀ e ∈ l, eqC e.1 s = false
  | [], _, _, _, e, he => by simp at he
  | y :: l, pre, h, hp, e, he => by
    rw [catF, Bool.and_eq_true] at h
    rcases List.mem_cons.1 he with rfl | he
    · refine eqC_no.2 fun e1 => ?_
      have h1 := h.1
      unfold okE at h1
      rw [e1, hp] at h1
      simp at h1
    · refine catF_far l (pre ++ [y]) h.2 ?_ e he
      unfold hasS at *
      rw [List.map_append, List.any_append, hp, Bool.true_or]
theorem catF_at : ∀ (k : Nat) (xs pre : List EntryM), catF pre xs = true → catF (pre ++ xs.take k) (xs.drop k) = true
  | 0, xs, pre, h => by simpa using h
  | k + 1, [], pre, h => by simpa using h
  | k + 1, y :: l, pre, h => by
    rw [catF, Bool.and_eq_true] at h
    have := catF_at k l (pre ++ [y]) h.2
    simpa using this
theorem catF_name : ∀ (l pre : List EntryM), catF pre l = true → ∀ e ∈ l, nameB e.1 = true
  | [], _, _, e, he => by simp at he
  | y :: l, pre, h, e, he => by
    rw [catF, Bool.and_eq_true] at h
    rcases List.mem_cons.1 he with rfl | he
    · have h1 := h.1
      unfold okE at h1
      rw [Bool.and_eq_true] at h1
      exact h1.1
    · exact catF_name l _ h.2 e he
theorem cat_two {xs : List EntryM} (h : catB xs = true) : xs.length ≤ 12 ∧ catF [] xs = true := by
  unfold catB at h
  rw [Bool.and_eq_true] at h
  exact ⟨of_decide_eq_true h.1, h.2⟩
theorem rm_name {xs : List EntryM} {s : ByteArray} (h : catB xs = true) (hn : nameB s = false) : hasS s (xs.map (·.1)) = false := by
  cases hh : hasS s (xs.map (·.1)) with
  | false => rfl
  | true =>
    obtain ⟨e, he, e1⟩ := List.mem_map.1 (hasS_iff.1 hh)
    have := catF_name _ _ (cat_two h).2 e he
    rw [e1, hn] at this
    cases this
theorem rmL_keep {s : ByteArray} {l : List EntryM} (h : ∀ e ∈ l, eqC e.1 s = false) : rmL s l = l := by
  unfold rmL
  exact List.filter_eq_self.2 fun e he => by rw [h e he]; rfl
theorem has_none {s : ByteArray} {l : List EntryM} (h : hasS s (l.map (·.1)) = false) : ∀ e ∈ l, eqC e.1 s = false := fun e he => by
  refine eqC_no.2 fun e1 => ?_
  have : hasS s (l.map (·.1)) = true := hasS_iff.2 (List.mem_map.2 ⟨e, he, e1⟩)
  rw [h] at this
  cases this
theorem rm_hit {xs : List EntryM} {s : ByteArray} {k : Nat} {y : EntryM} (h : catB xs = true) (hn : hasS s ((xs.take k).map (·.1)) = false) (hy : xs[k]? = some y) (he : eqC y.1 s = true) : rmP xs s = (xs.take k ++ xs.drop (k + 1), true) := by
  have hk := (List.getElem?_eq_some_iff.1 hy).1
  have hyy : xs[k] = y := (List.getElem?_eq_some_iff.1 hy).2
  have hd : xs.drop k = y :: xs.drop (k + 1) := by rw [List.drop_eq_getElem_cons hk, hyy]
  have h1 : hasS s (xs.map (·.1)) = true := hasS_iff.2 (List.mem_map.2 ⟨y, List.mem_of_getElem? hy, eqC_iff.1 he⟩)
  rw [rm_yes h h1]
  have hc := catF_at (k + 1) xs [] (cat_two h).2
  rw [List.nil_append] at hc
  have hp : hasS s ((xs.take (k + 1)).map (·.1)) = true := hasS_iff.2 (List.mem_map.2 ⟨y, by rw [take_snoc hy]; simp, eqC_iff.1 he⟩)
  have hf := catF_far _ _ hc hp
  have e0 : xs = xs.take k ++ (y :: xs.drop (k + 1)) := by rw [← hd, List.take_append_drop]
  have : rmL s xs = rmL s (xs.take k) ++ rmL s (y :: xs.drop (k + 1)) := by
    conv => lhs; rw [e0]
    unfold rmL
    rw [List.filter_append]
  rw [this, rmL_keep (has_none hn)]
  have : rmL s (y :: xs.drop (k + 1)) = rmL s (xs.drop (k + 1)) := by unfold rmL; rw [List.filter_cons, he]; rfl
  rw [this, rmL_keep hf]
theorem cut_cnt {xs : List EntryM} {k : Nat} {y : EntryM} (hy : xs[k]? = some y) : (xs.take k ++ xs.drop (k + 1)).length = xs.length - 1 ∧ cntS shEntry.cnt (xs.take k ++ xs.drop (k + 1)) ≤ cntS shEntry.cnt xs := by
  have hk := (List.getElem?_eq_some_iff.1 hy).1
  refine ⟨by rw [List.length_append, List.length_take, List.length_drop]; omega, ?_⟩
  have e0 : xs = xs.take k ++ (xs[k] :: xs.drop (k + 1)) := by rw [← List.drop_eq_getElem_cons hk, List.take_append_drop]
  have : cntS shEntry.cnt xs = cntS shEntry.cnt (xs.take k) + cntS shEntry.cnt (xs[k] :: xs.drop (k + 1)) := by
    conv => lhs; rw [e0]
    unfold cntS
    rw [List.map_append, List.sum_append]
  rw [this, cntS_cons]
  have : cntS shEntry.cnt (xs.take k ++ xs.drop (k + 1)) = cntS shEntry.cnt (xs.take k) + cntS shEntry.cnt (xs.drop (k + 1)) := by
    unfold cntS
    rw [List.map_append, List.sum_append]
  omega
theorem cut_rd {w : World} {css : List (List Value)} {xs : List EntryM} (h : ∀ (k : Nat) cs x, css[k]? = some cs → xs[k]? = some x → shEntry.rd w cs x) (i : Nat) :
    ∀ (k : Nat) cs x, (css.take i ++ css.drop (i + 1))[k]? = some cs → (xs.take i ++ xs.drop (i + 1))[k]? = some x → shEntry.rd w cs x := by
  intro k cs x h1 h2
  rw [← List.eraseIdx_eq_take_drop_succ, List.getElem?_eraseIdx] at h1 h2
  split at h1
  · rw [if_pos (by assumption)] at h2
    exact h k cs x h1 h2
  · rw [if_neg (by assumption)] at h2
    exact h (k + 1) cs x h1 h2
theorem rm_round {xs : List EntryM} {s : ByteArray} {k : Nat} {y : EntryM} (hn : hasS s ((xs.take k).map (·.1)) = false) (hy : xs[k]? = some y) (he : eqC y.1 s = false) : hasS s ((xs.take (k + 1)).map (·.1)) = false := by
  rw [take_snoc hy, List.map_append]
  unfold hasS at *
  rw [List.any_append, hn]
  simpa using he
end Go.Proofs.Ytbpdbimdefdefaa
