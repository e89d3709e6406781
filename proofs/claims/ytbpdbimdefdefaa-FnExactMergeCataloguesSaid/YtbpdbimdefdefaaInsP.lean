
/- Plain laws and memory: one entry more in a catalogue's order; append beyond the room of a slice. -/
import Derived.Test.YtbpdbimdefdefaaRm3
namespace Go.Proofs.Ytbpdbimdefdefaa
open Go.RowKit

/-! ## The place of a model -/
def posL (y : AlgebraM) : List EntryM → Nat
  | [] => 0
  | x :: l => if befB x.2 y then posL y l + 1 else 0
theorem posL_le (y : AlgebraM) : ∀ xs : List EntryM, posL y xs ≤ xs.length
  | [] => Nat.le_refl _
  | x :: l => by
    have := posL_le y l
    rw [posL, List.length_cons]
    split <;> omega
noncomputable def insM (xs : List EntryM) (e : EntryM) : List EntryM := xs.take (posL e.2 xs) ++ e :: xs.drop (posL e.2 xs)
noncomputable def dupB (xs : List EntryM) (e : EntryM) : Bool := match xs[posL e.2 xs]? with | none => false | some x => eqC x.2 e.2
theorem insM_len (xs : List EntryM) (e : EntryM) : (insM xs e).length = xs.length + 1 := by
  have := posL_le e.2 xs
  unfold insM
  rw [List.length_append, List.length_take, List.length_cons, List.length_drop]
  omega
theorem insM_mem {xs : List EntryM} {e x : EntryM} : x ∈ insM xs e ↔ x = e ∨ x ∈ xs := by
  unfold insM
  rw [List.mem_append, List.mem_cons]
  constructor
  · rintro (h | h | h)
    · exact .inr (List.mem_of_mem_take h)
    · exact .inl h
    · exact .inr (List.mem_of_mem_drop h)
  · rintro (h | h)
    · exact .inr (.inl h)
    · rw [← List.take_append_drop (posL e.2 xs) xs] at h
      rcases List.mem_append.1 h with h | h
      · exact .inl h
      · exact .inr (.inr h)
def PosAt (y : AlgebraM) (xs : List EntryM) (k : Nat) : Prop := posL y xs = k + posL y (xs.drop k)
theorem PosAt.start (y : AlgebraM) (xs : List EntryM) : PosAt y xs 0 := by unfold PosAt; simp
theorem PosAt.step {y : AlgebraM} {xs : List EntryM} {k : Nat} {x : EntryM} (h : PosAt y xs k) (hx : xs[k]? = some x) (hb : befB x.2 y = true) : PosAt y xs (k + 1) := by
  unfold PosAt at *
  obtain ⟨h1, h2⟩ := List.getElem?_eq_some_iff.1 hx
  rw [List.drop_eq_getElem_cons h1, h2, posL, if_pos hb] at h
  omega
theorem PosAt.stop {y : AlgebraM} {xs : List EntryM} {k : Nat} {x : EntryM} (h : PosAt y xs k) (hx : xs[k]? = some x) (hb : befB x.2 y = false) : posL y xs = k := by
  unfold PosAt at *
  obtain ⟨h1, h2⟩ := List.getElem?_eq_some_iff.1 hx
  rw [List.drop_eq_getElem_cons h1, h2, posL, if_neg (by rw [hb]; decide)] at h
  exact h
theorem PosAt.done {y : AlgebraM} {xs : List EntryM} {k : Nat} (h : PosAt y xs k) (hk : ¬ k < xs.length) : posL y xs = k := by
  unfold PosAt at h
  rw [List.drop_eq_nil_of_le (by omega), posL] at h
  exact h
theorem dup_at {xs : List EntryM} {e x : EntryM} {k : Nat} (hp : posL e.2 xs = k) (hx : xs[k]? = some x) : dupB xs e = eqC x.2 e.2 := by unfold dupB; rw [hp, hx]
theorem dup_end {xs : List EntryM} {e : EntryM} {k : Nat} (hp : posL e.2 xs = k) (hk : ¬ k < xs.length) : dupB xs e = false := by unfold dupB; rw [hp, List.getElem?_eq_none (by omega)]
theorem insM_at {xs : List EntryM} {e : EntryM} {k : Nat} (hp : posL e.2 xs = k) : insM xs e = xs.take k ++ e :: xs.drop k := by unfold insM; rw [hp]

/-! ## append beyond the room -/
theorem run_append_new {P : Program} (w : World) (t ty e : TypeId) (i : TypeInfo) (z : Value) (size bytes : Nat) (ht : P.underlying t = some (.slice e)) (hi : P.info? e = some i) (hz : i.zero = some z)
    (hsize : i.size = size) (hby : i.bytes = bytes) (hzs : z.cells.size = size) (A : Option Addr) (n c : Nat) (olds : List Value) (hlo : olds.length = n * size)
    (hA : (A = none ∧ n = 0 ∧ c = 0) ∨ ∃ b, A = some b ∧ ∀ j v, olds[j]? = some v → w.cell? (b.add j) = some v)
    (a : Addr) (m d : Nat) (news : List Value) (hl : news.length = m * size) (hnews : ∀ j u, news[j]? = some u → w.cell? (a.add j) = some u) (hm : 0 < m) (hc : c < n + m)
    (h63 : n + m ≤ maxLen) (hbytes : (n + m) * bytes ≤ 140737488355328) :
    ∃ v' w', (Builtin.append_ #[t, t] ty #[.slice A n c, .slice (some a) m d]).run P w = .ok v' w' ∧ w'.ownsRow w.heap.size e size v' (n + m) (olds ++ news) ∧ Below w.heap.size w w' := by
  subst hsize
  subst hby
  have hsmall : n + m ≤ 9223372036854775807 := by simp only [maxLen] at h63; omega
  have hlen : (olds ++ news).length = (n + m) * i.size := by rw [List.length_append, hlo, hl, Nat.add_mul]
  have grown : ∀ (old : Nat), old < n + m →
      (w.drew.alloc (.cells (olds.toArray ++ news.toArray ++ Builtin.zeroCells z.cells (grownCap w (n + m) old e - (n + m))) e)).ownsRow w.heap.size e i.size
        (.slice (some ⟨w.heap.size, 0, none⟩) (n + m) (grownCap w (n + m) old e)) (n + m) (olds ++ news) ∧
      Below w.heap.size w (w.drew.alloc (.cells (olds.toArray ++ news.toArray ++ Builtin.zeroCells z.cells (grownCap w (n + m) old e - (n + m))) e)) := by
    intro old ho
    have hge := grownCap_ge w (n + m) old e
    have hcm : grownCap w (n + m) old e ≤ maxLen := grownCap_le_maxLen w (n + m) old e h63
    refine ⟨⟨hlen, .inr ⟨w.heap.size, _, _, rfl, Nat.le_refl _, heap_alloc_new w.drew _, hge, hcm, ?_, ?_⟩⟩, (Below.drew (Below.refl _ _)).alloc (Nat.le_refl _) _⟩
    · simp only [Array.size_append, List.size_toArray, size_zeroCells, hzs, hlo, hl, ← Nat.add_mul]
      congr 1
      omega
    · simp only [Array.toList_append, List.append_assoc]
      rw [← List.append_assoc, ← hlen]
      exact List.take_left
  rcases hA with ⟨rfl, rfl, rfl⟩ | ⟨b, rfl, holds⟩
  · have hx : olds = [] := List.eq_nil_of_length_eq_zero (by simpa using hlo)
    subst hx
    have hr := run_append_nil (P := P) w t ty e i z ht hi hz a m d news hl hnews (by omega) (by omega) (by have hb := hbytes; simp only [Nat.zero_add] at hb; omega)
    have hgr := grown 0 (by omega)
    simp only [Nat.zero_add, List.nil_append, Array.empty_append] at hgr ⊢
    exact ⟨_, _, hr, hgr.1, hgr.2⟩
  · have hr := run_append_grow (P := P) w t ty e i z ht hi hz b n c olds hlo holds a m d news hl hnews hc (by omega) (growslice_fits hc hbytes)
    have hgr := grown c hc
    exact ⟨_, _, hr, hgr.1, hgr.2⟩
theorem app_new {P : Program} (w : World) {ops : Array Oper} {rest : List Oper} {o : Oper} {a : Act} {Q : Exit → Act → World → Prop} (hgd : o.guard = none) (s x : Operand) (t e : TypeId)
    (ho : o.op = .call { callee := .builtin .append, args := #[s, x], argTypes := #[t, t] }) (z : Value) (bytes size : Nat)
    (ht : P.underlying t = some (.slice e)) (hi : (P.info? e).map (fun i => (i.zero, i.size, i.bytes)) = some (some z, size, bytes)) (hzs : z.cells.size = size) (hbb : bytes ≤ 64)
    (A : Option Addr) (n c : Nat) (olds : List Value) (hs : a.eval s = .slice A n c) (hlo : olds.length = n * size) (hA : (A = none ∧ n = 0 ∧ c = 0) ∨ ∃ b, A = some b ∧ ∀ j v, olds[j]? = some v → w.cell? (b.add j) = some v)
    (ad : Addr) (m d : Nat) (news : List Value) (hx : a.eval x = .slice (some ad) m d) (hl : news.length = m * size) (hnews : ∀ j u, news[j]? = some u → w.cell? (ad.add j) = some u) (hm : 0 < m) (hc : c < n + m) (hn : n + m ≤ 1099511627776)
    (hK : ∀ A' c' w', w'.ownsRow w.heap.size e size (.slice A' (n + m) c') (n + m) (olds ++ news) → Below w.heap.size w w' → wpList P ops Q rest (a.put o.dst (.slice A' (n + m) c')) w') :
    wpList P ops Q (o :: rest) a w := by
  obtain ⟨i, hi, hz, hsize, hby⟩ := info_parts hi
  have hbound : (n + m) * bytes ≤ 140737488355328 := Nat.le_trans (Nat.mul_le_mul_left (n + m) hbb) (by omega)
  obtain ⟨v', w', hr, h2, h3⟩ := run_append_new (P := P) w t o.type e i z size bytes ht hi hz hsize hby hzs A n c olds hlo hA ad m d news hl hnews hm hc (by unfold maxLen; omega) hbound
  refine wpList_plain hgd fun _ hK' => ?_
  unfold Oper.wp execOp
  simp only [ho, resolve, invoke, builtin, Sem.run_bind, Sem.run_pure, Result.andThen_ok, List.map_toArray, List.map_cons, List.map_nil, hs, hx, hr]
  obtain ⟨A', c', rfl⟩ := own_slice h2
  exact hK' _ _ (hK A' c' w' h2 h3)

/-! ## One entry more among the call's own -/
theorem flat_ins {α : Type} (bls : List (List α)) (bk : List α) (k : Nat) : (bls.take k ++ bk :: bls.drop k).flatten.Perm (bk ++ bls.flatten) := by
  have e : bls.flatten = (bls.take k).flatten ++ (bls.drop k).flatten := by rw [← List.flatten_append, List.take_append_drop]
  rw [List.flatten_append, List.flatten_cons, e]
  exact List.perm_append_comm_assoc ..
theorem ins_get {α : Type} {l : List α} {x : α} {k : Nat} (hk : k ≤ l.length) (j : Nat) : (l.take k ++ x :: l.drop k)[j]? = if j < k then l[j]? else if j = k then some x else l[j - 1]? := by
  have hl : (l.take k).length = k := by rw [List.length_take]; omega
  split
  · rename_i h
    rw [List.getElem?_append_left (by omega), List.getElem?_take, if_pos h]
  · rename_i h
    rw [List.getElem?_append_right (by omega), hl]
    split
    · rename_i h2
      subst h2
      simp
    · rename_i h2
      obtain ⟨i, hi⟩ : ∃ i, j = k + 1 + i := ⟨j - (k + 1), by omega⟩
      subst hi
      rw [show k + 1 + i - k = i + 1 from by omega, List.getElem?_cons_succ, List.getElem?_drop, show k + 1 + i - 1 = k + i from by omega]
theorem PE.ins {lo : Nat} {w w' : World} {v v' : Value} {xs : List EntryM} {css : List (List Value)} {bls : List (List Nat)} (h : PE lo w v xs css bls) {ce : List Value} {e : EntryM} {bk : List Nat} (ho : shEntry.own w ce e bk) (hbk : bk.Nodup)
    (hb : ∀ b ∈ bk, lo ≤ b ∧ b < w.heap.size) (hdis : ∀ b ∈ bk, b ∉ bls.flatten) {k : Nat} (hk : k ≤ xs.length) (hlo : lo ≤ w.heap.size) (hT : Below w.heap.size w w')
    (hown : w'.ownsRow w.heap.size 64 3 v' (xs.length + 1) (css.take k ++ ce :: css.drop k).flatten) :
    PE lo w' v' (xs.take k ++ e :: xs.drop k) (css.take k ++ ce :: css.drop k) (bls.take k ++ bk :: bls.drop k) := by
  have hl1 := h.1.l1
  have hl2 := h.1.l2
  have hlx : (xs.take k ++ e :: xs.drop k).length = xs.length + 1 := by simp; omega
  have hlc : (css.take k ++ ce :: css.drop k).length = xs.length + 1 := by simp; omega
  have hlb : (bls.take k ++ bk :: bls.drop k).length = xs.length + 1 := by simp; omega
  have hnd := List.nodup_append.1 h.2.2.1
  have hP := flat_ins bls bk k
  refine ⟨⟨by rw [hlx]; exact own_mono hown (Nat.zero_le _), by omega, by omega, fun j c x bq e1 e2 e3 => ?_⟩, by rw [hlx]; exact own_mono hown hlo, ?_⟩
  · rw [ins_get (by omega)] at e1 e2 e3
    by_cases h1 : j < k
    · rw [if_pos h1] at e1 e2 e3
      exact shEntry.osame (h.1.el j c x bq e1 e2 e3) fun b hb' => hT.block b (h.2.2.2 b (List.mem_append_right _ (List.mem_flatten.2 ⟨_, List.mem_of_getElem? e3, hb'⟩))).2
    · rw [if_neg h1] at e1 e2 e3
      by_cases h2 : j = k
      · rw [if_pos h2] at e1 e2 e3
        injection e1 with e1
        injection e2 with e2
        injection e3 with e3
        subst e1
        subst e2
        subst e3
        exact shEntry.osame ho fun b hb' => hT.block b (hb b hb').2
      · rw [if_neg h2] at e1 e2 e3
        exact shEntry.osame (h.1.el (j - 1) c x bq e1 e2 e3) fun b hb' => hT.block b (h.2.2.2 b (List.mem_append_right _ (List.mem_flatten.2 ⟨_, List.mem_of_getElem? e3, hb'⟩))).2
  · have hsz := hT.size
    refine ⟨?_, fun b hb' => ?_⟩
    · rw [List.nodup_append]
      refine ⟨obl_nd _, ?_, fun a ha b hb' e => ?_⟩
      · rw [hP.nodup_iff, List.nodup_append]
        exact ⟨hbk, hnd.2.1, fun a ha b hb' e => hdis a ha (e ▸ hb')⟩
      · subst e
        have h3 := (hown.lt a (mem_obl.1 ha)).1
        rcases List.mem_append.1 (hP.mem_iff.1 hb') with h4 | h4
        · have := (hb a h4).2; omega
        · have := (h.2.2.2 a (List.mem_append_right _ h4)).2; omega
    · rcases List.mem_append.1 hb' with h4 | h4
      · have := hown.lt b (mem_obl.1 h4); omega
      · rcases List.mem_append.1 (hP.mem_iff.1 h4) with h5 | h5
        · have := hb b h5; omega
        · have := h.2.2.2 b (List.mem_append_right _ h5); omega
end Go.Proofs.Ytbpdbimdefdefaa
