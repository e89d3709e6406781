
/- Plain law of AddEntry. -/
import Derived.Test.YtbpdbimdefdefaaCat7
namespace Go.Proofs.Ytbpdbimdefdefaa
open Go.RowKit

theorem befB_self {x y : AlgebraM} (h : x = y) (hx : SmallP x) : befB x y = false := by
  subst h
  rw [befB_cmp, (cmpI_zero hx hx).2 rfl]
  rfl
theorem dup_cat {xs : List EntryM} {e : EntryM} (h : dupB xs e = true) (he : SmallP e.2) : catB (insM xs e) = false := by
  have hle := posL_le e.2 xs
  obtain ⟨k, hk⟩ : ∃ k, posL e.2 xs = k := ⟨_, rfl⟩
  rw [hk] at hle
  by_cases hlt : k < xs.length
  · have hx : xs[k]? = some (xs[k]'hlt) := List.getElem?_eq_getElem hlt
    generalize xs[k]'hlt = x at hx
    rw [dup_at hk hx, eqC_iff] at h
    rw [insM_at hk]
    cases hc : catB (xs.take k ++ e :: xs.drop k) with
    | false => rfl
    | true =>
      have h1 := catF_at (k + 1) _ [] (cat_two hc).2
      have hl : (xs.take k).length = k := by rw [List.length_take]; omega
      have e1 : (xs.take k ++ e :: xs.drop k).take (k + 1) = xs.take k ++ [e] := by
        rw [List.take_append, hl, List.take_take, Nat.min_eq_right (by omega), show k + 1 - k = 1 from by omega]; rfl
      have e2 : (xs.take k ++ e :: xs.drop k).drop (k + 1) = x :: xs.drop (k + 1) := by
        rw [List.drop_append, hl, List.drop_eq_nil_of_le (by omega), show k + 1 - k = 1 from by omega, List.nil_append, List.drop_succ_cons, List.drop_zero]
        obtain ⟨h3, h4⟩ := List.getElem?_eq_some_iff.1 hx
        rw [List.drop_eq_getElem_cons h3, h4]
      rw [List.nil_append, e1, e2, catF, Bool.and_eq_true] at h1
      have h2 := h1.1
      unfold okE lastB at h2
      rw [List.getLast?_append, List.getLast?_singleton] at h2
      simp only [Option.some_or, Bool.and_eq_true] at h2
      rw [befB_self h.symm he] at h2
      simp at h2
  · rw [dup_end hk hlt] at h
    cases h
theorem cnt_small2 {x : AlgebraM} (h : SmallP x) : shAlgebra.cnt x ≤ 16388 := by
  have key : ∀ l : List OpM, (∀ o ∈ l, OpP x.1.toNat o) → cntS shOp.cnt l ≤ l.length * 4096 := by
    intro l
    induction l with
    | nil => intro _; exact Nat.zero_le _
    | cons o l ih =>
      intro hl
      rw [cntS_cons, List.length_cons, Nat.succ_mul]
      have h1 := ih fun o ho => hl o (by simp [ho])
      have h2 := op_len (hl o (by simp)) (by have := h.2.1; omega)
      have h3 : shOp.cnt o = 0 + o.2.length := rfl
      omega
  have h1 := key x.2 h.2.2.2
  have h2 := h.2.2.1
  have h3 : shAlgebra.cnt x = 0 + (x.2.length + cntS shOp.cnt x.2) := rfl
  omega
theorem cat_cnt {xs : List EntryM} (h : catB xs = true) : (Sh.rows shEntry 64).cnt xs ≤ 1048576 := by
  have hl := (cat_two h).1
  have hs : ∀ e ∈ xs, shEntry.cnt e ≤ 16398 := fun e he => by
    have h1 := cnt_small2 (cat_small h he)
    have h2 := catF_name _ _ (cat_two h).2 e he
    unfold nameB inB at h2
    simp only [Bool.and_eq_true, decide_eq_true_eq] at h2
    have h3 : shEntry.cnt e = e.1.size + shAlgebra.cnt e.2 := rfl
    omega
  have hk : ∀ l : List EntryM, (∀ e ∈ l, shEntry.cnt e ≤ 16398) → cntS shEntry.cnt l ≤ l.length * 16398 := fun l => by
    induction l with
    | nil => intro _; exact Nat.zero_le _
    | cons e l ih =>
      intro hl
      have h1 := ih fun e he => hl e (by simp [he])
      have h2 := hl e (by simp)
      rw [cntS_cons, List.length_cons, Nat.succ_mul]
      omega
  have := hk xs hs
  show xs.length + cntS shEntry.cnt xs ≤ _
  omega
/-- AddEntry's answer. -/
noncomputable def adP (xs : List EntryM) (s : ByteArray) (a : AlgebraM) : List EntryM × Bool := if catB xs && (nameB s && (smallB a && catB (insM xs (s, canA a)))) then (insM xs (s, canA a), true) else ([], false)
theorem ad_no1 {xs : List EntryM} {s : ByteArray} {a : AlgebraM} (h : catB xs = false) : adP xs s a = ([], false) := by unfold adP; rw [h]; rfl
theorem ad_no2 {xs : List EntryM} {s : ByteArray} {a : AlgebraM} (h : nameB s = false) : adP xs s a = ([], false) := by unfold adP; rw [h, Bool.false_and, Bool.and_false]; rfl
theorem ad_no3 {xs : List EntryM} {s : ByteArray} {a : AlgebraM} (h : smallB a = false) : adP xs s a = ([], false) := by unfold adP; rw [h, Bool.false_and, Bool.and_false, Bool.and_false]; rfl
theorem ad_no4 {xs : List EntryM} {s : ByteArray} {a : AlgebraM} (h : catB (insM xs (s, canA a)) = false) : adP xs s a = ([], false) := by unfold adP; rw [h, Bool.and_false, Bool.and_false, Bool.and_false]; rfl
theorem ad_yes {xs : List EntryM} {s : ByteArray} {a : AlgebraM} (h1 : catB xs = true) (h2 : nameB s = true) (h3 : smallB a = true) (h4 : catB (insM xs (s, canA a)) = true) : adP xs s a = (insM xs (s, canA a), true) := by unfold adP; rw [h1, h2, h3, h4]; rfl
theorem adP_cnt {xs : List EntryM} {s : ByteArray} {a : AlgebraM} : (Sh.rows shEntry 64).cnt (adP xs s a).1 ≤ 1048576 := by
  unfold adP
  split
  · rename_i h
    simp only [Bool.and_eq_true] at h
    exact cat_cnt h.2.2.2
  · show 0 + 0 ≤ _
    omega
end Go.Proofs.Ytbpdbimdefdefaa
