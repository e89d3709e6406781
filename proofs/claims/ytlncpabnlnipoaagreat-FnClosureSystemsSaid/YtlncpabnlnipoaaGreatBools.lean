
/- The harness's functions on []bool and [][]bool: size, copy, equality, marks. Printed by genbools.py. -/
import Derived.Test.YtlncpabnlnipoaaGreatMark
namespace Go.Proofs.YtlncpabnlnipoaaGreat
open Go.RowKit

theorem info_bool : (Tryz.prog.info? 4).map (fun i => (i.zero, i.size, i.bytes)) = some (some (.bool false), 1, 1) := by kernel_rfl
theorem info_bools : (Tryz.prog.info? 62).map (fun i => (i.zero, i.size, i.bytes)) = some (some (.slice none 0 0), 1, 24) := by kernel_rfl

def szBls (xs : List Bool) (left : Int) : Int := if left - xs.length < 0 then -1 else left - xs.length

/-- Two lists of numbers are the same, as the program compares them. -/
def eqBL : List Bool → List Bool → Bool
  | [], [] => true
  | x :: l, y :: m => x == y && eqBL l m
  | _, _ => false
theorem eqBL_self : ∀ l : List Bool, eqBL l l = true
  | [] => rfl
  | x :: l => by simp [eqBL, eqBL_self l]
theorem eqBL_iff : ∀ {l m : List Bool}, eqBL l m = true ↔ l = m
  | [], [] => by simp [eqBL]
  | [], _ :: _ => by simp [eqBL]
  | _ :: _, [] => by simp [eqBL]
  | x :: l, y :: m => by simp [eqBL, eqBL_iff (l := l) (m := m)]
theorem eqBL_len {l m : List Bool} (h : l.length ≠ m.length) : false = eqBL l m := by
  rcases e : eqBL l m with _ | _
  · rfl
  · exact absurd (congrArg List.length (eqBL_iff.1 e)) h
def EqBAt (xs ys : List Bool) (k : Nat) : Prop := eqBL (xs.drop k) (ys.drop k) = eqBL xs ys
theorem EqBAt.step {xs ys : List Bool} {k : Nat} {x y : Bool} (h : EqBAt xs ys k) (h1 : xs.drop k = x :: xs.drop (k + 1)) (h2 : ys.drop k = y :: ys.drop (k + 1)) (he : (x == y) = true) : EqBAt xs ys (k + 1) := by
  unfold EqBAt at *; rw [← h, h1, h2, eqBL, he]; rfl
theorem EqBAt.stop {xs ys : List Bool} {k : Nat} {x y : Bool} (h : EqBAt xs ys k) (h1 : xs.drop k = x :: xs.drop (k + 1)) (h2 : ys.drop k = y :: ys.drop (k + 1)) (he : (x == y) = false) : false = eqBL xs ys := by
  unfold EqBAt at *; rw [← h, h1, h2, eqBL, he]; rfl
theorem EqBAt.done {xs ys : List Bool} {k : Nat} (h : EqBAt xs ys k) (h1 : xs.drop k = []) (h2 : ys.drop k = []) : true = eqBL xs ys := by
  unfold EqBAt at *; rw [← h, h1, h2]; rfl

theorem make_bools (w : World) {ops : Array Oper} {rest : List Oper} {o : Oper} {a : Act} {Q : Exit → Act → World → Prop} (hg : o.guard = none) (l c : Operand) (hop : o.op = Op.makeSlice 62 l c)
    (n : Nat) (hl : a.eval l = .int .i64 n) (hc : a.eval c = .int .i64 n) (b : n ≤ 1048576)
    (hK : ∀ w', w'.ownsRow w.heap.size 4 1 (.slice (some ⟨w.heap.size, 0, none⟩) n n) n (List.replicate n (.bool false)) → w.grownBy w' none → wpList Tryz.prog ops Q rest (a.put o.dst (.slice (some ⟨w.heap.size, 0, none⟩) n n)) w') :
    wpList Tryz.prog ops Q (o :: rest) a w := by
  obtain ⟨i0, hi, hz0, hz1, hz2⟩ := info_parts info_bool
  refine wpList_make_full w hg l c 62 hop w.heap.size 4 i0 (.bool false) 1 Tryz.underlying62 hi hz0 hz1 .i64 .i64 n n n hl hc rfl rfl (by rw [hz2]; omega) (by unfold maxLen; omega) (Nat.le_refl _) ?_
  intro w' h1 h2
  refine hK w' ?_ h2
  have e : (madeCells (Value.bool false).cells (n * 1)).toList = List.replicate n (.bool false) := by rw [Nat.mul_one]; exact toList_madeCells_one (.bool false) n
  rw [← e]
  exact h1

def bls (xs : List Bool) : List Value := xs.map (.bool)

theorem RB_bls {xs : List Bool} {w : World} : ∀ x ∈ xs, RB w (.bool x) x := fun _ _ => rfl

/-! ## [][]int -/
/-- What szIntSS answers: left less the outer length and the inner ones, or -1 as soon as it is below 0. -/
def szBRows : List (List Bool) → Int → Int
  | [], left => left
  | xs :: l, left => if szBls xs left < 0 then -1 else szBRows l (szBls xs left)
def szBlss (xss : List (List Bool)) (left : Int) : Int := if left - xss.length < 0 then -1 else szBRows xss (left - xss.length)
theorem szBls_le (xs : List Bool) (left : Int) (h : 0 ≤ left) : -1 ≤ szBls xs left ∧ szBls xs left ≤ left := by unfold szBls; split <;> omega
def SzBAt (xss : List (List Bool)) (l0 left : Int) (k : Nat) : Prop := szBRows (xss.drop k) left = szBRows xss l0
theorem SzBAt.step {xss : List (List Bool)} {l0 left : Int} {k : Nat} {xs : List Bool} (h : SzBAt xss l0 left k) (h1 : xss.drop k = xs :: xss.drop (k + 1)) (h2 : ¬ szBls xs left < 0) : SzBAt xss l0 (szBls xs left) (k + 1) := by
  unfold SzBAt at *; rw [← h, h1, szBRows, if_neg h2]
theorem SzBAt.stop {xss : List (List Bool)} {l0 left : Int} {k : Nat} {xs : List Bool} (h : SzBAt xss l0 left k) (h1 : xss.drop k = xs :: xss.drop (k + 1)) (h2 : szBls xs left < 0) : -1 = szBRows xss l0 := by
  unfold SzBAt at *; rw [← h, h1, szBRows, if_pos h2]
theorem SzBAt.done {xss : List (List Bool)} {l0 left : Int} {k : Nat} (h : SzBAt xss l0 left k) (h1 : xss.drop k = []) : left = szBRows xss l0 := by
  unfold SzBAt at *; rw [← h, h1]; rfl


def eqBLL : List (List Bool) → List (List Bool) → Bool
  | [], [] => true
  | x :: l, y :: m => eqBL x y && eqBLL l m
  | _, _ => false
theorem eqBLL_iff : ∀ {l m : List (List Bool)}, eqBLL l m = true ↔ l = m
  | [], [] => by simp [eqBLL]
  | [], _ :: _ => by simp [eqBLL]
  | _ :: _, [] => by simp [eqBLL]
  | x :: l, y :: m => by simp [eqBLL, eqBLL_iff (l := l) (m := m), eqBL_iff]
theorem eqBLL_self (l : List (List Bool)) : eqBLL l l = true := eqBLL_iff.2 rfl
theorem eqBLL_len {l m : List (List Bool)} (h : l.length ≠ m.length) : false = eqBLL l m := by
  rcases e : eqBLL l m with _ | _
  · rfl
  · exact absurd (congrArg List.length (eqBLL_iff.1 e)) h
def EqqBAt (xs ys : List (List Bool)) (k : Nat) : Prop := eqBLL (xs.drop k) (ys.drop k) = eqBLL xs ys
theorem EqqBAt.step {xs ys : List (List Bool)} {k : Nat} {x y : List Bool} (h : EqqBAt xs ys k) (h1 : xs.drop k = x :: xs.drop (k + 1)) (h2 : ys.drop k = y :: ys.drop (k + 1)) (he : eqBL x y = true) : EqqBAt xs ys (k + 1) := by
  unfold EqqBAt at *; rw [← h, h1, h2, eqBLL, he]; rfl
theorem EqqBAt.stop {xs ys : List (List Bool)} {k : Nat} {x y : List Bool} (h : EqqBAt xs ys k) (h1 : xs.drop k = x :: xs.drop (k + 1)) (h2 : ys.drop k = y :: ys.drop (k + 1)) (he : eqBL x y = false) : false = eqBLL xs ys := by
  unfold EqqBAt at *; rw [← h, h1, h2, eqBLL, he]; rfl
theorem EqqBAt.done {xs ys : List (List Bool)} {k : Nat} (h : EqqBAt xs ys k) (h1 : xs.drop k = []) (h2 : ys.drop k = []) : true = eqBLL xs ys := by
  unfold EqqBAt at *; rw [← h, h1, h2]; rfl


theorem make_boolss (w : World) {ops : Array Oper} {rest : List Oper} {o : Oper} {a : Act} {Q : Exit → Act → World → Prop} (hg : o.guard = none) (l c : Operand) (hop : o.op = Op.makeSlice 59 l c)
    (n : Nat) (hl : a.eval l = .int .i64 n) (hc : a.eval c = .int .i64 n) (b : n ≤ 1048576)
    (hK : ∀ w', w'.ownsRow w.heap.size 62 1 (.slice (some ⟨w.heap.size, 0, none⟩) n n) n (List.replicate n (.slice none 0 0)) → w.grownBy w' none → wpList Tryz.prog ops Q rest (a.put o.dst (.slice (some ⟨w.heap.size, 0, none⟩) n n)) w') :
    wpList Tryz.prog ops Q (o :: rest) a w := by
  obtain ⟨i0, hi, hz0, hz1, hz2⟩ := info_parts info_bools
  refine wpList_make_full w hg l c 59 hop w.heap.size 62 i0 (.slice none 0 0) 1 Tryz.underlying59 hi hz0 hz1 .i64 .i64 n n n hl hc rfl rfl (by rw [hz2]; omega) (by unfold maxLen; omega) (Nat.le_refl _) ?_
  intro w' h1 h2
  refine hK w' ?_ h2
  have e : (madeCells (Value.slice none 0 0).cells (n * 1)).toList = List.replicate n (.slice none 0 0) := by rw [Nat.mul_one]; exact toList_madeCells_one (.slice none 0 0) n
  rw [← e]
  exact h1

abbrev OwBB := @OwM Bool 62 4 (.bool)
abbrev RBB := RdL (RV RB)
theorem stab_RVB : Stab (RV RB) := stab_RV stab_RB
/-! ## Marks -/
/-- The marks k, k + 1, ..: whether each is divided by 3. -/
def tks (k : Int) : Nat → List Bool
  | 0 => []
  | n + 1 => (k % 3 == 0) :: tks (k + 1) n
theorem tks_len : ∀ (n : Nat) (k : Int), (tks k n).length = n
  | 0, _ => rfl
  | n + 1, k => by simp [tks, tks_len n]
theorem tks_get : ∀ (n : Nat) (k : Int) (j : Nat), j < n → (tks k n)[j]? = some ((k + j) % 3 == 0)
  | 0, _, j, h => absurd h (by omega)
  | n + 1, k, 0, _ => by simp [tks]
  | n + 1, k, j + 1, h => by
    rw [tks, List.getElem?_cons_succ, tks_get n (k + 1) j (by omega)]
    congr 3
    omega
def markBTo (k : Int) (xs : List Bool) (j : Nat) : List Bool := (tks k xs.length).take j ++ xs.drop j
theorem markBTo_set {k : Int} {xs : List Bool} {j : Nat} (h : j < xs.length) : (bls (markBTo k xs j)).set j (.bool ((k + j) % 3 == 0)) = bls (markBTo k xs (j + 1)) := by
  have l1 : ((tks k xs.length).take j).length = j := by rw [List.length_take, tks_len]; omega
  unfold bls
  rw [← List.map_set]
  unfold markBTo
  rw [List.set_append_right _ _ (by omega), l1, Nat.sub_self, List.drop_eq_getElem_cons h, List.set_cons_zero, List.take_add_one, tks_get _ _ _ h]
  simp
def tkss (k : Int) : List (List Bool) → List (List Bool)
  | [] => []
  | xs :: l => tks k xs.length :: tkss (k + xs.length) l
def totalB : List (List Bool) → Nat
  | [] => 0
  | xs :: l => xs.length + totalB l


def MarkBAt (k0 : Int) (xss yss : List (List Bool)) (j : Nat) (k : Int) : Prop := yss.take j ++ tkss k (xss.drop j) = tkss k0 xss ∧ yss.drop j = xss.drop j ∧ yss.length = xss.length ∧ k + totalB (xss.drop j) = k0 + totalB xss ∧ k0 ≤ k
theorem MarkBAt.start (k0 : Int) (xss : List (List Bool)) : MarkBAt k0 xss xss 0 k0 := ⟨by simp, rfl, rfl, by simp, Int.le_refl _⟩
theorem MarkBAt.step {k0 k : Int} {xss yss : List (List Bool)} {j : Nat} (h : MarkBAt k0 xss yss j k) (hj : j < xss.length) : MarkBAt k0 xss (yss.set j (tks k (xss[j]).length)) (j + 1) (k + (xss[j]).length) := by
  obtain ⟨h1, h2, h3, h4, h5⟩ := h
  have hjy : j < yss.length := by omega
  have hd := List.drop_eq_getElem_cons hj
  refine ⟨?_, ?_, by simp [h3], ?_, by omega⟩
  · rw [← h1, hd, tkss, List.take_add_one, List.getElem?_set_self hjy, List.take_set_of_le (Nat.le_refl j)]
    simp
  · rw [List.drop_set_of_lt (by omega)]
    have e1 : (yss.drop j).drop 1 = (xss.drop j).drop 1 := by rw [h2]
    simpa [List.drop_drop] using e1
  · rw [hd, totalB] at h4
    omega
theorem MarkBAt.done {k0 k : Int} {xss yss : List (List Bool)} {j : Nat} (h : MarkBAt k0 xss yss j k) (hj : xss.length ≤ j) : yss = tkss k0 xss ∧ k = k0 + totalB xss := by
  obtain ⟨h1, h2, h3, h4, h5⟩ := h
  rw [List.drop_eq_nil_of_le hj, tkss, List.append_nil, List.take_of_length_le (by omega)] at h1
  rw [List.drop_eq_nil_of_le hj, totalB] at h4
  exact ⟨h1, by omega⟩
theorem totalB_drop (xss : List (List Bool)) {j : Nat} (hj : j < xss.length) : (xss[j]).length + totalB (xss.drop (j + 1)) = totalB (xss.drop j) := by
  rw [List.drop_eq_getElem_cons hj, totalB]



end Go.Proofs.YtlncpabnlnipoaaGreat
