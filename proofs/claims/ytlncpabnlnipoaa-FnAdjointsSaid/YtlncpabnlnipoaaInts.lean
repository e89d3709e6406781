
/- The harness's functions on []int and [][]int: size, copy, equality. -/
import Derived.Test.YtlncpabnlnipoaaMem
import Derived.Test.YtlncpabnlnipoaaProg
namespace Go.Proofs.Ytlncpabnlnipoaa
open Go.RowKit

theorem info_int : (Try.prog.info? 3).map (fun i => (i.zero, i.size, i.bytes)) = some (some (.int .i64 0), 1, 8) := by kernel_rfl
theorem info_ints : (Try.prog.info? 27).map (fun i => (i.zero, i.size, i.bytes)) = some (some (.slice none 0 0), 1, 24) := by kernel_rfl

def szInts (xs : List Int) (left : Int) : Int := if left - xs.length < 0 then -1 else left - xs.length

/-- Two lists of numbers are the same, as the program compares them. -/
def eqL : List Int → List Int → Bool
  | [], [] => true
  | x :: l, y :: m => x == y && eqL l m
  | _, _ => false
theorem eqL_self : ∀ l : List Int, eqL l l = true
  | [] => rfl
  | x :: l => by simp [eqL, eqL_self l]
theorem eqL_iff : ∀ {l m : List Int}, eqL l m = true ↔ l = m
  | [], [] => by simp [eqL]
  | [], _ :: _ => by simp [eqL]
  | _ :: _, [] => by simp [eqL]
  | x :: l, y :: m => by simp [eqL, eqL_iff (l := l) (m := m)]
theorem eqL_len {l m : List Int} (h : l.length ≠ m.length) : false = eqL l m := by
  rcases e : eqL l m with _ | _
  · rfl
  · exact absurd (congrArg List.length (eqL_iff.1 e)) h
def EqAt (xs ys : List Int) (k : Nat) : Prop := eqL (xs.drop k) (ys.drop k) = eqL xs ys
theorem EqAt.step {xs ys : List Int} {k : Nat} {x y : Int} (h : EqAt xs ys k) (h1 : xs.drop k = x :: xs.drop (k + 1)) (h2 : ys.drop k = y :: ys.drop (k + 1)) (he : (x == y) = true) : EqAt xs ys (k + 1) := by
  unfold EqAt at *; rw [← h, h1, h2, eqL, he]; rfl
theorem EqAt.stop {xs ys : List Int} {k : Nat} {x y : Int} (h : EqAt xs ys k) (h1 : xs.drop k = x :: xs.drop (k + 1)) (h2 : ys.drop k = y :: ys.drop (k + 1)) (he : (x == y) = false) : false = eqL xs ys := by
  unfold EqAt at *; rw [← h, h1, h2, eqL, he]; rfl
theorem EqAt.done {xs ys : List Int} {k : Nat} (h : EqAt xs ys k) (h1 : xs.drop k = []) (h2 : ys.drop k = []) : true = eqL xs ys := by
  unfold EqAt at *; rw [← h, h1, h2]; rfl

theorem make_ints (w : World) {ops : Array Oper} {rest : List Oper} {o : Oper} {a : Act} {Q : Exit → Act → World → Prop} (hg : o.guard = none) (l c : Operand) (hop : o.op = Op.makeSlice 27 l c)
    (n : Nat) (hl : a.eval l = .int .i64 n) (hc : a.eval c = .int .i64 n) (b : n ≤ 17592186044416)
    (hK : ∀ w', w'.ownsRow w.heap.size 3 1 (.slice (some ⟨w.heap.size, 0, none⟩) n n) n (List.replicate n (.int .i64 0)) → w.grownBy w' none → wpList Try.prog ops Q rest (a.put o.dst (.slice (some ⟨w.heap.size, 0, none⟩) n n)) w') :
    wpList Try.prog ops Q (o :: rest) a w := by
  obtain ⟨i0, hi, hz0, hz1, hz2⟩ := info_parts info_int
  refine wpList_make_full w hg l c 27 hop w.heap.size 3 i0 (.int .i64 0) 1 Try.underlying27 hi hz0 hz1 .i64 .i64 n n n hl hc rfl rfl (by rw [hz2]; omega) (by unfold maxLen; omega) (Nat.le_refl _) ?_
  intro w' h1 h2
  refine hK w' ?_ h2
  have e : (madeCells (Value.int .i64 0).cells (n * 1)).toList = List.replicate n (.int .i64 0) := by rw [Nat.mul_one]; exact toList_madeCells_one (.int .i64 0) n
  rw [← e]
  exact h1

def ints (xs : List Int) : List Value := xs.map (.int .i64)
theorem ints_get {xs : List Int} (hx : ∀ x ∈ xs, -9223372036854775808 ≤ x ∧ x ≤ 9223372036854775807) (w : World) (k : Nat) (x : Int) (hk : xs[k]? = some x) : ∃ u, (ints xs)[k]? = some u ∧ RI w u x := by
  refine ⟨.int .i64 x, by simp [ints, hk], rfl, hx x (List.mem_of_getElem? hk)⟩
theorem RdL.bounds {w : World} {A : Option Addr} {n : Nat} {xs : List Int} (h : RdL RI w A n xs) : ∀ x ∈ xs, -9223372036854775808 ≤ x ∧ x ≤ 9223372036854775807 := by
  intro x hx
  obtain ⟨k, hk⟩ := List.getElem?_of_mem hx
  obtain ⟨b, o, v, -, -, hr⟩ := h.2.2 k x hk
  exact hr.2


theorem RI_ints {xs : List Int} {w : World} (h : ∀ x ∈ xs, -9223372036854775808 ≤ x ∧ x ≤ 9223372036854775807) : ∀ x ∈ xs, RI w (.int .i64 x) x := fun x hx => ⟨rfl, h x hx⟩

/-! ## [][]int -/
/-- What szIntSS answers: left less the outer length and the inner ones, or -1 as soon as it is below 0. -/
def szRows : List (List Int) → Int → Int
  | [], left => left
  | xs :: l, left => if szInts xs left < 0 then -1 else szRows l (szInts xs left)
def szIntss (xss : List (List Int)) (left : Int) : Int := if left - xss.length < 0 then -1 else szRows xss (left - xss.length)
theorem szInts_le (xs : List Int) (left : Int) (h : 0 ≤ left) : -1 ≤ szInts xs left ∧ szInts xs left ≤ left := by unfold szInts; split <;> omega
def SzAt (xss : List (List Int)) (l0 left : Int) (k : Nat) : Prop := szRows (xss.drop k) left = szRows xss l0
theorem SzAt.step {xss : List (List Int)} {l0 left : Int} {k : Nat} {xs : List Int} (h : SzAt xss l0 left k) (h1 : xss.drop k = xs :: xss.drop (k + 1)) (h2 : ¬ szInts xs left < 0) : SzAt xss l0 (szInts xs left) (k + 1) := by
  unfold SzAt at *; rw [← h, h1, szRows, if_neg h2]
theorem SzAt.stop {xss : List (List Int)} {l0 left : Int} {k : Nat} {xs : List Int} (h : SzAt xss l0 left k) (h1 : xss.drop k = xs :: xss.drop (k + 1)) (h2 : szInts xs left < 0) : -1 = szRows xss l0 := by
  unfold SzAt at *; rw [← h, h1, szRows, if_pos h2]
theorem SzAt.done {xss : List (List Int)} {l0 left : Int} {k : Nat} (h : SzAt xss l0 left k) (h1 : xss.drop k = []) : left = szRows xss l0 := by
  unfold SzAt at *; rw [← h, h1]; rfl


def eqLL : List (List Int) → List (List Int) → Bool
  | [], [] => true
  | x :: l, y :: m => eqL x y && eqLL l m
  | _, _ => false
theorem eqLL_iff : ∀ {l m : List (List Int)}, eqLL l m = true ↔ l = m
  | [], [] => by simp [eqLL]
  | [], _ :: _ => by simp [eqLL]
  | _ :: _, [] => by simp [eqLL]
  | x :: l, y :: m => by simp [eqLL, eqLL_iff (l := l) (m := m), eqL_iff]
theorem eqLL_self (l : List (List Int)) : eqLL l l = true := eqLL_iff.2 rfl
theorem eqLL_len {l m : List (List Int)} (h : l.length ≠ m.length) : false = eqLL l m := by
  rcases e : eqLL l m with _ | _
  · rfl
  · exact absurd (congrArg List.length (eqLL_iff.1 e)) h
def EqqAt (xs ys : List (List Int)) (k : Nat) : Prop := eqLL (xs.drop k) (ys.drop k) = eqLL xs ys
theorem EqqAt.step {xs ys : List (List Int)} {k : Nat} {x y : List Int} (h : EqqAt xs ys k) (h1 : xs.drop k = x :: xs.drop (k + 1)) (h2 : ys.drop k = y :: ys.drop (k + 1)) (he : eqL x y = true) : EqqAt xs ys (k + 1) := by
  unfold EqqAt at *; rw [← h, h1, h2, eqLL, he]; rfl
theorem EqqAt.stop {xs ys : List (List Int)} {k : Nat} {x y : List Int} (h : EqqAt xs ys k) (h1 : xs.drop k = x :: xs.drop (k + 1)) (h2 : ys.drop k = y :: ys.drop (k + 1)) (he : eqL x y = false) : false = eqLL xs ys := by
  unfold EqqAt at *; rw [← h, h1, h2, eqLL, he]; rfl
theorem EqqAt.done {xs ys : List (List Int)} {k : Nat} (h : EqqAt xs ys k) (h1 : xs.drop k = []) (h2 : ys.drop k = []) : true = eqLL xs ys := by
  unfold EqqAt at *; rw [← h, h1, h2]; rfl


theorem make_intss (w : World) {ops : Array Oper} {rest : List Oper} {o : Oper} {a : Act} {Q : Exit → Act → World → Prop} (hg : o.guard = none) (l c : Operand) (hop : o.op = Op.makeSlice 24 l c)
    (n : Nat) (hl : a.eval l = .int .i64 n) (hc : a.eval c = .int .i64 n) (b : n ≤ 1048576)
    (hK : ∀ w', w'.ownsRow w.heap.size 27 1 (.slice (some ⟨w.heap.size, 0, none⟩) n n) n (List.replicate n (.slice none 0 0)) → w.grownBy w' none → wpList Try.prog ops Q rest (a.put o.dst (.slice (some ⟨w.heap.size, 0, none⟩) n n)) w') :
    wpList Try.prog ops Q (o :: rest) a w := by
  obtain ⟨i0, hi, hz0, hz1, hz2⟩ := info_parts info_ints
  refine wpList_make_full w hg l c 24 hop w.heap.size 27 i0 (.slice none 0 0) 1 Try.underlying24 hi hz0 hz1 .i64 .i64 n n n hl hc rfl rfl (by rw [hz2]; omega) (by unfold maxLen; omega) (Nat.le_refl _) ?_
  intro w' h1 h2
  refine hK w' ?_ h2
  have e : (madeCells (Value.slice none 0 0).cells (n * 1)).toList = List.replicate n (.slice none 0 0) := by rw [Nat.mul_one]; exact toList_madeCells_one (.slice none 0 0) n
  rw [← e]
  exact h1

abbrev OwII := @OwM Int 27 3 (.int .i64)
abbrev RII := RdL (RV RI)
theorem stab_RVI : Stab (RV RI) := stab_RV stab_RI
theorem bounds2 {w : World} {A : Option Addr} {n : Nat} {xss : List (List Int)} (h : RdL (RV RI) w A n xss) : ∀ xs ∈ xss, ∀ x ∈ xs, RI w (.int .i64 x) x := by
  intro xs hx x hxx
  obtain ⟨k, hk⟩ := List.getElem?_of_mem hx
  obtain ⟨b, o, v, -, -, B, m, c, -, hr⟩ := h.2.2 k xs hk
  exact ⟨rfl, hr.bounds x hxx⟩

end Go.Proofs.Ytlncpabnlnipoaa
