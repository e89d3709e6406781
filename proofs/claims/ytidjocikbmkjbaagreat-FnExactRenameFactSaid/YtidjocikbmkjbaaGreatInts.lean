
/- The harness's functions on []int and [][]int: size, copy, equality. -/
import Derived.Test.YtidjocikbmkjbaaGreatMem
import Derived.Test.YtidjocikbmkjbaaGreatProg
namespace Go.Proofs.YtidjocikbmkjbaaGreat
open Go.RowKit

theorem info_int : (Tryz.prog.info? 3).map (fun i => (i.zero, i.size, i.bytes)) = some (some (.int .i64 0), 1, 8) := by kernel_rfl
theorem info_ints : (Tryz.prog.info? 25).map (fun i => (i.zero, i.size, i.bytes)) = some (some (.slice none 0 0), 1, 24) := by kernel_rfl

def szInts (xs : List Int) (left : Int) : Int := if left - xs.length < 0 then -1 else left - xs.length
set_option maxHeartbeats 400000 in
theorem szIntS_any (A : Option Addr) (n c : Nat) (xs : List Int) (left : Int) (w : World) (h : RdL RI w A n xs) (h0 : -1 ≤ left) (h1 : left ≤ 1048576) :
    Calls Tryz.prog 20 #[.slice A n c, .int .i64 left] w fun e w' => e = .returned (.int .i64 (szInts xs left)) ∧ w = w' := by
  have hle := h.le
  have hl := h.len
  unfold szInts
  rw [hl]
  by_cases h2 : left - n < 0
  · go_enter Tryz.func20, Tryz.ntmps20
    go_wp2
    go_ret
    exact ⟨by first | rfl | rw [if_pos (by omega)], rfl⟩
  · go_enter Tryz.func20, Tryz.ntmps20
    go_wp2
    go_ret
    exact ⟨by first | rfl | rw [if_neg (by omega)], rfl⟩

/-- Two lists of numbers are the same, as the program compares them. -/
def eqL : List Int → List Int → Bool
  | [], [] => true
  | x :: l, y :: m => x == y && eqL l m
  | _, _ => false
theorem eqL_self : ∀ l : List Int, eqL l l = true
  | [] => rfl
  | x :: l => by simp [eqL, eqL_self l]
theorem eqL_iff : ∀ {l m : List Int}, eqL l m = true ↔ l = m
  | [], [] => by simp [eqL]
  | [], _ :: _ => by simp [eqL]
  | _ :: _, [] => by simp [eqL]
  | x :: l, y :: m => by simp [eqL, eqL_iff (l := l) (m := m)]
theorem eqL_len {l m : List Int} (h : l.length ≠ m.length) : false = eqL l m := by
  rcases e : eqL l m with _ | _
  · rfl
  · exact absurd (congrArg List.length (eqL_iff.1 e)) h
def EqAt (xs ys : List Int) (k : Nat) : Prop := eqL (xs.drop k) (ys.drop k) = eqL xs ys
theorem EqAt.step {xs ys : List Int} {k : Nat} {x y : Int} (h : EqAt xs ys k) (h1 : xs.drop k = x :: xs.drop (k + 1)) (h2 : ys.drop k = y :: ys.drop (k + 1)) (he : (x == y) = true) : EqAt xs ys (k + 1) := by
  unfold EqAt at *; rw [← h, h1, h2, eqL, he]; rfl
theorem EqAt.stop {xs ys : List Int} {k : Nat} {x y : Int} (h : EqAt xs ys k) (h1 : xs.drop k = x :: xs.drop (k + 1)) (h2 : ys.drop k = y :: ys.drop (k + 1)) (he : (x == y) = false) : false = eqL xs ys := by
  unfold EqAt at *; rw [← h, h1, h2, eqL, he]; rfl
theorem EqAt.done {xs ys : List Int} {k : Nat} (h : EqAt xs ys k) (h1 : xs.drop k = []) (h2 : ys.drop k = []) : true = eqL xs ys := by
  unfold EqAt at *; rw [← h, h1, h2]; rfl

set_option maxHeartbeats 400000 in
theorem eqIntS_any (A B : Option Addr) (n m c d : Nat) (xs ys : List Int) (w : World) (h : RdL RI w A n xs) (h' : RdL RI w B m ys) :
    Calls Tryz.prog 13 #[.slice A n c, .slice B m d] w (Qt w (.bool (eqL xs ys))) := by
  have hle := h.le
  have hle' := h'.le
  by_cases hnm : n = m
  · subst hnm
    go_enter Tryz.func13, Tryz.ntmps13
    go_wp2
    go_loopw [5] (fun i wr => ∃ k : Nat, k ≤ n ∧ i = .int .i64 k ∧ EqAt xs ys k ∧ Drawn w wr) (fun i _ => n - (intOf i).toNat)
    case atStart => exact ⟨0, Nat.zero_le _, rfl, rfl, Drawn.zero _⟩
    case round =>
      obtain ⟨k, hk, rfl, H, z, rfl⟩ := hrel
      by_cases hlt : k < n
      · obtain ⟨b, o, v, x, rfl, hc, ⟨rfl, -⟩, hd, -⟩ := h.at hlt
        obtain ⟨b', o', v', y, rfl, hc', ⟨rfl, -⟩, hd', -⟩ := h'.at hlt
        have H1 := Lib.hid hd
        have H2 := Lib.hid hd'
        clear hd hd'
        go_wp2
        go_quiet (fail)
        go_wp2
        · go_ret
          exact ⟨ret_bool (H.stop H1.out H2.out (by simpa using ‹(x != y) = true›)), (by first | exact Drawn.zero _ | exact Drawn.at_ _ _ | exact (Drawn.at_ _ _).more _ | exact ((Drawn.at_ _ _).more _).more _)⟩
        all_goals first
          | (go_roundw
             case rel => exact ⟨k + 1, by omega, by go_num, H.step H1.out H2.out (by simpa using ‹(x != y) = false›), (by first | exact Drawn.zero _ | exact Drawn.at_ _ _ | exact (Drawn.at_ _ _).more _ | exact ((Drawn.at_ _ _).more _).more _)⟩
             case measure => simp [intOf]; omega)
      · go_wp2
        go_ret
        exact ⟨ret_bool (H.done (h.drop_end hlt) (h'.drop_end hlt)), (by first | exact Drawn.zero _ | exact Drawn.at_ _ _ | exact (Drawn.at_ _ _).more _ | exact ((Drawn.at_ _ _).more _).more _)⟩
  · have hne : ((n : Int) != (m : Int)) = true := by rw [bne_iff_ne]; omega
    go_enter Tryz.func13, Tryz.ntmps13
    go_wp2
    go_ret
    exact ⟨ret_bool (eqL_len (by rw [h.len, h'.len]; omega)), (by first | exact Drawn.zero _ | exact Drawn.at_ _ _ | exact (Drawn.at_ _ _).more _ | exact ((Drawn.at_ _ _).more _).more _)⟩

theorem make_ints (w : World) {ops : Array Oper} {rest : List Oper} {o : Oper} {a : Act} {Q : Exit → Act → World → Prop} (hg : o.guard = none) (l c : Operand) (hop : o.op = Op.makeSlice 25 l c)
    (n : Nat) (hl : a.eval l = .int .i64 n) (hc : a.eval c = .int .i64 n) (b : n ≤ 17592186044416)
    (hK : ∀ w', w'.ownsRow w.heap.size 3 1 (.slice (some ⟨w.heap.size, 0, none⟩) n n) n (List.replicate n (.int .i64 0)) → w.grownBy w' none → wpList Tryz.prog ops Q rest (a.put o.dst (.slice (some ⟨w.heap.size, 0, none⟩) n n)) w') :
    wpList Tryz.prog ops Q (o :: rest) a w := by
  obtain ⟨i0, hi, hz0, hz1, hz2⟩ := info_parts info_int
  refine wpList_make_full w hg l c 25 hop w.heap.size 3 i0 (.int .i64 0) 1 Tryz.underlying25 hi hz0 hz1 .i64 .i64 n n n hl hc rfl rfl (by rw [hz2]; omega) (by unfold maxLen; omega) (Nat.le_refl _) ?_
  intro w' h1 h2
  refine hK w' ?_ h2
  have e : (madeCells (Value.int .i64 0).cells (n * 1)).toList = List.replicate n (.int .i64 0) := by rw [Nat.mul_one]; exact toList_madeCells_one (.int .i64 0) n
  rw [← e]
  exact h1

def ints (xs : List Int) : List Value := xs.map (.int .i64)
theorem ints_get {xs : List Int} (hx : ∀ x ∈ xs, -9223372036854775808 ≤ x ∧ x ≤ 9223372036854775807) (w : World) (k : Nat) (x : Int) (hk : xs[k]? = some x) : ∃ u, (ints xs)[k]? = some u ∧ RI w u x := by
  refine ⟨.int .i64 x, by simp [ints, hk], rfl, hx x (List.mem_of_getElem? hk)⟩
theorem RdL.bounds {w : World} {A : Option Addr} {n : Nat} {xs : List Int} (h : RdL RI w A n xs) : ∀ x ∈ xs, -9223372036854775808 ≤ x ∧ x ≤ 9223372036854775807 := by
  intro x hx
  obtain ⟨k, hk⟩ := List.getElem?_of_mem hx
  obtain ⟨b, o, v, -, -, hr⟩ := h.2.2 k x hk
  exact hr.2

set_option maxHeartbeats 400000 in
theorem toIntS_any (A : Option Addr) (n c : Nat) (xs : List Int) (w : World) (h : RdL RI w A n xs) (hn : n ≤ 1048576) :
    Calls Tryz.prog 9 #[.slice A n c] w fun e w' => ∃ g, e = .returned (.slice (some ⟨g, 0, none⟩) n n) ∧ w.heap.size ≤ g ∧ w'.ownsRow w.heap.size 3 1 (.slice (some ⟨g, 0, none⟩) n n) n (ints xs) ∧ Below w.heap.size w w' := by
  go_enter Tryz.func9, Tryz.ntmps9
  go_wp2_with (at_make; refine make_ints _ rfl _ _ rfl n rfl rfl (by omega) ?_; intro w1 hown hg1)
  have hT := (Below.refl w.heap.size w).grown hg1 (Nat.le_refl _) (by simp)
  clear hg1
  have hbd := h.bounds
  have hBD := Lib.hid hbd
  have hlen : Hid ((ints xs).length = n) := by have := h.len; simp [Hid, ints, this]
  clear hbd
  go_loopw [4] (fun i wr => ∃ k : Nat, k ≤ n ∧ i = .int .i64 k ∧ wr.ownsRow w.heap.size 3 1 (.slice (some ⟨w.heap.size, 0, none⟩) n n) n (fillTo (ints xs) (.int .i64 0) n k) ∧ Below w.heap.size w wr) (fun i _ => n - (intOf i).toNat)
  case atStart => exact ⟨0, Nat.zero_le _, rfl, by rw [fillTo_zero]; exact hown, hT⟩
  case round =>
    clear hown hT
    obtain ⟨k, hk, rfl, hown, hT⟩ := hrel
    replace h := h.next stab_RI hT
    by_cases hlt : k < n
    · obtain ⟨b, o, v, x, rfl, hc, ⟨rfl, -⟩, -, hx⟩ := h.at hlt
      have hxk : Hid ((ints xs)[k]? = some (.int .i64 x)) := by simp [Hid, ints, hx]
      clear hx
      have hcell : wr.cell? ⟨w.heap.size, k, none⟩ = some (.int .i64 0) := (hown.cellAt k (by omega)).trans (fillTo_get hlen.out hlt)
      have hfz : wr.frozen? ⟨w.heap.size, k, none⟩ = false := hown.frozenAt k
      have hst := (hown.stored k (.int .i64 x)).1
      rw [fillTo_set hlen.out hlt hxk.out] at hst
      go_wp2
      go_roundw
      case rel => exact ⟨k + 1, by omega, by go_num, hst, hT.setCell (Nat.le_refl _) _⟩
      case measure => simp [intOf]; omega
    · rw [fillTo_all _ hlen.out hlt] at hown
      go_wp2
      go_ret
      exact ⟨_, rfl, Nat.le_refl _, hown, hT⟩

theorem RI_ints {xs : List Int} {w : World} (h : ∀ x ∈ xs, -9223372036854775808 ≤ x ∧ x ≤ 9223372036854775807) : ∀ x ∈ xs, RI w (.int .i64 x) x := fun x hx => ⟨rfl, h x hx⟩

/-! ## [][]int -/
/-- What szIntSS answers: left less the outer length and the inner ones, or -1 as soon as it is below 0. -/
def szRows : List (List Int) → Int → Int
  | [], left => left
  | xs :: l, left => if szInts xs left < 0 then -1 else szRows l (szInts xs left)
def szIntss (xss : List (List Int)) (left : Int) : Int := if left - xss.length < 0 then -1 else szRows xss (left - xss.length)
theorem szInts_le (xs : List Int) (left : Int) (h : 0 ≤ left) : -1 ≤ szInts xs left ∧ szInts xs left ≤ left := by unfold szInts; split <;> omega
def SzAt (xss : List (List Int)) (l0 left : Int) (k : Nat) : Prop := szRows (xss.drop k) left = szRows xss l0
theorem SzAt.step {xss : List (List Int)} {l0 left : Int} {k : Nat} {xs : List Int} (h : SzAt xss l0 left k) (h1 : xss.drop k = xs :: xss.drop (k + 1)) (h2 : ¬ szInts xs left < 0) : SzAt xss l0 (szInts xs left) (k + 1) := by
  unfold SzAt at *; rw [← h, h1, szRows, if_neg h2]
theorem SzAt.stop {xss : List (List Int)} {l0 left : Int} {k : Nat} {xs : List Int} (h : SzAt xss l0 left k) (h1 : xss.drop k = xs :: xss.drop (k + 1)) (h2 : szInts xs left < 0) : -1 = szRows xss l0 := by
  unfold SzAt at *; rw [← h, h1, szRows, if_pos h2]
theorem SzAt.done {xss : List (List Int)} {l0 left : Int} {k : Nat} (h : SzAt xss l0 left k) (h1 : xss.drop k = []) : left = szRows xss l0 := by
  unfold SzAt at *; rw [← h, h1]; rfl


def eqLL : List (List Int) → List (List Int) → Bool
  | [], [] => true
  | x :: l, y :: m => eqL x y && eqLL l m
  | _, _ => false
theorem eqLL_iff : ∀ {l m : List (List Int)}, eqLL l m = true ↔ l = m
  | [], [] => by simp [eqLL]
  | [], _ :: _ => by simp [eqLL]
  | _ :: _, [] => by simp [eqLL]
  | x :: l, y :: m => by simp [eqLL, eqLL_iff (l := l) (m := m), eqL_iff]
theorem eqLL_self (l : List (List Int)) : eqLL l l = true := eqLL_iff.2 rfl
theorem eqLL_len {l m : List (List Int)} (h : l.length ≠ m.length) : false = eqLL l m := by
  rcases e : eqLL l m with _ | _
  · rfl
  · exact absurd (congrArg List.length (eqLL_iff.1 e)) h
def EqqAt (xs ys : List (List Int)) (k : Nat) : Prop := eqLL (xs.drop k) (ys.drop k) = eqLL xs ys
theorem EqqAt.step {xs ys : List (List Int)} {k : Nat} {x y : List Int} (h : EqqAt xs ys k) (h1 : xs.drop k = x :: xs.drop (k + 1)) (h2 : ys.drop k = y :: ys.drop (k + 1)) (he : eqL x y = true) : EqqAt xs ys (k + 1) := by
  unfold EqqAt at *; rw [← h, h1, h2, eqLL, he]; rfl
theorem EqqAt.stop {xs ys : List (List Int)} {k : Nat} {x y : List Int} (h : EqqAt xs ys k) (h1 : xs.drop k = x :: xs.drop (k + 1)) (h2 : ys.drop k = y :: ys.drop (k + 1)) (he : eqL x y = false) : false = eqLL xs ys := by
  unfold EqqAt at *; rw [← h, h1, h2, eqLL, he]; rfl
theorem EqqAt.done {xs ys : List (List Int)} {k : Nat} (h : EqqAt xs ys k) (h1 : xs.drop k = []) (h2 : ys.drop k = []) : true = eqLL xs ys := by
  unfold EqqAt at *; rw [← h, h1, h2]; rfl


theorem make_intss (w : World) {ops : Array Oper} {rest : List Oper} {o : Oper} {a : Act} {Q : Exit → Act → World → Prop} (hg : o.guard = none) (l c : Operand) (hop : o.op = Op.makeSlice 106 l c)
    (n : Nat) (hl : a.eval l = .int .i64 n) (hc : a.eval c = .int .i64 n) (b : n ≤ 1048576)
    (hK : ∀ w', w'.ownsRow w.heap.size 25 1 (.slice (some ⟨w.heap.size, 0, none⟩) n n) n (List.replicate n (.slice none 0 0)) → w.grownBy w' none → wpList Tryz.prog ops Q rest (a.put o.dst (.slice (some ⟨w.heap.size, 0, none⟩) n n)) w') :
    wpList Tryz.prog ops Q (o :: rest) a w := by
  obtain ⟨i0, hi, hz0, hz1, hz2⟩ := info_parts info_ints
  refine wpList_make_full w hg l c 106 hop w.heap.size 25 i0 (.slice none 0 0) 1 Tryz.underlying106 hi hz0 hz1 .i64 .i64 n n n hl hc rfl rfl (by rw [hz2]; omega) (by unfold maxLen; omega) (Nat.le_refl _) ?_
  intro w' h1 h2
  refine hK w' ?_ h2
  have e : (madeCells (Value.slice none 0 0).cells (n * 1)).toList = List.replicate n (.slice none 0 0) := by rw [Nat.mul_one]; exact toList_madeCells_one (.slice none 0 0) n
  rw [← e]
  exact h1

abbrev OwII := @OwM Int 25 3 (.int .i64)
abbrev RII := RdL (RV RI)
theorem stab_RVI : Stab (RV RI) := stab_RV stab_RI
theorem bounds2 {w : World} {A : Option Addr} {n : Nat} {xss : List (List Int)} (h : RdL (RV RI) w A n xss) : ∀ xs ∈ xss, ∀ x ∈ xs, RI w (.int .i64 x) x := by
  intro xs hx x hxx
  obtain ⟨k, hk⟩ := List.getElem?_of_mem hx
  obtain ⟨b, o, v, -, -, B, m, c, -, hr⟩ := h.2.2 k xs hk
  exact ⟨rfl, hr.bounds x hxx⟩

end Go.Proofs.YtidjocikbmkjbaaGreat
