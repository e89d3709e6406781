
/- The harness's functions on []bool and [][]bool: size, copy, equality, marks. Printed by genbools.py. -/
import Derived.Test.YtbpdbimdefdefaaMark
namespace Go.Proofs.Ytbpdbimdefdefaa
open Go.RowKit

theorem info_bool : (Try.prog.info? 4).map (fun i => (i.zero, i.size, i.bytes)) = some (some (.bool false), 1, 1) := by kernel_rfl
theorem info_bools : (Try.prog.info? 86).map (fun i => (i.zero, i.size, i.bytes)) = some (some (.slice none 0 0), 1, 24) := by kernel_rfl

def szBls (xs : List Bool) (left : Int) : Int := if left - xs.length < 0 then -1 else left - xs.length
set_option maxHeartbeats 400000 in
theorem szBoolS_any (A : Option Addr) (n c : Nat) (xs : List Bool) (left : Int) (w : World) (h : RdL RB w A n xs) (h0 : -1 ≤ left) (h1 : left ≤ 1048576) :
    Calls Try.prog 73 #[.slice A n c, .int .i64 left] w fun e w' => e = .returned (.int .i64 (szBls xs left)) ∧ w = w' := by
  have hle := h.le
  have hl := h.len
  unfold szBls
  rw [hl]
  by_cases h2 : left - n < 0
  · go_enter Try.func73, Try.ntmps73
    go_wp2
    go_ret
    exact ⟨by first | rfl | rw [if_pos (by omega)], rfl⟩
  · go_enter Try.func73, Try.ntmps73
    go_wp2
    go_ret
    exact ⟨by first | rfl | rw [if_neg (by omega)], rfl⟩

/-- Two lists of numbers are the same, as the program compares them. -/
def eqBL : List Bool → List Bool → Bool
  | [], [] => true
  | x :: l, y :: m => x == y && eqBL l m
  | _, _ => false
theorem eqBL_self : ∀ l : List Bool, eqBL l l = true
  | [] => rfl
  | x :: l => by simp [eqBL, eqBL_self l]
theorem eqBL_iff : ∀ {l m : List Bool}, eqBL l m = true ↔ l = m
  | [], [] => by simp [eqBL]
  | [], _ :: _ => by simp [eqBL]
  | _ :: _, [] => by simp [eqBL]
  | x :: l, y :: m => by simp [eqBL, eqBL_iff (l := l) (m := m)]
theorem eqBL_len {l m : List Bool} (h : l.length ≠ m.length) : false = eqBL l m := by
  rcases e : eqBL l m with _ | _
  · rfl
  · exact absurd (congrArg List.length (eqBL_iff.1 e)) h
def EqBAt (xs ys : List Bool) (k : Nat) : Prop := eqBL (xs.drop k) (ys.drop k) = eqBL xs ys
theorem EqBAt.step {xs ys : List Bool} {k : Nat} {x y : Bool} (h : EqBAt xs ys k) (h1 : xs.drop k = x :: xs.drop (k + 1)) (h2 : ys.drop k = y :: ys.drop (k + 1)) (he : (x == y) = true) : EqBAt xs ys (k + 1) := by
  unfold EqBAt at *; rw [← h, h1, h2, eqBL, he]; rfl
theorem EqBAt.stop {xs ys : List Bool} {k : Nat} {x y : Bool} (h : EqBAt xs ys k) (h1 : xs.drop k = x :: xs.drop (k + 1)) (h2 : ys.drop k = y :: ys.drop (k + 1)) (he : (x == y) = false) : false = eqBL xs ys := by
  unfold EqBAt at *; rw [← h, h1, h2, eqBL, he]; rfl
theorem EqBAt.done {xs ys : List Bool} {k : Nat} (h : EqBAt xs ys k) (h1 : xs.drop k = []) (h2 : ys.drop k = []) : true = eqBL xs ys := by
  unfold EqBAt at *; rw [← h, h1, h2]; rfl

set_option maxHeartbeats 400000 in
theorem eqBoolS_any (A B : Option Addr) (n m c d : Nat) (xs ys : List Bool) (w : World) (h : RdL RB w A n xs) (h' : RdL RB w B m ys) :
    Calls Try.prog 83 #[.slice A n c, .slice B m d] w (Qt w (.bool (eqBL xs ys))) := by
  have hle := h.le
  have hle' := h'.le
  by_cases hnm : n = m
  · subst hnm
    go_enter Try.func83, Try.ntmps83
    go_wp2
    go_loopw [5] (fun i wr => ∃ k : Nat, k ≤ n ∧ i = .int .i64 k ∧ EqBAt xs ys k ∧ Drawn w wr) (fun i _ => n - (intOf i).toNat)
    case atStart => exact ⟨0, Nat.zero_le _, rfl, rfl, Drawn.zero _⟩
    case round =>
      obtain ⟨k, hk, rfl, H, z, rfl⟩ := hrel
      by_cases hlt : k < n
      · obtain ⟨b, o, v, x, rfl, hc, rfl, hd, -⟩ := h.at hlt
        obtain ⟨b', o', v', y, rfl, hc', rfl, hd', -⟩ := h'.at hlt
        have H1 := Lib.hid hd
        have H2 := Lib.hid hd'
        clear hd hd'
        go_wp2
        go_quiet (fail)
        go_wp2
        · go_ret
          exact ⟨ret_bool (H.stop H1.out H2.out (by simpa using ‹(x != y) = true›)), (by first | exact Drawn.zero _ | exact Drawn.at_ _ _ | exact (Drawn.at_ _ _).more _ | exact ((Drawn.at_ _ _).more _).more _)⟩
        all_goals first
          | (go_roundw
             case rel => exact ⟨k + 1, by omega, by go_num, H.step H1.out H2.out (by simpa using ‹(x != y) = false›), (by first | exact Drawn.zero _ | exact Drawn.at_ _ _ | exact (Drawn.at_ _ _).more _ | exact ((Drawn.at_ _ _).more _).more _)⟩
             case measure => simp [intOf]; omega)
      · go_wp2
        go_ret
        exact ⟨ret_bool (H.done (h.drop_end hlt) (h'.drop_end hlt)), (by first | exact Drawn.zero _ | exact Drawn.at_ _ _ | exact (Drawn.at_ _ _).more _ | exact ((Drawn.at_ _ _).more _).more _)⟩
  · have hne : ((n : Int) != (m : Int)) = true := by rw [bne_iff_ne]; omega
    go_enter Try.func83, Try.ntmps83
    go_wp2
    go_ret
    exact ⟨ret_bool (eqBL_len (by rw [h.len, h'.len]; omega)), (by first | exact Drawn.zero _ | exact Drawn.at_ _ _ | exact (Drawn.at_ _ _).more _ | exact ((Drawn.at_ _ _).more _).more _)⟩

theorem make_bools (w : World) {ops : Array Oper} {rest : List Oper} {o : Oper} {a : Act} {Q : Exit → Act → World → Prop} (hg : o.guard = none) (l c : Operand) (hop : o.op = Op.makeSlice 86 l c)
    (n : Nat) (hl : a.eval l = .int .i64 n) (hc : a.eval c = .int .i64 n) (b : n ≤ 1048576)
    (hK : ∀ w', w'.ownsRow w.heap.size 4 1 (.slice (some ⟨w.heap.size, 0, none⟩) n n) n (List.replicate n (.bool false)) → w.grownBy w' none → wpList Try.prog ops Q rest (a.put o.dst (.slice (some ⟨w.heap.size, 0, none⟩) n n)) w') :
    wpList Try.prog ops Q (o :: rest) a w := by
  obtain ⟨i0, hi, hz0, hz1, hz2⟩ := info_parts info_bool
  refine wpList_make_full w hg l c 86 hop w.heap.size 4 i0 (.bool false) 1 Try.underlying86 hi hz0 hz1 .i64 .i64 n n n hl hc rfl rfl (by rw [hz2]; omega) (by unfold maxLen; omega) (Nat.le_refl _) ?_
  intro w' h1 h2
  refine hK w' ?_ h2
  have e : (madeCells (Value.bool false).cells (n * 1)).toList = List.replicate n (.bool false) := by rw [Nat.mul_one]; exact toList_madeCells_one (.bool false) n
  rw [← e]
  exact h1

def bls (xs : List Bool) : List Value := xs.map (.bool)
set_option maxHeartbeats 400000 in
theorem toBoolS_any (A : Option Addr) (n c : Nat) (xs : List Bool) (w : World) (h : RdL RB w A n xs) (hn : n ≤ 1048576) :
    Calls Try.prog 79 #[.slice A n c] w fun e w' => ∃ g, e = .returned (.slice (some ⟨g, 0, none⟩) n n) ∧ w.heap.size ≤ g ∧ w'.ownsRow w.heap.size 4 1 (.slice (some ⟨g, 0, none⟩) n n) n (bls xs) ∧ Below w.heap.size w w' := by
  go_enter Try.func79, Try.ntmps79
  go_wp2_with (at_make; refine make_bools _ rfl _ _ rfl n rfl rfl (by omega) ?_; intro w1 hown hg1)
  have hT := (Below.refl w.heap.size w).grown hg1 (Nat.le_refl _) (by simp)
  clear hg1
  have hlen : Hid ((bls xs).length = n) := by have := h.len; simp [Hid, bls, this]
  go_loopw [4] (fun i wr => ∃ k : Nat, k ≤ n ∧ i = .int .i64 k ∧ wr.ownsRow w.heap.size 4 1 (.slice (some ⟨w.heap.size, 0, none⟩) n n) n (fillTo (bls xs) (.bool false) n k) ∧ Below w.heap.size w wr) (fun i _ => n - (intOf i).toNat)
  case atStart => exact ⟨0, Nat.zero_le _, rfl, by rw [fillTo_zero]; exact hown, hT⟩
  case round =>
    clear hown hT
    obtain ⟨k, hk, rfl, hown, hT⟩ := hrel
    replace h := h.next stab_RB hT
    by_cases hlt : k < n
    · obtain ⟨b, o, v, x, rfl, hc, rfl, -, hx⟩ := h.at hlt
      have hxk : Hid ((bls xs)[k]? = some (.bool x)) := by simp [Hid, bls, hx]
      clear hx
      have hcell : wr.cell? ⟨w.heap.size, k, none⟩ = some (.bool false) := (hown.cellAt k (by omega)).trans (fillTo_get hlen.out hlt)
      have hfz : wr.frozen? ⟨w.heap.size, k, none⟩ = false := hown.frozenAt k
      have hst := (hown.stored k (.bool x)).1
      rw [fillTo_set hlen.out hlt hxk.out] at hst
      go_wp2
      go_roundw
      case rel => exact ⟨k + 1, by omega, by go_num, hst, hT.setCell (Nat.le_refl _) _⟩
      case measure => simp [intOf]; omega
    · rw [fillTo_all _ hlen.out hlt] at hown
      go_wp2
      go_ret
      exact ⟨_, rfl, Nat.le_refl _, hown, hT⟩

theorem RB_bls {xs : List Bool} {w : World} : ∀ x ∈ xs, RB w (.bool x) x := fun _ _ => rfl

/-! ## [][]int -/
/-- What szIntSS answers: left less the outer length and the inner ones, or -1 as soon as it is below 0. -/
def szBRows : List (List Bool) → Int → Int
  | [], left => left
  | xs :: l, left => if szBls xs left < 0 then -1 else szBRows l (szBls xs left)
def szBlss (xss : List (List Bool)) (left : Int) : Int := if left - xss.length < 0 then -1 else szBRows xss (left - xss.length)
theorem szBls_le (xs : List Bool) (left : Int) (h : 0 ≤ left) : -1 ≤ szBls xs left ∧ szBls xs left ≤ left := by unfold szBls; split <;> omega
def SzBAt (xss : List (List Bool)) (l0 left : Int) (k : Nat) : Prop := szBRows (xss.drop k) left = szBRows xss l0
theorem SzBAt.step {xss : List (List Bool)} {l0 left : Int} {k : Nat} {xs : List Bool} (h : SzBAt xss l0 left k) (h1 : xss.drop k = xs :: xss.drop (k + 1)) (h2 : ¬ szBls xs left < 0) : SzBAt xss l0 (szBls xs left) (k + 1) := by
  unfold SzBAt at *; rw [← h, h1, szBRows, if_neg h2]
theorem SzBAt.stop {xss : List (List Bool)} {l0 left : Int} {k : Nat} {xs : List Bool} (h : SzBAt xss l0 left k) (h1 : xss.drop k = xs :: xss.drop (k + 1)) (h2 : szBls xs left < 0) : -1 = szBRows xss l0 := by
  unfold SzBAt at *; rw [← h, h1, szBRows, if_pos h2]
theorem SzBAt.done {xss : List (List Bool)} {l0 left : Int} {k : Nat} (h : SzBAt xss l0 left k) (h1 : xss.drop k = []) : left = szBRows xss l0 := by
  unfold SzBAt at *; rw [← h, h1]; rfl

set_option maxHeartbeats 400000 in
theorem szBoolSS_any (A : Option Addr) (n c : Nat) (xss : List (List Bool)) (left : Int) (w : World) (h : RdL (RV RB) w A n xss) (h0 : 0 ≤ left) (h1 : left ≤ 1048576) :
    Calls Try.prog 31 #[.slice A n c, .int .i64 left] w fun e w' => e = .returned (.int .i64 (szBlss xss left)) ∧ w = w' := by
  have hle := h.le
  have hl := Lib.hid h.len
  by_cases h2 : left - n < 0
  · go_enter Try.func31, Try.ntmps31
    go_wp2
    go_ret
    exact ⟨ret_int (by unfold szBlss; rw [hl.out, if_pos h2]), rfl⟩
  · go_enter Try.func31, Try.ntmps31
    go_wp2
    go_loop [1, 5] (fun l i => ∃ (k : Nat) (left' : Int), k ≤ n ∧ i = .int .i64 k ∧ l = .int .i64 left' ∧ 0 ≤ left' ∧ left' ≤ 1048576 ∧ SzBAt xss (left - n) left' k) (fun _ i => n - (intOf i).toNat)
    case atStart => exact ⟨0, _, Nat.zero_le _, rfl, rfl, by omega, by omega, rfl⟩
    case round =>
      obtain ⟨k, left', hk, rfl, rfl, hl0, hl1, H⟩ := hrel
      by_cases hlt : k < n
      · obtain ⟨b, o, v, xs, rfl, hc, ⟨B, m, d, rfl, hr⟩, hd, -⟩ := h.at hlt
        have H1 := Lib.hid hd
        clear hd
        have hb := szBls_le xs left' hl0
        go_wp2_with (go_at_call 73; refine (szBoolS_any _ _ _ _ _ _ hr (by omega) (by omega)).mono ?_; rintro e w' ⟨rfl, rfl⟩)
        all_goals first
          | (go_ret
             exact ⟨ret_int (by unfold szBlss; rw [hl.out, if_neg (by omega)]; exact H.stop H1.out (by omega)), rfl⟩)
          | (have hnn : ¬ szBls xs left' < 0 := by omega
             go_round
             case rel => exact ⟨k + 1, _, by omega, by go_num, rfl, by omega, by omega, H.step H1.out hnn⟩
             case measure => simp [intOf]; omega)
      · go_wp2
        go_ret
        exact ⟨ret_int (by unfold szBlss; rw [hl.out, if_neg (by omega)]; exact H.done (h.drop_end hlt)), rfl⟩

def eqBLL : List (List Bool) → List (List Bool) → Bool
  | [], [] => true
  | x :: l, y :: m => eqBL x y && eqBLL l m
  | _, _ => false
theorem eqBLL_iff : ∀ {l m : List (List Bool)}, eqBLL l m = true ↔ l = m
  | [], [] => by simp [eqBLL]
  | [], _ :: _ => by simp [eqBLL]
  | _ :: _, [] => by simp [eqBLL]
  | x :: l, y :: m => by simp [eqBLL, eqBLL_iff (l := l) (m := m), eqBL_iff]
theorem eqBLL_self (l : List (List Bool)) : eqBLL l l = true := eqBLL_iff.2 rfl
theorem eqBLL_len {l m : List (List Bool)} (h : l.length ≠ m.length) : false = eqBLL l m := by
  rcases e : eqBLL l m with _ | _
  · rfl
  · exact absurd (congrArg List.length (eqBLL_iff.1 e)) h
def EqqBAt (xs ys : List (List Bool)) (k : Nat) : Prop := eqBLL (xs.drop k) (ys.drop k) = eqBLL xs ys
theorem EqqBAt.step {xs ys : List (List Bool)} {k : Nat} {x y : List Bool} (h : EqqBAt xs ys k) (h1 : xs.drop k = x :: xs.drop (k + 1)) (h2 : ys.drop k = y :: ys.drop (k + 1)) (he : eqBL x y = true) : EqqBAt xs ys (k + 1) := by
  unfold EqqBAt at *; rw [← h, h1, h2, eqBLL, he]; rfl
theorem EqqBAt.stop {xs ys : List (List Bool)} {k : Nat} {x y : List Bool} (h : EqqBAt xs ys k) (h1 : xs.drop k = x :: xs.drop (k + 1)) (h2 : ys.drop k = y :: ys.drop (k + 1)) (he : eqBL x y = false) : false = eqBLL xs ys := by
  unfold EqqBAt at *; rw [← h, h1, h2, eqBLL, he]; rfl
theorem EqqBAt.done {xs ys : List (List Bool)} {k : Nat} (h : EqqBAt xs ys k) (h1 : xs.drop k = []) (h2 : ys.drop k = []) : true = eqBLL xs ys := by
  unfold EqqBAt at *; rw [← h, h1, h2]; rfl

set_option maxHeartbeats 400000 in
theorem eqBoolSS_any (A B : Option Addr) (n m c d : Nat) (xs ys : List (List Bool)) (w : World) (h : RdL (RV RB) w A n xs) (h' : RdL (RV RB) w B m ys) :
    Calls Try.prog 35 #[.slice A n c, .slice B m d] w (Qt w (.bool (eqBLL xs ys))) := by
  have hle := h.le
  have hle' := h'.le
  by_cases hnm : n = m
  · subst hnm
    go_enter Try.func35, Try.ntmps35
    go_wp2
    go_loopw [5] (fun i wr => ∃ k : Nat, k ≤ n ∧ i = .int .i64 k ∧ EqqBAt xs ys k ∧ Drawn w wr) (fun i _ => n - (intOf i).toNat)
    case atStart => exact ⟨0, Nat.zero_le _, rfl, rfl, Drawn.zero _⟩
    case round =>
      obtain ⟨k, hk, rfl, H, z, rfl⟩ := hrel
      by_cases hlt : k < n
      · obtain ⟨b, o, v, x, rfl, hc, ⟨P, p, q, rfl, hx⟩, hd, -⟩ := h.at hlt
        obtain ⟨b', o', v', y, rfl, hc', ⟨P', p', q', rfl, hy⟩, hd', -⟩ := h'.at hlt
        have H1 := Lib.hid hd
        have H2 := Lib.hid hd'
        clear hd hd'
        go_wp2
        go_quiet ((go_at_call 83; exact quiet_add (eqBoolS_any _ _ _ _ _ _ _ _ _ (hx.drewN stab_RB _) (hy.drewN stab_RB _))))
        go_wp2
        all_goals first
          | (go_ret
             exact ⟨ret_bool (H.stop H1.out H2.out (by simpa using ‹(!eqBL x y) = true›)), (by first | exact Drawn.zero _ | exact Drawn.at_ _ _ | exact (Drawn.at_ _ _).more _ | exact ((Drawn.at_ _ _).more _).more _)⟩)
          | (go_roundw
             case rel => exact ⟨k + 1, by omega, by go_num, H.step H1.out H2.out (by simpa using ‹(!eqBL x y) = false›), (by first | exact Drawn.zero _ | exact Drawn.at_ _ _ | exact (Drawn.at_ _ _).more _ | exact ((Drawn.at_ _ _).more _).more _)⟩
             case measure => simp [intOf]; omega)
      · go_wp2
        go_ret
        exact ⟨ret_bool (H.done (h.drop_end hlt) (h'.drop_end hlt)), (by first | exact Drawn.zero _ | exact Drawn.at_ _ _ | exact (Drawn.at_ _ _).more _ | exact ((Drawn.at_ _ _).more _).more _)⟩
  · have hne : ((n : Int) != (m : Int)) = true := by rw [bne_iff_ne]; omega
    go_enter Try.func35, Try.ntmps35
    go_wp2
    go_ret
    exact ⟨ret_bool (eqBLL_len (by rw [h.len, h'.len]; omega)), (by first | exact Drawn.zero _ | exact Drawn.at_ _ _ | exact (Drawn.at_ _ _).more _ | exact ((Drawn.at_ _ _).more _).more _)⟩

theorem make_boolss (w : World) {ops : Array Oper} {rest : List Oper} {o : Oper} {a : Act} {Q : Exit → Act → World → Prop} (hg : o.guard = none) (l c : Operand) (hop : o.op = Op.makeSlice 52 l c)
    (n : Nat) (hl : a.eval l = .int .i64 n) (hc : a.eval c = .int .i64 n) (b : n ≤ 1048576)
    (hK : ∀ w', w'.ownsRow w.heap.size 86 1 (.slice (some ⟨w.heap.size, 0, none⟩) n n) n (List.replicate n (.slice none 0 0)) → w.grownBy w' none → wpList Try.prog ops Q rest (a.put o.dst (.slice (some ⟨w.heap.size, 0, none⟩) n n)) w') :
    wpList Try.prog ops Q (o :: rest) a w := by
  obtain ⟨i0, hi, hz0, hz1, hz2⟩ := info_parts info_bools
  refine wpList_make_full w hg l c 52 hop w.heap.size 86 i0 (.slice none 0 0) 1 Try.underlying52 hi hz0 hz1 .i64 .i64 n n n hl hc rfl rfl (by rw [hz2]; omega) (by unfold maxLen; omega) (Nat.le_refl _) ?_
  intro w' h1 h2
  refine hK w' ?_ h2
  have e : (madeCells (Value.slice none 0 0).cells (n * 1)).toList = List.replicate n (.slice none 0 0) := by rw [Nat.mul_one]; exact toList_madeCells_one (.slice none 0 0) n
  rw [← e]
  exact h1

abbrev OwBB := @OwM Bool 86 4 (.bool)
abbrev RBB := RdL (RV RB)
theorem stab_RVB : Stab (RV RB) := stab_RV stab_RB
set_option maxHeartbeats 400000 in
theorem toBoolSS_any (A : Option Addr) (n c : Nat) (xss : List (List Bool)) (w : World) (h : RdL (RV RB) w A n xss) (hn : n ≤ 1048576) (hn2 : ∀ xs ∈ xss, xs.length ≤ 1048576) :
    Calls Try.prog 33 #[.slice A n c] w fun e w' => ∃ g, e = .returned (.slice (some ⟨g, 0, none⟩) n n) ∧ OwBB w.heap.size w' (.slice (some ⟨g, 0, none⟩) n n) n xss ∧ Below w.heap.size w w' := by
  go_enter Try.func33, Try.ntmps33
  go_wp2_with (at_make; refine make_boolss _ rfl _ _ rfl n rfl rfl (by omega) ?_; intro w1 hown hg1)
  have hT := (Below.refl w.heap.size w).grown hg1 (Nat.le_refl _) (by simp)
  clear hg1
  have hlen := Lib.hid h.len
  go_loopw [4] (fun i wr => ∃ k : Nat, k ≤ n ∧ i = .int .i64 k ∧ FillM 86 4 (.bool) w.heap.size w.heap.size n wr xss k ∧ Below w.heap.size w wr) (fun i _ => n - (intOf i).toNat)
  case atStart => exact ⟨0, Nat.zero_le _, rfl, FillM.start hown, hT⟩
  case round =>
    clear hown hT
    obtain ⟨k, hk, rfl, hown, hT⟩ := hrel
    replace h := h.next stab_RVB hT
    by_cases hlt : k < n
    · obtain ⟨b, o, v, xs, rfl, hc, ⟨B, m, d, rfl, hr⟩, -, hx⟩ := h.at hlt
      have hX := Lib.hid hx
      have hml := hr.len
      have hm : m ≤ 1048576 := by rw [← hml]; exact hn2 xs (List.mem_of_getElem? hx)
      clear hx
      have HM := Lib.hid hml
      clear hml
      go_wp2_with fail
      refine (toBoolS_any _ _ _ _ _ hr hm).mono ?_
      rintro e w2 ⟨g, rfl, hgl, how, hb1⟩
      have hT2 := below_next hT hb1 rfl
      have hown2 := hown.next hb1
      have hcell := hown2.cell hlt
      have hfz := hown2.frozen
      have hlo : w.heap.size ≤ wr.heap.size := hT.size
      have hst := FillM.set_ (by decide) hown hb1 hlt hX.out (by rw [HM.out]; exact how) hlo
      clear hown hown2 how
      go_wp2
      go_roundw
      case rel => exact ⟨k + 1, by omega, by go_num, hst, hT2.setCell (Nat.le_refl _) _⟩
      case measure => simp [intOf]; omega
    · have hd := hown.done hlen.out hk hlt
      go_wp2
      go_ret
      exact ⟨_, rfl, hd, hT⟩
/-! ## Marks -/
/-- The marks k, k + 1, ..: whether each is divided by 3. -/
def tks (k : Int) : Nat → List Bool
  | 0 => []
  | n + 1 => (k % 3 == 0) :: tks (k + 1) n
theorem tks_len : ∀ (n : Nat) (k : Int), (tks k n).length = n
  | 0, _ => rfl
  | n + 1, k => by simp [tks, tks_len n]
theorem tks_get : ∀ (n : Nat) (k : Int) (j : Nat), j < n → (tks k n)[j]? = some ((k + j) % 3 == 0)
  | 0, _, j, h => absurd h (by omega)
  | n + 1, k, 0, _ => by simp [tks]
  | n + 1, k, j + 1, h => by
    rw [tks, List.getElem?_cons_succ, tks_get n (k + 1) j (by omega)]
    congr 3
    omega
def markBTo (k : Int) (xs : List Bool) (j : Nat) : List Bool := (tks k xs.length).take j ++ xs.drop j
theorem markBTo_set {k : Int} {xs : List Bool} {j : Nat} (h : j < xs.length) : (bls (markBTo k xs j)).set j (.bool ((k + j) % 3 == 0)) = bls (markBTo k xs (j + 1)) := by
  have l1 : ((tks k xs.length).take j).length = j := by rw [List.length_take, tks_len]; omega
  unfold bls
  rw [← List.map_set]
  unfold markBTo
  rw [List.set_append_right _ _ (by omega), l1, Nat.sub_self, List.drop_eq_getElem_cons h, List.set_cons_zero, List.take_add_one, tks_get _ _ _ h]
  simp
def tkss (k : Int) : List (List Bool) → List (List Bool)
  | [] => []
  | xs :: l => tks k xs.length :: tkss (k + xs.length) l
def totalB : List (List Bool) → Nat
  | [] => 0
  | xs :: l => xs.length + totalB l

set_option maxHeartbeats 400000 in
theorem markBoolS_any (A : Option Addr) (n c : Nat) (xs : List Bool) (k : Int) (lo : Nat) (w : World) (h : w.ownsRow lo 4 1 (.slice A n c) n (bls xs)) (h0 : 0 ≤ k) (h1 : k + n ≤ 4611686018427387904) :
    Calls Try.prog 84 #[.slice A n c, .int .i64 k] w fun e w' => e = .returned (.int .i64 (k + n)) ∧ w'.ownsRow lo 4 1 (.slice A n c) n (bls (tks k n)) ∧ w.grownBy w' (Value.slice A n c).ownBlock := by
  have hlen := Lib.hid (show xs.length = n by have := h.1; simpa [bls] using this)
  go_enter Try.func84, Try.ntmps84
  go_wp2
  go_loopw [1, 5] (fun q i wr => ∃ j : Nat, j ≤ n ∧ i = .int .i64 j ∧ q = .int .i64 (k + j) ∧ wr.ownsRow lo 4 1 (.slice A n c) n (bls (markBTo k xs j)) ∧ w.grownBy wr (Value.slice A n c).ownBlock) (fun _ i _ => n - (intOf i).toNat)
  case atStart => exact ⟨0, Nat.zero_le _, rfl, by simp, by simpa [markBTo] using h, World.grownBy.refl _ _⟩
  case round =>
    obtain ⟨j, hj, rfl, rfl, hown, hg⟩ := hrel
    by_cases hlt : j < n
    · obtain ⟨g, hA, -, -⟩ : ∃ g, A = some ⟨g, 0, none⟩ ∧ lo ≤ g ∧ n ≤ c := by
        rcases hown.2 with ⟨_, h0⟩ | ⟨g, cap, cur, hv, hb, _, hnc, _⟩
        · omega
        · injection hv with hA _ hc
          exact ⟨g, hA, hb, by omega⟩
      subst hA
      obtain ⟨u, hu⟩ : ∃ u, (bls (markBTo k xs j))[j]? = some u := by
        have hl := hown.1
        exact ⟨_, List.getElem?_eq_getElem (by omega)⟩
      have hcell := (hown.cellAt j (by omega)).trans hu
      have hfz : wr.frozen? ⟨g, j, none⟩ = false := hown.frozenAt j
      obtain ⟨hst, hgr⟩ := hown.stored j (.bool ((k + j) % 3 == 0))
      rw [markBTo_set (by rw [hlen.out]; exact hlt)] at hst
      have hg2 : w.grownBy (wr.setCell ⟨g, j, none⟩ (.bool ((k + j) % 3 == 0))) (some g) :=
        ⟨hgr.os.trans hg.os, hgr.tape.trans hg.tape, hgr.output.trans hg.output, Nat.le_trans hg.size hgr.size, fun b hb hne => (hgr.block b (Nat.lt_of_lt_of_le hb hg.size) hne).trans (hg.block b hb hne)⟩
      clear hu hgr hg hown
      go_wp2
      go_roundw
      case rel => exact ⟨j + 1, by omega, by go_num, by rw [show k + (j : Int) + 1 = k + ((j + 1 : Nat) : Int) from by omega], hst, hg2⟩
      case measure => simp [intOf]; omega
    · have hjn : j = n := by omega
      have HJ : Hid (markBTo k xs j = tks k n) := by
        show _ = _
        unfold markBTo
        rw [hlen.out, List.drop_eq_nil_of_le (by rw [hlen.out]; omega), List.append_nil, List.take_of_length_le (by rw [tks_len]; omega)]
      rw [HJ.out] at hown
      have HN := Lib.hid hjn
      clear hjn
      go_wp2
      go_ret
      exact ⟨ret_int (by rw [HN.out]), hown, hg⟩

def MarkBAt (k0 : Int) (xss yss : List (List Bool)) (j : Nat) (k : Int) : Prop := yss.take j ++ tkss k (xss.drop j) = tkss k0 xss ∧ yss.drop j = xss.drop j ∧ yss.length = xss.length ∧ k + totalB (xss.drop j) = k0 + totalB xss ∧ k0 ≤ k
theorem MarkBAt.start (k0 : Int) (xss : List (List Bool)) : MarkBAt k0 xss xss 0 k0 := ⟨by simp, rfl, rfl, by simp, Int.le_refl _⟩
theorem MarkBAt.step {k0 k : Int} {xss yss : List (List Bool)} {j : Nat} (h : MarkBAt k0 xss yss j k) (hj : j < xss.length) : MarkBAt k0 xss (yss.set j (tks k (xss[j]).length)) (j + 1) (k + (xss[j]).length) := by
  obtain ⟨h1, h2, h3, h4, h5⟩ := h
  have hjy : j < yss.length := by omega
  have hd := List.drop_eq_getElem_cons hj
  refine ⟨?_, ?_, by simp [h3], ?_, by omega⟩
  · rw [← h1, hd, tkss, List.take_add_one, List.getElem?_set_self hjy, List.take_set_of_le (Nat.le_refl j)]
    simp
  · rw [List.drop_set_of_lt (by omega)]
    have e1 : (yss.drop j).drop 1 = (xss.drop j).drop 1 := by rw [h2]
    simpa [List.drop_drop] using e1
  · rw [hd, totalB] at h4
    omega
theorem MarkBAt.done {k0 k : Int} {xss yss : List (List Bool)} {j : Nat} (h : MarkBAt k0 xss yss j k) (hj : xss.length ≤ j) : yss = tkss k0 xss ∧ k = k0 + totalB xss := by
  obtain ⟨h1, h2, h3, h4, h5⟩ := h
  rw [List.drop_eq_nil_of_le hj, tkss, List.append_nil, List.take_of_length_le (by omega)] at h1
  rw [List.drop_eq_nil_of_le hj, totalB] at h4
  exact ⟨h1, by omega⟩
theorem totalB_drop (xss : List (List Bool)) {j : Nat} (hj : j < xss.length) : (xss[j]).length + totalB (xss.drop (j + 1)) = totalB (xss.drop j) := by
  rw [List.drop_eq_getElem_cons hj, totalB]

set_option maxHeartbeats 1000000 in
theorem markBoolSS_any (A : Option Addr) (n c : Nat) (vs : List Value) (xss : List (List Bool)) (k0 : Int) (lo hi : Nat) (w : World) (h : OwMv 86 4 (.bool) lo w (.slice A n c) n vs xss) (hhi : InHi hi vs) (h0 : 0 ≤ k0) (h1 : k0 + totalB xss ≤ 4611686018427387904) :
    Calls Try.prog 36 #[.slice A n c, .int .i64 k0] w fun e w' => e = .returned (.int .i64 (k0 + totalB xss)) ∧ OwMv 86 4 (.bool) lo w' (.slice A n c) n vs (tkss k0 xss) ∧ Chg lo hi w w' := by
  have hvl : vs.length = n := by have := h.1.1; simpa using this
  have hxl := Lib.hid (show xss.length = n by rw [← h.2.1]; exact hvl)
  have HV := Lib.hid hvl
  have HH := Lib.hid hhi
  clear hvl hhi
  have hn : n ≤ 9223372036854775807 := by
    have hm : n ≤ maxLen := by
      rcases h.1.2 with ⟨_, h0⟩ | ⟨g, cap, cur, _, _, _, a, b, _⟩
      · omega
      · omega
    unfold maxLen at hm
    omega
  go_enter Try.func36, Try.ntmps36
  go_wp2
  go_loopw [1, 5] (fun q i wr => ∃ (j : Nat) (k : Int) (yss : List (List Bool)), j ≤ n ∧ i = .int .i64 j ∧ q = .int .i64 k ∧ MarkBAt k0 xss yss j k ∧ OwMv 86 4 (.bool) lo wr (.slice A n c) n vs yss ∧ Chg lo hi w wr) (fun _ i _ => n - (intOf i).toNat)
  case atStart => exact ⟨0, k0, xss, Nat.zero_le _, rfl, rfl, MarkBAt.start _ _, h, Chg.refl _ _ _⟩
  case round =>
    obtain ⟨j, k, yss, hj, rfl, rfl, HM, ho, hc⟩ := hrel
    by_cases hlt : j < n
    · have hjx : j < xss.length := by rw [hxl.out]; exact hlt
      have hjv : j < vs.length := by rw [HV.out]; exact hlt
      have hu : vs[j]? = some vs[j] := List.getElem?_eq_getElem hjv
      have hyj : yss[j]? = some xss[j] := by
        have h2 := congrArg (fun l => l[0]?) HM.2.1
        simpa [List.getElem?_drop, List.getElem?_eq_getElem hjx] using h2
      have hrow := ho.2.2.1 j _ _ hu hyj
      have htot := totalB_drop xss hjx
      have hkb : 0 ≤ k ∧ k + (xss[j]).length ≤ 4611686018427387904 := by
        have := HM.2.2.2.1
        have := HM.2.2.2.2
        omega
      have hst := HM.step hjx
      have hin := HH.out _ (List.mem_of_getElem? hu)
      have hlob := fun b hb => (hrow.lt b hb).1
      generalize hL : (xss[j]).length = L at *
      obtain ⟨B, d, hB⟩ := own_slice hrow
      obtain ⟨g, hA, -, -⟩ : ∃ g, A = some ⟨g, 0, none⟩ ∧ lo ≤ g ∧ n ≤ c := by
        rcases ho.1.2 with ⟨_, h0⟩ | ⟨g, cap, cur, hv, hb, _, hnc, _⟩
        · omega
        · injection hv with hA _ hc
          exact ⟨g, hA, hb, by omega⟩
      subst hA
      have hcell := (ho.1.cellAt j (by omega)).trans hu
      rw [hB] at hcell hrow hin hlob hu
      clear hB
      have HST := Lib.hid hst
      have HU := Lib.hid hu
      have HTOT := Lib.hid htot
      clear hst hu htot hyj hL
      go_wp2_with fail
      refine (markBoolS_any _ _ _ _ _ lo _ hrow hkb.1 hkb.2).mono ?_
      rintro e w2 ⟨rfl, hown2, hg2⟩
      have hset := ho.setRow (by decide) HU.out hg2 (ys := tks k L) (by rw [tks_len]; exact hown2)
      have hchg : Chg lo hi wr w2 := by
        rcases B with _ | ad
        · exact ⟨hg2.os, hg2.tape, hg2.output, hg2.size, fun b hb _ => hg2.block b hb (by simp [Value.ownBlock])⟩
        · exact Chg.grown hg2 (hlob _ rfl) (hin _ rfl)
      go_wp2
      go_roundw
      case rel => exact ⟨j + 1, _, _, by omega, by go_num, rfl, HST.out, hset, hc.trans hchg⟩
      case measure => simp [intOf]; omega
    · obtain ⟨e1, e2⟩ := HM.done (by rw [hxl.out]; omega)
      have HE := Lib.hid e2
      rw [e1] at ho
      clear e1 e2
      go_wp2
      go_ret
      exact ⟨ret_int HE.out, ho, hc⟩


end Go.Proofs.Ytbpdbimdefdefaa
