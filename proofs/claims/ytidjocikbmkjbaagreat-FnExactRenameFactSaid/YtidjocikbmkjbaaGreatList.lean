
/- Walks of small functions on lists of numbers, of the program and of the reference. -/
import Derived.Test.YtidjocikbmkjbaaGreatInts
namespace Go.Proofs.YtidjocikbmkjbaaGreat
open Go.RowKit

def inB (x a b : Int) : Bool := decide (a ≤ x) && decide (x ≤ b)
set_option maxHeartbeats 400000 in
theorem l1In_any (x a b : Int) (w : World) :
    Calls Tryz.prog 38 #[.int .i64 x, .int .i64 a, .int .i64 b] w fun e w' => e = .returned (.bool (inB x a b)) ∧ w = w' := by
  unfold inB
  by_cases h : a ≤ x
  all_goals
    go_enter Tryz.func38, Tryz.ntmps38
    go_wp2
    go_ret
    exact ⟨ret_bool (by simp; omega), rfl⟩

/-- Does x stand in the list? -/
def hasI (x : Int) : List Int → Bool
  | [] => false
  | y :: l => y == x || hasI x l
set_option maxHeartbeats 400000 in
theorem l1Same_any (A B : Option Addr) (n m c d : Nat) (xs ys : List Int) (w : World) (h : RdL RI w A n xs) (h' : RdL RI w B m ys) :
    Calls Tryz.prog 78 #[.slice A n c, .slice B m d] w (Qt w (.bool (eqL xs ys))) := by
  have hle := h.le
  have hle' := h'.le
  by_cases hnm : n = m
  · subst hnm
    go_enter Tryz.func78, Tryz.ntmps78
    go_wp2
    go_loopw [5] (fun i wr => ∃ k : Nat, k ≤ n ∧ i = .int .i64 k ∧ At2 eqL xs ys k ∧ Drawn w wr) (fun i _ => n - (intOf i).toNat)
    case atStart => exact ⟨0, Nat.zero_le _, rfl, rfl, Drawn.zero _⟩
    case round =>
      obtain ⟨k, hk, rfl, H, z, rfl⟩ := hrel
      by_cases hlt : k < n
      · obtain ⟨b, o, v, x, rfl, hc, ⟨rfl, -⟩, hd, -⟩ := h.at hlt
        obtain ⟨b', o', v', y, rfl, hc', ⟨rfl, -⟩, hd', -⟩ := h'.at hlt
        have H1 := Lib.hid hd
        have H2 := Lib.hid hd'
        clear hd hd'
        go_wp2
        go_quiet (fail)
        go_wp2
        all_goals first
          | (go_ret
             exact ⟨ret_bool (H.stop H1.out H2.out (by rw [eqL, show (x == y) = false from (by first | assumption | exact bf1 (by assumption) | exact bf2 (by assumption) | exact nef (by assumption) | exact nefc (by assumption) | exact eqc (by assumption))]; rfl)), (by first | exact Drawn.zero _ | exact Drawn.at_ _ _ | exact (Drawn.at_ _ _).more _ | exact ((Drawn.at_ _ _).more _).more _)⟩)
          | (go_roundw
             case rel => exact ⟨k + 1, by omega, by go_num, H.step H1.out H2.out (by rw [eqL, show (x == y) = true from (by first | assumption | exact bt2 (by assumption) | exact net (by assumption) | exact netc (by assumption) | exact eqc (by assumption))]; rfl), (by first | exact Drawn.zero _ | exact Drawn.at_ _ _ | exact (Drawn.at_ _ _).more _ | exact ((Drawn.at_ _ _).more _).more _)⟩
             case measure => simp [intOf]; omega)
      · go_wp2
        go_ret
        exact ⟨ret_bool (H.done (h.drop_end hlt) (h'.drop_end hlt) rfl), (by first | exact Drawn.zero _ | exact Drawn.at_ _ _ | exact (Drawn.at_ _ _).more _ | exact ((Drawn.at_ _ _).more _).more _)⟩
  · have hne : ((n : Int) != (m : Int)) = true := by rw [bne_iff_ne]; omega
    go_enter Tryz.func78, Tryz.ntmps78
    go_wp2
    go_ret
    exact ⟨ret_bool (eqL_len (by rw [h.len, h'.len]; omega)), (by first | exact Drawn.zero _ | exact Drawn.at_ _ _ | exact (Drawn.at_ _ _).more _ | exact ((Drawn.at_ _ _).more _).more _)⟩

/-- The first place at which a list stands among lists, or -1. -/
def placeFrom (p : List Int) : List (List Int) → Int → Int
  | [], _ => -1
  | q :: l, k => if eqL p q then k else placeFrom p l (k + 1)
def place (xss : List (List Int)) (p : List Int) : Int := placeFrom p xss 0
def PlAt (xss : List (List Int)) (p : List Int) (k : Nat) : Prop := placeFrom p (xss.drop k) k = place xss p
theorem PlAt.step {xss : List (List Int)} {p q : List Int} {k : Nat} (h : PlAt xss p k) (hd : xss.drop k = q :: xss.drop (k + 1)) (he : eqL p q = false) : PlAt xss p (k + 1) := by
  unfold PlAt at *; rw [← h, hd, placeFrom, he]; rfl
theorem PlAt.stop {xss : List (List Int)} {p q : List Int} {k : Nat} (h : PlAt xss p k) (hd : xss.drop k = q :: xss.drop (k + 1)) (he : eqL p q = true) : (k : Int) = place xss p := by
  unfold PlAt at *; rw [← h, hd, placeFrom, he]; rfl
theorem PlAt.done {xss : List (List Int)} {p : List Int} {k : Nat} (h : PlAt xss p k) (hd : xss.drop k = []) : -1 = place xss p := by
  unfold PlAt at *; rw [← h, hd]; rfl

theorem eqL_comm : ∀ l m : List Int, eqL l m = eqL m l
  | [], [] => rfl
  | [], _ :: _ => rfl
  | _ :: _, [] => rfl
  | x :: l, y :: m => by rw [eqL, eqL, eqL_comm l m, Bool.beq_comm]

/-- Are all members of a list in another? -/
def partL (ys : List Int) : List Int → Bool
  | [] => true
  | x :: l => hasI x ys && partL ys l
/-- Do all numbers lie from a to b? -/
def allIn (a b : Int) : List Int → Bool
  | [] => true
  | x :: l => inB x a b && allIn a b l
set_option maxHeartbeats 400000 in
theorem l2Elements_any (A : Option Addr) (n c : Nat) (xs : List Int) (m : Int) (w : World) (h : RdL RI w A n xs) (hm0 : -1 ≤ m) (hm1 : m ≤ 4611686018427387904) :
    Calls Tryz.prog 50 #[.int .i64 m, .slice A n c] w fun e w' => e = .returned (.bool (allIn 0 (m - 1) xs)) ∧ w = w' := by
  have hle := h.le
  go_enter Tryz.func50, Tryz.ntmps50
  go_wp2
  go_loop [5] (fun i => ∃ k : Nat, k ≤ n ∧ i = .int .i64 k ∧ At (allIn 0 (m - 1)) xs k) (fun i => n - (intOf i).toNat)
  case atStart => exact ⟨0, Nat.zero_le _, rfl, rfl⟩
  case round =>
    obtain ⟨k, hk, rfl, H⟩ := hrel
    by_cases hlt : k < n
    · obtain ⟨b, o, v, x, rfl, hc, ⟨rfl, -⟩, hd, -⟩ := h.at hlt
      have H1 := Lib.hid hd
      clear hd
      go_wp2_with (go_at_call 38; refine (l1In_any _ _ _ _).mono ?_; rintro e w' ⟨rfl, rfl⟩)
      all_goals first
        | (go_ret
           exact ⟨ret_bool (H.stop H1.out (by rw [allIn, show inB x 0 (m - 1) = false from (by first | assumption | exact bf1 (by assumption) | exact bf2 (by assumption) | exact nef (by assumption) | exact nefc (by assumption) | exact eqc (by assumption))]; rfl)), rfl⟩)
        | (go_round
           case rel => exact ⟨k + 1, by omega, by go_num, H.step H1.out (by rw [allIn, show inB x 0 (m - 1) = true from (by first | assumption | exact bt2 (by assumption) | exact net (by assumption) | exact netc (by assumption) | exact eqc (by assumption))]; rfl)⟩
           case measure => simp [intOf]; omega)
    · go_wp2
      go_ret
      exact ⟨ret_bool (H.done (h.drop_end hlt) rfl), rfl⟩

set_option maxHeartbeats 400000 in
theorem inSize_any (A : Option Addr) (n c : Nat) (xs : List Int) (m : Int) (w : World) (h : RdL RI w A n xs) :
    Calls Tryz.prog 61 #[.slice A n c, .int .i64 m] w fun e w' => e = .returned (.bool (allIn 0 (m - 1) xs)) ∧ w = w' := by
  have hle := h.le
  go_enter Tryz.func61, Tryz.ntmps61
  go_wp2
  go_loop [9] (fun i => ∃ k : Nat, k ≤ n ∧ i = .int .i64 k ∧ At (allIn 0 (m - 1)) xs k) (fun i => n - (intOf i).toNat)
  case atStart => exact ⟨0, Nat.zero_le _, rfl, rfl⟩
  case round =>
    obtain ⟨k, hk, rfl, H⟩ := hrel
    by_cases hlt : k < n
    · obtain ⟨b, o, v, x, rfl, hc, ⟨rfl, -⟩, hd, -⟩ := h.at hlt
      have H1 := Lib.hid hd
      clear hd
      go_wp2
      all_goals first
        | (go_ret
           exact ⟨ret_bool (H.stop H1.out (by rw [allIn, show inB x 0 (m - 1) = false by unfold inB; simp; omega]; rfl)), rfl⟩)
        | (go_round
           case rel => exact ⟨k + 1, by omega, by go_num, H.step H1.out (by rw [allIn, show inB x 0 (m - 1) = true by unfold inB; simp; omega]; rfl)⟩
           case measure => simp [intOf]; omega)
    · go_wp2
      go_ret
      exact ⟨ret_bool (H.done (h.drop_end hlt) rfl), rfl⟩
end Go.Proofs.YtidjocikbmkjbaaGreat
namespace Go.Proofs.YtidjocikbmkjbaaGreat
open Go.RowKit

/-- Are the numbers strictly rising? -/
def risesL : List Int → Bool
  | x :: y :: l => decide (x < y) && risesL (y :: l)
  | _ => true
def RisAt (xs : List Int) (k : Nat) : Prop := risesL (xs.drop k) = risesL xs
theorem drop_two {xs : List Int} {k : Nat} {x y : Int} (h1 : xs[k]? = some x) (h2 : xs[k + 1]? = some y) : xs.drop k = x :: y :: xs.drop (k + 2) := by
  obtain ⟨l1, e1⟩ := List.getElem?_eq_some_iff.1 h1
  obtain ⟨l2, e2⟩ := List.getElem?_eq_some_iff.1 h2
  rw [List.drop_eq_getElem_cons l1, List.drop_eq_getElem_cons l2, e1, e2]
theorem RisAt.step {xs : List Int} {k : Nat} {x y : Int} (h : RisAt xs k) (h1 : xs[k]? = some x) (h2 : xs[k + 1]? = some y) (hlt : x < y) : RisAt xs (k + 1) := by
  obtain ⟨l2, e2⟩ := List.getElem?_eq_some_iff.1 h2
  unfold RisAt at *; rw [← h, drop_two h1 h2, risesL, List.drop_eq_getElem_cons l2, e2]; simp [hlt]
theorem RisAt.stop {xs : List Int} {k : Nat} {x y : Int} (h : RisAt xs k) (h1 : xs[k]? = some x) (h2 : xs[k + 1]? = some y) (hlt : ¬ x < y) : false = risesL xs := by
  unfold RisAt at *; rw [← h, drop_two h1 h2, risesL]; simp; omega
theorem RisAt.done {xs : List Int} {k : Nat} (h : RisAt xs k) (hl : xs.length ≤ k + 1) : true = risesL xs := by
  unfold RisAt at *; rw [← h]
  match hd : xs.drop k with
  | [] => rfl
  | [x] => rfl
  | x :: y :: l =>
    have := congrArg List.length hd
    simp at this
    omega

set_option maxHeartbeats 400000 in
theorem rises_any (A : Option Addr) (n c : Nat) (xs : List Int) (w : World) (h : RdL RI w A n xs) :
    Calls Tryz.prog 62 #[.slice A n c] w (Qt w (.bool (risesL xs))) := by
  have hle := h.le
  have hlen := Lib.hid h.len
  by_cases h1 : 1 < n
  · obtain ⟨b0, o0, v0, x0, rfl, -, -, -, -⟩ := h.at (k := 0) (by omega)
    go_enter Tryz.func62, Tryz.ntmps62
    go_wp2
    go_loopw [3] (fun i wr => ∃ k : Nat, k + 1 ≤ n ∧ i = .int .i64 (k + 1) ∧ RisAt xs k ∧ Drawn w wr) (fun i _ => n - (intOf i).toNat)
    case atStart => exact ⟨0, by omega, rfl, rfl, Drawn.zero _⟩
    case round =>
      obtain ⟨k, hk, rfl, H, z, rfl⟩ := hrel
      by_cases hlt : k + 1 < n
      · obtain ⟨v, x, hc, ⟨rfl, -⟩, -, hx⟩ := h.at' (k := k) (by omega)
        obtain ⟨v', y, hc', ⟨rfl, -⟩, -, hy⟩ := h.at' hlt
        have H1 := Lib.hid hx
        have H2 := Lib.hid hy
        clear hx hy
        have e1 : ((k : Int) + 1 - 1) = k := by omega
        have HE := Lib.hid e1
        clear e1
        have hb1 : (0 : Int) ≤ (k : Int) + 1 - 1 := by omega
        have hb2 : (k : Int) + 1 - 1 < (n : Int) := by omega
        go_wp2
        go_quiet (fail)
        go_wp2
        all_goals first
          | (go_ret
             exact ⟨ret_bool (H.stop H1.out H2.out (by omega)), (by first | exact Drawn.zero _ | exact Drawn.at_ _ _ | exact (Drawn.at_ _ _).more _ | exact ((Drawn.at_ _ _).more _).more _)⟩)
          | (go_roundw
             case rel => exact ⟨k + 1, by omega, by go_num, H.step H1.out H2.out (by omega), (by first | exact Drawn.zero _ | exact Drawn.at_ _ _ | exact (Drawn.at_ _ _).more _ | exact ((Drawn.at_ _ _).more _).more _)⟩
             case measure => simp [intOf]; omega)
      · go_wp2
        go_ret
        exact ⟨ret_bool (H.done (by rw [hlen.out]; omega)), (by first | exact Drawn.zero _ | exact Drawn.at_ _ _ | exact (Drawn.at_ _ _).more _ | exact ((Drawn.at_ _ _).more _).more _)⟩
  · go_enter Tryz.func62, Tryz.ntmps62
    go_wp2
    go_loop [3] (fun i => i = .int .i64 1) (fun _ => 0)
    case atStart => rfl
    case round =>
      subst hrel
      go_wp2
      go_ret
      exact ⟨ret_bool (RisAt.done (k := 0) rfl (by rw [hlen.out]; omega)), (by first | exact Drawn.zero _ | exact Drawn.at_ _ _ | exact (Drawn.at_ _ _).more _ | exact ((Drawn.at_ _ _).more _).more _)⟩

def RInAt (lo hi : Int) (xs : List Int) (k : Nat) : Prop := (allIn lo hi (xs.drop k) && risesL (xs.drop (k - 1))) = (allIn lo hi xs && risesL xs)
theorem RInAt.start (lo hi : Int) (xs : List Int) : RInAt lo hi xs 0 := rfl
theorem RInAt.step0 {lo hi : Int} {xs : List Int} {x : Int} (h : RInAt lo hi xs 0) (hd : xs.drop 0 = x :: xs.drop (0 + 1)) (hi' : inB x lo hi = true) : RInAt lo hi xs (0 + 1) := by
  unfold RInAt at *
  rw [← h, hd, allIn, hi', Bool.true_and]
theorem RInAt.step {lo hi : Int} {xs : List Int} {j : Nat} {p x : Int} (h : RInAt lo hi xs (j + 1)) (hd : xs.drop (j + 1) = x :: xs.drop (j + 1 + 1)) (h1 : xs[j]? = some p) (h2 : xs[j + 1]? = some x) (hi' : inB x lo hi = true) (hlt : p < x) : RInAt lo hi xs (j + 1 + 1) := by
  have hr : RisAt xs j → RisAt xs (j + 1) := fun hh => hh.step h1 h2 hlt
  have hr' : risesL (xs.drop j) = risesL (xs.drop (j + 1)) := by
    obtain ⟨l2, e2⟩ := List.getElem?_eq_some_iff.1 h2
    rw [drop_two h1 h2, risesL, List.drop_eq_getElem_cons l2, e2]; simp [hlt]
  unfold RInAt at *
  rw [← h, hd, allIn, hi', Bool.true_and, Nat.add_sub_cancel, Nat.add_sub_cancel, hr']
theorem RInAt.stop1 {lo hi : Int} {xs : List Int} {k : Nat} {x : Int} (h : RInAt lo hi xs k) (hd : xs.drop k = x :: xs.drop (k + 1)) (hi' : inB x lo hi = false) : false = (allIn lo hi xs && risesL xs) := by
  unfold RInAt at *; rw [← h, hd, allIn, hi']; rfl
theorem RInAt.stop2 {lo hi : Int} {xs : List Int} {j : Nat} {p x : Int} (h : RInAt lo hi xs (j + 1)) (h1 : xs[j]? = some p) (h2 : xs[j + 1]? = some x) (hlt : ¬ p < x) : false = (allIn lo hi xs && risesL xs) := by
  unfold RInAt at *
  rw [← h, Nat.add_sub_cancel, drop_two h1 h2, risesL, decide_eq_false hlt]
  simp
theorem RInAt.done {lo hi : Int} {xs : List Int} {k : Nat} (h : RInAt lo hi xs k) (hl : xs.length ≤ k) : true = (allIn lo hi xs && risesL xs) := by
  unfold RInAt at *
  rw [← h, List.drop_eq_nil_of_le hl]
  have : true = risesL (xs.drop (k - 1)) := by
    match hd : xs.drop (k - 1) with
    | [] => rfl
    | [x] => rfl
    | x :: y :: l =>
      have := congrArg List.length hd
      simp at this
      omega
  rw [← this]
  rfl

set_option maxHeartbeats 400000 in
theorem l1Rising_any (A : Option Addr) (n c : Nat) (xs : List Int) (lo hi : Int) (w : World) (h : RdL RI w A n xs) :
    Calls Tryz.prog 47 #[.slice A n c, .int .i64 lo, .int .i64 hi] w (Qt w (.bool (allIn lo hi xs && risesL xs))) := by
  have hle := h.le
  have hlen := Lib.hid h.len
  go_enter Tryz.func47, Tryz.ntmps47
  go_wp2
  go_loopw [7] (fun i wr => ∃ k : Nat, k ≤ n ∧ i = .int .i64 k ∧ RInAt lo hi xs k ∧ Drawn w wr) (fun i _ => n - (intOf i).toNat)
  case atStart => exact ⟨0, by omega, rfl, rfl, Drawn.zero _⟩
  case round =>
    obtain ⟨k, hk, rfl, H, z, rfl⟩ := hrel
    by_cases hlt : k < n
    · obtain ⟨b, o, v, x, rfl, hc, ⟨rfl, -⟩, hd, hx⟩ := h.at hlt
      have HX := Lib.hid hx
      have HD := Lib.hid hd
      clear hx hd
      rcases hin : inB x lo hi with _ | _
      · have HI := Lib.hid hin
        go_wp2
        go_quiet ((go_at_call 38; exact quiet_add (quiet_same (l1In_any _ _ _ _))))
        go_wp2
        go_ret
        exact ⟨ret_bool (H.stop1 HD.out HI.out), (by first | exact Drawn.zero _ | exact Drawn.at_ _ _ | exact (Drawn.at_ _ _).more _ | exact ((Drawn.at_ _ _).more _).more _)⟩
      · have HI := Lib.hid hin
        rcases k with _ | j
        · have hc0 : w.cell? ⟨b, o, none⟩ = some (.int .i64 x) := hc
          clear hc
          have hn0 : (0 : Int) < (n : Int) := by omega
          rw [show ((0 : Nat) : Int) = 0 from rfl]
          go_wp2
          go_quiet ((go_at_call 38; exact quiet_add (quiet_same (l1In_any _ _ _ _))))
          go_wp2
          go_roundw
          case rel => exact ⟨0 + 1, by omega, by go_num, H.step0 HD.out HI.out, (by first | exact Drawn.zero _ | exact Drawn.at_ _ _ | exact (Drawn.at_ _ _).more _ | exact ((Drawn.at_ _ _).more _).more _)⟩
          case measure => simp [intOf]; omega
        · obtain ⟨v', p, hc', ⟨rfl, -⟩, -, hp⟩ := h.at' (k := j) (by omega)
          have HP := Lib.hid hp
          clear hp
          rw [show ((j + 1 : Nat) : Int) = (j : Int) + 1 from by omega]
          have hj0 : (0 : Int) < (j : Int) + 1 := by omega
          have hb1 : (0 : Int) ≤ (j : Int) + 1 - 1 := by omega
          have hb2 : (j : Int) + 1 - 1 < (n : Int) := by omega
          have hb3 : (j : Int) + 1 < (n : Int) := by omega
          go_wp2
          go_quiet ((go_at_call 38; exact quiet_add (quiet_same (l1In_any _ _ _ _))))
          go_wp2
          all_goals first
            | (go_ret
               exact ⟨ret_bool (H.stop2 HP.out HX.out (by omega)), (by first | exact Drawn.zero _ | exact Drawn.at_ _ _ | exact (Drawn.at_ _ _).more _ | exact ((Drawn.at_ _ _).more _).more _)⟩)
            | (go_roundw
               case rel => exact ⟨j + 1 + 1, by omega, by go_num, H.step HD.out HP.out HX.out HI.out (by omega), (by first | exact Drawn.zero _ | exact Drawn.at_ _ _ | exact (Drawn.at_ _ _).more _ | exact ((Drawn.at_ _ _).more _).more _)⟩
               case measure => simp [intOf]; omega)
    · go_wp2
      go_ret
      exact ⟨ret_bool (H.done (by rw [hlen.out]; omega)), (by first | exact Drawn.zero _ | exact Drawn.at_ _ _ | exact (Drawn.at_ _ _).more _ | exact ((Drawn.at_ _ _).more _).more _)⟩

/-- compareLists: lexicographic, a beginning before the longer list. -/
def lexL : List Int → List Int → Int
  | [], [] => 0
  | [], _ :: _ => -1
  | _ :: _, [] => 1
  | x :: l, y :: m => if x == y then lexL l m else if x < y then -1 else 1
theorem lexL_ends {xs ys : List Int} {k n m : Nat} (hx : xs.length = n) (hy : ys.length = m) (hk : ¬ (k < n ∧ k < m)) (hkn : k ≤ n) (hkm : k ≤ m) : lexL (xs.drop k) (ys.drop k) = if n < m then -1 else if m < n then 1 else 0 := by
  rcases hxd : xs.drop k with _ | ⟨x, l⟩
  · rcases hyd : ys.drop k with _ | ⟨y, l'⟩
    · have h1 := congrArg List.length hxd
      have h2 := congrArg List.length hyd
      simp at h1 h2
      rw [if_neg (by omega), if_neg (by omega)]
      rfl
    · have h1 := congrArg List.length hxd
      have h2 := congrArg List.length hyd
      simp at h1 h2
      rw [if_pos (by omega)]
      rfl
  · rcases hyd : ys.drop k with _ | ⟨y, l'⟩
    · have h1 := congrArg List.length hxd
      have h2 := congrArg List.length hyd
      simp at h1 h2
      rw [if_neg (by omega), if_pos (by omega)]
      rfl
    · have h1 := congrArg List.length hxd
      have h2 := congrArg List.length hyd
      simp at h1 h2
      omega

/-- compareTerms: shorter lists first. -/
def cmpT (xs ys : List Int) : Int := if xs.length < ys.length then -1 else if ys.length < xs.length then 1 else lexL xs ys
/-- l5Less, at lists of one length. -/
def lessL : List Int → List Int → Bool
  | x :: l, y :: m => if x == y then lessL l m else decide (x < y)
  | _, _ => false
end Go.Proofs.YtidjocikbmkjbaaGreat
namespace Go.Proofs.YtidjocikbmkjbaaGreat
open Go.RowKit

/-- The members of a list that stand in another. -/
def meetL (ys : List Int) : List Int → List Int
  | [] => []
  | x :: l => if hasI x ys then x :: meetL ys l else meetL ys l
theorem meetL_len (ys : List Int) : ∀ xs, (meetL ys xs).length ≤ xs.length
  | [] => Nat.le_refl _
  | x :: l => by have := meetL_len ys l; rw [meetL]; split <;> simp <;> omega
theorem ints_snoc (xs : List Int) (x : Int) : ints (xs ++ [x]) = ints xs ++ [.int .i64 x] := by simp [ints]
/-- A list being gathered in a row of the call's own. -/
def Gat (B : Nat) (w wr : World) (v : Value) (m : Nat) (acc : List Int) : Prop := ∃ A c, v = .slice A m c ∧ acc.length = m ∧ wr.ownsRow B 3 1 (.slice A m c) m (ints acc) ∧ Below B w wr

/-- 0, 1, .. n - 1 -/
def upTo (n : Nat) : List Int := (List.range n).map fun (k : Nat) => (k : Int)
theorem upTo_succ (k : Nat) : upTo (k + 1) = upTo k ++ [(k : Int)] := by simp [upTo, List.range_succ]
theorem upTo_len (k : Nat) : (upTo k).length = k := by simp [upTo]
theorem upTo_get {n k : Nat} (h : k < n) : (upTo n)[k]? = some (k : Int) := by simp [upTo, h]

set_option maxHeartbeats 400000 in
theorem clone_any (A : Option Addr) (n c : Nat) (xs : List Int) (w : World) (h : RdL RI w A n xs) (hn : n ≤ 1048576) :
    Calls Tryz.prog 92 #[.slice A n c] w fun e w' => ∃ A' c', e = .returned (.slice A' n c') ∧ w'.ownsRow w.heap.size 3 1 (.slice A' n c') n (ints xs) ∧ Below w.heap.size w w' := by
  have hT := below_box w (.cells #[] 3)
  have hown : (w.alloc (.cells #[] 3)).ownsRow w.heap.size 3 1 (.slice (some ⟨w.heap.size, 0, none⟩) 0 0) 0 [] := World.ownsRow_lit _ _ _ (Nat.le_refl _) (Nat.zero_le _) rfl
  have h1 := h.next stab_RI hT
  go_enter Tryz.func92, Tryz.ntmps92
  go_wp2_with (at_builtin; refine appAny _ rfl _ _ 25 3 rfl (.int .i64 0) 8 Tryz.underlying25 info_int rfl (by decide) w.heap.size 0 0 (some ⟨w.heap.size, 0, none⟩) [] rfl hown A n c xs (.int .i64) (fun _ => rfl) rfl h1 (fun _ _ _ hr => hr.1) (by omega) hT.size ?_; intro A2 c2 w2 hown2 hg2 hb2)
  go_ret
  refine ⟨A2, c2, by simp, ?_, hT.trans hb2⟩
  simpa [ints] using hown2
end Go.Proofs.YtidjocikbmkjbaaGreat
