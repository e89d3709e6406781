
/- Walks: rising lists, comparisons, meets, identities, clones. -/
import Derived.Test.YtppnmpeicmlneaaList
namespace Go.Proofs.Ytppnmpeicmlneaa
open Go.RowKit

/-- Are the numbers strictly rising? -/
def risesL : List Int → Bool
  | x :: y :: l => decide (x < y) && risesL (y :: l)
  | _ => true
def RisAt (xs : List Int) (k : Nat) : Prop := risesL (xs.drop k) = risesL xs
theorem drop_two {xs : List Int} {k : Nat} {x y : Int} (h1 : xs[k]? = some x) (h2 : xs[k + 1]? = some y) : xs.drop k = x :: y :: xs.drop (k + 2) := by
  obtain ⟨l1, e1⟩ := List.getElem?_eq_some_iff.1 h1
  obtain ⟨l2, e2⟩ := List.getElem?_eq_some_iff.1 h2
  rw [List.drop_eq_getElem_cons l1, List.drop_eq_getElem_cons l2, e1, e2]
theorem RisAt.step {xs : List Int} {k : Nat} {x y : Int} (h : RisAt xs k) (h1 : xs[k]? = some x) (h2 : xs[k + 1]? = some y) (hlt : x < y) : RisAt xs (k + 1) := by
  obtain ⟨l2, e2⟩ := List.getElem?_eq_some_iff.1 h2
  unfold RisAt at *; rw [← h, drop_two h1 h2, risesL, List.drop_eq_getElem_cons l2, e2]; simp [hlt]
theorem RisAt.stop {xs : List Int} {k : Nat} {x y : Int} (h : RisAt xs k) (h1 : xs[k]? = some x) (h2 : xs[k + 1]? = some y) (hlt : ¬ x < y) : false = risesL xs := by
  unfold RisAt at *; rw [← h, drop_two h1 h2, risesL]; simp; omega
theorem RisAt.done {xs : List Int} {k : Nat} (h : RisAt xs k) (hl : xs.length ≤ k + 1) : true = risesL xs := by
  unfold RisAt at *; rw [← h]
  match hd : xs.drop k with
  | [] => rfl
  | [x] => rfl
  | x :: y :: l =>
    have := congrArg List.length hd
    simp at this
    omega

def RInAt (lo hi : Int) (xs : List Int) (k : Nat) : Prop := (allIn lo hi (xs.drop k) && risesL (xs.drop (k - 1))) = (allIn lo hi xs && risesL xs)
theorem RInAt.start (lo hi : Int) (xs : List Int) : RInAt lo hi xs 0 := rfl
theorem RInAt.step0 {lo hi : Int} {xs : List Int} {x : Int} (h : RInAt lo hi xs 0) (hd : xs.drop 0 = x :: xs.drop (0 + 1)) (hi' : inB x lo hi = true) : RInAt lo hi xs (0 + 1) := by
  unfold RInAt at *
  rw [← h, hd, allIn, hi', Bool.true_and]
theorem RInAt.step {lo hi : Int} {xs : List Int} {j : Nat} {p x : Int} (h : RInAt lo hi xs (j + 1)) (hd : xs.drop (j + 1) = x :: xs.drop (j + 1 + 1)) (h1 : xs[j]? = some p) (h2 : xs[j + 1]? = some x) (hi' : inB x lo hi = true) (hlt : p < x) : RInAt lo hi xs (j + 1 + 1) := by
  have hr : RisAt xs j → RisAt xs (j + 1) := fun hh => hh.step h1 h2 hlt
  have hr' : risesL (xs.drop j) = risesL (xs.drop (j + 1)) := by
    obtain ⟨l2, e2⟩ := List.getElem?_eq_some_iff.1 h2
    rw [drop_two h1 h2, risesL, List.drop_eq_getElem_cons l2, e2]; simp [hlt]
  unfold RInAt at *
  rw [← h, hd, allIn, hi', Bool.true_and, Nat.add_sub_cancel, Nat.add_sub_cancel, hr']
theorem RInAt.stop1 {lo hi : Int} {xs : List Int} {k : Nat} {x : Int} (h : RInAt lo hi xs k) (hd : xs.drop k = x :: xs.drop (k + 1)) (hi' : inB x lo hi = false) : false = (allIn lo hi xs && risesL xs) := by
  unfold RInAt at *; rw [← h, hd, allIn, hi']; rfl
theorem RInAt.stop2 {lo hi : Int} {xs : List Int} {j : Nat} {p x : Int} (h : RInAt lo hi xs (j + 1)) (h1 : xs[j]? = some p) (h2 : xs[j + 1]? = some x) (hlt : ¬ p < x) : false = (allIn lo hi xs && risesL xs) := by
  unfold RInAt at *
  rw [← h, Nat.add_sub_cancel, drop_two h1 h2, risesL, decide_eq_false hlt]
  simp
theorem RInAt.done {lo hi : Int} {xs : List Int} {k : Nat} (h : RInAt lo hi xs k) (hl : xs.length ≤ k) : true = (allIn lo hi xs && risesL xs) := by
  unfold RInAt at *
  rw [← h, List.drop_eq_nil_of_le hl]
  have : true = risesL (xs.drop (k - 1)) := by
    match hd : xs.drop (k - 1) with
    | [] => rfl
    | [x] => rfl
    | x :: y :: l =>
      have := congrArg List.length hd
      simp at this
      omega
  rw [← this]
  rfl

/-- compareLists: lexicographic, a beginning before the longer list. -/
def lexL : List Int → List Int → Int
  | [], [] => 0
  | [], _ :: _ => -1
  | _ :: _, [] => 1
  | x :: l, y :: m => if x == y then lexL l m else if x < y then -1 else 1
theorem lexL_ends {xs ys : List Int} {k n m : Nat} (hx : xs.length = n) (hy : ys.length = m) (hk : ¬ (k < n ∧ k < m)) (hkn : k ≤ n) (hkm : k ≤ m) : lexL (xs.drop k) (ys.drop k) = if n < m then -1 else if m < n then 1 else 0 := by
  rcases hxd : xs.drop k with _ | ⟨x, l⟩
  · rcases hyd : ys.drop k with _ | ⟨y, l'⟩
    · have h1 := congrArg List.length hxd
      have h2 := congrArg List.length hyd
      simp at h1 h2
      rw [if_neg (by omega), if_neg (by omega)]
      rfl
    · have h1 := congrArg List.length hxd
      have h2 := congrArg List.length hyd
      simp at h1 h2
      rw [if_pos (by omega)]
      rfl
  · rcases hyd : ys.drop k with _ | ⟨y, l'⟩
    · have h1 := congrArg List.length hxd
      have h2 := congrArg List.length hyd
      simp at h1 h2
      rw [if_neg (by omega), if_pos (by omega)]
      rfl
    · have h1 := congrArg List.length hxd
      have h2 := congrArg List.length hyd
      simp at h1 h2
      omega

set_option maxHeartbeats 400000 in
theorem compareLists_any (A B : Option Addr) (n m c d : Nat) (xs ys : List Int) (w : World) (h : RdL RI w A n xs) (h' : RdL RI w B m ys) :
    Calls Try.prog 124 #[.slice A n c, .slice B m d] w (Qt w (.int .i64 (lexL xs ys))) := by
  have hle := h.le
  have hle' := h'.le
  have hx := Lib.hid h.len
  have hy := Lib.hid h'.len
  go_enter Try.func124, Try.ntmps124
  go_wp2
  go_loopw [5] (fun i wr => ∃ k : Nat, k ≤ n ∧ k ≤ m ∧ i = .int .i64 k ∧ At2 lexL xs ys k ∧ Drawn w wr) (fun i _ => n - (intOf i).toNat)
  case atStart => exact ⟨0, Nat.zero_le _, Nat.zero_le _, rfl, rfl, Drawn.zero _⟩
  case round =>
    obtain ⟨k, hk, hk', rfl, H, z, rfl⟩ := hrel
    by_cases hlt : k < n
    · by_cases hlt' : k < m
      · obtain ⟨b, o, v, x, rfl, hc, ⟨rfl, -⟩, hd, -⟩ := h.at hlt
        obtain ⟨b', o', v', y, rfl, hc', ⟨rfl, -⟩, hd', -⟩ := h'.at hlt'
        have H1 := Lib.hid hd
        have H2 := Lib.hid hd'
        clear hd hd'
        by_cases hxy : x = y
        · have hxy' : (x != y) = false := by simp [hxy]
          have HE : Hid ((x == y) = true) := by simp [Hid, hxy]
          clear hxy
          go_wp2
          go_quiet (fail)
          go_wp2
          go_roundw
          case rel => exact ⟨k + 1, by omega, by omega, by go_num, H.step H1.out H2.out (by rw [lexL, HE.out, if_pos rfl]), (by first | exact Drawn.zero _ | exact Drawn.at_ _ _ | exact (Drawn.at_ _ _).more _ | exact ((Drawn.at_ _ _).more _).more _)⟩
          case measure => simp [intOf]; omega
        · have hxy' : (x != y) = true := by simp [hxy]
          have HE : Hid ((x == y) = false) := by simp [Hid, hxy]
          clear hxy
          go_wp2
          go_quiet (fail)
          go_wp2
          go_quiet (fail)
          go_wp2
          · go_ret
            exact ⟨ret_int (H.stop H1.out H2.out (by rw [lexL, HE.out, if_neg (by decide), if_pos (by assumption)])), (by first | exact Drawn.zero _ | exact Drawn.at_ _ _ | exact (Drawn.at_ _ _).more _ | exact ((Drawn.at_ _ _).more _).more _)⟩
          · go_ret
            exact ⟨ret_int (H.stop H1.out H2.out (by rw [lexL, HE.out, if_neg (by decide), if_neg (by omega)])), (by first | exact Drawn.zero _ | exact Drawn.at_ _ _ | exact (Drawn.at_ _ _).more _ | exact ((Drawn.at_ _ _).more _).more _)⟩
      · go_wp2
        all_goals
          go_ret
          exact ⟨ret_int (H.done rfl rfl (by rw [lexL_ends hx.out hy.out (by omega) hk hk']; first | rw [if_pos (by omega)] | rw [if_neg (by omega), if_pos (by omega)] | rw [if_neg (by omega), if_neg (by omega)])), (by first | exact Drawn.zero _ | exact Drawn.at_ _ _ | exact (Drawn.at_ _ _).more _ | exact ((Drawn.at_ _ _).more _).more _)⟩
    · go_wp2
      all_goals
        go_ret
        exact ⟨ret_int (H.done rfl rfl (by rw [lexL_ends hx.out hy.out (by omega) hk hk']; first | rw [if_pos (by omega)] | rw [if_neg (by omega), if_pos (by omega)] | rw [if_neg (by omega), if_neg (by omega)])), (by first | exact Drawn.zero _ | exact Drawn.at_ _ _ | exact (Drawn.at_ _ _).more _ | exact ((Drawn.at_ _ _).more _).more _)⟩

/-- compareTerms: shorter lists first. -/
def cmpT (xs ys : List Int) : Int := if xs.length < ys.length then -1 else if ys.length < xs.length then 1 else lexL xs ys
/-- l5Less, at lists of one length. -/
def lessL : List Int → List Int → Bool
  | x :: l, y :: m => if x == y then lessL l m else decide (x < y)
  | _, _ => false
set_option maxHeartbeats 400000 in
theorem l5Less_any (A B : Option Addr) (n c d : Nat) (xs ys : List Int) (w : World) (h : RdL RI w A n xs) (h' : RdL RI w B n ys) :
    Calls Try.prog 122 #[.slice A n c, .slice B n d] w (Qt w (.bool (lessL xs ys))) := by
  have hle := h.le
  go_enter Try.func122, Try.ntmps122
  go_wp2
  go_loopw [5] (fun i wr => ∃ k : Nat, k ≤ n ∧ i = .int .i64 k ∧ At2 lessL xs ys k ∧ Drawn w wr) (fun i _ => n - (intOf i).toNat)
  case atStart => exact ⟨0, Nat.zero_le _, rfl, rfl, Drawn.zero _⟩
  case round =>
    obtain ⟨k, hk, rfl, H, z, rfl⟩ := hrel
    by_cases hlt : k < n
    · obtain ⟨b, o, v, x, rfl, hc, ⟨rfl, -⟩, hd, -⟩ := h.at hlt
      obtain ⟨b', o', v', y, rfl, hc', ⟨rfl, -⟩, hd', -⟩ := h'.at hlt
      have H1 := Lib.hid hd
      have H2 := Lib.hid hd'
      clear hd hd'
      by_cases hxy : x = y
      · have hxy' : (x != y) = false := by simp [hxy]
        have HE : Hid ((x == y) = true) := by simp [Hid, hxy]
        clear hxy
        go_wp2
        go_quiet (fail)
        go_wp2
        go_roundw
        case rel => exact ⟨k + 1, by omega, by go_num, H.step H1.out H2.out (by rw [lessL, HE.out, if_pos rfl]), (by first | exact Drawn.zero _ | exact Drawn.at_ _ _ | exact (Drawn.at_ _ _).more _ | exact ((Drawn.at_ _ _).more _).more _)⟩
        case measure => simp [intOf]; omega
      · have hxy' : (x != y) = true := by simp [hxy]
        have HE : Hid ((x == y) = false) := by simp [Hid, hxy]
        clear hxy
        go_wp2
        go_quiet (fail)
        go_wp2
        go_quiet (fail)
        go_wp2
        go_ret
        exact ⟨ret_bool (H.stop H1.out H2.out (by rw [lessL, HE.out, if_neg (by decide)])), (by first | exact Drawn.zero _ | exact Drawn.at_ _ _ | exact (Drawn.at_ _ _).more _ | exact ((Drawn.at_ _ _).more _).more _)⟩
    · go_wp2
      go_ret
      exact ⟨ret_bool (H.done (h.drop_end hlt) (h'.drop_end hlt) rfl), (by first | exact Drawn.zero _ | exact Drawn.at_ _ _ | exact (Drawn.at_ _ _).more _ | exact ((Drawn.at_ _ _).more _).more _)⟩
end Go.Proofs.Ytppnmpeicmlneaa
