
/- Walks: whether a set is free in a system (program). -/
import Derived.Test.YtlncpabnlnipoaaGreatWith
import Derived.Test.YtlncpabnlnipoaaGreatList
import Derived.Test.YtlncpabnlnipoaaGreatSysF
namespace Go.Proofs.YtlncpabnlnipoaaGreat
open Go.RowKit

/-- The first k elements of the set are each outside the closure of the others. -/
def freeTo (S : List (List Int)) (xs : List Int) : Nat → Bool
  | 0 => true
  | k + 1 => freeTo S xs k && !(hasI (xs.getD k 0) (closeL (xs.take k ++ xs.drop (k + 1)) S))
def freeB (S : List (List Int)) (xs : List Int) : Bool := freeTo S xs xs.length
theorem freeTo_no {S : List (List Int)} {xs : List Int} : ∀ {k j : Nat}, j ≤ k → freeTo S xs j = false → freeTo S xs k = false
  | 0, j, h, e => by
    obtain rfl : j = 0 := by omega
    exact e
  | k + 1, j, h, e => by
    by_cases hj : j = k + 1
    · subst hj; exact e
    · rw [freeTo, freeTo_no (k := k) (by omega) e, Bool.false_and]
theorem rdl_bd {w : World} {A : Option Addr} {n : Nat} {xs : List Int} (h : RdL RI w A n xs) : ∀ x ∈ xs, -9223372036854775808 ≤ x ∧ x ≤ 9223372036854775807 := fun x hx => by
  obtain ⟨k, hk⟩ := List.getElem?_of_mem hx
  obtain ⟨b, o, v, e, hc, hr⟩ := h.2.2 k x hk
  exact hr.2
theorem rdl_bd2 {w : World} {A : Option Addr} {n : Nat} {S : List (List Int)} (h : RdL (RV RI) w A n S) : ∀ xs ∈ S, ∀ x ∈ xs, -9223372036854775808 ≤ x ∧ x ≤ 9223372036854775807 := fun xs hx => by
  obtain ⟨k, hk⟩ := List.getElem?_of_mem hx
  obtain ⟨b, o, v, e, hc, B, m, c, -, hr⟩ := h.2.2 k xs hk
  exact rdl_bd hr
set_option maxHeartbeats 4000000 in
theorem isFree_any (A : Option Addr) (b o n m c d : Nat) (S : List (List Int)) (xs : List Int) (w : World) (h : RdL (RV RI) w A m S) (h' : RdL RI w (some ⟨b, o, none⟩) n xs) (hS : ∀ s ∈ S, s.length ≤ 1048576) (hnc : n ≤ c) (hn : n ≤ 1048576) :
    Calls Tryz.prog 51 #[.slice A m d, .slice (some ⟨b, o, none⟩) n c] w (Bl w (.bool (freeB S xs))) := by
  have hl : xs.length = n := h'.1
  have HL := Lib.hid hl
  have HB1 := Lib.hid (rdl_bd h')
  have HB2 := Lib.hid (rdl_bd2 h)
  clear hl
  go_enter Tryz.func51, Tryz.ntmps51
  go_wp2_with fail
  go_loopw [9] (fun i wr => ∃ k : Nat, k ≤ n ∧ i = .int .i64 k ∧ Hid (freeTo S xs k = true) ∧ Below w.heap.size w wr) (fun i _ => n - (intOf i).toNat)
  case atStart => exact ⟨0, Nat.zero_le _, by go_num, rfl, Below.refl _ _⟩
  case round =>
    obtain ⟨k, hk, rfl, HF, hT⟩ := hrel
    by_cases hlt : k < n
    · have hk0 : (0 : Int) ≤ (k : Int) := by omega
      have hk1 : (k : Int) < (n : Int) := by omega
      have hx : xs[k]? = some (xs.getD k 0) := by
        have := HL.out
        rw [List.getElem?_eq_getElem (by omega)]
        simp [List.getD, List.getElem?_eq_getElem (show k < xs.length by omega)]
      obtain ⟨x, HX⟩ : ∃ x, Hid (xs.getD k 0 = x) := ⟨_, rfl⟩
      rw [HX.out] at hx
      obtain ⟨b', o', v, e, hc, hr⟩ := h'.2.2 k x hx
      simp only [Option.some.injEq, Addr.mk.injEq, and_true] at e
      obtain ⟨rfl, rfl⟩ := e
      obtain ⟨rfl, hxr⟩ := hr
      have cx : wr.cell? ⟨b, o + k, none⟩ = some (.int .i64 x) := (hT.cell (cell_lt hc)).trans hc
      have HS : Hid (freeTo S xs (k + 1) = !(hasI x (closeL (xs.take k ++ xs.drop (k + 1)) S))) := by show _ = _; rw [freeTo, HF.out, HX.out, Bool.true_and]
      obtain ⟨cl, HC⟩ : ∃ cl, Hid (closeL (xs.take k ++ xs.drop (k + 1)) S = cl) := ⟨_, rfl⟩
      rw [HC.out] at HS
      obtain ⟨r, HR⟩ : ∃ r, Hid (hasI x cl = r) := ⟨_, rfl⟩
      rw [HR.out] at HS
      have hS' := h.next stab_RVI hT
      have hx' := h'.next stab_RI hT
      clear hx hc hxr
      rcases r with _ | _
      · go_wp2_with (first
          | (go_at_call 70; refine (without_any b o n c k xs _ hx' hlt hnc hn).mono ?_; rintro e w1 ⟨A1, n1, c1, rfl, hown1, hb1⟩; have T1 := below_next hT hb1 rfl)
          | (go_at_call 29; refine (closureIn_any _ _ _ _ _ _ S (xs.take k ++ xs.drop (k + 1)) _ (h.next stab_RVI T1) (rd_of_own (R := RI) hown1 (RI_ints fun y hy => HB1.out y ((List.mem_append.1 hy).elim List.mem_of_mem_take List.mem_of_mem_drop))) hS).mono ?_; rintro e w2 ⟨A2, n2, c2, rfl, hown2, hb2⟩; rw [HC.out] at hown2; have T2 := below_next T1 hb2 rfl)
          | (go_at_call 66; refine (hasNot_any _ _ _ cl x _ (rd_of_own (R := RI) hown2 (RI_ints fun y hy => by rw [← HC.out] at hy; exact closeL_bounds HB2.out y hy))).mono ?_; rintro e w3 ⟨rfl, rfl⟩; rw [HR.out]))
        go_roundw
        case rel => exact ⟨k + 1, by omega, by go_num, HS.out, T2⟩
        case measure => simp [intOf]; omega
      · go_wp2_with (first
          | (go_at_call 70; refine (without_any b o n c k xs _ hx' hlt hnc hn).mono ?_; rintro e w1 ⟨A1, n1, c1, rfl, hown1, hb1⟩; have T1 := below_next hT hb1 rfl)
          | (go_at_call 29; refine (closureIn_any _ _ _ _ _ _ S (xs.take k ++ xs.drop (k + 1)) _ (h.next stab_RVI T1) (rd_of_own (R := RI) hown1 (RI_ints fun y hy => HB1.out y ((List.mem_append.1 hy).elim List.mem_of_mem_take List.mem_of_mem_drop))) hS).mono ?_; rintro e w2 ⟨A2, n2, c2, rfl, hown2, hb2⟩; rw [HC.out] at hown2; have T2 := below_next T1 hb2 rfl)
          | (go_at_call 66; refine (hasNot_any _ _ _ cl x _ (rd_of_own (R := RI) hown2 (RI_ints fun y hy => by rw [← HC.out] at hy; exact closeL_bounds HB2.out y hy))).mono ?_; rintro e w3 ⟨rfl, rfl⟩; rw [HR.out]))
        go_ret
        exact ⟨by rw [freeB, HL.out, freeTo_no (j := k + 1) (by omega) HS.out]; rfl, T2⟩
    · obtain rfl : k = n := by omega
      have hk1 : ¬ (k : Int) < (k : Int) := by omega
      go_wp2_with fail
      go_ret
      exact ⟨by rw [freeB, HL.out, HF.out]; rfl, hT⟩
end Go.Proofs.YtlncpabnlnipoaaGreat
namespace Go.Proofs.YtlncpabnlnipoaaGreat
open Go.RowKit

theorem bits_bd : ∀ m, m < 64 → ∀ x ∈ bitsTo m 6, 0 ≤ x ∧ x ≤ 5 := by decide +kernel
/-- The free sets among the first m masks, in the order of the masks. -/
def frees (S : List (List Int)) : Nat → List (List Int)
  | 0 => []
  | m + 1 => frees S m ++ (if freeB S (bitsTo m 6) then [bitsTo m 6] else [])
theorem frees_len (S : List (List Int)) : ∀ m, (frees S m).length ≤ m
  | 0 => Nat.le_refl _
  | m + 1 => by
    have := frees_len S m
    rw [frees, List.length_append]
    split
    · simp; omega
    · simp; omega
theorem frees_bd (S : List (List Int)) : ∀ m, m ≤ 64 → ∀ xs ∈ frees S m, ∀ x ∈ xs, ∀ wz : World, RI wz (.int .i64 x) x
  | 0, _, xs, h, x, hx, wz => by simp [frees] at h
  | m + 1, hm, xs, h, x, hx, wz => by
    rw [frees, List.mem_append] at h
    rcases h with h | h
    · exact frees_bd S m (by omega) xs h x hx wz
    · split at h
      · rw [List.mem_singleton.1 h] at hx
        have := bits_bd m (by omega) x hx
        exact ⟨rfl, by omega, by omega⟩
      · simp at h
set_option maxHeartbeats 1000000 in
theorem isFree_own (A B : Option Addr) (n m c d base : Nat) (S : List (List Int)) (xs : List Int) (w : World) (h : RdL (RV RI) w A m S) (hS : ∀ s ∈ S, s.length ≤ 1048576) (hn : n ≤ 1048576)
    (hown : w.ownsRow base 3 1 (.slice B n c) n (ints xs)) (hb : ∀ x ∈ xs, -9223372036854775808 ≤ x ∧ x ≤ 9223372036854775807) :
    Calls Tryz.prog 51 #[.slice A m d, .slice B n c] w (Bl w (.bool (freeB S xs))) := by
  have hr := rd_of_own (R := RI) hown (RI_ints hb)
  rcases hown.2 with ⟨e, h0⟩ | ⟨g, cap, cur, e, -, -, h1, -⟩
  · subst h0
    obtain rfl : xs = [] := List.eq_nil_of_length_eq_zero hr.1
    clear hown hr hb
    injection e with e1 _ e3
    subst e1
    subst e3
    go_enter Tryz.func51, Tryz.ntmps51
    go_wp2_with fail
    go_loopw [9] (fun i wr => i = .int .i64 0 ∧ Below w.heap.size w wr) (fun _ _ => 0)
    case atStart => exact ⟨rfl, Below.refl _ _⟩
    case round =>
      obtain ⟨rfl, hT⟩ := hrel
      go_wp2_with fail
      go_ret
      exact ⟨rfl, hT⟩
  · injection e with e1 _ e3
    subst e1
    subst e3
    exact isFree_any A g 0 n m c d S xs w h hr hS h1 hn
set_option maxRecDepth 100000 in
set_option maxHeartbeats 4000000 in
theorem implFS_yes (A : Option Addr) (m c n : Nat) (S : List (List Int)) (w : World) (h : RdL (RV RI) w A m S) (hm : m ≤ c) (hS : ∀ s ∈ S, s.length ≤ 1048576) (hn6 : n ≤ 6) (hok : Hid (sysRes (n : Int) S = true)) :
    Calls Tryz.prog 19 #[.int .i64 n, .slice A m c] w fun e w' => ∃ A' q c' yss, e = .returned (.tuple #[.slice A' q c', .bool true]) ∧ OwM 25 3 (.int .i64) w.heap.size w' (.slice A' q c') q yss ∧ yss.Perm (frees S (2 ^ n)) ∧ yss.Pairwise (fun p r => lessT r p = false) ∧ Below w.heap.size w w' := by
  obtain ⟨N, HN⟩ : ∃ N : Nat, Hid (2 ^ n = N) := ⟨_, rfl⟩
  have hN : N ≤ 64 := by rw [← HN.out]; exact Nat.le_trans (Nat.pow_le_pow_right (by decide) hn6) (by decide)
  have HC := Lib.hid (hasSystem_any A m c S n w h hm hS)
  rw [HN.out]
  go_enter Tryz.func19, Tryz.ntmps19
  go_wp2_with (go_at_call 27; refine HC.out.mono ?_; rintro e w1 ⟨rfl, hb1⟩; rw [hok.out])
  go_loopw [6, 7] (fun v j wr => ∃ k : Nat, k ≤ N ∧ j = .int .i64 k ∧ (∃ A' c', v = .slice A' (frees S k).length c' ∧ OwM 25 3 (.int .i64) w.heap.size wr (.slice A' (frees S k).length c') (frees S k).length (frees S k)) ∧ Below w.heap.size w wr) (fun _ j _ => N - (intOf j).toNat)
  case atStart => exact ⟨0, Nat.zero_le _, rfl, ⟨_, 0, rfl, mat_lit hb1⟩, below_next hb1 (below_box _ _) rfl⟩
  case round =>
    clear hb1
    obtain ⟨k, hk, rfl, ⟨A', c', rfl, hown⟩, hT⟩ := hrel
    have hpw : (1 : Int) * 2 ^ n = (N : Int) := by rw [← HN.out]; simp
    have hpw2 : (2 : Int) ^ n = (N : Int) := by rw [← HN.out]; simp
    have hfl := frees_len S k
    by_cases hlt : k < N
    · have hk1 : (k : Int) < (N : Int) := by omega
      have HST : Hid (frees S (k + 1) = frees S k ++ (if freeB S (bitsTo k 6) then [bitsTo k 6] else [])) := rfl
      have hbl := bits_len k (by omega) 6 (by omega)
      have HBB : Hid (∀ x ∈ bitsTo k 6, -9223372036854775808 ≤ x ∧ x ≤ 9223372036854775807) := fun x hx => by
        have := bits_bd k (by omega) x hx
        omega
      obtain ⟨acc, HA⟩ : ∃ acc, Hid (frees S k = acc) := ⟨_, rfl⟩
      obtain ⟨xs, HX⟩ : ∃ xs, Hid (bitsTo k 6 = xs) := ⟨_, rfl⟩
      rw [HA.out] at hown hfl HST ⊢
      rw [HX.out] at hbl HBB HST
      have HB1 := bitsOf_any k wr (by omega)
      rw [HX.out] at HB1
      have HB := Lib.hid HB1
      clear HB1
      have hT2 := hT.size
      go_upto_region 8 with (go_at_call 50; refine HB.out.mono ?_; rintro e w4 ⟨A4, c4, rfl, how4, hb4⟩)
      have hT4 := below_next hT hb4 rfl
      have hsz4 := hT4.size
      obtain ⟨r, HR⟩ : ∃ r, Hid (freeB S xs = r) := ⟨_, rfl⟩
      have HF := Lib.hid (isFree_own A A4 xs.length m c4 c wr.heap.size S xs w4 (h.next stab_RVI hT4) hS (by omega) how4 HBB.out)
      rw [HR.out] at HST
      rcases r with _ | _
      · have HS2 : Hid (frees S (k + 1) = acc) := by show _ = _; rw [HST.out]; simp
        have hown4 := hown.next hb4
        go_wp2_with (go_at_call 51; refine HF.out.mono ?_; rintro e w5 ⟨rfl, hb5⟩; rw [HR.out])
        go_roundw
        case rel => exact ⟨k + 1, by omega, by go_num, ⟨A', c', by rw [HS2.out], by rw [HS2.out]; exact hown4.next hb5⟩, below_next hT4 hb5 rfl⟩
        case measure => simp [intOf]; omega
      · have HS2 : Hid (frees S (k + 1) = acc ++ [xs]) := by show _ = _; rw [HST.out]; simp
        go_upto_region 9 with (go_at_call 51; refine HF.out.mono ?_; rintro e w5 ⟨rfl, hb5⟩; rw [HR.out])
        have hb45 := below_next hb4 hb5 rfl
        obtain ⟨vs, hvs, HPU⟩ := hown.push (by decide) hb45 hT2 (own_next how4 hb5)
        have hT5 := below_next hT4 hb5 rfl
        have hsz5 := hT5.size
        go_wp2_with (at_builtin; refine app1 w5 rfl _ _ 24 25 rfl (.slice none 0 0) 24 Tryz.underlying24 info_ints rfl (by decide) w.heap.size acc.length c' A' vs rfl hvs (.slice A4 xs.length c4) rfl rfl (by omega) hsz5 ?_; intro A2 c2 w6 hown6 hg6 hb6)
        go_roundw
        case rel => exact ⟨k + 1, by omega, by go_num, ⟨A2, c2, by rw [HS2.out, List.length_append]; rfl, by rw [HS2.out, List.length_append]; exact HPU hown6 hg6⟩, hT5.trans hb6⟩
        case measure => simp [intOf]; omega
    · obtain rfl : k = N := by omega
      have hk1 : ¬ (k : Int) < (k : Int) := by omega
      have HBD := Lib.hid (frees_bd S k hN)
      go_wp2_with (go_at_call 52; refine (sortRows_any w.heap.size A' c' (frees S k).length (frees S k) wr hown hT.size HBD.out (by omega)).mono ?_; rintro e w5 ⟨rfl, yss, hM, hP, hW, hb5⟩)
      go_ret2
      exact ⟨_, _, _, yss, rfl, hM, hP, hW, hT.trans hb5⟩
end Go.Proofs.YtlncpabnlnipoaaGreat
