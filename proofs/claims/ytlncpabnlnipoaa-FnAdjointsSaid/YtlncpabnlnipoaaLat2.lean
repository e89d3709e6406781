
/- Walks: the meets of an order (the program's meetTable and dual). -/
import Derived.Test.YtlncpabnlnipoaaLat
namespace Go.Proofs.Ytlncpabnlnipoaa
open Go.RowKit

set_option maxRecDepth 20000 in
set_option maxHeartbeats 1000000 in
theorem mtClo_any (B : Option Addr) (n d : Nat) (F : Nat → Nat → Bool) (z x y g1 g2 g3 : Nat) (w : World) (hr : RdL (RV RB) w B n (tab n F)) (hz : z < n) (hx : x < n) (hy : y < n)
    (c1 : w.cell? ⟨g1, 0, none⟩ = some (.slice B n d)) (c2 : w.cell? ⟨g2, 0, none⟩ = some (.int .i64 x)) (c3 : w.cell? ⟨g3, 0, none⟩ = some (.int .i64 y)) :
    Calls Try.prog 68 #[.int .i64 z, .pointer (some ⟨g1, 0, none⟩), .pointer (some ⟨g2, 0, none⟩), .pointer (some ⟨g3, 0, none⟩)] w (Qt w (.bool (mtF F x z y))) := by
  have hle := hr.le
  obtain ⟨b2, o2, rfl⟩ := hr.addr hz
  obtain ⟨r2, p2, d2, hc2, hall2⟩ := hr.rowT hz
  have hkx := hall2 x hx
  have hky := hall2 y hy
  have hx0 : (0 : Int) ≤ (x : Int) := by omega
  have hx1 : (x : Int) < (n : Int) := by omega
  have hy0 : (0 : Int) ≤ (y : Int) := by omega
  have hy1 : (y : Int) < (n : Int) := by omega
  have hz0 : (0 : Int) ≤ (z : Int) := by omega
  have hz1 : (z : Int) < (n : Int) := by omega
  clear hall2
  rcases h1 : F z x with _ | _
  all_goals
    rcases h2 : F z y with _ | _
    all_goals
      rw [h1] at hkx
      rw [h2] at hky
      have H : Hid (∀ v, v = (F z x && F z y) → v = mtF F x z y) := fun v h => h
      have H1 := Lib.hid h1
      have H2 := Lib.hid h2
      clear h1 h2
      go_enter Try.func68, Try.ntmps68
      go_wp2
      go_quiet (fail)
      go_wp2
      go_ret
      exact ⟨ret_bool (H.out _ (by rw [H1.out, H2.out]; rfl)), (by first | exact Drawn.zero _ | exact Drawn.at_ _ _ | exact (Drawn.at_ _ _).more _ | exact ((Drawn.at_ _ _).more _).more _)⟩

set_option maxRecDepth 20000 in
set_option maxHeartbeats 1000000 in
theorem thoseM_any (A B : Option Addr) (n c d : Nat) (F : Nat → Nat → Bool) (x y g1 g2 g3 : Nat) (w : World) (hr : RdL (RV RB) w B n (tab n F)) (hn : n ≤ 1048576) (hx : x < n) (hy : y < n)
    (c1 : w.cell? ⟨g1, 0, none⟩ = some (.slice B n d)) (c2 : w.cell? ⟨g2, 0, none⟩ = some (.int .i64 x)) (c3 : w.cell? ⟨g3, 0, none⟩ = some (.int .i64 y)) :
    Calls Try.prog 31 #[.slice A n c, .func (.func 68) #[] #[.pointer (some ⟨g1, 0, none⟩), .pointer (some ⟨g2, 0, none⟩), .pointer (some ⟨g3, 0, none⟩)]] w fun e w' => ∃ A' n' c', e = .returned (.slice A' n' c') ∧ (rowTo (mtF F x) y n).length = n' ∧ w'.ownsRow w.heap.size 3 1 (.slice A' n' c') n' (ints (rowTo (mtF F x) y n)) ∧ Below w.heap.size w w' := by
  go_enter Try.func31, Try.ntmps31
  go_wp2
  go_loopw [5, 10] (fun v i wr => ∃ (k m : Nat) (acc : List Int), k ≤ n ∧ m ≤ k ∧ i = .int .i64 k ∧ acc = rowTo (mtF F x) y k ∧ Gat w.heap.size w wr v m acc) (fun _ i _ => n - (intOf i).toNat)
  case atStart => exact ⟨0, 0, [], Nat.zero_le _, Nat.le_refl _, rfl, rfl, _, _, rfl, rfl, World.ownsRow_lit _ _ _ (Nat.le_refl _) (Nat.zero_le _) rfl, below_box _ _⟩
  case round =>
    obtain ⟨k, m', acc, hk, hmk, rfl, hacc2, A', c', rfl, hacc, hown, hT⟩ := hrel
    replace hr := hr.next stab_RVB hT
    replace c1 := keepc hT c1
    replace c2 := keepc hT c2
    replace c3 := keepc hT c3
    have HA := Lib.hid hacc
    have HA2 := Lib.hid hacc2
    clear hacc hacc2
    by_cases hlt : k < n
    · have hbase := hT.size
      have hk1 : (k : Int) < (n : Int) := by omega
      go_wp2_with fail
      refine (mtClo_any _ _ _ F k x y g1 g2 g3 _ hr hlt hx hy c1 c2 c3).mono ?_
      rintro e w2 ⟨rfl, z, rfl⟩
      rcases hb : mtF F x k y with _ | _
      · have HB := Lib.hid hb
        go_wp2_with fail
        go_roundw
        case rel => exact ⟨k + 1, m', acc, by omega, by omega, by go_num, by rw [rowTo_succ, if_neg (by rw [HB.out]; decide)]; exact HA2.out, A', c', rfl, HA.out, own_drewN hown z, below_drewN hT z⟩
        case measure => simp [intOf]; omega
      · have HB := Lib.hid hb
        have hown1 := own_drewN hown z
        have hT1 := below_drewN hT z
        have hbase1 := hT1.size
        obtain ⟨w3, hw3⟩ : ∃ w3, w3 = wr.drewN z := ⟨_, rfl⟩
        rw [← hw3] at hown1 hT1 hbase1 ⊢
        clear hw3
        go_wp2_with (at_builtin; refine app1 w3 rfl _ _ 27 3 rfl (.int .i64 0) 8 Try.underlying27 info_int rfl (by decide) w.heap.size m' c' A' (ints acc) rfl hown1 (.int .i64 k) rfl rfl (by omega) hbase1 ?_; intro A2 c2 w2 hown2 hg2 hb2)
        go_roundw
        case rel => exact ⟨k + 1, m' + 1, acc ++ [(k : Int)], by omega, by omega, by go_num, by rw [rowTo_succ, if_pos HB.out, HA2.out], A2, c2, rfl, by simp [HA.out], by rw [ints_snoc]; exact hown2, hT1.trans hb2⟩
        case measure => simp [intOf]; omega
    · obtain rfl : k = n := by omega
      have hlt' : ¬ (k : Int) < (k : Int) := by omega
      go_wp2
      go_ret
      exact ⟨_, _, _, rfl, by rw [← HA2.out]; exact HA.out, by rw [← HA2.out]; exact hown, hT⟩

def mtRow (F : Nat → Nat → Bool) (n x q : Nat) : List Int := (List.range q).map fun y => mt F n x y
theorem mtRow_succ (F : Nat → Nat → Bool) (n x q : Nat) : mtRow F n x (q + 1) = mtRow F n x q ++ [mt F n x q] := by simp [mtRow, List.range_succ]
theorem mtRow_len (F : Nat → Nat → Bool) (n x q : Nat) : (mtRow F n x q).length = q := by simp [mtRow]
theorem mtRow_get {F : Nat → Nat → Bool} {n x q y : Nat} (h : y < q) : (mtRow F n x q)[y]? = some (mt F n x y) := by simp [mtRow, List.getElem?_range h]
def mtTab (F : Nat → Nat → Bool) (n k : Nat) : List (List Int) := (List.range k).map fun x => mtRow F n x n
theorem mtTab_succ (F : Nat → Nat → Bool) (n k : Nat) : mtTab F n (k + 1) = mtTab F n k ++ [mtRow F n k n] := by simp [mtTab, List.range_succ]
theorem mtTab_get {F : Nat → Nat → Bool} {n k x : Nat} (h : x < k) : (mtTab F n k)[x]? = some (mtRow F n x n) := by simp [mtTab, List.getElem?_range h]
theorem mtTab_bounds {w : World} {F : Nat → Nat → Bool} {n k : Nat} (hn : n ≤ 1048576) : ∀ xs ∈ mtTab F n k, ∀ x ∈ xs, RI w (.int .i64 x) x := by
  intro xs hxs x hx
  unfold mtTab at hxs
  rw [List.mem_map] at hxs
  obtain ⟨i, -, rfl⟩ := hxs
  unfold mtRow at hx
  rw [List.mem_map] at hx
  obtain ⟨y, -, rfl⟩ := hx
  have := mt_in (F := F) (n := n) (x := i) (y := y)
  exact ⟨rfl, by omega, by omega⟩

def MtE (w : World) (n : Nat) (F : Nat → Nat → Bool) (e : Ending) (w' : World) : Prop :=
  ∃ A m c, e = .returned (.tuple #[.slice A m c, .bool (tt (MeetP F n))]) ∧ (MeetP F n → m = n ∧ RdL (RV RI) w' A n (mtTab F n n)) ∧ Below w.heap.size w w'

set_option maxRecDepth 20000 in
set_option maxHeartbeats 4000000 in
theorem meetTable_any (A : Option Addr) (n c : Nat) (F : Nat → Nat → Bool) (w : World) (h : RdL (RV RB) w A n (tab n F)) (hn : n ≤ 1048576) :
    Calls Try.prog 55 #[.slice A n c] w (MtE w n F) := by
  have hle := h.le
  have h2 := below_box2 w (.cells #[.slice A n c] 58) (.cells #[] 27)
  have hl := mat_lit (w := w) (below_box w (.cells #[.slice A n c] 58))
  have hs1 : (w.alloc (.cells #[.slice A n c] 58)).heap.size = w.heap.size + 1 := by simp
  rw [hs1] at hl
  have BO : Blk ((w.alloc (.cells #[.slice A n c] 58)).alloc (.cells #[] 27)) w.heap.size 58 #[.slice A n c] := (Blk.new w 58 #[.slice A n c]).alloc _
  have cO := BO.c0
  clear hs1
  go_enter Try.func55, Try.ntmps55
  go_wp2
  clear cO
  go_loopw [4, 12] (fun v i wr => ∃ (k : Nat) (A' : Option Addr) (c' : Nat), k ≤ n ∧ i = .int .i64 k ∧ v = .slice A' k c' ∧ Hid (∀ x < k, ∀ y < n, 0 ≤ mt F n x y) ∧ Blk wr w.heap.size 58 #[.slice A n c] ∧ OwM 27 3 (.int .i64) w.heap.size wr (.slice A' k c') k (mtTab F n k) ∧ Below w.heap.size w wr) (fun _ i _ => n - (intOf i).toNat)
  case atStart => exact ⟨0, _, _, Nat.zero_le _, rfl, rfl, upto0, BO, hl, (below_box2 _ _ _)⟩
  case round =>
    clear BO hl h2
    obtain ⟨k, A', c', hk, rfl, rfl, HH, BO, hown, hT⟩ := hrel
    replace h := h.next stab_RVB hT
    by_cases hlt : k < n
    · have hk1 : (k : Int) < (n : Int) := by omega
      obtain ⟨wo, hwo⟩ : ∃ wo : World, wo = wr := ⟨_, rfl⟩
      subst hwo
      obtain ⟨w5, hw5, T5, hs5, BK⟩ := boxes1a wo #[.int .i64 k] 3
      have HW5 := Lib.hid hw5
      have O5 : (w5.alloc (.cells #[] 3)).ownsRow w5.heap.size 3 1 (.slice (some ⟨wo.heap.size + 1, 0, none⟩) 0 0) 0 (ints (mtRow F n k 0)) := by
        rw [← hs5]
        exact World.ownsRow_lit _ _ _ (Nat.le_refl _) (Nat.zero_le _) rfl
      have cO5 := ((BO.next T5).next (below_box w5 (.cells #[] 3))).c0
      rw [HW5.out] at cO5
      clear hw5 hs5
      go_wp2
      clear cO5
      go_loopw [6, 18] (fun v i wi => ∃ (q : Nat) (A2 : Option Addr) (c2 : Nat), q ≤ n ∧ i = .int .i64 q ∧ v = .slice A2 q c2 ∧ Hid (∀ y < q, 0 ≤ mt F n k y) ∧ wi.ownsRow w5.heap.size 3 1 (.slice A2 q c2) q (ints (mtRow F n k q)) ∧ Below w5.heap.size w5 wi) (fun _ i _ => n - (intOf i).toNat)
      case atStart =>
        rw [← HW5.out]
        exact ⟨0, _, _, Nat.zero_le _, rfl, rfl, upto0, O5, below_box _ _⟩
      case round =>
        clear O5
        obtain ⟨q, A2, c2, hq, rfl, rfl, HQ, hrow, hTi⟩ := hrel
        have hTiw := below_next T5 hTi rfl
        by_cases hltq : q < n
        · have hq1 : (q : Int) < (n : Int) := by omega
          obtain ⟨w7, hw7, T7, -, BQ⟩ := boxes1a wr #[.int .i64 q] 3
          have HW7 := Lib.hid hw7
          clear hw7
          have cO7 := ((BO.next hTiw).next T7).c0
          have cK7 := ((BK.next hTi).next T7).c0
          have cQ7 := BQ.c0
          have hr7 := (h.next stab_RVB hTiw).next stab_RVB T7
          obtain ⟨V, HV⟩ : ∃ V, Hid (mt F n k q = V) := ⟨_, rfl⟩
          have HC1 : ∀ wz, Below w7.heap.size w7 wz → Calls Try.prog 31 #[.slice A n c, .func (.func 68) #[] #[.pointer (some ⟨w.heap.size, 0, none⟩), .pointer (some ⟨_, 0, none⟩), .pointer (some ⟨_, 0, none⟩)]] wz _ := fun wz hz => thoseM_any A A n c c F k q _ _ _ wz (hr7.next stab_RVB hz) hn hlt hltq (keepc hz cO7) (keepc hz cK7) (keepc hz cQ7)
          have HC2 : ∀ wz A6 n6 c6, Below w7.heap.size w7 wz → RdL RI wz A6 n6 (rowTo (mtF F k) q n) → Calls Try.prog 30 #[.slice A n c, .slice A6 n6 c6] wz (Qt wz (.int .i64 V)) := fun wz A6 n6 c6 hz h6 => by
            have := greatest_any A A6 n c n6 c6 F _ wz (hr7.next stab_RVB hz) h6 row_in
            rw [← HV.out]
            exact this
          have Tk : Below w7.heap.size w7 w7 := Below.refl _ _
          go_upto_region 9 with fail
          rw [← HW7.out]
          go_cut [8] (fun v8 wx => v8 = .int .i64 V ∧ Below w7.heap.size w7 wx)
          case first =>
            go_region_held3 (fun w' => w'.cell? ⟨w.heap.size, 0, none⟩ = some (.slice A n c)) (first | go_keep | exact keepc Tk cO7) (first
              | (go_at_call 31; (with_reducible refine (HC1 _ ?_).mono ?_); (first | exact Tk | exact Below.drew Tk); rintro e wn ⟨A6, n6, c6, rfl, hl6, ho6, hbn⟩; have R6 := rd_of_own (R := RI) ho6 (RI_ints fun v hv => by have := row_in v hv; omega); replace Tk := below_next (by first | exact Tk | exact Below.drew Tk) hbn rfl)
              | (go_at_call 30; (with_reducible refine (HC2 _ _ _ _ ?_ ?_).mono ?_); (first | exact Tk | exact Below.drew Tk); (first | exact R6 | exact R6.drew stab_RI); rintro e wn ⟨rfl, z, rfl⟩; replace Tk := below_drewN (by first | exact Tk | exact Below.drew Tk) z))
            all_goals
              go_wp2_with fail
              go_meet
              exact ⟨rfl, by first | exact Tk | exact Below.drew Tk⟩
          case rest =>
            obtain ⟨rfl, hbc⟩ := hcut
            have hT7 := below_next hTi (below_next T7 hbc rfl) rfl
            have hrow7 := own_next hrow (below_next T7 hbc rfl)
            have hTw7 := below_next hT (below_next T5 hT7 rfl) rfl
            have hs7 := hT7.size
            obtain ⟨w8, HWC⟩ : ∃ wq : World, wq = wc := ⟨_, rfl⟩
            subst HWC
            clear hbc
            rcases mt_in (F := F) (n := n) (x := k) (y := q) with hv | hv
            · have HNO : Hid (¬ MeetP F n) := fun hh => by have := hh k hlt q hltq; omega
              rw [HV.out] at hv
              subst hv
              go_wp2_with fail
              go_ret2
              exact ⟨none, 0, 0, by rw [← tt_false HNO.out]; rfl, fun hg => absurd hg HNO.out, hTw7⟩
            · rw [HV.out] at hv
              have hv0 : ¬ V < 0 := by omega
              go_wp2_with (at_builtin; refine app1 w8 rfl _ _ 27 3 rfl (.int .i64 0) 8 Try.underlying27 info_int rfl (by decide) w5.heap.size q c2 A2 (ints (mtRow F n k q)) rfl hrow7 (.int .i64 V) rfl rfl (by omega) hs7 ?_; intro A9 c9 w9 hown9 hg9 hb9)
              go_roundw
              case rel => exact ⟨q + 1, A9, c9, by omega, by go_num, rfl, upto HQ.out (by rw [HV.out]; omega), by rw [mtRow_succ, ints_snoc, HV.out]; exact hown9, hT7.trans hb9⟩
              case measure => simp [intOf]; omega
        · obtain rfl : q = n := by omega
          have hlt' : ¬ (q : Int) < (q : Int) := by omega
          have BO' := BO.next hTiw
          have hT2 := below_next hT hTiw rfl
          have hsz := hT2.size
          obtain ⟨vs, hvs, HPU⟩ := hown.push (by decide) hTiw hT.size (xs := mtRow F q k q) (u := .slice A2 q c2) (by rw [mtRow_len]; exact own_lowB hrow T5.size)
          go_wp2_with (at_builtin; refine app1 wr rfl _ _ 24 27 rfl (.slice none 0 0) 24 Try.underlying24 info_ints rfl (by decide) w.heap.size k c' A' vs rfl hvs (.slice A2 q c2) rfl rfl (by omega) hsz ?_; intro A9 c9 w9 hown9 hg9 hb9; have BO9 := BO'.grown hg9 (fun e => own_far hvs BO' (by decide) e.symm))
          go_roundw
          case rel => exact ⟨k + 1, A9, c9, by omega, by go_num, rfl, upto HH.out HQ.out, BO9, by rw [mtTab_succ]; exact HPU hown9 hg9, hT2.trans hb9⟩
          case measure => simp [intOf]; omega
    · obtain rfl : k = n := by omega
      have hlt' : ¬ (k : Int) < (k : Int) := by omega
      have HE : Hid (MeetP F k) := HH.out
      have hrd := hown.rd (R := RI) (mtTab_bounds hn)
      go_wp2
      go_ret2
      exact ⟨A', k, c', by rw [← tt_true HE.out]; rfl, fun _ => ⟨rfl, hrd⟩, hT⟩
end Go.Proofs.Ytlncpabnlnipoaa
namespace Go.Proofs.Ytlncpabnlnipoaa
open Go.RowKit

/-- The dual as far as it is laid: k rows, and j of the next. -/
def Dto (F : Nat → Nat → Bool) (k j : Nat) : Nat → Nat → Bool := fun x y => (decide (x < k) || (decide (x = k) && decide (y < j))) && F y x
theorem Dto_zero {n : Nat} (F : Nat → Nat → Bool) : tab n (Dto F 0 0) = tab n (fun _ _ => false) := by
  refine tab_ext fun y _ x _ => ?_
  unfold Dto
  simp
theorem Dto_step {n : Nat} (F : Nat → Nat → Bool) {k j : Nat} {b : Bool} (hb : F j k = b) : tab n (upd (Dto F k j) k j b) = tab n (Dto F k (j + 1)) := by
  refine tab_ext fun x _ y _ => ?_
  unfold upd Dto
  by_cases hx : x = k
  · subst hx
    by_cases hy : y = j
    · subst hy
      simp [hb]
    · by_cases h1 : y < j
      · simp [hy, h1, show y < j + 1 by omega]
      · simp [hy, h1, show ¬ y < j + 1 by omega]
  · simp [hx]
theorem Dto_next {n : Nat} (F : Nat → Nat → Bool) {k : Nat} : tab n (Dto F k n) = tab n (Dto F (k + 1) 0) := by
  refine tab_ext fun x _ y hy => ?_
  unfold Dto
  by_cases hx : x = k
  · subst hx
    simp [hy]
  · by_cases h1 : x < k
    · simp [h1, show x < k + 1 by omega]
    · simp [h1, hx, show ¬ x < k + 1 by omega]
theorem Dto_all {n : Nat} (F : Nat → Nat → Bool) : tab n (Dto F n 0) = tab n (duF F) := by
  refine tab_ext fun x hx y _ => ?_
  unfold Dto duF
  simp [hx]

set_option maxRecDepth 20000 in
set_option maxHeartbeats 1000000 in
theorem dual_any (A : Option Addr) (n c : Nat) (F : Nat → Nat → Bool) (w : World) (h : RdL (RV RB) w A n (tab n F)) (hn : n ≤ 1048576) :
    Calls Try.prog 56 #[.slice A n c] w fun e w' => ∃ g, e = .returned (.slice (some ⟨g, 0, none⟩) n n) ∧ RdL (RV RB) w' (some ⟨g, 0, none⟩) n (tab n (duF F)) ∧ Below w.heap.size w w' := by
  have hle := h.le
  go_enter Try.func56, Try.ntmps56
  go_wp2_with fail
  refine (newOrder_any n _ hn).mono ?_
  rintro e w2 ⟨g, rfl, ho2, hb2⟩
  have ho : OwT w.heap.size w2 g n (Dto F 0 0) := by
    show OwM _ _ _ _ _ _ _ (tab n (Dto F 0 0))
    rw [Dto_zero]
    exact ho2
  clear ho2
  go_wp2_with fail
  go_loopw [11] (fun i wr => ∃ k : Nat, k ≤ n ∧ i = .int .i64 k ∧ OwT w.heap.size wr g n (Dto F k 0) ∧ Below w.heap.size w wr) (fun i _ => n - (intOf i).toNat)
  case atStart => exact ⟨0, Nat.zero_le _, rfl, ho, hb2⟩
  case round =>
    clear ho hb2
    obtain ⟨k, hk, rfl, ho, hT⟩ := hrel
    by_cases hlt : k < n
    · have hk0 : (0 : Int) ≤ (k : Int) := by omega
      have hk1 : (k : Int) < (n : Int) := by omega
      go_wp2_with fail
      go_loopw [16] (fun i wi => ∃ q : Nat, q ≤ n ∧ i = .int .i64 q ∧ OwT w.heap.size wi g n (Dto F k q) ∧ Below w.heap.size w wi) (fun i _ => n - (intOf i).toNat)
      case atStart => exact ⟨0, Nat.zero_le _, rfl, ho, hT⟩
      case round =>
        clear ho hT
        obtain ⟨q, hq, rfl, ho, hT⟩ := hrel
        by_cases hltq : q < n
        · have hq0 : (0 : Int) ≤ (q : Int) := by omega
          have hq1 : (q : Int) < (n : Int) := by omega
          obtain ⟨b, o, r2, p2, d2, rfl, hc1, hc2⟩ := (h.next stab_RVB hT).atT hltq hlt
          obtain ⟨r, dr, hgr, hcell, hlo, hrl, hcs, hset⟩ := ho.get hlt
          obtain ⟨hcq, hfq⟩ := hcs q hltq
          have hst := hset q (F q k) hltq
          have hLS := Lib.hid (Dto_step (n := n) F (k := k) (j := q) rfl)
          clear hcs hset
          go_upto_region 8 with fail
          go_region
          go_wp2_with fail
          go_roundw
          case rel => exact ⟨q + 1, by omega, by go_num, by
            show OwM _ _ _ _ _ _ _ (tab n (Dto F k (q + 1)))
            rw [← hLS.out]
            first | exact hst | exact OwM.next hst (Below.drew (Below.refl _ _)), by first | exact hT.setCell (p := ⟨r, q, none⟩) hlo _ | exact Below.drew (hT.setCell (p := ⟨r, q, none⟩) hlo _)⟩
          case measure => simp [intOf]; omega
        · obtain rfl : q = n := by omega
          have hlt' : ¬ (q : Int) < (q : Int) := by omega
          go_wp2_with fail
          go_roundw
          case rel => exact ⟨k + 1, by omega, by go_num, by
            show OwM _ _ _ _ _ _ _ (tab q (Dto F (k + 1) 0))
            rw [← Dto_next F]
            exact ho, hT⟩
          case measure => simp [intOf]; omega
    · obtain rfl : k = n := by omega
      have hlt' : ¬ (k : Int) < (k : Int) := by omega
      have ho' : OwM 64 4 Value.bool w.heap.size wr (.slice (some ⟨g, 0, none⟩) k k) k (tab k (duF F)) := by
        rw [← Dto_all F]
        exact ho
      have hrd := ho'.rd (R := RB) (fun xs _ x _ => rfl)
      go_wp2_with fail
      go_ret
      exact ⟨_, rfl, hrd, hT⟩
end Go.Proofs.Ytlncpabnlnipoaa
namespace Go.Proofs.Ytlncpabnlnipoaa
open Go.RowKit

def LatE (w : World) (n : Nat) (xss : List (List Int)) (e : Ending) (w' : World) : Prop :=
  ∃ v, e = .returned (.tuple #[v, .bool (tt (GoodP xss ∧ LatP (leF xss) n))]) ∧ (GoodP xss ∧ LatP (leF xss) n → ∃ g A1 c1 A2 c2 A3 m3 c3, v = .pointer (some ⟨g, 0, none⟩) ∧ Blk w' g 72 #[.slice A1 n c1, .slice A2 n c2, .slice A3 m3 c3] ∧ RdL (RV RB) w' A1 n (tab n (leF xss)) ∧ RdL (RV RI) w' A2 n (mtTab (leF xss) n n)) ∧ Below w.heap.size w w'

set_option maxRecDepth 20000 in
set_option maxHeartbeats 2000000 in
theorem latticeOf_any (A : Option Addr) (n c : Nat) (xss : List (List Int)) (w : World) (h : RdL (RV RI) w A n xss) : Calls Try.prog 37 #[.agg #[.slice A n c]] w (LatE w n xss) := by
  have hle := h.le
  have hb0 := below_box w (.cells #[.slice A n c] 26)
  have BX := Blk.new w 26 #[.slice A n c]
  have c0 := BX.c0
  have h0 := h.next stab_RVI hb0
  rcases h1 : tt (GoodP xss) with _ | _
  · have H1 := Lib.hid h1
    have HN : Hid (¬ (GoodP xss ∧ LatP (leF xss) n)) := fun hh => by rw [← tt_true hh.1] at h1; cases h1
    clear h1
    go_enter Try.func37, Try.ntmps37
    go_wp2_with fail
    refine (orderOf_any _ _ _ _ _ h0).mono ?_
    rintro e w2 ⟨A1, m1, c1, rfl, -, hb1⟩
    rw [H1.out]
    have T1 := below_next hb0 hb1 rfl
    go_wp2_with fail
    go_ret2
    exact ⟨_, by rw [← tt_false HN.out]; rfl, fun hg => absurd hg HN.out, T1⟩
  · have hg := tt_iff.1 h1
    have HG := Lib.hid hg
    have H1 := Lib.hid h1
    have hn10 : n ≤ 10 := by rw [← h.len]; exact hg.1
    clear h1 hg
    by_cases hn0 : n = 0
    · have HN : Hid (¬ (GoodP xss ∧ LatP (leF xss) n)) := fun hh => hh.2.1 hn0
      subst hn0
      go_enter Try.func37, Try.ntmps37
      go_wp2_with fail
      refine (orderOf_any _ _ _ _ _ h0).mono ?_
      rintro e w2 ⟨A1, m1, c1, rfl, hr1, hb1⟩
      rw [H1.out]
      obtain ⟨rfl, -⟩ := hr1 HG.out
      have T1 := below_next hb0 hb1 rfl
      go_wp2_with fail
      go_ret2
      exact ⟨_, by rw [← tt_false HN.out]; rfl, fun hg => absurd hg HN.out, T1⟩
    · have hn0' : ¬ (n : Int) = 0 := by omega
      obtain ⟨F, HF⟩ : ∃ F, Hid (leF xss = F) := ⟨_, rfl⟩
      have HR : Hid (∀ a b, tt (MeetP F n) = a → tt (MeetP (duF F) n) = b → (a && b) = tt (GoodP xss ∧ LatP (leF xss) n)) := by
        intro a b ha hb
        rw [← ha, ← hb, HF.out, Bool.eq_iff_iff, Bool.and_eq_true, tt_iff, tt_iff, tt_iff]
        exact ⟨fun hh => ⟨HG.out, hn0, hh.1, hh.2⟩, fun hh => ⟨hh.2.2.1, hh.2.2.2⟩⟩
      have HNE := Lib.hid hn0
      clear hn0
      rcases ha : tt (MeetP F n) with _ | _
      all_goals
        rcases hb : tt (MeetP (duF F) n) with _ | _
        all_goals
          have HA := Lib.hid ha
          have HB := Lib.hid hb
          clear ha hb
          go_enter Try.func37, Try.ntmps37
          go_wp2_with fail
          refine (orderOf_any _ _ _ _ _ h0).mono ?_
          rintro e w2 ⟨A1, m1, c1, rfl, hr1, hb1⟩
          rw [H1.out]
          obtain ⟨rfl, r1⟩ := hr1 HG.out
          rw [HF.out] at r1
          have T1 := below_next hb0 hb1 rfl
          clear hr1 hb1
          go_wp2_with fail
          refine (meetTable_any _ _ _ F _ r1 (by omega)).mono ?_
          rintro e w3 ⟨A2, m2, c2, rfl, hr2, hb2⟩
          rw [HA.out]
          have HR2 := Lib.hid hr2
          have T2 := below_next T1 hb2 rfl
          replace r1 := r1.next stab_RVB hb2
          clear hr2
          go_wp2_with fail
          refine (dual_any _ _ _ F _ r1 (by omega)).mono ?_
          rintro e w4 ⟨g4, rfl, r4, hb4⟩
          have T4 := below_next T2 hb4 rfl
          replace r1 := r1.next stab_RVB hb4
          go_wp2_with fail
          refine (meetTable_any _ _ _ (duF F) _ r4 (by omega)).mono ?_
          rintro e w5 ⟨A3, m3, c3, rfl, -, hb5⟩
          rw [HB.out]
          have T5 := below_next T4 hb5 rfl
          replace r1 := r1.next stab_RVB hb5
          go_wp2_with fail
          go_ret2
          refine ⟨_, by rw [← HR.out _ _ HA.out HB.out]; rfl, fun hg => ?_, below_next T5 (below_box _ _) rfl⟩
          first
            | (exfalso
               have := HR.out _ _ HA.out HB.out
               rw [← tt_true hg] at this
               exact absurd this (by decide))
            | (obtain ⟨rfl, r2⟩ := HR2.out (tt_iff.1 HA.out)
               refine ⟨_, A1, c1, A2, c2, A3, m3, c3, rfl, Blk.new _ _ _, ?_, ?_⟩
               · rw [HF.out]
                 exact r1.next stab_RVB (below_box _ _)
               · rw [HF.out]
                 exact (((r2.next stab_RVI hb4).next stab_RVI hb5).next stab_RVI (below_box _ _)))

set_option maxRecDepth 20000 in
set_option maxHeartbeats 1000000 in
theorem bottom_any (A1 A2 A3 : Option Addr) (g n c1 c2 m3 c3 : Nat) (F : Nat → Nat → Bool) (w : World) (B : Blk w g 72 #[.slice A1 n c1, .slice A2 n c2, .slice A3 m3 c3]) (r2 : RdL (RV RI) w A2 n (mtTab F n n)) (hO : OrdP n F) (hM : MeetP F n) (hn : n ≠ 0) :
    Calls Try.prog 39 #[.pointer (some ⟨g, 0, none⟩)] w fun e w' => e = .returned (.int .i64 (bot F n : Nat)) ∧ w = w' := by
  have hle := r2.le
  have q0 := B.cell 0
  have q1 := B.cell 1
  simp at q0 q1
  have HO := Lib.hid hO
  have HM := Lib.hid hM
  have HN := Lib.hid hn
  clear hO hM hn
  go_enter Try.func39, Try.ntmps39
  go_wp2
  go_loop [3, 10] (fun b i => ∃ k : Nat, k ≤ n ∧ i = .int .i64 k ∧ b = .int .i64 (botTo F n k)) (fun _ i => n - (intOf i).toNat)
  case atStart => exact ⟨0, Nat.zero_le _, rfl, rfl⟩
  case round =>
    obtain ⟨k, hk, rfl, rfl⟩ := hrel
    obtain ⟨b, HB⟩ : ∃ b, Hid (botTo F n k = b) := ⟨_, rfl⟩
    by_cases hlt : k < n
    · have hbn : b < n := by rw [← HB.out]; exact (botTo_ok HO.out HM.out HN.out k hk).1
      obtain ⟨bb, oo, v, row, rfl, hc, ⟨B3, m, d, rfl, hr⟩, -, hx⟩ := r2.at hbn
      rw [mtTab_get hbn] at hx
      injection hx with hx
      subst hx
      have hm : m = n := by have := hr.len; rw [mtRow_len] at this; exact this.symm
      subst hm
      obtain ⟨b4, o4, v, x', rfl, hc4, ⟨rfl, -⟩, -, hx⟩ := hr.at hlt
      rw [mtRow_get hlt] at hx
      injection hx with hx
      obtain ⟨z, hz, hzm, -, -⟩ := mt_ok (HM.out b hbn k hlt)
      rw [hz] at hx
      subst hx
      have HZ : Hid (botTo F m (k + 1) = z) := by show (mt F m (botTo F m k) k).toNat = z; rw [HB.out, hz, Int.toNat_natCast]
      have hb0 : (0 : Int) ≤ (b : Int) := by omega
      have hb1 : (b : Int) < (m : Int) := by omega
      have hk0 : (0 : Int) ≤ (k : Int) := by omega
      have hk1 : (k : Int) < (m : Int) := by omega
      clear hz
      rw [HB.out]
      go_wp2
      go_round
      case rel => exact ⟨k + 1, by omega, by go_num, by rw [HZ.out]⟩
      case measure => simp [intOf]; omega
    · obtain rfl : k = n := by omega
      have hlt' : ¬ (k : Int) < (k : Int) := by omega
      rw [HB.out]
      go_wp2
      go_ret
      exact ⟨by unfold bot; rw [HB.out]; rfl, rfl⟩
end Go.Proofs.Ytlncpabnlnipoaa
