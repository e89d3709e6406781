
/- Walks: partitions, two blocks put into one. -/
import Derived.Test.YtidjocikbmkjbaaGreatTermP
import Derived.Test.YtidjocikbmkjbaaGreatGen
namespace Go.Proofs.YtidjocikbmkjbaaGreat
open Go.RowKit
set_option linter.unusedVariables false

theorem getD_at {p : List Int} {i : Nat} {v : Int} (h : p[i]? = some v) : p.getD i 0 = v := by rw [List.getD_eq_getElem?_getD, h]; rfl
/-- The first k places are as a partition's. -/
theorem par_step {p : List Int} {k : Nat} {x z : Int} {y : Nat} (h : ∀ i, i < k → ParI p i) (hx : p[k]? = some x) (h0 : 0 ≤ x) (hk : x ≤ (k : Int)) (hy : x = (y : Int)) (hz : p[y]? = some z) : ParI p k ↔ z = x := by
  have hn : nmAt p k = y := by rw [nmAt_get hx, hy]; simp
  have hzn : 0 ≤ z := by
    by_cases e : y = k
    · subst e; rw [hx] at hz; injection hz with hz; omega
    · have := (h y (by omega)).1
      rwa [getD_at hz] at this
  unfold ParI
  rw [getD_at hx, hn, nmAt_get hz]
  constructor
  · rintro ⟨-, -, h3⟩; omega
  · rintro rfl; exact ⟨h0, by omega, by omega⟩
set_option maxHeartbeats 2000000 in
theorem isPartition_any (A : Option Addr) (n m c : Nat) (p : List Int) (w : World) (h : RdL RI w A m p) (hn : n ≤ 1000) :
    Calls Tryz.prog 90 #[.int .i64 n, .slice A m c] w fun e w' => e = .returned (.bool (tt (ParP n p))) ∧ w = w' := by
  have hle := h.le
  have HL := Lib.hid h.len
  by_cases hnm : m = n
  rotate_left
  · have hne : ((m : Int) != (n : Int)) = true := by rw [bne_iff_ne]; omega
    go_enter Tryz.func90, Tryz.ntmps90
    go_wp2
    go_ret
    exact ⟨ret_bool (tt_false fun hh => hnm (by rw [← HL.out]; exact hh.1)), rfl⟩
  subst hnm
  have hne : ((m : Int) != (m : Int)) = false := by simp
  go_enter Tryz.func90, Tryz.ntmps90
  go_wp2
  go_loop [13] (fun i => ∃ k : Nat, k ≤ m ∧ i = .int .i64 k ∧ Hid (∀ i, i < k → ParI p i)) (fun i => m - (intOf i).toNat)
  case atStart => exact ⟨0, Nat.zero_le _, rfl, fun i hi => absurd hi (by omega)⟩
  case round =>
    obtain ⟨k, hk, rfl, HI⟩ := hrel
    by_cases hlt : k < m
    · have hk0 : (0 : Int) ≤ (k : Int) := by omega
      have hk1 : (k : Int) < (m : Int) := by omega
      obtain ⟨b, o, u, x, rfl, hc, ⟨rfl, -, -⟩, -, hx⟩ := h.at hlt
      have HX := Lib.hid hx
      clear hx
      by_cases hx0 : x < 0
      · go_wp2
        go_ret
        exact ⟨ret_bool (tt_false fun hh => by have := (hh.2 k hlt).1; rw [getD_at HX.out] at this; omega), rfl⟩
      · by_cases hxk : (k : Int) < x
        · go_wp2
          go_ret
          exact ⟨ret_bool (tt_false fun hh => by have := (hh.2 k hlt).2.1; rw [nmAt_get HX.out] at this; omega), rfl⟩
        · obtain ⟨y, rfl⟩ := Int.eq_ofNat_of_zero_le (show 0 ≤ x by omega)
          obtain ⟨u2, z, hc2, ⟨rfl, -, -⟩, -, hz⟩ := h.at' (k := y) (by omega)
          have HP := Lib.hid (par_step HI.out HX.out (by omega) (by omega) rfl hz)
          have hy0 : (0 : Int) ≤ (y : Int) := by omega
          have hy1 : (y : Int) < (m : Int) := by omega
          clear hz
          rcases hb : (z != (y : Int)) with _ | _
          · have HP2 : Hid (∀ i, i < k + 1 → ParI p i) := fun i hi => by
              by_cases e : i = k
              · subst e; exact HP.out.2 (by simpa using hb)
              · exact HI.out i (by omega)
            go_wp2
            go_round
            case rel => exact ⟨k + 1, by omega, by go_num, HP2⟩
            case measure => simp [intOf]; try omega
          · have HB := Lib.hid hb
            go_wp2
            go_ret
            exact ⟨ret_bool (tt_false fun hh => by
              have h1 := HP.out.1 (hh.2 k hlt)
              have h2 := HB.out
              rw [h1] at h2
              simp at h2), rfl⟩
    · have hk1 : ¬ (k : Int) < (m : Int) := by omega
      have HF : Hid (ParP m p) := ⟨HL.out, fun i hi => HI.out i (by omega)⟩
      go_wp2
      go_ret
      exact ⟨ret_bool (tt_true HF.out), rfl⟩
set_option maxHeartbeats 4000000 in
theorem l6Partition_any (A : Option Addr) (n m c : Nat) (p : List Int) (w : World) (h : RdL RI w A m p) (hn : n ≤ 1000) :
    Calls Tryz.prog 45 #[.int .i64 n, .slice A m c] w (Qt w (.bool (tt (ParP n p)))) := by
  have hle := h.le
  have HL := Lib.hid h.len
  by_cases hnm : m = n
  rotate_left
  · have hne : ((m : Int) != (n : Int)) = true := by rw [bne_iff_ne]; omega
    go_enter Tryz.func45, Tryz.ntmps45
    go_wp2
    go_ret
    exact ⟨ret_bool (tt_false fun hh => hnm (by rw [← HL.out]; exact hh.1)), (by first | exact Drawn.zero _ | exact Drawn.at_ _ _ | exact (Drawn.at_ _ _).more _ | exact ((Drawn.at_ _ _).more _).more _)⟩
  subst hnm
  have hne : ((m : Int) != (m : Int)) = false := by simp
  go_enter Tryz.func45, Tryz.ntmps45
  go_wp2
  go_loopw [5] (fun i wr => ∃ k : Nat, k ≤ m ∧ i = .int .i64 k ∧ Hid (∀ i, i < k → ParI p i) ∧ Drawn w wr) (fun i _ => m - (intOf i).toNat)
  case atStart => exact ⟨0, Nat.zero_le _, rfl, (fun i hi => absurd hi (by omega)), Drawn.zero _⟩
  case round =>
    obtain ⟨k, hk, rfl, HI, zz, rfl⟩ := hrel
    by_cases hlt : k < m
    · have hk0 : (0 : Int) ≤ (k : Int) := by omega
      have hk1 : (k : Int) < (m : Int) := by omega
      obtain ⟨b, o, u, x, rfl, hc, ⟨rfl, -, -⟩, -, hx⟩ := h.at hlt
      have HX := Lib.hid hx
      clear hx
      rcases hin : inB x 0 (k : Int) with _ | _
      · have HIN := Lib.hid hin
        have hno : ¬ (0 ≤ x ∧ x ≤ (k : Int)) := fun hh => by unfold inB at hin; simp [hh.1, hh.2] at hin
        have HNO := Lib.hid hno
        clear hin hno
        go_wp2
        go_quiet ((go_at_call 38; first | exact quiet_one (l1In_is HIN.out) | exact quiet_add (l1In_is HIN.out)))
        go_wp2
        go_ret
        exact ⟨ret_bool (tt_false fun hh => HNO.out (by
          have h1 := (hh.2 k hlt).1
          have h2 := (hh.2 k hlt).2.1
          rw [getD_at HX.out] at h1
          rw [nmAt_get HX.out] at h2
          omega)), (by first | exact Drawn.zero _ | exact Drawn.at_ _ _ | exact (Drawn.at_ _ _).more _ | exact ((Drawn.at_ _ _).more _).more _)⟩
      · have HIN := Lib.hid hin
        have hyes : 0 ≤ x ∧ x ≤ (k : Int) := by unfold inB at hin; simpa using hin
        clear hin
        obtain ⟨y, rfl⟩ := Int.eq_ofNat_of_zero_le hyes.1
        obtain ⟨u2, z, hc2, ⟨rfl, -, -⟩, -, hz⟩ := h.at' (k := y) (by omega)
        have HP := Lib.hid (par_step HI.out HX.out (by omega) (by omega) rfl hz)
        have hy0 : (0 : Int) ≤ (y : Int) := by omega
        have hy1 : (y : Int) < (m : Int) := by omega
        clear hz hyes
        rcases hb : (z != (y : Int)) with _ | _
        · have HP2 : Hid (∀ i, i < k + 1 → ParI p i) := fun i hi => by
            by_cases e : i = k
            · subst e; exact HP.out.2 (by simpa using hb)
            · exact HI.out i (by omega)
          go_wp2
          go_quiet ((go_at_call 38; first | exact quiet_one (l1In_is HIN.out) | exact quiet_add (l1In_is HIN.out)))
          go_wp2
          go_roundw
          case rel => exact ⟨k + 1, by omega, by go_num, HP2, (by first | exact Drawn.zero _ | exact Drawn.at_ _ _ | exact (Drawn.at_ _ _).more _ | exact ((Drawn.at_ _ _).more _).more _)⟩
          case measure => simp [intOf]; try omega
        · have HB := Lib.hid hb
          go_wp2
          go_quiet ((go_at_call 38; first | exact quiet_one (l1In_is HIN.out) | exact quiet_add (l1In_is HIN.out)))
          go_wp2
          go_ret
          exact ⟨ret_bool (tt_false fun hh => by
            have h1 := HP.out.1 (hh.2 k hlt)
            have h2 := HB.out
            rw [h1] at h2
            simp at h2), (by first | exact Drawn.zero _ | exact Drawn.at_ _ _ | exact (Drawn.at_ _ _).more _ | exact ((Drawn.at_ _ _).more _).more _)⟩
    · have hk1 : ¬ (k : Int) < (m : Int) := by omega
      have HF : Hid (ParP m p) := ⟨HL.out, fun i hi => HI.out i (by omega)⟩
      go_wp2
      go_ret
      exact ⟨ret_bool (tt_true HF.out), (by first | exact Drawn.zero _ | exact Drawn.at_ _ _ | exact (Drawn.at_ _ _).more _ | exact ((Drawn.at_ _ _).more _).more _)⟩
/-- The lists with two blocks put into one as far as place k. -/
def mixU (p : List Int) (x y k : Nat) : List Int := (p.take k).map (uniV (nmAt p x) (nmAt p y)) ++ p.drop k
theorem mixU_zero (p : List Int) (x y : Nat) : mixU p x y 0 = p := rfl
theorem mixU_all {p : List Int} {x y k : Nat} (h : p.length ≤ k) : mixU p x y k = uniL p x y := by unfold mixU uniL; rw [List.take_of_length_le h, List.drop_eq_nil_of_le h, List.append_nil]
theorem mixU_len (p : List Int) (x y k : Nat) : (mixU p x y k).length = p.length := by unfold mixU; simp; omega
theorem mixU_get {p : List Int} {x y k : Nat} {v : Int} (h : p[k]? = some v) : (mixU p x y k)[k]? = some v := by
  have hk := (List.getElem?_eq_some_iff.1 h).1
  unfold mixU
  rw [List.getElem?_append_right (by simp; omega)]
  simp [show min k p.length = k by omega, h]
theorem mixU_next {p : List Int} {x y k : Nat} {v : Int} (h : p[k]? = some v) : (mixU p x y k).set k (uniV (nmAt p x) (nmAt p y) v) = mixU p x y (k + 1) := by
  have hk := (List.getElem?_eq_some_iff.1 h).1
  unfold mixU
  have e : p.drop k = v :: p.drop (k + 1) := by rw [List.drop_eq_getElem_cons hk, (List.getElem?_eq_some_iff.1 h).2]
  rw [List.set_append_right _ _ (by simp; omega), e, List.take_add_one, h]
  simp [show min k p.length = k by omega]
theorem mixU_same {p : List Int} {x y k : Nat} {v : Int} (h : p[k]? = some v) (hv : uniV (nmAt p x) (nmAt p y) v = v) : mixU p x y (k + 1) = mixU p x y k := by
  rw [← mixU_next h, hv]
  apply List.ext_getElem?
  intro i
  rw [List.getElem?_set]
  by_cases e : k = i
  · subst e
    have hk := (List.getElem?_eq_some_iff.1 h).1
    rw [if_pos rfl, if_pos (by rw [mixU_len]; exact hk), mixU_get h]
  · rw [if_neg e]
end Go.Proofs.YtidjocikbmkjbaaGreat
namespace Go.Proofs.YtidjocikbmkjbaaGreat
open Go.RowKit
set_option linter.unusedVariables false

set_option maxHeartbeats 400000 in
theorem l1Least_any (a b r : Int) (w : World) (hr : (a ≤ b ∧ r = a) ∨ (b ≤ a ∧ r = b)) : Calls Tryz.prog 111 #[.int .i64 a, .int .i64 b] w fun e w' => e = .returned (.int .i64 r) ∧ w = w' := by
  by_cases h : a < b
  · obtain rfl : r = a := by omega
    clear hr
    go_enter Tryz.func111, Tryz.ntmps111
    go_wp2
    go_ret
    exact ⟨rfl, rfl⟩
  · obtain rfl : r = b := by omega
    clear hr
    go_enter Tryz.func111, Tryz.ntmps111
    go_wp2
    go_ret
    exact ⟨rfl, rfl⟩
set_option maxHeartbeats 400000 in
theorem l1Most_any (a b r : Int) (w : World) (hr : (a ≤ b ∧ r = b) ∨ (b ≤ a ∧ r = a)) : Calls Tryz.prog 112 #[.int .i64 a, .int .i64 b] w fun e w' => e = .returned (.int .i64 r) ∧ w = w' := by
  by_cases h : b < a
  · obtain rfl : r = a := by omega
    clear hr
    go_enter Tryz.func112, Tryz.ntmps112
    go_wp2
    go_ret
    exact ⟨rfl, rfl⟩
  · obtain rfl : r = b := by omega
    clear hr
    go_enter Tryz.func112, Tryz.ntmps112
    go_wp2
    go_ret
    exact ⟨rfl, rfl⟩
theorem par_cell {w : World} {base g n c : Nat} {p : List Int} (h : w.ownsRow base 3 1 (.slice (some ⟨g, 0, none⟩) n c) n (ints p)) {x : Nat} {v : Int} (hx : p[x]? = some v) (hxn : x < n) : w.cell? ⟨g, x, none⟩ = some (.int .i64 v) := by
  rw [h.cellAt x (by omega)]
  unfold ints
  rw [List.getElem?_map, hx]
  rfl
set_option maxRecDepth 20000 in
set_option maxHeartbeats 4000000 in
theorem unite_any (g n c base : Nat) (p : List Int) (x y : Nat) (w : World) (hown : w.ownsRow base 3 1 (.slice (some ⟨g, 0, none⟩) n c) n (ints p)) (hp : ParP n p) (hx : x < n) (hy : y < n) (hn : n ≤ 1000) :
    Calls Tryz.prog 106 #[.slice (some ⟨g, 0, none⟩) n c, .int .i64 x, .int .i64 y] w fun e w' => e = .returned (.bool (!(decide (nmAt p x = nmAt p y)))) ∧ w'.ownsRow base 3 1 (.slice (some ⟨g, 0, none⟩) n c) n (ints (uniL p x y)) ∧ w.grownBy w' (some g) := by
  obtain ⟨a, HA⟩ : ∃ a, Hid (nmAt p x = a) := ⟨_, rfl⟩
  obtain ⟨b, HB⟩ : ∃ b, Hid (nmAt p y = b) := ⟨_, rfl⟩
  have hpx := hp.at hx
  have hpy := hp.at hy
  rw [HA.out] at hpx
  rw [HB.out] at hpy
  have hcx := par_cell hown hpx.1 hx
  have hcy := par_cell hown hpy.1 hy
  have HP := Lib.hid hp
  have hx0 : (0 : Int) ≤ (x : Int) := by omega
  have hx1 : (x : Int) < (n : Int) := by omega
  have hy0 : (0 : Int) ≤ (y : Int) := by omega
  have hy1 : (y : Int) < (n : Int) := by omega
  have han : a ≤ 1000 := by omega
  have hbn : b ≤ 1000 := by omega
  clear hpx hpy hp
  by_cases hab : a = b
  · have hd : ((a : Int) == (b : Int)) = true := by rw [beq_iff_eq]; omega
    have HU : Hid (uniL p x y = p) := uni_same (by rw [HA.out, HB.out]; exact hab)
    have HD : Hid (decide (nmAt p x = nmAt p y) = true) := by show _ = _; rw [HA.out, HB.out]; exact decide_eq_true hab
    go_enter Tryz.func106, Tryz.ntmps106
    go_wp2_with fail
    go_quiet (fail)
    go_wp2_with fail
    go_ret
    exact ⟨ret_bool (by rw [HD.out]; rfl), by rw [HU.out]; exact hown, by first | exact gk_refl _ _ | exact gk_drewN (gk_refl _ _) _⟩
  have hd : ((a : Int) == (b : Int)) = false := by rw [beq_eq_false_iff_ne]; omega
  have HD : Hid (decide (nmAt p x = nmAt p y) = false) := by show _ = _; rw [HA.out, HB.out]; exact decide_eq_false hab
  obtain ⟨lo, HLO⟩ : ∃ l, Hid (min a b = l) := ⟨_, rfl⟩
  obtain ⟨hi, HHI⟩ : ∃ l, Hid (max a b = l) := ⟨_, rfl⟩
  have HF : Hid (∀ v : Int, uniV (nmAt p x) (nmAt p y) v = if v = (hi : Int) then (lo : Int) else v) := fun v => by
    rw [HA.out, HB.out, ← HLO.out, ← HHI.out]
    unfold uniV
    by_cases h : a ≤ b
    · rw [if_pos (show (a : Int) ≤ (b : Int) by omega), if_pos (show (a : Int) ≤ (b : Int) by omega), Nat.min_eq_left h, Nat.max_eq_right h]
    · rw [if_neg (show ¬ (a : Int) ≤ (b : Int) by omega), if_neg (show ¬ (a : Int) ≤ (b : Int) by omega), Nat.min_eq_right (by omega), Nat.max_eq_left (by omega)]
  go_enter Tryz.func106, Tryz.ntmps106
  go_wp2_with fail
  go_quiet (fail)
  go_upto_if 21 with fail
  go_cut [1, 2, 21] from 22 to 23 (fun u1 u2 _ wx => u1 = .int .i64 (lo : Int) ∧ u2 = .int .i64 (hi : Int) ∧ w.grownBy wx (some g) ∧ wx.ownsRow base 3 1 (.slice (some ⟨g, 0, none⟩) n c) n (ints p))
  case first =>
    by_cases hlt : b < a
    · have e1 : lo = b := by have := HLO.out; omega
      have e2 : hi = a := by have := HHI.out; omega
      subst e1
      subst e2
      have hlt1 : (lo : Int) < (hi : Int) := by omega
      go_wp2_with fail
      go_meet
      exact ⟨rfl, rfl, by first | exact gk_refl _ _ | exact gk_drewN (gk_refl _ _) _, hown⟩
    · have e1 : lo = a := by have := HLO.out; omega
      have e2 : hi = b := by have := HHI.out; omega
      subst e1
      subst e2
      have hlt1 : ¬ (hi : Int) < (lo : Int) := by omega
      go_wp2_with fail
      go_meet
      exact ⟨rfl, rfl, by first | exact gk_refl _ _ | exact gk_drewN (gk_refl _ _) _, hown⟩
  case rest =>
    obtain ⟨rfl, rfl, hG1, hown1⟩ := hcut
    obtain ⟨w1, HWC⟩ : ∃ wq : World, wq = wc := ⟨_, rfl⟩
    subst HWC
    clear hcx hcy hown
    go_wp2_with fail
    go_loopw [26] (fun i wr => ∃ k : Nat, k ≤ n ∧ i = .int .i64 k ∧ wr.ownsRow base 3 1 (.slice (some ⟨g, 0, none⟩) n c) n (ints (mixU p x y k)) ∧ w.grownBy wr (some g)) (fun i _ => n - (intOf i).toNat)
    case atStart => exact ⟨0, Nat.zero_le _, rfl, hown1, hG1⟩
    case round =>
      clear hown1 hG1
      obtain ⟨k, hk, rfl, hown, hG⟩ := hrel
      by_cases hlt : k < n
      · have hk0 : (0 : Int) ≤ (k : Int) := by omega
        have hk1 : (k : Int) < (n : Int) := by omega
        have hpk := (HP.out.at hlt).1
        obtain ⟨v, HV⟩ : ∃ v, Hid (nmAt p k = v) := ⟨_, rfl⟩
        rw [HV.out] at hpk
        have HPK := Lib.hid hpk
        have hck := par_cell hown (mixU_get hpk) hlt
        have hfz := hown.frozenAt k
        have hst := (hown.stored k (.int .i64 (lo : Int))).1
        rw [ints_set] at hst
        have HST := Lib.hid hst
        clear hpk hst
        by_cases hvh : v = hi
        · subst hvh
          have HN : Hid ((mixU p x y k).set k (lo : Int) = mixU p x y (k + 1)) := by
            show _ = _
            rw [← mixU_next HPK.out, HF.out, if_pos rfl]
          have hd2 : ((v : Int) == (v : Int)) = true := by simp
          go_wp2_with fail
          go_roundw
          case rel => exact ⟨k + 1, by omega, by go_num, by rw [← HN.out]; exact HST.out, gk_set hG rfl _⟩
          case measure => simp [intOf]; try omega
        · have hd2 : ((v : Int) == (hi : Int)) = false := by rw [beq_eq_false_iff_ne]; omega
          have HN : Hid (mixU p x y (k + 1) = mixU p x y k) := mixU_same HPK.out (by rw [HF.out, if_neg (by omega)])
          go_wp2_with fail
          go_roundw
          case rel => exact ⟨k + 1, by omega, by go_num, by rw [HN.out]; exact hown, hG⟩
          case measure => simp [intOf]; try omega
      · have hk1 : ¬ (k : Int) < (n : Int) := by omega
        have HM : Hid (mixU p x y k = uniL p x y) := mixU_all (by rw [HP.out.1]; omega)
        go_wp2_with fail
        go_ret
        exact ⟨ret_bool (by rw [HD.out]; rfl), by rw [← HM.out]; exact hown, hG⟩
set_option maxRecDepth 20000 in
set_option maxHeartbeats 4000000 in
theorem l6Unite_any (A : Option Addr) (n c : Nat) (p : List Int) (x y : Nat) (w : World) (h : RdL RI w A n p) (hp : ParP n p) (hx : x < n) (hy : y < n) (hn : n ≤ 1000) :
    Calls Tryz.prog 103 #[.slice A n c, .int .i64 x, .int .i64 y] w fun e w' => ∃ A' c', e = .returned (.slice A' n c') ∧ w'.ownsRow w.heap.size 3 1 (.slice A' n c') n (ints (uniL p x y)) ∧ Below w.heap.size w w' := by
  obtain ⟨a, HA⟩ : ∃ a, Hid (nmAt p x = a) := ⟨_, rfl⟩
  obtain ⟨b, HB⟩ : ∃ b, Hid (nmAt p y = b) := ⟨_, rfl⟩
  have hpx := hp.at hx
  have hpy := hp.at hy
  rw [HA.out] at hpx
  rw [HB.out] at hpy
  obtain ⟨bb, oo, u1, v1, rfl, hcx, ⟨rfl, -, -⟩, -, hx1⟩ := h.at hx
  obtain ⟨u2, v2, hcy, ⟨rfl, -, -⟩, -, hy1⟩ := h.at' hy
  rw [hpx.1] at hx1
  rw [hpy.1] at hy1
  injection hx1 with hx1
  injection hy1 with hy1
  subst hx1
  subst hy1
  have HP := Lib.hid hp
  have hxa : (0 : Int) ≤ (x : Int) := by omega
  have hxb : (x : Int) < (n : Int) := by omega
  have hya : (0 : Int) ≤ (y : Int) := by omega
  have hyb : (y : Int) < (n : Int) := by omega
  have han : a ≤ 1000 := by omega
  have hbn : b ≤ 1000 := by omega
  clear hpx hpy hp
  obtain ⟨lo, HLO⟩ : ∃ l, Hid (min a b = l) := ⟨_, rfl⟩
  obtain ⟨hi, HHI⟩ : ∃ l, Hid (max a b = l) := ⟨_, rfl⟩
  have HF : Hid (∀ v : Int, uniV (nmAt p x) (nmAt p y) v = if v = (hi : Int) then (lo : Int) else v) := fun v => by
    rw [HA.out, HB.out, ← HLO.out, ← HHI.out]
    unfold uniV
    by_cases h : a ≤ b
    · rw [if_pos (show (a : Int) ≤ (b : Int) by omega), if_pos (show (a : Int) ≤ (b : Int) by omega), Nat.min_eq_left h, Nat.max_eq_right h]
    · rw [if_neg (show ¬ (a : Int) ≤ (b : Int) by omega), if_neg (show ¬ (a : Int) ≤ (b : Int) by omega), Nat.min_eq_right (by omega), Nat.max_eq_left (by omega)]
  have HL1 : Hid (∀ wz, Calls Tryz.prog 111 #[.int .i64 (a : Int), .int .i64 (b : Int)] wz (Qt wz (.int .i64 (lo : Int)))) := fun wz => quiet_same (l1Least_any _ _ _ wz (by have := HLO.out; omega))
  have HL2 : Hid (∀ wz, Calls Tryz.prog 112 #[.int .i64 (a : Int), .int .i64 (b : Int)] wz (Qt wz (.int .i64 (hi : Int)))) := fun wz => quiet_same (l1Most_any _ _ _ wz (by have := HHI.out; omega))
  have hlon : lo ≤ 1000 := by have := HLO.out; omega
  go_enter Tryz.func103, Tryz.ntmps103
  go_upto_region 1 with fail
  go_quiet ((first
    | (go_at_call 111; first | exact quiet_one (HL1.out _) | exact quiet_add (HL1.out _))
    | (go_at_call 112; first | exact quiet_one (HL2.out _) | exact quiet_add (HL2.out _))))
  go_upto_region 2 with fail
  go_cut [9] from 29 to 29 (fun u9 wx => ∃ b9, u9 = .slice (some ⟨b9, 0, none⟩) 0 0 ∧ wx.ownsRow w.heap.size 3 1 (.slice (some ⟨b9, 0, none⟩) 0 0) 0 [] ∧ Below w.heap.size w wx)
  case first =>
    go_wp2_with fail
    go_meet
    exact ⟨_, rfl, World.ownsRow_lit _ #[] 0 (by first | exact Nat.le_refl _ | simp) (Nat.zero_le _) rfl, by first | exact below_box _ _ | exact (below_drewN (Below.refl _ _) _).alloc (Nat.le_refl _) _⟩
  case rest =>
    obtain ⟨b9, rfl, hO, T9⟩ := hcut
    obtain ⟨w1, HWC⟩ : ∃ wq : World, wq = wc := ⟨_, rfl⟩
    subst HWC
    clear hcx hcy
    go_wp2_with fail
    go_loopw [9, 10] (fun s i wr => ∃ (k : Nat) (A9 : Option Addr) (c9 : Nat), k ≤ n ∧ i = .int .i64 k ∧ s = .slice A9 k c9 ∧ wr.ownsRow w.heap.size 3 1 (.slice A9 k c9) k (ints ((p.take k).map (uniV (nmAt p x) (nmAt p y)))) ∧ Below w.heap.size w wr) (fun _ i _ => n - (intOf i).toNat)
    case atStart => exact ⟨0, _, _, Nat.zero_le _, rfl, rfl, hO, T9⟩
    case round =>
      clear hO T9
      obtain ⟨k, A9, c9, hk, rfl, rfl, hown, hTr⟩ := hrel
      by_cases hlt : k < n
      · have hk0 : (0 : Int) ≤ (k : Int) := by omega
        have hk1 : (k : Int) < (n : Int) := by omega
        have hpk := (HP.out.at hlt).1
        obtain ⟨u, v, hck, ⟨rfl, -, -⟩, -, hxk⟩ := (h.next stab_RI hTr).at' hlt
        rw [hpk] at hxk
        injection hxk with hxk
        subst hxk
        obtain ⟨v, HV⟩ : ∃ v, Hid (nmAt p k = v) := ⟨_, rfl⟩
        rw [HV.out] at hpk hck
        have HPK := Lib.hid hpk
        have hz := hTr.size
        have hvn : v ≤ 1000 := by have := (HP.out.at hlt).2.1; have := HV.out; omega
        clear hpk
        by_cases hvh : v = hi
        · subst hvh
          have HN : Hid ((p.take (k + 1)).map (uniV (nmAt p x) (nmAt p y)) = (p.take k).map (uniV (nmAt p x) (nmAt p y)) ++ [(lo : Int)]) := by
            show _ = _
            rw [List.take_add_one, HPK.out, List.map_append]
            simp [HF.out]
          have hd2 : ((v : Int) == (v : Int)) = true := by simp
          go_wp2_with (at_builtin; refine app1 wr rfl _ _ 25 3 rfl (.int .i64 0) 8 Tryz.underlying25 info_int rfl (by decide) w.heap.size k c9 A9 _ rfl hown (.int .i64 (lo : Int)) rfl rfl (by omega) hz ?_; intro A2 c2 w2 hown2 hg2 hb2)
          go_roundw
          case rel => exact ⟨k + 1, A2, c2, by omega, by go_num, rfl, by rw [HN.out, ints_app]; exact hown2, hTr.trans hb2⟩
          case measure => simp [intOf]; try omega
        · have hd2 : ((v : Int) == (hi : Int)) = false := by rw [beq_eq_false_iff_ne]; omega
          have hvi : ¬ (v : Int) = (hi : Int) := by omega
          have HN : Hid ((p.take (k + 1)).map (uniV (nmAt p x) (nmAt p y)) = (p.take k).map (uniV (nmAt p x) (nmAt p y)) ++ [(v : Int)]) := by
            show _ = _
            rw [List.take_add_one, HPK.out, List.map_append]
            simp [HF.out, hvi]
          clear hvi
          go_wp2_with (at_builtin; refine app1 wr rfl _ _ 25 3 rfl (.int .i64 0) 8 Tryz.underlying25 info_int rfl (by decide) w.heap.size k c9 A9 _ rfl hown (.int .i64 (v : Int)) rfl rfl (by omega) hz ?_; intro A2 c2 w2 hown2 hg2 hb2)
          go_roundw
          case rel => exact ⟨k + 1, A2, c2, by omega, by go_num, rfl, by rw [HN.out, ints_app]; exact hown2, hTr.trans hb2⟩
          case measure => simp [intOf]; try omega
      · obtain rfl : k = n := by omega
        have hk1 : ¬ (k : Int) < (k : Int) := by omega
        have HM : Hid ((p.take k).map (uniV (nmAt p x) (nmAt p y)) = uniL p x y) := by show _ = _; unfold uniL; rw [List.take_of_length_le (by rw [HP.out.1]; exact Nat.le_refl _)]
        go_wp2_with fail
        go_ret
        exact ⟨A9, c9, rfl, by rw [← HM.out]; exact hown, hTr⟩
end Go.Proofs.YtidjocikbmkjbaaGreat
