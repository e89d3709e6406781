import Derived.Test.YtbkgbckbbnflpaaGreatQ2
import Derived.IntWalk
import Derived.Maps.Own
import Derived.Maps.OwnSet
import Derived.Maps.Views
import Derived.Sort.LotA
import Derived.Sort.OwnSorted
import Derived.Deep.RegionHeld
set_option linter.unusedVariables false
set_option linter.unusedSimpArgs false
set_option maxRecDepth 100000
set_option maxHeartbeats 32000000
namespace Go.Proofs.YtbkgbckbbnflpaaGreat
open Go.RowKit
theorem getD_at {p : List Int} {i : Nat} {v : Int} (h : p[i]? = some v) : p.getD i 0 = v := by rw [List.getD_eq_getElem?_getD, h]; rfl
/-- The first k places are as a partition's. -/
theorem par_step {p : List Int} {k : Nat} {x z : Int} {y : Nat} (h : ∀ i, i < k → ParI p i) (hx : p[k]? = some x) (h0 : 0 ≤ x) (hk : x ≤ (k : Int)) (hy : x = (y : Int)) (hz : p[y]? = some z) : ParI p k ↔ z = x := by
  have hn : nmAt p k = y := by rw [nmAt_get hx, hy]; simp
  have hzn : 0 ≤ z := by
    by_cases e : y = k
    · subst e; rw [hx] at hz; injection hz with hz; omega
    · have := (h y (by omega)).1
      rwa [getD_at hz] at this
  unfold ParI
  rw [getD_at hx, hn, nmAt_get hz]
  constructor
  · rintro ⟨-, -, h3⟩; omega
  · rintro rfl; exact ⟨h0, by omega, by omega⟩
theorem isPartition_any (A : Option Addr) (n m c : Nat) (p : List Int) (w : World) (h : RdL RI w A m p) (hn : n ≤ 1000) :
    Calls Tryz.prog 65 #[.int .i64 n, .slice A m c] w fun e w' => e = .returned (.bool (tt (ParP n p))) ∧ w = w' := by
  have hle := h.le
  have HL := Lib.hid h.len
  by_cases hnm : m = n
  rotate_left
  · have hne : ((m : Int) != (n : Int)) = true := by rw [bne_iff_ne]; omega
    go_enter Tryz.func65, Tryz.ntmps65
    go_wp2
    go_ret
    exact ⟨ret_bool (tt_false fun hh => hnm (by rw [← HL.out]; exact hh.1)), rfl⟩
  subst hnm
  have hne : ((m : Int) != (m : Int)) = false := by simp
  go_enter Tryz.func65, Tryz.ntmps65
  go_wp2
  go_loop [13] (fun i => ∃ k : Nat, k ≤ m ∧ i = .int .i64 k ∧ Hid (∀ i, i < k → ParI p i)) (fun i => m - (intOf i).toNat)
  case atStart => exact ⟨0, Nat.zero_le _, rfl, fun i hi => absurd hi (by omega)⟩
  case round =>
    obtain ⟨k, hk, rfl, HI⟩ := hrel
    by_cases hlt : k < m
    · have hk0 : (0 : Int) ≤ (k : Int) := by omega
      have hk1 : (k : Int) < (m : Int) := by omega
      obtain ⟨b, o, u, x, rfl, hc, ⟨rfl, -, -⟩, -, hx⟩ := h.at hlt
      have HX := Lib.hid hx
      clear hx
      by_cases hx0 : x < 0
      · go_wp2
        go_ret
        exact ⟨ret_bool (tt_false fun hh => by have := (hh.2 k hlt).1; rw [getD_at HX.out] at this; omega), rfl⟩
      · by_cases hxk : (k : Int) < x
        · go_wp2
          go_ret
          exact ⟨ret_bool (tt_false fun hh => by have := (hh.2 k hlt).2.1; rw [nmAt_get HX.out] at this; omega), rfl⟩
        · obtain ⟨y, rfl⟩ := Int.eq_ofNat_of_zero_le (show 0 ≤ x by omega)
          obtain ⟨u2, z, hc2, ⟨rfl, -, -⟩, -, hz⟩ := h.at' (k := y) (by omega)
          have HP := Lib.hid (par_step HI.out HX.out (by omega) (by omega) rfl hz)
          have hy0 : (0 : Int) ≤ (y : Int) := by omega
          have hy1 : (y : Int) < (m : Int) := by omega
          clear hz
          rcases hb : (z != (y : Int)) with _ | _
          · have HP2 : Hid (∀ i, i < k + 1 → ParI p i) := fun i hi => by
              by_cases e : i = k
              · subst e; exact HP.out.2 (by simpa using hb)
              · exact HI.out i (by omega)
            go_wp2
            go_round
            case rel => exact ⟨k + 1, by omega, by go_num, HP2⟩
            case measure => simp [intOf]; try omega
          · have HB := Lib.hid hb
            go_wp2
            go_ret
            exact ⟨ret_bool (tt_false fun hh => by
              have h1 := HP.out.1 (hh.2 k hlt)
              have h2 := HB.out
              rw [h1] at h2
              simp at h2), rfl⟩
    · have hk1 : ¬ (k : Int) < (m : Int) := by omega
      have HF : Hid (ParP m p) := ⟨HL.out, fun i hi => HI.out i (by omega)⟩
      go_wp2
      go_ret
      exact ⟨ret_bool (tt_true HF.out), rfl⟩
/-- The lists with two blocks put into one as far as place k. -/
def mixU (p : List Int) (x y k : Nat) : List Int := (p.take k).map (uniV (nmAt p x) (nmAt p y)) ++ p.drop k
theorem mixU_all {p : List Int} {x y k : Nat} (h : p.length ≤ k) : mixU p x y k = uniL p x y := by unfold mixU uniL; rw [List.take_of_length_le h, List.drop_eq_nil_of_le h, List.append_nil]
theorem mixU_len (p : List Int) (x y k : Nat) : (mixU p x y k).length = p.length := by unfold mixU; simp; omega
theorem mixU_get {p : List Int} {x y k : Nat} {v : Int} (h : p[k]? = some v) : (mixU p x y k)[k]? = some v := by
  have hk := (List.getElem?_eq_some_iff.1 h).1
  unfold mixU
  rw [List.getElem?_append_right (by simp; omega)]
  simp [show min k p.length = k by omega, h]
theorem mixU_next {p : List Int} {x y k : Nat} {v : Int} (h : p[k]? = some v) : (mixU p x y k).set k (uniV (nmAt p x) (nmAt p y) v) = mixU p x y (k + 1) := by
  have hk := (List.getElem?_eq_some_iff.1 h).1
  unfold mixU
  have e : p.drop k = v :: p.drop (k + 1) := by rw [List.drop_eq_getElem_cons hk, (List.getElem?_eq_some_iff.1 h).2]
  rw [List.set_append_right _ _ (by simp; omega), e, List.take_add_one, h]
  simp [show min k p.length = k by omega]
theorem mixU_same {p : List Int} {x y k : Nat} {v : Int} (h : p[k]? = some v) (hv : uniV (nmAt p x) (nmAt p y) v = v) : mixU p x y (k + 1) = mixU p x y k := by
  rw [← mixU_next h, hv]
  apply List.ext_getElem?
  intro i
  rw [List.getElem?_set]
  by_cases e : k = i
  · subst e
    have hk := (List.getElem?_eq_some_iff.1 h).1
    rw [if_pos rfl, if_pos (by rw [mixU_len]; exact hk), mixU_get h]
  · rw [if_neg e]
theorem l1Most_any (a b r : Int) (w : World) (hr : (a ≤ b ∧ r = b) ∨ (b ≤ a ∧ r = a)) : Calls Tryz.prog 123 #[.int .i64 a, .int .i64 b] w fun e w' => e = .returned (.int .i64 r) ∧ w = w' := by
  by_cases h : b < a
  · obtain rfl : r = a := by omega
    clear hr
    go_enter Tryz.func123, Tryz.ntmps123
    go_wp2
    go_ret
    exact ⟨rfl, rfl⟩
  · obtain rfl : r = b := by omega
    clear hr
    go_enter Tryz.func123, Tryz.ntmps123
    go_wp2
    go_ret
    exact ⟨rfl, rfl⟩
theorem par_cell {w : World} {base g n c : Nat} {p : List Int} (h : w.ownsRow base 3 1 (.slice (some ⟨g, 0, none⟩) n c) n (ints p)) {x : Nat} {v : Int} (hx : p[x]? = some v) (hxn : x < n) : w.cell? ⟨g, x, none⟩ = some (.int .i64 v) := by
  rw [h.cellAt x (by omega)]
  unfold ints
  rw [List.getElem?_map, hx]
  rfl
theorem unite_any (g n c base : Nat) (p : List Int) (x y : Nat) (w : World) (hown : w.ownsRow base 3 1 (.slice (some ⟨g, 0, none⟩) n c) n (ints p)) (hp : ParP n p) (hx : x < n) (hy : y < n) (hn : n ≤ 1000) :
    Calls Tryz.prog 95 #[.slice (some ⟨g, 0, none⟩) n c, .int .i64 x, .int .i64 y] w fun e w' => e = .returned (.bool (!(decide (nmAt p x = nmAt p y)))) ∧ w'.ownsRow base 3 1 (.slice (some ⟨g, 0, none⟩) n c) n (ints (uniL p x y)) ∧ w.grownBy w' (some g) := by
  obtain ⟨a, HA⟩ : ∃ a, Hid (nmAt p x = a) := ⟨_, rfl⟩
  obtain ⟨b, HB⟩ : ∃ b, Hid (nmAt p y = b) := ⟨_, rfl⟩
  have hpx := hp.at hx
  have hpy := hp.at hy
  rw [HA.out] at hpx
  rw [HB.out] at hpy
  have hcx := par_cell hown hpx.1 hx
  have hcy := par_cell hown hpy.1 hy
  have HP := Lib.hid hp
  have hx0 : (0 : Int) ≤ (x : Int) := by omega
  have hx1 : (x : Int) < (n : Int) := by omega
  have hy0 : (0 : Int) ≤ (y : Int) := by omega
  have hy1 : (y : Int) < (n : Int) := by omega
  have han : a ≤ 1000 := by omega
  have hbn : b ≤ 1000 := by omega
  clear hpx hpy hp
  by_cases hab : a = b
  · have hd : ((a : Int) == (b : Int)) = true := by rw [beq_iff_eq]; omega
    have HU : Hid (uniL p x y = p) := uni_same (by rw [HA.out, HB.out]; exact hab)
    have HD : Hid (decide (nmAt p x = nmAt p y) = true) := by show _ = _; rw [HA.out, HB.out]; exact decide_eq_true hab
    go_enter Tryz.func95, Tryz.ntmps95
    go_wp2_with fail
    go_quiet (fail)
    go_wp2_with fail
    go_ret
    exact ⟨ret_bool (by rw [HD.out]; rfl), by rw [HU.out]; exact hown, by first | exact gk_refl _ _ | exact gk_drewN (gk_refl _ _) _⟩
  have hd : ((a : Int) == (b : Int)) = false := by rw [beq_eq_false_iff_ne]; omega
  have HD : Hid (decide (nmAt p x = nmAt p y) = false) := by show _ = _; rw [HA.out, HB.out]; exact decide_eq_false hab
  obtain ⟨lo, HLO⟩ : ∃ l, Hid (min a b = l) := ⟨_, rfl⟩
  obtain ⟨hi, HHI⟩ : ∃ l, Hid (max a b = l) := ⟨_, rfl⟩
  have HF : Hid (∀ v : Int, uniV (nmAt p x) (nmAt p y) v = if v = (hi : Int) then (lo : Int) else v) := fun v => by
    rw [HA.out, HB.out, ← HLO.out, ← HHI.out]
    unfold uniV
    by_cases h : a ≤ b
    · rw [if_pos (show (a : Int) ≤ (b : Int) by omega), if_pos (show (a : Int) ≤ (b : Int) by omega), Nat.min_eq_left h, Nat.max_eq_right h]
    · rw [if_neg (show ¬ (a : Int) ≤ (b : Int) by omega), if_neg (show ¬ (a : Int) ≤ (b : Int) by omega), Nat.min_eq_right (by omega), Nat.max_eq_left (by omega)]
  go_enter Tryz.func95, Tryz.ntmps95
  go_wp2_with fail
  go_quiet (fail)
  go_upto_if 21 with fail
  go_cut [1, 2, 21] from 22 to 23 (fun u1 u2 _ wx => u1 = .int .i64 (lo : Int) ∧ u2 = .int .i64 (hi : Int) ∧ w.grownBy wx (some g) ∧ wx.ownsRow base 3 1 (.slice (some ⟨g, 0, none⟩) n c) n (ints p))
  case first =>
    by_cases hlt : b < a
    · have e1 : lo = b := by have := HLO.out; omega
      have e2 : hi = a := by have := HHI.out; omega
      subst e1
      subst e2
      have hlt1 : (lo : Int) < (hi : Int) := by omega
      go_wp2_with fail
      go_meet
      exact ⟨rfl, rfl, by first | exact gk_refl _ _ | exact gk_drewN (gk_refl _ _) _, hown⟩
    · have e1 : lo = a := by have := HLO.out; omega
      have e2 : hi = b := by have := HHI.out; omega
      subst e1
      subst e2
      have hlt1 : ¬ (hi : Int) < (lo : Int) := by omega
      go_wp2_with fail
      go_meet
      exact ⟨rfl, rfl, by first | exact gk_refl _ _ | exact gk_drewN (gk_refl _ _) _, hown⟩
  case rest =>
    obtain ⟨rfl, rfl, hG1, hown1⟩ := hcut
    obtain ⟨w1, HWC⟩ : ∃ wq : World, wq = wc := ⟨_, rfl⟩
    subst HWC
    clear hcx hcy hown
    go_wp2_with fail
    go_loopw [26] (fun i wr => ∃ k : Nat, k ≤ n ∧ i = .int .i64 k ∧ wr.ownsRow base 3 1 (.slice (some ⟨g, 0, none⟩) n c) n (ints (mixU p x y k)) ∧ w.grownBy wr (some g)) (fun i _ => n - (intOf i).toNat)
    case atStart => exact ⟨0, Nat.zero_le _, rfl, hown1, hG1⟩
    case round =>
      clear hown1 hG1
      obtain ⟨k, hk, rfl, hown, hG⟩ := hrel
      by_cases hlt : k < n
      · have hk0 : (0 : Int) ≤ (k : Int) := by omega
        have hk1 : (k : Int) < (n : Int) := by omega
        have hpk := (HP.out.at hlt).1
        obtain ⟨v, HV⟩ : ∃ v, Hid (nmAt p k = v) := ⟨_, rfl⟩
        rw [HV.out] at hpk
        have HPK := Lib.hid hpk
        have hck := par_cell hown (mixU_get hpk) hlt
        have hfz := hown.frozenAt k
        have hst := (hown.stored k (.int .i64 (lo : Int))).1
        rw [ints_set] at hst
        have HST := Lib.hid hst
        clear hpk hst
        by_cases hvh : v = hi
        · subst hvh
          have HN : Hid ((mixU p x y k).set k (lo : Int) = mixU p x y (k + 1)) := by
            show _ = _
            rw [← mixU_next HPK.out, HF.out, if_pos rfl]
          have hd2 : ((v : Int) == (v : Int)) = true := by simp
          go_wp2_with fail
          go_roundw
          case rel => exact ⟨k + 1, by omega, by go_num, by rw [← HN.out]; exact HST.out, gk_set hG rfl _⟩
          case measure => simp [intOf]; try omega
        · have hd2 : ((v : Int) == (hi : Int)) = false := by rw [beq_eq_false_iff_ne]; omega
          have HN : Hid (mixU p x y (k + 1) = mixU p x y k) := mixU_same HPK.out (by rw [HF.out, if_neg (by omega)])
          go_wp2_with fail
          go_roundw
          case rel => exact ⟨k + 1, by omega, by go_num, by rw [HN.out]; exact hown, hG⟩
          case measure => simp [intOf]; try omega
      · have hk1 : ¬ (k : Int) < (n : Int) := by omega
        have HM : Hid (mixU p x y k = uniL p x y) := mixU_all (by rw [HP.out.1]; omega)
        go_wp2_with fail
        go_ret
        exact ⟨ret_bool (by rw [HD.out]; rfl), by rw [← HM.out]; exact hown, hG⟩
theorem l6Unite_any (A : Option Addr) (n c : Nat) (p : List Int) (x y : Nat) (w : World) (h : RdL RI w A n p) (hp : ParP n p) (hx : x < n) (hy : y < n) (hn : n ≤ 1000) :
    Calls Tryz.prog 109 #[.slice A n c, .int .i64 x, .int .i64 y] w fun e w' => ∃ A' c', e = .returned (.slice A' n c') ∧ w'.ownsRow w.heap.size 3 1 (.slice A' n c') n (ints (uniL p x y)) ∧ Below w.heap.size w w' := by
  obtain ⟨a, HA⟩ : ∃ a, Hid (nmAt p x = a) := ⟨_, rfl⟩
  obtain ⟨b, HB⟩ : ∃ b, Hid (nmAt p y = b) := ⟨_, rfl⟩
  have hpx := hp.at hx
  have hpy := hp.at hy
  rw [HA.out] at hpx
  rw [HB.out] at hpy
  obtain ⟨bb, oo, u1, v1, rfl, hcx, ⟨rfl, -, -⟩, -, hx1⟩ := h.at hx
  obtain ⟨u2, v2, hcy, ⟨rfl, -, -⟩, -, hy1⟩ := h.at' hy
  rw [hpx.1] at hx1
  rw [hpy.1] at hy1
  injection hx1 with hx1
  injection hy1 with hy1
  subst hx1
  subst hy1
  have HP := Lib.hid hp
  have hxa : (0 : Int) ≤ (x : Int) := by omega
  have hxb : (x : Int) < (n : Int) := by omega
  have hya : (0 : Int) ≤ (y : Int) := by omega
  have hyb : (y : Int) < (n : Int) := by omega
  have han : a ≤ 1000 := by omega
  have hbn : b ≤ 1000 := by omega
  clear hpx hpy hp
  obtain ⟨lo, HLO⟩ : ∃ l, Hid (min a b = l) := ⟨_, rfl⟩
  obtain ⟨hi, HHI⟩ : ∃ l, Hid (max a b = l) := ⟨_, rfl⟩
  have HF : Hid (∀ v : Int, uniV (nmAt p x) (nmAt p y) v = if v = (hi : Int) then (lo : Int) else v) := fun v => by
    rw [HA.out, HB.out, ← HLO.out, ← HHI.out]
    unfold uniV
    by_cases h : a ≤ b
    · rw [if_pos (show (a : Int) ≤ (b : Int) by omega), if_pos (show (a : Int) ≤ (b : Int) by omega), Nat.min_eq_left h, Nat.max_eq_right h]
    · rw [if_neg (show ¬ (a : Int) ≤ (b : Int) by omega), if_neg (show ¬ (a : Int) ≤ (b : Int) by omega), Nat.min_eq_right (by omega), Nat.max_eq_left (by omega)]
  have HL1 : Hid (∀ wz, Calls Tryz.prog 20 #[.int .i64 (a : Int), .int .i64 (b : Int)] wz (Qt wz (.int .i64 (lo : Int)))) := fun wz => quiet_same (l1Least_any _ _ _ wz (by have := HLO.out; omega))
  have HL2 : Hid (∀ wz, Calls Tryz.prog 123 #[.int .i64 (a : Int), .int .i64 (b : Int)] wz (Qt wz (.int .i64 (hi : Int)))) := fun wz => quiet_same (l1Most_any _ _ _ wz (by have := HHI.out; omega))
  have hlon : lo ≤ 1000 := by have := HLO.out; omega
  go_enter Tryz.func109, Tryz.ntmps109
  go_upto_region 1 with fail
  go_quiet ((first
    | (go_at_call 20; first | exact quiet_one (HL1.out _) | exact quiet_add (HL1.out _))
    | (go_at_call 123; first | exact quiet_one (HL2.out _) | exact quiet_add (HL2.out _))))
  go_upto_region 2 with fail
  go_cut [9] from 29 to 29 (fun u9 wx => ∃ b9, u9 = .slice (some ⟨b9, 0, none⟩) 0 0 ∧ wx.ownsRow w.heap.size 3 1 (.slice (some ⟨b9, 0, none⟩) 0 0) 0 [] ∧ Below w.heap.size w wx)
  case first =>
    go_wp2_with fail
    go_meet
    exact ⟨_, rfl, World.ownsRow_lit _ #[] 0 (by first | exact Nat.le_refl _ | simp) (Nat.zero_le _) rfl, by first | exact below_box _ _ | exact (below_drewN (Below.refl _ _) _).alloc (Nat.le_refl _) _⟩
  case rest =>
    obtain ⟨b9, rfl, hO, T9⟩ := hcut
    obtain ⟨w1, HWC⟩ : ∃ wq : World, wq = wc := ⟨_, rfl⟩
    subst HWC
    clear hcx hcy
    go_wp2_with fail
    go_loopw [9, 10] (fun s i wr => ∃ (k : Nat) (A9 : Option Addr) (c9 : Nat), k ≤ n ∧ i = .int .i64 k ∧ s = .slice A9 k c9 ∧ wr.ownsRow w.heap.size 3 1 (.slice A9 k c9) k (ints ((p.take k).map (uniV (nmAt p x) (nmAt p y)))) ∧ Below w.heap.size w wr) (fun _ i _ => n - (intOf i).toNat)
    case atStart => exact ⟨0, _, _, Nat.zero_le _, rfl, rfl, hO, T9⟩
    case round =>
      clear hO T9
      obtain ⟨k, A9, c9, hk, rfl, rfl, hown, hTr⟩ := hrel
      by_cases hlt : k < n
      · have hk0 : (0 : Int) ≤ (k : Int) := by omega
        have hk1 : (k : Int) < (n : Int) := by omega
        have hpk := (HP.out.at hlt).1
        obtain ⟨u, v, hck, ⟨rfl, -, -⟩, -, hxk⟩ := (h.next stab_RI hTr).at' hlt
        rw [hpk] at hxk
        injection hxk with hxk
        subst hxk
        obtain ⟨v, HV⟩ : ∃ v, Hid (nmAt p k = v) := ⟨_, rfl⟩
        rw [HV.out] at hpk hck
        have HPK := Lib.hid hpk
        have hz := hTr.size
        have hvn : v ≤ 1000 := by have := (HP.out.at hlt).2.1; have := HV.out; omega
        clear hpk
        by_cases hvh : v = hi
        · subst hvh
          have HN : Hid ((p.take (k + 1)).map (uniV (nmAt p x) (nmAt p y)) = (p.take k).map (uniV (nmAt p x) (nmAt p y)) ++ [(lo : Int)]) := by
            show _ = _
            rw [List.take_add_one, HPK.out, List.map_append]
            simp [HF.out]
          have hd2 : ((v : Int) == (v : Int)) = true := by simp
          go_wp2_with (at_builtin; refine app1 wr rfl _ _ 27 3 rfl (.int .i64 0) 8 Tryz.underlying27 info_int rfl (by decide) w.heap.size k c9 A9 _ rfl hown (.int .i64 (lo : Int)) rfl rfl (by omega) hz ?_; intro A2 c2 w2 hown2 hg2 hb2)
          go_roundw
          case rel => exact ⟨k + 1, A2, c2, by omega, by go_num, rfl, by rw [HN.out, ints_app]; exact hown2, hTr.trans hb2⟩
          case measure => simp [intOf]; try omega
        · have hd2 : ((v : Int) == (hi : Int)) = false := by rw [beq_eq_false_iff_ne]; omega
          have hvi : ¬ (v : Int) = (hi : Int) := by omega
          have HN : Hid ((p.take (k + 1)).map (uniV (nmAt p x) (nmAt p y)) = (p.take k).map (uniV (nmAt p x) (nmAt p y)) ++ [(v : Int)]) := by
            show _ = _
            rw [List.take_add_one, HPK.out, List.map_append]
            simp [HF.out, hvi]
          clear hvi
          go_wp2_with (at_builtin; refine app1 wr rfl _ _ 27 3 rfl (.int .i64 0) 8 Tryz.underlying27 info_int rfl (by decide) w.heap.size k c9 A9 _ rfl hown (.int .i64 (v : Int)) rfl rfl (by omega) hz ?_; intro A2 c2 w2 hown2 hg2 hb2)
          go_roundw
          case rel => exact ⟨k + 1, A2, c2, by omega, by go_num, rfl, by rw [HN.out, ints_app]; exact hown2, hTr.trans hb2⟩
          case measure => simp [intOf]; try omega
      · obtain rfl : k = n := by omega
        have hk1 : ¬ (k : Int) < (k : Int) := by omega
        have HM : Hid ((p.take k).map (uniV (nmAt p x) (nmAt p y)) = uniL p x y) := by show _ = _; unfold uniL; rw [List.take_of_length_le (by rw [HP.out.1]; exact Nat.le_refl _)]
        go_wp2_with fail
        go_ret
        exact ⟨A9, c9, rfl, by rw [← HM.out]; exact hown, hTr⟩
/-- The elements that tell blocks, in the world. -/
noncomputable def fixW (w : World) (g n : Nat) : Nat := (List.range n).countP fun i => tt (w.cell? ⟨g, i, none⟩ = some (.int .i64 (i : Int)))
def flgV : Value → Nat | .bool true => 1 | _ => 0
theorem fixW_row {w : World} {base g n c : Nat} {p : List Int} (h : w.ownsRow base 3 1 (.slice (some ⟨g, 0, none⟩) n c) n (ints p)) (hp : ParP n p) : fixW w g n = fixs n p := by
  unfold fixW fixs
  rw [← List.countP_eq_length_filter]
  refine List.countP_congr fun i hi => ?_
  have hin := List.mem_range.1 hi
  rw [par_cell h (hp.at hin).1 hin, tt_iff, beq_iff_eq]
  constructor
  · intro e
    injection e with e
    injection e with _ e
    omega
  · intro e
    rw [e]
/-- Held together so far: of the operations below j, of the digits below k of the next one (from the right), of its entries below q at the next digit. -/
def PdD (n : Nat) (ops : List OpM) (p : List Int) (j k q : Nat) : Prop := (∀ j', j' < j → ∀ o, ops[j']? = some o → ∀ k', k' < o.1.toNat → ∀ i, i < o.2.length → PrE n p o i (o.1.toNat - 1 - k')) ∧ (∀ o, ops[j]? = some o → (∀ k', k' < k → k' < o.1.toNat → ∀ i, i < o.2.length → PrE n p o i (o.1.toNat - 1 - k')) ∧ (k < o.1.toNat → ∀ i, i < q → i < o.2.length → PrE n p o i (o.1.toNat - 1 - k)))
theorem PdD.start (n : Nat) (ops : List OpM) (p : List Int) : PdD n ops p 0 0 0 := ⟨fun j' h => absurd h (by omega), fun o _ => ⟨fun k' h => absurd h (by omega), fun _ i h => absurd h (by omega)⟩⟩
theorem PdD.entry {n : Nat} {ops : List OpM} {p : List Int} {j k q : Nat} {o : OpM} (h : PdD n ops p j k q) (ho : ops[j]? = some o) (he : PrE n p o q (o.1.toNat - 1 - k)) : PdD n ops p j k (q + 1) := ⟨h.1, fun o' ho' => by
  rw [ho] at ho'
  injection ho' with ho'
  subst ho'
  refine ⟨(h.2 _ ho).1, fun hk i hi hil => ?_⟩
  by_cases e : i = q
  · subst e; exact he
  · exact (h.2 _ ho).2 hk i (by omega) hil⟩
theorem PdD.digit {n : Nat} {ops : List OpM} {p : List Int} {j k q : Nat} {o : OpM} (h : PdD n ops p j k q) (ho : ops[j]? = some o) (hq : ¬ q < o.2.length) : PdD n ops p j (k + 1) 0 := ⟨h.1, fun o' ho' => by
  rw [ho] at ho'
  injection ho' with ho'
  subst ho'
  refine ⟨fun k' hk' hka i hi => ?_, fun _ i hi => absurd hi (by omega)⟩
  by_cases e : k' = k
  · subst e; exact (h.2 _ ho).2 hka i (by omega) hi
  · exact (h.2 _ ho).1 k' (by omega) hka i hi⟩
theorem PdD.op {n : Nat} {ops : List OpM} {p : List Int} {j k q : Nat} {o : OpM} (h : PdD n ops p j k q) (ho : ops[j]? = some o) (hk : ¬ k < o.1.toNat) : PdD n ops p (j + 1) 0 0 := ⟨fun j' hj' o' ho' k' hk' i hi => by
  by_cases e : j' = j
  · subst e
    rw [ho] at ho'
    injection ho' with ho'
    subst ho'
    exact (h.2 _ ho).1 k' (by omega) hk' i hi
  · exact h.1 j' (by omega) o' ho' k' hk' i hi, fun o' _ => ⟨fun k' h => absurd h (by omega), fun _ i h => absurd h (by omega)⟩⟩
theorem PdD.done {n : Nat} {ops : List OpM} {p : List Int} {j k q : Nat} (h : PdD n ops p j k q) (hj : ¬ j < ops.length) : CompP n ops p := fun o ho d hd i hi => by
  obtain ⟨j', hj'⟩ := List.getElem?_of_mem ho
  have := (List.getElem?_eq_some_iff.1 hj').1
  have := h.1 j' (by omega) o hj' (o.1.toNat - 1 - d) (by omega) i hi
  rwa [show o.1.toNat - 1 - (o.1.toNat - 1 - d) = d by omega] at this
/-- The rounds: P0 the partition handed in, Ps that of the round's beginning, P now. -/
structure CgI (n : Nat) (ops : List OpM) (p0 ps p : List Int) (was ch : Bool) (j k q : Nat) : Prop where
  pos : 0 < n
  ok : ∀ o ∈ ops, OpP n o
  par : ParP n p
  yes : was = true → ¬ CompP n ops p0
  no : was = false → p = p0 ∧ ch = false
  fin : ch = false → p = ps ∧ PdD n ops p j k q
  less : ch = true → fixs n p < fixs n ps
  ul : UL n ops p0 p
theorem CgI.mv {n : Nat} {ops : List OpM} {p0 ps p : List Int} {was ch : Bool} {j k q j' k' q' : Nat} (h : CgI n ops p0 ps p was ch j k q) (hd : PdD n ops p j k q → PdD n ops p j' k' q') : CgI n ops p0 ps p was ch j' k' q' := ⟨h.pos, h.ok, h.par, h.yes, h.no, fun hw => ⟨(h.fin hw).1, hd (h.fin hw).2⟩, h.less, h.ul⟩
/-- Two elements that must be held together, and are not: put together. -/
theorem CgI.join {n : Nat} {ops : List OpM} {p0 ps p : List Int} {was ch : Bool} {j k q x y : Nat} {o : OpM} (h : CgI n ops p0 ps p was ch j k q) (ho : ops[j]? = some o) (hk : k < o.1.toNat) (hq : q < o.2.length) (hx : nmAt o.2 q = x) (hy : nmAt o.2 (repI n o.1.toNat p q (o.1.toNat - 1 - k)) = y) (hxn : x < n) (hyn : y < n) (hne : nmAt p x ≠ nmAt p y) : CgI n ops p0 ps (uniL p x y) true true j k (q + 1) := by
  refine ⟨h.pos, h.ok, uni_par h.par hxn hyn, fun _ hc => ?_, fun h => (by cases h), fun h => (by cases h), fun _ => ?_, h.ul.join h.par h.par (fun _ _ _ _ k => k) h.pos (List.mem_of_getElem? ho) (h.ok o (List.mem_of_getElem? ho)) (by omega) hq hx hy hxn hyn⟩
  · rcases was with _ | _
    · have hp := (h.no rfl).1
      subst hp
      have := hc o (List.mem_of_getElem? ho) (o.1.toNat - 1 - k) (by omega) q hq
      unfold PrE at this
      rw [hx, hy] at this
      exact hne this
    · exact h.yes rfl hc
  · have h1 := uni_fixs h.par hxn hyn hne
    rcases ch with _ | _
    · rw [← (h.fin rfl).1]; exact h1
    · have := h.less rfl; omega
theorem CgI.keep {n : Nat} {ops : List OpM} {p0 ps p : List Int} {was ch : Bool} {j k q x y : Nat} {o : OpM} (h : CgI n ops p0 ps p was ch j k q) (ho : ops[j]? = some o) (hx : nmAt o.2 q = x) (hy : nmAt o.2 (repI n o.1.toNat p q (o.1.toNat - 1 - k)) = y) (he : nmAt p x = nmAt p y) : CgI n ops p0 ps (uniL p x y) was ch j k (q + 1) := by
  rw [uni_same he]
  exact h.mv fun hd => hd.entry ho (by unfold PrE; rw [hx, hy, he])
theorem CgI.begin_ {n : Nat} {ops : List OpM} {p0 p : List Int} {was : Bool} (hn : 0 < n) (hops : ∀ o ∈ ops, OpP n o) (hp : ParP n p) (hy : was = true → ¬ CompP n ops p0) (hu : (was = false → p = p0) ∧ UL n ops p0 p) : CgI n ops p0 p p was false 0 0 0 := ⟨hn, hops, hp, hy, fun hw => ⟨hu.1 hw, rfl⟩, fun _ => ⟨rfl, PdD.start _ _ _⟩, fun h => (by cases h), hu.2⟩
theorem closePartition_any (cs : List Value) (x : AlgebraM) (g n c base : Nat) (p0 : List Int) (wa w : World) (h : shAlgebra.rd wa cs x) (hx : AlgP x) (hn : x.1 = (n : Int)) (hT : Below wa.heap.size wa w) (hba : wa.heap.size ≤ base) (hown : w.ownsRow base 3 1 (.slice (some ⟨g, 0, none⟩) n c) n (ints p0)) (hp0 : ParP n p0) :
    Calls Tryz.prog 66 #[.agg cs.toArray, .slice (some ⟨g, 0, none⟩) n c] w fun e w' => e = .returned (.bool (!(tt (CompP n x.2 p0)))) ∧ w.grownBy w' (some g) ∧ ∃ p, w'.ownsRow base 3 1 (.slice (some ⟨g, 0, none⟩) n c) n (ints p) ∧ ParP n p ∧ CompP n x.2 p ∧ UL n x.2 p0 p := by
  obtain ⟨a, ops⟩ := x
  obtain ⟨hx1, hx2, hx3, hx4⟩ := hx
  simp only at hx1 hx2 hx3 hx4 hn
  subst hn
  rw [Int.toNat_natCast] at hx4
  have hn0 : 0 < n := by omega
  have hn8 : n ≤ 8 := by omega
  obtain ⟨B, m, d, rfl, -, qo⟩ := rdAlgebra h
  have HML := Lib.hid qo.len
  have HOPS := Lib.hid hx4
  have hm4 : m ≤ 4 := by rw [← qo.len]; exact hx3
  have hgl := hown.lt g rfl
  obtain ⟨w0, hw0, T0, hsz0, BP⟩ := boxes1 w #[.int .i64 (n : Int), .slice B m d] 26
  have HW0 := Lib.hid hw0
  have hown0 := own_next hown T0
  have HB := Lib.hid hba
  have hgw : (some w.heap.size) ≠ some g := fun e => by injection e with e; omega
  have HT0 : Hid (w.grownBy w0 (some g)) := gk_of T0
  have HTA : Hid (∀ wz, w0.grownBy wz (some g) → Below wa.heap.size wa wz) := fun wz hz => (below_next hT T0 rfl).grown hz (Nat.le_trans hT.size T0.size) fun k hk => by injection hk with hk; subst hk; exact Nat.le_trans hba hgl.1
  have HBP : Hid (∀ wz, w0.grownBy wz (some g) → wz.cell? ⟨w.heap.size, 0, none⟩ = some (.int .i64 (n : Int)) ∧ wz.cell? ⟨w.heap.size, 1, none⟩ = some (.slice B m d)) := fun wz hz => by
    have := BP.grown hz hgw
    have h0 := this.cell 0
    have h1 := this.cell 1
    simp at h0 h1
    exact ⟨h0, h1⟩
  have HP0 := Lib.hid hp0
  clear hw0 hsz0 hown hx3 hx4 h hT hba hp0
  go_enter Tryz.func66, Tryz.ntmps66
  go_upto_region 1 with fail
  rw [← HW0.out]
  go_wp2_with fail
  go_loopw [5, 6] (fun s1 s2 wr => ∃ (p : List Int) (was ch : Bool), s1 = .bool was ∧ s2 = .bool ch ∧ Hid (ParP n p) ∧ Hid (was = true → ¬ CompP n ops p0) ∧ Hid ((was = false → p = p0) ∧ UL n ops p0 p) ∧ Hid (ch = false → CompP n ops p) ∧ wr.ownsRow base 3 1 (.slice (some ⟨g, 0, none⟩) n c) n (ints p) ∧ w0.grownBy wr (some g)) (fun _ s2 wr => 2 * fixW wr g n + flgV s2)
  case atStart =>
    have h1 : Hid (false = true → ¬ CompP n ops p0) := fun h => (by cases h)
    have h2 : Hid ((false = false → p0 = p0) ∧ UL n ops p0 p0) := ⟨fun _ => rfl, UL.refl _ _ _⟩
    have h3 : Hid (true = false → CompP n ops p0) := fun h => (by cases h)
    exact ⟨p0, false, true, rfl, rfl, HP0, h1, h2, h3, hown0, gk_refl _ _⟩
  case round =>
    clear hown0
    obtain ⟨ps, was, ch, rfl, rfl, HP, HY, HN, HC, hown, hG⟩ := hrel
    have HMS : Hid (fixW wr g n = fixs n ps) := fixW_row hown HP.out
    rcases ch with _ | _
    · have HD : Hid (was = !(tt (CompP n ops p0))) := by
        show _ = _
        rcases was with _ | _
        · rw [← HN.out.1 rfl, ← tt_true (HC.out rfl)]; rfl
        · rw [← tt_false (HY.out rfl)]; rfl
      have HF : Hid (CompP n ops ps ∧ UL n ops p0 ps) := ⟨HC.out rfl, HN.out.2⟩
      go_wp2_with fail
      go_ret
      exact ⟨ret_bool (by rw [← HD.out]), gk_trans HT0.out hG, ps, hown, HP.out, HF.out⟩
    · have kP1 := (HBP.out _ hG).2
      have HI0 : Hid (CgI n ops p0 ps ps was false 0 0 0) := CgI.begin_ hn0 HOPS.out HP.out HY.out HN.out
      obtain ⟨ws, HWS⟩ : ∃ ws : World, ws = wr := ⟨_, rfl⟩
      subst HWS
      clear HP HY HN HC
      go_wp2_with fail
      clear kP1
      go_loopw [5, 6, 18] (fun s1 s2 i wr => ∃ (j : Nat) (p : List Int) (was ch : Bool), j ≤ m ∧ i = .int .i64 j ∧ s1 = .bool was ∧ s2 = .bool ch ∧ Hid (CgI n ops p0 ps p was ch j 0 0) ∧ wr.ownsRow base 3 1 (.slice (some ⟨g, 0, none⟩) n c) n (ints p) ∧ w0.grownBy wr (some g)) (fun _ _ i _ => m - (intOf i).toNat)
      case atStart => exact ⟨0, ps, was, false, Nat.zero_le _, rfl, rfl, rfl, HI0, hown, hG⟩
      case round =>
        clear hown hG HI0
        obtain ⟨j, p, was, ch, hj, rfl, rfl, rfl, HI, hown, hG⟩ := hrel
        by_cases hlt : j < m
        · have hj0 : (0 : Int) ≤ (j : Int) := by omega
          have hj1 : (j : Int) < (m : Int) := by omega
          obtain ⟨b, o, vs, op, rfl, -, hc, hr, -, hxo⟩ := qo.at hlt
          obtain ⟨B', m', d', rfl, -, qt⟩ := rdOp hr
          have hoP := HOPS.out op (List.mem_of_getElem? hxo)
          obtain ⟨ar, tb, rfl, har⟩ := op_nat hoP
          have HXO := Lib.hid hxo
          have HTL : Hid (m' = n ^ ar) := by show _ = _; rw [← qt.len]; have := hoP.2.2.1; simpa using this
          have HTB : Hid (tb.length = m') := qt.len
          have HTV := Lib.hid hoP.2.2.2
          have cc0' : wr.cell? ⟨b, o + j * 2, none⟩ = some (.int .i64 (ar : Int)) := keepc (HTA.out _ hG) (hc 0 _ rfl)
          have cc1' : wr.cell? ⟨b, o + j * 2 + 1, none⟩ = some (.slice B' m' d') := keepc (HTA.out _ hG) (hc 1 _ rfl)
          have hm512 : m' ≤ 4096 := by rw [HTL.out]; exact pow_bd hn8 (by omega)
          obtain ⟨w1, hw1, T1, hsz1, BX⟩ := boxes1 wr #[.int .i64 (ar : Int), .slice B' m' d'] 64
          have HW1 := Lib.hid hw1
          have hg1 := (hown.lt g rfl)
          have hG1 : w0.grownBy w1 (some g) := gk_trans hG (gk_of T1)
          have hown1 := own_next hown T1
          have hgx : (some wr.heap.size) ≠ some g := fun e => by injection e with e; omega
          have HBX : Hid (∀ wz, w1.grownBy wz (some g) → wz.cell? ⟨wr.heap.size, 0, none⟩ = some (.int .i64 (ar : Int)) ∧ wz.cell? ⟨wr.heap.size, 1, none⟩ = some (.slice B' m' d')) := fun wz hz => by
            have := BX.grown hz hgx
            have h0 := this.cell 0
            have h1 := this.cell 1
            simp at h0 h1
            exact ⟨h0, h1⟩
          clear hc hr hw1 hsz1 hxo hown hoP
          go_wp2_with fail
          rw [← HW1.out]
          clear cc0' cc1'
          go_wp2_with fail
          go_loopw [5, 6, 9, 10] (fun s1 s2 st kk wi => ∃ (k t : Nat) (p : List Int) (was ch : Bool), k ≤ ar ∧ kk = .int .i64 k ∧ st = .int .i64 t ∧ Hid (t = n ^ k) ∧ s1 = .bool was ∧ s2 = .bool ch ∧ Hid (CgI n ops p0 ps p was ch j k 0) ∧ wi.ownsRow base 3 1 (.slice (some ⟨g, 0, none⟩) n c) n (ints p) ∧ w1.grownBy wi (some g)) (fun _ _ _ kk _ => ar - (intOf kk).toNat)
          case atStart => exact ⟨0, 1, p, was, ch, Nat.zero_le _, rfl, rfl, (by show _ = _; rw [Nat.pow_zero]), rfl, rfl, HI, hown1, gk_refl _ _⟩
          case round =>
            clear hown1 HI
            obtain ⟨k, t, p, was, ch, hk, rfl, rfl, HTT, rfl, rfl, HI, hown, hG2⟩ := hrel
            have ht4 : t ≤ 4096 := by rw [HTT.out]; exact pow_bd hn8 (by omega)
            have ht0 : 0 < t := by rw [HTT.out]; exact Nat.pow_pos hn0
            have hG3 : w0.grownBy wr (some g) := gk_trans hG1 hG2
            have kX0 := (HBX.out _ hG2).1
            have kX1 := (HBX.out _ hG2).2
            have kP0 := (HBP.out _ hG3).1
            by_cases hlk : k < ar
            · have hk0 : (0 : Int) ≤ (k : Int) := by omega
              have hk1 : (k : Int) < (ar : Int) := by omega
              go_wp2_with fail
              clear kX0 kX1 kP0
              go_loopw [5, 6, 31] (fun s1 s2 i wi => ∃ (q : Nat) (p : List Int) (was ch : Bool), q ≤ m' ∧ i = .int .i64 q ∧ s1 = .bool was ∧ s2 = .bool ch ∧ Hid (CgI n ops p0 ps p was ch j k q) ∧ wi.ownsRow base 3 1 (.slice (some ⟨g, 0, none⟩) n c) n (ints p) ∧ w1.grownBy wi (some g)) (fun _ _ i _ => m' - (intOf i).toNat)
              case atStart => exact ⟨0, p, was, ch, Nat.zero_le _, rfl, rfl, rfl, HI, hown, hG2⟩
              case round =>
                clear hown HI hG2 hG3
                obtain ⟨q, p, was, ch, hq, rfl, rfl, rfl, HI, hown, hG2⟩ := hrel
                have hG3 : w0.grownBy wr (some g) := gk_trans hG1 hG2
                have kX0 := (HBX.out _ hG2).1
                have kX1 := (HBX.out _ hG2).2
                have kP0 := (HBP.out _ hG3).1
                by_cases hlq : q < m'
                · have hq0 : (0 : Int) ≤ (q : Int) := by omega
                  have hq1 : (q : Int) < (m' : Int) := by omega
                  obtain ⟨b3, o3, u3, v, rfl, hc3, ⟨rfl, -, -⟩, -, hxv⟩ := (qt.next stab_RI (HTA.out _ hG3)).at hlq
                  have hvi := HTV.out v (List.mem_of_getElem? hxv)
                  obtain ⟨y1, rfl⟩ := Int.eq_ofNat_of_zero_le hvi.1
                  have hy1n : y1 < n := by omega
                  have HY1 : Hid (nmAt tb q = y1) := by show _ = _; rw [nmAt_get hxv]; simp
                  obtain ⟨D, HD⟩ : ∃ D, Hid (q / t = D) := ⟨_, rfl⟩
                  obtain ⟨X, HX⟩ : ∃ X, Hid (D % n = X) := ⟨_, rfl⟩
                  have hXn : X < n := by rw [← HX.out]; exact Nat.mod_lt _ hn0
                  have hDq : D ≤ 4096 := by rw [← HD.out]; exact Nat.le_trans (Nat.div_le_self _ _) (by omega)
                  have hpX := HI.out.par.at hXn
                  obtain ⟨pX, HPX⟩ : ∃ z, Hid (nmAt p X = z) := ⟨_, rfl⟩
                  rw [HPX.out] at hpX
                  have hcX := par_cell hown hpX.1 hXn
                  obtain ⟨RP, HRP⟩ : ∃ z, Hid (repI n ar p q (ar - 1 - k) = z) := ⟨_, rfl⟩
                  have hRPm : RP < m' := by rw [← HRP.out, HTL.out]; exact repI_lt hn0 HI.out.par
                  have hrep := rep_prog (k := ar) (q := k) (i := q) (p := p) hn0 hlk (by rw [← HTL.out]; exact hlq)
                  rw [HRP.out, ← HTT.out, HD.out, HX.out, HPX.out] at hrep
                  obtain ⟨u4, v4, hc4, ⟨rfl, -, -⟩, -, hxv4⟩ := (qt.next stab_RI (HTA.out _ hG3)).at' hRPm
                  have hvi4 := HTV.out v4 (List.mem_of_getElem? hxv4)
                  obtain ⟨y2, rfl⟩ := Int.eq_ofNat_of_zero_le hvi4.1
                  have hy2n : y2 < n := by omega
                  have HY2 : Hid (nmAt tb (repI n ar p q (ar - 1 - k)) = y2) := by show _ = _; rw [HRP.out, nmAt_get hxv4]; simp
                  have htz : ¬ (t : Int) = 0 := by omega
                  have hnz : ¬ (n : Int) = 0 := by omega
                  have f1 : (q : Int) / (t : Int) = (D : Int) := by rw [← HD.out]; simp
                  have f2 : (q : Int).tdiv (t : Int) = (D : Int) := by rw [← HD.out]; exact Int.ofNat_tdiv q t ▸ rfl
                  have f3 : IntKind.i64.wrap (D : Int) = (D : Int) := by rw [IntKind.wrap_i64]; omega
                  have f4 : (D : Int).tmod (n : Int) = (X : Int) := by rw [← HX.out]; rfl
                  have f5 : (D : Int) % (n : Int) = (X : Int) := by rw [← HX.out]; simp
                  have hX0 : (0 : Int) ≤ (X : Int) := by omega
                  have hX1 : (X : Int) < (n : Int) := by omega
                  have hR0 : (0 : Int) ≤ (RP : Int) := by omega
                  have hR1 : (RP : Int) < (m' : Int) := by omega
                  have er : (q : Int) + ((pX : Int) - (X : Int)) * (t : Int) = (RP : Int) := hrep.symm
                  have ew1 : IntKind.i64.wrap ((pX : Int) - (X : Int)) = (pX : Int) - (X : Int) := by rw [IntKind.wrap_i64]; omega
                  have ew2 : IntKind.i64.wrap (((pX : Int) - (X : Int)) * (t : Int)) = ((pX : Int) - (X : Int)) * (t : Int) := by
                    have e1 : ((pX : Int) - (X : Int)) * (t : Int) = (RP : Int) - (q : Int) := by omega
                    rw [e1, IntKind.wrap_i64]
                    omega
                  have ew3 : IntKind.i64.wrap (RP : Int) = (RP : Int) := by rw [IntKind.wrap_i64]; omega
                  have HU := Lib.hid fun (wz : World) (ho : wz.ownsRow base 3 1 (.slice (some ⟨g, 0, none⟩) n c) n (ints p)) => unite_any g n c base p y1 y2 wz ho HI.out.par hy1n hy2n (by omega)
                  clear hxv hvi hxv4 hvi4 hrep hpX
                  go_wp2_with fail
                  go_quiet (fail)
                  go_wp2_with fail
                  clear f1 f2 f4 f5
                  go_region_law (first
                    | (go_simp; go_at_call 95; (with_reducible refine (HU.out _ ?_).mono ?_); (exact hown); rintro e wu ⟨rfl, hou, hgu⟩))
                  all_goals
                    have hG4 : w1.grownBy wu (some g) := (by first | exact gk_trans hG2 hgu | exact gk_trans (gk_drewN hG2 _) hgu)
                    have HOU := Lib.hid hou
                    clear hou hgu
                    by_cases heq : nmAt p y1 = nmAt p y2
                    · have HI2 : Hid (CgI n ops p0 ps (uniL p y1 y2) was ch j k (q + 1)) := HI.out.keep HXO.out HY1.out (by simpa using HY2.out) heq
                      have hd : decide (nmAt p y1 = nmAt p y2) = true := decide_eq_true heq
                      rw [hd]
                      clear heq hd
                      go_wp2_with fail
                      go_roundw
                      case rel => exact ⟨q + 1, _, was, ch, by omega, by go_num, rfl, rfl, HI2, HOU.out, hG4⟩
                      case measure => simp [intOf]; try omega
                    · have HI2 : Hid (CgI n ops p0 ps (uniL p y1 y2) true true j k (q + 1)) := HI.out.join HXO.out (by simpa using hlk) (by have := HTB.out; simp only; omega) HY1.out (by simpa using HY2.out) hy1n hy2n heq
                      have hd : decide (nmAt p y1 = nmAt p y2) = false := decide_eq_false heq
                      rw [hd]
                      clear heq hd
                      go_wp2_with fail
                      go_roundw
                      case rel => exact ⟨q + 1, _, true, true, by omega, by go_num, rfl, rfl, HI2, HOU.out, hG4⟩
                      case measure => simp [intOf]; try omega
                · have hq1 : ¬ (q : Int) < (m' : Int) := by omega
                  have HI2 : Hid (CgI n ops p0 ps p was ch j (k + 1) 0) := HI.out.mv fun h => h.digit HXO.out (by have := HTB.out; simp only; omega)
                  have hM : t * n ≤ 4096 * 8 := Nat.mul_le_mul ht4 hn8
                  have hm0 : (0 : Int) ≤ (t : Int) * (n : Int) := by rw [← Int.natCast_mul]; omega
                  have hm1 : (t : Int) * (n : Int) ≤ 32768 := by rw [← Int.natCast_mul]; omega
                  have HE : Hid ((t : Int) * (n : Int) = ((t * n : Nat) : Int)) := (Int.natCast_mul _ _).symm
                  have HT2 : Hid (t * n = n ^ (k + 1)) := by show _ = _; rw [HTT.out, Nat.pow_succ]
                  clear hM kX1
                  go_wp2_with fail
                  go_roundw
                  case rel => exact ⟨k + 1, t * n, p, was, ch, by omega, by go_num, by rw [HE.out], HT2, rfl, rfl, HI2, hown, hG2⟩
                  case measure => simp [intOf]; try omega
            · have hk1 : ¬ (k : Int) < (ar : Int) := by omega
              have HI2 : Hid (CgI n ops p0 ps p was ch (j + 1) 0 0) := HI.out.mv fun h => h.op HXO.out (by simp; omega)
              clear kX1 kP0
              go_wp2_with fail
              go_roundw
              case rel => exact ⟨j + 1, p, was, ch, by omega, by go_num, rfl, rfl, HI2, hown, hG3⟩
              case measure => simp [intOf]; try omega
        · have hj1 : ¬ (j : Int) < (m : Int) := by omega
          have HF1 : Hid (was = true → ¬ CompP n ops p0) := HI.out.yes
          have HF2 : Hid ((was = false → p = p0) ∧ UL n ops p0 p) := ⟨fun h => (HI.out.no h).1, HI.out.ul⟩
          have HF3 : Hid (ch = false → CompP n ops p) := fun h => (HI.out.fin h).2.done (by rw [HML.out]; exact hlt)
          have HPP : Hid (ParP n p) := HI.out.par
          have HMS2 : Hid (fixW wr g n = fixs n p) := fixW_row hown HI.out.par
          go_wp2_with fail
          go_roundw
          case rel => exact ⟨p, was, ch, rfl, rfl, HPP, HF1, HF2, HF3, hown, hG⟩
          case measure =>
            show 2 * fixW wr g n + flgV (.bool ch) < 2 * fixW _ g n + flgV (.bool true)
            rw [HMS2.out, HMS.out]
            rcases ch with _ | _
            · rw [(HI.out.fin rfl).1]
              show 2 * fixs n ps + 0 < 2 * fixs n ps + 1
              omega
            · have := HI.out.less rfl
              show 2 * fixs n p + 1 < 2 * fixs n ps + 1
              omega
theorem isCongruence_any (cs : List Value) (x : AlgebraM) (A : Option Addr) (m c : Nat) (p : List Int) (w : World) (h : shAlgebra.rd w cs x) (hx : AlgP x) (hr : RdL RI w A m p) :
    Calls Tryz.prog 37 #[.agg cs.toArray, .slice A m c] w (Bl w (.bool (congB x.1.toNat x.2 p))) := by
  have hrd := h
  obtain ⟨B, k, d, rfl, -, qo⟩ := rdAlgebra h
  obtain ⟨n, hN⟩ : ∃ n : Nat, x.1 = (n : Int) := ⟨x.1.toNat, by have := hx.1; omega⟩
  have HNN := Lib.hid hN
  have hn8 : n ≤ 8 := by have := hx.2.1; omega
  have hn0 : 0 < n := by have := hx.1; omega
  have HNT : Hid (x.1.toNat = n) := by show _ = _; omega
  obtain ⟨w0, hw0, T0, hsz0, BP⟩ := boxes1 w #[.int .i64 x.1, .slice B k d] 26
  have HW0 := Lib.hid hw0
  have HRD := Lib.hid (shAlgebra.stab hrd T0.block)
  rw [hN] at HW0 BP
  have cP0 := BP.cell 0
  have cP1 := BP.cell 1
  simp at cP0 cP1
  have HX := Lib.hid hx
  have r0 := hr.next stab_RI T0
  have HLN := Lib.hid hr.len
  have HI : Hid (∀ wz, Below w0.heap.size w0 wz → Calls Tryz.prog 65 #[.int .i64 (n : Int), .slice A m c] wz (Qt wz (.bool (tt (ParP n p))))) := fun wz hz => quiet_same (isPartition_any A n m c p wz (r0.next stab_RI hz) (by omega))
  rw [HNT.out]
  rw [hN]
  clear hw0 hsz0 hrd qo h hx hr hN
  rcases hb : tt (ParP n p) with _ | _
  · rw [hb] at HI
    have HR : Hid (congB n x.2 p = false) := by show _ = _; unfold congB; rw [hb]; rfl
    clear hb
    go_enter Tryz.func37, Tryz.ntmps37
    go_upto_region 1 with fail
    rw [← HW0.out]
    go_quiet ((go_at_call 65; first | exact quiet_one (HI.out _ (by first | exact Below.refl _ _ | exact below_drewN (Below.refl _ _) _)) | exact quiet_add (HI.out _ (by first | exact Below.refl _ _ | exact below_drewN (Below.refl _ _) _))))
    go_wp2_with fail
    go_ret
    exact ⟨ret_bool HR.out.symm, (by first | exact T0 | exact below_drewN (T0) _ | exact below_drewN (below_drewN (T0) _) _ | exact below_drewN (below_drewN (below_drewN (T0) _) _) _)⟩
  · rw [hb] at HI
    have hp := tt_iff.1 hb
    have hmn : m = n := by rw [← HLN.out]; exact hp.1
    subst hmn
    have HP := Lib.hid hp
    have HR : Hid (congB m x.2 p = tt (CompP m x.2 p)) := by show _ = _; unfold congB; rw [hb]; rfl
    obtain ⟨cb, HCB⟩ : ∃ z, Hid (tt (CompP m x.2 p) = z) := ⟨_, rfl⟩
    have HCL : Hid (∀ wz, Below w0.heap.size w0 wz → Calls Tryz.prog 67 #[.slice A m c] wz fun e w' => ∃ A' c', e = .returned (.slice A' m c') ∧ w'.ownsRow wz.heap.size 3 1 (.slice A' m c') m (ints p) ∧ Below wz.heap.size wz w') := fun wz hz => clone_any A m c p wz (r0.next stab_RI hz) (by omega)
    have HCP : Hid (∀ (g c2 : Nat) (wz : World), Below w0.heap.size w0 wz → wz.ownsRow w0.heap.size 3 1 (.slice (some ⟨g, 0, none⟩) m c2) m (ints p) → Calls Tryz.prog 66 #[.agg #[.int .i64 (m : Int), .slice B k d], .slice (some ⟨g, 0, none⟩) m c2] wz fun e w' => e = .returned (.bool (!cb)) ∧ wz.grownBy w' (some g)) := fun g c2 wz hz ho => by
      have := closePartition_any _ x g m c2 w0.heap.size p w0 wz HRD.out HX.out HNN.out hz (Nat.le_refl _) ho HP.out
      rw [HNN.out, HCB.out] at this
      exact this.mono fun _ _ h => ⟨h.1, h.2.1⟩
    have Tk : Below w0.heap.size w0 w0 := Below.refl _ _
    clear hb hp
    go_enter Tryz.func37, Tryz.ntmps37
    go_upto_region 1 with fail
    rw [← HW0.out]
    go_region_law (first
      | (go_simp; go_at_call 65; (with_reducible refine (HI.out _ ?_).mono ?_); (first | exact Tk | exact below_drewN Tk _); rintro e wa ⟨rfl, za, rfl⟩)
      | (go_simp; go_at_call 67; (with_reducible refine (HCL.out _ ?_).mono ?_); (first | exact Tk | exact below_drewN Tk _); rintro e wb ⟨A5, c5, rfl, ho5, hb5⟩; replace ho5 := own_mono (base' := w0.heap.size) ho5 (by exact Tk.size); replace Tk := below_next (by first | exact Tk | exact below_drewN Tk _) hb5 rfl; obtain ⟨g5, rfl, -, -⟩ := own_form ho5 hn0; have cQ0 := keepc Tk cP0; have cQ1 := keepc Tk cP1)
      | (go_simp; go_at_call 66; (refine (HCP.out g5 c5 _ ?_ ?_).mono ?_); (first | exact Tk | exact below_drewN Tk _); (exact ho5); rintro e wc ⟨rfl, hgc⟩; replace Tk := Below.grown (by first | exact Tk | exact below_drewN Tk _) hgc (by exact Tk.size) (fun r hr => by injection hr with hr; subst hr; exact (ho5.lt _ rfl).1)))
    all_goals
      go_wp2_with fail
      go_ret
      exact ⟨ret_bool (by rw [HR.out, HCB.out]; try simp), below_next T0 (by first | exact Tk | exact below_drewN Tk _) rfl⟩
noncomputable def permB (n : Nat) (L : List Int) : Bool := tt (PermL n L)
theorem permB_len {n : Nat} {L : List Int} (h : L.length ≠ n) : false = permB n L := tt_false fun hp => h hp.1
theorem permB_out {n : Nat} {L : List Int} (h : allIn 0 ((n : Int) - 1) L = false) : false = permB n L := tt_false fun hp => by
  have := allIn_iff.2 hp.2.1
  rw [this] at h
  cases h
theorem permB_dup {n k : Nat} {L : List Int} {y : Int} (hy : L[k]? = some y) (h : hasI y (L.take k) = true) : false = permB n L := tt_false fun hp => by
  have hm := hasI_iff.1 h
  obtain ⟨i, hi⟩ := List.getElem?_of_mem hm
  rw [List.getElem?_take] at hi
  split at hi
  · have := nodup_at hp.2.2 hi hy
    omega
  · cases hi
theorem permB_yes {n : Nat} {L : List Int} (h1 : L.length = n) (h2 : allIn 0 ((n : Int) - 1) L = true) (h3 : L.Nodup) : true = permB n L := tt_true ⟨h1, allIn_iff.1 h2, h3⟩
theorem take_nodup {k : Nat} {L : List Int} {y : Int} (h : (L.take k).Nodup) (hy : L[k]? = some y) (hm : hasI y (L.take k) = false) : (L.take (k + 1)).Nodup := by
  rw [List.take_add_one, hy]
  show (L.take k ++ [y]).Nodup
  rw [List.nodup_append]
  refine ⟨h, by simp, fun a ha b hb => ?_⟩
  rw [List.mem_singleton] at hb
  subst hb
  intro e
  subst e
  rw [hasI_iff.2 ha] at hm
  cases hm
theorem inL_nil (n : Nat) (L : List Int) : inL n (L.take 0) = List.replicate n false := by
  unfold inL
  rw [List.take_zero]
  exact List.eq_replicate_iff.2 ⟨by simp, fun b hb => by obtain ⟨y, -, rfl⟩ := List.mem_map.1 hb; rfl⟩
theorem gB_inL {n x : Nat} {L : List Int} (hx : x < n) : gB (inL n L) x = hasI (x : Int) L := by
  unfold gB inL
  rw [List.getD_eq_getElem?_getD, List.getElem?_map, List.getElem?_range hx]
  rfl
theorem isOrder_any (A : Option Addr) (m c n : Nat) (L : List Int) (w : World) (h : RdL RI w A m L) (hn : n ≤ 1000) :
    Calls Tryz.prog 22 #[.slice A m c, .int .i64 n] w (Bl w (.bool (permB n L))) := by
  have hle := h.le
  have HL := Lib.hid h.len
  by_cases hmn : m = n
  case neg =>
    have hq : ((m : Int) != (n : Int)) = true := by simp; omega
    have HR : Hid (false = permB n L) := permB_len (by rw [HL.out]; exact hmn)
    go_enter Tryz.func22, Tryz.ntmps22
    go_wp2_with fail
    go_ret
    exact ⟨ret_bool HR.out, Below.refl _ _⟩
  subst hmn
  have hq : ((m : Int) != (m : Int)) = false := by simp
  obtain ⟨el, HEL⟩ : ∃ b, Hid (allIn 0 ((m : Int) - 1) L = b) := ⟨_, rfl⟩
  have HE := Lib.hid (inSize_any A m c L m w h)
  rw [HEL.out] at HE
  rcases el with _ | _
  · have HR := Lib.hid (permB_out HEL.out)
    go_enter Tryz.func22, Tryz.ntmps22
    go_wp2_with fail
    refine HE.out.mono ?_
    rintro e w' ⟨rfl, rfl⟩
    go_wp2_with fail
    go_ret
    exact ⟨ret_bool HR.out, Below.refl _ _⟩
  have HS : Hid (∀ v ∈ L, 0 ≤ v ∧ v ≤ (m : Int) - 1) := allIn_iff.1 HEL.out
  go_enter Tryz.func22, Tryz.ntmps22
  go_wp2_with fail
  refine HE.out.mono ?_
  rintro e w' ⟨rfl, rfl⟩
  obtain ⟨wo, HWO⟩ : ∃ wo : World, wo = w := ⟨_, rfl⟩
  subst HWO
  go_wp2_with (at_make; refine make_bl wo rfl _ _ rfl m rfl rfl (by omega) ?_; intro w1 hown1 hg1)
  have hb1 := (Below.refl wo.heap.size wo).grown hg1 (Nat.le_refl _) (by simp)
  clear hg1
  go_loopw [22] (fun i wr => ∃ k : Nat, k ≤ m ∧ i = .int .i64 k ∧ wr.ownsRow wo.heap.size 4 1 (.slice (some ⟨wo.heap.size, 0, none⟩) m m) m (bls (inL m (L.take k))) ∧ Hid ((L.take k).Nodup) ∧ Below wo.heap.size wo wr) (fun i _ => m - (intOf i).toNat)
  case atStart =>
    refine ⟨0, Nat.zero_le _, rfl, ?_, (by show (L.take 0).Nodup; simp), hb1⟩
    rw [inL_nil]
    exact hown1
  case round =>
    clear hown1 hb1
    obtain ⟨k, hk, rfl, hown, HND, hTr⟩ := hrel
    by_cases hlt : k < m
    · have hk0 : (0 : Int) ≤ (k : Int) := by omega
      have hk1 : (k : Int) < (m : Int) := by omega
      obtain ⟨b, o, u, v, rfl, hc, ⟨rfl, hv0, hv1⟩, -, hx⟩ := h.at hlt
      have hvi := HS.out v (List.mem_of_getElem? hx)
      obtain ⟨x, rfl⟩ := Int.eq_ofNat_of_zero_le hvi.1
      have hxn : x < m := by omega
      have HSET := Lib.hid (inL_set hx hxn)
      have HX := Lib.hid hx
      replace hc := keepc hTr hc
      obtain ⟨sb, HSB⟩ : ∃ b, Hid (hasI (x : Int) (L.take k) = b) := ⟨_, rfl⟩
      have hcell : wr.cell? ⟨wo.heap.size, x, none⟩ = some (.bool sb) := by rw [hown.cellAt x (by omega), bls_get (by rw [inL_len]; exact hxn), gB_inL hxn, HSB.out]
      have hfz := hown.frozenAt x
      have hst := (hown.stored x (.bool true)).1
      rw [bls_set, HSET.out] at hst
      have hx0 : (0 : Int) ≤ (x : Int) := by omega
      have hx1 : (x : Int) < (m : Int) := by omega
      clear hx hown
      rcases sb with _ | _
      · have HN2 := Lib.hid (take_nodup HND.out HX.out HSB.out)
        go_wp2_with fail
        go_roundw
        case rel => exact ⟨k + 1, by omega, by go_num, hst, HN2, hTr.setCell (Nat.le_refl _) _⟩
        case measure => simp [intOf]; try omega
      · have HR : Hid (false = permB m L) := permB_dup HX.out HSB.out
        go_wp2_with fail
        go_ret
        exact ⟨ret_bool HR.out, hTr⟩
    · have hk1 : ¬ (k : Int) < (m : Int) := by omega
      have HR : Hid (true = permB m L) := permB_yes HL.out HEL.out (by have := HND.out; rwa [List.take_of_length_le (by rw [HL.out]; omega)] at this)
      go_wp2_with fail
      go_ret
      exact ⟨ret_bool HR.out, hTr⟩
theorem l2PermB_any (A : Option Addr) (m c n : Nat) (L : List Int) (w : World) (h : RdL RI w A m L) (hn : n ≤ 1000) :
    Calls Tryz.prog 25 #[.slice A m c, .int .i64 n] w (Bl w (.bool (permB n L))) := by
  have hle := h.le
  have HL := Lib.hid h.len
  by_cases hmn : m = n
  case neg =>
    have hq : ((m : Int) != (n : Int)) = true := by simp; omega
    have HR : Hid (false = permB n L) := permB_len (by rw [HL.out]; exact hmn)
    go_enter Tryz.func25, Tryz.ntmps25
    go_wp2_with fail
    go_ret
    exact ⟨ret_bool HR.out, Below.refl _ _⟩
  subst hmn
  have hq : ((m : Int) != (m : Int)) = false := by simp
  obtain ⟨el, HEL⟩ : ∃ b, Hid (allIn 0 ((m : Int) - 1) L = b) := ⟨_, rfl⟩
  have HE := Lib.hid (l2Elements_any A m c L m w h (by omega) (by omega))
  rw [HEL.out] at HE
  rcases el with _ | _
  · have HR := Lib.hid (permB_out HEL.out)
    go_enter Tryz.func25, Tryz.ntmps25
    go_wp2_with fail
    refine HE.out.mono ?_
    rintro e w' ⟨rfl, rfl⟩
    go_wp2_with fail
    go_ret
    exact ⟨ret_bool HR.out, Below.refl _ _⟩
  have HS : Hid (∀ v ∈ L, 0 ≤ v ∧ v ≤ (m : Int) - 1) := allIn_iff.1 HEL.out
  go_enter Tryz.func25, Tryz.ntmps25
  go_wp2_with fail
  refine HE.out.mono ?_
  rintro e w' ⟨rfl, rfl⟩
  obtain ⟨wo, HWO⟩ : ∃ wo : World, wo = w := ⟨_, rfl⟩
  subst HWO
  go_wp2_with (at_make; refine make_bl wo rfl _ _ rfl m rfl rfl (by omega) ?_; intro w1 hown1 hg1)
  have hb1 := (Below.refl wo.heap.size wo).grown hg1 (Nat.le_refl _) (by simp)
  clear hg1
  go_loopw [6] (fun i wr => ∃ k : Nat, k ≤ m ∧ i = .int .i64 k ∧ wr.ownsRow wo.heap.size 4 1 (.slice (some ⟨wo.heap.size, 0, none⟩) m m) m (bls (inL m (L.take k))) ∧ Hid ((L.take k).Nodup) ∧ Below wo.heap.size wo wr) (fun i _ => m - (intOf i).toNat)
  case atStart =>
    refine ⟨0, Nat.zero_le _, rfl, ?_, (by show (L.take 0).Nodup; simp), hb1⟩
    rw [inL_nil]
    exact hown1
  case round =>
    clear hown1 hb1
    obtain ⟨k, hk, rfl, hown, HND, hTr⟩ := hrel
    by_cases hlt : k < m
    · have hk0 : (0 : Int) ≤ (k : Int) := by omega
      have hk1 : (k : Int) < (m : Int) := by omega
      obtain ⟨b, o, u, v, rfl, hc, ⟨rfl, hv0, hv1⟩, -, hx⟩ := h.at hlt
      have hvi := HS.out v (List.mem_of_getElem? hx)
      obtain ⟨x, rfl⟩ := Int.eq_ofNat_of_zero_le hvi.1
      have hxn : x < m := by omega
      have HSET := Lib.hid (inL_set hx hxn)
      have HX := Lib.hid hx
      replace hc := keepc hTr hc
      obtain ⟨sb, HSB⟩ : ∃ b, Hid (hasI (x : Int) (L.take k) = b) := ⟨_, rfl⟩
      have hcell : wr.cell? ⟨wo.heap.size, x, none⟩ = some (.bool sb) := by rw [hown.cellAt x (by omega), bls_get (by rw [inL_len]; exact hxn), gB_inL hxn, HSB.out]
      have hfz := hown.frozenAt x
      have hst := (hown.stored x (.bool true)).1
      rw [bls_set, HSET.out] at hst
      have hx0 : (0 : Int) ≤ (x : Int) := by omega
      have hx1 : (x : Int) < (m : Int) := by omega
      clear hx hown
      rcases sb with _ | _
      · have HN2 := Lib.hid (take_nodup HND.out HX.out HSB.out)
        go_wp2_with fail
        go_roundw
        case rel => exact ⟨k + 1, by omega, by go_num, hst, HN2, hTr.setCell (Nat.le_refl _) _⟩
        case measure => simp [intOf]; try omega
      · have HR : Hid (false = permB m L) := permB_dup HX.out HSB.out
        go_wp2_with fail
        go_ret
        exact ⟨ret_bool HR.out, hTr⟩
    · have hk1 : ¬ (k : Int) < (m : Int) := by omega
      have HR : Hid (true = permB m L) := permB_yes HL.out HEL.out (by have := HND.out; rwa [List.take_of_length_le (by rw [HL.out]; omega)] at this)
      go_wp2_with fail
      go_ret
      exact ⟨ret_bool HR.out, hTr⟩
theorem zeros_int (n : Nat) : List.replicate n (Value.int .i64 0) = ints (List.replicate n 0) := by simp [ints]
theorem own_cellI {w : World} {base g n c k : Nat} {Q : List Int} (h : w.ownsRow base 3 1 (.slice (some ⟨g, 0, none⟩) n c) n (ints Q)) (hl : Q.length = n) (hk : k < n) : ∃ z, w.cell? ⟨g, k, none⟩ = some (.int .i64 z) := by
  refine ⟨Q[k]'(by omega), ?_⟩
  rw [h.cellAt k (by omega)]
  unfold ints
  rw [List.getElem?_map, List.getElem?_eq_getElem (by omega)]
  rfl
theorem comp_done {V f Q : List Int} (hl : Q.length = V.length) (h : ∀ x, x < V.length → Q[x]? = some (nmI f (V.getD x 0))) : Q = comp V f := by
  apply List.ext_getElem?
  intro i
  unfold comp
  rw [List.getElem?_map]
  by_cases hi : i < V.length
  · rw [h i hi, List.getElem?_eq_getElem hi, List.getD_eq_getElem?_getD, List.getElem?_eq_getElem hi]
    rfl
  · rw [List.getElem?_eq_none (by omega), List.getElem?_eq_none (by omega)]
    rfl
theorem kerL_done {q Q : List Int} (hl : Q.length = q.length) (h : ∀ x, x < q.length → Q[x]? = some ((posN q (q.getD x 0) : Nat) : Int)) : Q = kerL q := by
  apply List.ext_getElem?
  intro i
  unfold kerL
  rw [List.getElem?_map]
  by_cases hi : i < q.length
  · rw [h i hi, List.getElem?_eq_getElem hi, List.getD_eq_getElem?_getD, List.getElem?_eq_getElem hi]
    rfl
  · rw [List.getElem?_eq_none (by omega), List.getElem?_eq_none (by omega)]
    rfl
def valAt (w : World) (g k : Nat) : Nat := match w.cell? ⟨g, k, none⟩ with | some (.int .i64 y) => y.toNat | _ => 0
theorem valAt_eq {w : World} {g k y : Nat} (h : w.cell? ⟨g, k, none⟩ = some (.int .i64 (y : Int))) : valAt w g k = y := by unfold valAt; rw [h]; simp
theorem kernelOf_any (A : Option Addr) (n c : Nat) (q : List Int) (w : World) (h : RdL RI w A n q) (hn : n ≤ 1000) :
    Calls Tryz.prog 36 #[.slice A n c] w (OwI w (kerL q)) := by
  have hle := h.le
  have HL := Lib.hid h.len
  have HLK : Hid ((kerL q).length = n) := by show _ = _; rw [kerL_len]; exact h.len
  go_enter Tryz.func36, Tryz.ntmps36
  go_wp2_with (at_make; refine make_ints w rfl _ _ rfl n rfl rfl (by omega) ?_; intro w1 hown1 hg1)
  have hb1 := (Below.refl w.heap.size w).grown hg1 (Nat.le_refl _) (by simp)
  rw [zeros_int] at hown1
  clear hg1
  go_loopw [10] (fun i wr => ∃ (k : Nat) (Q : List Int), k ≤ n ∧ i = .int .i64 k ∧ wr.ownsRow w.heap.size 3 1 (.slice (some ⟨w.heap.size, 0, none⟩) n n) n (ints Q) ∧ Hid (Q.length = n) ∧ Hid (∀ x, x < k → Q[x]? = some ((posN q (q.getD x 0) : Nat) : Int)) ∧ Below w.heap.size w wr) (fun i _ => n - (intOf i).toNat)
  case atStart => exact ⟨0, _, Nat.zero_le _, rfl, hown1, List.length_replicate .., (fun x hx => absurd hx (by omega)), hb1⟩
  case round =>
    clear hown1 hb1
    obtain ⟨k, Q, hk, rfl, hown, HQL, HQ, hTr⟩ := hrel
    by_cases hlt : k < n
    · have hk0 : (0 : Int) ≤ (k : Int) := by omega
      have hk1 : (k : Int) < (n : Int) := by omega
      obtain ⟨b, o, u, v, rfl, hc, ⟨rfl, hv0, hv1⟩, -, hx⟩ := h.at hlt
      have hfz := hown.frozenAt k
      obtain ⟨z0, hcz0⟩ := own_cellI hown HQL.out hlt
      have hst := (hown.stored k (.int .i64 0)).1
      rw [ints_set] at hst
      have HX := Lib.hid hx
      have HV : Hid (q.getD k 0 = v) := by show _ = _; rw [List.getD_eq_getElem?_getD, hx]; rfl
      have T2 : Below w.heap.size w (wr.setCell ⟨w.heap.size, k, none⟩ (.int .i64 0)) := hTr.setCell (Nat.le_refl _) _
      have HQK : Hid (∀ y : Nat, ∀ x, x < k → (Q.set k (y : Int))[x]? = some ((posN q (q.getD x 0) : Nat) : Int)) := fun y x hx => by
        rw [List.getElem?_set, if_neg (by omega)]
        exact HQ.out x hx
      clear hx hown hc
      go_wp2_with fail
      go_loopw [28] (fun _ wi => ∃ y : Nat, y ≤ k ∧ wi.ownsRow w.heap.size 3 1 (.slice (some ⟨w.heap.size, 0, none⟩) n n) n (ints (Q.set k (y : Int))) ∧ Hid (∀ z, z < y → q[z]? ≠ some v) ∧ Below w.heap.size w wi) (fun _ wi => n - valAt wi w.heap.size k)
      case atStart => exact ⟨0, Nat.zero_le _, hst, (fun z hz => absurd hz (by omega)), T2⟩
      case round =>
        clear hst T2
        obtain ⟨y, hy, hown, HB, hTi⟩ := hrel
        have hyn : y < n := by omega
        obtain ⟨uk, vk, hck, ⟨rfl, -, -⟩, -, hxk⟩ := (h.next stab_RI hTi).at' hlt
        obtain rfl : vk = v := by rw [HX.out] at hxk; injection hxk with e; exact e.symm
        obtain ⟨uy, vy, hcy, ⟨rfl, -, -⟩, -, hxy⟩ := (h.next stab_RI hTi).at' hyn
        have hcell : wr.cell? ⟨w.heap.size, k, none⟩ = some (.int .i64 (y : Int)) := by
          rw [hown.cellAt k (by omega)]
          unfold ints
          rw [List.getElem?_map, List.getElem?_set, if_pos rfl, if_pos (by rw [HQL.out]; exact hlt)]
          rfl
        have hy0 : (0 : Int) ≤ (y : Int) := by omega
        have hy1 : (y : Int) < (n : Int) := by omega
        have hfz2 := hown.frozenAt k
        have HM := Lib.hid (valAt_eq hcell)
        obtain ⟨ne, hne⟩ : ∃ b, (vy != vk) = b := ⟨_, rfl⟩
        have HNE := Lib.hid hne
        have HXY := Lib.hid hxy
        clear hxk hxy
        go_wp2_with fail
        go_quiet (fail)
        rcases ne with _ | _
        · have HEQ : Hid (vy = vk) := by have := HNE.out; show vy = vk; simpa using this
          have HP : Hid (posN q (q.getD k 0) = y) := by
            show _ = _
            rw [HV.out]
            exact posN_first (by rw [HXY.out, HEQ.out]) HB.out
          have HQ2 : Hid (∀ x, x < k + 1 → (Q.set k (y : Int))[x]? = some ((posN q (q.getD x 0) : Nat) : Int)) := fun x hx => by
            by_cases e : x = k
            · subst e
              rw [List.getElem?_set, if_pos rfl, if_pos (by rw [HQL.out]; exact hlt), HP.out]
            · exact HQK.out y x (by omega)
          have HQL2 : Hid ((Q.set k (y : Int)).length = n) := by show _ = _; rw [List.length_set]; exact HQL.out
          go_wp2_with fail
          go_roundw
          case rel => exact ⟨k + 1, _, by omega, by go_num, by first | exact hown | exact own_next hown (below_drewN (Below.refl _ _) _), HQL2, HQ2, by first | exact hTi | exact below_drewN hTi _⟩
          case measure => simp [intOf]; try omega
        · have HNQ : Hid (¬ vy = vk) := by have := HNE.out; show ¬ vy = vk; simpa using this
          have hyk : y ≠ k := fun e => by
            subst e
            have := HXY.out
            rw [HX.out] at this
            injection this with this
            exact HNQ.out this.symm
          have hst2 := (hown.stored k (.int .i64 ((y : Int) + 1))).1
          rw [ints_set, List.set_set] at hst2
          have HB2 : Hid (∀ z, z < y + 1 → q[z]? ≠ some vk) := fun z hz => by
            by_cases e : z = y
            · subst e
              rw [HXY.out]
              intro e2
              injection e2 with e2
              exact HNQ.out e2
            · exact HB.out z (by omega)
          have hc2 : (wr.setCell ⟨w.heap.size, k, none⟩ (.int .i64 ((y : Int) + 1))).cell? ⟨w.heap.size, k, none⟩ = some (.int .i64 ((y + 1 : Nat) : Int)) := by
            rw [hst2.cellAt k (by omega)]
            unfold ints
            rw [List.getElem?_map, List.getElem?_set, if_pos rfl, if_pos (by rw [HQL.out]; exact hlt)]
            show some _ = some _
            congr 1
          have HM2 := Lib.hid (valAt_eq hc2)
          have hw64 : IntKind.i64.wrap ((y : Int) + 1) = (y : Int) + 1 := IntWalk.i64_in _ (by omega)
          clear hc2
          go_wp2_with fail
          go_roundw
          case rel => exact ⟨y + 1, by omega, by push_cast; first | exact hst2 | exact own_next hst2 (below_drewN (Below.refl _ _) _), HB2, by first | exact hTi.setCell (Nat.le_refl _) _ | exact (below_drewN hTi _).setCell (Nat.le_refl _) _⟩
          case measure =>
            rw [HM.out]
            refine Nat.lt_of_le_of_lt (Nat.le_of_eq (congrArg (fun z => n - z) (show valAt _ w.heap.size k = y + 1 from HM2.out))) ?_
            show n - (y + 1) < n - y
            omega
    · obtain rfl : k = n := by omega
      have hk1 : ¬ (k : Int) < (k : Int) := by omega
      have HD : Hid (Q = kerL q) := kerL_done (by rw [HQL.out, HL.out]) (by rw [HL.out]; exact HQ.out)
      go_wp2_with fail
      go_ret
      exact ⟨some ⟨w.heap.size, 0, none⟩, k, by rw [HLK.out]; rfl, by rw [HLK.out, ← HD.out]; exact hown, hTr⟩
theorem join_any (A B : Option Addr) (n c d : Nat) (p q : List Int) (w : World) (hp : RdL RI w A n p) (hq : RdL RI w B n q) (P : ParP n p) (Q : ParP n q) (h0 : 0 < n) (hn : n ≤ 1000) :
    Calls Tryz.prog 89 #[.slice A n c, .slice B n d] w (OwI w (joinP p q)) := by
  have HJL : Hid ((joinP p q).length = n) := (joinP_par P Q).1
  have HJ : Hid (joinP p q = joinTo p q n) := joinP_n Q
  go_enter Tryz.func89, Tryz.ntmps89
  go_wp2_with fail
  refine (clone_any A n c p _ hp (by omega)).mono ?_
  rintro e w1 ⟨A1, c1, rfl, ho, hb⟩
  obtain ⟨g, rfl, hg1, hg2⟩ := own_form ho h0
  go_wp2_with fail
  go_loopw [12] (fun i wr => ∃ k : Nat, k ≤ n ∧ i = .int .i64 k ∧ wr.ownsRow w.heap.size 3 1 (.slice (some ⟨g, 0, none⟩) n c1) n (ints (joinTo p q k)) ∧ Below w.heap.size w wr) (fun i _ => n - (intOf i).toNat)
  case atStart => exact ⟨0, Nat.zero_le _, rfl, ho, hb⟩
  case round =>
    clear ho hb
    obtain ⟨k, hk, rfl, ho, hT⟩ := hrel
    have hz := hT.size
    by_cases hlt : k < n
    · have hk0 : (0 : Int) ≤ (k : Int) := by omega
      have hk1 : (k : Int) < (n : Int) := by omega
      have hqk := Q.at hlt
      obtain ⟨y, HY⟩ : ∃ y, Hid (nmAt q k = y) := ⟨_, Lib.hid rfl⟩
      rw [HY.out] at hqk
      obtain ⟨b, o, u, v, rfl, hc, ⟨rfl, -, -⟩, -, hx⟩ := (hq.next stab_RI hT).at hlt
      obtain rfl : v = (y : Int) := by rw [hqk.1] at hx; injection hx with e; exact e.symm
      have hyn : y < n := by omega
      have HP := Lib.hid (joinTo_par P Q k hk)
      clear hx hqk
      go_wp2_with fail
      refine (unite_any g n c1 w.heap.size (joinTo p q k) k y _ ho HP.out hlt hyn hn).mono ?_
      rintro e w2 ⟨rfl, ho2, hG⟩
      have hT2 := hT.grown hG hz (fun j e => by injection e with e; omega)
      have HO : Hid (joinTo p q (k + 1) = uniL (joinTo p q k) k y) := by show uniL _ k (nmAt q k) = _; rw [HY.out]
      go_wp2_with fail
      go_roundw
      case rel => exact ⟨k + 1, by omega, by go_num, by rw [HO.out]; exact ho2, hT2⟩
      case measure => simp [intOf]; try omega
    · obtain rfl : k = n := by omega
      have hk1 : ¬ (k : Int) < (k : Int) := by omega
      go_wp2_with fail
      go_ret
      exact ⟨some ⟨g, 0, none⟩, c1, by rw [HJL.out]; rfl, by rw [HJL.out, HJ.out]; exact ho, hT⟩
theorem l6Join_any (A B : Option Addr) (n c d : Nat) (p q : List Int) (w : World) (hp : RdL RI w A n p) (hq : RdL RI w B n q) (P : ParP n p) (Q : ParP n q) (h0 : 0 < n) (hn : n ≤ 1000) :
    Calls Tryz.prog 94 #[.slice A n c, .slice B n d] w (OwI w (joinP p q)) := by
  have HJL : Hid ((joinP p q).length = n) := (joinP_par P Q).1
  have HJ : Hid (joinP p q = joinTo p q n) := joinP_n Q
  go_enter Tryz.func94, Tryz.ntmps94
  go_wp2_with fail
  refine (l1Own_any A n c p _ hp (by omega)).mono ?_
  rintro e w1 ⟨A1, c1, rfl, ho, hb⟩
  go_wp2_with fail
  go_loopw [5, 6] (fun s i wr => ∃ (k : Nat) (A2 : Option Addr) (c2 : Nat), k ≤ n ∧ i = .int .i64 k ∧ s = .slice A2 n c2 ∧ wr.ownsRow w.heap.size 3 1 (.slice A2 n c2) n (ints (joinTo p q k)) ∧ Below w.heap.size w wr) (fun _ i _ => n - (intOf i).toNat)
  case atStart => exact ⟨0, _, _, Nat.zero_le _, rfl, rfl, ho, hb⟩
  case round =>
    clear ho hb
    obtain ⟨k, A2, c2, hk, rfl, rfl, ho, hT⟩ := hrel
    have hz := hT.size
    by_cases hlt : k < n
    · have hk0 : (0 : Int) ≤ (k : Int) := by omega
      have hk1 : (k : Int) < (n : Int) := by omega
      have hqk := Q.at hlt
      obtain ⟨y, HY⟩ : ∃ y, Hid (nmAt q k = y) := ⟨_, Lib.hid rfl⟩
      rw [HY.out] at hqk
      obtain ⟨b, o, u, v, rfl, hc, ⟨rfl, -, -⟩, -, hx⟩ := (hq.next stab_RI hT).at hlt
      obtain rfl : v = (y : Int) := by rw [hqk.1] at hx; injection hx with e; exact e.symm
      have hyn : y < n := by omega
      have HP := Lib.hid (joinTo_par P Q k hk)
      have HO : Hid (joinTo p q (k + 1) = uniL (joinTo p q k) k y) := by show uniL _ k (nmAt q k) = _; rw [HY.out]
      clear hx hqk
      go_wp2_with fail
      refine (l6Unite_any A2 n c2 (joinTo p q k) k y _ (rd_of_own (R := RI) ho (RI_ints (par_bd HP.out hn))) HP.out hlt hyn hn).mono ?_
      rintro e w2 ⟨A3, c3, rfl, ho2, hb2⟩
      go_wp2_with fail
      go_roundw
      case rel => exact ⟨k + 1, A3, c3, by omega, by go_num, rfl, by rw [HO.out]; exact own_mono ho2 hz, below_next hT hb2 rfl⟩
      case measure => simp [intOf]; try omega
    · obtain rfl : k = n := by omega
      have hk1 : ¬ (k : Int) < (k : Int) := by omega
      go_wp2_with fail
      go_ret
      exact ⟨A2, c2, by rw [HJL.out]; rfl, by rw [HJL.out, HJ.out]; exact ho, hT⟩
section
open Go.WideMaps (keyOf_string_mk)
open Go.Maps (Keyed string_keyed setOf setOf_snoc tidy_setOf atKey_put_same atKey_put_other)
theorem keyedS : Keyed Tryz.prog 9 := string_keyed Tryz.underlying9
def klS (s : ByteArray) : Lit := .string s.data.toList
theorem klS_inj {s t : ByteArray} (h : klS s = klS t) : s = t := by
  injection h with h
  exact bs_inj h
theorem zeroB (w : World) : (zeroValue 4).run Tryz.prog w = .ok (.bool false) w := by kernel_rfl
def setS (ks : List ByteArray) : DataW Unit := setOf (.lit (.bool true)) (ks.map klS)
noncomputable def hasS (s : ByteArray) (ks : List ByteArray) : Bool := ks.any fun t => eqC t s
theorem hasS_iff {s : ByteArray} {ks : List ByteArray} : hasS s ks = true ↔ s ∈ ks := by
  unfold hasS
  rw [List.any_eq_true]
  exact ⟨fun ⟨c, h, e⟩ => by rw [← eqC_iff.1 e]; exact h, fun h => ⟨s, h, eqC_self s⟩⟩
theorem hasS_snoc (s t : ByteArray) (ks : List ByteArray) : hasS s (ks ++ [t]) = (hasS s ks || eqC t s) := by simp [hasS]
theorem keyLits (ks : List ByteArray) : ∀ x ∈ ks.map klS, WideAt.IsKeyLit x := by
  intro x hx
  obtain ⟨s, -, rfl⟩ := List.mem_map.1 hx
  trivial
theorem setS_snoc (ks : List ByteArray) (s : ByteArray) : setS (ks ++ [s]) = (setS ks).put (klS s) (.lit (.bool true)) := by
  unfold setS
  rw [List.map_append, List.map_cons, List.map_nil, setOf_snoc]
theorem atKey_setS (s : ByteArray) (ks : List ByteArray) : (setS ks).atKey (klS s) (.lit (.bool false)) = .lit (.bool (hasS s ks)) := by
  have key : ∀ k, k ≤ ks.length → (setS (ks.take k)).atKey (klS s) (.lit (.bool false)) = .lit (.bool (hasS s (ks.take k))) := by
    intro k
    induction k with
    | zero => intro _; rfl
    | succ k ih =>
      intro hk
      rw [List.take_succ_eq_append_getElem (by omega), setS_snoc, hasS_snoc]
      by_cases e : s = ks[k]
      · rw [← e, atKey_put_same (D := setS (ks.take k)) (k := klS s) (tidy_setOf _ _ (keyLits _)).isMap (show WideAt.IsKeyLit (klS s) from trivial), eqC_self, Bool.or_true]
      · rw [atKey_put_other fun h => e (klS_inj h), ih (by omega), eqC_no.2 fun h => e h.symm, Bool.or_false]
  have := key ks.length (Nat.le_refl _)
  rwa [List.take_length] at this
/-- Block b is a map whose keys are the list's members, all true. -/
def MapS (w : World) (b : Nat) (ks : List ByteArray) : Prop := w.ownsMap Tryz.prog 9 (plainElem (H := Unit) Tryz.prog 4) b ks.length (setS ks)
theorem MapS.made (w : World) : MapS (w.alloc (.map #[] 0)) w.heap.size [] := World.ownsMap_made _ _ _ _
theorem MapS.lt {w : World} {b : Nat} {ks : List ByteArray} (h : MapS w b ks) : b < w.heap.size := World.ownsMap.lt h
theorem MapS.kept {w w' : World} {b : Nat} {ks : List ByteArray} (h : MapS w b ks) (hb : w'.heap[b]? = w.heap[b]?) : MapS w' b ks := by
  obtain ⟨es, clock, h1, h2⟩ := h
  exact ⟨es, clock, hb.trans h1, h2⟩
theorem MapS.next {w w' : World} {b : Nat} {ks : List ByteArray} (h : MapS w b ks) (hb : Below w.heap.size w w') : MapS w' b ks := h.kept (hb.block b h.lt)
theorem plainBool_inv {v : Value} {x : Bool} {ps : List MemPlace} (h : plainElem (H := Unit) Tryz.prog 4 v = some (.lit (.bool x), ps)) : v = .bool x := by
  unfold plainElem at h
  rw [Tryz.underlying4] at h
  cases v <;> simp at h
  rw [h.1]
theorem MapS.look {w : World} {b : Nat} {ks : List ByteArray} (h : MapS w b ks) {s : ByteArray} (hs : s.size ≤ maxLen) : (Instr.lookup 95 (.map (some b)) (.string s) false).run Tryz.prog w = .ok (.bool (hasS s ks)) w := by
  obtain ⟨v, ps, hrun, hv⟩ := World.ownsMap.lookup h keyedS Tryz.underlying95 (zeroB w) (plainElem_bool Tryz.underlying4 false) (keyOf_string_mk Tryz.underlying9 hs)
  have e : (setS ks).atKey (.string s.data.toList) (.lit (.bool false)) = .lit (.bool (hasS s ks)) := atKey_setS s ks
  rw [e] at hv
  rw [hrun, plainBool_inv hv]
theorem MapS.put {w : World} {b : Nat} {ks : List ByteArray} (h : MapS w b ks) {s : ByteArray} (hs : s.size ≤ maxLen) (hn : ks.length < maxLen) :
    ∃ w', (Instr.mapUpdate 95 (.map (some b)) (.string s) (.bool true)).run Tryz.prog w = .ok () w' ∧ MapS w' b (ks ++ [s]) ∧ w.grownBy w' (some b) := by
  obtain ⟨w', hrun, h1, h2⟩ := World.ownsMap.update h keyedS Tryz.underlying95 hn (keyOf_string_mk Tryz.underlying9 hs) (plainElem_bool Tryz.underlying4 true)
  refine ⟨w', hrun, ?_, h2⟩
  unfold MapS
  rw [setS_snoc, List.length_append]
  exact h1
end
section
open Go.Sort
section
variable {α : Type} [Inhabited α]
/-- e is d with the parts [a, m) and [m, b) exchanged. -/
structure Rot (d : Array α) (a m b : Nat) (e : Array α) : Prop where
  perm : PermIn a b d e
  lft : ∀ k, k < b - m → e[a + k]! = d[m + k]!
  rgt : ∀ k, k < m - a → e[a + (b - m) + k]! = d[a + k]!
theorem Rot.size {d : Array α} {a m b : Nat} {e : Array α} (h : Rot d a m b e) : e.size = d.size := h.perm.1
theorem Rot.out {d : Array α} {a m b : Nat} {e : Array α} (h : Rot d a m b e) {k : Nat} (hk : k < a ∨ b ≤ k) : e[k]! = d[k]! := h.perm.2.1 k hk
theorem permIn_in {d e : Array α} {a b a' b' : Nat} (h : PermIn a b d e) (h1 : a' ≤ a) (h2 : b ≤ b') (h3 : b' ≤ d.size) : PermIn a' b' d e := permIn_mono d e a b a' b' h1 h2 h3 h
/-- swap's first k rounds of the exchange of two ranges. -/
structure SwR (d : Array α) (a b k : Nat) (e : Array α) : Prop where
  size : e.size = d.size
  perm : ∀ lo hi, lo ≤ a → a ≤ b → b + k ≤ hi → hi ≤ d.size → PermIn lo hi d e
  lft : ∀ t, t < k → e[a + t]! = d[b + t]!
  rgt : ∀ t, t < k → e[b + t]! = d[a + t]!
  oth : ∀ t, ¬ (a ≤ t ∧ t < a + k) → ¬ (b ≤ t ∧ t < b + k) → e[t]! = d[t]!
theorem SwR.zero (d : Array α) (a b : Nat) : SwR d a b 0 d := ⟨rfl, fun lo hi _ _ _ _ => permIn_refl d lo hi, fun t h => by omega, fun t h => by omega, fun _ _ _ => rfl⟩
theorem SwR.step {d e : Array α} {a b k n : Nat} (h : SwR d a b k e) (hk : k < n) (hab : a + n ≤ b) (hb : b + n ≤ d.size) : SwR d a b (k + 1) (swp e (a + k) (b + k)) := by
  have hs := h.size
  have g := swp_get e (show a + k < e.size by omega) (show b + k < e.size by omega)
  constructor
  · rw [size_swp]; exact hs
  · intro lo hi h1 h2 h3 h4
    exact permIn_trans _ _ _ _ _ (h.perm lo hi h1 h2 (by omega) h4) (swp_permIn e lo hi (a + k) (b + k) (by omega) (by omega) (by omega) (by omega) (by omega))
  · intro t ht
    rw [g, if_neg (by omega)]
    by_cases e1 : t = k
    · subst e1; rw [if_pos rfl]; exact h.oth _ (by omega) (by omega)
    · rw [if_neg (by omega)]; exact h.lft t (by omega)
  · intro t ht
    rw [g]
    by_cases e1 : t = k
    · subst e1; rw [if_pos rfl]; exact h.oth _ (by omega) (by omega)
    · rw [if_neg (by omega), if_neg (by omega)]; exact h.rgt t (by omega)
  · intro t h1 h2
    rw [g, if_neg (by omega), if_neg (by omega)]
    exact h.oth t (by omega) (by omega)
/-- The three rounds of a rotation. -/
theorem rot_gt {d e : Array α} {m i j : Nat} (hij : j < i) (him : i ≤ m) (hb : m + j ≤ d.size) (h : SwR d (m - i) m j e) {T : Array α} (hT : Rot e (m - (i - j)) m (m + j) T) : Rot d (m - i) m (m + j) T := by
  have hs := h.size
  refine ⟨permIn_trans _ _ _ _ _ (h.perm (m - i) (m + j) (Nat.le_refl _) (by omega) (Nat.le_refl _) hb) (permIn_in hT.perm (by omega) (Nat.le_refl _) (by omega)), ?_, ?_⟩
  · intro k hk
    rw [hT.out (by omega)]
    exact h.lft k (by omega)
  · intro k hk
    by_cases h1 : k < j
    · have := hT.lft k (by omega)
      rw [show m - i + (m + j - m) + k = m - (i - j) + k by omega, this]
      exact h.rgt k h1
    · have := hT.rgt (k - j) (by omega)
      rw [show m - i + (m + j - m) + k = m - (i - j) + (m + j - m) + (k - j) by omega, this]
      rw [show m - (i - j) + (k - j) = m - i + k by omega]
      exact h.oth _ (by omega) (by omega)
theorem rot_lt {d e : Array α} {m i j : Nat} (hij : i < j) (him : i ≤ m) (hb : m + j ≤ d.size) (h : SwR d (m - i) (m + j - i) i e) {T : Array α} (hT : Rot e (m - i) m (m + (j - i)) T) : Rot d (m - i) m (m + j) T := by
  have hs := h.size
  refine ⟨permIn_trans _ _ _ _ _ (h.perm (m - i) (m + j) (Nat.le_refl _) (by omega) (by omega) hb) (permIn_in hT.perm (by omega) (by omega) (by omega)), ?_, ?_⟩
  · intro k hk
    by_cases h1 : k < j - i
    · rw [hT.lft k (by omega)]
      exact h.oth _ (by omega) (by omega)
    · have := hT.rgt (k - (j - i)) (by omega)
      rw [show m - i + k = m - i + (m + (j - i) - m) + (k - (j - i)) by omega, this, h.lft _ (by omega)]
      rw [show m + j - i + (k - (j - i)) = m + k by omega]
  · intro k hk
    have := hT.out (k := m - i + (m + j - m) + k) (by omega)
    rw [this, show m - i + (m + j - m) + k = m + j - i + k by omega]
    exact h.rgt k (by omega)
theorem rot_eq {d e : Array α} {m i : Nat} (him : i ≤ m) (hb : m + i ≤ d.size) (h : SwR d (m - i) m i e) : Rot d (m - i) m (m + i) e := by
  refine ⟨h.perm _ _ (Nat.le_refl _) (by omega) (Nat.le_refl _) hb, ?_, ?_⟩
  · intro k hk
    exact h.lft k (by omega)
  · intro k hk
    rw [show m - i + (m + i - m) + k = m + k by omega]
    exact h.rgt k (by omega)
theorem Rot.self_l (d : Array α) (m b : Nat) : Rot d m m b d := ⟨permIn_refl _ _ _, fun _ _ => rfl, fun k hk => by omega⟩
theorem Rot.self_r (d : Array α) (a m : Nat) : Rot d a m m d := ⟨permIn_refl _ _ _, fun k hk => by omega, fun k hk => by rw [show a + (m - m) + k = a + k by omega]⟩
/-- One swap more of the way of data[a] upward. -/
theorem rot_up {d e : Array α} {a k : Nat} (ha : a ≤ k) (hb : k + 1 < d.size) (h : Rot d a (a + 1) (k + 1) e) : Rot d a (a + 1) (k + 2) (swp e k (k + 1)) := by
  have hs := h.size
  have g := swp_get e (show k < e.size by omega) (show k + 1 < e.size by omega)
  refine ⟨permIn_trans _ _ _ _ _ (permIn_in h.perm (Nat.le_refl _) (by omega) (by omega)) (swp_permIn e a (k + 2) k (k + 1) ha (by omega) (by omega) (by omega) (by omega)), ?_, ?_⟩
  · intro t ht
    rw [g, if_neg (by omega)]
    by_cases e1 : a + t = k
    · rw [if_pos e1, h.out (by omega), show a + 1 + t = k + 1 by omega]
    · rw [if_neg e1]; exact h.lft t (by omega)
  · intro t ht
    rw [g, if_pos (by omega)]
    have := h.rgt t ht
    rw [show a + (k + 1 - (a + 1)) + t = k by omega] at this
    exact this
/-- One swap more of the way of data[m] downward. -/
theorem rot_down {d e : Array α} {m k : Nat} (hk : k < m) (hb : m < d.size) (h : Rot d (k + 1) m (m + 1) e) : Rot d k m (m + 1) (swp e (k + 1) k) := by
  have hs := h.size
  have g := swp_get e (show k + 1 < e.size by omega) (show k < e.size by omega)
  refine ⟨permIn_trans _ _ _ _ _ (permIn_in h.perm (by omega) (Nat.le_refl _) (by omega)) (swp_permIn e k (m + 1) (k + 1) k (by omega) (by omega) (by omega) (by omega) (by omega)), ?_, ?_⟩
  · intro t ht
    obtain rfl : t = 0 := by omega
    rw [g, if_pos (by omega)]
    exact h.lft 0 (by omega)
  · intro t ht
    rw [g, if_neg (by omega)]
    by_cases e1 : t = 0
    · subst e1
      rw [if_pos (by omega), h.out (by omega)]
      rfl
    · rw [if_neg (by omega)]
      have := h.rgt (t - 1) (by omega)
      rw [show k + 1 + (m + 1 - m) + (t - 1) = k + (m + 1 - m) + t by omega, show k + 1 + (t - 1) = k + t by omega] at this
      exact this
/-- An element of a rotated part: where it was. -/
theorem Rot.get_l {d e : Array α} {a m b i : Nat} (h : Rot d a m b e) (h1 : a ≤ i) (h2 : i < a + (b - m)) : e[i]! = d[m + (i - a)]! := by
  have := h.lft (i - a) (by omega)
  rwa [show a + (i - a) = i by omega] at this
theorem Rot.get_r {d e : Array α} {a m b i : Nat} (h : Rot d a m b e) (hab : a ≤ m) (h1 : a + (b - m) ≤ i) (h2 : i < b) : e[i]! = d[i - (b - m)]! := by
  have := h.rgt (i - (a + (b - m))) (by omega)
  rwa [show a + (b - m) + (i - (a + (b - m))) = i by omega, show a + (i - (a + (b - m))) = i - (b - m) by omega] at this
variable {lt : α → α → Bool}
theorem sorted_le (hS : SWO lt) {d : Array α} {a b i j : Nat} (h : SortedIn lt a b d) (h1 : a ≤ i) (h2 : i ≤ j) (h3 : j < b) : lt d[j]! d[i]! = false := by
  by_cases e : i = j
  · subst e; exact hS.irrefl _
  · exact h i j h1 (by omega) h3
/-- The left run has one element: it goes behind all that are less. -/
theorem one_left (hS : SWO lt) {d e : Array α} {a b i : Nat} (hi : a + 1 ≤ i) (hib : i ≤ b) (hs : SortedIn lt (a + 1) b d) (hl : ∀ k, a + 1 ≤ k → k < i → lt d[k]! d[a]! = true) (hg : ∀ k, i ≤ k → k < b → lt d[k]! d[a]! = false) (h : Rot d a (a + 1) i e) : SortedIn lt a b e := by
  have hm : e[i - 1]! = d[a]! := by
    have := h.get_r (i := i - 1) (by omega) (by omega) (by omega)
    rw [this, show i - 1 - (i - (a + 1)) = a by omega]
  have hL : ∀ k, a ≤ k → k < i - 1 → e[k]! = d[k + 1]! := fun k h1 h2 => by
    rw [h.get_l h1 (by omega), show a + 1 + (k - a) = k + 1 by omega]
  have hR : ∀ k, i ≤ k → e[k]! = d[k]! := fun k h1 => h.out (by omega)
  intro p q hp hpq hq
  by_cases q1 : q < i - 1
  · rw [hL q (by omega) q1, hL p hp (by omega)]
    exact hs _ _ (by omega) (by omega) (by omega)
  · by_cases q2 : q = i - 1
    · rw [q2, hm, hL p hp (by omega)]
      exact hS.asymmA (hl _ (by omega) (by omega))
    · rw [hR q (by omega)]
      by_cases p1 : p < i - 1
      · rw [hL p hp p1]
        exact hs _ _ (by omega) (by omega) hq
      · by_cases p2 : p = i - 1
        · rw [p2, hm]
          exact hg _ (by omega) hq
        · rw [hR p (by omega)]
          exact hs _ _ (by omega) hpq hq
/-- The right run has one element: it goes before all that are greater. -/
theorem one_right (hS : SWO lt) {d e : Array α} {a m i : Nat} (hi : a ≤ i) (him : i ≤ m) (hs : SortedIn lt a m d) (hl : ∀ k, a ≤ k → k < i → lt d[m]! d[k]! = false) (hg : ∀ k, i ≤ k → k < m → lt d[m]! d[k]! = true) (h : Rot d i m (m + 1) e) : SortedIn lt a (m + 1) e := by
  have hm : e[i]! = d[m]! := by
    have := h.get_l (i := i) (by omega) (by omega)
    rw [this, show m + (i - i) = m by omega]
  have hL : ∀ k, k < i → e[k]! = d[k]! := fun k h1 => h.out (by omega)
  have hR : ∀ k, i < k → k < m + 1 → e[k]! = d[k - 1]! := fun k h1 h2 => by
    rw [h.get_r (by omega) (by omega) h2, show k - (m + 1 - m) = k - 1 by omega]
  intro p q hp hpq hq
  by_cases q1 : q < i
  · rw [hL q q1, hL p (by omega)]
    exact hs _ _ hp hpq (by omega)
  · by_cases q2 : q = i
    · rw [q2, hm, hL p (by omega)]
      exact hl _ hp (by omega)
    · rw [hR q (by omega) hq]
      by_cases p1 : p < i
      · rw [hL p p1]
        exact hs _ _ hp (by omega) (by omega)
      · by_cases p2 : p = i
        · rw [p2, hm]
          exact hS.asymmA (hg _ (by omega) (by omega))
        · rw [hR p (by omega) (by omega)]
          exact hs _ _ (by omega) (by omega) (by omega)
theorem one_left' (hS : SWO lt) {d e : Array α} {a b i : Nat} (hi : a + 1 ≤ i) (hib : i ≤ b) (hs : SortedIn lt (a + 1) b d) (hl : i = a + 1 ∨ lt d[i - 1]! d[a]! = true) (hg : i = b ∨ lt d[i]! d[a]! = false) (h : Rot d a (a + 1) i e) : SortedIn lt a b e := by
  refine one_left hS hi hib hs (fun k h1 h2 => ?_) (fun k h1 h2 => ?_) h
  · rcases hl with hl | hl
    · omega
    · cases hk : lt d[k]! d[a]! with
      | true => rfl
      | false =>
        have := hS.ntrans _ _ _ (sorted_le hS hs (i := k) (j := i - 1) h1 (by omega) (by omega)) hk
        rw [hl] at this
        cases this
  · rcases hg with hg | hg
    · omega
    · exact hS.ntrans _ _ _ (sorted_le hS hs (i := i) (j := k) hi h1 h2) hg
theorem one_right' (hS : SWO lt) {d e : Array α} {a m i : Nat} (hi : a ≤ i) (him : i ≤ m) (hs : SortedIn lt a m d) (hl : i = a ∨ lt d[m]! d[i - 1]! = false) (hg : i = m ∨ lt d[m]! d[i]! = true) (h : Rot d i m (m + 1) e) : SortedIn lt a (m + 1) e := by
  refine one_right hS hi him hs (fun k h1 h2 => ?_) (fun k h1 h2 => ?_) h
  · rcases hl with hl | hl
    · omega
    · exact hS.ntrans _ _ _ hl (sorted_le hS hs (i := k) (j := i - 1) h1 (by omega) (by omega))
  · rcases hg with hg | hg
    · omega
    · cases hk : lt d[m]! d[k]! with
      | true => rfl
      | false =>
        have := hS.ntrans _ _ _ hk (sorted_le hS hs (i := i) (j := k) hi h1 h2)
        rw [hg] at this
        cases this
/-- What the search for the cut has found. -/
structure Cut (lt : α → α → Bool) (d : Array α) (a m b mid s : Nat) : Prop where
  lo : a ≤ s
  hi : s ≤ m
  hmid : s ≤ mid
  hend : mid + m - s ≤ b
  le : s = a ∨ mid + m - s = b ∨ lt d[mid + m - s]! d[s - 1]! = false
  gt : s = m ∨ s = mid ∨ lt d[mid + m - s - 1]! d[s]! = true
/-- Behind the rotation: the four runs, and that the lower half lies below the upper one. -/
theorem cut_runs (hS : SWO lt) {d e : Array α} {a m b mid s : Nat} (ham : a ≤ m) (hmb : m ≤ b) (hmd : mid ≤ b) (h1 : SortedIn lt a m d) (h2 : SortedIn lt m b d) (C : Cut lt d a m b mid s) (h : Rot d s m (mid + m - s) e) :
    SortedIn lt a s e ∧ SortedIn lt s mid e ∧ SortedIn lt mid (mid + m - s) e ∧ SortedIn lt (mid + m - s) b e ∧ (∀ i j, a ≤ i → i < mid → mid ≤ j → j < b → lt e[j]! e[i]! = false) := by
  obtain ⟨c1, c2, c3, c4, c5, c6⟩ := C
  have E1 : ∀ k, k < s → e[k]! = d[k]! := fun k hk => h.out (by omega)
  have E2 : ∀ k, s ≤ k → k < mid → e[k]! = d[m + (k - s)]! := fun k hk hk' => h.get_l hk (by omega)
  have E3 : ∀ k, mid ≤ k → k < mid + m - s → e[k]! = d[k - mid + s]! := fun k hk hk' => by
    rw [h.get_r (by omega) (by omega) hk', show k - (mid + m - s - m) = k - mid + s by omega]
  have E4 : ∀ k, mid + m - s ≤ k → e[k]! = d[k]! := fun k hk => h.out (by omega)
  refine ⟨?_, ?_, ?_, ?_, ?_⟩
  · intro p q hp hpq hq
    rw [E1 q hq, E1 p (by omega)]
    exact h1 _ _ hp hpq (by omega)
  · intro p q hp hpq hq
    rw [E2 q (by omega) hq, E2 p hp (by omega)]
    exact h2 _ _ (by omega) (by omega) (by omega)
  · intro p q hp hpq hq
    rw [E3 q (by omega) hq, E3 p hp (by omega)]
    exact h1 _ _ (by omega) (by omega) (by omega)
  · intro p q hp hpq hq
    rw [E4 q (by omega), E4 p hp]
    exact h2 _ _ (by omega) hpq hq
  · intro i j hi hi' hj hj'
    by_cases j1 : j < mid + m - s
    · rw [E3 j hj j1]
      by_cases i1 : i < s
      · rw [E1 i i1]
        exact h1 _ _ hi (by omega) (by omega)
      · rw [E2 i (by omega) hi']
        -- x in the right run's first part, y in the left run's last part
        rcases c6 with c6 | c6 | c6
        · omega
        · omega
        · have g1 : lt d[s]! d[mid + m - s - 1]! = false := hS.asymmA c6
          have g2 := sorted_le hS h2 (i := m + (i - s)) (j := mid + m - s - 1) (by omega) (by omega) (by omega)
          have g3 := sorted_le hS h1 (i := s) (j := j - mid + s) (by omega) (by omega) (by omega)
          exact hS.ntrans _ _ _ g3 (hS.ntrans _ _ _ g1 g2)
    · rw [E4 j (by omega)]
      by_cases i1 : i < s
      · rw [E1 i i1]
        rcases c5 with c5 | c5 | c5
        · omega
        · omega
        · have g2 := sorted_le hS h1 (i := i) (j := s - 1) (by omega) (by omega) (by omega)
          have g3 := sorted_le hS h2 (i := mid + m - s) (j := j) (by omega) (by omega) (by omega)
          exact hS.ntrans _ _ _ g3 (hS.ntrans _ _ _ c5 g2)
      · rw [E2 i (by omega) hi']
        exact h2 _ _ (by omega) (by omega) (by omega)
/-- Two halves, each sorted behind its own merge. -/
theorem halves {d e f : Array α} {a mid b : Nat} (hb : b ≤ d.size) (hamid : a ≤ mid) (hmb : mid ≤ b) (hx : ∀ i j, a ≤ i → i < mid → mid ≤ j → j < b → lt d[j]! d[i]! = false)
    (p1 : PermIn a mid d e) (s1 : SortedIn lt a mid e) (p2 : PermIn mid b e f) (s2 : SortedIn lt mid b f) : PermIn a b d f ∧ SortedIn lt a b f := by
  have hse : e.size = d.size := p1.1
  refine ⟨permIn_trans _ _ _ _ _ (permIn_in p1 (Nat.le_refl _) hmb hb) (permIn_in p2 hamid (Nat.le_refl _) (by omega)), ?_⟩
  have hx1 : ∀ j, mid ≤ j → j < b → ∀ i, a ≤ i → i < mid → lt e[j]! e[i]! = false := fun j hj hj' => by
    rw [p1.2.1 j (by omega)]
    exact permIn_all d e a mid (fun x => lt d[j]! x = false) (by omega) p1 (fun i hi hi' => hx i j hi hi' hj hj')
  have hx2 : ∀ i, a ≤ i → i < mid → ∀ j, mid ≤ j → j < b → lt f[j]! f[i]! = false := fun i hi hi' => by
    rw [p2.2.1 i (by omega)]
    exact permIn_all e f mid b (fun y => lt y e[i]! = false) (by omega) p2 (fun j hj hj' => hx1 j hj hj' i hi hi')
  intro p q hp hpq hq
  by_cases q1 : q < mid
  · rw [p2.2.1 q (by omega), p2.2.1 p (by omega)]
    exact s1 _ _ hp hpq q1
  · by_cases p1' : p < mid
    · exact hx2 p hp p1' q (by omega) hq
    · exact s2 _ _ (by omega) hpq hq
/-- A run of one element, or none. -/
theorem sorted_few (d : Array α) {a b : Nat} (h : b ≤ a + 1) : SortedIn lt a b d := fun i j h1 h2 h3 => by omega
theorem sorted_part {d : Array α} {a b a' b' : Nat} (h : SortedIn lt a b d) (h1 : a ≤ a') (h2 : b' ≤ b) : SortedIn lt a' b' d := fun i j k1 k2 k3 => h i j (by omega) k2 (by omega)
theorem sorted_out {d e : Array α} {a b a' b' : Nat} (h : SortedIn lt a' b' d) (p : PermIn a b d e) (h1 : b' ≤ a ∨ b ≤ a') : SortedIn lt a' b' e := fun i j k1 k2 k3 => by
  rw [p.2.1 j (by omega), p.2.1 i (by omega)]
  exact h i j k1 k2 k3
/-- From a on, runs of k elements are sorted, up to n. -/
def Runs (lt : α → α → Bool) (k a n : Nat) (d : Array α) : Prop := ∀ t, SortedIn lt (a + t * k) (min (a + t * k + k) n) d
theorem Runs.head {k a n : Nat} {d : Array α} (h : Runs lt k a n d) : SortedIn lt a (min (a + k) n) d := by
  have := h 0
  rwa [Nat.zero_mul, Nat.add_zero] at this
theorem Runs.next {k a n : Nat} {d : Array α} (h : Runs lt k a n d) : Runs lt k (a + k) n d := fun t => by
  have := h (t + 1)
  rw [Nat.succ_mul] at this
  rwa [show a + k + t * k = a + (t * k + k) by omega]
theorem Runs.cons {k a n : Nat} {d : Array α} (h0 : SortedIn lt a (min (a + k) n) d) (h : Runs lt k (a + k) n d) : Runs lt k a n d := fun t => by
  cases t with
  | zero => rwa [Nat.zero_mul, Nat.add_zero]
  | succ t =>
    have := h t
    rw [Nat.succ_mul]
    rwa [show a + (t * k + k) = a + k + t * k by omega]
theorem Runs.nil {k a n : Nat} (d : Array α) (h : n ≤ a + 1) : Runs lt k a n d := fun t => sorted_few d (by omega)
theorem Runs.out {k a n lo hi : Nat} {d e : Array α} (h : Runs lt k a n d) (p : PermIn lo hi d e) (hp : hi ≤ a) : Runs lt k a n e := fun t => sorted_out (h t) p (by omega)
/-- The runs behind the last whole one. -/
theorem Runs.one {k a n : Nat} {d : Array α} (hs : SortedIn lt a n d) (hn : n ≤ a + k) : Runs lt k a n d := Runs.cons (by rwa [show min (a + k) n = n by omega]) (Runs.nil d (by omega))
/-- Up to a, runs of k elements are sorted: what remains decides. -/
def DoneR (lt : α → α → Bool) (k a n : Nat) (d : Array α) : Prop := ∀ e : Array α, (∀ i, i < a → e[i]! = d[i]!) → Runs lt k a n e → Runs lt k 0 n e
theorem DoneR.zero (k n : Nat) (d : Array α) : DoneR lt k 0 n d := fun _ _ h => h
theorem DoneR.step {k a n : Nat} {d e : Array α} (h : DoneR lt k a n d) (p : PermIn a (a + k) d e) (hs : SortedIn lt a (min (a + k) n) e) : DoneR lt k (a + k) n e := fun f hf hr =>
  h f (fun i hi => by rw [hf i (by omega)]; exact p.2.1 i (by omega)) (Runs.cons (fun i j h1 h2 h3 => by rw [hf j (by omega), hf i (by omega)]; exact hs i j h1 h2 h3) hr)
end
end
section
open Go.Shelf Go.Lib Go.Sort
section
variable {P : Program} {ρ : Ren} {α : Type} [Inhabited α] {enc : α → Value} {lt : α → α → Bool} {g : Nat} {lb : Array Value} {sf : Nat} {sb : Array Value} {blk off : Nat} {d e f : Array α} {W W1 W2 : World}
/-- What the sort asks of its caller, at the world W in which the row holds d. -/
structure SCtx (P : Program) (enc : α → Value) (lt : α → α → Bool) (g : Nat) (lb : Array Value) (sf : Nat) (sb : Array Value) (blk off : Nat) (d : Array α) (W : World) : Prop where
  eg : ∀ args w, (callFunc g args).run P w = .ok (.enter g args) w
  less : LessReads P g lb enc lt blk off d.size W
  swap : SwapSwaps P sf sb enc blk off d.size
  hold : Holds enc W blk off d
  bl : blk < W.heap.size
  sz : d.size < 4611686018427387904
theorem SCtx.on (C : SCtx P enc lt g lb sf sb blk off d W) (h : SW enc W blk off e W1) (hs : e.size = d.size) : SCtx P enc lt g lb sf sb blk off e W1 :=
  ⟨C.eg, by rw [hs]; exact h.lessReads C.less C.bl hs, by rw [hs]; exact C.swap, h.holds C.bl C.hold hs, h.lt C.bl, by rw [hs]; exact C.sz⟩
theorem SCtx.start (C : SCtx P enc lt g lb sf sb blk off d W) : SW enc W blk off d W := SW.start C.hold
theorem swTr (h : SW enc W blk off e W1) (h2 : SW enc W1 blk off f W2) (hb : blk < W.heap.size) (hs : f.size = e.size) : SW enc W blk off f W2 := by
  obtain ⟨n, os, rfl⟩ := h2
  exact h.on hb n f os hs
theorem swCell (h : SW enc W blk off e W1) {b k : Nat} {v : Value} (hb : b ≠ blk) (hc : W.cell? ⟨b, k, none⟩ = some v) : W1.cell? ⟨b, k, none⟩ = some v := by
  have hlt := cell_lt hc
  obtain ⟨n, os, rfl⟩ := h
  unfold sortWorld
  rw [cell?_grow _ _ _ (by rw [size_putRow]; exact hlt), cell?_putRow_other enc _ blk off _ _ (Or.inl (by show b ≠ blk; exact hb))]
  exact hc
theorem SCtx.lessAt (C : SCtx P enc lt g lb sf sb blk off d W) (h : SW enc W blk off e W1) (hs : e.size = d.size) (i j : Nat) (hi : i < d.size) (hj : j < d.size) :
    Calls P g (#[.int .i64 i, .int .i64 j] ++ lb) W1 fun e' w' => e' = .returned (.bool (lt e[i]! e[j]!)) ∧ SW enc W blk off e w' ∧ ∀ p, w'.cell? p = W1.cell? p :=
  (h.less C.less hs i j hi hj).mono fun _ _ ⟨h1, q, h2⟩ => ⟨h1, by rw [h2]; exact h.drewN q, fun p => by rw [h2]; rfl⟩
/-- The box of 'data' holds its two functions. -/
def BoxD (g : Nat) (lb : Array Value) (sf : Nat) (sb : Array Value) (b : Nat) (w : World) : Prop := w.cell? ⟨b, 0, none⟩ = some (.func (.func g) #[] lb) ∧ w.cell? ⟨b, 1, none⟩ = some (.func (.func sf) #[] sb)
theorem BoxD.tr {b : Nat} (h : BoxD g lb sf sb b W) (hw : SW enc W blk off e W1) (hb : b ≠ blk) : BoxD g lb sf sb b W1 := ⟨swCell hw hb h.1, swCell hw hb h.2⟩
theorem BoxD.same {b : Nat} (h : BoxD g lb sf sb b W) (hc : ∀ p, W1.cell? p = W.cell? p) : BoxD g lb sf sb b W1 := ⟨(hc _).trans h.1, (hc _).trans h.2⟩
theorem BoxD.swap {b : Nat} (h : BoxD g lb sf sb b W) (hb : b ≠ blk) (i j : Nat) (u v : Value) : BoxD g lb sf sb b ((W.setCell ⟨blk, i, none⟩ u).setCell ⟨blk, j, none⟩ v) := by
  constructor
  · rw [World.cell?_setCell_other _ _ _ _ (by intro e; injection e with e1; omega), World.cell?_setCell_other _ _ _ _ (by intro e; injection e with e1; omega)]; exact h.1
  · rw [World.cell?_setCell_other _ _ _ _ (by intro e; injection e with e1; omega), World.cell?_setCell_other _ _ _ _ (by intro e; injection e with e1; omega)]; exact h.2
theorem BoxD.new (W : World) : BoxD g lb sf sb W.heap.size (W.alloc (.cells #[.func (.func g) #[] lb, .func (.func sf) #[] sb] (ρ.t 42))) := ⟨by simp, by simp⟩
theorem swapRange_s (L : LaysGt.n49 P ρ) (C : SCtx P enc lt g lb sf sb blk off d W) (a b n : Nat) (hab : a + n ≤ b) (hb : b + n ≤ d.size) :
    Calls P (ρ.f 49) #[.agg #[.func (.func g) #[] lb, .func (.func sf) #[] sb], .int .i64 a, .int .i64 b, .int .i64 n] W fun e w' => e = .returned (.tuple #[]) ∧ ∃ d', SW enc W blk off d' w' ∧ SwR d a b n d' := by
  have mixed := L.mixed; have t0 := L.t0; have a0 := L.a0; have z0 := L.z0; have v0 := L.v0; have t3 := L.t3; have a3 := L.a3; have z3 := L.z3; have v3 := L.v3; have t4 := L.t4; have a4 := L.a4; have z4 := L.z4; have v4 := L.v4; have t26 := L.t26; have a26 := L.a26; have z26 := L.z26; have v26 := L.v26; have t38 := L.t38; have a38 := L.a38; have z38 := L.z38; have v38 := L.v38; have t42 := L.t42; have a42 := L.a42; have z42 := L.z42; have v42 := L.v42
  have u42 := run_underlying L.t42
  have S0 : SW enc W blk off d (W.alloc (.cells #[.func (.func g) #[] lb, .func (.func sf) #[] sb] (ρ.t 42))) := C.start.alloc _
  have B0 : BoxD g lb sf sb W.heap.size (W.alloc (.cells #[.func (.func g) #[] lb, .func (.func sf) #[] sb] (ρ.t 42))) := BoxD.new W
  have hbn : W.heap.size ≠ blk := by have := C.bl; omega
  have hsz := C.sz
  go_enter L.f49, BodyGt.n49_ntmps ρ
  go_wp2
  go_loopw [8] (fun vi wr => ∃ (k : Nat) (dk : Array α), vi = .int .i64 k ∧ k ≤ n ∧ SW enc W blk off dk wr ∧ SwR d a b k dk ∧ BoxD g lb sf sb W.heap.size wr) (fun vi _ => n - (intOf vi).toNat)
  case atStart => exact ⟨0, d, rfl, Nat.zero_le _, S0, SwR.zero d a b, B0⟩
  case round =>
    clear S0 B0
    obtain ⟨k, dk, rfl, hk, S, R, hB0, hB1⟩ := hrel
    have hds := R.size
    by_cases hlt : k < n
    · have hc1 : (k : Int) < (n : Int) := by omega
      have hs := C.swap wr dk (S.holds C.bl C.hold hds) hds (a + k) (b + k) (by omega) (by omega)
      rw [show ((a + k : Nat) : Int) = (a : Int) + (k : Int) by omega, show ((b + k : Nat) : Int) = (b : Int) + (k : Int) by omega] at hs
      have S2 := S.swap C.bl (a + k) (b + k) (by omega) (by omega)
      have hB' : BoxD g lb sf sb W.heap.size ((wr.setCell ⟨blk, off + (a + k), none⟩ (enc dk[b + k]!)).setCell ⟨blk, off + (b + k), none⟩ (enc dk[a + k]!)) := by
        have h0 := hB0; have h1 := hB1
        constructor
        · rw [World.cell?_setCell_other _ _ _ _ (by intro e; injection e with e1; omega), World.cell?_setCell_other _ _ _ _ (by intro e; injection e with e1; omega)]; exact h0
        · rw [World.cell?_setCell_other _ _ _ _ (by intro e; injection e with e1; omega), World.cell?_setCell_other _ _ _ _ (by intro e; injection e with e1; omega)]; exact h1
      go_wp2
      go_roundw
      case rel => exact ⟨k + 1, _, by go_num, by omega, S2, R.step hlt hab hb, hB'⟩
      case measure => simp [intOf]; omega
    · obtain rfl : k = n := by omega
      have hc1 : ¬ (k : Int) < (k : Int) := by omega
      go_wp2
      go_end0
      exact ⟨rfl, dk, S, R⟩
theorem rotate_s (L : LaysGt.n42 P ρ) (C : SCtx P enc lt g lb sf sb blk off d W) (a m b : Nat) (ham : a < m) (hmb : m < b) (hb : b ≤ d.size) :
    Calls P (ρ.f 42) #[.agg #[.func (.func g) #[] lb, .func (.func sf) #[] sb], .int .i64 a, .int .i64 m, .int .i64 b] W fun e w' => e = .returned (.tuple #[]) ∧ ∃ d', SW enc W blk off d' w' ∧ Rot d a m b d' := by
  have mixed := L.mixed; have t0 := L.t0; have a0 := L.a0; have z0 := L.z0; have v0 := L.v0; have t3 := L.t3; have a3 := L.a3; have z3 := L.z3; have v3 := L.v3; have t4 := L.t4; have a4 := L.a4; have z4 := L.z4; have v4 := L.v4; have t26 := L.t26; have a26 := L.a26; have z26 := L.z26; have v26 := L.v26; have t38 := L.t38; have a38 := L.a38; have z38 := L.z38; have v38 := L.v38; have t42 := L.t42; have a42 := L.a42; have z42 := L.z42; have v42 := L.v42
  have u42 := run_underlying L.t42
  have S0 : SW enc W blk off d (W.alloc (.cells #[.func (.func g) #[] lb, .func (.func sf) #[] sb] (ρ.t 42))) := C.start.alloc _
  have B0 : BoxD g lb sf sb W.heap.size (W.alloc (.cells #[.func (.func g) #[] lb, .func (.func sf) #[] sb] (ρ.t 42))) := BoxD.new W
  have hbn : W.heap.size ≠ blk := by have := C.bl; omega
  have hsz := C.sz
  have e49 : ∀ args w, (callFunc (ρ.f 49) args).run P w = .ok (.enter (ρ.f 49) args) w := enters_of L.f49 (by kernel_rfl) rfl
  have L49 : LaysGt.n49 P ρ := { L with }
  go_enter L.f42, BodyGt.n42_ntmps ρ
  go_wp2
  go_loopw [8, 9] (fun vi vj wr => ∃ (i j : Nat) (dk : Array α), vi = .int .i64 i ∧ vj = .int .i64 j ∧ 0 < i ∧ 0 < j ∧ i ≤ m - a ∧ j ≤ b - m ∧ SW enc W blk off dk wr ∧ dk.size = d.size ∧ (∀ T, Rot dk (m - i) m (m + j) T → Rot d a m b T) ∧ BoxD g lb sf sb W.heap.size wr) (fun vi vj _ => (intOf vi).toNat + (intOf vj).toNat)
  case atStart => exact ⟨m - a, b - m, d, by go_num, by go_num, by omega, by omega, Nat.le_refl _, Nat.le_refl _, S0, rfl, fun T h => by rwa [show m - (m - a) = a by omega, show m + (b - m) = b by omega] at h, B0⟩
  case round =>
    clear S0 B0
    obtain ⟨i, j, dk, rfl, rfl, hi0, hj0, hi, hj, S, hds, HT, hB⟩ := hrel
    obtain ⟨hB0, hB1⟩ := hB
    have Ck := C.on S hds
    by_cases hij : i = j
    · subst hij
      have hc : ((i : Int) != (i : Int)) = false := by simp
      have hS := swapRange_s L49 Ck (m - i) m i (by omega) (by omega)
      rw [show ((m - i : Nat) : Int) = (m : Int) - (i : Int) by omega] at hS
      go_wp2_with (go_at_fn (ρ.f 49); refine hS.mono ?_; rintro e w1 ⟨rfl, dk', S', R'⟩)
      go_end0
      exact ⟨rfl, dk', swTr S S' C.bl (by rw [R'.size]), HT _ (rot_eq (by omega) (by omega) R')⟩
    · have hc : ((i : Int) != (j : Int)) = true := by simp; omega
      by_cases hgt : j < i
      · have hc2 : (j : Int) < (i : Int) := by omega
        have hS := swapRange_s L49 Ck (m - i) m j (by omega) (by omega)
        rw [show ((m - i : Nat) : Int) = (m : Int) - (i : Int) by omega] at hS
        go_wp2_with (go_at_fn (ρ.f 49); refine hS.mono ?_; rintro e w1 ⟨rfl, dk', S', R'⟩)
        have hB' := (show BoxD g lb sf sb W.heap.size wr from ⟨hB0, hB1⟩).tr S' hbn
        go_roundw
        case rel => exact ⟨i - j, j, dk', by go_num, rfl, by omega, hj0, by omega, hj, swTr S S' C.bl (by rw [R'.size]), by rw [R'.size]; exact hds, fun T h => HT T (rot_gt hgt (by omega) (by omega) R' h), hB'⟩
        case measure => simp [intOf]; omega
      · have hc2 : ¬ (j : Int) < (i : Int) := by omega
        have hS := swapRange_s L49 Ck (m - i) (m + j - i) i (by omega) (by omega)
        rw [show ((m - i : Nat) : Int) = (m : Int) - (i : Int) by omega, show ((m + j - i : Nat) : Int) = (m : Int) + (j : Int) - (i : Int) by omega] at hS
        go_wp2_with (go_at_fn (ρ.f 49); refine hS.mono ?_; rintro e w1 ⟨rfl, dk', S', R'⟩)
        have hB' := (show BoxD g lb sf sb W.heap.size wr from ⟨hB0, hB1⟩).tr S' hbn
        go_roundw
        case rel => exact ⟨i, j - i, dk', rfl, by go_num, hi0, by omega, hi, by omega, swTr S S' C.bl (by rw [R'.size]), by rw [R'.size]; exact hds, fun T h => HT T (rot_lt (by omega) (by omega) (by omega) R' h), hB'⟩
        case measure => simp [intOf]; omega
end
end
section
open Go.Shelf Go.Lib Go.Sort
section
variable {P : Program} {ρ : Ren} {α : Type} [Inhabited α] {enc : α → Value} {lt : α → α → Bool} {g : Nat} {lb : Array Value} {sf : Nat} {sb : Array Value} {blk off : Nat} {d e f : Array α} {W W1 W2 : World}
theorem symMerge_s (hO : SWO lt) (L : LaysGt.n30 P ρ) : ∀ (s : Nat) (d : Array α) (W : World), SCtx P enc lt g lb sf sb blk off d W → ∀ (a m b : Nat), b - a ≤ s → a < m → m < b → b ≤ d.size → SortedIn lt a m d → SortedIn lt m b d →
    Calls P (ρ.f 30) #[.agg #[.func (.func g) #[] lb, .func (.func sf) #[] sb], .int .i64 a, .int .i64 m, .int .i64 b] W fun e w' => e = .returned (.tuple #[]) ∧ ∃ d', SW enc W blk off d' w' ∧ PermIn a b d d' ∧ SortedIn lt a b d' := by
  intro s
  induction s with
  | zero => intro d W C a m b hs h1 h2; omega
  | succ s ih =>
    intro d W C a m b hs ham hmb hb hS1 hS2
    have mixed := L.mixed; have t0 := L.t0; have a0 := L.a0; have z0 := L.z0; have v0 := L.v0; have t3 := L.t3; have a3 := L.a3; have z3 := L.z3; have v3 := L.v3; have t4 := L.t4; have a4 := L.a4; have z4 := L.z4; have v4 := L.v4; have t26 := L.t26; have a26 := L.a26; have z26 := L.z26; have v26 := L.v26; have t38 := L.t38; have a38 := L.a38; have z38 := L.z38; have v38 := L.v38; have t42 := L.t42; have a42 := L.a42; have z42 := L.z42; have v42 := L.v42; have t47 := L.t47; have a47 := L.a47; have z47 := L.z47; have v47 := L.v47
    have u42 := run_underlying L.t42
    have S0 : SW enc W blk off d (W.alloc (.cells #[.func (.func g) #[] lb, .func (.func sf) #[] sb] (ρ.t 42))) := C.start.alloc _
    have B0 : BoxD g lb sf sb W.heap.size (W.alloc (.cells #[.func (.func g) #[] lb, .func (.func sf) #[] sb] (ρ.t 42))) := BoxD.new W
    have hbn : W.heap.size ≠ blk := by have := C.bl; omega
    have hsz := C.sz
    have eg := C.eg
    have e42 : ∀ args w, (callFunc (ρ.f 42) args).run P w = .ok (.enter (ρ.f 42) args) w := enters_of L.f42 (by kernel_rfl) rfl
    have e30 : ∀ args w, (callFunc (ρ.f 30) args).run P w = .ok (.enter (ρ.f 30) args) w := enters_of L.f30 (by kernel_rfl) rfl
    have L42 : LaysGt.n42 P ρ := { L with }
    have half : ∀ x : Nat, x ≤ 9223372036854775807 → IntKind.u64.wrap (x : Int) = x ∧ IntKind.i64.wrap ((x / 2 : Nat) : Int) = ((x / 2 : Nat) : Int) := fun x hx => ⟨by simp [IntKind.wrap, IntKind.bits, IntKind.signed]; omega, IntWalk.i64_in _ ⟨by omega, by omega⟩⟩
    have HALF := Lib.hid half
    have HS1 := Lib.hid hS1
    have HS2 := Lib.hid hS2
    clear half hS1 hS2
    have BX : ∀ w', BoxD g lb sf sb W.heap.size w' → Hid (BoxD g lb sf sb W.heap.size w') := fun _ h => h
    by_cases hA : m - a = 1
    · have hc1 : ((m : Int) - (a : Int) == 1) = true := by simp; omega
      go_enter L.f30, BodyGt.n30_ntmps ρ
      go_wp2
      go_loopw [8, 9] (fun vi vj wr => ∃ i j : Nat, vi = .int .i64 i ∧ vj = .int .i64 j ∧ a + 1 ≤ i ∧ i ≤ j ∧ j ≤ b ∧ (i = a + 1 ∨ lt d[i - 1]! d[a]! = true) ∧ (j = b ∨ lt d[j]! d[a]! = false) ∧ SW enc W blk off d wr ∧ BoxD g lb sf sb W.heap.size wr) (fun vi vj _ => (intOf vj).toNat - (intOf vi).toNat)
      case atStart => exact ⟨m, b, rfl, rfl, by omega, by omega, Nat.le_refl _, .inl (by omega), .inl rfl, S0, B0⟩
      case round =>
        clear S0 B0
        obtain ⟨i, j, rfl, rfl, hi, hij, hj, hI, hJ, S, hB0, hB1⟩ := hrel
        have HB := BX wr ⟨hB0, hB1⟩
        have HI := Lib.hid hI
        have HJ := Lib.hid hJ
        clear hI hJ
        by_cases hlt : i < j
        · have hc2 : (i : Int) < (j : Int) := by omega
          obtain ⟨wu, wi⟩ := HALF.out (i + j) (by omega)
          obtain ⟨h, hh⟩ : ∃ h, h = (i + j) / 2 := ⟨_, rfl⟩
          have hm1 : i ≤ h := by omega
          have hm2 : h < j := by omega
          have hhc : ((i : Int) + (j : Int)) / 2 = (h : Int) := by omega
          have hl := C.lessAt S rfl h a (by omega) (by omega)
          rw [← hhc] at hl
          have HHC := Lib.hid hhc
          clear hhc hh
          cases hlv : lt d[h]! d[a]! with
          | true =>
            rw [hlv] at hl
            have HLV := Lib.hid hlv
            clear hlv
            go_wp2_with (go_at_fn g; refine hl.mono ?_; rintro e w' ⟨rfl, S', hcs⟩)
            go_roundw
            case rel => exact ⟨h + 1, j, by rw [HHC.out]; go_num, rfl, by omega, by omega, hj, .inr HLV.out, HJ.out, S', HB.out.same hcs⟩
            case measure => simp [intOf]; omega
          | false =>
            rw [hlv] at hl
            have HLV := Lib.hid hlv
            clear hlv
            go_wp2_with (go_at_fn g; refine hl.mono ?_; rintro e w' ⟨rfl, S', hcs⟩)
            go_roundw
            case rel => exact ⟨i, h, rfl, by rw [HHC.out], hi, by omega, by omega, HI.out, .inr HLV.out, S', HB.out.same hcs⟩
            case measure => simp [intOf]; omega
        · obtain rfl : i = j := by omega
          have hc2 : ¬ (i : Int) < (i : Int) := by omega
          go_wp2
          go_loopw [11] (fun vk wr => ∃ (k : Nat) (dk : Array α), vk = .int .i64 k ∧ a ≤ k ∧ k + 1 ≤ i ∧ SW enc W blk off dk wr ∧ Rot d a (a + 1) (k + 1) dk ∧ BoxD g lb sf sb W.heap.size wr) (fun vk _ => i - (intOf vk).toNat)
          case atStart => exact ⟨a, d, rfl, Nat.le_refl _, hi, S, Rot.self_r d a (a + 1), HB.out⟩
          case round =>
            clear S hB0 hB1 HB
            obtain ⟨k, dk, rfl, hk1, hk2, S, R, hB0, hB1⟩ := hrel
            have HB := BX wr ⟨hB0, hB1⟩
            have hds := R.size
            by_cases hki : k + 1 < i
            · have hc3 : (k : Int) < (i : Int) - 1 := by omega
              have hs := C.swap wr dk (S.holds C.bl C.hold hds) hds k (k + 1) (by omega) (by omega)
              rw [show ((k + 1 : Nat) : Int) = (k : Int) + 1 by omega] at hs
              have S2 := S.swap C.bl k (k + 1) (by omega) (by omega)
              go_wp2
              go_roundw
              case rel => exact ⟨k + 1, _, by go_num, by omega, by omega, S2, rot_up hk1 (by omega) R, HB.out.swap hbn _ _ _ _⟩
              case measure => simp [intOf]; omega
            · have hc3 : ¬ (k : Int) < (i : Int) - 1 := by omega
              go_wp2
              (try simp only [Exit.inBlock, Exit.then])
              refine bodyPost_ret (results_none rfl _ _ _) rfl ?_
              obtain rfl : i = k + 1 := by omega
              exact ⟨rfl, dk, S, permIn_in R.perm (Nat.le_refl _) hj hb, one_left' hO hi hj (show SortedIn lt (a + 1) b d by rw [show a + 1 = m by omega]; exact HS2.out) HI.out HJ.out R⟩
    · by_cases hB : b - m = 1
      · have hc1 : ((m : Int) - (a : Int) == 1) = false := by simp; omega
        have hc1' : ((b : Int) - (m : Int) == 1) = true := by simp; omega
        go_enter L.f30, BodyGt.n30_ntmps ρ
        go_wp2
        go_loopw [12, 13] (fun vi vj wr => ∃ i j : Nat, vi = .int .i64 i ∧ vj = .int .i64 j ∧ a ≤ i ∧ i ≤ j ∧ j ≤ m ∧ (i = a ∨ lt d[m]! d[i - 1]! = false) ∧ (j = m ∨ lt d[m]! d[j]! = true) ∧ SW enc W blk off d wr ∧ BoxD g lb sf sb W.heap.size wr) (fun vi vj _ => (intOf vj).toNat - (intOf vi).toNat)
        case atStart => exact ⟨a, m, rfl, rfl, Nat.le_refl _, by omega, Nat.le_refl _, .inl rfl, .inl rfl, S0, B0⟩
        case round =>
          clear S0 B0
          obtain ⟨i, j, rfl, rfl, hi, hij, hj, hI, hJ, S, hB0, hB1⟩ := hrel
          have HB := BX wr ⟨hB0, hB1⟩
          have HI := Lib.hid hI
          have HJ := Lib.hid hJ
          clear hI hJ
          by_cases hlt : i < j
          · have hc2 : (i : Int) < (j : Int) := by omega
            obtain ⟨wu, wi⟩ := HALF.out (i + j) (by omega)
            obtain ⟨h, hh⟩ : ∃ h, h = (i + j) / 2 := ⟨_, rfl⟩
            have hm1 : i ≤ h := by omega
            have hm2 : h < j := by omega
            have hhc : ((i : Int) + (j : Int)) / 2 = (h : Int) := by omega
            have hl := C.lessAt S rfl m h (by omega) (by omega)
            rw [← hhc] at hl
            have HHC := Lib.hid hhc
            clear hhc hh
            cases hlv : lt d[m]! d[h]! with
            | true =>
              rw [hlv] at hl
              have HLV := Lib.hid hlv
              clear hlv
              go_wp2_with (go_at_fn g; refine hl.mono ?_; rintro e w' ⟨rfl, S', hcs⟩)
              go_roundw
              case rel => exact ⟨i, h, rfl, by rw [HHC.out], hi, by omega, by omega, HI.out, .inr HLV.out, S', HB.out.same hcs⟩
              case measure => simp [intOf]; omega
            | false =>
              rw [hlv] at hl
              have HLV := Lib.hid hlv
              clear hlv
              go_wp2_with (go_at_fn g; refine hl.mono ?_; rintro e w' ⟨rfl, S', hcs⟩)
              go_roundw
              case rel => exact ⟨h + 1, j, by rw [HHC.out]; go_num, rfl, by omega, by omega, hj, .inr HLV.out, HJ.out, S', HB.out.same hcs⟩
              case measure => simp [intOf]; omega
          · obtain rfl : i = j := by omega
            have hc2 : ¬ (i : Int) < (i : Int) := by omega
            go_wp2
            go_loopw [15] (fun vk wr => ∃ (k : Nat) (dk : Array α), vk = .int .i64 k ∧ i ≤ k ∧ k ≤ m ∧ SW enc W blk off dk wr ∧ Rot d k m (m + 1) dk ∧ BoxD g lb sf sb W.heap.size wr) (fun vk _ => (intOf vk).toNat)
            case atStart => exact ⟨m, d, rfl, hj, Nat.le_refl _, S, Rot.self_l d m (m + 1), HB.out⟩
            case round =>
              clear S hB0 hB1 HB
              obtain ⟨k, dk, rfl, hk1, hk2, S, R, hB0, hB1⟩ := hrel
              have HB := BX wr ⟨hB0, hB1⟩
              have hds := R.size
              by_cases hki : i < k
              · have hc3 : (i : Int) < (k : Int) := by omega
                have hs := C.swap wr dk (S.holds C.bl C.hold hds) hds k (k - 1) (by omega) (by omega)
                rw [show ((k - 1 : Nat) : Int) = (k : Int) - 1 by omega] at hs
                have S2 := S.swap C.bl k (k - 1) (by omega) (by omega)
                have hR2 : Hid (Rot d (k - 1) m (m + 1) (swp dk k (k - 1))) := by
                  have := rot_down (d := d) (m := m) (k := k - 1) (e := dk) (by omega) (by omega) (by rw [show k - 1 + 1 = k by omega]; exact R)
                  rwa [show k - 1 + 1 = k by omega] at this
                go_wp2
                go_roundw
                case rel => exact ⟨k - 1, _, by go_num, by omega, by omega, S2, hR2.out, HB.out.swap hbn _ _ _ _⟩
                case measure => simp [intOf]; omega
              · obtain rfl : i = k := by omega
                have hc3 : ¬ (i : Int) < (i : Int) := by omega
                go_wp2
                (try simp only [Exit.inBlock, Exit.then])
                refine bodyPost_ret (results_none rfl _ _ _) rfl ?_
                obtain rfl : b = m + 1 := by omega
                exact ⟨rfl, dk, S, permIn_in R.perm hi (Nat.le_refl _) hb, one_right' hO hi hj HS1.out HI.out HJ.out R⟩
      · have hc1 : ((m : Int) - (a : Int) == 1) = false := by simp; omega
        have hc1' : ((b : Int) - (m : Int) == 1) = false := by simp; omega
        obtain ⟨wu, wi⟩ := HALF.out (a + b) (by omega)
        go_enter L.f30, BodyGt.n30_ntmps ρ
        go_upto_if 106 with fail
        obtain ⟨mid, hmid⟩ : ∃ mid, mid = (a + b) / 2 := ⟨_, rfl⟩
        have hmc : ((a : Int) + (b : Int)) / 2 = (mid : Int) := by omega
        have hm1 : a < mid := by omega
        have hm2 : mid < b := by omega
        have hm3 : 2 * mid ≤ a + b := by omega
        have hm4 : a + b ≤ 2 * mid + 1 := by omega
        rw [hmc]
        clear hmc hmid wu wi
        go_cut [18, 19] (fun v18 v19 wx => ∃ s0 r0 : Nat, v18 = .int .i64 s0 ∧ v19 = .int .i64 r0 ∧ a ≤ s0 ∧ s0 ≤ r0 ∧ r0 ≤ m ∧ r0 ≤ mid ∧ mid + m ≤ b + s0 ∧ (s0 = a ∨ mid + m - s0 = b) ∧ (r0 = m ∨ r0 = mid) ∧ SW enc W blk off d wx ∧ BoxD g lb sf sb W.heap.size wx)
        case first =>
          by_cases hgt : mid < m
          · have hc2 : (mid : Int) < (m : Int) := by omega
            go_wp2
            go_meet
            exact ⟨mid + m - b, mid, by go_num, rfl, by omega, by omega, by omega, Nat.le_refl _, by omega, .inr (by omega), .inr rfl, S0, B0⟩
          · have hc2 : ¬ (mid : Int) < (m : Int) := by omega
            go_wp2
            go_meet
            exact ⟨a, m, rfl, rfl, Nat.le_refl _, by omega, Nat.le_refl _, by omega, by omega, .inl rfl, .inl rfl, S0, B0⟩
        case rest =>
          clear S0 B0
          obtain ⟨s0, r0, rfl, rfl, g1, g2, g3, g4, g5, g6, g7, S, hB0, hB1⟩ := hcut
          have HB := BX wc ⟨hB0, hB1⟩
          have hn1 : (mid : Int) + (m : Int) < 9223372036854775807 := by omega
          have G6 := Lib.hid g6
          have G7 := Lib.hid g7
          clear g6 g7
          go_wp2
          go_loopw [18, 19] (fun vi vj wr => ∃ i j : Nat, vi = .int .i64 i ∧ vj = .int .i64 j ∧ s0 ≤ i ∧ i ≤ j ∧ j ≤ r0 ∧ (i = s0 ∨ lt d[mid + m - i]! d[i - 1]! = false) ∧ (j = r0 ∨ lt d[mid + m - j - 1]! d[j]! = true) ∧ SW enc W blk off d wr ∧ BoxD g lb sf sb W.heap.size wr) (fun vi vj _ => (intOf vj).toNat - (intOf vi).toNat)
          case atStart => exact ⟨s0, r0, rfl, rfl, Nat.le_refl _, by omega, Nat.le_refl _, .inl rfl, .inl rfl, S, HB.out⟩
          case round =>
            clear S hB0 hB1 HB
            obtain ⟨i, j, rfl, rfl, hi, hij, hj, hI, hJ, S, hB0, hB1⟩ := hrel
            have HB := BX wr ⟨hB0, hB1⟩
            have HI := Lib.hid hI
            have HJ := Lib.hid hJ
            clear hI hJ
            by_cases hlt : i < j
            · have hc2 : (i : Int) < (j : Int) := by omega
              obtain ⟨wu, wi⟩ := HALF.out (i + j) (by omega)
              obtain ⟨h, hh⟩ : ∃ h, h = (i + j) / 2 := ⟨_, rfl⟩
              have hm5 : i ≤ h := by omega
              have hm6 : h < j := by omega
              have hhc : ((i : Int) + (j : Int)) / 2 = (h : Int) := by omega
              have hl := C.lessAt S rfl (mid + m - h - 1) h (by omega) (by omega)
              rw [show ((mid + m - h - 1 : Nat) : Int) = (mid : Int) + (m : Int) - 1 - (h : Int) by omega, ← hhc] at hl
              have HHC := Lib.hid hhc
              clear hhc hh
              cases hlv : lt d[mid + m - h - 1]! d[h]! with
              | true =>
                rw [hlv] at hl
                have HLV := Lib.hid hlv
                clear hlv
                go_wp2_with (go_at_fn g; refine hl.mono ?_; rintro e w' ⟨rfl, S', hcs⟩)
                go_roundw
                case rel => exact ⟨i, h, rfl, by rw [HHC.out], hi, by omega, by omega, HI.out, .inr HLV.out, S', HB.out.same hcs⟩
                case measure => simp [intOf]; omega
              | false =>
                rw [hlv] at hl
                have HLV := Lib.hid hlv
                clear hlv
                go_wp2_with (go_at_fn g; refine hl.mono ?_; rintro e w' ⟨rfl, S', hcs⟩)
                go_roundw
                case rel => exact ⟨h + 1, j, by rw [HHC.out]; go_num, rfl, by omega, by omega, hj, .inr (by rw [show mid + m - (h + 1) = mid + m - h - 1 by omega, show h + 1 - 1 = h by omega]; exact HLV.out), HJ.out, S', HB.out.same hcs⟩
                case measure => simp [intOf]; omega
            · obtain rfl : i = j := by omega
              have hc2 : ¬ (i : Int) < (i : Int) := by omega
              have HC : Hid (Cut lt d a m b mid i) := by
                have q6 := G6.out
                have q7 := G7.out
                refine ⟨by omega, by omega, by omega, by omega, ?_, ?_⟩
                · rcases HI.out with h | h
                  · rcases q6 with q | q
                    · exact .inl (by omega)
                    · exact .inr (.inl (by omega))
                  · exact .inr (.inr h)
                · rcases HJ.out with h | h
                  · rcases q7 with q | q
                    · exact .inl (by omega)
                    · exact .inr (.inl (by omega))
                  · exact .inr (.inr h)
              have Ci := C.on S rfl
              have he1 : (mid : Int) + (m : Int) - (i : Int) = ((mid + m - i : Nat) : Int) := by omega
              have HE1 := Lib.hid he1
              have k1 : a ≤ i := by omega
              have k2 : i ≤ m := by omega
              have k3 : i ≤ mid := by omega
              have k4 : mid + m - i ≤ b := by omega
              have k5 : mid ≤ mid + m - i := by omega
              clear he1 G6 G7 HI HJ g1 g2 g3 g4 g5 hi hj
              obtain ⟨g1, hg1⟩ : ∃ g1, g1 = (decide (i < m) && decide (m < mid + m - i)) := ⟨_, rfl⟩
              go_upto_region 40 with fail
              go_cut [145] (fun v wx => v = .bool g1 ∧ wx = wr)
              case first =>
                by_cases hA1 : i < m
                · have hc3 : (i : Int) < (m : Int) := by omega
                  by_cases hA2 : m < mid + m - i
                  · have hc4 : (m : Int) < (mid : Int) + (m : Int) - (i : Int) := by omega
                    have hg2 : Hid (true = g1) := by show _ = _; rw [hg1, decide_eq_true hA1, decide_eq_true hA2]; rfl
                    clear hg1
                    go_wp2
                    go_meet
                    exact ⟨by rw [← hg2.out], rfl⟩
                  · have hc4 : ¬ (m : Int) < (mid : Int) + (m : Int) - (i : Int) := by omega
                    have hg2 : Hid (false = g1) := by show _ = _; rw [hg1, decide_eq_true hA1, decide_eq_false hA2]; rfl
                    clear hg1
                    go_wp2
                    go_meet
                    exact ⟨by rw [← hg2.out], rfl⟩
                · have hc3 : ¬ (i : Int) < (m : Int) := by omega
                  have hg2 : Hid (false = g1) := by show _ = _; rw [hg1, decide_eq_false hA1]; rfl
                  clear hg1
                  go_wp2
                  go_meet
                  exact ⟨by rw [← hg2.out], rfl⟩
              case rest =>
              obtain ⟨rfl, rfl⟩ := hcut
              go_upto_if 145 with fail
              go_cut [] (fun wx => ∃ d1, SW enc W blk off d1 wx ∧ Rot d i m (mid + m - i) d1 ∧ BoxD g lb sf sb W.heap.size wx)
              case first =>
                rcases g1 with _ | _
                · have hA : ¬ (i < m ∧ m < mid + m - i) := fun h => by rw [decide_eq_true h.1, decide_eq_true h.2] at hg1; cases hg1
                  clear hg1
                  go_wp2
                  go_meet
                  refine ⟨d, S, ?_, HB.out⟩
                  by_cases hA1 : i < m
                  · rw [show mid + m - i = m by omega]; exact Rot.self_r d i m
                  · obtain rfl : i = m := by omega
                    exact Rot.self_l d _ _
                · obtain ⟨hA1, hA2⟩ : i < m ∧ m < mid + m - i := by
                    have := hg1.symm
                    rw [Bool.and_eq_true, decide_eq_true_eq, decide_eq_true_eq] at this
                    exact this
                  clear hg1
                  have hr := rotate_s L42 Ci i m (mid + m - i) hA1 hA2 (by omega)
                  rw [← HE1.out] at hr
                  go_wp2_with (go_at_fn (ρ.f 42); refine hr.mono ?_; rintro e w1 ⟨rfl, d1, S1, R1⟩)
                  go_meet
                  exact ⟨d1, swTr S S1 C.bl R1.size, R1, HB.out.tr S1 hbn⟩
              case rest =>
                clear S hB0 hB1 HB Ci hg1
                obtain ⟨d1, S1, R1, hB0, hB1⟩ := hcut
                have hsz1 := R1.size
                have HP1 : Hid (PermIn a b d d1) := permIn_in R1.perm k1 k4 hb
                obtain ⟨r1, r2, r3, r4, r5⟩ := cut_runs hO (by omega) (by omega) (by omega) HS1.out HS2.out HC.out R1
                have R1h := Lib.hid r1
                have R2h := Lib.hid r2
                have R3h := Lib.hid r3
                have R4h := Lib.hid r4
                have R5h := Lib.hid r5
                have HB := BX wc ⟨hB0, hB1⟩
                have C1 := C.on S1 hsz1
                clear r1 r2 r3 r4 r5 HC
                obtain ⟨w1, hw1⟩ : ∃ w1 : World, w1 = wc := ⟨_, rfl⟩
                subst hw1
                obtain ⟨g2, hg2⟩ : ∃ g2, g2 = (decide (a < i) && decide (i < mid)) := ⟨_, rfl⟩
                go_upto_region 42 with fail
                go_cut [158] (fun v wx => v = .bool g2 ∧ wx = w1)
                case first =>
                  by_cases hA1 : a < i
                  · have hc3 : (a : Int) < (i : Int) := by omega
                    by_cases hA2 : i < mid
                    · have hc4 : (i : Int) < (mid : Int) := by omega
                      have hg3 : Hid (true = g2) := by show _ = _; rw [hg2, decide_eq_true hA1, decide_eq_true hA2]; rfl
                      clear hg2
                      go_wp2
                      go_meet
                      exact ⟨by rw [← hg3.out], rfl⟩
                    · have hc4 : ¬ (i : Int) < (mid : Int) := by omega
                      have hg3 : Hid (false = g2) := by show _ = _; rw [hg2, decide_eq_true hA1, decide_eq_false hA2]; rfl
                      clear hg2
                      go_wp2
                      go_meet
                      exact ⟨by rw [← hg3.out], rfl⟩
                  · have hc3 : ¬ (a : Int) < (i : Int) := by omega
                    have hg3 : Hid (false = g2) := by show _ = _; rw [hg2, decide_eq_false hA1]; rfl
                    clear hg2
                    go_wp2
                    go_meet
                    exact ⟨by rw [← hg3.out], rfl⟩
                case rest =>
                obtain ⟨rfl, rfl⟩ := hcut
                go_upto_if 158 with fail
                go_cut [] (fun wx => ∃ d2, SW enc W blk off d2 wx ∧ PermIn a mid d1 d2 ∧ SortedIn lt a mid d2 ∧ BoxD g lb sf sb W.heap.size wx)
                case first =>
                  rcases g2 with _ | _
                  · have hA : ¬ (a < i ∧ i < mid) := fun h => by rw [decide_eq_true h.1, decide_eq_true h.2] at hg2; cases hg2
                    clear hg2
                    go_wp2
                    go_meet
                    refine ⟨d1, S1, permIn_refl _ _ _, ?_, HB.out⟩
                    by_cases hA1 : a < i
                    · rw [show mid = i by omega]; exact R1h.out
                    · exact sorted_part R2h.out (by omega) (Nat.le_refl _)
                  · obtain ⟨hA1, hA2⟩ : a < i ∧ i < mid := by
                      have := hg2.symm
                      rw [Bool.and_eq_true, decide_eq_true_eq, decide_eq_true_eq] at this
                      exact this
                    clear hg2
                    have hr := ih d1 _ C1 a i mid (by omega) hA1 hA2 (by omega) R1h.out R2h.out
                    go_wp2_with (go_at_fn (ρ.f 30); refine hr.mono ?_; rintro e w2 ⟨rfl, d2, S2, P2, Q2⟩)
                    go_meet
                    exact ⟨d2, swTr S1 S2 C.bl P2.1, P2, Q2, HB.out.tr S2 hbn⟩
                case rest =>
                  clear hB0 hB1 HB C1 hg2
                  obtain ⟨d2, S2, P2, Q2, hB0, hB1⟩ := hcut
                  have hsz2 : d2.size = d.size := P2.1.trans hsz1
                  have HB := BX wc ⟨hB0, hB1⟩
                  have C2 := C.on S2 hsz2
                  have r3 := sorted_out R3h.out P2 (.inr (Nat.le_refl _))
                  have r4 := sorted_out R4h.out P2 (.inr k5)
                  have HP2 := Lib.hid P2
                  have HQ2 := Lib.hid Q2
                  have R3i := Lib.hid r3
                  have R4i := Lib.hid r4
                  clear P2 Q2 r3 r4 S1
                  obtain ⟨w2, hw2⟩ : ∃ w2 : World, w2 = wc := ⟨_, rfl⟩
                  subst hw2
                  have fin : ∀ d3 w3, SW enc W blk off d3 w3 → PermIn mid b d2 d3 → SortedIn lt mid b d3 → ∃ d', SW enc W blk off d' w3 ∧ PermIn a b d d' ∧ SortedIn lt a b d' := fun d3 w3 S3 P3 Q3 => by
                    have hh := halves (by omega) (by omega) (by omega) R5h.out HP2.out HQ2.out P3 Q3
                    exact ⟨d3, S3, permIn_trans _ _ _ _ _ HP1.out hh.1, hh.2⟩
                  have FIN := Lib.hid fin
                  clear fin
                  by_cases hA1 : mid < mid + m - i
                  · have hc3 : (mid : Int) < (mid : Int) + (m : Int) - (i : Int) := by omega
                    by_cases hA2 : mid + m - i < b
                    · have hc4 : (mid : Int) + (m : Int) - (i : Int) < (b : Int) := by omega
                      have hr := ih d2 w2 C2 mid (mid + m - i) b (by omega) hA1 hA2 (by omega) R3i.out R4i.out
                      rw [← HE1.out] at hr
                      go_wp2_with (go_at_fn (ρ.f 30); refine hr.mono ?_; rintro e w3 ⟨rfl, d3, S3, P3, Q3⟩)
                      go_end0
                      exact ⟨rfl, FIN.out d3 _ (swTr S2 S3 C.bl P3.1) P3 Q3⟩
                    · have hc4 : ¬ (mid : Int) + (m : Int) - (i : Int) < (b : Int) := by omega
                      go_wp2
                      go_end0
                      exact ⟨rfl, FIN.out d2 _ S2 (permIn_refl _ _ _) (by rw [show b = mid + m - i by omega]; exact R3i.out)⟩
                  · have hc3 : ¬ (mid : Int) < (mid : Int) + (m : Int) - (i : Int) := by omega
                    go_wp2
                    go_end0
                    exact ⟨rfl, FIN.out d2 _ S2 (permIn_refl _ _ _) (sorted_part R4i.out (by omega) (Nat.le_refl _))⟩
end
end
section
open Go.Shelf Go.Lib Go.Sort
section
variable {P : Program} {ρ : Ren} {α : Type} [Inhabited α] {enc : α → Value} {lt : α → α → Bool} {g : Nat} {lb : Array Value} {sf : Nat} {sb : Array Value} {blk off : Nat} {d e f : Array α} {W W1 W2 : World}
theorem ins_s (hO : SWO lt) (L : LaysGt.n15 P ρ) (C : SCtx P enc lt g lb sf sb blk off d W) (a b : Nat) (hab : a ≤ b) (hb : b ≤ d.size) :
    Calls P (ρ.f 29) #[.agg #[.func (.func g) #[] lb, .func (.func sf) #[] sb], .int .i64 a, .int .i64 b] W fun e w' => e = .returned (.tuple #[]) ∧ ∃ d', SW enc W blk off d' w' ∧ PermIn a b d d' ∧ SortedIn lt a b d' := by
  have LI : LaysGg.n26 P ρ.viaGt := ({ L with } : LaysGt.n29 P ρ).elder
  have hc : Calls P (ρ.f 29) #[.agg #[.func (.func g) #[] lb, .func (.func sf) #[] sb], .int .i64 a, .int .i64 b] W fun e w' => e = .returned (.tuple #[]) ∧ ∃ n os, w' = sortWorld enc W blk off n (Sort.insertionSort lt d a b) os :=
    Any.insertionSort_func_w LI enc lt g lb sf sb blk off a b d W C.eg C.less C.swap C.hold C.bl hab hb C.sz
  have hh := insertionSort_holds hO d a b hab hb
  exact hc.mono fun _ _ ⟨h1, n, os, h2⟩ => ⟨h1, _, ⟨n, os, h2⟩, hh.1, hh.2⟩
theorem stable_s (hO : SWO lt) (L : LaysGt.n15 P ρ) (C : SCtx P enc lt g lb sf sb blk off d W) (hsm : d.size ≤ 1099511627776) :
    Calls P (ρ.f 15) #[.agg #[.func (.func g) #[] lb, .func (.func sf) #[] sb], .int .i64 d.size] W fun e w' => e = .returned (.tuple #[]) ∧ ∃ d', SW enc W blk off d' w' ∧ PermIn 0 d.size d d' ∧ SortedIn lt 0 d.size d' := by
  have mixed := L.mixed; have t0 := L.t0; have a0 := L.a0; have z0 := L.z0; have v0 := L.v0; have t3 := L.t3; have a3 := L.a3; have z3 := L.z3; have v3 := L.v3; have t4 := L.t4; have a4 := L.a4; have z4 := L.z4; have v4 := L.v4; have t26 := L.t26; have a26 := L.a26; have z26 := L.z26; have v26 := L.v26; have t38 := L.t38; have a38 := L.a38; have z38 := L.z38; have v38 := L.v38; have t42 := L.t42; have a42 := L.a42; have z42 := L.z42; have v42 := L.v42; have t47 := L.t47; have a47 := L.a47; have z47 := L.z47; have v47 := L.v47
  have u42 := run_underlying L.t42
  have S0 : SW enc W blk off d (W.alloc (.cells #[.func (.func g) #[] lb, .func (.func sf) #[] sb] (ρ.t 42))) := C.start.alloc _
  have B0 : BoxD g lb sf sb W.heap.size (W.alloc (.cells #[.func (.func g) #[] lb, .func (.func sf) #[] sb] (ρ.t 42))) := BoxD.new W
  have hbn : W.heap.size ≠ blk := by have := C.bl; omega
  have BX : ∀ w', BoxD g lb sf sb W.heap.size w' → Hid (BoxD g lb sf sb W.heap.size w') := fun _ h => h
  have e29 : ∀ args w, (callFunc (ρ.f 29) args).run P w = .ok (.enter (ρ.f 29) args) w := enters_of L.f29 (by kernel_rfl) rfl
  have e30 : ∀ args w, (callFunc (ρ.f 30) args).run P w = .ok (.enter (ρ.f 30) args) w := enters_of L.f30 (by kernel_rfl) rfl
  have L30 : LaysGt.n30 P ρ := { L with }
  obtain ⟨n, hn⟩ : ∃ n, n = d.size := ⟨_, rfl⟩
  rw [← hn] at hsm ⊢
  have HN := Lib.hid hn
  clear hn
  go_enter L.f15, BodyGt.n15_ntmps ρ
  go_wp2
  go_loopw [5, 6] (fun va vb wr => ∃ (x : Nat) (dk : Array α), va = .int .i64 x ∧ vb = .int .i64 ((x : Int) + 20) ∧ x ≤ n ∧ SW enc W blk off dk wr ∧ PermIn 0 n d dk ∧ DoneR lt 20 x n dk ∧ BoxD g lb sf sb W.heap.size wr) (fun va _ _ => n - (intOf va).toNat)
  case atStart => exact ⟨0, d, rfl, rfl, Nat.zero_le _, S0, permIn_refl _ _ _, DoneR.zero _ _ _, B0⟩
  case round =>
    clear S0 B0
    obtain ⟨x, dk, rfl, rfl, hx, S, PM, DR, hB0, hB1⟩ := hrel
    have HB := BX wr ⟨hB0, hB1⟩
    have HPM := Lib.hid PM
    have HDR := Lib.hid DR
    have hds : dk.size = d.size := PM.1
    have Ck := C.on S hds
    have hnd := HN.out
    clear PM DR
    by_cases hlt : x + 20 ≤ n
    · have hc1 : (x : Int) + 20 ≤ (n : Int) := by omega
      have hi := ins_s hO L Ck x (x + 20) (by omega) (by omega)
      rw [show ((x + 20 : Nat) : Int) = (x : Int) + 20 by omega] at hi
      have hds2 := Lib.hid hds
      clear hnd hds
      go_wp2_with (go_at_fn (ρ.f 29); refine hi.mono ?_; rintro e w1 ⟨rfl, dk', S', P', Q'⟩)
      go_roundw
      case rel => exact ⟨x + 20, dk', by go_num, by go_num, hlt, swTr S S' C.bl P'.1, permIn_trans _ _ _ _ _ HPM.out (permIn_in P' (Nat.zero_le _) hlt (by rw [hds2.out, HN.out]; exact Nat.le_refl _)), HDR.out.step P' (by rw [show min (x + 20) n = x + 20 by omega]; exact Q'), HB.out.tr S' hbn⟩
      case measure => simp [intOf]; omega
    · have hc1 : ¬ (x : Int) + 20 ≤ (n : Int) := by omega
      have hi := ins_s hO L Ck x n (by omega) (by omega)
      have hds2 := Lib.hid hds
      clear hnd hds
      go_wp2_with (go_at_fn (ρ.f 29); refine hi.mono ?_; rintro e w1 ⟨rfl, d1, S1', P1, Q1⟩)
      have S1 := swTr S S1' C.bl P1.1
      have HB1 := BX _ (HB.out.tr S1' hbn)
      have PM1 : PermIn 0 n d d1 := permIn_trans _ _ _ _ _ HPM.out (permIn_in P1 (Nat.zero_le _) (Nat.le_refl _) (by rw [hds2.out, HN.out]; exact Nat.le_refl _))
      have RU : Runs lt 20 0 n d1 := HDR.out d1 (fun i hi => P1.2.1 i (by omega)) (Runs.one Q1 (by omega))
      clear S S1' HB hB0 hB1 Ck P1 Q1 HDR HPM hds2 hi
      go_loopw [4] (fun vs wr => ∃ (bs : Nat) (dk : Array α), vs = .int .i64 bs ∧ 1 ≤ bs ∧ bs ≤ 2199023255572 ∧ SW enc W blk off dk wr ∧ PermIn 0 n d dk ∧ Runs lt bs 0 n dk ∧ BoxD g lb sf sb W.heap.size wr) (fun vs _ => n - (intOf vs).toNat)
      case atStart => exact ⟨20, d1, rfl, by omega, by omega, S1, PM1, RU, HB1.out⟩
      case round =>
        clear S1 PM1 RU HB1
        obtain ⟨bs, dk, rfl, hb1, hb2, S, PM, RU, hB0, hB1⟩ := hrel
        have HB := BX wr ⟨hB0, hB1⟩
        have HRU := Lib.hid RU
        have HPM := Lib.hid PM
        clear RU PM
        by_cases hlt2 : bs < n
        · have hc2 : (bs : Int) < (n : Int) := by omega
          go_wp2
          go_loopw [5, 6] (fun va vb wr => ∃ (x : Nat) (dj : Array α), va = .int .i64 x ∧ vb = .int .i64 ((x : Int) + 2 * (bs : Int)) ∧ x ≤ n ∧ SW enc W blk off dj wr ∧ PermIn 0 n d dj ∧ DoneR lt (2 * bs) x n dj ∧ Runs lt bs x n dj ∧ BoxD g lb sf sb W.heap.size wr) (fun va _ _ => n - (intOf va).toNat)
          case atStart => exact ⟨0, dk, rfl, by go_num, Nat.zero_le _, S, HPM.out, DoneR.zero _ _ _, HRU.out, HB.out⟩
          case round =>
            clear S hB0 hB1 HB HRU HPM
            obtain ⟨x, dj, rfl, rfl, hx2, S, PM, DR, RU, hB0, hB1⟩ := hrel
            have HB := BX wr ⟨hB0, hB1⟩
            have HPM := Lib.hid PM
            have HDR := Lib.hid DR
            have HRU := Lib.hid RU
            have hds : dj.size = d.size := PM.1
            have Ck := C.on S hds
            have hnd := HN.out
            have r1 := RU.head
            have r2 := RU.next.head
            clear PM DR RU
            by_cases hle : x + 2 * bs ≤ n
            · have hc3 : (x : Int) + 2 * (bs : Int) ≤ (n : Int) := by omega
              have hr := symMerge_s hO L30 (2 * bs) dj wr Ck x (x + bs) (x + 2 * bs) (by omega) (by omega) (by omega) (by omega) (by rw [show min (x + bs) n = x + bs by omega] at r1; exact r1) (by rw [show min (x + bs + bs) n = x + 2 * bs by omega] at r2; exact r2)
              rw [show ((x + bs : Nat) : Int) = (x : Int) + (bs : Int) by omega, show ((x + 2 * bs : Nat) : Int) = (x : Int) + 2 * (bs : Int) by omega] at hr
              have hds2 := Lib.hid hds
              clear hnd hds r1 r2
              go_wp2_with (go_at_fn (ρ.f 30); refine hr.mono ?_; rintro e w1 ⟨rfl, dj', S', P', Q'⟩)
              go_roundw
              case rel =>
                refine ⟨x + 2 * bs, dj', by go_num, by go_num, hle, swTr S S' C.bl P'.1, permIn_trans _ _ _ _ _ HPM.out (permIn_in P' (Nat.zero_le _) hle (by rw [hds2.out, HN.out]; exact Nat.le_refl _)), HDR.out.step P' (by rw [show min (x + 2 * bs) n = x + 2 * bs by omega]; exact Q'), ?_, HB.out.tr S' hbn⟩
                have := HRU.out.next.next
                rw [show x + bs + bs = x + 2 * bs by omega] at this
                exact this.out P' (Nat.le_refl _)
              case measure => simp [intOf]; omega
            · have hc3 : ¬ (x : Int) + 2 * (bs : Int) ≤ (n : Int) := by omega
              by_cases hmn : x + bs < n
              · have hc4 : (x : Int) + (bs : Int) < (n : Int) := by omega
                have hr := symMerge_s hO L30 (2 * bs) dj wr Ck x (x + bs) n (by omega) (by omega) hmn (by omega) (by rw [show min (x + bs) n = x + bs by omega] at r1; exact r1) (by rw [show min (x + bs + bs) n = n by omega] at r2; exact r2)
                rw [show ((x + bs : Nat) : Int) = (x : Int) + (bs : Int) by omega] at hr
                have hds2 := Lib.hid hds
                clear hnd hds r1 r2
                go_wp2_with (go_at_fn (ρ.f 30); refine hr.mono ?_; rintro e w1 ⟨rfl, dj', S', P', Q'⟩)
                go_roundw
                case rel =>
                  exact ⟨bs * 2, dj', by go_num, by omega, by omega, swTr S S' C.bl P'.1, permIn_trans _ _ _ _ _ HPM.out (permIn_in P' (Nat.zero_le _) (Nat.le_refl _) (by rw [hds2.out, HN.out]; exact Nat.le_refl _)), by rw [Nat.mul_comm]; exact HDR.out dj' (fun i hi => P'.2.1 i (by omega)) (Runs.one Q' (by omega)), HB.out.tr S' hbn⟩
                case measure => simp [intOf]; omega
              · have hc4 : ¬ (x : Int) + (bs : Int) < (n : Int) := by omega
                have R1 := Lib.hid r1
                clear hnd hds r1 r2
                go_wp2
                go_roundw
                case rel =>
                  exact ⟨bs * 2, dj, by go_num, by omega, by omega, S, HPM.out, by rw [Nat.mul_comm]; exact HDR.out dj (fun i _ => rfl) (Runs.one (by have := R1.out; rwa [show min (x + bs) n = n by omega] at this) (by omega)), HB.out⟩
                case measure => simp [intOf]; omega
        · have hc2 : ¬ (bs : Int) < (n : Int) := by omega
          go_wp2
          go_end0
          have := HRU.out.head
          rw [show min (0 + bs) n = n by omega] at this
          exact ⟨rfl, dk, S, HPM.out, this⟩
end
end
section
open Go.Shelf Go.Lib Go.Sort
section
variable {α : Type} [Inhabited α] {enc : α → Value}
theorem heap_sortedG {w : World} {g n : Nat} {os : Array Obj} {cur : Array Value} {e : TypeId} {fr : Nat × Nat} (d : Array α) (hb : w.heap[g]? = some (.cells cur e fr)) :
    (grow (putRow enc (Sort.ahead w n) g 0 d) os).heap[g]? = some (.cells (putCells enc 0 d cur) e fr) := by
  have hg : g < w.heap.size := (Array.getElem?_eq_some_iff.1 hb).1
  rw [heap_grow_old _ _ (by simpa using hg)]
  simp [putRow, mapBlock, Sort.ahead, Array.getElem?_modify, hb, onCells]
theorem grownBy_sortedG {w : World} {g n : Nat} {os : Array Obj} (d : Array α) : w.grownBy (grow (putRow enc (Sort.ahead w n) g 0 d) os) (some g) := by
  refine ⟨rfl, rfl, rfl, by simp, fun k hk hne => ?_⟩
  rw [heap_grow_old _ _ (by simpa using hk)]
  have : g ≠ k := fun e => hne (by rw [e])
  simp [putRow, mapBlock, Sort.ahead, Array.getElem?_modify, this]
theorem take_putCellsG (cur : Array Value) (d : Array α) (h : d.size ≤ cur.size) : (putCells enc 0 d cur).toList.take d.size = d.toList.map enc := by
  apply List.ext_getElem?
  intro j
  by_cases hj : j < d.size
  · rw [List.getElem?_take_of_lt hj, Array.getElem?_toList]
    simp [putCells, hj, show j < cur.size by omega]
  · rw [List.getElem?_take_eq_none (by omega), List.getElem?_eq_none (by simp; omega)]
theorem ownsRow_sortedG {w : World} {base g cap n : Nat} {e : TypeId} {os : Array Obj} {vs : List Value} {d : Array α} (h : w.ownsRow base e 1 (.slice (some ⟨g, 0, none⟩) vs.length cap) vs.length vs) (hl : d.size = vs.length) :
    (grow (putRow enc (Sort.ahead w n) g 0 d) os).ownsRow base e 1 (.slice (some ⟨g, 0, none⟩) vs.length cap) vs.length (d.toList.map enc) := by
  rcases h.2 with ⟨h0, h1⟩ | ⟨g', cap', cur, hv, hbase, hb, h1, h2, h3, h4⟩
  · cases h0
  · injection hv with hA _ hc
    injection hA with hA
    injection hA with hA
    subst hA
    subst hc
    exact ⟨by simp [hl], .inr ⟨g, cap, _, rfl, hbase, heap_sortedG d hb, h1, h2, by simp [putCells, h3], by rw [Nat.mul_one, ← hl]; exact take_putCellsG cur d (by omega)⟩⟩
end
theorem lessT_swo {α : Type} (f : α → List Int) : SWO (fun x y : α => lessT (f x) (f y)) where
  irrefl x := by
    cases h : lessT (f x) (f x) with
    | false => rfl
    | true => exact absurd h (lessT_irr _)
  trans x y z h1 h2 := lessT_trans _ _ _ h1 h2
  ntrans x y z h1 h2 := by
    cases h : lessT (f x) (f z) with
    | false => rfl
    | true =>
      rcases lessT_total (f x) (f y) with e | e | e
      · rw [← e, h] at h2; cases h2
      · rw [e] at h1; cases h1
      · rw [lessT_trans _ _ _ e h] at h2; cases h2
theorem less_cmp (p q : List Int) : decide (cmpT p q < 0) = lessT p q := by
  rw [Bool.eq_iff_iff, decide_eq_true_iff]
  exact cmpT_lt
theorem rd_frame {w W : World} {B : Option Addr} {n blk : Nat} {xs : List Int} (h : RdL RI w B n xs) (hne : ∀ b o, B = some ⟨b, o, none⟩ → b ≠ blk) (hf : ∀ b k u, b ≠ blk → w.cell? ⟨b, k, none⟩ = some u → W.cell? ⟨b, k, none⟩ = some u) : RdL RI W B n xs := by
  refine ⟨h.1, h.2.1, fun k x hx => ?_⟩
  obtain ⟨b, o, v, hA, hc, hr⟩ := h.2.2 k x hx
  exact ⟨b, o, v, hA, hf b _ v (hne b o hA) hc, hr⟩
theorem cmpEnter (args : Array Value) (w : World) : (callFunc 57 args).run Tryz.prog w = .ok (.enter 57 args) w := rfl
theorem lessEnter (args : Array Value) (w : World) : (callFunc 78 args).run Tryz.prog w = .ok (.enter 78 args) w := rfl
/-- A comparer of rows, on those of which G holds. -/
structure Cmp (f : FuncId) (G : List Int → Prop) (cmp : List Int → List Int → Int) (lt : List Int → List Int → Bool) : Prop where
  ent : ∀ (args : Array Value) (w : World), (callFunc f args).run Tryz.prog w = .ok (.enter f args) w
  less : ∀ {p q}, G p → G q → decide (cmp p q < 0) = lt p q
  swo : ∀ {α : Type} (h : α → List Int), SWO fun x y : α => lt (h x) (h y)
  run : ∀ (A B : Option Addr) (n m c d : Nat) (xs ys : List Int) (w : World), G xs → G ys → RdL RI w A n xs → RdL RI w B m ys → Calls Tryz.prog f #[.slice A n c, .slice B m d] w (Qt w (.int .i64 (cmp xs ys)))
theorem less_rows {f : FuncId} (e1 : ∀ (args : Array Value) (w : World), (callFunc f args).run Tryz.prog w = .ok (.enter f args) w) {cv : Int} {lt : Bool} (HLL : Hid (decide (cv < 0) = lt)) (g c q Bo Br : Nat) (W : World) (i j : Nat) (hi : i < q) (hj : j < q) (_hq : q ≤ 1099511627776) (B1 B2 : Option Addr) (n1 c1 n2 c2 : Nat)
    (ho : W.cell? ⟨Bo, 0, none⟩ = some (.func (.func f) #[] #[])) (hr : W.cell? ⟨Br, 0, none⟩ = some (.slice (some ⟨g, 0, none⟩) q c))
    (ci : W.cell? ⟨g, i, none⟩ = some (.slice B1 n1 c1)) (cj : W.cell? ⟨g, j, none⟩ = some (.slice B2 n2 c2)) (hC : Calls Tryz.prog f #[.slice B1 n1 c1, .slice B2 n2 c2] W.drew (Qt W.drew (.int .i64 cv))) :
    Calls Tryz.prog 78 #[.int .i64 i, .int .i64 j, .pointer (some ⟨Bo, 0, none⟩), .pointer (some ⟨Br, 0, none⟩)] W fun e w' => e = .returned (.bool lt) ∧ ∃ m, w' = W.drewN m := by
  have hi0 : (0 : Int) ≤ (i : Int) := by omega
  have hj0 : (0 : Int) ≤ (j : Int) := by omega
  have hi1 : (i : Int) < (q : Int) := by omega
  have hj1 : (j : Int) < (q : Int) := by omega
  go_enter Tryz.func78, Tryz.ntmps78
  go_wp2
  go_region_held3 (fun w' => w'.cell? ⟨Bo, 0, none⟩ = some (.func (.func f) #[] #[]) ∧ w'.cell? ⟨Br, 0, none⟩ = some (.slice (some ⟨g, 0, none⟩) q c) ∧ w'.cell? ⟨g, i, none⟩ = some (.slice B1 n1 c1) ∧ w'.cell? ⟨g, j, none⟩ = some (.slice B2 n2 c2)) (first | go_keep | exact ⟨ho, hr, ci, cj⟩) (first | (go_at_fn f; refine hC.mono ?_; rintro e w' ⟨rfl, m, rfl⟩))
  all_goals
    go_wp2
    go_ret
    exact ⟨ret_bool HLL.out, m + 1, by simp [World.drewN, Nat.add_comm, Nat.add_left_comm]⟩
noncomputable def eT : TypeInfo := (Tryz.prog.info? 27).get (by kernel_rfl)
theorem eT_K (n : Nat) (h2 : 2 ≤ n) : Lib.swapperK n eT 23 = 9 := by
  have a : eT.hasPointers = true := by kernel_rfl
  have b : eT.bytes = 24 := by kernel_rfl
  have c : (n == 0) = false := by simp; omega
  have d : (n == 1) = false := by simp; omega
  simp [Lib.swapperK, a, b, c, d]
noncomputable def sT : TypeInfo := (Tryz.prog.info? 33).get (by kernel_rfl)
/-- sort.SliceStable at two elements or more. -/
theorem sliceStable_s {α : Type} [Inhabited α] {enc : α → Value} {lt : α → α → Bool} (hO : SWO lt) (h1 : ∀ x, (enc x).oneCell' = true) (lb : Array Value) (blk off c : Nat) (d : Array α) (h2 : 2 ≤ d.size) (hsm : d.size ≤ 1099511627776) (w : World)
    (hless : LessReads Tryz.prog 78 lb enc lt blk off d.size w) (hH : Holds enc w blk off d) (hblk : blk < w.heap.size) :
    Calls Tryz.prog 77 #[.iface 33 (.slice (some ⟨blk, off, none⟩) d.size c), .func (.func 78) #[] lb] w fun e w' =>
      e = .returned (.tuple #[]) ∧ ∃ d', SW enc w blk off d' w' ∧ PermIn 0 d.size d d' ∧ SortedIn lt 0 d.size d' := by
  have key := Any.sort_SliceStable_of_stable Tryz.laysGt8 33 27 sT eT (by kernel_rfl) (by kernel_rfl) (by kernel_rfl) (by kernel_rfl) 23 (fun _ => by kernel_rfl) (some ⟨blk, off, none⟩) d.size c (by omega) 119 (by rw [eT_K _ h2]; kernel_rfl) (.func 78) #[] lb w
    (fun w' => ∃ d', SW enc w blk off d' w' ∧ PermIn 0 d.size d d' ∧ SortedIn lt 0 d.size d') ?_
  · exact key
  have hB : sliceBound Tryz.prog 27 eT 23 (some ⟨blk, off, none⟩) d.size c = #[.slice (some ⟨blk, off, none⟩) d.size c, typeHandle Tryz.prog 27] := by
    unfold sliceBound; rw [if_neg (swapperK_gt _ _ _ h2)]
  obtain ⟨os0, hW⟩ : ∃ os0, stableWorld Tryz.prog Tryz.laysGt8_ren 33 (some ⟨blk, off, none⟩) d.size c w = grow w os0 := ⟨_, by unfold stableWorld; rw [alloc_eq_grow, alloc_eq_grow, grow_grow]⟩
  rw [hB, hW]
  have S0 : SW enc w blk off d (grow w os0) := ⟨0, os0, by unfold sortWorld; rw [show putRow enc (Sort.ahead w 0) blk off d = w from putRow_self _ _ _ _ _ hH]⟩
  have C : SCtx Tryz.prog enc lt 78 lb 119 #[.slice (some ⟨blk, off, none⟩) d.size c, typeHandle Tryz.prog 27] blk off d (grow w os0) :=
    ⟨lessEnter, hless.grow hblk os0, swapSwaps_of_literal (P := Tryz.prog) _ 119 (fun args W => run_callFunc_extern (by first | exact Tryz.func119) (by kernel_rfl) (by kernel_rfl) (by kernel_rfl) (e := Extern.ReflectliteSwapper.swap false) (by kernel_rfl) args W) 27 eT (by kernel_rfl) (by kernel_rfl) (fun _ => by kernel_rfl) enc h1 blk off d.size c,
      holds_grow enc w _ blk off d hblk hH, by rw [size_grow]; omega, by omega⟩
  exact (stable_s (P := Tryz.prog) (ρ := Tryz.laysGt8_ren) hO { Tryz.laysGt8 with } C hsm).mono fun _ _ ⟨e1, d', S', P', Q'⟩ => ⟨e1, d', swTr S0 S' hblk P'.1, P', Q'⟩
theorem own_neR {w : World} {lo g : Nat} {v : Value} {n cap m : Nat} {xs ys : List Value} (h : w.ownsRow lo 3 1 v n xs) (h' : w.ownsRow lo 27 1 (.slice (some ⟨g, 0, none⟩) m cap) m ys) : ∀ b, v.ownBlock = some b → b ≠ g := by
  intro b hb e
  subst e
  rcases h.2 with ⟨rfl, -⟩ | ⟨g1, cap1, cur1, rfl, -, hh, -⟩
  · simp [Value.ownBlock] at hb
  · have : g1 = b := by simpa [Value.ownBlock] using hb
    subst this
    rcases h'.2 with ⟨h0, -⟩ | ⟨g2, cap2, cur2, hv, -, hh2, -⟩
    · cases h0
    · injection hv with hA _ _
      injection hA with hA
      injection hA with hA
      subst hA
      rw [hh] at hh2
      injection hh2 with hh2
      injection hh2 with _ h5
      exact absurd h5 (by decide)
/-- What the sort hands back. -/
def SrtF (lt : List Int → List Int → Bool) (lo : Nat) (w : World) (A : Option Addr) (q c : Nat) (xss : List (List Int)) (e : Ending) (w' : World) : Prop :=
  e = .returned (.tuple #[]) ∧ ∃ yss, OwM 27 3 (.int .i64) lo w' (.slice A q c) q yss ∧ yss.Perm xss ∧ yss.Pairwise (fun p r => lt r p = false) ∧ Below lo w w'
abbrev SrtE (lo : Nat) (w : World) (A : Option Addr) (q c : Nat) (xss : List (List Int)) (e : Ending) (w' : World) : Prop := SrtF lessT lo w A q c xss e w'
section
variable {f : FuncId} {G : List Int → Prop} {cmp : List Int → List Int → Int} {ls : List Int → List Int → Bool} (M : Cmp f G cmp ls)
include M
theorem sortBig (lo g c q : Nat) (xss : List (List Int)) (hG : ∀ xs ∈ xss, G xs) (w W2 : World) (Bo Br : Nat) (hM : OwM 27 3 (.int .i64) lo w (.slice (some ⟨g, 0, none⟩) q c) q xss) (hlo : lo ≤ w.heap.size) (hbd : ∀ xs ∈ xss, ∀ x ∈ xs, ∀ wz : World, RI wz (.int .i64 x) x) (h2 : 2 ≤ q) (hq : q ≤ 1100)
    (T2 : Below w.heap.size w W2) (ho : W2.cell? ⟨Bo, 0, none⟩ = some (.func (.func f) #[] #[])) (hr : W2.cell? ⟨Br, 0, none⟩ = some (.slice (some ⟨g, 0, none⟩) q c)) (hBo : Bo ≠ g) (hBr : Br ≠ g) :
    Calls Tryz.prog 77 #[.iface 33 (.slice (some ⟨g, 0, none⟩) q c), .func (.func 78) #[] #[.pointer (some ⟨Bo, 0, none⟩), .pointer (some ⟨Br, 0, none⟩)]] W2 (SrtF ls lo w (some ⟨g, 0, none⟩) q c xss) := by
  obtain ⟨vs, m1, m2, m3, m4⟩ := hM
  have hl : vs.length = q := by have := m1.1; simpa using this
  have hzl : (vs.zip xss).length = q := by rw [List.length_zip, m2, Nat.min_self, ← m2, hl]
  have hx : ∀ t ∈ vs.zip xss, ∃ k, vs[k]? = some t.1 ∧ xss[k]? = some t.2 := fun t ht => by
    obtain ⟨k, hk, e⟩ := List.getElem_of_mem ht
    rw [List.getElem_zip] at e
    have k1 : k < vs.length := by rw [List.length_zip] at hk; omega
    have k2 : k < xss.length := by rw [List.length_zip] at hk; omega
    exact ⟨k, by rw [← e]; exact List.getElem?_eq_getElem k1, by rw [← e]; exact List.getElem?_eq_getElem k2⟩
  have good : ∀ t ∈ vs.zip xss, ∃ B n c', t.1 = .slice B n c' ∧ RdL RI w B n t.2 ∧ (∀ b o, B = some ⟨b, o, none⟩ → b ≠ g) ∧ w.ownsRow lo 3 1 t.1 t.2.length (t.2.map (.int .i64)) ∧ G t.2 := fun t ht => by
    obtain ⟨k, k1, k2⟩ := hx t ht
    have ho := m3 k _ _ k1 k2
    obtain ⟨B, c', e⟩ := own_slice ho
    have hne := own_neR ho m1
    rw [e] at ho
    refine ⟨B, t.2.length, c', e, rd_of_own (R := RI) ho fun x hx' => hbd _ (List.mem_of_getElem? k2) x hx' w, fun b o hB => ?_, by rw [e]; exact ho, hG _ (List.mem_of_getElem? k2)⟩
    rcases ho.2 with ⟨h0, -⟩ | ⟨g1, cap1, cur1, hv, -⟩
    · injection h0 with h0 _ _
      rw [h0] at hB
      cases hB
    · injection hv with hA _ _
      rw [hA] at hB
      injection hB with hB
      injection hB with hB _
      subst hB
      exact hne g1 (by rw [e, hA]; rfl)
  let α := {t : Value × List Int // t ∈ vs.zip xss}
  have h0 : 0 < (vs.zip xss).length := by omega
  letI : Inhabited α := ⟨⟨(vs.zip xss)[0], List.getElem_mem h0⟩⟩
  let enc : α → Value := fun t => t.1.1
  let lt : α → α → Bool := fun x y => ls x.1.2 y.1.2
  let d : Array α := (vs.zip xss).attach.toArray
  have hds : d.size = q := by show ((vs.zip xss).attach.toArray).size = q; simp [hl, ← m2]
  have hd : ∀ j, j < q → ∃ (hj : j < (vs.zip xss).length), (d[j]!).1 = (vs.zip xss)[j] := fun j hj => by
    refine ⟨by omega, ?_⟩
    rw [getElem!_pos d j (by rw [hds]; exact hj)]
    show ((vs.zip xss).attach.toArray[j]'_).1 = _
    simp
  have ROW2 := own_next m1 T2
  rw [← hl] at ROW2
  have hblk : g < W2.heap.size := by
    have := (m1.lt g rfl).2
    have := T2.size
    omega
  have hH : Holds enc W2 g 0 d := fun j hj => by
    rw [hds] at hj
    obtain ⟨hj', e⟩ := hd j hj
    refine ⟨?_, ROW2.frozenAt _⟩
    rw [ROW2.cellAt _ (by omega), Nat.zero_add]
    show vs[j]? = some (d[j]!).1.1
    rw [e, List.getElem_zip]
    exact List.getElem?_eq_getElem (by omega)
  have hless : LessReads Tryz.prog 78 #[.pointer (some ⟨Bo, 0, none⟩), .pointer (some ⟨Br, 0, none⟩)] enc lt g 0 d.size W2 := by
    intro m os dk hs i j hi hj
    have hf : ∀ b k u, b ≠ g → W2.cell? ⟨b, k, none⟩ = some u → (sortWorld enc W2 g 0 m dk os).cell? ⟨b, k, none⟩ = some u := fun b k u hb hc => swCell ⟨m, os, rfl⟩ hb hc
    have hHd := holds_sortWorld enc W2 g 0 m d dk os hblk hH hs
    obtain ⟨B1, n1, c1, e1, r1, q1, -, G1⟩ := good _ (dk[i]!).2
    obtain ⟨B2, n2, c2, e2, r2, q2, -, G2⟩ := good _ (dk[j]!).2
    have ci := (hHd i (by omega)).1
    have cj := (hHd j (by omega)).1
    rw [Nat.zero_add] at ci cj
    have R1 := rd_frame (r1.next stab_RI T2) q1 hf
    have R2 := rd_frame (r2.next stab_RI T2) q2 hf
    exact less_rows M.ent (Lib.hid (M.less G1 G2)) g c q Bo Br _ i j (by omega) (by omega) (by omega) B1 B2 n1 c1 n2 c2 (hf _ _ _ hBo ho) (hf _ _ _ hBr hr) (by rw [ci]; show some (dk[i]!).1.1 = _; rw [e1]) (by rw [cj]; show some (dk[j]!).1.1 = _; rw [e2]) (M.run B1 B2 n1 n2 c1 c2 _ _ _ G1 G2 (R1.same stab_RI fun _ _ => rfl) (R2.same stab_RI fun _ _ => rfl))
  have hO : SWO lt := M.swo fun t : α => t.1.2
  have key := sliceStable_s (enc := enc) (lt := lt) hO (fun t => by obtain ⟨B, n, c', e, -⟩ := good _ t.2; show t.1.1.oneCell' = true; rw [e]; rfl) #[.pointer (some ⟨Bo, 0, none⟩), .pointer (some ⟨Br, 0, none⟩)] g 0 c d (by omega) (by omega) W2 hless hH hblk
  rw [hds] at key
  refine key.mono ?_
  rintro e w' ⟨rfl, d', ⟨n, os, rfl⟩, P, Q⟩
  have hs' : d'.size = q := by rw [P.1, hds]
  have hperm : d'.toList.Perm d.toList := by
    have := P.2.2
    rwa [← hds, show d'.extract 0 d.size = d' by rw [← P.1]; simp, show d.extract 0 d.size = d by simp] at this
  have hdm1 : d.toList.map enc = vs := by
    apply List.ext_getElem
    · rw [List.length_map, Array.length_toList, hds, hl]
    · intro j h1' h2'
      have hj : j < q := by omega
      obtain ⟨hj', e⟩ := hd j hj
      rw [List.getElem_map]
      have : (d.toList[j]'(by simpa using h1')) = d[j]! := by rw [getElem!_pos d j (by omega)]; simp
      rw [this]
      show (d[j]!).1.1 = _
      rw [e, List.getElem_zip]
  have hdm2 : d.toList.map (fun t : α => t.1.2) = xss := by
    apply List.ext_getElem
    · rw [List.length_map, Array.length_toList, hds, ← m2, hl]
    · intro j h1' h2'
      have hj : j < q := by omega
      obtain ⟨hj', e⟩ := hd j hj
      rw [List.getElem_map]
      have : (d.toList[j]'(by simpa using h1')) = d[j]! := by rw [getElem!_pos d j (by omega)]; simp
      rw [this, e, List.getElem_zip]
  have hg2 := grownBy_sortedG (enc := enc) (w := W2) (g := g) (n := n) (os := os) d'
  have ROW3 := ownsRow_sortedG (enc := enc) (n := n) (os := os) (d := d') ROW2 (by rw [hs', hl])
  rw [hl] at ROW3
  refine ⟨rfl, d'.toList.map (fun t : α => t.1.2), ⟨d'.toList.map enc, ROW3, by simp, ?_, ?_⟩, ?_, ?_, ?_⟩
  · intro k u xs hu hxs
    rw [List.getElem?_map] at hu hxs
    cases hk : d'.toList[k]? with
    | none => rw [hk] at hu; cases hu
    | some t =>
      rw [hk] at hu hxs
      injection hu with hu
      injection hxs with hxs
      subst hu
      subst hxs
      obtain ⟨B, n1, c1, e1, -, -, ow, -⟩ := good _ t.2
      have hne := own_neR ow m1
      refine own_same (own_next ow T2) fun b hb => hg2.block b ?_ fun e => ?_
      · have := (ow.lt b hb).2
        have := T2.size
        omega
      · injection e with e
        exact hne b hb e
  · have := (hperm.map enc).filterMap Value.ownBlock
    rw [hdm1] at this
    exact this.nodup_iff.2 m4
  · have := hperm.map (fun t : α => t.1.2)
    rwa [hdm2] at this
  · rw [List.pairwise_iff_getElem]
    intro i j hi hj hij
    rw [List.length_map, Array.length_toList] at hi hj
    have := Q i j (Nat.zero_le _) hij (by omega)
    rw [getElem!_pos d' i hi, getElem!_pos d' j hj] at this
    simpa using this
  · have hT : Below lo w W2 := ⟨T2.os, T2.tape, T2.output, T2.size, fun b hb => T2.block b (by omega)⟩
    exact hT.grown hg2 (by have := T2.size; omega) fun k hk => by injection hk with hk; subst hk; exact (m1.lt g rfl).1
omit M in
theorem sortTiny (lo q c : Nat) (A : Option Addr) (xss : List (List Int)) (w W2 : World) (lb : Array Value) (hM : OwM 27 3 (.int .i64) lo w (.slice A q c) q xss) (hlo : lo ≤ w.heap.size) (hq : q ≤ 1) (T2 : Below w.heap.size w W2) :
    Calls Tryz.prog 77 #[.iface 33 (.slice A q c), .func (.func 78) #[] lb] W2 (SrtF ls lo w A q c xss) := by
  have hxl : xss.length = q := by obtain ⟨vs, m1, m2, -⟩ := hM; rw [← m2]; have := m1.1; simpa using this
  have hlo2 : Below lo w W2 := ⟨T2.os, T2.tape, T2.output, T2.size, fun b hb => T2.block b (by omega)⟩
  have fin : ∀ os, SrtF ls lo w A q c xss (.returned (.tuple #[])) (grow W2 os) := fun os => by
    have hb : Below W2.heap.size W2 (grow W2 os) := ⟨rfl, rfl, rfl, by rw [size_grow]; omega, fun b hb => heap_grow_old _ _ hb⟩
    refine ⟨rfl, xss, (hM.next T2).next hb, List.Perm.refl _, ?_, hlo2.trans ⟨hb.os, hb.tape, hb.output, hb.size, fun b h => hb.block b (by have := T2.size; omega)⟩⟩
    match xss, hxl with
    | [], _ => exact List.Pairwise.nil
    | [p], _ => exact List.pairwise_singleton _ _
    | p :: r :: l, h => simp at h; omega
  rcases Nat.lt_or_ge q 1 with h | h
  · obtain rfl : q = 0 := by omega
    exact (Any.sort_SliceStable_tiny (P := Tryz.prog) Tryz.laysGt8 33 27 sT eT (by kernel_rfl) (by kernel_rfl) (by kernel_rfl) (by kernel_rfl) 23 (fun _ => by kernel_rfl) A 0 c (by omega) 111 (by kernel_rfl) (.func 78) #[] lb W2).mono fun _ _ ⟨e1, os, e2⟩ => by rw [e1, e2]; exact fin os
  · obtain rfl : q = 1 := by omega
    exact (Any.sort_SliceStable_tiny (P := Tryz.prog) Tryz.laysGt8 33 27 sT eT (by kernel_rfl) (by kernel_rfl) (by kernel_rfl) (by kernel_rfl) 23 (fun _ => by kernel_rfl) A 1 c (by omega) 112 (by kernel_rfl) (.func 78) #[] lb W2).mono fun _ _ ⟨e1, os, e2⟩ => by rw [e1, e2]; exact fin os
theorem sortRows_of (lo : Nat) (A : Option Addr) (c q : Nat) (xss : List (List Int)) (hG : ∀ xs ∈ xss, G xs) (w : World) (hM : OwM 27 3 (.int .i64) lo w (.slice A q c) q xss) (hlo : lo ≤ w.heap.size) (hbd : ∀ xs ∈ xss, ∀ x ∈ xs, ∀ wz : World, RI wz (.int .i64 x) x) (hq : q ≤ 1100) :
    Calls Tryz.prog 56 #[.slice A q c, .func (.func f) #[] #[]] w (SrtF ls lo w A q c xss) := by
  obtain ⟨w2, hw2⟩ : ∃ w2, w2 = (w.alloc (.cells #[.slice A q c] 33)).alloc (.cells #[.func (.func f) #[] #[]] 74) := ⟨_, rfl⟩
  have T2 : Below w.heap.size w w2 := by rw [hw2]; exact (below_box w _).trans ⟨rfl, rfl, rfl, by simp, fun b hb => by rw [Below.heap_alloc _ _ b (by simp; omega)]⟩
  have hr : w2.cell? ⟨w.heap.size, 0, none⟩ = some (.slice A q c) := by rw [hw2]; exact cell_new2 _ _ rfl
  have ho : w2.cell? ⟨w.heap.size + 1, 0, none⟩ = some (.func (.func f) #[] #[]) := by rw [hw2]; exact cell_new _ (by simp)
  have key : Calls Tryz.prog 77 #[.iface 33 (.slice A q c), .func (.func 78) #[] #[.pointer (some ⟨w.heap.size + 1, 0, none⟩), .pointer (some ⟨w.heap.size, 0, none⟩)]] w2 (SrtF ls lo w A q c xss) := by
    rcases Nat.lt_or_ge 1 q with h | h
    · obtain ⟨g, hA, hg⟩ : ∃ g, A = some ⟨g, 0, none⟩ ∧ g < w.heap.size := by
        obtain ⟨vs, m1, -⟩ := hM
        rcases m1.2 with ⟨h0, h1⟩ | ⟨g, cap, cur, hv, hbs, hb, -⟩
        · omega
        · injection hv with hA _ _
          exact ⟨g, hA, (Array.getElem?_eq_some_iff.1 hb).1⟩
      subst hA
      exact sortBig M lo g c q xss hG w w2 _ _ hM hlo hbd h hq T2 ho hr (by omega) (by omega)
    · exact sortTiny lo q c A xss w w2 _ hM hlo h T2
  have HW := Lib.hid hw2
  clear hw2 hr ho T2
  go_enter Tryz.func56, Tryz.ntmps56
  go_wp2_with fail
  rw [← HW.out]
  go_wp2_with (go_at_call 77; refine key.mono ?_; rintro e w' ⟨rfl, H⟩)
  go_end0
  exact ⟨rfl, H⟩
end
theorem cmpTerms : Cmp 57 (fun _ => True) cmpT lessT := ⟨cmpEnter, fun _ _ => less_cmp _ _, lessT_swo, fun A B n m c d xs ys w _ _ h h' => compareTerms_any A B n m c d xs ys w h h'⟩
theorem sortRows_any (lo : Nat) (A : Option Addr) (c q : Nat) (xss : List (List Int)) (w : World) (hM : OwM 27 3 (.int .i64) lo w (.slice A q c) q xss) (hlo : lo ≤ w.heap.size) (hbd : ∀ xs ∈ xss, ∀ x ∈ xs, ∀ wz : World, RI wz (.int .i64 x) x) (hq : q ≤ 1100) :
    Calls Tryz.prog 56 #[.slice A q c, .func (.func 57) #[] #[]] w (SrtE lo w A q c xss) := sortRows_of cmpTerms lo A c q xss (fun _ _ => trivial) w hM hlo hbd hq
end
theorem res_row_tmpF {P : Program} {fn : Func} {p u : Tmp} {ty : TypeId} (h : fn.results = #[.cell p ty, .tmp u]) (tmps : Array Value) (w : World) (g : Nat) (t : TypeId) (cs : Array Value) (fr : Nat × Nat) (d : TypeDesc) (b : Value)
    (hp : tmps.getD p undef = .pointer (some ⟨g, 0, none⟩)) (hg : w.heap[g]? = some (.cells cs t fr))
    (hu : P.underlying ty = some d) (hd : (match d with | .struct _ | .array _ _ => true | _ => false) = true) (hi : (P.info? ty).map (·.size) = some cs.size) (hb : tmps.getD u undef = b) :
    (results fn tmps).run P w = .ok (.tuple #[.agg cs, b]) w := by
  rw [results_cell_tmp h, hp, hb]
  simp [asAddr, Result.andThen, run_loadVar_row w g t ty cs fr d hg hu hd hi]
theorem run_append_where {P : Program} (w : World) (base : Nat) (t ty e : TypeId) (i : TypeInfo) (z : Value) (size bytes : Nat) (ht : P.underlying t = some (.slice e)) (hi : P.info? e = some i) (hz : i.zero = some z)
    (hsize : i.size = size) (hby : i.bytes = bytes) (hzs : z.cells.size = size) (hsz : 0 < size)
    (v : Value) (n : Nat) (xs : List Value) (hown : w.ownsRow base e size v n xs)
    (a : Addr) (m c : Nat) (news : List Value) (hl : news.length = m * size) (hnews : ∀ j u, news[j]? = some u → w.cell? (a.add j) = some u) (h1 : ∀ u ∈ news, u.oneCell' = true)
    (h63 : n + m ≤ maxLen) (hbytes : (n + m) * bytes ≤ 140737488355328) (v' : Value) (w' : World) (hrun : (Builtin.append_ #[t, t] ty #[v, .slice (some a) m c]).run P w = .ok v' w') :
    v'.ownBlock = v.ownBlock ∨ v'.ownBlock = some w.heap.size := by
  subst hsize
  subst hby
  have hsmall : n + m ≤ 9223372036854775807 := by simp only [maxLen] at h63; omega
  rcases hown.2 with ⟨rfl, rfl⟩ | ⟨g, cap, cur, rfl, hbg, hg, hnc, hcm, hcs, htake⟩
  · by_cases hm : m = 0
    · subst hm
      have hn : news = [] := List.eq_nil_of_length_eq_zero (by simpa using hl)
      subst hn
      have : (Builtin.append_ #[t, t] ty #[.slice none 0 0, .slice (some a) 0 c]).run P w = .ok (.slice none 0 0) w := by
        simp [Builtin.append_, run_underlying ht, sizeOf, typeInfo, hi, Builtin.lenOf, Builtin.firstCells, loadCells, loadCellsFrom]
      rw [this] at hrun
      injection hrun with h1 h2
      subst h1
      exact .inl rfl
    · have hr := run_append_nil (P := P) w t ty e i z ht hi hz a m c news hl hnews (by omega) (by omega) (by have hb := hbytes; simp only [Nat.zero_add] at hb; omega)
      rw [hr] at hrun
      injection hrun with h1 h2
      subst h1
      exact .inr rfl
  · by_cases hroom : n + m ≤ cap
    · have hfit : n * i.size + news.length ≤ cur.size := by rw [hl, hcs, ← Nat.add_mul]; exact Nat.mul_le_mul_right _ hroom
      have hr := run_append_room (P := P) w t ty e i ht hi g n cap cur hg a m c news hl hnews h1 hroom hfit
      rw [hr] at hrun
      injection hrun with h1 h2
      subst h1
      exact .inl rfl
    · have holds : ∀ j u, xs[j]? = some u → w.cell? ((⟨g, 0, none⟩ : Addr).add j) = some u := hown.cells (g := g) rfl
      have hr := run_append_grow (P := P) w t ty e i z ht hi hz ⟨g, 0, none⟩ n cap xs hown.1 holds a m c news hl hnews (by omega) (by omega) (growslice_fits (by omega) hbytes)
      rw [hr] at hrun
      injection hrun with h1 h2
      subst h1
      exact .inr rfl
/-- append, told where the row lies. -/
theorem wp_append_at {P : Program} (w : World) {o : Oper} {a : Act} {K : Act → World → Prop} {Q : Exit → Act → World → Prop} (s x : Operand) (t : TypeId)
    (ho : o.op = .call { callee := .builtin .append, args := #[s, x], argTypes := #[t, t] })
    (base : Nat) (e : TypeId) (i : TypeInfo) (z : Value) (size bytes : Nat) (ht : P.underlying t = some (.slice e)) (hi : P.info? e = some i) (hz : i.zero = some z)
    (hsize : i.size = size) (hby : i.bytes = bytes) (hzs : z.cells.size = size) (hsz : 0 < size)
    (v : Value) (n : Nat) (xs : List Value) (hs : a.eval s = v) (hown : w.ownsRow base e size v n xs)
    (ad : Addr) (m c : Nat) (news : List Value) (hx : a.eval x = .slice (some ad) m c) (hl : news.length = m * size) (hnews : ∀ j u, news[j]? = some u → w.cell? (ad.add j) = some u) (h1 : ∀ u ∈ news, u.oneCell' = true)
    (h63 : n + m ≤ maxLen) (hbytes : (n + m) * bytes ≤ 140737488355328) (hbase : base ≤ w.heap.size)
    (h : ∀ v' w', w'.ownsRow base e size v' (n + m) (xs ++ news) → w.grownBy w' v.ownBlock → (v'.ownBlock = v.ownBlock ∨ v'.ownBlock = some w.heap.size) → K (a.put o.dst v') w') : o.wp P a w K Q := by
  obtain ⟨v', w', hr, h2, h3, h4⟩ := run_append_own (P := P) w base t o.type e i z size bytes ht hi hz hsize hby hzs hsz v n xs hown ad m c news hl hnews h1 h63 hbytes hbase
  have h5 := run_append_where (P := P) w base t o.type e i z size bytes ht hi hz hsize hby hzs hsz v n xs hown ad m c news hl hnews h1 h63 hbytes v' w' hr
  unfold Oper.wp execOp
  simp only [ho, resolve, invoke, builtin, Sem.run_bind, Sem.run_pure, Result.andThen_ok, List.map_toArray, List.map_cons, List.map_nil, hs, hx, hr]
  exact h v' w' h2 h3 h5
theorem step_app1at {P : Program} (w0 : World) {ops : Array Oper} {o : Oper} {a : Act} {K : Act → World → Prop} {Q : Exit → Act → World → Prop} {E : Prop} (hgd : o.guard = none) (s x : Operand) (t e : TypeId)
    (ho : o.op = .call { callee := .builtin .append, args := #[s, x], argTypes := #[t, t] }) (z : Value) (bytes : Nat)
    (ht : P.underlying t = some (.slice e)) (hi : (P.info? e).map (fun i => (i.zero, i.size, i.bytes)) = some (some z, 1, bytes)) (hzs : z.cells.size = 1) (hbb : bytes ≤ 64)
    (base n c : Nat) (A : Option Addr) (xs : List Value) (hs : a.eval s = .slice A n c) (hown : w0.ownsRow base e 1 (.slice A n c) n xs) (u : Value) (h1 : u.oneCell' = true) (hx : a.eval x = .slice (some ⟨w0.heap.size, 0, none⟩) 1 1)
    (hn : n ≤ 1099511627776) (hbase : base ≤ w0.heap.size)
    (hK : ∀ A' c' w', w'.ownsRow base e 1 (.slice A' (n + 1) c') (n + 1) (xs ++ [u]) → w0.grownBy w' (Value.slice A n c).ownBlock → Below base w0 w' → ((Value.slice A' (n + 1) c').ownBlock = (Value.slice A n c).ownBlock ∨ (Value.slice A' (n + 1) c').ownBlock = some (w0.heap.size + 1)) → K (a.put o.dst (.slice A' (n + 1) c')) w') :
    if Region.wanted o (yielded ops a.tmps) = true then Oper.wp P o a (w0.alloc (.cells #[u] e)) K Q else E := by
  have hw : Region.wanted o (yielded ops a.tmps) = true := by simp [Region.wanted, hgd]
  rw [if_pos hw]
  obtain ⟨i, hi, hz, hsize, hby⟩ := info_parts hi
  have hbound : (n + 1) * bytes ≤ 140737488355328 := Nat.le_trans (Nat.mul_le_mul_left (n + 1) hbb) (by omega)
  refine wp_append_at (w0.alloc (.cells #[u] e)) s x t ho base e i z 1 bytes ht hi hz hsize hby hzs (by omega) (.slice A n c) n xs hs (hown.alloc _) ⟨w0.heap.size, 0, none⟩ 1 1 [u] hx rfl ?_ ?_ (by unfold maxLen; omega) hbound (by simp; omega) ?_
  · intro j v hj
    match j, hj with
    | 0, hj => simp at hj; subst hj; simp [Addr.add]
  · intro v hv; simp at hv; subst hv; exact h1
  · intro v' w' hown' hgrow hat
    obtain ⟨A', c', rfl⟩ := own_slice hown'
    have hg : w0.grownBy w' (Value.slice A n c).ownBlock :=
      ⟨hgrow.os, hgrow.tape, hgrow.output, Nat.le_trans (by simp) hgrow.size, fun k hk hne => (hgrow.block k (by simp; omega) hne).trans (Below.heap_alloc w0 _ k hk)⟩
    refine hK A' c' w' hown' hg ((Below.refl base w0).grown hg hbase (fun k hk => (hown.lt k hk).1)) ?_
    rcases hat with h | h
    · exact .inl h
    · exact .inr (by simpa using h)
theorem tk {P : Program} {md : Region.Mode} {ops : Array Oper} {Q : Exit → Act → World → Prop} {S : World → Prop} (i : Nat) (v : Value) {oi : Oper} {fuel : Nat} {listed : Array Bool} {a : Act} {w : World} (hi : ops[i]? = some oi) (hy : YieldsIf P ops S oi v a)
    (h : wpAnyH P md ops Q S fuel (listed.setIfInBounds i true) (a.put oi.dst v) w) (hs : Region.noSelect ops = true := by kernel_rfl) (hf : Region.free md ops listed i = true := by kernel_rfl) (hr : (Region.ready md ops listed).contains i = true := by kernel_rfl)
    (hQ : ∀ c a w, Q (.panic c) (a.put oi.dst v) w → Q (.panic c) a w := by exact fun _ _ _ h => h) (hS : S w := by assumption) : wpAnyH P md ops Q S (fuel + 1) listed a w := wpAnyH_take hi hs hf hr hQ hy hS h
theorem tp {P : Program} {md : Region.Mode} {ops : Array Oper} {Q : Exit → Act → World → Prop} {S : World → Prop} (i : Nat) (v : Value) {oi : Oper} {fuel : Nat} {listed : Array Bool} {a : Act} {w : World} (hi : ops[i]? = some oi)
    (h : wpAnyH P md ops Q S fuel (listed.setIfInBounds i true) (a.put oi.dst v) w) (hg : Region.wanted oi (yielded ops a.tmps) = true := by kernel_rfl) (he : ∀ w, S w → (execOp a.eval oi).run P w = .ok (.value v) w := by intro _ _; go_simp) (hs : Region.noSelect ops = true := by kernel_rfl) (hf : Region.free md ops listed i = true := by kernel_rfl) (hr : (Region.ready md ops listed).contains i = true := by kernel_rfl)
    (hQ : ∀ c a w, Q (.panic c) (a.put oi.dst v) w → Q (.panic c) a w := by exact fun _ _ _ h => h) (hS : S w := by assumption) : wpAnyH P md ops Q S (fuel + 1) listed a w := tk i v hi (.inl ⟨hg, he⟩) h hs hf hr hQ hS
theorem tu {P : Program} {md : Region.Mode} {ops : Array Oper} {Q : Exit → Act → World → Prop} {S : World → Prop} (i : Nat) {oi : Oper} {fuel : Nat} {listed : Array Bool} {a : Act} {w : World} (hi : ops[i]? = some oi)
    (h : wpAnyH P md ops Q S fuel (listed.setIfInBounds i true) (a.put oi.dst undef) w) (hg : Region.wanted oi (yielded ops a.tmps) = false := by kernel_rfl) (hs : Region.noSelect ops = true := by kernel_rfl) (hf : Region.free md ops listed i = true := by kernel_rfl) (hr : (Region.ready md ops listed).contains i = true := by kernel_rfl)
    (hQ : ∀ c a w, Q (.panic c) (a.put oi.dst undef) w → Q (.panic c) a w := by exact fun _ _ _ h => h) (hS : S w := by assumption) : wpAnyH P md ops Q S (fuel + 1) listed a w := tk i undef hi (.inr ⟨hg, rfl⟩) h hs hf hr hQ hS
section
variable {P : Program} {md : Region.Mode} {ops : Array Oper} {Q : Exit → Act → World → Prop} {S : World → Prop} {fuel : Nat} {listed : Array Bool} {a : Act} {w : World}
theorem r1 (i : Nat) {o : Oper} (ho : ops[i]? = some o) (h : ∀ K' : Act → World → Prop, Shut (∀ a w, S w → (S w → wpAnyH P md ops Q S fuel (listed.setIfInBounds i true) a w) → K' a w) → if Region.wanted o (yielded ops a.tmps) = true then Oper.wp P o a w K' Q else K' (a.put o.dst undef) w)
    (hr : Region.ready md ops listed = [i] := by kernel_rfl) : wpAnyH P md ops Q S (fuel + 1) listed a w := wpAnyH_ready hr (by simp) (.cons ho h .nil)
theorem r2 (i j : Nat) {o o' : Oper} (ho : ops[i]? = some o) (h : ∀ K' : Act → World → Prop, Shut (∀ a w, S w → (S w → wpAnyH P md ops Q S fuel (listed.setIfInBounds i true) a w) → K' a w) → if Region.wanted o (yielded ops a.tmps) = true then Oper.wp P o a w K' Q else K' (a.put o.dst undef) w)
    (ho' : ops[j]? = some o') (h' : ∀ K' : Act → World → Prop, Shut (∀ a w, S w → (S w → wpAnyH P md ops Q S fuel (listed.setIfInBounds j true) a w) → K' a w) → if Region.wanted o' (yielded ops a.tmps) = true then Oper.wp P o' a w K' Q else K' (a.put o'.dst undef) w)
    (hr : Region.ready md ops listed = [i, j] := by kernel_rfl) : wpAnyH P md ops Q S (fuel + 1) listed a w := wpAnyH_ready hr (by simp) (.cons ho h (.cons ho' h' .nil))
end
theorem al (w : World) (cs : Array Value) (t : TypeId) : ∃ x, Hid (x = w.alloc (.cells cs t)) ∧ Below w.heap.size w x ∧ Blk x w.heap.size t cs ∧ w.heap.size < x.heap.size :=
  ⟨_, Lib.hid rfl, below_box _ _, Blk.new _ _ _, (Blk.new w t cs).lt⟩
theorem zA {α : Type _} {xs : List α} {i : Nat} (h : i < xs.toArray.size) : xs.toArray[i] = xs[i]'(by simpa using h) := List.getElem_toArray h
theorem zB {α : Type _} {a : α} {l : List α} {h : 0 < (a :: l).length} : (a :: l)[0] = a := rfl
theorem zC {α : Type _} {a : α} {l : List α} {i : Nat} {h : i + 1 < (a :: l).length} : (a :: l)[i + 1] = l[i]'(Nat.lt_of_succ_lt_succ h) := rfl
theorem zD {α : Type _} (l : List α) (i : Nat) (a : α) : l.toArray.setIfInBounds i a = (l.set i a).toArray := List.setIfInBounds_toArray l i a
theorem zE {α : Type _} {x : α} {l : List α} {a : α} : (x :: l).set 0 a = a :: l := rfl
theorem zF {α : Type _} {x : α} {l : List α} {n : Nat} {a : α} : (x :: l).set (n + 1) a = x :: l.set n a := rfl
section
open Go.Sort
theorem fixs_succ (k : Nat) (p : List Int) : fixs (k + 1) p = fixs k p + if nmAt p k == k then 1 else 0 := by
  unfold fixs
  rw [List.range_succ, List.filter_append, List.length_append]
  congr 1
  simp only [List.filter_cons, List.filter_nil]
  split <;> rfl
theorem fixs_le (p : List Int) : ∀ k, fixs k p ≤ k
  | 0 => Nat.le_refl _
  | k + 1 => by
    have := fixs_le p k
    rw [fixs_succ]
    split <;> omega
theorem blockCount_any (A : Option Addr) (n c : Nat) (p : List Int) (w : World) (h : RdL RI w A n p) (P : ParP n p) (hn : n ≤ 1000) :
    Calls Tryz.prog 106 #[.slice A n c] w fun e w' => e = .returned (.int .i64 (fixs n p : Nat)) ∧ w = w' := by
  go_enter Tryz.func106, Tryz.ntmps106
  go_wp2
  go_loop [3, 8] (fun m i => ∃ k : Nat, k ≤ n ∧ i = .int .i64 k ∧ m = .int .i64 (fixs k p : Nat)) (fun _ i => n - (intOf i).toNat)
  case atStart => exact ⟨0, Nat.zero_le _, rfl, rfl⟩
  case round =>
    obtain ⟨k, hk, rfl, rfl⟩ := hrel
    have hfl := fixs_le p k
    by_cases hlt : k < n
    · have hk0 : (0 : Int) ≤ (k : Int) := by omega
      have hk1 : (k : Int) < (n : Int) := by omega
      obtain ⟨b, o, u, x, rfl, hc, ⟨rfl, -, -⟩, -, hx⟩ := h.at hlt
      have hp := (P.at hlt).1
      rw [hx] at hp
      injection hp with hp
      subst hp
      have HS := Lib.hid (fixs_succ k p)
      obtain ⟨f, HF⟩ : ∃ f, Hid (fixs k p = f) := ⟨_, Lib.hid rfl⟩
      obtain ⟨x, HX⟩ : ∃ x, Hid (nmAt p k = x) := ⟨_, Lib.hid rfl⟩
      rw [HF.out, HX.out] at HS
      rw [HX.out] at hc
      rw [HF.out] at hfl ⊢
      clear hx
      by_cases e : x = k
      · have hb : ((x : Int) == (k : Int)) = true := beq_iff_eq.2 (by omega)
        have HS2 : Hid (fixs (k + 1) p = f + 1) := by show _ = _; rw [HS.out, if_pos (by simpa using e)]
        clear e
        go_wp2
        go_round
        case rel => exact ⟨k + 1, by omega, by go_num, by rw [HS2.out]; go_num⟩
        case measure => simp [intOf]; try omega
      · have hb : ((x : Int) == (k : Int)) = false := beq_eq_false_iff_ne.2 (by omega)
        have HS2 : Hid (fixs (k + 1) p = f) := by show _ = _; rw [HS.out, if_neg (by simpa using e)]; rfl
        clear e
        go_wp2
        go_round
        case rel => exact ⟨k + 1, by omega, by go_num, by rw [HS2.out]⟩
        case measure => simp [intOf]; try omega
    · obtain rfl : k = n := by omega
      have hk1 : ¬ (k : Int) < (k : Int) := by omega
      go_wp2
      go_ret
      exact ⟨rfl, rfl⟩
def cgC (p q : List Int) : Int := if (fixs q.length q : Int) - (fixs p.length p : Nat) ≠ 0 then (fixs q.length q : Int) - (fixs p.length p : Nat) else lexL p q
theorem cgC_lt {p q : List Int} (h : p.length = q.length) : decide (cgC p q < 0) = cgL p q := by
  rw [Bool.eq_iff_iff, decide_eq_true_iff, cgL_iff]
  unfold cgC
  split
  · constructor
    · intro h1; exact .inl (by omega)
    · rintro (h1 | ⟨h1, -⟩) <;> omega
  · rename_i h0
    rw [lexL_lessL h, lessT_iff]
    constructor
    · intro h1; exact .inr ⟨by omega, .inr ⟨h, h1⟩⟩
    · rintro (h1 | ⟨h1, h2 | h2⟩)
      · omega
      · omega
      · exact h2.2
theorem compareCong_any (A B : Option Addr) (n c d : Nat) (p q : List Int) (w : World) (h : RdL RI w A n p) (h' : RdL RI w B n q) (P : ParP n p) (Q : ParP n q) (hn : n ≤ 1000) :
    Calls Tryz.prog 90 #[.slice A n c, .slice B n d] w (Qt w (.int .i64 (cgC p q))) := by
  have hp := fixs_le p n
  have hq := fixs_le q n
  have HC : Hid (cgC p q = if (fixs n q : Int) - (fixs n p : Nat) ≠ 0 then (fixs n q : Int) - (fixs n p : Nat) else lexL p q) := by show _ = _; unfold cgC; rw [P.1, Q.1]
  have H1 := Lib.hid (blockCount_any A n c p w h P hn)
  have H2 := Lib.hid (blockCount_any B n d q w h' Q hn)
  obtain ⟨x, HX⟩ : ∃ x, Hid (fixs n p = x) := ⟨_, Lib.hid rfl⟩
  obtain ⟨y, HY⟩ : ∃ y, Hid (fixs n q = y) := ⟨_, Lib.hid rfl⟩
  rw [HX.out, HY.out] at HC
  rw [HX.out] at hp H1
  rw [HY.out] at hq H2
  go_enter Tryz.func90, Tryz.ntmps90
  go_wp2_with fail
  refine H2.out.mono ?_
  rintro e w' ⟨rfl, rfl⟩
  go_wp2_with fail
  refine H1.out.mono ?_
  rintro e w' ⟨rfl, rfl⟩
  by_cases e : (y : Int) - (x : Int) = 0
  · have hb : ((y : Int) - (x : Int) != 0) = false := by rw [e]; rfl
    have HR : Hid (cgC p q = lexL p q) := by show _ = _; rw [HC.out, if_neg (by omega)]
    clear e
    go_wp2_with fail
    refine (compareLists_any _ _ _ _ _ _ _ _ _ h h').mono ?_
    rintro e w' ⟨rfl, z', rfl⟩
    go_wp2_with fail
    go_ret
    exact ⟨ret_int (by rw [HR.out]), (by first | exact Drawn.zero _ | exact Drawn.at_ _ _ | exact (Drawn.at_ _ _).more _ | exact ((Drawn.at_ _ _).more _).more _)⟩
  · have hb : ((y : Int) - (x : Int) != 0) = true := by rw [bne_iff_ne]; exact e
    have HR : Hid (cgC p q = (y : Int) - (x : Int)) := by show _ = _; rw [HC.out, if_pos e]
    clear e
    go_wp2_with fail
    go_ret
    exact ⟨ret_int (by rw [HR.out]), 0, rfl⟩
theorem cgL_swo {α : Type} (f : α → List Int) : SWO (fun x y : α => cgL (f x) (f y)) where
  irrefl x := by
    cases h : cgL (f x) (f x) with
    | false => rfl
    | true => exact absurd h (cgL_irr _)
  trans x y z h1 h2 := cgL_trans _ _ _ h1 h2
  ntrans x y z h1 h2 := by
    cases h : cgL (f x) (f z) with
    | false => rfl
    | true =>
      rcases cgL_total (f x) (f y) with e | e | e
      · rw [← e, h] at h2; cases h2
      · rw [e] at h1; cases h1
      · rw [cgL_trans _ _ _ e h] at h2; cases h2
theorem cgEnter (args : Array Value) (w : World) : (callFunc 90 args).run Tryz.prog w = .ok (.enter 90 args) w := rfl
theorem cmpCong {n : Nat} (hn : n ≤ 1000) : Cmp 90 (ParP n) cgC cgL := ⟨cgEnter, fun P Q => cgC_lt (P.1.trans Q.1.symm), cgL_swo, fun A B n' m' c d xs ys w P Q h h' => by
  obtain rfl : n' = n := by rw [← h.len]; exact P.1
  obtain rfl : m' = n' := by rw [← h'.len]; exact Q.1
  exact compareCong_any A B _ c d xs ys w h h' P Q hn⟩
theorem pr_of {n : Nat} {ops : List OpM} {p : List Int} {x y : Nat} (hn : 0 < n) (hops : ∀ o ∈ ops, OpP n o) (hx : x < n) (hy : y < n) (P : ParP n p) (hc : CompP n ops p) (hu : UL n ops (uniL (upTo n) x y) p) : IsPr n ops x y p := by
  refine ⟨cong_of P hc, hu.1 x y hx hy (uni_joins (up_par n) hx hy), fun q hq hr => hu.2 (rl q) (rl_eqv n q) ((cpt_iff hn hops (cong_par hq)).1 (cong_comp hq)) (uni_least (up_par n) (rl_eqv n q) (fun a b ha hb h => ?_) hx hy hr)⟩
  unfold rl at h
  rw [nmAt_up ha, nmAt_up hb] at h
  rw [h]
  rfl
def prT (n a b : Nat) (k : Nat) : List Int := if k = 0 then upTo n else uniL (upTo n) a b
theorem prT_par {n a b : Nat} (ha : a < n) (hb : b < n) (k : Nat) : ParP n (prT n a b k) := by
  unfold prT
  split
  · exact up_par n
  · exact uni_par (up_par n) ha hb
theorem congruenceOf_any (cs : List Value) (ops : List OpM) (n g a b : Nat) (w : World) (h : shAlgebra.rd w cs ((n : Int), ops)) (hx : AlgP ((n : Int), ops)) (h0 : w.cell? ⟨g, 0, none⟩ = some (.int .i64 (a : Int))) (h1 : w.cell? ⟨g, 1, none⟩ = some (.int .i64 (b : Int))) (ha : a < n) (hb : b < n) :
    Calls Tryz.prog 86 #[.agg cs.toArray, .slice (some ⟨g, 0, none⟩) 1 1] w fun e w' => ∃ A c p, e = .returned (.slice A n c) ∧ w'.ownsRow w.heap.size 3 1 (.slice A n c) n (ints p) ∧ IsPr n ops a b p ∧ Below w.heap.size w w' := by
  have hrd := h
  obtain ⟨B, m, d, rfl, -, -⟩ := rdAlgebra h
  have hops : ∀ o ∈ ops, OpP n o := hx.2.2.2
  have hn8 : n ≤ 8 := by have h1 : (n : Int) ≤ 8 := hx.2.1; omega
  have hn0 : 0 < n := by omega
  obtain ⟨w0, hw0, T0, hsz0, BP⟩ := boxes1 w #[.int .i64 (n : Int), .slice B m d] 26
  have HW0 := Lib.hid hw0
  have HX := Lib.hid hx
  have HOPS := Lib.hid hops
  have hrd0 := hrd
  have cP0 := BP.cell 0
  simp at cP0
  clear hw0 hrd h hx hops
  have HR0 := Lib.hid (shAlgebra.stab hrd0 T0.block)
  clear hrd0
  replace h0 := keepc T0 h0
  replace h1 := keepc T0 h1
  go_enter Tryz.func86, Tryz.ntmps86
  go_upto_region 1 with fail
  rw [← HW0.out]
  go_wp2_with fail
  refine (identityOf_any n w0 (by omega)).mono ?_
  rintro e w1 ⟨z, rfl, ho, hb1⟩
  have hz := (ho.lt z rfl).1
  clear cP0
  go_wp2_with fail
  go_loopw [13] (fun i wr => ∃ k : Nat, k ≤ 1 ∧ i = .int .i64 k ∧ wr.ownsRow w0.heap.size 3 1 (.slice (some ⟨z, 0, none⟩) n n) n (ints (prT n a b k)) ∧ Below w0.heap.size w0 wr) (fun i _ => 1 - (intOf i).toNat)
  case atStart => exact ⟨0, Nat.zero_le _, rfl, ho, hb1⟩
  case round =>
    clear ho hb1
    obtain ⟨k, hk, rfl, ho, hT⟩ := hrel
    by_cases hlt : k < 1
    · obtain rfl : k = 0 := by omega
      have k0 := keepc hT h0
      have k1 := keepc hT h1
      obtain ⟨w2, HW2, hb2, B2, hz2⟩ := al wr #[.int .i64 (a : Int), .int .i64 (b : Int)] 93
      have T2 := below_next hT hb2 rfl
      have c0 := B2.cell 0
      have c1 := B2.cell 1
      simp at c0 c1
      replace ho := own_next ho hb2
      have hzz := T2.size
      have HP : Hid (ParP n (prT n a b 0)) := prT_par ha hb 0
      clear B2 hz2 hb2
      go_upto_region 5 with fail
      rw [← HW2.out]
      go_wp2_with fail
      refine (unite_any z n n w0.heap.size (prT n a b 0) a b w2 ho HP.out ha hb (by omega)).mono ?_
      rintro e w3 ⟨rfl, ho3, hG⟩
      have hT3 := T2.grown hG hzz (fun j e => by injection e with e; omega)
      go_wp2_with fail
      go_roundw
      case rel => exact ⟨1, Nat.le_refl _, by go_num, ho3, hT3⟩
      case measure => simp [intOf]
    · obtain rfl : k = 1 := by omega
      have B2 := BP.next hT
      have c0 := B2.cell 0
      have c1 := B2.cell 1
      simp at c0 c1
      have HP : Hid (ParP n (prT n a b 1)) := prT_par ha hb 1
      have hzz := hT.size
      go_wp2_with fail
      refine (closePartition_any _ _ z n n w0.heap.size (prT n a b 1) w0 _ HR0.out HX.out rfl hT (Nat.le_refl _) ho HP.out).mono ?_
      rintro e w3 ⟨rfl, hG, p, hop, PP, hc, hu⟩
      have hT3 := hT.grown hG hzz (fun j e => by injection e with e; omega)
      have HF : Hid (IsPr n ops a b p) := pr_of hn0 HOPS.out ha hb PP hc hu
      clear PP hc hu
      go_wp2_with fail
      go_ret
      exact ⟨_, _, p, rfl, own_mono hop T0.size, HF.out, below_next T0 hT3 rfl⟩
end
def bitsTo (m : Nat) : Nat → List Int
  | 0 => []
  | x + 1 => bitsTo m x ++ (if m / 2 ^ x % 2 = 1 then [(x : Int)] else [])
theorem bits_lit (w : World) : (w.alloc (.cells #[] 3)).ownsRow w.heap.size 3 1 (.slice (some ⟨w.heap.size, 0, none⟩) 0 0) 0 (ints []) := World.ownsRow_lit w #[] 0 (Nat.le_refl _) (Nat.zero_le _) rfl
theorem bits8_done : ∀ m, m < 256 → ∀ x, x ≤ 8 → m / 2 ^ x = 0 → bitsTo m x = bitsTo m 8 := by decide +kernel
theorem bits8_len : ∀ m, m < 256 → ∀ x, x ≤ 8 → (bitsTo m x).length ≤ 8 := by decide +kernel
theorem bits8_more : ∀ m, m < 256 → ∀ x, x ≤ 8 → ¬ m / 2 ^ x = 0 → x < 8 := by decide +kernel
theorem bits8_one : ∀ q : Nat, q < 256 → bits .and .i64 (q : Int) 1 = ((q % 2 : Nat) : Int) := by decide +kernel
theorem bitsOf8_any (m : Nat) (w : World) (hm : m < 256) :
    Calls Tryz.prog 55 #[.int .i64 m] w fun e w' => ∃ A c, e = .returned (.slice A (bitsTo m 8).length c) ∧ w'.ownsRow w.heap.size 3 1 (.slice A (bitsTo m 8).length c) (bitsTo m 8).length (ints (bitsTo m 8)) ∧ Below w.heap.size w w' := by
  have hT0 := below_box w (.cells #[] 3)
  go_enter Tryz.func55, Tryz.ntmps55
  go_wp2_with fail
  go_loopw [3, 4] (fun v i wr => ∃ (x : Nat), x ≤ 8 ∧ i = .int .i64 x ∧ ∃ A c, v = .slice A (bitsTo m x).length c ∧ wr.ownsRow w.heap.size 3 1 v (bitsTo m x).length (ints (bitsTo m x)) ∧ Below w.heap.size w wr) (fun _ i _ => 9 - (intOf i).toNat)
  case atStart => exact ⟨0, by omega, rfl, _, 0, rfl, bits_lit w, hT0⟩
  case round =>
    clear hT0
    obtain ⟨x, hx, rfl, A, c, rfl, hown, hT⟩ := hrel
    obtain ⟨q, HQ⟩ : ∃ q, Hid (m / 2 ^ x = q) := ⟨_, rfl⟩
    have hq : (m : Int) / 2 ^ x = (q : Int) := by rw [← HQ.out]; push_cast; rfl
    have hq256 : q < 256 := by rw [← HQ.out]; exact Nat.lt_of_le_of_lt (Nat.div_le_self _ _) hm
    have HBS : Hid (bitsTo m (x + 1) = bitsTo m x ++ (if q % 2 = 1 then [(x : Int)] else [])) := by show _ = _; rw [bitsTo, HQ.out]
    have hlen := bits8_len m hm x hx
    by_cases h0 : q = 0
    · have HD := Lib.hid (bits8_done m hm x hx (by rw [HQ.out]; exact h0))
      subst h0
      have HO := Lib.hid hown
      clear hown
      go_wp2_with fail
      go_ret
      rw [HD.out] at HO ⊢
      exact ⟨_, _, rfl, HO.out, hT⟩
    · have hx8 := bits8_more m hm x hx (by rw [HQ.out]; exact h0)
      have hqp : (0 : Int) < (q : Int) := by omega
      have hb1 := bits8_one q hq256
      by_cases h1 : q % 2 = 1
      · have HB2 : Hid (bitsTo m (x + 1) = bitsTo m x ++ [(x : Int)]) := by show _ = _; rw [HBS.out, if_pos h1]
        rw [h1] at hb1
        obtain ⟨l, HL⟩ : ∃ l, Hid (bitsTo m x = l) := ⟨_, rfl⟩
        rw [HL.out] at hown hlen HB2 ⊢
        have hbase := hT.size
        clear HBS
        go_wp2_with (at_builtin; refine app1 wr rfl _ _ 27 3 rfl (.int .i64 0) 8 Tryz.underlying27 info_int rfl (by decide) w.heap.size l.length c A (ints l) rfl hown (.int .i64 x) rfl rfl (by omega) hbase ?_; intro A2 c2 w2 hown2 hg2 hb2)
        go_roundw
        case rel =>
          refine ⟨x + 1, by omega, by go_num, A2, c2, ?_, ?_, hT.trans hb2⟩
          · rw [HB2.out, List.length_append]; rfl
          · rw [HB2.out, List.length_append]
            have e : ints l ++ [.int .i64 (x : Int)] = ints (l ++ [(x : Int)]) := by simp [ints]
            rw [e] at hown2
            exact hown2
        case measure => simp [intOf]; omega
      · have h2 : q % 2 = 0 := by omega
        have HB2 : Hid (bitsTo m (x + 1) = bitsTo m x) := by show _ = _; rw [HBS.out, if_neg h1, List.append_nil]
        rw [h2] at hb1
        have HO := Lib.hid hown
        clear hown HBS
        go_wp2_with fail
        go_roundw
        case rel => exact ⟨x + 1, by omega, by go_num, A, c, by rw [HB2.out], by rw [HB2.out]; exact HO.out, hT⟩
        case measure => simp [intOf]; omega
theorem l5Bits8_any (m : Nat) (w : World) (hm : m < 256) :
    Calls Tryz.prog 58 #[.int .i64 m] w fun e w' => ∃ A c, e = .returned (.slice A (bitsTo m 8).length c) ∧ w'.ownsRow w.heap.size 3 1 (.slice A (bitsTo m 8).length c) (bitsTo m 8).length (ints (bitsTo m 8)) ∧ Below w.heap.size w w' := by
  have hT0 := below_box w (.cells #[] 3)
  go_enter Tryz.func58, Tryz.ntmps58
  go_wp2_with fail
  go_loopw [3, 4] (fun v i wr => ∃ (x : Nat), x ≤ 8 ∧ i = .int .i64 x ∧ ∃ A c, v = .slice A (bitsTo m x).length c ∧ wr.ownsRow w.heap.size 3 1 v (bitsTo m x).length (ints (bitsTo m x)) ∧ Below w.heap.size w wr) (fun _ i _ => 9 - (intOf i).toNat)
  case atStart => exact ⟨0, by omega, rfl, _, 0, rfl, bits_lit w, hT0⟩
  case round =>
    clear hT0
    obtain ⟨x, hx, rfl, A, c, rfl, hown, hT⟩ := hrel
    obtain ⟨q, HQ⟩ : ∃ q, Hid (m / 2 ^ x = q) := ⟨_, rfl⟩
    have hq : (m : Int) / 2 ^ x = (q : Int) := by rw [← HQ.out]; push_cast; rfl
    have hq256 : q < 256 := by rw [← HQ.out]; exact Nat.lt_of_le_of_lt (Nat.div_le_self _ _) hm
    have HBS : Hid (bitsTo m (x + 1) = bitsTo m x ++ (if q % 2 = 1 then [(x : Int)] else [])) := by show _ = _; rw [bitsTo, HQ.out]
    have hlen := bits8_len m hm x hx
    by_cases h0 : q = 0
    · have HD := Lib.hid (bits8_done m hm x hx (by rw [HQ.out]; exact h0))
      subst h0
      have HO := Lib.hid hown
      clear hown
      go_wp2_with fail
      go_ret
      rw [HD.out] at HO ⊢
      exact ⟨_, _, rfl, HO.out, hT⟩
    · have hx8 := bits8_more m hm x hx (by rw [HQ.out]; exact h0)
      have hqp : (0 : Int) < (q : Int) := by omega
      have hb1 := bits8_one q hq256
      by_cases h1 : q % 2 = 1
      · have HB2 : Hid (bitsTo m (x + 1) = bitsTo m x ++ [(x : Int)]) := by show _ = _; rw [HBS.out, if_pos h1]
        rw [h1] at hb1
        obtain ⟨l, HL⟩ : ∃ l, Hid (bitsTo m x = l) := ⟨_, rfl⟩
        rw [HL.out] at hown hlen HB2 ⊢
        have hbase := hT.size
        clear HBS
        go_wp2_with (at_builtin; refine app1 wr rfl _ _ 27 3 rfl (.int .i64 0) 8 Tryz.underlying27 info_int rfl (by decide) w.heap.size l.length c A (ints l) rfl hown (.int .i64 x) rfl rfl (by omega) hbase ?_; intro A2 c2 w2 hown2 hg2 hb2)
        go_roundw
        case rel =>
          refine ⟨x + 1, by omega, by go_num, A2, c2, ?_, ?_, hT.trans hb2⟩
          · rw [HB2.out, List.length_append]; rfl
          · rw [HB2.out, List.length_append]
            have e : ints l ++ [.int .i64 (x : Int)] = ints (l ++ [(x : Int)]) := by simp [ints]
            rw [e] at hown2
            exact hown2
        case measure => simp [intOf]; omega
      · have h2 : q % 2 = 0 := by omega
        have HB2 : Hid (bitsTo m (x + 1) = bitsTo m x) := by show _ = _; rw [HBS.out, if_neg h1, List.append_nil]
        rw [h2] at hb1
        have HO := Lib.hid hown
        clear hown HBS
        go_wp2_with fail
        go_roundw
        case rel => exact ⟨x + 1, by omega, by go_num, A, c, by rw [HB2.out], by rw [HB2.out]; exact HO.out, hT⟩
        case measure => simp [intOf]; omega
/-- A slice of slices that is not nil, as it is handed from call to call. -/
def OutM (w : World) (v : Value) (out : List (List Int)) : Prop := ∃ b o n c, v = .slice (some ⟨b, o, none⟩) n c ∧ n ≤ c ∧ RdL (RV RI) w (some ⟨b, o, none⟩) n out
end Go.Proofs.YtbkgbckbbnflpaaGreat
