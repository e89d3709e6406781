
/- Walks: SystemFrom of the program and of the reference. -/
import Derived.Test.YtlncpabnlnipoaaGreatSysF
namespace Go.Proofs.YtlncpabnlnipoaaGreat
open Go.RowKit

def sfOk (n : Int) (xss : List (List Int)) : Bool := inB n 0 6 && (decide (xss.length ≤ 20) && allSets n xss)
def sfRes (n : Int) (xss : List (List Int)) : List (List Int) := if sfOk n xss then systemL n.toNat xss else []
theorem sf_no1 {n : Int} {xss : List (List Int)} (h : inB n 0 6 = false) : sfOk n xss = false := by unfold sfOk; rw [h]; rfl
theorem sf_no2 {n : Int} {xss : List (List Int)} (h : ¬ xss.length ≤ 20) : sfOk n xss = false := by unfold sfOk; rw [decide_eq_false h]; simp
theorem sf_is {n : Int} {xss : List (List Int)} (h : inB n 0 6 = true) (h2 : xss.length ≤ 20) : sfOk n xss = allSets n xss := by unfold sfOk; rw [h, decide_eq_true h2]; rfl
theorem sfRes_no {n : Int} {xss : List (List Int)} (h : sfOk n xss = false) : sfRes n xss = [] := by unfold sfRes; rw [h]; rfl
set_option maxHeartbeats 1000000 in
theorem isSetOf_r {A : Option Addr} {m c : Nat} {xs : List Int} {n : Nat} {w : World} (h : RdL RI w A m xs) : Calls Tryz.prog 28 #[.int .i64 n, .slice A m c] w (Qt w (.bool (setB n xs))) := isSetOf_any _ _ _ _ _ _ h
set_option maxRecDepth 100000 in
set_option maxHeartbeats 2000000 in
theorem implSF_any (A : Option Addr) (m c : Nat) (xss : List (List Int)) (n : Int) (w : World) (h : RdL (RV RI) w A m xss) :
    Calls Tryz.prog 15 #[.int .i64 n, .slice A m c] w (OwnMB w (sfRes n xss) (sfOk n xss)) := by
  have hle := h.le
  have hlen := Lib.hid h.len
  rcases h1 : inB n 0 6 with _ | _
  · have H1 := Lib.hid h1
    have HO := Lib.hid (sf_no1 (xss := xss) h1)
    clear h1
    go_enter Tryz.func15, Tryz.ntmps15
    go_wp2_with (go_at_call 34; refine (isSystemSize_any _ _).mono ?_; rintro e w' ⟨rfl, rfl⟩; rw [H1.out])
    go_ret2
    exact ⟨_, 0, 0, by rw [HO.out]; rfl, by rw [sfRes_no HO.out]; exact mat_lit (Below.refl _ _), below_box _ _⟩
  · have hr : 0 ≤ n ∧ n ≤ 6 := by unfold inB at h1; simpa using h1
    obtain ⟨n, rfl⟩ := Int.eq_ofNat_of_zero_le hr.1
    have hn6 : n ≤ 6 := by omega
    have H1 := Lib.hid h1
    by_cases hm : m ≤ 20
    · have HOS := Lib.hid (sf_is h1 (by rw [hlen.out]; exact hm))
      have hm' : ¬ (20 : Int) < (m : Int) := by omega
      clear h1 hr
      go_enter Tryz.func15, Tryz.ntmps15
      go_wp2_with (go_at_call 34; refine (isSystemSize_any _ _).mono ?_; rintro e w' ⟨rfl, rfl⟩; rw [H1.out])
      go_loopw [19] (fun i wr => ∃ k : Nat, k ≤ m ∧ i = .int .i64 k ∧ At (allSets n) xss k ∧ Drawn w wr) (fun i _ => m - (intOf i).toNat)
      case atStart => exact ⟨0, Nat.zero_le _, rfl, rfl, Drawn.zero _⟩
      case round =>
        obtain ⟨k, hk, rfl, H, z, rfl⟩ := hrel
        have HH := Lib.hid H
        clear H
        by_cases hlt : k < m
        · obtain ⟨b, o, v, s, rfl, hc, ⟨B, j, d, rfl, hs⟩, hd, -⟩ := h.at hlt
          have HD := Lib.hid hd
          obtain ⟨sv, HSV⟩ : ∃ b, Hid (setB n s = b) := ⟨_, rfl⟩
          have hC := isSetOf_r (c := d) (n := n) (w := w.drewN z) (hs.drewN stab_RI z)
          rw [HSV.out] at hC
          have hk1 : (k : Int) < (m : Int) := by omega
          have hk0 : (0 : Int) ≤ (k : Int) := by omega
          clear hd
          rcases sv with _ | _
          · go_wp2_with (go_at_call 28; refine hC.mono ?_; rintro e w' ⟨rfl, z', rfl⟩)
            go_ret2
            have HO : sfOk n xss = false := by rw [HOS.out]; exact (HH.out.stop HD.out (by rw [allSets, HSV.out]; rfl)).symm
            exact ⟨_, 0, 0, by rw [HO]; rfl, by rw [sfRes_no HO]; exact mat_lit (by first | exact below_drewN (Below.refl _ _) _ | exact below_drewN (below_drewN (Below.refl _ _) _) _), by first | exact below_next (below_drewN (Below.refl _ _) _) (below_box _ _) rfl | exact below_next (below_drewN (below_drewN (Below.refl _ _) _) _) (below_box _ _) rfl⟩
          · go_wp2_with (go_at_call 28; refine hC.mono ?_; rintro e w' ⟨rfl, z', rfl⟩)
            go_roundw
            case rel => exact ⟨k + 1, by omega, by go_num, HH.out.step HD.out (by rw [allSets, HSV.out]; rfl), (by first | exact Drawn.zero _ | exact Drawn.at_ _ _ | exact (Drawn.at_ _ _).more _ | exact ((Drawn.at_ _ _).more _).more _)⟩
            case measure => simp [intOf]; omega
        · have hA := HH.out.done (h.drop_end hlt) rfl
          have hk1 : ¬ (k : Int) < (m : Int) := by omega
          have HO : Hid (sfOk n xss = true) := by show _ = _; rw [HOS.out]; exact hA.symm
          have hset := allSets_iff.1 hA.symm
          have key := systemFrom_any n A m c xss (w.drewN z) (h.drewN stab_RVI _) hn6 hset
          clear hA hset
          go_wp2_with (go_at_call 46; refine key.mono ?_; rintro e w' ⟨B, q, d, rfl, hM, hb⟩)
          go_ret2
          have hT : Below w.heap.size w (w.drewN z) := below_drewN (Below.refl _ _) _
          exact ⟨B, q, d, by rw [HO.out]; rfl, by unfold sfRes; rw [HO.out]; exact hM, below_next hT hb rfl⟩
    · have HO := Lib.hid (sf_no2 (n := (n : Int)) (xss := xss) (by rw [hlen.out]; exact hm))
      have hm' : (20 : Int) < (m : Int) := by omega
      clear h1 hr
      go_enter Tryz.func15, Tryz.ntmps15
      go_wp2_with (go_at_call 34; refine (isSystemSize_any _ _).mono ?_; rintro e w' ⟨rfl, rfl⟩; rw [H1.out])
      go_ret2
      exact ⟨_, 0, 0, by rw [HO.out]; rfl, by rw [sfRes_no HO.out]; exact mat_lit (Below.refl _ _), below_box _ _⟩
set_option maxRecDepth 100000 in
set_option maxHeartbeats 2000000 in
theorem specSF_any (A : Option Addr) (m c : Nat) (xss : List (List Int)) (n : Int) (w : World) (h : RdL (RV RI) w A m xss) :
    Calls Tryz.prog 22 #[.int .i64 n, .slice A m c] w (RdMB w (sfRes n xss) (sfOk n xss)) := by
  have hle := h.le
  have hlen := Lib.hid h.len
  have nilR : ∀ w' : World, RdL (RV RI) (w'.alloc (.cells #[] 25)) (some ⟨w'.heap.size, 0, none⟩) 0 [] := fun w' => RdL.nil _ _ _
  rcases h1 : inB n 0 6 with _ | _
  · have H1 := Lib.hid h1
    have HO := Lib.hid (sf_no1 (xss := xss) h1)
    clear h1
    go_enter Tryz.func22, Tryz.ntmps22
    go_wp2_with (go_at_call 36; refine (l30Size_any _ _).mono ?_; rintro e w' ⟨rfl, rfl⟩; rw [H1.out])
    go_ret2
    exact ⟨_, 0, 0, by rw [HO.out]; rfl, by rw [sfRes_no HO.out]; exact nilR _, below_box _ _⟩
  · have hr : 0 ≤ n ∧ n ≤ 6 := by unfold inB at h1; simpa using h1
    obtain ⟨n, rfl⟩ := Int.eq_ofNat_of_zero_le hr.1
    have hn6 : n ≤ 6 := by omega
    have H1 := Lib.hid h1
    by_cases hm : m ≤ 20
    · have HOS := Lib.hid (sf_is h1 (by rw [hlen.out]; exact hm))
      have hm' : ¬ (20 : Int) < (m : Int) := by omega
      clear h1 hr
      go_enter Tryz.func22, Tryz.ntmps22
      go_wp2_with (go_at_call 36; refine (l30Size_any _ _).mono ?_; rintro e w' ⟨rfl, rfl⟩; rw [H1.out])
      go_loopw [6] (fun i wr => ∃ k : Nat, k ≤ m ∧ i = .int .i64 k ∧ At (allSets n) xss k ∧ Drawn w wr) (fun i _ => m - (intOf i).toNat)
      case atStart => exact ⟨0, Nat.zero_le _, rfl, rfl, Drawn.zero _⟩
      case round =>
        obtain ⟨k, hk, rfl, H, z, rfl⟩ := hrel
        have HH := Lib.hid H
        clear H
        by_cases hlt : k < m
        · obtain ⟨b, o, v, s, rfl, hc, ⟨B, j, d, rfl, hs⟩, hd, -⟩ := h.at hlt
          have HD := Lib.hid hd
          obtain ⟨sv, HSV⟩ : ∃ b, Hid (setB n s = b) := ⟨_, rfl⟩
          have hC := l30Set_any B j d s n (w.drewN z) (hs.drewN stab_RI z) (by omega) (by omega)
          rw [HSV.out] at hC
          have hk1 : (k : Int) < (m : Int) := by omega
          have hk0 : (0 : Int) ≤ (k : Int) := by omega
          clear hd
          rcases sv with _ | _
          · go_wp2_with (go_at_call 31; refine hC.mono ?_; rintro e w' ⟨rfl, z', rfl⟩)
            go_ret2
            have HO : sfOk n xss = false := by rw [HOS.out]; exact (HH.out.stop HD.out (by rw [allSets, HSV.out]; rfl)).symm
            exact ⟨_, 0, 0, by rw [HO]; rfl, by rw [sfRes_no HO]; exact nilR _, by first | exact below_next (below_drewN (Below.refl _ _) _) (below_box _ _) rfl | exact below_next (below_drewN (below_drewN (Below.refl _ _) _) _) (below_box _ _) rfl⟩
          · go_wp2_with (go_at_call 31; refine hC.mono ?_; rintro e w' ⟨rfl, z', rfl⟩)
            go_roundw
            case rel => exact ⟨k + 1, by omega, by go_num, HH.out.step HD.out (by rw [allSets, HSV.out]; rfl), (by first | exact Drawn.zero _ | exact Drawn.at_ _ _ | exact (Drawn.at_ _ _).more _ | exact ((Drawn.at_ _ _).more _).more _)⟩
            case measure => simp [intOf]; omega
        · have hA := HH.out.done (h.drop_end hlt) rfl
          have hk1 : ¬ (k : Int) < (m : Int) := by omega
          have HO : Hid (sfOk n xss = true) := by show _ = _; rw [HOS.out]; exact hA.symm
          have key := l30System_any A n m c xss (w.drewN z) (h.drewN stab_RVI _) hn6
          clear hA
          go_wp2_with (go_at_call 59; refine key.mono ?_; rintro e w' ⟨v, rfl, ⟨sb, so, sn, sc, rfl, hsc, hs⟩, hb⟩)
          go_ret2
          have hT : Below w.heap.size w (w.drewN z) := below_drewN (Below.refl _ _) _
          exact ⟨_, sn, sc, by rw [HO.out]; rfl, by unfold sfRes; rw [HO.out]; exact hs, below_next hT hb rfl⟩
    · have HO := Lib.hid (sf_no2 (n := (n : Int)) (xss := xss) (by rw [hlen.out]; exact hm))
      have hm' : (20 : Int) < (m : Int) := by omega
      clear h1 hr
      go_enter Tryz.func22, Tryz.ntmps22
      go_wp2_with (go_at_call 36; refine (l30Size_any _ _).mono ?_; rintro e w' ⟨rfl, rfl⟩; rw [H1.out])
      go_ret2
      exact ⟨_, 0, 0, by rw [HO.out]; rfl, by rw [sfRes_no HO.out]; exact nilR _, below_box _ _⟩
theorem sfOk_n {n : Int} {xss : List (List Int)} (h : sfOk n xss = true) : 0 ≤ n ∧ n ≤ 6 := by
  unfold sfOk inB at h
  simp at h
  omega
theorem sfRes_mem {n : Int} {xss : List (List Int)} {p : List Int} (h : p ∈ sfRes n xss) : sfOk n xss = true ∧ IsSet n.toNat p := by
  unfold sfRes at h
  split at h
  · rename_i hh
    exact ⟨hh, (systemL_inv _ _).2 p h⟩
  · simp at h
theorem sfRes_total (n : Int) (xss : List (List Int)) : total (sfRes n xss) ≤ 1099511627776 := by
  refine total_le (fun p hp => ?_) ?_
  · obtain ⟨h1, h2⟩ := sfRes_mem hp
    have := isSet_len h2
    have := sfOk_n h1
    omega
  · unfold sfRes
    split
    · rename_i hh
      have h1 := sfOk_n hh
      have := inv_len (systemL_inv n.toNat xss) (by omega)
      omega
    · simp
theorem sfRes_RI (n : Int) (xss : List (List Int)) (w : World) : ∀ p ∈ sfRes n xss, ∀ y ∈ p, RI w (.int .i64 y) y := fun p hp y hy => by
  obtain ⟨h1, h2⟩ := sfRes_mem hp
  have h3 := h2.2 y hy
  have h4 := sfOk_n h1
  exact ⟨rfl, by omega, by omega⟩
end Go.Proofs.YtlncpabnlnipoaaGreat
