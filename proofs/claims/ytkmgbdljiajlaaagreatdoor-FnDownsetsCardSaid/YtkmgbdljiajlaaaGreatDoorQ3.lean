/- Parts of the proof: DsO, Rl, DsQ, CurB, Grow, Names2, SysPos, From23, Pairs, Put23, Pos23, L23, Mono, Adj, Lat, Lat2, Lat5, Lat6, Lat7, Lat8, DrawM. -/
import Derived.Test.YtkmgbdljiajlaaaGreatDoorQ2
import Derived.Test.YtkmgbdljiajlaaaGreatDoorQ1
import Derived.Test.YtkmgbdljiajlaaaGreatDoorProg
import Derived.Deep.DeepCutAuto
import Derived.StillTactics
import Derived.Laws.BitsAllLaws
import Derived.Laws.ResultCell
import Derived.Deep.RegionHeld3
import Derived.StillTailTactics
import Derived.BigRegion
import Derived.Deep.CutBlock
import Derived.Deep.LoopGhost
namespace Go.Proofs.YtkmgbdljiajlaaaGreatDoor
open Go.RowKit
set_option linter.unusedVariables false
set_option linter.unusedSimpArgs false

set_option maxHeartbeats 1000000 in
theorem hasD_any (A B : Option Addr) (n c m d : Nat) (L : List Int) (w : World) (hl : RdL RI w B m L) : Calls Tryz.prog 26 #[.slice A n c, .slice B m d] w fun e w' => e = .returned (.bool (allIn 0 ((n : Int) - 1) L)) ∧ w = w' := by
  go_enter Tryz.func26, Tryz.ntmps26
  go_wp2_with fail
  refine (inSize_any B m d L (n : Int) w hl).mono ?_
  rintro e w1 ⟨rfl, rfl⟩
  go_wp2_with fail
  go_ret
  exact ⟨rfl, rfl⟩
set_option maxRecDepth 20000 in
set_option maxHeartbeats 4000000 in
theorem dsClo_any (A B : Option Addr) (n c m d sb ob x : Nat) (F : Nat → Nat → Bool) (L : List Int) (w : World) (hr : RdL (RV RB) w A n (tab n F)) (hs : RdL RI w B m L) (hL : ∀ v ∈ L, 0 ≤ v ∧ v ≤ (n : Int) - 1) (hx : x < n)
    (c1 : w.cell? ⟨sb, 0, none⟩ = some (.slice B m d)) (c2 : w.cell? ⟨ob, 0, none⟩ = some (.slice A n c)) :
    Calls Tryz.prog 28 #[.int .i64 (x : Int), .pointer (some ⟨sb, 0, none⟩), .pointer (some ⟨ob, 0, none⟩)] w (Bl w (.bool (dwB F L x))) := by
  have HL := Lib.hid hL
  have HLN := Lib.hid hs.len
  have hml := hs.le
  have hx0 : (0 : Int) ≤ (x : Int) := by omega
  have hx1 : (x : Int) < (n : Int) := by omega
  obtain ⟨b2, o2, rfl⟩ := hr.addr hx
  clear hL
  go_enter Tryz.func28, Tryz.ntmps28
  go_wp2_with fail
  go_loopw [9] (fun i wr => ∃ j : Nat, j ≤ m ∧ i = .int .i64 j ∧ (∀ (k : Nat) (y : Nat), k < j → L[k]? = some (y : Int) → F x y = false) ∧ Below w.heap.size w wr) (fun i _ => m - (intOf i).toNat)
  case atStart => exact ⟨0, Nat.zero_le _, rfl, fun k y hk => absurd hk (by omega), Below.refl _ _⟩
  case round =>
    obtain ⟨j, hj, rfl, hall, hTr⟩ := hrel
    have HA := Lib.hid hall
    clear hall
    by_cases hlt : j < m
    · have hj0 : (0 : Int) ≤ (j : Int) := by omega
      have hj1 : (j : Int) < (m : Int) := by omega
      obtain ⟨b, o, v, y, rfl, hcy, ⟨rfl, -⟩, -, hy⟩ := (hs.next stab_RI hTr).at hlt
      have hyr := HL.out y (List.mem_of_getElem? hy)
      obtain ⟨y, rfl⟩ := Int.eq_ofNat_of_zero_le hyr.1
      have hyn : y < n := by omega
      have hy0 : (0 : Int) ≤ (y : Int) := by omega
      have hy1 : (y : Int) < (n : Int) := by omega
      have HY := Lib.hid hy
      obtain ⟨r2, p2, d2, hc2, hall2⟩ := (hr.next stab_RVB hTr).rowT hx
      have hcF := hall2 y hyn
      replace c1 := keepM hTr c1
      replace c2 := keepM hTr c2
      obtain ⟨f, HF⟩ : ∃ f, Hid (F x y = f) := ⟨_, Lib.hid rfl⟩
      rw [HF.out] at hcF
      clear hy hyr hall2
      rcases f with _ | _
      · have HA2 : Hid (∀ (k : Nat) (z : Nat), k < j + 1 → L[k]? = some (z : Int) → F x z = false) := fun k z hk hz => by
          by_cases e : k = j
          · subst e
            rw [HY.out] at hz
            injection hz with hz
            have : y = z := by omega
            subst this
            exact HF.out
          · exact HA.out k z (by omega) hz
        go_wp2_with fail
        go_roundw
        case rel => exact ⟨j + 1, by omega, by go_num, HA2.out, hTr⟩
        case measure => simp [intOf]; omega
      · have HYES : Hid (dwB F L x = true) := dwB_iff.2 ⟨_, List.mem_of_getElem? HY.out, by simpa using HF.out⟩
        go_wp2_with fail
        go_ret
        exact ⟨by rw [HYES.out]; rfl, hTr⟩
    · obtain rfl : j = m := by omega
      have hj1 : ¬ (j : Int) < (j : Int) := by omega
      have HNO : Hid (dwB F L x = false) := by
        show _ = _
        cases h : dwB F L x with
        | false => rfl
        | true =>
          obtain ⟨v, hv, hf⟩ := dwB_iff.1 h
          obtain ⟨k, hk⟩ := List.getElem?_of_mem hv
          obtain ⟨y, rfl⟩ := Int.eq_ofNat_of_zero_le (HL.out v hv).1
          have hkl := (List.getElem?_eq_some_iff.1 hk).1
          have := HA.out k y (by rw [← HLN.out]; exact hkl) hk
          rw [show ((y : Nat) : Int).toNat = y from by simp, this] at hf
          cases hf
      go_wp2_with fail
      go_ret
      exact ⟨by rw [HNO.out]; rfl, hTr⟩
/-- DownsetOf's answer. -/
noncomputable def doOk (xss : List (List Int)) (L : List Int) : Bool := tt (GoodP xss) && (decide (L.length ≤ 20) && allIn 0 ((xss.length : Int) - 1) L)
noncomputable def doRes (xss : List (List Int)) (L : List Int) : List Int := if doOk xss L then dwnL xss.length (leF xss) L else []
set_option maxRecDepth 20000 in
theorem dsEnter (args : Array Value) (w : World) : (callFunc 28 args).run Tryz.prog w = .ok (.enter 28 args) w := rfl
set_option maxRecDepth 20000 in
set_option maxHeartbeats 8000000 in
theorem implDo_any (A B : Option Addr) (n c m d : Nat) (xss : List (List Int)) (L : List Int) (w : World) (h : RdL (RV RI) w A n xss) (hs : RdL RI w B m L) : Calls Tryz.prog 6 #[.agg #[.slice A n c], .slice B m d] w (OwnB w (doRes xss L) (doOk xss L)) := by
  have hl := h.len
  obtain ⟨w0, HW0⟩ : ∃ wb, Hid (wb = (w.alloc (.cells #[.slice A n c] 26)).alloc (.cells #[.slice B m d] 27)) := ⟨_, Lib.hid rfl⟩
  have hb0 : Below w.heap.size w w0 := by rw [HW0.out]; exact below_box2 _ _ _
  have BP : Blk w0 w.heap.size 26 #[.slice A n c] := by rw [HW0.out]; exact (Blk.new w 26 #[.slice A n c]).alloc _
  have BS : Blk w0 (w.heap.size + 1) 27 #[.slice B m d] := by
    have h1 := Blk.new (w.alloc (.cells #[.slice A n c] 26)) 27 #[.slice B m d]
    rw [HW0.out]
    simpa using h1
  have hr0 := h.next stab_RVI hb0
  have hs0 := hs.next stab_RI hb0
  have cP0 := BP.cell 0
  simp at cP0
  have HO := Lib.hid (orderOf_any A n c xss w0 hr0)
  have HLL := Lib.hid hl
  have HLS := Lib.hid hs.len
  obtain ⟨r, HR⟩ : ∃ r, Hid (tt (GoodP xss) = r) := ⟨_, rfl⟩
  clear hl h hs
  go_enter Tryz.func6, Tryz.ntmps6
  go_upto_region 1 with fail
  rw [← HW0.out]
  go_wp2_with fail
  refine HO.out.mono ?_
  rintro e w1 ⟨A1, m1, c1, rfl, hgd, hb1⟩
  rw [HR.out]
  have T1 := below_next hb0 hb1 rfl
  obtain ⟨w2, HW2⟩ : ∃ wb, Hid (wb = w1.alloc (.cells #[.slice A1 m1 c1] 53)) := ⟨_, Lib.hid rfl⟩
  have hb2 : Below w1.heap.size w1 w2 := by rw [HW2.out]; exact below_box _ _
  have BO : Blk w2 w1.heap.size 53 #[.slice A1 m1 c1] := by rw [HW2.out]; exact Blk.new _ _ _
  obtain ⟨sb, HSB⟩ : ∃ x, Hid (w.heap.size + 1 = x) := ⟨_, Lib.hid rfl⟩
  obtain ⟨ob, HOB⟩ : ∃ x, Hid (w1.heap.size = x) := ⟨_, Lib.hid rfl⟩
  have T2 := below_next T1 hb2 rfl
  have BS2 := (BS.next hb1).next hb2
  have hs2 := (hs0.next stab_RI hb1).next stab_RI hb2
  go_upto_region 2 with fail
  rw [← HW2.out]
  rw [HSB.out] at BS2
  rw [HOB.out] at BO
  rw [HSB.out, HOB.out]
  have cS := BS2.cell 0
  have cO := BO.cell 0
  simp at cS cO
  clear HO cP0 BP BS hr0 hs0 T1
  rcases r with _ | _
  · have HK : Hid (doOk xss L = false) := by show _ = _; unfold doOk; rw [HR.out]; rfl
    have HF : Hid (doRes xss L = []) := by show _ = _; unfold doRes; rw [HK.out]; rfl
    clear hgd
    go_wp2_with fail
    go_ret2
    rw [HK.out, HF.out]
    exact ⟨_, 0, 0, rfl, own_lit0 T2, below_next T2 (below_box _ _) rfl⟩
  · obtain ⟨rfl, hrb⟩ := hgd (tt_iff.1 HR.out)
    have hrb2 := hrb.next stab_RVB hb2
    clear hgd hrb
    by_cases h20 : 20 < m
    · have h20i : (20 : Int) < (m : Int) := by omega
      have HK : Hid (doOk xss L = false) := by show _ = _; unfold doOk; rw [HR.out, decide_eq_false (by rw [HLS.out]; omega)]; rfl
      have HF : Hid (doRes xss L = []) := by show _ = _; unfold doRes; rw [HK.out]; rfl
      go_wp2_with fail
      go_ret2
      rw [HK.out, HF.out]
      exact ⟨_, 0, 0, rfl, own_lit0 T2, below_next T2 (below_box _ _) rfl⟩
    · have h20i : ¬ (20 : Int) < (m : Int) := by omega
      have h20j : (m : Int) ≤ 20 := by omega
      have HH := Lib.hid (hasD_any A1 B m1 c1 m d L w2 hs2)
      obtain ⟨q, HQ⟩ : ∃ q, Hid (allIn 0 ((m1 : Int) - 1) L = q) := ⟨_, Lib.hid rfl⟩
      have HKQ : Hid (doOk xss L = q) := by show _ = _; unfold doOk; rw [HR.out, decide_eq_true (by rw [HLS.out]; omega), HLL.out, HQ.out]; rfl
      go_wp2_with fail
      refine HH.out.mono ?_
      rintro e wq ⟨rfl, rfl⟩
      rw [HQ.out]
      clear HH
      rcases q with _ | _
      · have HF : Hid (doRes xss L = []) := by show _ = _; unfold doRes; rw [HKQ.out]; rfl
        go_wp2_with fail
        go_ret2
        rw [HKQ.out, HF.out]
        exact ⟨_, 0, 0, rfl, own_lit0 T2, below_next T2 (below_box _ _) rfl⟩
      · have HF : Hid (doRes xss L = dwnL m1 (leF xss) L) := by show _ = _; unfold doRes; rw [HKQ.out, if_pos rfl, HLL.out]
        have hin : ∀ v ∈ L, 0 ≤ v ∧ v ≤ (m1 : Int) - 1 := fun v hv => allIn_iff.1 HQ.out v hv
        have HD := Lib.hid (those2_any A1 m1 c1 28 (.pointer (some ⟨sb, 0, none⟩)) (.pointer (some ⟨ob, 0, none⟩)) (dwB (leF xss) L) w2 dsEnter (fun x wz hx hz => dsClo_any A1 B m1 c1 m d sb ob x (leF xss) L wz (hrb2.next stab_RVB hz) (hs2.next stab_RI hz) hin hx (keepM hz cS) (keepM hz cO)) (by have := (tt_iff.1 HR.out).1; rw [HLL.out] at this; omega))
        clear hin
        go_wp2_with fail
        refine HD.out.mono ?_
        rintro e w3 ⟨A2, c2, rfl, hM, hb3⟩
        go_wp2_with fail
        go_ret2
        rw [HKQ.out, HF.out]
        exact ⟨A2, _, c2, rfl, own_mono hM T2.size, below_next T2 hb3 rfl⟩
end Go.Proofs.YtkmgbdljiajlaaaGreatDoor
namespace Go.Proofs.YtkmgbdljiajlaaaGreatDoor
open Go.RowKit

set_option maxHeartbeats 400000 in
theorem rInts_any (A B : Option Addr) (n m c d : Nat) (xs ys : List Int) (w : World) (h : RdL RI w A n xs) (h' : RdL RI w B m ys) :
    Calls Tryz.prog 8 #[.slice A n c, .slice B m d] w (Qt w (.bool (eqL xs ys))) := by
  have hle := h.le
  have hle' := h'.le
  by_cases hnm : n = m
  · subst hnm
    go_enter Tryz.func8, Tryz.ntmps8
    go_wp2
    go_loopw [5] (fun i wr => ∃ k : Nat, k ≤ n ∧ i = .int .i64 k ∧ At2 eqL xs ys k ∧ Drawn w wr) (fun i _ => n - (intOf i).toNat)
    case atStart => exact ⟨0, Nat.zero_le _, rfl, rfl, Drawn.zero _⟩
    case round =>
      obtain ⟨k, hk, rfl, H, z, rfl⟩ := hrel
      by_cases hlt : k < n
      · obtain ⟨b, o, v, x, rfl, hc, ⟨rfl, -⟩, hd, -⟩ := h.at hlt
        obtain ⟨b', o', v', y, rfl, hc', ⟨rfl, -⟩, hd', -⟩ := h'.at hlt
        have H1 := Lib.hid hd
        have H2 := Lib.hid hd'
        clear hd hd'
        go_wp2
        go_quiet (fail)
        go_wp2
        all_goals first
          | (go_ret
             exact ⟨ret_bool (H.stop H1.out H2.out (by rw [eqL, show (x == y) = false from (by first | assumption | exact bf1 (by assumption) | exact bf2 (by assumption) | exact nef (by assumption) | exact nefc (by assumption) | exact eqc (by assumption))]; rfl)), (by first | exact Drawn.zero _ | exact Drawn.at_ _ _ | exact (Drawn.at_ _ _).more _ | exact ((Drawn.at_ _ _).more _).more _)⟩)
          | (go_roundw
             case rel => exact ⟨k + 1, by omega, by go_num, H.step H1.out H2.out (by rw [eqL, show (x == y) = true from (by first | assumption | exact bt2 (by assumption) | exact net (by assumption) | exact netc (by assumption) | exact eqc (by assumption))]; rfl), (by first | exact Drawn.zero _ | exact Drawn.at_ _ _ | exact (Drawn.at_ _ _).more _ | exact ((Drawn.at_ _ _).more _).more _)⟩
             case measure => simp [intOf]; omega)
      · go_wp2
        go_ret
        exact ⟨ret_bool (H.done (h.drop_end hlt) (h'.drop_end hlt) rfl), (by first | exact Drawn.zero _ | exact Drawn.at_ _ _ | exact (Drawn.at_ _ _).more _ | exact ((Drawn.at_ _ _).more _).more _)⟩
  · have hne : ((n : Int) != (m : Int)) = true := by rw [bne_iff_ne]; omega
    go_enter Tryz.func8, Tryz.ntmps8
    go_wp2
    go_ret
    exact ⟨ret_bool (eqL_len (by rw [h.len, h'.len]; omega)), (by first | exact Drawn.zero _ | exact Drawn.at_ _ _ | exact (Drawn.at_ _ _).more _ | exact ((Drawn.at_ _ _).more _).more _)⟩

set_option maxHeartbeats 400000 in
theorem rHas_any (A : Option Addr) (n c : Nat) (xs : List Int) (y : Int) (w : World) (h : RdL RI w A n xs) :
    Calls Tryz.prog 15 #[.slice A n c, .int .i64 y] w fun e w' => e = .returned (.bool (hasI y xs)) ∧ w = w' := by
  have hle := h.le
  go_enter Tryz.func15, Tryz.ntmps15
  go_wp2
  go_loop [5] (fun i => ∃ k : Nat, k ≤ n ∧ i = .int .i64 k ∧ At (hasI y) xs k) (fun i => n - (intOf i).toNat)
  case atStart => exact ⟨0, Nat.zero_le _, rfl, At.start _ _⟩
  case round =>
    obtain ⟨k, hk, rfl, H⟩ := hrel
    by_cases hlt : k < n
    · obtain ⟨b, o, v, x, rfl, hc, ⟨rfl, -⟩, hd, -⟩ := h.at hlt
      have H1 := Lib.hid hd
      clear hd
      go_wp2
      all_goals first
        | (go_ret
           exact ⟨ret_bool (H.stop H1.out (by rw [hasI, ‹(x == y) = true›]; rfl)), rfl⟩)
        | (go_round
           case rel => exact ⟨k + 1, by omega, by go_num, H.step H1.out (by rw [hasI, ‹(x == y) = false›]; rfl)⟩
           case measure => simp [intOf]; omega)
    · go_wp2
      go_ret
      exact ⟨ret_bool (H.done (h.drop_end hlt) rfl), rfl⟩

set_option maxHeartbeats 400000 in
theorem rWithin_any (A B : Option Addr) (n m c d : Nat) (xs ys : List Int) (w : World) (h : RdL RI w A n xs) (h' : RdL RI w B m ys) :
    Calls Tryz.prog 13 #[.slice A n c, .slice B m d] w fun e w' => e = .returned (.bool (partL ys xs)) ∧ w = w' := by
  have hle := h.le
  go_enter Tryz.func13, Tryz.ntmps13
  go_wp2
  go_loop [5] (fun i => ∃ k : Nat, k ≤ n ∧ i = .int .i64 k ∧ At (partL ys) xs k) (fun i => n - (intOf i).toNat)
  case atStart => exact ⟨0, Nat.zero_le _, rfl, rfl⟩
  case round =>
    obtain ⟨k, hk, rfl, H⟩ := hrel
    by_cases hlt : k < n
    · obtain ⟨b, o, v, x, rfl, hc, ⟨rfl, -⟩, hd, -⟩ := h.at hlt
      have H1 := Lib.hid hd
      clear hd
      go_wp2_with (go_at_call 15; refine (rHas_any _ _ _ _ _ _ h').mono ?_; rintro e w' ⟨rfl, rfl⟩)
      all_goals first
        | (go_ret
           exact ⟨ret_bool (H.stop H1.out (by rw [partL, show hasI x ys = false from (by first | assumption | exact bf1 (by assumption) | exact bf2 (by assumption) | exact nef (by assumption) | exact nefc (by assumption) | exact eqc (by assumption))]; rfl)), rfl⟩)
        | (go_round
           case rel => exact ⟨k + 1, by omega, by go_num, H.step H1.out (by rw [partL, show hasI x ys = true from (by first | assumption | exact bt2 (by assumption) | exact net (by assumption) | exact netc (by assumption) | exact eqc (by assumption))]; rfl)⟩
           case measure => simp [intOf]; omega)
    · go_wp2
      go_ret
      exact ⟨ret_bool (H.done (h.drop_end hlt) rfl), rfl⟩

set_option maxHeartbeats 400000 in
theorem rPlace_any (A B : Option Addr) (n m c d : Nat) (xss : List (List Int)) (p : List Int) (w : World) (h : RdL (RV RI) w A n xss) (h' : RdL RI w B m p) :
    Calls Tryz.prog 12 #[.slice A n c, .slice B m d] w (Qt w (.int .i64 (place xss p))) := by
  have hle := h.le
  go_enter Tryz.func12, Tryz.ntmps12
  go_wp2
  go_loopw [5] (fun i wr => ∃ k : Nat, k ≤ n ∧ i = .int .i64 k ∧ PlAt xss p k ∧ Drawn w wr) (fun i _ => n - (intOf i).toNat)
  case atStart => exact ⟨0, Nat.zero_le _, rfl, rfl, Drawn.zero _⟩
  case round =>
    obtain ⟨k, hk, rfl, H, z, rfl⟩ := hrel
    by_cases hlt : k < n
    · obtain ⟨b, o, v, q, rfl, hc, ⟨Q, j, g, rfl, hq⟩, hd, -⟩ := h.at hlt
      have H1 := Lib.hid hd
      clear hd
      have H2 := Lib.hid (eqL_comm q p)
      go_wp2_with (go_at_call 8; refine (rInts_any _ _ _ _ _ _ _ _ _ (hq.drewN stab_RI _) (h'.drewN stab_RI _)).mono ?_; rintro e w' ⟨rfl, z', rfl⟩)
      all_goals first
        | (go_ret
           exact ⟨ret_int (H.stop H1.out (by rw [← H2.out]; exact (by first | assumption | exact bt2 (by assumption) | exact net (by assumption) | exact netc (by assumption) | exact eqc (by assumption)))), (by first | exact Drawn.zero _ | exact Drawn.at_ _ _ | exact (Drawn.at_ _ _).more _ | exact ((Drawn.at_ _ _).more _).more _)⟩)
        | (go_roundw
           case rel => exact ⟨k + 1, by omega, by go_num, H.step H1.out (by rw [← H2.out]; exact (by first | assumption | exact bf1 (by assumption) | exact bf2 (by assumption) | exact nef (by assumption) | exact nefc (by assumption) | exact eqc (by assumption))), (by first | exact Drawn.zero _ | exact Drawn.at_ _ _ | exact (Drawn.at_ _ _).more _ | exact ((Drawn.at_ _ _).more _).more _)⟩
           case measure => simp [intOf]; omega)
    · go_wp2
      go_ret
      exact ⟨ret_int (H.done (h.drop_end hlt)), (by first | exact Drawn.zero _ | exact Drawn.at_ _ _ | exact (Drawn.at_ _ _).more _ | exact ((Drawn.at_ _ _).more _).more _)⟩

set_option maxHeartbeats 400000 in
theorem rTable_any (A B : Option Addr) (n m c d : Nat) (xs ys : List (List Int)) (w : World) (h : RdL (RV RI) w A n xs) (h' : RdL (RV RI) w B m ys) :
    Calls Tryz.prog 11 #[.slice A n c, .slice B m d] w (Qt w (.bool (eqLL xs ys))) := by
  have hle := h.le
  have hle' := h'.le
  by_cases hnm : n = m
  · subst hnm
    go_enter Tryz.func11, Tryz.ntmps11
    go_wp2
    go_loopw [5] (fun i wr => ∃ k : Nat, k ≤ n ∧ i = .int .i64 k ∧ EqqAt xs ys k ∧ Drawn w wr) (fun i _ => n - (intOf i).toNat)
    case atStart => exact ⟨0, Nat.zero_le _, rfl, rfl, Drawn.zero _⟩
    case round =>
      obtain ⟨k, hk, rfl, H, z, rfl⟩ := hrel
      by_cases hlt : k < n
      · obtain ⟨b, o, v, x, rfl, hc, ⟨P, p, q, rfl, hx⟩, hd, -⟩ := h.at hlt
        obtain ⟨b', o', v', y, rfl, hc', ⟨P', p', q', rfl, hy⟩, hd', -⟩ := h'.at hlt
        have H1 := Lib.hid hd
        have H2 := Lib.hid hd'
        clear hd hd'
        go_wp2
        go_quiet ((go_at_call 8; exact quiet_add (rInts_any _ _ _ _ _ _ _ _ _ (hx.drewN stab_RI _) (hy.drewN stab_RI _))))
        go_wp2
        all_goals first
          | (go_ret
             exact ⟨ret_bool (H.stop H1.out H2.out (by simpa using ‹(!eqL x y) = true›)), (by first | exact Drawn.zero _ | exact Drawn.at_ _ _ | exact (Drawn.at_ _ _).more _ | exact ((Drawn.at_ _ _).more _).more _)⟩)
          | (go_roundw
             case rel => exact ⟨k + 1, by omega, by go_num, H.step H1.out H2.out (by simpa using ‹(!eqL x y) = false›), (by first | exact Drawn.zero _ | exact Drawn.at_ _ _ | exact (Drawn.at_ _ _).more _ | exact ((Drawn.at_ _ _).more _).more _)⟩
             case measure => simp [intOf]; omega)
      · go_wp2
        go_ret
        exact ⟨ret_bool (H.done (h.drop_end hlt) (h'.drop_end hlt)), (by first | exact Drawn.zero _ | exact Drawn.at_ _ _ | exact (Drawn.at_ _ _).more _ | exact ((Drawn.at_ _ _).more _).more _)⟩
  · have hne : ((n : Int) != (m : Int)) = true := by rw [bne_iff_ne]; omega
    go_enter Tryz.func11, Tryz.ntmps11
    go_wp2
    go_ret
    exact ⟨ret_bool (eqLL_len (by rw [h.len, h'.len]; omega)), (by first | exact Drawn.zero _ | exact Drawn.at_ _ _ | exact (Drawn.at_ _ _).more _ | exact ((Drawn.at_ _ _).more _).more _)⟩
end Go.Proofs.YtkmgbdljiajlaaaGreatDoor
namespace Go.Proofs.YtkmgbdljiajlaaaGreatDoor
open Go.RowKit
set_option linter.unusedVariables false

section
variable {n : Nat} {F : Nat → Nat → Bool}
theorem ds_mem (hn : n ≤ 10) {p : List Int} : p ∈ dsL n F ↔ downB n F p = true := by
  have hN : 2 ^ n ≤ 1024 := pow10T hn
  unfold dsL
  rw [insD_mem, selT_mem hN]
  constructor
  · rintro ⟨j, -, rfl, h⟩
    exact h
  · intro h
    have hs : IsSet n p := by
      unfold downB at h
      rw [Bool.and_eq_true] at h
      exact setB_iff.1 h.1
    obtain ⟨e, hlt⟩ := bitsT_set hn hs
    exact ⟨valB p, hlt, e.symm, h⟩
theorem dsL_insA (hn : n ≤ 8) : dsL n F = insA (downB n F) (2 ^ n) := insD_insA _ _ (pow8g hn)
theorem ds_set (hn : n ≤ 10) : ∀ s ∈ dsL n F, IsSet n s := fun s hs => by
  have h := (ds_mem hn).1 hs
  unfold downB at h
  rw [Bool.and_eq_true] at h
  exact setB_iff.1 h.1
theorem ds_short (hn : n ≤ 10) : ∀ s ∈ dsL n F, s.length ≤ 1048576 := fun s hs => by
  have := isSet_len (ds_set hn s hs)
  omega
theorem dwn_eq {L : List Int} (hL : ∀ v ∈ L, 0 ≤ v ∧ v < (n : Int)) : (fun L => dwnL n F (L.filter fun x => decide (0 ≤ x) && decide (x < (n : Int)))) L = dwnL n F L := by
  show dwnL n F (L.filter _) = _
  rw [filt_self hL]
theorem dwn_set (L : List Int) : IsSet n (dwnL n F L) := ⟨markL_asc _ _, fun x hx => by have := markL_in x hx; omega⟩
/-- The downset of elements is one of all downsets, and holds the elements. -/
theorem dwn_place (hF : OrdP n F) (hn : n ≤ 10) {L : List Int} (hL : ∀ v ∈ L, 0 ≤ v ∧ v < (n : Int)) : dwnL n F L ∈ dsL n F := by
  rw [ds_mem hn, down_iff hF]
  refine ⟨dwn_set L, ?_⟩
  have h := (dwn_op hF).idem L
  rw [filt_self hL] at h
  exact h
theorem dwn_part (hF : OrdP n F) {L : List Int} (hL : ∀ v ∈ L, 0 ≤ v ∧ v < (n : Int)) : partL (dwnL n F L) L = true := by
  have key : ∀ (ys xs : List Int), (∀ x ∈ xs, x ∈ ys) → partL ys xs = true := by
    intro ys xs
    induction xs with
    | nil => intro _; rfl
    | cons x l ih =>
      intro h
      rw [partL, hasI_iff.2 (h x (List.mem_cons_self ..)), ih fun y hy => h y (List.mem_cons_of_mem _ hy)]
      rfl
  refine key _ _ fun x hx => ?_
  have h := (dwn_op hF).sup hx (hL x hx).1 (hL x hx).2
  rw [filt_self hL] at h
  exact h
theorem ds_res (hF : OrdP n F) (hn : n ≤ 6) : sysRes (n : Int) (dsL n F) = true := by
  rw [dsL_insA (by omega)]
  exact clo_res (dwn_op hF) (down_iff hF) hn
/-- The elements in order. -/
def stL (n : Nat) (L : List Int) : List Int := markL n fun y => hasI (y : Int) L
theorem stL_set (L : List Int) : IsSet n (stL n L) := ⟨markL_asc _ _, fun x hx => by have := markL_in x hx; omega⟩
theorem stL_mem {L : List Int} (h : ∀ v ∈ L, 0 ≤ v ∧ v < (n : Int)) {x : Int} : x ∈ stL n L ↔ x ∈ L := by
  unfold stL
  rw [markL_mem]
  constructor
  · rintro ⟨y, -, h1, rfl⟩
    exact hasI_iff.1 h1
  · intro hx
    obtain ⟨y, rfl⟩ := Int.eq_ofNat_of_zero_le (h x hx).1
    exact ⟨y, by have := (h _ hx).2; omega, hasI_iff.2 hx, rfl⟩
theorem ds_close (hF : OrdP n F) (hn : n ≤ 6) {L : List Int} (hL : ∀ v ∈ L, 0 ≤ v ∧ v < (n : Int)) : closeRes (n : Int) (dsL n F) (stL n L) = dwnL n F L ∧ closeOk (n : Int) (dsL n F) (stL n L) = true := by
  have hk : closeOk (n : Int) (dsL n F) (stL n L) = true := by unfold closeOk; rw [ds_res hF hn, setB_iff.2 (stL_set L)]; rfl
  refine ⟨?_, hk⟩
  unfold closeRes
  rw [hk, if_pos rfl, dsL_insA (by omega), clo_close (dwn_op hF) (down_iff hF) (by omega) (fun v hv => (stL_set L).2 v hv)]
  rw [(dwn_op hF).congr (T := L) fun x => stL_mem hL]
  exact dwn_eq hL
/-! ## The first extension -/
theorem ext_take : ∀ (k i : Nat), i ≤ k → (extL n F k).take i = extL n F i
  | 0, i, h => by
    obtain rfl : i = 0 := by omega
    rfl
  | k + 1, i, h => by
    by_cases e : i = k + 1
    · subst e
      exact List.take_of_length_le (by rw [extL_len]; exact Nat.le_refl _)
    · rw [extL, List.take_append_of_le_length (by rw [extL_len]; omega)]
      exact ext_take k i (by omega)
theorem ext_rng (hF : OrdP n F) : ∀ k, k ≤ n → ∀ v ∈ extL n F k, 0 ≤ v ∧ v < (n : Int)
  | 0, _, v, hv => by cases hv
  | k + 1, hk, v, hv => by
    rw [extL] at hv
    rcases List.mem_append.1 hv with hv | hv
    · exact ext_rng hF k (by omega) v hv
    · rw [List.mem_singleton.1 hv]
      have := (next_ok hF (L := extL n F k) (by rw [extL_len]; omega)).1
      omega
theorem ext_down (hF : OrdP n F) : ∀ k, k ≤ n → DownP n F (extL n F k)
  | 0, _ => fun x hx => by cases hx
  | k + 1, hk => fun x hx y hy hf => by
    rw [extL] at hx ⊢
    rcases List.mem_append.1 hx with hx | hx
    · exact List.mem_append_left _ (ext_down hF k (by omega) x hx y hy hf)
    · have e := List.mem_singleton.1 hx
      obtain ⟨h1, h2, -⟩ := next_ok hF (L := extL n F k) (by rw [extL_len]; omega)
      rw [e] at hf
      rw [Int.toNat_natCast] at hf
      by_cases hyx : y = nextX n F (extL n F k)
      · rw [← hyx]
        exact List.mem_append_right _ (List.mem_singleton.2 rfl)
      · exact List.mem_append_left _ ((minB_iff.1 h2).2 y hy hyx hf)
theorem ext_place (hF : OrdP n F) (hn : n ≤ 10) {i : Nat} (hi : i ≤ n) : stL n ((extL n F n).take i) ∈ dsL n F := by
  rw [ext_take n i hi, ds_mem hn]
  unfold downB
  rw [setB_iff.2 (stL_set _), Bool.true_and, tt_iff]
  intro x hx y hy hf
  rw [stL_mem (ext_rng hF i hi)] at hx ⊢
  exact ext_down hF i hi x hx y hy hf
end
end Go.Proofs.YtkmgbdljiajlaaaGreatDoor
namespace Go.Proofs.YtkmgbdljiajlaaaGreatDoor
open Go.RowKit

section
variable {B : Nat}
/-- A cursor in block g: its code stands in another block, it has gone on by t bytes at most. -/
def CurB (B : Nat) (w : World) (g t : Nat) : Prop := ∃ (A : Option Addr) (n c : Nat) (a : Nat) (s : Int), Blk w g 47 #[.slice A n c, .int .i64 a, .int .u64 s] ∧ n ≤ 65536 ∧ a ≤ t ∧ 0 ≤ s ∧ s < 18446744073709551616 ∧
  (0 < n → ∃ b o, A = some ⟨b, o, none⟩ ∧ b ≠ g ∧ b < B ∧ ∀ i, i < n → ∃ x : Nat, x < 256 ∧ w.cell? ⟨b, o + i, none⟩ = some (.int .u8 x))
theorem grown_setB {w w' : World} {g : Nat} (h : w.grownBy w' (some g)) {p : Addr} (hp : p.block = g) (v : Value) : w.grownBy (w'.setCell p v) (some g) :=
  ⟨h.os, h.tape, h.output, by simpa using h.size, fun k hk hne => (Below.heap_setCell w' p v k (by intro he; rw [he, hp] at hne; exact hne rfl)).trans (h.block k hk hne)⟩
theorem grown_reflB (w : World) (r : Option Nat) : w.grownBy w r := ⟨rfl, rfl, rfl, Nat.le_refl _, fun _ _ _ => rfl⟩
theorem grown_transB {w w1 w2 : World} {r : Option Nat} (h : w.grownBy w1 r) (k : w1.grownBy w2 r) : w.grownBy w2 r :=
  ⟨k.os.trans h.os, k.tape.trans h.tape, k.output.trans h.output, Nat.le_trans h.size k.size, fun b hb hne => (k.block b (Nat.lt_of_lt_of_le hb h.size) hne).trans (h.block b hb hne)⟩
theorem CurB.mono {w : World} {g t t' : Nat} (h : CurB B w g t) (ht : t ≤ t') : CurB B w g t' := by
  obtain ⟨A, n, c, a, s, h1, h2, h3, h4⟩ := h
  exact ⟨A, n, c, a, s, h1, h2, by omega, h4⟩
theorem CurB.next_ {w w' : World} {g t : Nat} (h : CurB B w g t) (hb : Below w.heap.size w w') : CurB B w' g t := by
  obtain ⟨A, n, c, a, s, h1, h2, h3, h4, h5, h6⟩ := h
  refine ⟨A, n, c, a, s, h1.next hb, h2, h3, h4, h5, fun hn => ?_⟩
  obtain ⟨b, o, e, hne, hbB, hc⟩ := h6 hn
  exact ⟨b, o, e, hne, hbB, fun i hi => by
    obtain ⟨x, hx, hcx⟩ := hc i hi
    exact ⟨x, hx, (hb.cell (cell_lt hcx)).trans hcx⟩⟩

theorem u64_rangeB (x : Int) : 0 ≤ IntKind.u64.wrap x ∧ IntKind.u64.wrap x < 18446744073709551616 := by
  unfold IntKind.wrap
  simp [IntKind.signed, IntKind.bits]
  omega
theorem low_byteB (U : Int) (h0 : 0 ≤ U) (h1 : U < 18446744073709551616) : ∃ y : Nat, y < 256 ∧ wrap64 (bits BinOp.and IntKind.u64 (U / 1099511627776) 255) = y := by
  refine ⟨(U / 1099511627776).toNat &&& 255, Nat.lt_succ_of_le (Nat.and_le_right), ?_⟩
  rw [u64_and _ _ (by omega) (by omega) (by decide) (by decide)]
  have := @Nat.and_le_right (U / 1099511627776).toNat 255
  show wrap64 (((U / 1099511627776).toNat &&& 255 : Nat) : Int) = _
  unfold wrap64
  omega
def NextB (B : Nat) (w : World) (g t : Nat) (e : Ending) (w' : World) : Prop := ∃ x : Nat, x < 256 ∧ e = .returned (.int .i64 x) ∧ CurB B w' g t ∧ w.grownBy w' (some g)

set_option maxRecDepth 20000 in
set_option maxHeartbeats 4000000 in
theorem cnextB_any (g t : Nat) (w : World) (h : CurB B w g t) (ht : t ≤ 1000000000) :
    Calls Tryz.prog 54 #[.pointer (some ⟨g, 0, none⟩)] w (NextB B w g (t + 1)) := by
  obtain ⟨A, n, c, a, s, BX, hn, ha, hs0, hs1, hcode⟩ := h
  have c0 := BX.cell 0
  have c1 := BX.cell 1
  have c2 := BX.cell 2
  have f1 := BX.frozen 1
  have f2 := BX.frozen 2
  simp at c0 c1 c2
  by_cases hlt : a < n
  · obtain ⟨b, o, rfl, hbg, hbB, hc⟩ := hcode (by omega)
    obtain ⟨x, hx, hcx⟩ := hc a hlt
    have ha0 : (0 : Int) ≤ (a : Int) := by omega
    have ha1 : (a : Int) < (n : Int) := by omega
    have ha2 : (a : Int) ≤ 1000000000 := by omega
    have ha3 : (a : Int) + 1 ≤ (n : Int) := by omega
    have hwx : IntKind.i64.wrap (x : Int) = x := by unfold IntKind.wrap; simp [IntKind.signed, IntKind.bits]; omega
    go_enter Tryz.func54, Tryz.ntmps54
    go_wp2_with fail
    go_still (by kernel_rfl)
    have BX1 : Blk w.drew g 47 #[.slice (some ⟨b, o, none⟩) n c, .int .i64 a, .int .u64 s] := BX.drew
    have hcx1 : w.drew.cell? ⟨b, o + a, none⟩ = some (.int .u8 x) := hcx
    have G1 : w.grownBy w.drew (some g) := ⟨rfl, rfl, rfl, Nat.le_refl _, fun _ _ _ => rfl⟩
    show Exit.then _ _ Exit.normal _ w.drew
    generalize w.drew = w1 at BX1 hcx1 G1 ⊢
    clear c0 c1 c2 f1 f2
    have c0 := BX1.cell 0
    have c1 := BX1.cell 1
    have c2 := BX1.cell 2
    have f1 := BX1.frozen 1
    have f2 := BX1.frozen 2
    simp at c0 c1 c2
    go_wp2_with fail
    go_still (by kernel_rfl)
    have BX2 : Blk w1.drew g 47 #[.slice (some ⟨b, o, none⟩) n c, .int .i64 a, .int .u64 s] := BX1.drew
    have G2 : w.grownBy w1.drew (some g) := grown_transB G1 ⟨rfl, rfl, rfl, Nat.le_refl _, fun _ _ _ => rfl⟩
    show Exit.then _ _ Exit.normal _ w1.drew
    generalize w1.drew = w2 at BX2 G2 ⊢
    clear c0 c1 c2 f1 f2
    have c0 := BX2.cell 0
    have c1 := BX2.cell 1
    have c2 := BX2.cell 2
    have f1 := BX2.frozen 1
    have f2 := BX2.frozen 2
    simp at c0 c1 c2
    go_wp2_with fail
    obtain ⟨U, HU⟩ : ∃ U, Hid (IntKind.u64.wrap (IntKind.u64.wrap (IntKind.u64.wrap (s * 6364136223846793005) + ↑x) + 550289) = U) := ⟨_, rfl⟩
    have hU : 0 ≤ U ∧ U < 18446744073709551616 := by rw [← HU.out]; exact u64_rangeB _
    rw [HU.out]
    have BX3 : Blk ((w2.setCell ⟨g, 1, none⟩ (.int .i64 ((a : Int) + 1))).setCell ⟨g, 2, none⟩ (.int .u64 U)) g 47 #[.slice (some ⟨b, o, none⟩) n c, .int .i64 ((a + 1 : Nat) : Int), .int .u64 U] := by
      have h2 := (BX2.set_ 1 (.int .i64 ((a : Int) + 1))).set_ 2 (.int .u64 U)
      simpa using h2
    have G3 := grown_setB (grown_setB G2 (p := ⟨g, 1, none⟩) rfl (.int .i64 ((a : Int) + 1))) (p := ⟨g, 2, none⟩) rfl (.int .u64 U)
    generalize (w2.setCell ⟨g, 1, none⟩ (.int .i64 ((a : Int) + 1))).setCell ⟨g, 2, none⟩ (.int .u64 U) = w3 at BX3 G3 ⊢
    clear c0 c1 c2 f1 f2
    have c0 := BX3.cell 0
    have c1 := BX3.cell 1
    simp at c0 c1
    go_still (by kernel_rfl)
    have BX4 : Blk w3.drew g 47 #[.slice (some ⟨b, o, none⟩) n c, .int .i64 ((a + 1 : Nat) : Int), .int .u64 U] := BX3.drew
    have G4 : w.grownBy w3.drew (some g) := grown_transB G3 ⟨rfl, rfl, rfl, Nat.le_refl _, fun _ _ _ => rfl⟩
    show Exit.then _ _ Exit.normal _ w3.drew
    generalize w3.drew = w4 at BX4 G4 ⊢
    go_wp2_with fail
    go_ret
    exact ⟨x, hx, rfl, ⟨_, n, c, a + 1, U, BX4, hn, by omega, hU.1, hU.2, fun _ => ⟨b, o, rfl, hbg, hbB, fun i hi => by
      obtain ⟨y, hy, hcy⟩ := hc i hi
      exact ⟨y, hy, (World.cell?_of_block (G4.block b (cell_lt hcy) (by simpa using hbg))).trans hcy⟩⟩⟩, G4⟩
  · have ha0 : (0 : Int) ≤ (a : Int) := by omega
    have ha1 : ¬ (a : Int) < (n : Int) := by omega
    have ha2 : (a : Int) ≤ 1000000000 := by omega
    have ha3 : ¬ (a : Int) + 1 ≤ (n : Int) := by omega
    go_enter Tryz.func54, Tryz.ntmps54
    go_wp2_with fail
    go_still (by kernel_rfl)
    have BX2 : Blk w.drew g 47 #[.slice A n c, .int .i64 a, .int .u64 s] := BX.drew
    have G2 : w.grownBy w.drew (some g) := ⟨rfl, rfl, rfl, Nat.le_refl _, fun _ _ _ => rfl⟩
    show Exit.then _ _ Exit.normal _ w.drew
    generalize w.drew = w2 at BX2 G2 ⊢
    clear c0 c1 c2 f1 f2
    have c0 := BX2.cell 0
    have c1 := BX2.cell 1
    have c2 := BX2.cell 2
    have f1 := BX2.frozen 1
    have f2 := BX2.frozen 2
    simp at c0 c1 c2
    go_wp2_with fail
    obtain ⟨U, HU⟩ : ∃ U, Hid (IntKind.u64.wrap (IntKind.u64.wrap (IntKind.u64.wrap (s * 6364136223846793005)) + 550289) = U) := ⟨_, rfl⟩
    have hU : 0 ≤ U ∧ U < 18446744073709551616 := by rw [← HU.out]; exact u64_rangeB _
    rw [HU.out]
    have BX3 : Blk ((w2.setCell ⟨g, 1, none⟩ (.int .i64 ((a : Int) + 1))).setCell ⟨g, 2, none⟩ (.int .u64 U)) g 47 #[.slice A n c, .int .i64 ((a + 1 : Nat) : Int), .int .u64 U] := by
      have h2 := (BX2.set_ 1 (.int .i64 ((a : Int) + 1))).set_ 2 (.int .u64 U)
      simpa using h2
    have G3 := grown_setB (grown_setB G2 (p := ⟨g, 1, none⟩) rfl (.int .i64 ((a : Int) + 1))) (p := ⟨g, 2, none⟩) rfl (.int .u64 U)
    generalize (w2.setCell ⟨g, 1, none⟩ (.int .i64 ((a : Int) + 1))).setCell ⟨g, 2, none⟩ (.int .u64 U) = w3 at BX3 G3 ⊢
    clear c0 c1 c2 f1 f2
    have c0 := BX3.cell 0
    have c1 := BX3.cell 1
    simp at c0 c1
    go_still (by kernel_rfl)
    have BX4 : Blk w3.drew g 47 #[.slice A n c, .int .i64 ((a + 1 : Nat) : Int), .int .u64 U] := BX3.drew
    have G4 : w.grownBy w3.drew (some g) := grown_transB G3 ⟨rfl, rfl, rfl, Nat.le_refl _, fun _ _ _ => rfl⟩
    show Exit.then _ _ Exit.normal _ w3.drew
    generalize w3.drew = w4 at BX4 G4 ⊢
    have c2 := BX4.cell 2
    simp at c2
    go_wp2_with fail
    obtain ⟨y, hy, hye⟩ := low_byteB U hU.1 hU.2
    go_ret
    refine ⟨y, hy, ret_int hye, ⟨_, n, c, a + 1, U, BX4, hn, by omega, hU.1, hU.2, fun hn => ?_⟩, G4⟩
    obtain ⟨b, o, e, hbg, hbB, hc⟩ := hcode hn
    exact ⟨b, o, e, hbg, hbB, fun i hi => by
      obtain ⟨y, hy, hcy⟩ := hc i hi
      exact ⟨y, hy, (World.cell?_of_block (G4.block b (cell_lt hcy) (by simpa using hbg))).trans hcy⟩⟩
def PickB (B : Nat) (w : World) (g t : Nat) (n : Int) (e : Ending) (w' : World) : Prop := ∃ x : Nat, ((x : Int) < n ∨ x = 0) ∧ e = .returned (.int .i64 x) ∧ CurB B w' g t ∧ w.grownBy w' (some g)

theorem mod_natB {x n : Int} (hn : 0 < n) : ∃ z : Nat, (z : Int) < n ∧ x % n = z := by
  have h1 := Int.emod_nonneg x (show n ≠ 0 by omega)
  have h2 := Int.emod_lt_of_pos x hn
  exact ⟨(x % n).toNat, by omega, by omega⟩

set_option maxRecDepth 20000 in
set_option maxHeartbeats 4000000 in
theorem pickB_any (g t : Nat) (n : Int) (w : World) (h : CurB B w g t) (ht : t ≤ 999999998) (hn : n ≤ 9223372036854775807) :
    Calls Tryz.prog 23 #[.pointer (some ⟨g, 0, none⟩), .int .i64 n] w (PickB B w g (t + 2) n) := by
  go_enter Tryz.func23, Tryz.ntmps23
  by_cases h1 : n ≤ 1
  · go_wp2_with fail
    go_ret
    exact ⟨0, .inr rfl, rfl, h.mono (by omega), grown_reflB _ _⟩
  · go_wp2_with fail
    refine (cnextB_any g t _ h (by omega)).mono ?_
    rintro e w1 ⟨x, hx, rfl, hc1, hg1⟩
    have hx0 : (0 : Int) ≤ (x : Int) := by omega
    have hx1 : (x : Int) < 256 := by omega
    by_cases h2 : 200 < n
    · go_wp2_with fail
      refine (cnextB_any g (t + 1) _ hc1 (by omega)).mono ?_
      rintro e w2 ⟨y, hy, rfl, hc2, hg2⟩
      have hy0 : (0 : Int) ≤ (y : Int) := by omega
      have hy1 : (y : Int) < 256 := by omega
      have hG := grown_transB hg1 hg2
      go_wp2_with fail
      obtain ⟨z, hz, hze⟩ := mod_natB (x := (x : Int) * 256 + y) (n := n) (by omega)
      go_ret
      exact ⟨z, .inl hz, ret_int hze, hc2, hG⟩
    · go_wp2_with fail
      obtain ⟨z, hz, hze⟩ := mod_natB (x := (x : Int)) (n := n) (by omega)
      go_ret
      exact ⟨z, .inl hz, ret_int hze, hc1.mono (by omega), hg1⟩

set_option maxHeartbeats 1000000 in
theorem oneB_any (g t : Nat) (n : Int) (w : World) (h : CurB B w g t) (ht : t ≤ 999999998) (hn : n ≤ 9223372036854775807) :
    Calls Tryz.prog 49 #[.pointer (some ⟨g, 0, none⟩), .int .i64 n] w (fun e w' => ∃ b, e = .returned (.bool b) ∧ CurB B w' g (t + 2) ∧ w.grownBy w' (some g)) := by
  go_enter Tryz.func49, Tryz.ntmps49
  go_wp2_with fail
  refine (pickB_any g t n _ h ht hn).mono ?_
  rintro e w1 ⟨x, -, rfl, hc1, hg1⟩
  go_wp2_with fail
  go_ret
  exact ⟨_, rfl, hc1, hg1⟩

/-- A list of numbers that may be picked from. -/
def NumsP (P : Int → Prop) (w : World) (g b n : Nat) : Prop := b ≠ g ∧ 0 < n ∧ n ≤ 1000 ∧ ∀ i, i < n → ∃ x : Int, P x ∧ w.cell? ⟨b, i, none⟩ = some (.int .i64 x)
set_option maxHeartbeats 1000000 in
theorem amongB_any (g t b n c : Nat) (w : World) (h : CurB B w g t) (ht : t ≤ 999999998) (P : Int → Prop) (hl : NumsP P w g b n) :
    Calls Tryz.prog 22 #[.pointer (some ⟨g, 0, none⟩), .slice (some ⟨b, 0, none⟩) n c] w (fun e w' => ∃ x : Int, P x ∧ e = .returned (.int .i64 x) ∧ CurB B w' g (t + 2) ∧ w.grownBy w' (some g)) := by
  obtain ⟨hbg, hn0, hn1, hc⟩ := hl
  go_enter Tryz.func22, Tryz.ntmps22
  go_wp2_with fail
  refine (pickB_any g t n _ h ht (by omega)).mono ?_
  rintro e w1 ⟨x, hx, rfl, hc1, hg1⟩
  have hxn : x < n := by omega
  have hx0 : (0 : Int) ≤ (x : Int) := by omega
  have hx1 : (x : Int) < (n : Int) := by omega
  obtain ⟨y, hy0, hcs⟩ := hc x hxn
  have hcs1 : w1.cell? ⟨b, x, none⟩ = some (.int .i64 y) := (World.cell?_of_block (hg1.block b (cell_lt hcs) (by simpa using hbg))).trans hcs
  clear hx
  go_wp2_with fail
  go_ret
  exact ⟨y, hy0, rfl, hc1, hg1⟩
theorem CurB.lt {w : World} {g t : Nat} (h : CurB B w g t) : g < w.heap.size := by
  obtain ⟨A, n, c, a, s, h1, -⟩ := h
  exact h1.lt
theorem CurB.grown {w w' : World} {g t : Nat} {row : Option Nat} (h : CurB B w g t) (hg : w.grownBy w' row) (hr : ∀ r, row = some r → B ≤ r ∧ r ≠ g) : CurB B w' g t := by
  obtain ⟨A, n, c, a, s, h1, h2, h3, h4, h5, h6⟩ := h
  refine ⟨A, n, c, a, s, h1.grown hg (fun e => (hr g e.symm).2 rfl), h2, h3, h4, h5, fun hn => ?_⟩
  obtain ⟨b, o, e, hne, hbB, hc⟩ := h6 hn
  exact ⟨b, o, e, hne, hbB, fun i hi => by
    obtain ⟨x, hx, hcx⟩ := hc i hi
    exact ⟨x, hx, (World.cell?_of_block (hg.block b (cell_lt hcx) (fun e => by have := (hr b e.symm).1; omega))).trans hcx⟩⟩
def CodeB (w : World) (A : Option Addr) (n : Nat) : Prop := n ≤ 65536 ∧ (0 < n → ∃ b o, A = some ⟨b, o, none⟩ ∧ ∀ i, i < n → ∃ x : Nat, x < 256 ∧ w.cell? ⟨b, o + i, none⟩ = some (.int .u8 x))
theorem CodeB.next {w w' : World} {A : Option Addr} {n : Nat} (h : CodeB w A n) (hb : Below w.heap.size w w') : CodeB w' A n := by
  refine ⟨h.1, fun hn => ?_⟩
  obtain ⟨b, o, e, hc⟩ := h.2 hn
  exact ⟨b, o, e, fun i hi => by
    obtain ⟨x, hx, hcx⟩ := hc i hi
    exact ⟨x, hx, (hb.cell (cell_lt hcx)).trans hcx⟩⟩
theorem CurB.made {w : World} {A : Option Addr} {n c : Nat} (h : CodeB w A n) {k : Nat} (hk : k = w.heap.size) : CurB k (w.alloc (.cells #[.slice A n c, .int .i64 0, .int .u64 0] 47)) k 0 := by
  subst hk
  refine ⟨A, n, c, 0, 0, Blk.new _ _ _, h.1, Nat.zero_le _, by omega, by omega, fun hn => ?_⟩
  obtain ⟨b, o, e, hc⟩ := h.2 hn
  obtain ⟨x0, -, hc0⟩ := hc 0 hn
  have hlt := cell_lt hc0
  exact ⟨b, o, e, Nat.ne_of_lt hlt, hlt, fun i hi => by
    obtain ⟨x, hx, hcx⟩ := hc i hi
    exact ⟨x, hx, ((below_box w _).cell (cell_lt hcx)).trans hcx⟩⟩
end
end Go.Proofs.YtkmgbdljiajlaaaGreatDoor
namespace Go.Proofs.YtkmgbdljiajlaaaGreatDoor
open Go.RowKit

theorem growB_trans {w w1 w2 : World} {r : Option Nat} (h : w.grownBy w1 r) (k : w1.grownBy w2 r) : w.grownBy w2 r :=
  ⟨k.os.trans h.os, k.tape.trans h.tape, k.output.trans h.output, Nat.le_trans h.size k.size, fun b hb hne => (k.block b (Nat.lt_of_lt_of_le hb h.size) hne).trans (h.block b hb hne)⟩
theorem growB_own {w w1 w2 : World} {r row : Option Nat} (h : w.grownBy w1 r) (k : w1.grownBy w2 row) (hr : ∀ q, row = some q → w.heap.size ≤ q) : w.grownBy w2 r :=
  ⟨k.os.trans h.os, k.tape.trans h.tape, k.output.trans h.output, Nat.le_trans h.size k.size, fun b hb hne => (k.block b (Nat.lt_of_lt_of_le hb h.size) (fun e => by have := hr b e.symm; omega)).trans (h.block b hb hne)⟩
theorem growB_box {w w1 : World} {r : Option Nat} (h : w.grownBy w1 r) (o : Obj) : w.grownBy (w1.alloc o) r :=
  ⟨h.os, h.tape, h.output, Nat.le_trans h.size (by simp), fun b hb hne => (Below.heap_alloc w1 o b (Nat.lt_of_lt_of_le hb h.size)).trans (h.block b hb hne)⟩
theorem own_grownG {w w' : World} {base size n g : Nat} {e : TypeId} {v : Value} {xs : List Value} (h : w.ownsRow base e size v n xs) (hg : w.grownBy w' (some g)) (hb : g < base) : w'.ownsRow base e size v n xs :=
  own_same h fun b hv => hg.block b (h.lt b hv).2 (fun e => by injection e with e; have := (h.lt b hv).1; omega)
theorem rdl_grown {α : Type} {R : World → Value → α → Prop} {w w' : World} {A : Option Addr} {n g : Nat} {xs : List α} (h : RdL R w A n xs) (hA : ∀ b o, A = some ⟨b, o, none⟩ → b ≠ g) (hR : ∀ v x, R w v x → R w' v x) (hg : w.grownBy w' (some g)) : RdL R w' A n xs :=
  ⟨h.1, h.2.1, fun k x hk => by
    obtain ⟨b, o, v, e, hc, hr⟩ := h.2.2 k x hk
    exact ⟨b, o, v, e, (World.cell?_of_block (hg.block b (cell_lt hc) (fun e2 => hA b o e (by injection e2)))).trans hc, hR v x hr⟩⟩
theorem own_len_leB {w : World} {base size n : Nat} {e : TypeId} {v : Value} {ys : List Value} (h : w.ownsRow base e size v n ys) : n ≤ maxLen := by
  rcases h.2 with ⟨_, h0⟩ | ⟨g, cap, cur, _, _, _, h1, h2, _⟩
  · omega
  · omega
theorem NumsP.grown {P : Int → Prop} {w w' : World} {g b n : Nat} (h : NumsP P w g b n) (hg : w.grownBy w' (some g)) : NumsP P w' g b n :=
  ⟨h.1, h.2.1, h.2.2.1, fun i hi => by
    obtain ⟨x, hx, hc⟩ := h.2.2.2 i hi
    exact ⟨x, hx, (World.cell?_of_block (hg.block b (cell_lt hc) (by simpa using h.1))).trans hc⟩⟩
theorem toGr {w w' : World} {r : Option Nat} (h : Below w.heap.size w w') : w.grownBy w' r := ⟨h.os, h.tape, h.output, h.size, fun b hb _ => h.block b hb⟩
def Off (q : Nat) (A : Option Addr) : Prop := ∀ b o, A = some ⟨b, o, none⟩ → b ≠ q
def RG (q : Nat) (w : World) (v : Value) (xs : List Int) : Prop := ∃ A n c, v = .slice A n c ∧ RdL RI w A n xs ∧ Off q A
theorem RdL.toRV {q : Nat} {w : World} {A : Option Addr} {n : Nat} {xss : List (List Int)} (h : RdL (RG q) w A n xss) : RdL (RV RI) w A n xss :=
  ⟨h.1, h.2.1, fun k x hk => by
    obtain ⟨b, o, v, e, hc, A', n', c', e', hr, -⟩ := h.2.2 k x hk
    exact ⟨b, o, v, e, hc, A', n', c', e', hr⟩⟩
theorem own_offG {q : Nat} {w : World} {base : Nat} {e : TypeId} {size : Nat} {A : Option Addr} {n c : Nat} {xs : List Value} (h : w.ownsRow base e size (.slice A n c) n xs) (hq : q < base) : Off q A := by
  intro b o hA
  subst hA
  rcases h.2 with ⟨h0, h1⟩ | ⟨g, cap, cur, hv, hb, _, hnc, _⟩
  · injection h0 with h0; cases h0
  · injection hv with hA _ hc
    simp only [Option.some.injEq, Addr.mk.injEq, and_true] at hA
    omega
section
variable {lo g n : Nat} {w w1 : World} {v : Value} {F : List (List Int)}
theorem OwM.grownI (h : OwM 27 3 (.int .i64) lo w v n F) (hg : w.grownBy w1 (some g)) (hl : g < lo) : OwM 27 3 (.int .i64) lo w1 v n F := by
  obtain ⟨vs, h1, h2, h3, h4⟩ := h
  exact ⟨vs, own_grownG h1 hg hl, h2, fun k u xs hu hx => own_grownG (h3 k u xs hu hx) hg hl, h4⟩
theorem RdL.grownG {w' : World} {A : Option Addr} (h : RdL (RG g) w A n F) (hA : Off g A) (hg : w.grownBy w' (some g)) : RdL (RG g) w' A n F :=
  rdl_grown h hA (fun _ _ ⟨A', n', c', e, hr, ho⟩ => ⟨A', n', c', e, rdl_grown hr ho (fun _ _ h => h) hg, ho⟩) hg
end
theorem ints_snocG (xs : List Int) (y : Int) : ints xs ++ [.int .i64 y] = ints (xs ++ [y]) := by simp [ints]
end Go.Proofs.YtkmgbdljiajlaaaGreatDoor
namespace Go.Proofs.YtkmgbdljiajlaaaGreatDoor
open Go.RowKit

theorem rd_one {w : World} {g : Nat} {u : Int} (h : w.cell? ⟨g, 0, none⟩ = some (.int .i64 u)) (hu : -9223372036854775808 ≤ u ∧ u ≤ 9223372036854775807) : RdL RI w (some ⟨g, 0, none⟩) 1 [u] := by
  refine ⟨rfl, by unfold maxLen; omega, fun k x hk => ?_⟩
  have hk1 := (List.getElem?_eq_some_iff.1 hk).1
  simp at hk1
  subst hk1
  simp at hk
  subst hk
  exact ⟨g, 0, .int .i64 u, rfl, h, rfl, hu.1, hu.2⟩
theorem nums3n (w : World) (g : Nat) (n : Nat) (hn : n ≤ 1000) (hg : g < w.heap.size) {k : Nat} (hk : k = w.heap.size) : NumsP (fun x => -1 ≤ x ∧ x ≤ n) (w.alloc (.cells #[.int .i64 0, .int .i64 (-1), .int .i64 n] 3)) g k 3 := by
  subst hk
  refine ⟨by omega, by omega, by omega, fun i hi => ?_⟩
  have hc := (Blk.new w 3 #[.int .i64 0, .int .i64 (-1), .int .i64 n]).cell i
  rcases (by omega : i = 0 ∨ i = 1 ∨ i = 2) with rfl | rfl | rfl
  · exact ⟨0, ⟨by omega, by omega⟩, hc⟩
  · exact ⟨-1, ⟨by omega, by omega⟩, hc⟩
  · exact ⟨n, ⟨by omega, by omega⟩, hc⟩
/-- What drawn names are. -/
def NamD (B n : Nat) (w : World) (g t : Nat) (e : Ending) (w' : World) : Prop := ∃ A m c L, e = .returned (.slice A m c) ∧ w'.ownsRow w.heap.size 3 1 (.slice A m c) m (ints L) ∧ (∀ x ∈ L, -1 ≤ x ∧ x ≤ (n : Int)) ∧ m ≤ n + 1 ∧ CurB B w' g t ∧ w.grownBy w' (some g)
set_option linter.unusedVariables false in
set_option maxRecDepth 20000 in
set_option maxHeartbeats 8000000 in
theorem names2_any (B g t n : Nat) (w : World) (h : CurB B w g t) (hB : B ≤ w.heap.size) (ht : t ≤ 999990000) (hn : n ≤ 100) :
    Calls Tryz.prog 50 #[.pointer (some ⟨g, 0, none⟩), .int .i64 n] w (NamD B n w g (t + 2 * n + 10)) := by
  have hgl := h.lt
  have hb0 := below_box w (.cells #[] 3)
  have hown0 : (w.alloc (.cells #[] 3)).ownsRow w.heap.size 3 1 (.slice (some ⟨w.heap.size, 0, none⟩) 0 0) 0 (ints []) := World.ownsRow_lit w #[] 0 (Nat.le_refl _) (Nat.zero_le _) rfl
  have hc0 := h.next_ hb0
  have hg0 : w.grownBy (w.alloc (.cells #[] 3)) (some g) := growB_box (grown_reflB w _) _
  go_enter Tryz.func50, Tryz.ntmps50
  go_wp2_with fail
  go_loopw [5, 6, 7] (fun v i _ wr => ∃ (q b c : Nat) (L : List Int), q ≤ n ∧ i = .int .i64 q ∧ v = .slice (some ⟨b, 0, none⟩) q c ∧ wr.ownsRow w.heap.size 3 1 (.slice (some ⟨b, 0, none⟩) q c) q (ints L) ∧ (∀ x ∈ L, -1 ≤ x ∧ x ≤ (n : Int)) ∧ CurB B wr g (t + 2 * q) ∧ w.grownBy wr (some g)) (fun _ i _ _ => n - (intOf i).toNat)
  case atStart => exact ⟨0, _, 0, [], Nat.zero_le _, rfl, rfl, hown0, fun x hx => by simp at hx, hc0, hg0⟩
  case round =>
    clear hown0 hc0 hg0 hb0
    obtain ⟨q, b, c, L, hq, rfl, rfl, hown, hL, hcur, hgr⟩ := hrel
    have HL := Lib.hid hL
    clear hL
    have hzr := hgr.size
    by_cases hlt : q < n
    · have hq1 : (q : Int) < (n : Int) := by omega
      have hwr : IntKind.i64.wrap ((q : Int) + 1) = (q : Int) + 1 := by rw [IntKind.wrap_i64]; omega
      have HPK := Lib.hid (pickB_any g (t + 2 * q) ((q : Int) + 1) wr hcur (by omega) (by omega))
      go_wp2_with fail
      refine HPK.out.mono ?_
      rintro e w1 ⟨x, hx, rfl, hc1, hg1⟩
      have hown1 := own_grownG hown hg1 hgl
      have hgr1 := growB_trans hgr hg1
      have hz1 := hgr1.size
      obtain ⟨wo, HWO⟩ : ∃ wo : World, wo = w1 := ⟨_, rfl⟩
      subst HWO
      have hxq : x ≤ q := by omega
      have hqc := sort_cap hown1
      have hk0 : (0 : Int) ≤ (x : Int) := by omega
      have hk1 : (x : Int) ≤ (c : Int) := by omega
      have hk3 : (x : Int) ≤ (q : Int) := by omega
      have hrd := rd_of_own (R := RI) hown1 (RI_ints fun y hy => by have := HL.out y hy; omega)
      have H1 := Lib.hid hrd
      obtain ⟨ad, HIF, H2⟩ : ∃ ad, Hid ((if c = x then some (⟨b, 0, none⟩ : Addr) else some ⟨b, x, none⟩) = ad) ∧ Hid (RdL RI wo ad (q - x) (L.drop x)) := by
        by_cases hq : c = x
        · refine ⟨_, if_pos hq, ?_⟩
          have e0 : q - x = 0 := by omega
          have e1 : L.drop x = [] := List.drop_eq_nil_of_le (by rw [(hrd).1]; omega)
          show RdL RI wo _ _ _
          rw [e0, e1]
          exact ⟨rfl, Nat.zero_le _, fun j x hj => by simp at hj⟩
        · exact ⟨_, if_neg hq, by show RdL RI _ _ _ _; simpa using (hrd).drop x⟩
      clear hx hown hown1 hrd HPK
      go_upto_region 6 with fail
      go_region_law (first
        | (refine step_appAny (R := RI) _ rfl (.tmp 19) (.tmp 22) 27 3 rfl (.int .i64 0) 8 Tryz.underlying27 info_int rfl (by decide) wo.heap.size 0 0 (some ⟨wo.heap.size, 0, none⟩) [] (by rfl) (by first | exact lit0 _ (by simp) | exact (lit0 _ (by simp)).alloc _) (some ⟨b, 0, none⟩) x c (L.take x) (fun y => .int .i64 y) (fun _ => rfl) (by rfl) ((H1.out.take (k := x) (by omega)).next stab_RI (by first | exact (below_drewN (Below.refl _ _) _).alloc (by simp) _ | exact ((below_drewN (Below.refl _ _) _).alloc (by simp) _).alloc (by first | (simp; done) | (simp; omega)) _)) (fun _ _ _ hr => hr.1) (by omega) (by first | (simp; done) | (simp; omega)) ?_; intro A2 c2 w2 hown2 hg2 hb2; simp only [Nat.zero_add, List.nil_append] at hown2)
          | (refine step_appAny (R := RI) _ rfl (.tmp 19) (.tmp 22) 27 3 rfl (.int .i64 0) 8 Tryz.underlying27 info_int rfl (by decide) wo.heap.size 0 0 (some ⟨wo.heap.size + 1, 0, none⟩) [] (by rfl) (lit1 _ (by simp)) (some ⟨b, 0, none⟩) x c (L.take x) (fun y => .int .i64 y) (fun _ => rfl) (by rfl) ((H1.out.take (k := x) (by omega)).next stab_RI (by first | exact (below_drewN (Below.refl _ _) _).alloc (by simp) _ | exact ((below_drewN (Below.refl _ _) _).alloc (by simp) _).alloc (by first | (simp; done) | (simp; omega)) _)) (fun _ _ _ hr => hr.1) (by omega) (by first | (simp; done) | (simp; omega)) ?_; intro A2 c2 w2 hown2 hg2 hb2; simp only [Nat.zero_add, List.nil_append] at hown2)
          | (refine step_appAny (R := RI) _ rfl (.tmp 23) (.tmp 25) 27 3 rfl (.int .i64 0) 8 Tryz.underlying27 info_int rfl (by decide) wo.heap.size x c2 A2 (ints (L.take x)) (by rfl) (by exact hown2.alloc _) (some ⟨w2.heap.size, 0, none⟩) 1 1 [(q : Int)] (fun y => .int .i64 y) (fun _ => rfl) (by rfl) (rd_one (cell_new _ rfl) (by omega)) (fun _ _ _ hr => hr.1) (by omega) (by have h1 := hb2.size; first | (simp at h1; omega) | (simp at h1 ⊢; omega) | (simp; omega) | omega) ?_; intro A3 c3 w3 hown3 hg3 hb3; have F3 : Below wo.heap.size wo w3 := (by refine Below.trans ?_ hb3; first | (refine Below.trans ?_ hb2; first | exact (below_drewN (Below.refl _ _) _).alloc (by simp) _ | exact ((below_drewN (Below.refl _ _) _).alloc (by simp) _).alloc (by first | (simp; done) | (simp; omega)) _) | (refine Below.alloc ?_ (by have h1 := hb2.size; first | (simp at h1; omega) | omega) _; refine Below.trans ?_ hb2; first | exact (below_drewN (Below.refl _ _) _).alloc (by simp) _ | exact ((below_drewN (Below.refl _ _) _).alloc (by simp) _).alloc (by first | (simp; done) | (simp; omega)) _)))
          | (refine step_appAny (R := RI) _ rfl (.tmp 23) (.tmp 25) 27 3 rfl (.int .i64 0) 8 Tryz.underlying27 info_int rfl (by decide) wo.heap.size x c2 A2 (ints (L.take x)) (by rfl) (by exact hown2) (some ⟨wo.heap.size + 1, 0, none⟩) 1 1 [(q : Int)] (fun y => .int .i64 y) (fun _ => rfl) (by rfl) (rd_one (hg2.cell (v := .int .i64 (q : Int)) (cell_new _ (by simp)) (by simp [Value.ownBlock])) (by omega)) (fun _ _ _ hr => hr.1) (by omega) (by have h1 := hb2.size; first | (simp at h1; omega) | (simp at h1 ⊢; omega) | (simp; omega) | omega) ?_; intro A3 c3 w3 hown3 hg3 hb3; have F3 : Below wo.heap.size wo w3 := (by refine Below.trans ?_ hb3; first | (refine Below.trans ?_ hb2; first | exact (below_drewN (Below.refl _ _) _).alloc (by simp) _ | exact ((below_drewN (Below.refl _ _) _).alloc (by simp) _).alloc (by first | (simp; done) | (simp; omega)) _) | (refine Below.alloc ?_ (by have h1 := hb2.size; first | (simp at h1; omega) | omega) _; refine Below.trans ?_ hb2; first | exact (below_drewN (Below.refl _ _) _).alloc (by simp) _ | exact ((below_drewN (Below.refl _ _) _).alloc (by simp) _).alloc (by first | (simp; done) | (simp; omega)) _)))
          | (refine step_appAny (R := RI) _ rfl (.tmp 23) (.tmp 25) 27 3 rfl (.int .i64 0) 8 Tryz.underlying27 info_int rfl (by decide) wo.heap.size x c2 A2 (ints (L.take x)) (by rfl) (by exact hown2) (some ⟨wo.heap.size, 0, none⟩) 1 1 [(q : Int)] (fun y => .int .i64 y) (fun _ => rfl) (by rfl) (rd_one (hg2.cell (v := .int .i64 (q : Int)) (cell_new2 _ _ (by simp)) (by simp [Value.ownBlock])) (by omega)) (fun _ _ _ hr => hr.1) (by omega) (by have h1 := hb2.size; first | (simp at h1; omega) | (simp at h1 ⊢; omega) | (simp; omega) | omega) ?_; intro A3 c3 w3 hown3 hg3 hb3; have F3 : Below wo.heap.size wo w3 := (by refine Below.trans ?_ hb3; first | (refine Below.trans ?_ hb2; first | exact (below_drewN (Below.refl _ _) _).alloc (by simp) _ | exact ((below_drewN (Below.refl _ _) _).alloc (by simp) _).alloc (by first | (simp; done) | (simp; omega)) _) | (refine Below.alloc ?_ (by have h1 := hb2.size; first | (simp at h1; omega) | omega) _; refine Below.trans ?_ hb2; first | exact (below_drewN (Below.refl _ _) _).alloc (by simp) _ | exact ((below_drewN (Below.refl _ _) _).alloc (by simp) _).alloc (by first | (simp; done) | (simp; omega)) _)))
          | (refine step_appAny (R := RI) _ rfl (.tmp 26) (.tmp 29) 27 3 rfl (.int .i64 0) 8 Tryz.underlying27 info_int rfl (by decide) wo.heap.size (x + 1) c3 A3 (ints (L.take x) ++ [.int .i64 (q : Int)]) (by rfl) (by exact hown3) ad (q - x) (c - x) (L.drop x) (fun y => .int .i64 y) (fun _ => rfl) (by first | rfl | (show Value.slice (if c = x then _ else _) _ _ = _; rw [HIF.out])) (H2.out.next stab_RI F3) (fun _ _ _ hr => hr.1) (by omega) (by exact F3.size) ?_; intro A4 c4 w4 hown4 hg4 hb4))
      all_goals
        have e1 : x + 1 + (q - x) = q + 1 := by omega
        rw [e1] at hown4
        have eL : ints (L.take x) ++ [.int .i64 (q : Int)] ++ (L.drop x).map (fun y => .int .i64 y) = ints (L.take x ++ (q : Int) :: L.drop x) := by simp [ints]
        rw [eL] at hown4
        obtain ⟨g4, hA4, -, -⟩ := own_form hown4 (by omega)
        subst hA4
        have HO4 := Lib.hid hown4
        have HF4 := Lib.hid (F3.trans hb4)
        have HE1 := Lib.hid e1
        clear hown4 eL e1
        have hTc := HF4.out
        go_wp2_with fail
        go_roundw
        case rel => exact ⟨q + 1, g4, c4, _, by omega, by go_num, by rw [HE1.out], own_mono HO4.out hz1, fun y hy => by
          rcases List.mem_append.1 hy with hy | hy
          · exact HL.out y (List.mem_of_mem_take hy)
          · rcases List.mem_cons.1 hy with rfl | hy
            · omega
            · exact HL.out y (List.mem_of_mem_drop hy), (hc1.next_ hTc).mono (by omega), growB_trans hgr1 (toGr hTc)⟩
        case measure => simp [intOf]; omega
    · obtain rfl : q = n := by omega
      have hq1 : ¬ (q : Int) < (q : Int) := by omega
      have HPK := Lib.hid (pickB_any g (t + 2 * q) 24 wr hcur (by omega) (by omega))
      go_wp2_with fail
      refine HPK.out.mono ?_
      rintro e w1 ⟨x, hx, rfl, hc1, hg1⟩
      have hown1 := own_grownG hown hg1 hgl
      have hgr1 := growB_trans hgr hg1
      have hz1 := hgr1.size
      clear hown HPK hx
      rcases (by omega : (x : Int) = 0 ∨ (x : Int) = 1 ∨ 1 < (x : Int)) with hx | hx | hx
      · have hx0 : ((x : Int) == 0) = true := by simp; omega
        have hx1 : ((x : Int) == 1) = false := by simp; omega
        go_wp2_with (at_builtin; refine app1 w1 rfl _ _ 27 3 rfl (.int .i64 0) 8 Tryz.underlying27 info_int rfl (by decide) w.heap.size q c (some ⟨b, 0, none⟩) (ints L) rfl hown1 (.int .i64 q) rfl rfl (by omega) hz1 ?_; intro A2 c2 w2 hown2 hg2 hb2)
        have HO := Lib.hid hown2
        clear hown2
        go_ret
        refine ⟨A2, q + 1, c2, L ++ [(q : Int)], rfl, ?_, fun y hy => ?_, by omega, (hc1.grown hg2 fun r hr => by have := (hown1.lt r hr).1; omega).mono (by omega), growB_own hgr1 hg2 fun r hr => (hown1.lt r hr).1⟩
        · rw [← ints_snocG]; exact HO.out
        · rcases List.mem_append.1 hy with hy | hy
          · exact HL.out y hy
          · rw [List.mem_singleton.1 hy]; omega
      · have hx0 : ((x : Int) == 0) = false := by simp; omega
        have hx1 : ((x : Int) == 1) = true := by simp; omega
        by_cases hn0 : 0 < q
        · have hn1 : (0 : Int) < (q : Int) := by omega
          have HPK := Lib.hid (pickB_any g (t + 2 * q + 2) (q : Int) w1 hc1 (by omega) (by omega))
          go_wp2_with fail
          refine HPK.out.mono ?_
          rintro e w2 ⟨y, hy, rfl, hc2, hg2⟩
          have hown2 := own_grownG hown1 hg2 hgl
          have hgr2 := growB_trans hgr1 hg2
          obtain ⟨w3, HW3⟩ : ∃ wb, Hid (wb = w2.alloc (.cells #[.int .i64 0, .int .i64 (-1), .int .i64 q] 3)) := ⟨_, rfl⟩
          have hb3 : Below w2.heap.size w2 w3 := by rw [HW3.out]; exact below_box _ _
          have hnum : NumsP (fun x => -1 ≤ x ∧ x ≤ (q : Int)) w3 g w2.heap.size 3 := by rw [HW3.out]; exact nums3n w2 g q (by omega) hc2.lt rfl
          have HAM := Lib.hid (amongB_any g (t + 2 * q + 2 + 2) w2.heap.size 3 3 w3 (hc2.next_ hb3) (by omega) _ hnum)
          have hown3 := own_next hown2 hb3
          have hgr3 := growB_trans hgr2 (toGr (r := some g) hb3)
          have hyq : y < q := by omega
          clear hown1 hown2 hnum HPK hy
          go_wp2_with fail
          rw [← HW3.out]
          refine HAM.out.mono ?_
          rintro e w4 ⟨z, hz, rfl, hc4, hg4⟩
          have hown4 := own_grownG hown3 hg4 hgl
          have hgr4 := growB_trans hgr3 hg4
          have hy0 : (0 : Int) ≤ (y : Int) := by omega
          have hy1 : (y : Int) < (q : Int) := by omega
          have hfz := hown4.frozenAt y
          obtain ⟨v0, hcl⟩ : ∃ v0, w4.cell? ⟨b, y, none⟩ = some v0 := ⟨_, (hown4.cellAt y (by omega)).trans (List.getElem?_eq_getElem (by have := hown4.1; omega))⟩
          obtain ⟨hst, -⟩ := hown4.stored y (.int .i64 z)
          have hG4 : w4.grownBy (w4.setCell ⟨b, y, none⟩ (.int .i64 z)) (some b) := grown_setB (grown_reflB w4 _) rfl _
          have hbw : w.heap.size ≤ b := (hown4.lt b rfl).1
          have hc5 := (hc4.grown hG4 fun r hr => by injection hr with hr; omega).mono (t' := t + 2 * q + 10) (by omega)
          have hgr5 := growB_own hgr4 hG4 fun r hr => by injection hr with hr; omega
          have HST := Lib.hid hst
          clear hown3 hown4 hst HAM
          go_wp2_with fail
          go_ret
          refine ⟨_, q, c, L.set y z, rfl, ?_, fun v hv => ?_, by omega, hc5, hgr5⟩
          · have e : ints (L.set y z) = (ints L).set y (.int .i64 z) := by simp [ints, List.map_set]
            rw [e]
            exact HST.out
          · rcases List.mem_or_eq_of_mem_set hv with hv | rfl
            · exact HL.out v hv
            · omega
        · have hn1 : ¬ (0 : Int) < (q : Int) := by omega
          have HO := Lib.hid hown1
          clear hown1
          go_wp2_with fail
          go_ret
          exact ⟨_, q, c, L, rfl, HO.out, HL.out, by omega, hc1.mono (by omega), hgr1⟩
      · have hx0 : ((x : Int) == 0) = false := by simp; omega
        have hx1 : ((x : Int) == 1) = false := by simp; omega
        have HO := Lib.hid hown1
        clear hown1
        go_wp2_with fail
        go_ret
        exact ⟨_, q, c, L, rfl, HO.out, HL.out, by omega, hc1.mono (by omega), hgr1⟩
end Go.Proofs.YtkmgbdljiajlaaaGreatDoor
namespace Go.Proofs.YtkmgbdljiajlaaaGreatDoor
open Go.RowKit

theorem results_row_tmp {P : Program} {fn : Func} {p u : Tmp} {ty : TypeId} (h : fn.results = #[.cell p ty, .tmp u]) (tmps : Array Value) (w : World) (g : Nat) (t : TypeId) (cs : Array Value) (fr : Nat × Nat) (d : TypeDesc) (b : Value)
    (hp : tmps.getD p undef = .pointer (some ⟨g, 0, none⟩)) (hg : w.heap[g]? = some (.cells cs t fr))
    (hu : P.underlying ty = some d) (hd : (match d with | .struct _ | .array _ _ => true | _ => false) = true) (hi : (P.info? ty).map (·.size) = some cs.size) (hb : tmps.getD u undef = b) :
    (results fn tmps).run P w = .ok (.tuple #[.agg cs, b]) w := by
  rw [results_cell_tmp h, hp, hb]
  simp [asAddr, Result.andThen, run_loadVar_row w g t ty cs fr d hg hu hd hi]

end Go.Proofs.YtkmgbdljiajlaaaGreatDoor
namespace Go.Proofs.YtkmgbdljiajlaaaGreatDoor
open Go.RowKit

def PermD (w : World) (m n : Nat) (L : List Int) (e : Ending) (w' : World) : Prop := ∃ b : Bool, e = .returned (.bool b) ∧ (b = true → m = n ∧ ∀ x ∈ L, 0 ≤ x ∧ x < (n : Int)) ∧ Below w.heap.size w w'
set_option maxHeartbeats 1000000 in
theorem l2Perm_any (A : Option Addr) (m c n : Nat) (L : List Int) (w : World) (h : RdL RI w A m L) (hn : n ≤ 1048576) :
    Calls Tryz.prog 51 #[.slice A m c, .int .i64 n] w (PermD w m n L) := by
  have hle := h.le
  by_cases hmn : m = n
  · subst hmn
    have hq : ((m : Int) != (m : Int)) = false := by simp
    obtain ⟨el, HEL⟩ : ∃ b, Hid (allIn 0 ((m : Int) - 1) L = b) := ⟨_, rfl⟩
    have HE := Lib.hid (l2Elements_any A m c L m w h (by omega) (by omega))
    rw [HEL.out] at HE
    rcases el with _ | _
    · go_enter Tryz.func51, Tryz.ntmps51
      go_wp2_with fail
      refine HE.out.mono ?_
      rintro e w' ⟨rfl, rfl⟩
      go_wp2_with fail
      go_ret
      exact ⟨false, rfl, (fun h => by cases h), Below.refl _ _⟩
    · have HIN : Hid (∀ x ∈ L, 0 ≤ x ∧ x < (m : Int)) := fun x hx => by have := allIn_iff.1 HEL.out x hx; omega
      go_enter Tryz.func51, Tryz.ntmps51
      go_wp2_with fail
      refine HE.out.mono ?_
      rintro e w' ⟨rfl, rfl⟩
      obtain ⟨wo, HWO⟩ : ∃ wo : World, wo = w := ⟨_, rfl⟩
      subst HWO
      go_wp2_with (at_make; refine make_bools _ rfl _ _ rfl m rfl rfl hn ?_; intro w1 hown hg1)
      have hb1 := (Below.refl wo.heap.size wo).grown hg1 (Nat.le_refl _) (by simp)
      clear hg1
      go_loopw [6] (fun i wr => ∃ (k : Nat) (R : List Value), k ≤ m ∧ i = .int .i64 k ∧ wr.ownsRow wo.heap.size 4 1 (.slice (some ⟨wo.heap.size, 0, none⟩) m m) m R ∧ (∀ v ∈ R, ∃ b, v = .bool b) ∧ Below wo.heap.size wo wr) (fun i _ => m - (intOf i).toNat)
      case atStart => exact ⟨0, _, Nat.zero_le _, rfl, hown, fun v hv => ⟨false, List.eq_of_mem_replicate hv⟩, hb1⟩
      case round =>
        clear hown hb1
        obtain ⟨k, R, hk, rfl, hown, hR, hb⟩ := hrel
        by_cases hlt : k < m
        · have hk0 : (0 : Int) ≤ (k : Int) := by omega
          have hk1 : (k : Int) < (m : Int) := by omega
          obtain ⟨b, o, v, x, rfl, hcx, ⟨rfl, -, -⟩, -, hx⟩ := (h.next stab_RI hb).at hlt
          have hxm := HIN.out x (List.mem_of_getElem? hx)
          obtain ⟨y, rfl⟩ := Int.eq_ofNat_of_zero_le hxm.1
          have hy0 : (0 : Int) ≤ (y : Int) := by omega
          have hy1 : (y : Int) < (m : Int) := by omega
          have hlR : R.length = m := by have := hown.1; omega
          obtain ⟨bv, hbv⟩ := hR (R[y]'(by omega)) (List.getElem_mem _)
          have hcl : wr.cell? ⟨wo.heap.size, y, none⟩ = some (.bool bv) := (hown.cellAt y (by omega)).trans ((List.getElem?_eq_getElem (by omega)).trans (by rw [hbv]))
          have hfz := hown.frozenAt y
          obtain ⟨hst, -⟩ := hown.stored y (.bool true)
          have HST := Lib.hid hst
          have HR := Lib.hid hR
          have hb2 := hb.setCell (p := ⟨wo.heap.size, y, none⟩) (Nat.le_refl _) (.bool true)
          clear hx hown hst hR hbv hxm
          rcases bv with _ | _
          · go_wp2_with fail
            go_roundw
            case rel => exact ⟨k + 1, _, by omega, by go_num, HST.out, fun v hv => by
              rcases List.mem_or_eq_of_mem_set hv with hv | rfl
              · exact HR.out v hv
              · exact ⟨true, rfl⟩, hb2⟩
            case measure => simp [intOf]; omega
          · go_wp2_with fail
            go_ret
            exact ⟨false, rfl, (fun h => by cases h), hb⟩
        · have hk1 : ¬ (k : Int) < (m : Int) := by omega
          go_wp2_with fail
          go_ret
          exact ⟨true, rfl, fun _ => ⟨rfl, HIN.out⟩, hb⟩
  · have hq : ((m : Int) != (n : Int)) = true := by simp; omega
    go_enter Tryz.func51, Tryz.ntmps51
    go_wp2_with fail
    go_ret
    exact ⟨false, rfl, (fun h => by cases h), Below.refl _ _⟩
/-- A square of truths of the call's own, whatever they are. -/
def BMat (lo : Nat) (w : World) (g n c : Nat) : Prop := ∃ R : List (List Bool), OwM 58 4 Value.bool lo w (.slice (some ⟨g, 0, none⟩) n c) n R ∧ (∀ row ∈ R, row.length = n) ∧ ∀ (i : Nat) row, R[i]? = some row → row[i]? = some true
theorem BMat.next {lo : Nat} {w w' : World} {g n c : Nat} (h : BMat lo w g n c) (hb : Below w.heap.size w w') : BMat lo w' g n c := by
  obtain ⟨R, h1, h2⟩ := h
  exact ⟨R, h1.next hb, h2⟩
theorem BMat.get {lo : Nat} {w : World} {g n c : Nat} (h : BMat lo w g n c) {i : Nat} (hi : i < n) :
    ∃ r d, w.cell? ⟨g, i, none⟩ = some (.slice (some ⟨r, 0, none⟩) n d) ∧ lo ≤ r ∧ r < w.heap.size ∧ (∀ k, k < n → ∃ b, w.cell? ⟨r, k, none⟩ = some (.bool b) ∧ w.frozen? ⟨r, k, none⟩ = false ∧ (k = i → b = true)) ∧
      ∀ k b, k < n → (k = i → b = true) → BMat lo (w.setCell ⟨r, k, none⟩ (.bool b)) g n c := by
  obtain ⟨R, ⟨vs, hv⟩, hR, hD⟩ := h
  have hvl : vs.length = n := by have := hv.1.1; omega
  have hRl : R.length = n := by rw [← hv.2.1]; exact hvl
  have hvi : vs[i]? = some (vs[i]'(by omega)) := List.getElem?_eq_getElem (by omega)
  have hRi : R[i]? = some (R[i]'(by omega)) := List.getElem?_eq_getElem (by omega)
  have hlen := hR _ (List.getElem_mem (l := R) (n := i) (by omega))
  have hrow := hv.2.2.1 i _ _ hvi hRi
  have hdi := hD i _ hRi
  generalize R[i]'(by omega) = row at hRi hlen hrow hdi
  rw [hlen] at hrow
  obtain ⟨B, d, hB⟩ := own_slice hrow
  rw [hB] at hrow
  obtain ⟨r, rfl, hlo⟩ : ∃ r, B = some ⟨r, 0, none⟩ ∧ lo ≤ r := by
    rcases hrow.2 with ⟨_, h0⟩ | ⟨r, cap, cur, e, hb, _⟩
    · omega
    · injection e with e1 e2 e3
      exact ⟨r, e1, hb⟩
  have hcell : w.cell? ⟨g, i, none⟩ = some (.slice (some ⟨r, 0, none⟩) n d) := by rw [hv.1.cellAt i (by omega), hvi, hB]
  refine ⟨r, d, hcell, hlo, (hrow.lt r rfl).2, fun k hk => ⟨row[k]'(by omega), ?_, hrow.frozenAt k, fun e => ?_⟩, fun k b hk hkb => ?_⟩
  · rw [hrow.cellAt k (by omega), List.getElem?_map, List.getElem?_eq_getElem (by omega)]
    rfl
  · subst e
    rw [List.getElem?_eq_getElem (by omega)] at hdi
    injection hdi
  · obtain ⟨hst, hgr⟩ := hrow.stored k (.bool b)
    have e : (row.map Value.bool).set k (.bool b) = (row.set k b).map Value.bool := by rw [List.map_set]
    have hst' : (w.setCell ⟨r, k, none⟩ (.bool b)).ownsRow lo 4 1 vs[i] (row.set k b).length ((row.set k b).map Value.bool) := by
      rw [hB, ← e, List.length_set, hlen]
      exact hst
    have h2 : OwMv 58 4 Value.bool lo w (.slice (some ⟨g, 0, none⟩) n c) n vs R := hv
    have h3 := h2.setRow (by decide) hvi (by rw [hB]; exact hgr) hst'
    refine ⟨_, ⟨vs, h3⟩, fun q hq => ?_, fun j q hq => ?_⟩
    · rcases List.mem_or_eq_of_mem_set hq with hq | rfl
      · exact hR q hq
      · rw [List.length_set]; exact hlen
    · by_cases hj : j = i
      · subst hj
        rw [List.getElem?_set_self (by omega)] at hq
        injection hq with hq
        subst hq
        by_cases hk2 : k = j
        · subst hk2
          rw [List.getElem?_set_self (by omega), hkb rfl]
        · rw [List.getElem?_set_ne hk2]; exact hdi
      · rw [List.getElem?_set_ne (fun e => hj e.symm)] at hq
        exact hD j q hq
theorem keepP {w w' : World} (h : Below w.heap.size w w') {b k : Nat} {v : Value} (hc : w.cell? ⟨b, k, none⟩ = some v) : w'.cell? ⟨b, k, none⟩ = some v := (World.cell?_of_block (w := w) (h.block b (cell_lt hc))).trans hc
/-- Pairs of numbers below n. -/
def RdPr (n : Nat) (w : World) (A : Option Addr) (m : Nat) : Prop := m ≤ 1048576 ∧ (0 < m → ∃ b, A = some ⟨b, 0, none⟩ ∧ ∀ i, i < m → ∃ x y : Nat, x < n ∧ y < n ∧ w.cell? ⟨b, i * 2, none⟩ = some (.int .i64 x) ∧ w.cell? ⟨b, i * 2 + 1, none⟩ = some (.int .i64 y))
theorem RdPr.next {n : Nat} {w w' : World} {A : Option Addr} {m : Nat} (h : RdPr n w A m) (hb : Below w.heap.size w w') : RdPr n w' A m :=
  ⟨h.1, fun h0 => by
    obtain ⟨b, e, hc⟩ := h.2 h0
    refine ⟨b, e, fun i hi => ?_⟩
    obtain ⟨x, y, hx, hy, h1, h2⟩ := hc i hi
    exact ⟨x, y, hx, hy, keepP hb h1, keepP hb h2⟩⟩
/-- A poset of n elements of the call's own. -/
def PosD (n : Nat) (w : World) (e : Ending) (w' : World) : Prop := ∃ A c F, e = .returned (.agg #[.slice A n c]) ∧ OwM 27 3 (.int .i64) w.heap.size w' (.slice A n c) n F ∧ (∀ p ∈ F, (0 < p.length ∧ p.length ≤ n) ∧ ∀ x ∈ p, 0 ≤ x ∧ x < (n : Int)) ∧ Below w.heap.size w w'
set_option linter.unusedVariables false in
set_option maxRecDepth 20000 in
set_option maxHeartbeats 8000000 in
theorem l23From_any (n m c : Nat) (A : Option Addr) (w : World) (hP : RdPr n w A m) (hn : n ≤ 100) :
    Calls Tryz.prog 52 #[.int .i64 n, .slice A m c] w (PosD n w) := by
  obtain ⟨w0, HW0⟩ : ∃ wb, Hid (wb = w.alloc (.cells #[.slice none 0 0] 26)) := ⟨_, rfl⟩
  have hb0 : Below w.heap.size w w0 := by rw [HW0.out]; exact below_box _ _
  have B0 : Blk w0 w.heap.size 26 #[.slice none 0 0] := by rw [HW0.out]; exact Blk.new _ _ _
  have hs0 : w0.heap.size = w.heap.size + 1 := by rw [HW0.out]; simp
  obtain ⟨w1, HW1⟩ : ∃ wb, Hid (wb = w0.alloc (.cells #[] 58)) := ⟨_, rfl⟩
  have hb1 : Below w0.heap.size w0 w1 := by rw [HW1.out]; exact below_box _ _
  have hM1 : OwM 58 4 Value.bool w0.heap.size w1 (.slice (some ⟨w0.heap.size, 0, none⟩) 0 0) 0 [] := by rw [HW1.out]; exact ⟨[], World.ownsRow_lit _ _ _ (Nat.le_refl _) (Nat.zero_le _) rfl, rfl, fun k u xs hu => by simp at hu, by simp⟩
  rw [hs0] at hM1
  have hP0 := hP.next hb0
  go_enter Tryz.func52, Tryz.ntmps52
  go_wp2_with fail
  rw [← HW0.out, ← HW1.out]
  go_loopw [5, 6, 7] (fun v i _ wr => ∃ (k b d : Nat) (R : List (List Bool)), k ≤ n ∧ i = .int .i64 k ∧ v = .slice (some ⟨b, 0, none⟩) k d ∧ OwM 58 4 Value.bool (w.heap.size + 1) wr (.slice (some ⟨b, 0, none⟩) k d) k R ∧ ((∀ row ∈ R, row.length = n) ∧ ∀ (i : Nat) row, R[i]? = some row → row[i]? = some true) ∧ Below w0.heap.size w0 wr) (fun _ i _ _ => n - (intOf i).toNat)
  case atStart => exact ⟨0, _, 0, [], Nat.zero_le _, rfl, rfl, hM1, ⟨fun row hr => by simp at hr, fun i row hr => by simp at hr⟩, hb1⟩
  case round =>
    clear hM1 hb1
    obtain ⟨k, b, d, R, hk, rfl, rfl, hM, hR, hT⟩ := hrel
    have HR := Lib.hid hR
    have HRL : Hid (R.length = k) := by obtain ⟨vs, h1, h2, -⟩ := hM; have := h1.1; show R.length = k; omega
    clear hR
    by_cases hlt : k < n
    · have hk0 : (0 : Int) ≤ (k : Int) := by omega
      have hk1 : (k : Int) < (n : Int) := by omega
      have hzr := hT.size
      go_wp2_with (first
        | (at_make; refine make_bools _ rfl _ _ rfl n rfl rfl (by omega) ?_; intro w2 how2 hg2; have hb2 := (Below.refl wr.heap.size wr).grown hg2 (Nat.le_refl _) (by simp); have hcl2 : w2.cell? ⟨wr.heap.size, k, none⟩ = some (.bool false) := (how2.cellAt k (by omega)).trans (by rw [List.getElem?_replicate, if_pos hlt]); have hfz2 := how2.frozenAt k; have how3 := (how2.stored k (.bool true)).1; have hb3 := hb2.setCell (p := ⟨wr.heap.size, k, none⟩) (Nat.le_refl _) (.bool true); obtain ⟨vs, hvs, HPU⟩ := hM.push (by decide) hb3 (by omega) (xs := (List.replicate n false).set k true) (by rw [List.length_set, List.length_replicate, List.map_set, List.map_replicate]; exact how3); have hT3 := below_next hT hb3 rfl; have hz3 := hT3.size; have hsz : (w2.setCell ⟨wr.heap.size, k, none⟩ (.bool true)).heap.size = w2.heap.size := by simp)
        | (at_builtin; refine app1 (w2.setCell ⟨wr.heap.size, k, none⟩ (.bool true)) rfl _ _ 52 58 rfl (.slice none 0 0) 24 Tryz.underlying52 info_bools rfl (by decide) (w.heap.size + 1) k d (some ⟨b, 0, none⟩) vs rfl hvs (.slice (some ⟨wr.heap.size, 0, none⟩) n n) rfl (by rw [hsz]; rfl) (by omega) (by omega) ?_; intro A4 c4 w4 hown4 hg4 hb4))
      have HF4 := Lib.hid (HPU hown4 hg4)
      obtain ⟨b4, hA4, -, -⟩ := own_form hown4 (by omega)
      subst hA4
      clear HPU hown4 hg4 hvs how3
      go_roundw
      case rel => exact ⟨k + 1, b4, c4, _, by omega, by go_num, rfl, HF4.out, ⟨fun row hr => by
        rcases List.mem_append.1 hr with hr | hr
        · exact HR.out.1 row hr
        · rw [List.mem_singleton.1 hr, List.length_set, List.length_replicate], fun i row hr => by
        rcases Nat.lt_or_ge i R.length with hi | hi
        · rw [List.getElem?_append_left hi] at hr
          exact HR.out.2 i row hr
        · rw [List.getElem?_append_right hi] at hr
          have hi2 := (List.getElem?_eq_some_iff.1 hr).1
          simp at hi2
          have hil : i = k := by rw [HRL.out] at hi hi2; omega
          subst hil
          rw [HRL.out, Nat.sub_self] at hr
          simp at hr
          rw [← hr, List.getElem?_set_self (by rw [List.length_replicate]; exact hlt)]⟩, hT3.trans (hb4.mono (by omega))⟩
      case measure => simp [intOf]; omega
    · obtain rfl : n = k := by omega
      have hk1 : ¬ (n : Int) < (n : Int) := by omega
      have hBM : BMat (w.heap.size + 1) wr b n d := ⟨R, hM, HR.out.1, HR.out.2⟩
      have hm := hP.1
      clear hM HR
      go_wp2_with fail
      go_loopw [8] (fun i wx => ∃ q : Nat, q ≤ m ∧ i = .int .i64 q ∧ BMat (w.heap.size + 1) wx b n d ∧ Below w0.heap.size w0 wx) (fun i _ => m - (intOf i).toNat)
      case atStart => exact ⟨0, Nat.zero_le _, rfl, hBM, hT⟩
      case round =>
        obtain ⟨wr1, HWR⟩ : ∃ w, Hid (w = wr) := ⟨_, rfl⟩
        clear hBM hT
        obtain ⟨q, hq, rfl, hBM, hT⟩ := hrel
        by_cases hlq : q < m
        · have hq0 : (0 : Int) ≤ (q : Int) := by omega
          have hq1 : (q : Int) < (m : Int) := by omega
          obtain ⟨pb, hA, hpr⟩ := (hP0.next hT).2 (by omega)
          subst hA
          obtain ⟨x, y, hx, hy, hcx, hcy⟩ := hpr q hlq
          obtain ⟨r, e, hcr, hlr, hrs, hrow, hset⟩ := hBM.get hx
          obtain ⟨bv, hcb, hfz, -⟩ := hrow y hy
          have HSET := Lib.hid (hset y true hy fun _ => rfl)
          have hx0 : (0 : Int) ≤ (x : Int) := by omega
          have hx1 : (x : Int) < (n : Int) := by omega
          have hy0 : (0 : Int) ≤ (y : Int) := by omega
          have hy1 : (y : Int) < (n : Int) := by omega
          have hT2 := Below.drew (hT.setCell (p := ⟨r, y, none⟩) (show w0.heap.size ≤ r by omega) (.bool true))
          clear hpr hrow hset hBM
          go_wp2_with fail
          go_region
          go_wp2_with fail
          go_roundw
          case rel => exact ⟨q + 1, by omega, by go_num, HSET.out.next (Below.drew (Below.refl _ _)), hT2⟩
          case measure => simp [intOf]; omega
        · obtain rfl : m = q := by omega
          have hq1 : ¬ (m : Int) < (m : Int) := by omega
          go_wp2_with fail
          go_loopw [9, 10, 11] (fun i _ _ wx => ∃ z : Nat, z ≤ n ∧ i = .int .i64 z ∧ BMat (w.heap.size + 1) wx b n d ∧ Below w0.heap.size w0 wx) (fun i _ _ _ => n - (intOf i).toNat)
          case atStart => exact ⟨0, Nat.zero_le _, rfl, hBM, hT⟩
          case round =>
            clear hBM hT
            obtain ⟨z, hz, rfl, hBM, hT⟩ := hrel
            by_cases hlz : z < n
            · have hz0 : (0 : Int) ≤ (z : Int) := by omega
              have hz1 : (z : Int) < (n : Int) := by omega
              go_wp2_with fail
              go_loopw [10, 11] (fun i _ wx => ∃ x : Nat, x ≤ n ∧ i = .int .i64 x ∧ BMat (w.heap.size + 1) wx b n d ∧ Below w0.heap.size w0 wx) (fun i _ _ => n - (intOf i).toNat)
              case atStart => exact ⟨0, Nat.zero_le _, rfl, hBM, hT⟩
              case round =>
                clear hBM hT
                obtain ⟨x, hx, rfl, hBM, hT⟩ := hrel
                by_cases hlx : x < n
                · have hx0 : (0 : Int) ≤ (x : Int) := by omega
                  have hx1 : (x : Int) < (n : Int) := by omega
                  go_wp2_with fail
                  go_loopw [11] (fun i wx => ∃ y : Nat, y ≤ n ∧ i = .int .i64 y ∧ BMat (w.heap.size + 1) wx b n d ∧ Below w0.heap.size w0 wx) (fun i _ => n - (intOf i).toNat)
                  case atStart => exact ⟨0, Nat.zero_le _, rfl, hBM, hT⟩
                  case round =>
                    clear hBM hT
                    obtain ⟨y, hy, rfl, hBM, hT⟩ := hrel
                    by_cases hly : y < n
                    · have hy0 : (0 : Int) ≤ (y : Int) := by omega
                      have hy1 : (y : Int) < (n : Int) := by omega
                      obtain ⟨rx, ex, hcx, hlx2, hrx, hrowx, hsetx⟩ := hBM.get hlx
                      obtain ⟨rz, ez, hcz, hlz2, hrz, hrowz, -⟩ := hBM.get hlz
                      obtain ⟨b1, hb1, hf1, hd1⟩ := hrowx y hly
                      obtain ⟨b2, hb2, -, -⟩ := hrowx z hlz
                      obtain ⟨b3, hb3, -, -⟩ := hrowz y hly
                      have HSET := Lib.hid (fun v (hv : y = x → v = true) => hsetx y v hly hv)
                      have HD1 := Lib.hid hd1
                      have HT2 := Lib.hid (fun v => Below.drew (hT.setCell (p := ⟨rx, y, none⟩) (show w0.heap.size ≤ rx by omega) (.bool v)))
                      clear hrowx hrowz hsetx hBM hd1
                      rcases b1 with _ | _
                      · rcases b2 with _ | _
                        · go_wp2_with fail
                          go_region
                          go_wp2_with fail
                          go_roundw
                          case rel => exact ⟨y + 1, by omega, by go_num, (HSET.out _ (by first | exact fun _ => rfl | exact fun e => absurd (HD1.out e) (by decide))).next (Below.drew (Below.refl _ _)), HT2.out _⟩
                          case measure => simp [intOf]; omega
                        · rcases b3 with _ | _
                          all_goals
                            go_wp2_with fail
                            go_region
                            go_wp2_with fail
                            go_roundw
                            case rel => exact ⟨y + 1, by omega, by go_num, (HSET.out _ (by first | exact fun _ => rfl | exact fun e => absurd (HD1.out e) (by decide))).next (Below.drew (Below.refl _ _)), HT2.out _⟩
                            case measure => simp [intOf]; omega
                      · go_wp2_with fail
                        go_region
                        go_wp2_with fail
                        go_roundw
                        case rel => exact ⟨y + 1, by omega, by go_num, (HSET.out _ (by first | exact fun _ => rfl | exact fun e => absurd (HD1.out e) (by decide))).next (Below.drew (Below.refl _ _)), HT2.out _⟩
                        case measure => simp [intOf]; omega
                    · obtain rfl : n = y := by omega
                      have hy1 : ¬ (n : Int) < (n : Int) := by omega
                      go_wp2_with fail
                      go_roundw
                      case rel => exact ⟨x + 1, by omega, by go_num, hBM, hT⟩
                      case measure => simp [intOf]; omega
                · obtain rfl : n = x := by omega
                  have hx1 : ¬ (n : Int) < (n : Int) := by omega
                  go_wp2_with fail
                  go_roundw
                  case rel => exact ⟨z + 1, by omega, by go_num, hBM, hT⟩
                  case measure => simp [intOf]; omega
            · obtain rfl : n = z := by omega
              have hz1 : ¬ (n : Int) < (n : Int) := by omega
              obtain ⟨wo, HWO⟩ : ∃ wo : World, wo = wr := ⟨_, rfl⟩
              subst HWO
              obtain ⟨w6, HW6⟩ : ∃ wb, Hid (wb = wo.alloc (.cells #[] 27)) := ⟨_, rfl⟩
              have hb6 : Below wo.heap.size wo w6 := by rw [HW6.out]; exact below_box _ _
              have hs6 : w6.heap.size = wo.heap.size + 1 := by rw [HW6.out]; simp
              have hM6 : OwM 27 3 (.int .i64) wo.heap.size w6 (.slice (some ⟨wo.heap.size, 0, none⟩) 0 0) 0 [] := by rw [HW6.out]; exact ⟨[], World.ownsRow_lit _ _ _ (Nat.le_refl _) (Nat.zero_le _) rfl, rfl, fun k u xs hu => by simp at hu, by simp⟩
              obtain ⟨w7, HW7⟩ : ∃ wb, Hid (wb = w6.alloc (.cells #[.slice (some ⟨wo.heap.size, 0, none⟩) 0 0] 26)) := ⟨_, rfl⟩
              have hb7 : Below w6.heap.size w6 w7 := by rw [HW7.out]; exact below_box _ _
              have B7 : Blk w7 (wo.heap.size + 1) 26 #[.slice (some ⟨wo.heap.size, 0, none⟩) 0 0] := by rw [HW7.out, ← hs6]; exact Blk.new _ _ _
              have hM7 := hM6.next hb7
              have hT7 := below_next hb6 hb7 rfl
              clear hM6 hb6 hb7
              go_wp2_with fail
              rw [← HW6.out, ← HW7.out]
              go_loopw [13, 14, 15] (fun i _ _ wx => ∃ (y : Nat) (A : Option Addr) (c : Nat) (F : List (List Int)), y ≤ n ∧ i = .int .i64 y ∧ Blk wx (wo.heap.size + 1) 26 #[.slice A y c] ∧ OwM 27 3 (.int .i64) wo.heap.size wx (.slice A y c) y F ∧ (∀ p ∈ F, (0 < p.length ∧ p.length ≤ n) ∧ ∀ x ∈ p, 0 ≤ x ∧ x < (n : Int)) ∧ Below wo.heap.size wo wx) (fun i _ _ _ => n - (intOf i).toNat)
              case atStart => exact ⟨0, _, 0, [], Nat.zero_le _, rfl, B7, hM7, fun p hp => by simp at hp, hT7⟩
              case round =>
                clear B7 hM7 hT7
                obtain ⟨y, A1, c1, F, hy, rfl, BP, hM, hF, hTy⟩ := hrel
                have HF := Lib.hid hF
                clear hF
                have hzy := hTy.size
                by_cases hly : y < n
                · have hy0 : (0 : Int) ≤ (y : Int) := by omega
                  have hy1 : (y : Int) < (n : Int) := by omega
                  obtain ⟨wy, HWY⟩ : ∃ wy : World, wy = wr := ⟨_, rfl⟩
                  subst HWY
                  have hbx := below_box wy (.cells #[] 3)
                  have hown0 : (wy.alloc (.cells #[] 3)).ownsRow wy.heap.size 3 1 (.slice (some ⟨wy.heap.size, 0, none⟩) 0 0) 0 (ints []) := World.ownsRow_lit wy #[] 0 (Nat.le_refl _) (Nat.zero_le _) rfl
                  go_wp2_with fail
                  go_loopw [14, 15] (fun v i wx => ∃ (q : Nat) (A2 : Option Addr) (c2 : Nat) (acc : List Int), q ≤ n ∧ i = .int .i64 q ∧ v = .slice A2 acc.length c2 ∧ (acc.length ≤ q ∧ (y < q → 0 < acc.length)) ∧ wx.ownsRow wy.heap.size 3 1 (.slice A2 acc.length c2) acc.length (ints acc) ∧ (∀ x ∈ acc, 0 ≤ x ∧ x < (n : Int)) ∧ Below wy.heap.size wy wx) (fun _ i _ => n - (intOf i).toNat)
                  case atStart => exact ⟨0, _, 0, [], Nat.zero_le _, rfl, rfl, ⟨Nat.le_refl _, fun h => absurd h (Nat.not_lt_zero _)⟩, hown0, fun x hx => by simp at hx, hbx⟩
                  case round =>
                    clear hown0 hbx
                    obtain ⟨q, A2, c2, acc, hq, rfl, rfl, ⟨haq, hyq⟩, hown, hacc, hTq⟩ := hrel
                    have HACC := Lib.hid hacc
                    have HYQ := Lib.hid hyq
                    clear hacc hyq
                    have hzq := hTq.size
                    by_cases hlq : q < n
                    · have hq0 : (0 : Int) ≤ (q : Int) := by omega
                      have hq1 : (q : Int) < (n : Int) := by omega
                      obtain ⟨rq, eq, hcq, -, -, hrowq, -⟩ := (hBM.next (below_next hTy hTq rfl)).get hlq
                      obtain ⟨b1, hb1, -, hd1⟩ := hrowq y hly
                      have HD1 := Lib.hid hd1
                      clear hrowq hd1
                      rcases b1 with _ | _
                      · go_wp2_with fail
                        go_roundw
                        case rel => exact ⟨q + 1, A2, c2, acc, by omega, by go_num, rfl, ⟨by omega, fun h => HYQ.out (by have : ¬ y = q := fun e => absurd (HD1.out e) (by decide); omega)⟩, hown, HACC.out, hTq⟩
                        case measure => simp [intOf]; omega
                      · go_wp2_with (at_builtin; refine app1 wr rfl _ _ 27 3 rfl (.int .i64 0) 8 Tryz.underlying27 info_int rfl (by decide) wy.heap.size acc.length c2 A2 (ints acc) rfl hown (.int .i64 q) rfl rfl (by omega) hzq ?_; intro A3 c3 w8 hown3 hg3 hb3)
                        go_roundw
                        case rel => exact ⟨q + 1, A3, c3, acc ++ [(q : Int)], by omega, by go_num, by rw [List.length_append]; rfl, ⟨by simp; omega, fun _ => by simp⟩, by rw [List.length_append, ← ints_snocG]; exact hown3, fun x hx => by
                          rcases List.mem_append.1 hx with hx | hx
                          · exact HACC.out x hx
                          · rw [List.mem_singleton.1 hx]; omega, hTq.trans hb3⟩
                        case measure => simp [intOf]; omega
                    · obtain rfl : n = q := by omega
                      have hq1 : ¬ (n : Int) < (n : Int) := by omega
                      obtain ⟨vs, hvs, HPU⟩ := hM.push (by decide) hTq hzy (xs := acc) hown
                      have hT2 := below_next hTy hTq rfl
                      have hz2 := hT2.size
                      have BP2 := BP.next hTq
                      have kP := BP2.cell 0
                      have fP := BP2.frozen 0
                      simp at kP
                      go_wp2_with (at_builtin; refine app1 wr rfl _ _ 24 27 rfl (.slice none 0 0) 24 Tryz.underlying24 info_ints rfl (by decide) wo.heap.size y c1 A1 vs rfl hvs (.slice A2 acc.length c2) rfl rfl (by omega) hz2 ?_; intro A5 c5 w5 hown5 hg5 hb5; have BP5 := BP2.grown hg5 (fun e => own_far hvs BP2 (by decide) e.symm); have cP5 := BP5.cell 0; have fP5 := BP5.frozen 0; simp at cP5)
                      go_roundw
                      case rel => exact ⟨y + 1, A5, c5, F ++ [acc], by omega, by go_num, BP5.set_ 0 _, (HPU hown5 hg5).far BP5 (by decide) (by decide) 0 _, fun p hp => by
                        rcases List.mem_append.1 hp with hp | hp
                        · exact HF.out p hp
                        · rw [List.mem_singleton.1 hp]; exact ⟨⟨HYQ.out hly, haq⟩, HACC.out⟩, (hT2.trans hb5).setCell (p := ⟨wo.heap.size + 1, 0, none⟩) (by show wo.heap.size ≤ wo.heap.size + 1; omega) _⟩
                      case measure => simp [intOf]; omega
                · obtain rfl : n = y := by omega
                  have hy1 : ¬ (n : Int) < (n : Int) := by omega
                  have B0r := (B0.next hT).next hTy
                  have cP := BP.cell 0
                  have cR := B0r.cell 0
                  have fR := B0r.frozen 0
                  simp at cP cR
                  have hw0 := hT.size
                  have hne : w.heap.size ≠ wo.heap.size + 1 := by omega
                  have hTf := below_next (below_next hb0 hT rfl) hTy rfl
                  go_wp2
                  (try simp only [Exit.inBlock, Exit.then])
                  refine bodyPost_ret (v := .agg #[.slice A1 n c1]) (results_cell_row rfl _ _ w.heap.size 26 #[.slice A1 n c1] (0, 0) _ (by simp) (B0r.set_ 0 _) Tryz.underlying26 rfl (by kernel_rfl)) rfl ?_
                  exact ⟨A1, c1, F, rfl, (hM.far B0r (by decide) (by decide) 0 _).mono (by omega), HF.out, hTf.setCell (p := ⟨w.heap.size, 0, none⟩) (Nat.le_refl _) _⟩
end Go.Proofs.YtkmgbdljiajlaaaGreatDoor
namespace Go.Proofs.YtkmgbdljiajlaaaGreatDoor
open Go.RowKit

theorem info_pair : (Tryz.prog.info? 80).map (fun i => (i.zero, i.size, i.bytes)) = some (some (.agg #[.int .i64 0, .int .i64 0]), 2, 16) := by kernel_rfl
/-- Append of one value of two cells to a row of the call's own. -/
theorem app2p {P : Program} (w0 : World) {ops : Array Oper} {rest : List Oper} {o : Oper} {a : Act} {Q : Exit → Act → World → Prop} (hgd : o.guard = none) (s x : Operand) (t e : TypeId)
    (ho : o.op = .call { callee := .builtin .append, args := #[s, x], argTypes := #[t, t] }) (z : Value) (bytes : Nat)
    (ht : P.underlying t = some (.slice e)) (hi : (P.info? e).map (fun i => (i.zero, i.size, i.bytes)) = some (some z, 2, bytes)) (hzs : z.cells.size = 2) (hbb : bytes ≤ 64)
    (base n c : Nat) (A : Option Addr) (xs : List Value) (hs : a.eval s = .slice A n c) (hown : w0.ownsRow base e 2 (.slice A n c) n xs) (u v : Value) (h1 : u.oneCell' = true) (h2 : v.oneCell' = true) (hx : a.eval x = .slice (some ⟨w0.heap.size, 0, none⟩) 1 1)
    (hn : n ≤ 1099511627776) (hbase : base ≤ w0.heap.size)
    (hK : ∀ A' c' w', w'.ownsRow base e 2 (.slice A' (n + 1) c') (n + 1) (xs ++ [u, v]) → w0.grownBy w' (Value.slice A n c).ownBlock → Below base w0 w' → wpList P ops Q rest (a.put o.dst (.slice A' (n + 1) c')) w') :
    wpList P ops Q (o :: rest) a (w0.alloc (.cells #[u, v] e)) := by
  obtain ⟨i, hi, hz, hsize, hby⟩ := info_parts hi
  have hbound : (n + 1) * bytes ≤ 140737488355328 := Nat.le_trans (Nat.mul_le_mul_left (n + 1) hbb) (by omega)
  refine wpList_plain hgd fun _ hK' => ?_
  refine wp_append_own (w0.alloc (.cells #[u, v] e)) s x t ho base e i z 2 bytes ht hi hz hsize hby hzs (by omega) (.slice A n c) n xs hs (hown.alloc _) ⟨w0.heap.size, 0, none⟩ 1 1 [u, v] hx rfl ?_ ?_ (by unfold maxLen; omega) hbound (by simp; omega) ?_
  · intro j y hj
    match j, hj with
    | 0, hj => simp at hj; subst hj; simp [Addr.add]
    | 1, hj => simp at hj; subst hj; simp [Addr.add]
  · intro y hy
    simp at hy
    rcases hy with rfl | rfl
    · exact h1
    · exact h2
  · intro v' w' hown' hgrow _
    obtain ⟨A', c', rfl⟩ := own_slice hown'
    have hg : w0.grownBy w' (Value.slice A n c).ownBlock :=
      ⟨hgrow.os, hgrow.tape, hgrow.output, Nat.le_trans (by simp) hgrow.size, fun k hk hne => (hgrow.block k (by simp; omega) hne).trans (Below.heap_alloc w0 _ k hk)⟩
    exact hK' _ _ (hK A' c' w' hown' hg ((Below.refl base w0).grown hg hbase (fun k hk => (hown.lt k hk).1)))
/-- Pairs of numbers below n, of the call's own. -/
def OwPr (lo n : Nat) (w : World) (v : Value) (m : Nat) : Prop := ∃ ps : List Int, w.ownsRow lo 80 2 v m (ints ps) ∧ ∀ x ∈ ps, 0 ≤ x ∧ x < (n : Int)
section
variable {lo n m g : Nat} {w w1 : World} {v : Value}
theorem OwPr.lit (w : World) (n : Nat) (cs : List Int) (m : Nat) (h : ∀ x ∈ cs, 0 ≤ x ∧ x < (n : Int)) (hm : m ≤ 1048576) (hl : cs.length = m * 2) : OwPr w.heap.size n (w.alloc (.cells (ints cs).toArray 80)) (.slice (some ⟨w.heap.size, 0, none⟩) m m) m :=
  ⟨cs, by simpa using World.ownsRow_lit (e := 80) w (ints cs).toArray m (size := 2) (Nat.le_refl _) (by unfold maxLen; omega) (by simpa [ints] using hl), h⟩
theorem OwPr.grownG (h : OwPr lo n w v m) (hg : w.grownBy w1 (some g)) (hl : g < lo) : OwPr lo n w1 v m := by
  obtain ⟨ps, h1, h2⟩ := h
  exact ⟨ps, own_grownG h1 hg hl, h2⟩
theorem OwPr.next (h : OwPr lo n w v m) (hb : Below w.heap.size w w1) : OwPr lo n w1 v m := by
  obtain ⟨ps, h1, h2⟩ := h
  exact ⟨ps, own_next h1 hb, h2⟩
theorem OwPr.snoc {A' : Option Addr} {c' : Nat} {ps : List Int} {x y : Nat} (h : w1.ownsRow lo 80 2 (.slice A' (m + 1) c') (m + 1) (ints ps ++ [.int .i64 x, .int .i64 y])) (h2 : ∀ x ∈ ps, 0 ≤ x ∧ x < (n : Int)) (hx : x < n) (hy : y < n) : OwPr lo n w1 (.slice A' (m + 1) c') (m + 1) := by
  refine ⟨ps ++ [(x : Int), (y : Int)], by simpa [ints] using h, fun z hz => ?_⟩
  rcases List.mem_append.1 hz with hz | hz
  · exact h2 z hz
  · simp only [List.mem_cons, List.not_mem_nil, or_false] at hz
    rcases hz with rfl | rfl <;> omega
/-- Pair i of the row: its cells, and the row with another pair in its place. -/
theorem OwPr.get {A : Option Addr} {c : Nat} (h : OwPr lo n w (.slice A m c) m) {i : Nat} (hi : i < m) :
    ∃ b x y, A = some ⟨b, 0, none⟩ ∧ lo ≤ b ∧ b < w.heap.size ∧ x < n ∧ y < n ∧ w.cell? ⟨b, i * 2, none⟩ = some (.int .i64 (x : Nat)) ∧ w.cell? ⟨b, i * 2 + 1, none⟩ = some (.int .i64 (y : Nat)) ∧ w.frozen? ⟨b, i * 2, none⟩ = false ∧ w.frozen? ⟨b, i * 2 + 1, none⟩ = false ∧
      ∀ x' y' : Nat, x' < n → y' < n → OwPr lo n ((w.setCell ⟨b, i * 2, none⟩ (.int .i64 x')).setCell ⟨b, i * 2 + 1, none⟩ (.int .i64 y')) (.slice A m c) m := by
  obtain ⟨ps, h1, h2⟩ := h
  have hl : ps.length = m * 2 := by have := h1.1; simpa [ints] using this
  obtain ⟨b, rfl, hlo, -⟩ := own_form h1 (by omega)
  have hx := h2 _ (List.getElem_mem (l := ps) (n := i * 2) (by omega))
  have hy := h2 _ (List.getElem_mem (l := ps) (n := i * 2 + 1) (by omega))
  obtain ⟨x, ex⟩ := Int.eq_ofNat_of_zero_le hx.1
  obtain ⟨y, ey⟩ := Int.eq_ofNat_of_zero_le hy.1
  refine ⟨b, x, y, rfl, hlo, (h1.lt b rfl).2, by omega, by omega, ?_, ?_, h1.frozenAt _, h1.frozenAt _, fun x' y' hx' hy' => ?_⟩
  · rw [h1.cellAt _ (by omega), ints, List.getElem?_map, List.getElem?_eq_getElem (by omega), ex]; rfl
  · rw [h1.cellAt _ (by omega), ints, List.getElem?_map, List.getElem?_eq_getElem (by omega), ey]; rfl
  · obtain ⟨h3, -⟩ := h1.stored (i * 2) (.int .i64 (x' : Nat))
    obtain ⟨h4, -⟩ := h3.stored (i * 2 + 1) (.int .i64 (y' : Nat))
    refine ⟨(ps.set (i * 2) x').set (i * 2 + 1) y', ?_, fun z hz => ?_⟩
    · have e : ints ((ps.set (i * 2) (x' : Int)).set (i * 2 + 1) (y' : Int)) = ((ints ps).set (i * 2) (.int .i64 x')).set (i * 2 + 1) (.int .i64 y') := by simp [ints, List.map_set]
      rw [e]
      exact h4
    · rcases List.mem_or_eq_of_mem_set hz with hz | rfl
      · rcases List.mem_or_eq_of_mem_set hz with hz | rfl
        · exact h2 z hz
        · omega
      · omega
theorem OwPr.rd {A : Option Addr} {c : Nat} (h : OwPr lo n w (.slice A m c) m) (hm : m ≤ 1048576) : RdPr n w A m :=
  ⟨hm, fun h0 => by
    obtain ⟨b, x, y, e, -⟩ := h.get h0
    refine ⟨b, e, fun i hi => ?_⟩
    obtain ⟨b', x, y, e', -, -, hx, hy, h1, h2, -⟩ := h.get hi
    rw [e] at e'
    simp only [Option.some.injEq, Addr.mk.injEq, and_true] at e'
    subst e'
    exact ⟨x, y, hx, hy, h1, h2⟩⟩
end
end Go.Proofs.YtkmgbdljiajlaaaGreatDoor
namespace Go.Proofs.YtkmgbdljiajlaaaGreatDoor
open Go.RowKit

def PutD (lo n : Nat) (xs : List Int) (y : Int) (w : World) (e : Ending) (w' : World) : Prop := ∃ A m c L, e = .returned (.slice A m c) ∧ w'.ownsRow lo 3 1 (.slice A m c) m (ints L) ∧ m ≤ n + 1 ∧ (∀ z ∈ L, z ∈ xs ∨ z = y) ∧ Below w.heap.size w w'
set_option linter.unusedVariables false in
set_option maxRecDepth 20000 in
set_option maxHeartbeats 8000000 in
theorem l1Put_any (lo b n c : Nat) (xs : List Int) (y : Int) (w : World) (h : w.ownsRow lo 3 1 (.slice (some ⟨b, 0, none⟩) n c) n (ints xs)) (hlo : lo ≤ w.heap.size) (hn : n ≤ 1000) (hx : ∀ z ∈ xs, -2000 ≤ z ∧ z ≤ 2000) (hy : -2000 ≤ y ∧ y ≤ 2000) :
    Calls Tryz.prog 53 #[.slice (some ⟨b, 0, none⟩) n c, .int .i64 y] w (PutD lo n xs y w) := by
  have hnc := sort_cap h
  have hrd := rd_of_own (R := RI) h (RI_ints fun z hz => by have := hx z hz; omega)
  have HX := Lib.hid hx
  have HOWN := Lib.hid h
  have HRD := Lib.hid hrd
  clear hx h hrd
  go_enter Tryz.func53, Tryz.ntmps53
  go_wp2_with fail
  go_loopw [5] (fun i wr => ∃ k : Nat, k ≤ n ∧ i = .int .i64 k ∧ Hid (w = wr)) (fun i _ => n - (intOf i).toNat)
  case atStart =>
    refine ⟨0, Nat.zero_le _, ?_⟩
    first
      | exact ⟨rfl, rfl⟩
      | exact ⟨rfl, trivial⟩
      | exact trivial
  case round =>
    obtain ⟨k, hk, rfl, HWR⟩ := hrel
    have hwr := HWR.out
    clear HWR
    subst hwr
    by_cases hlt : k < n
    · have hk0 : (0 : Int) ≤ (k : Int) := by omega
      have hk1 : (k : Int) < (n : Int) := by omega
      obtain ⟨v, z, hcz, ⟨rfl, -, -⟩, -, hxz⟩ := HRD.out.at' hlt
      rw [Nat.zero_add] at hcz
      have HXZ := Lib.hid hxz
      clear hxz
      by_cases hzy : z < y
      · go_wp2_with fail
        go_roundw
        case rel => exact ⟨k + 1, by omega, by go_num, (by first | exact trivial | exact rfl)⟩
        case measure => simp [intOf]; omega
      · by_cases hze : z = y
        · have hz1 : (z == y) = true := by simpa using hze
          subst hze
          go_wp2_with fail
          go_ret
          exact ⟨_, n, c, xs, rfl, HOWN.out, by omega, fun z hz => .inl hz, Below.refl _ _⟩
        · have hz1 : (z == y) = false := by simpa using hze
          have hkc : (k : Int) ≤ (c : Int) := by omega
          have hk3 : (k : Int) ≤ (n : Int) := by omega
          have H1 := HRD
          obtain ⟨ad, HIF, H2⟩ : ∃ ad, Hid ((if c = k then some (⟨b, 0, none⟩ : Addr) else some ⟨b, k, none⟩) = ad) ∧ Hid (RdL RI w ad (n - k) (xs.drop k)) := by
            by_cases hq : c = k
            · refine ⟨_, if_pos hq, ?_⟩
              have e0 : n - k = 0 := by omega
              have e1 : xs.drop k = [] := List.drop_eq_nil_of_le (by rw [(HRD.out).1]; omega)
              show RdL RI w _ _ _
              rw [e0, e1]
              exact ⟨rfl, Nat.zero_le _, fun j x hj => by simp at hj⟩
            · exact ⟨_, if_neg hq, by show RdL RI _ _ _ _; simpa using (HRD.out).drop k⟩
          go_wp2_with fail
          go_region_law (first
            | (refine step_appAny (R := RI) _ rfl (.tmp 33) (.tmp 36) 27 3 rfl (.int .i64 0) 8 Tryz.underlying27 info_int rfl (by decide) w.heap.size 0 0 (some ⟨w.heap.size, 0, none⟩) [] (by rfl) (by first | exact lit0 _ (by simp) | exact (lit0 _ (by simp)).alloc _) (some ⟨b, 0, none⟩) k c (xs.take k) (fun y => .int .i64 y) (fun _ => rfl) (by rfl) ((H1.out.take (k := k) (by omega)).next stab_RI (by first | exact (below_drewN (Below.refl _ _) _).alloc (by simp) _ | exact ((below_drewN (Below.refl _ _) _).alloc (by simp) _).alloc (by first | (simp; done) | (simp; omega)) _)) (fun _ _ _ hr => hr.1) (by omega) (by first | (simp; done) | (simp; omega)) ?_; intro A2 c2 w2 hown2 hg2 hb2; simp only [Nat.zero_add, List.nil_append] at hown2)
            | (refine step_appAny (R := RI) _ rfl (.tmp 33) (.tmp 36) 27 3 rfl (.int .i64 0) 8 Tryz.underlying27 info_int rfl (by decide) w.heap.size 0 0 (some ⟨w.heap.size + 1, 0, none⟩) [] (by rfl) (lit1 _ (by simp)) (some ⟨b, 0, none⟩) k c (xs.take k) (fun y => .int .i64 y) (fun _ => rfl) (by rfl) ((H1.out.take (k := k) (by omega)).next stab_RI (by first | exact (below_drewN (Below.refl _ _) _).alloc (by simp) _ | exact ((below_drewN (Below.refl _ _) _).alloc (by simp) _).alloc (by first | (simp; done) | (simp; omega)) _)) (fun _ _ _ hr => hr.1) (by omega) (by first | (simp; done) | (simp; omega)) ?_; intro A2 c2 w2 hown2 hg2 hb2; simp only [Nat.zero_add, List.nil_append] at hown2)
            | (refine step_appAny (R := RI) _ rfl (.tmp 37) (.tmp 39) 27 3 rfl (.int .i64 0) 8 Tryz.underlying27 info_int rfl (by decide) w.heap.size k c2 A2 (ints (xs.take k)) (by rfl) (by exact hown2.alloc _) (some ⟨w2.heap.size, 0, none⟩) 1 1 [y] (fun y => .int .i64 y) (fun _ => rfl) (by rfl) (rd_one (cell_new _ rfl) (by omega)) (fun _ _ _ hr => hr.1) (by omega) (by have h1 := hb2.size; first | (simp at h1; omega) | (simp at h1 ⊢; omega) | (simp; omega) | omega) ?_; intro A3 c3 w3 hown3 hg3 hb3; have F3 : Below w.heap.size w w3 := (by refine Below.trans ?_ hb3; first | (refine Below.trans ?_ hb2; first | exact (below_drewN (Below.refl _ _) _).alloc (by simp) _ | exact ((below_drewN (Below.refl _ _) _).alloc (by simp) _).alloc (by first | (simp; done) | (simp; omega)) _) | (refine Below.alloc ?_ (by have h1 := hb2.size; first | (simp at h1; omega) | omega) _; refine Below.trans ?_ hb2; first | exact (below_drewN (Below.refl _ _) _).alloc (by simp) _ | exact ((below_drewN (Below.refl _ _) _).alloc (by simp) _).alloc (by first | (simp; done) | (simp; omega)) _)))
            | (refine step_appAny (R := RI) _ rfl (.tmp 37) (.tmp 39) 27 3 rfl (.int .i64 0) 8 Tryz.underlying27 info_int rfl (by decide) w.heap.size k c2 A2 (ints (xs.take k)) (by rfl) (by exact hown2) (some ⟨w.heap.size + 1, 0, none⟩) 1 1 [y] (fun y => .int .i64 y) (fun _ => rfl) (by rfl) (rd_one (hg2.cell (v := .int .i64 y) (cell_new _ (by simp)) (by simp [Value.ownBlock])) (by omega)) (fun _ _ _ hr => hr.1) (by omega) (by have h1 := hb2.size; first | (simp at h1; omega) | (simp at h1 ⊢; omega) | (simp; omega) | omega) ?_; intro A3 c3 w3 hown3 hg3 hb3; have F3 : Below w.heap.size w w3 := (by refine Below.trans ?_ hb3; first | (refine Below.trans ?_ hb2; first | exact (below_drewN (Below.refl _ _) _).alloc (by simp) _ | exact ((below_drewN (Below.refl _ _) _).alloc (by simp) _).alloc (by first | (simp; done) | (simp; omega)) _) | (refine Below.alloc ?_ (by have h1 := hb2.size; first | (simp at h1; omega) | omega) _; refine Below.trans ?_ hb2; first | exact (below_drewN (Below.refl _ _) _).alloc (by simp) _ | exact ((below_drewN (Below.refl _ _) _).alloc (by simp) _).alloc (by first | (simp; done) | (simp; omega)) _)))
            | (refine step_appAny (R := RI) _ rfl (.tmp 37) (.tmp 39) 27 3 rfl (.int .i64 0) 8 Tryz.underlying27 info_int rfl (by decide) w.heap.size k c2 A2 (ints (xs.take k)) (by rfl) (by exact hown2) (some ⟨w.heap.size, 0, none⟩) 1 1 [y] (fun y => .int .i64 y) (fun _ => rfl) (by rfl) (rd_one (hg2.cell (v := .int .i64 y) (cell_new2 _ _ (by simp)) (by simp [Value.ownBlock])) (by omega)) (fun _ _ _ hr => hr.1) (by omega) (by have h1 := hb2.size; first | (simp at h1; omega) | (simp at h1 ⊢; omega) | (simp; omega) | omega) ?_; intro A3 c3 w3 hown3 hg3 hb3; have F3 : Below w.heap.size w w3 := (by refine Below.trans ?_ hb3; first | (refine Below.trans ?_ hb2; first | exact (below_drewN (Below.refl _ _) _).alloc (by simp) _ | exact ((below_drewN (Below.refl _ _) _).alloc (by simp) _).alloc (by first | (simp; done) | (simp; omega)) _) | (refine Below.alloc ?_ (by have h1 := hb2.size; first | (simp at h1; omega) | omega) _; refine Below.trans ?_ hb2; first | exact (below_drewN (Below.refl _ _) _).alloc (by simp) _ | exact ((below_drewN (Below.refl _ _) _).alloc (by simp) _).alloc (by first | (simp; done) | (simp; omega)) _)))
            | (refine step_appAny (R := RI) _ rfl (.tmp 40) (.tmp 43) 27 3 rfl (.int .i64 0) 8 Tryz.underlying27 info_int rfl (by decide) w.heap.size (k + 1) c3 A3 (ints (xs.take k) ++ [.int .i64 y]) (by rfl) (by exact hown3) ad (n - k) (c - k) (xs.drop k) (fun y => .int .i64 y) (fun _ => rfl) (by first | rfl | (show Value.slice (if c = k then _ else _) _ _ = _; rw [HIF.out]; done) | (show Value.slice (if c = k then _ else _) _ _ = _; rw [HIF.out]; simp)) (H2.out.next stab_RI F3) (fun _ _ _ hr => hr.1) (by omega) (by exact F3.size) ?_; intro A4 c4 w4 hown4 hg4 hb4))
          all_goals
            have e1 : k + 1 + (n - k) = n + 1 := by omega
            rw [e1] at hown4
            have eL : ints (xs.take k) ++ [.int .i64 y] ++ (xs.drop k).map (fun y => .int .i64 y) = ints (xs.take k ++ y :: xs.drop k) := by simp [ints]
            rw [eL] at hown4
            have HO4 := Lib.hid hown4
            have HF4 := Lib.hid (F3.trans hb4)
            have HE1 := Lib.hid e1
            clear hown4 eL e1
            go_wp2_with fail
            all_goals
              go_ret
              exact ⟨A4, n + 1, c4, _, by first | rfl | (rw [← HE1.out]; rfl), own_mono HO4.out hlo, Nat.le_refl _, fun z hz => by
                rcases List.mem_append.1 hz with hz | hz
                · exact .inl (List.mem_of_mem_take hz)
                · rcases List.mem_cons.1 hz with hz | hz
                  · exact .inr hz
                  · exact .inl (List.mem_of_mem_drop hz), HF4.out⟩
    · obtain rfl : n = k := by omega
      have hk1 : ¬ (n : Int) < (n : Int) := by omega
      have hk0 : (0 : Int) ≤ (n : Int) := by omega
      have hkc : (n : Int) ≤ (c : Int) := by omega
      have hk3 : (n : Int) ≤ (n : Int) := by omega
      have H1 := HRD
      obtain ⟨ad, HIF, H2⟩ : ∃ ad, Hid ((if c = n then some (⟨b, 0, none⟩ : Addr) else some ⟨b, n, none⟩) = ad) ∧ Hid (RdL RI w ad (n - n) (xs.drop n)) := by
        by_cases hq : c = n
        · refine ⟨_, if_pos hq, ?_⟩
          have e0 : n - n = 0 := by omega
          have e1 : xs.drop n = [] := List.drop_eq_nil_of_le (by rw [(HRD.out).1]; omega)
          show RdL RI w _ _ _
          rw [e0, e1]
          exact ⟨rfl, Nat.zero_le _, fun j x hj => by simp at hj⟩
        · exact ⟨_, if_neg hq, by show RdL RI _ _ _ _; simpa using (HRD.out).drop n⟩
      go_wp2_with fail
      go_region_law (first
        | (refine step_appAny (R := RI) _ rfl (.tmp 33) (.tmp 36) 27 3 rfl (.int .i64 0) 8 Tryz.underlying27 info_int rfl (by decide) w.heap.size 0 0 (some ⟨w.heap.size, 0, none⟩) [] (by rfl) (by first | exact lit0 _ (by simp) | exact (lit0 _ (by simp)).alloc _) (some ⟨b, 0, none⟩) n c (xs.take n) (fun y => .int .i64 y) (fun _ => rfl) (by rfl) ((H1.out.take (k := n) (by omega)).next stab_RI (by first | exact (below_drewN (Below.refl _ _) _).alloc (by simp) _ | exact ((below_drewN (Below.refl _ _) _).alloc (by simp) _).alloc (by first | (simp; done) | (simp; omega)) _)) (fun _ _ _ hr => hr.1) (by omega) (by first | (simp; done) | (simp; omega)) ?_; intro A2 c2 w2 hown2 hg2 hb2; simp only [Nat.zero_add, List.nil_append] at hown2)
        | (refine step_appAny (R := RI) _ rfl (.tmp 33) (.tmp 36) 27 3 rfl (.int .i64 0) 8 Tryz.underlying27 info_int rfl (by decide) w.heap.size 0 0 (some ⟨w.heap.size + 1, 0, none⟩) [] (by rfl) (lit1 _ (by simp)) (some ⟨b, 0, none⟩) n c (xs.take n) (fun y => .int .i64 y) (fun _ => rfl) (by rfl) ((H1.out.take (k := n) (by omega)).next stab_RI (by first | exact (below_drewN (Below.refl _ _) _).alloc (by simp) _ | exact ((below_drewN (Below.refl _ _) _).alloc (by simp) _).alloc (by first | (simp; done) | (simp; omega)) _)) (fun _ _ _ hr => hr.1) (by omega) (by first | (simp; done) | (simp; omega)) ?_; intro A2 c2 w2 hown2 hg2 hb2; simp only [Nat.zero_add, List.nil_append] at hown2)
        | (refine step_appAny (R := RI) _ rfl (.tmp 37) (.tmp 39) 27 3 rfl (.int .i64 0) 8 Tryz.underlying27 info_int rfl (by decide) w.heap.size n c2 A2 (ints (xs.take n)) (by rfl) (by exact hown2.alloc _) (some ⟨w2.heap.size, 0, none⟩) 1 1 [y] (fun y => .int .i64 y) (fun _ => rfl) (by rfl) (rd_one (cell_new _ rfl) (by omega)) (fun _ _ _ hr => hr.1) (by omega) (by have h1 := hb2.size; first | (simp at h1; omega) | (simp at h1 ⊢; omega) | (simp; omega) | omega) ?_; intro A3 c3 w3 hown3 hg3 hb3; have F3 : Below w.heap.size w w3 := (by refine Below.trans ?_ hb3; first | (refine Below.trans ?_ hb2; first | exact (below_drewN (Below.refl _ _) _).alloc (by simp) _ | exact ((below_drewN (Below.refl _ _) _).alloc (by simp) _).alloc (by first | (simp; done) | (simp; omega)) _) | (refine Below.alloc ?_ (by have h1 := hb2.size; first | (simp at h1; omega) | omega) _; refine Below.trans ?_ hb2; first | exact (below_drewN (Below.refl _ _) _).alloc (by simp) _ | exact ((below_drewN (Below.refl _ _) _).alloc (by simp) _).alloc (by first | (simp; done) | (simp; omega)) _)))
        | (refine step_appAny (R := RI) _ rfl (.tmp 37) (.tmp 39) 27 3 rfl (.int .i64 0) 8 Tryz.underlying27 info_int rfl (by decide) w.heap.size n c2 A2 (ints (xs.take n)) (by rfl) (by exact hown2) (some ⟨w.heap.size + 1, 0, none⟩) 1 1 [y] (fun y => .int .i64 y) (fun _ => rfl) (by rfl) (rd_one (hg2.cell (v := .int .i64 y) (cell_new _ (by simp)) (by simp [Value.ownBlock])) (by omega)) (fun _ _ _ hr => hr.1) (by omega) (by have h1 := hb2.size; first | (simp at h1; omega) | (simp at h1 ⊢; omega) | (simp; omega) | omega) ?_; intro A3 c3 w3 hown3 hg3 hb3; have F3 : Below w.heap.size w w3 := (by refine Below.trans ?_ hb3; first | (refine Below.trans ?_ hb2; first | exact (below_drewN (Below.refl _ _) _).alloc (by simp) _ | exact ((below_drewN (Below.refl _ _) _).alloc (by simp) _).alloc (by first | (simp; done) | (simp; omega)) _) | (refine Below.alloc ?_ (by have h1 := hb2.size; first | (simp at h1; omega) | omega) _; refine Below.trans ?_ hb2; first | exact (below_drewN (Below.refl _ _) _).alloc (by simp) _ | exact ((below_drewN (Below.refl _ _) _).alloc (by simp) _).alloc (by first | (simp; done) | (simp; omega)) _)))
        | (refine step_appAny (R := RI) _ rfl (.tmp 37) (.tmp 39) 27 3 rfl (.int .i64 0) 8 Tryz.underlying27 info_int rfl (by decide) w.heap.size n c2 A2 (ints (xs.take n)) (by rfl) (by exact hown2) (some ⟨w.heap.size, 0, none⟩) 1 1 [y] (fun y => .int .i64 y) (fun _ => rfl) (by rfl) (rd_one (hg2.cell (v := .int .i64 y) (cell_new2 _ _ (by simp)) (by simp [Value.ownBlock])) (by omega)) (fun _ _ _ hr => hr.1) (by omega) (by have h1 := hb2.size; first | (simp at h1; omega) | (simp at h1 ⊢; omega) | (simp; omega) | omega) ?_; intro A3 c3 w3 hown3 hg3 hb3; have F3 : Below w.heap.size w w3 := (by refine Below.trans ?_ hb3; first | (refine Below.trans ?_ hb2; first | exact (below_drewN (Below.refl _ _) _).alloc (by simp) _ | exact ((below_drewN (Below.refl _ _) _).alloc (by simp) _).alloc (by first | (simp; done) | (simp; omega)) _) | (refine Below.alloc ?_ (by have h1 := hb2.size; first | (simp at h1; omega) | omega) _; refine Below.trans ?_ hb2; first | exact (below_drewN (Below.refl _ _) _).alloc (by simp) _ | exact ((below_drewN (Below.refl _ _) _).alloc (by simp) _).alloc (by first | (simp; done) | (simp; omega)) _)))
        | (refine step_appAny (R := RI) _ rfl (.tmp 40) (.tmp 43) 27 3 rfl (.int .i64 0) 8 Tryz.underlying27 info_int rfl (by decide) w.heap.size (n + 1) c3 A3 (ints (xs.take n) ++ [.int .i64 y]) (by rfl) (by exact hown3) ad (n - n) (c - n) (xs.drop n) (fun y => .int .i64 y) (fun _ => rfl) (by first | rfl | (show Value.slice (if c = n then _ else _) _ _ = _; rw [HIF.out]; done) | (show Value.slice (if c = n then _ else _) _ _ = _; rw [HIF.out]; simp)) (H2.out.next stab_RI F3) (fun _ _ _ hr => hr.1) (by omega) (by exact F3.size) ?_; intro A4 c4 w4 hown4 hg4 hb4))
      all_goals
        have e1 : n + 1 + (n - n) = n + 1 := by omega
        rw [e1] at hown4
        have eL : ints (xs.take n) ++ [.int .i64 y] ++ (xs.drop n).map (fun y => .int .i64 y) = ints (xs.take n ++ y :: xs.drop n) := by simp [ints]
        rw [eL] at hown4
        have HO4 := Lib.hid hown4
        have HF4 := Lib.hid (F3.trans hb4)
        have HE1 := Lib.hid e1
        clear hown4 eL e1
        go_wp2_with fail
        all_goals
          go_ret
          exact ⟨A4, n + 1, c4, _, by first | rfl | (rw [← HE1.out]; rfl), own_mono HO4.out hlo, Nat.le_refl _, fun z hz => by
            rcases List.mem_append.1 hz with hz | hz
            · exact .inl (List.mem_of_mem_take hz)
            · rcases List.mem_cons.1 hz with hz | hz
              · exact .inr hz
              · exact .inl (List.mem_of_mem_drop hz), HF4.out⟩
end Go.Proofs.YtkmgbdljiajlaaaGreatDoor
namespace Go.Proofs.YtkmgbdljiajlaaaGreatDoor
open Go.RowKit

theorem nums10k (w : World) (g : Nat) (hg : g < w.heap.size) {k : Nat} (hk : k = w.heap.size) : NumsP (fun x => 0 ≤ x ∧ x ≤ 7) (w.alloc (.cells #[.int .i64 0, .int .i64 1, .int .i64 2, .int .i64 3, .int .i64 4, .int .i64 4, .int .i64 5, .int .i64 5, .int .i64 6, .int .i64 7] 3)) g k 10 := by
  subst hk
  refine ⟨by omega, by omega, by omega, fun i hi => ?_⟩
  have hc := (Blk.new w 3 #[.int .i64 0, .int .i64 1, .int .i64 2, .int .i64 3, .int .i64 4, .int .i64 4, .int .i64 5, .int .i64 5, .int .i64 6, .int .i64 7]).cell i
  rcases (by omega : i = 0 ∨ i = 1 ∨ i = 2 ∨ i = 3 ∨ i = 4 ∨ i = 5 ∨ i = 6 ∨ i = 7 ∨ i = 8 ∨ i = 9) with rfl | rfl | rfl | rfl | rfl | rfl | rfl | rfl | rfl | rfl
  · exact ⟨0, ⟨by omega, by omega⟩, hc⟩
  · exact ⟨1, ⟨by omega, by omega⟩, hc⟩
  · exact ⟨2, ⟨by omega, by omega⟩, hc⟩
  · exact ⟨3, ⟨by omega, by omega⟩, hc⟩
  · exact ⟨4, ⟨by omega, by omega⟩, hc⟩
  · exact ⟨4, ⟨by omega, by omega⟩, hc⟩
  · exact ⟨5, ⟨by omega, by omega⟩, hc⟩
  · exact ⟨5, ⟨by omega, by omega⟩, hc⟩
  · exact ⟨6, ⟨by omega, by omega⟩, hc⟩
  · exact ⟨7, ⟨by omega, by omega⟩, hc⟩
/-- Beyond the block q. -/
def Hi (q : Nat) (A : Option Addr) : Prop := ∀ b o, A = some ⟨b, o, none⟩ → q < b
theorem Hi.off {q : Nat} {A : Option Addr} (h : Hi q A) : Off q A := fun b o e => by have := h b o e; omega
theorem own_hiG {q : Nat} {w : World} {base : Nat} {e : TypeId} {size : Nat} {A : Option Addr} {n c : Nat} {xs : List Value} (h : w.ownsRow base e size (.slice A n c) n xs) (hq : q < base) : Hi q A := by
  intro b o hA
  subst hA
  have := (h.lt b rfl).1
  omega
/-- An int slice that reads, does not lie in the block g, and lies beyond q. -/
def RG2 (g q : Nat) (w : World) (v : Value) (xs : List Int) : Prop := ∃ A n c, v = .slice A n c ∧ RdL RI w A n xs ∧ Off g A ∧ Hi q A
section
variable {lo g q n : Nat} {w w' : World} {F : List (List Int)}
theorem rdl_grownR {α : Type} {R R' : World → Value → α → Prop} {A : Option Addr} {xs : List α} (h : RdL R w A n xs) (hA : Off q A) (hR : ∀ v x, R w v x → R' w' v x) (hg : w.grownBy w' (some q)) : RdL R' w' A n xs :=
  ⟨h.1, h.2.1, fun k x hk => by
    obtain ⟨b, o, v, e, hc, hr⟩ := h.2.2 k x hk
    exact ⟨b, o, v, e, (World.cell?_of_block (hg.block b (cell_lt hc) (fun e2 => hA b o e (by injection e2)))).trans hc, hR v x hr⟩⟩
theorem r2_end {A : Option Addr} (h : RdL (RG2 g q) w A n F) (hA : Hi q A) (hg : w.grownBy w' (some q)) : RdL (RG2 g q) w' A n F :=
  rdl_grownR h hA.off (fun _ _ ⟨A', n', c', e, hr, h1, h2⟩ => ⟨A', n', c', e, rdl_grown hr h2.off (fun _ _ h => h) hg, h1, h2⟩) hg
/-- A row of slices with another slice in the place x. -/
theorem put_r2 {b c x : Nat} {vs : List Value} {u : Value} {p : List Int} (ho : w.ownsRow lo 27 1 (.slice (some ⟨b, 0, none⟩) n c) n vs) (hl : vs.length = F.length) (hr : ∀ (j : Nat) u ys, j ≠ x → vs[j]? = some u → F[j]? = some ys → w.ownsRow lo 3 1 u ys.length (ints ys))
    (hg : g < lo) (hq : q < lo) (hF : ∀ p ∈ F, ∀ x ∈ p, -2000 ≤ x ∧ x ≤ 2000) (hx : x < n) (hu : RG2 g q (w.setCell ⟨b, x, none⟩ u) u p) : RdL (RG2 g q) (w.setCell ⟨b, x, none⟩ u) (some ⟨b, 0, none⟩) n (F.set x p) := by
  have hn : vs.length = n := by have := ho.1; omega
  obtain ⟨hst, hgr⟩ := ho.stored x u
  refine ⟨by rw [List.length_set]; omega, own_len_leB ho, fun j ys hj => ?_⟩
  have hjl := (List.getElem?_eq_some_iff.1 hj).1
  rw [List.length_set] at hjl
  by_cases hjx : j = x
  · subst hjx
    rw [List.getElem?_set_self hjl] at hj
    injection hj with hj
    subst hj
    exact ⟨b, 0, u, rfl, by rw [Nat.zero_add, hst.cellAt j (by omega), List.getElem?_set_self (by omega)], hu⟩
  · rw [List.getElem?_set_ne (fun e => hjx e.symm)] at hj
    have hv : vs[j]? = some (vs[j]'(by omega)) := List.getElem?_eq_getElem (by omega)
    have hrow := hr j _ ys hjx hv hj
    generalize vs[j]'(by omega) = v at hv hrow
    obtain ⟨B, d, rfl⟩ := own_slice hrow
    have hrow' := own_same hrow fun k hk => hgr.block k (hrow.lt k hk).2 (fun e => own_ne hrow ho (by decide) hk (by injection e with e; rw [e]; rfl))
    refine ⟨b, 0, _, rfl, by rw [Nat.zero_add, hst.cellAt j (by omega), List.getElem?_set_ne (fun e => hjx e.symm)]; exact hv, B, ys.length, d, rfl, rd_of_own (R := RI) hrow' (RI_ints fun y hy => by have := hF ys (List.mem_of_getElem? hj) y hy; omega), own_offG hrow' hg, own_hiG hrow' hq⟩
theorem OwM.toR2 {v : Value} (h : OwM 27 3 (.int .i64) lo w v n F) (hg : g < lo) (hq : q < lo) (hF : ∀ p ∈ F, ∀ x ∈ p, -2000 ≤ x ∧ x ≤ 2000) : ∃ A c, v = .slice A n c ∧ n ≤ c ∧ Off g A ∧ Hi q A ∧ RdL (RG2 g q) w A n F := by
  obtain ⟨vs, h1, h2, h3, -⟩ := h
  have hl : vs.length = n := by have := h1.1; simpa using this
  obtain ⟨A, c, e, hr⟩ := RdL.ofOwn (R := RG2 g q) (xs := F) (own_len_leB h1) h1 (by omega) fun k x hk => by
    have hkl := (List.getElem?_eq_some_iff.1 hk).1
    have hu : vs[k]? = some (vs[k]'(by omega)) := List.getElem?_eq_getElem (by omega)
    refine ⟨_, hu, ?_⟩
    have ho := h3 k _ x hu hk
    generalize vs[k]'(by omega) = u at ho
    obtain ⟨B, c, e⟩ := own_slice ho
    rw [e] at ho ⊢
    exact ⟨B, x.length, c, rfl, rd_of_own (R := RI) ho (RI_ints fun y hy => by have := hF x (List.mem_of_getElem? hk) y hy; omega), own_offG ho hg, own_hiG ho hq⟩
  subst e
  exact ⟨A, c, rfl, sort_cap h1, own_offG h1 hg, own_hiG h1 hq, hr⟩
end
/-- What a drawn poset is: it reads, and no block of it is the cursor's. -/
def PsD (B : Nat) (w : World) (g t : Nat) (e : Ending) (w' : World) : Prop := ∃ A m c F, e = .returned (.agg #[.slice A m c]) ∧ RdL (RG2 g w.heap.size) w' A m F ∧ Off g A ∧ Hi w.heap.size A ∧ m ≤ 12 ∧ (∀ p ∈ F, p.length ≤ 20) ∧ CurB B w' g t ∧ w.grownBy w' (some g)
theorem stab_R2 {g q : Nat} : Stab (RG2 g q) := fun _ _ _ _ hb ⟨A, n, c, e, h, h1, h2⟩ => ⟨A, n, c, e, h.same stab_RI hb, h1, h2⟩
/-- A drawn poset with another row in the place x. -/
theorem mut_row {B g t n c x b pb q lo : Nat} {w0 w' : World} {vs : List Value} {F : List (List Int)} {u : Value} {p : List Int} {csR csP : Array Value} (ho : w'.ownsRow lo 27 1 (.slice (some ⟨b, 0, none⟩) n c) n vs) (hl : vs.length = F.length) (hr : ∀ (j : Nat) u ys, j ≠ x → vs[j]? = some u → F[j]? = some ys → w'.ownsRow lo 3 1 u ys.length (ints ys))
    (hg : g < lo) (hq : q < lo) (hB : B ≤ lo) (hw0 : w0.heap.size ≤ lo) (hF : ∀ p ∈ F, ∀ x ∈ p, -2000 ≤ x ∧ x ≤ 2000) (hx : x < n) (hu : RG2 g q (w'.setCell ⟨b, x, none⟩ u) u p) (hR : Blk w' q 26 csR) (hP : Blk w' pb 26 csP) (hc : CurB B w' g t) (hgr : w0.grownBy w' (some g)) :
    RdL (RG2 g q) (w'.setCell ⟨b, x, none⟩ u) (some ⟨b, 0, none⟩) n (F.set x p) ∧ Off g (some ⟨b, 0, none⟩) ∧ Hi q (some ⟨b, 0, none⟩) ∧ CurB B (w'.setCell ⟨b, x, none⟩ u) g t ∧ w0.grownBy (w'.setCell ⟨b, x, none⟩ u) (some g) ∧ Blk (w'.setCell ⟨b, x, none⟩ u) q 26 csR ∧ Blk (w'.setCell ⟨b, x, none⟩ u) pb 26 csP := by
  have hG : w'.grownBy (w'.setCell ⟨b, x, none⟩ u) (some b) := grown_setB (g := b) (p := ⟨b, x, none⟩) (grown_reflB w' _) rfl _
  have hb := (ho.lt b rfl).1
  exact ⟨put_r2 ho hl hr hg hq hF hx hu, own_offG ho hg, own_hiG ho hq, hc.grown hG fun r hr => by injection hr with hr; omega, growB_own hgr hG fun r hr => by injection hr with hr; omega, hR.far (fun e => by have : q = b := e; omega) _, hP.far (fun e => own_far ho hP (by decide) (by have h2 : pb = b := e; rw [h2]; rfl)) _⟩
/-- The world while a drawn poset is changed: it lies in the block pb, the result in q. -/
def PosW (B g t q pb : Nat) (w0 wx : World) : Prop := ∃ (A : Option Addr) (m c : Nat) (F : List (List Int)), Blk wx pb 26 #[.slice A m c] ∧ Blk wx q 26 #[.slice none 0 0] ∧ RdL (RG2 g q) wx A m F ∧ Off g A ∧ Hi q A ∧ m ≤ 12 ∧ (∀ p ∈ F, p.length ≤ 20) ∧ CurB B wx g t ∧ w0.grownBy wx (some g)
theorem PosW.next {B g t q pb : Nat} {w0 w w' : World} (h : PosW B g t q pb w0 w) (hb : Below w.heap.size w w') : PosW B g t q pb w0 w' := by
  obtain ⟨A, m, c, F, h1, h2, h3, h4, h5, h6, h7, h8, h9⟩ := h
  exact ⟨A, m, c, F, h1.next hb, h2.next hb, h3.next stab_R2 hb, h4, h5, h6, h7, h8.next_ hb, growB_trans h9 (toGr hb)⟩
theorem ps_fin {B g t m c : Nat} {w w0 wx : World} {A : Option Addr} {F : List (List Int)} (hb0 : Below w.heap.size w w0) (hg : w0.grownBy wx (some g)) (hgl : g < w.heap.size) (hB : B ≤ w.heap.size) (hr : RdL (RG2 g w.heap.size) wx A m F) (hog : Off g A) (hoq : Hi w.heap.size A) (hm : m ≤ 12) (hF : ∀ p ∈ F, p.length ≤ 20) (hc : CurB B wx g t) :
    PsD B w g t (.returned (.agg #[.slice A m c])) (wx.setCell ⟨w.heap.size, 0, none⟩ (.slice A m c)) := by
  have hG : wx.grownBy (wx.setCell ⟨w.heap.size, 0, none⟩ (.slice A m c)) (some w.heap.size) := grown_setB (g := w.heap.size) (p := ⟨w.heap.size, 0, none⟩) (grown_reflB wx _) rfl _
  exact ⟨A, m, c, F, rfl, r2_end hr hoq hG, hog, hoq, hm, hF, hc.grown hG (fun r hr => by injection hr with hr; omega), growB_own (growB_trans (toGr hb0) hg) hG (fun r hr => by injection hr with hr; omega)⟩
set_option linter.unusedVariables false in
set_option maxRecDepth 20000 in
set_option maxHeartbeats 8000000 in
theorem poset_any (B g t : Nat) (w : World) (h : CurB B w g t) (hB : B ≤ w.heap.size) (ht : t ≤ 999980000) :
    Calls Tryz.prog 21 #[.pointer (some ⟨g, 0, none⟩)] w (PsD B w g (t + 200)) := by
  have hgl := h.lt
  obtain ⟨w0, HW0⟩ : ∃ wb, Hid (wb = w.alloc (.cells #[.slice none 0 0] 26)) := ⟨_, rfl⟩
  have hb0 : Below w.heap.size w w0 := by rw [HW0.out]; exact below_box _ _
  have B0 : Blk w0 w.heap.size 26 #[.slice none 0 0] := by rw [HW0.out]; exact Blk.new _ _ _
  have hs0 : w0.heap.size = w.heap.size + 1 := by rw [HW0.out]; simp
  have hc0 := h.next_ hb0
  obtain ⟨w1, HW1⟩ : ∃ wb, Hid (wb = w0.alloc (.cells #[.int .i64 0, .int .i64 1, .int .i64 2, .int .i64 3, .int .i64 4, .int .i64 4, .int .i64 5, .int .i64 5, .int .i64 6, .int .i64 7] 3)) := ⟨_, rfl⟩
  have hb1 : Below w0.heap.size w0 w1 := by rw [HW1.out]; exact below_box _ _
  have hn10 : NumsP (fun x => 0 ≤ x ∧ x ≤ 7) w1 g (w.heap.size + 1) 10 := by rw [HW1.out]; exact nums10k w0 g hc0.lt hs0.symm
  have HA := Lib.hid (amongB_any g t (w.heap.size + 1) 10 10 w1 (hc0.next_ hb1) (by omega) _ hn10)
  have hg1 : w0.grownBy w1 (some g) := toGr hb1
  clear hn10 hb1
  go_enter Tryz.func21, Tryz.ntmps21
  go_wp2_with fail
  rw [← HW0.out, ← HW1.out]
  refine HA.out.mono ?_
  rintro e w2 ⟨xn, hxn, rfl, hc2, hg12⟩
  have hg2 := growB_trans hg1 hg12
  obtain ⟨n, rfl⟩ := Int.eq_ofNat_of_zero_le hxn.1
  have hn7 : n ≤ 7 := by omega
  clear HA hg1 hg12 hc0 hxn
  have hs2 := hg2.size
  obtain ⟨w3, HW3⟩ : ∃ wb, Hid (wb = w2.alloc (.cells #[] 80)) := ⟨_, rfl⟩
  have hb3 : Below w2.heap.size w2 w3 := by rw [HW3.out]; exact below_box _ _
  have hP3 : OwPr w2.heap.size n w3 (.slice (some ⟨w2.heap.size, 0, none⟩) 0 0) 0 := by rw [HW3.out]; exact OwPr.lit w2 n [] 0 (fun x hx => by simp at hx) (by omega) rfl
  have hc3 := hc2.next_ hb3
  have hg3 : w2.grownBy w3 (some g) := toGr hb3
  clear hb3 hc2
  go_wp2_with fail
  rw [← HW3.out]
  go_loopw [4, 5, 6] (fun v i _ wr => ∃ (x : Nat) (A : Option Addr) (m c : Nat), x ≤ n ∧ i = .int .i64 x ∧ v = .slice A m c ∧ m ≤ 7 * x ∧ OwPr w2.heap.size n wr (.slice A m c) m ∧ CurB B wr g (t + 2 + 14 * x) ∧ w2.grownBy wr (some g)) (fun _ i _ _ => n - (intOf i).toNat)
  case atStart => exact ⟨0, _, 0, 0, Nat.zero_le _, rfl, rfl, by omega, hP3, hc3, hg3⟩
  case round =>
    clear hP3 hc3 hg3
    obtain ⟨x, A, m, c, hx, rfl, rfl, hmx, hP, hc, hg⟩ := hrel
    by_cases hlx : x < n
    · have hx1 : (x : Int) < (n : Int) := by omega
      have hwx : IntKind.i64.wrap ((x : Int) + 1) = (x : Int) + 1 := by rw [IntKind.wrap_i64]; omega
      go_wp2_with fail
      go_loopw [4, 6] (fun v i wr => ∃ (y : Nat) (A : Option Addr) (m c : Nat), x + 1 ≤ y ∧ y ≤ n ∧ i = .int .i64 y ∧ v = .slice A m c ∧ m ≤ 7 * x + (y - (x + 1)) ∧ OwPr w2.heap.size n wr (.slice A m c) m ∧ CurB B wr g (t + 2 + 14 * x + 2 * (y - (x + 1))) ∧ w2.grownBy wr (some g)) (fun _ i _ => n - (intOf i).toNat)
      case atStart => exact ⟨x + 1, A, m, c, Nat.le_refl _, by omega, by go_num, rfl, by omega, hP, hc.mono (by omega), hg⟩
      case round =>
        clear hP hc hg hmx
        obtain ⟨y, A, m, c, hxy, hy, rfl, rfl, hmx, hP, hc, hg⟩ := hrel
        by_cases hly : y < n
        · have hy1 : (y : Int) < (n : Int) := by omega
          go_wp2_with fail
          refine (oneB_any g (t + 2 + 14 * x + 2 * (y - (x + 1))) 3 wr hc (by omega) (by omega)).mono ?_
          rintro e w4 ⟨bb, rfl, hc4, hg4⟩
          have hP4 := hP.grownG hg4 (by have := hc.lt; omega)
          have hg04 := growB_trans hg hg4
          rcases bb with _ | _
          · go_wp2_with fail
            go_roundw
            case rel => exact ⟨y + 1, A, m, c, by omega, by omega, by go_num, rfl, by omega, hP4, hc4.mono (by omega), hg04⟩
            case measure => simp [intOf]; omega
          · obtain ⟨ps, hps, hpb⟩ := hP4
            have HPB := Lib.hid hpb
            have hz4 := hg04.size
            clear hpb
            go_wp2_with (at_builtin; refine app2p w4 rfl _ _ 78 80 rfl (.agg #[.int .i64 0, .int .i64 0]) 16 Tryz.underlying78 info_pair rfl (by decide) w2.heap.size m c A (ints ps) rfl hps (.int .i64 x) (.int .i64 y) rfl rfl rfl (by omega) hz4 ?_; intro A5 c5 w5 hown5 hg5 hb5)
            have hP5 := OwPr.snoc hown5 HPB.out hlx hly
            have hc5 := hc4.grown hg5 fun r hr => by have := (hps.lt r hr).1; omega
            have hg05 := growB_own hg04 hg5 fun r hr => by have := (hps.lt r hr).1; omega
            clear hown5 hg5 hps
            go_roundw
            case rel => exact ⟨y + 1, A5, m + 1, c5, by omega, by omega, by go_num, rfl, by omega, hP5, hc5.mono (by omega), hg05⟩
            case measure => simp [intOf]; omega
        · obtain rfl : n = y := by omega
          have hy1 : ¬ (n : Int) < (n : Int) := by omega
          go_wp2_with fail
          go_roundw
          case rel => exact ⟨x + 1, A, m, c, by omega, by go_num, rfl, by omega, hP, hc.mono (by omega), hg⟩
          case measure => simp [intOf]; omega
    · obtain rfl : n = x := by omega
      have hx1 : ¬ (n : Int) < (n : Int) := by omega
      have hg2l : g < w2.heap.size := by have := hs2; omega
      obtain ⟨wb, HWB⟩ : ∃ wb : World, wb = wr := ⟨_, rfl⟩
      subst HWB
      have hgwb := hc.lt
      have HNM := Lib.hid (names2_any B g (t + 2 + 14 * n) n wb hc (by have := hg.size; omega) (by omega) (by omega))
      go_wp2_with fail
      refine HNM.out.mono ?_
      rintro e w4 ⟨A4, m4, c4, L, rfl, hown4, hL, hm4, hc4, hg4⟩
      have hP4 := hP.grownG hg4 hg2l
      have hg24 := growB_trans hg hg4
      have hrd4 := rd_of_own (R := RI) hown4 (RI_ints fun y hy => by have := hL y hy; omega)
      have HOWN := Lib.hid hown4
      clear hP hc hg HNM hg4 hL hown4
      go_upto_region 12 with fail
      go_cut [44] from 38 to 43 (fun u44 wx => ∃ bb : Bool, u44 = .bool bb ∧ Hid (bb = true → m4 = n ∧ ∀ x ∈ L, 0 ≤ x ∧ x < (n : Int)) ∧ CurB B wx g (t + 2 + 14 * n + 2 * n + 12) ∧ w4.grownBy wx (some g))
      case first =>
        have HPM := Lib.hid (l2Perm_any A4 m4 c4 n L w4 hrd4 (by omega))
        go_wp2_with fail
        refine HPM.out.mono ?_
        rintro e w5 ⟨b, rfl, hb, hT5⟩
        have HB := Lib.hid hb
        have hc5 := hc4.next_ hT5
        clear hb HPM
        rcases b with _ | _
        · go_wp2_with fail
          go_meet
          exact ⟨false, rfl, (fun h => by cases h), hc5.mono (by omega), toGr hT5⟩
        · go_wp2_with fail
          refine (oneB_any g (t + 2 + 14 * n + 2 * n + 10) 2 w5 hc5 (by omega) (by omega)).mono ?_
          rintro e w6 ⟨bb, rfl, hc6, hg6⟩
          go_wp2_with fail
          go_meet
          exact ⟨bb, rfl, (fun _ => HB.out (by first | rfl | trivial)), hc6, growB_trans (toGr hT5) hg6⟩
      case rest =>
        obtain ⟨bb, rfl, HBB, hc5, hg5⟩ := hcut
        obtain ⟨w5, HWC⟩ : ∃ wq : World, wq = wc := ⟨_, rfl⟩
        subst HWC
        have hP5 := hP4.grownG hg5 hg2l
        have hown5 := own_grownG HOWN.out hg5 hgwb
        have hg25 := growB_trans hg24 hg5
        clear hP4 hc4 hrd4 HOWN hg5 hg24
        go_upto_if 44 with fail
        go_cut [8] from 44 to 70 (fun _ wx => OwPr w2.heap.size n wx (.slice A m c) m ∧ CurB B wx g (t + 2 + 14 * n + 2 * n + 12) ∧ w2.grownBy wx (some g))
        case first =>
          rcases bb with _ | _
          · go_wp2_with fail
            go_meet
            exact ⟨hP5, hc5, hg25⟩
          · obtain ⟨rfl, hLn⟩ := HBB.out rfl
            have HLN := Lib.hid hLn
            clear hLn
            go_wp2_with fail
            go_loopw [8] (fun i wr => ∃ q : Nat, q ≤ m ∧ i = .int .i64 q ∧ OwPr w2.heap.size m4 wr (.slice A m c) m ∧ wr.ownsRow wb.heap.size 3 1 (.slice A4 m4 c4) m4 (ints L) ∧ CurB B wr g (t + 2 + 14 * m4 + 2 * m4 + 12) ∧ w2.grownBy wr (some g)) (fun i _ => m - (intOf i).toNat)
            case atStart => exact ⟨0, Nat.zero_le _, rfl, hP5, hown5, hc5, hg25⟩
            case round =>
              clear hP5 hown5 hc5 hg25
              obtain ⟨q, hq, rfl, hP, hown, hc, hg⟩ := hrel
              by_cases hlq : q < m
              · have hq0 : (0 : Int) ≤ (q : Int) := by omega
                have hq1 : (q : Int) < (m : Int) := by omega
                obtain ⟨pb, x, y, rfl, hlo, hpl, hx, hy, hcx, hcy, hfx, hfy, hset⟩ := hP.get hlq
                obtain ⟨nb, rfl, hlon, -⟩ := own_form hown (by omega)
                have hLl : L.length = m4 := by have := hown.1; simpa [ints] using this
                have hx2 := HLN.out _ (List.getElem_mem (l := L) (n := x) (by omega))
                have hy2 := HLN.out _ (List.getElem_mem (l := L) (n := y) (by omega))
                obtain ⟨x', ex⟩ := Int.eq_ofNat_of_zero_le hx2.1
                obtain ⟨y', ey⟩ := Int.eq_ofNat_of_zero_le hy2.1
                have hnx : wr.cell? ⟨nb, x, none⟩ = some (.int .i64 (x' : Nat)) := by rw [hown.cellAt x (by omega), ints, List.getElem?_map, List.getElem?_eq_getElem (by omega), ex]; rfl
                have hny : wr.cell? ⟨nb, y, none⟩ = some (.int .i64 (y' : Nat)) := by rw [hown.cellAt y (by omega), ints, List.getElem?_map, List.getElem?_eq_getElem (by omega), ey]; rfl
                have hx0 : (0 : Int) ≤ (x : Int) := by omega
                have hx1 : (x : Int) < (m4 : Int) := by omega
                have hy0 : (0 : Int) ≤ (y : Int) := by omega
                have hy1 : (y : Int) < (m4 : Int) := by omega
                have HSET := Lib.hid (hset x' y' (by omega) (by omega))
                have hnp : nb ≠ pb := by
                  obtain ⟨ps, hps, -⟩ := hP
                  exact fun e => own_ne hown hps (by decide) rfl (by rw [e]; rfl)
                have hG : wr.grownBy (((wr.setCell ⟨pb, q * 2, none⟩ (.int .i64 x')).setCell ⟨pb, q * 2 + 1, none⟩ (.int .i64 y')).drew) (some pb) := growB_trans (grown_setB (g := pb) (p := ⟨pb, q * 2 + 1, none⟩) (grown_setB (g := pb) (p := ⟨pb, q * 2, none⟩) (grown_reflB wr _) rfl _) rfl _) (toGr (Below.drew (Below.refl _ _)))
                have hownN := own_same hown fun b hv => hG.block b (hown.lt b hv).2 (fun e => hnp (by injection hv with hv; injection e with e; exact hv.trans e))
                have hcN := hc.grown hG fun r hr => by injection hr with hr; omega
                have hgN := growB_own hg hG fun r hr => by injection hr with hr; omega
                have HALL := Lib.hid (And.intro hownN (And.intro hcN hgN))
                clear hset hP ex ey hx2 hy2 hLl hG hownN hcN hgN hown hc hg
                go_wp2_with fail
                go_region
                go_wp2_with fail
                go_roundw
                case rel => exact ⟨q + 1, by omega, by go_num, HSET.out.next (Below.drew (Below.refl _ _)), HALL.out.1, HALL.out.2.1, HALL.out.2.2⟩
                case measure => simp [intOf]; omega
              · obtain rfl : m = q := by omega
                have hq1 : ¬ (m : Int) < (m : Int) := by omega
                go_wp2_with fail
                go_meet
                exact ⟨hP, hc, hg⟩
        case rest =>
          obtain ⟨hP6, hc6, hg6⟩ := hcut
          obtain ⟨w6, HWC⟩ : ∃ wq : World, wq = wc := ⟨_, rfl⟩
          subst HWC
          have HL23 := Lib.hid (l23From_any n m c A w6 (hP6.rd (by omega)) (by omega))
          have hz6 := hg6.size
          have hg06 := growB_trans hg2 hg6
          clear hP5 hown5 hc5 hg25 hP6 hg6
          go_wp2_with fail
          refine HL23.out.mono ?_
          rintro e w7 ⟨A7, c7, F, rfl, hM7, hF, hT7⟩
          have HF := Lib.hid hF
          have hc7 := hc6.next_ hT7
          have hg07 := growB_trans hg06 (toGr (r := some g) hT7)
          have hg6l := hc6.lt
          clear hF hc6 hg06
          obtain ⟨w8, HW8⟩ : ∃ wq, Hid (wq = w7.alloc (.cells #[.slice A7 n c7] 26)) := ⟨_, rfl⟩
          have hb8 : Below w7.heap.size w7 w8 := by rw [HW8.out]; exact below_box _ _
          have B8 : Blk w8 w7.heap.size 26 #[.slice A7 n c7] := by rw [HW8.out]; exact Blk.new _ _ _
          have hM8 := hM7.next hb8
          have hc8 := hc7.next_ hb8
          have hg08 := growB_trans hg07 (toGr (r := some g) hb8)
          have hzb := hT7.size
          clear hb8 hM7 hc7 hg07 HL23
          have hB8 : Blk w8 w.heap.size 26 #[.slice none 0 0] := B0.grown hg08 (fun e => by injection e with e; omega)
          have hlo6 : w.heap.size < w6.heap.size := by have := hs2; omega
          go_upto_region 18 with fail
          rw [← HW8.out]
          go_cut [80] from 74 to 79 (fun u80 wx => ∃ bb : Bool, u80 = .bool bb ∧ Hid (bb = false → 0 < n) ∧ CurB B wx g (t + 2 + 14 * n + 2 * n + 14) ∧ w8.grownBy wx (some g))
          case first =>
            by_cases hn0 : n = 0
            · have hn1 : ((n : Int) == 0) = true := by simp; omega
              go_wp2_with fail
              go_meet
              exact ⟨true, rfl, (fun h => by cases h), hc8.mono (by omega), grown_reflB _ _⟩
            · have hn1 : ((n : Int) == 0) = false := by simp; omega
              go_wp2_with fail
              refine (oneB_any g (t + 2 + 14 * n + 2 * n + 12) 16 w8 hc8 (by omega) (by omega)).mono ?_
              rintro e w9 ⟨bb, rfl, hc9, hg9⟩
              go_wp2_with fail
              go_meet
              exact ⟨!bb, rfl, (fun _ => by omega), hc9, hg9⟩
          case rest =>
            obtain ⟨bb, rfl, HN0, hc9, hg9⟩ := hcut
            obtain ⟨w9, HWC⟩ : ∃ wq : World, wq = wc := ⟨_, rfl⟩
            subst HWC
            have hM9 := hM8.grownI hg9 (by omega)
            have hR9 := hB8.grown hg9 (fun e => by injection e with e; omega)
            have hP9 := B8.grown hg9 (fun e => by injection e with e; have := hc8.lt; omega)
            have hg09 := growB_trans hg08 hg9
            clear hM8 hB8 B8 hg08 hg9 hc8
            have kR := hR9.cell 0
            have fR := hR9.frozen 0
            have kP := hP9.cell 0
            have fP := hP9.frozen 0
            simp at kR kP
            have HFB : Hid (∀ p ∈ F, ∀ x ∈ p, -2000 ≤ x ∧ x ≤ 2000) := fun p hp x hx => by have := (HF.out p hp).2 x hx; omega
            rcases bb with _ | _
            · have hn0 : 0 < n := HN0.out (by first | rfl | trivial)
              have HPK := Lib.hid (pickB_any g (t + 2 + 14 * n + 2 * n + 14) (n : Int) w9 hc9 (by omega) (by omega))
              clear kR fR kP fP
              go_wp2_with fail
              refine HPK.out.mono ?_
              rintro e w10 ⟨x, hx, rfl, hc10, hg10⟩
              have HP4 := Lib.hid (pickB_any g (t + 2 + 14 * n + 2 * n + 16) 4 w10 hc10 (by omega) (by omega))
              clear HPK
              go_wp2_with fail
              refine HP4.out.mono ?_
              rintro e w11 ⟨k, hk, rfl, hc11, hg11⟩
              have hg911 := growB_trans hg10 hg11
              have hM11 := hM9.grownI hg911 (by omega)
              have hR11 := hR9.grown hg911 (fun e => by injection e with e; omega)
              have hP11 := hP9.grown hg911 (fun e => by injection e with e; have := hc9.lt; omega)
              have hg011 := growB_trans hg09 hg911
              have hxn : x < n := by omega
              have hx0 : (0 : Int) ≤ (x : Int) := by omega
              have hx1 : (x : Int) < (n : Int) := by omega
              clear hM9 hR9 hP9 hg09 hg911 hg10 hg11 HP4 hc9 hc10 hx
              obtain ⟨vs, ho, hl, hrows, hnd⟩ := hM11
              obtain ⟨b, rfl, hlob, hncb⟩ := own_form ho hn0
              have hvl : vs.length = n := by have := ho.1; omega
              have hFl : F.length = n := by omega
              have hvx : vs[x]? = some (vs[x]'(by omega)) := List.getElem?_eq_getElem (by omega)
              have hFx : F[x]? = some (F[x]'(by omega)) := List.getElem?_eq_getElem (by omega)
              have hpm := List.getElem_mem (l := F) (n := x) (by omega)
              have hrow := hrows x _ _ hvx hFx
              generalize F[x]'(by omega) = p at hFx hpm hrow
              generalize vs[x]'(by omega) = u at hvx hrow
              obtain ⟨⟨hp0, hp1⟩, hp2⟩ := HF.out p hpm
              obtain ⟨U, d, rfl⟩ := own_slice hrow
              obtain ⟨r, rfl, hlor, hld⟩ := own_form hrow hp0
              have hcx : w11.cell? ⟨b, x, none⟩ = some (.slice (some ⟨r, 0, none⟩) p.length d) := (ho.cellAt x (by omega)).trans hvx
              have hfx := ho.frozenAt x
              have kR := hR11.cell 0
              have fR := hR11.frozen 0
              have kP := hP11.cell 0
              have fP := hP11.frozen 0
              simp at kR kP
              go_upto_block 6 with fail
              go_cut [] from 86 to 145 (fun wx => PosW B g (t + 200) w.heap.size w7.heap.size w0 wx)
              case rest =>
                obtain ⟨A6, m6, c6, F6, hP12, hR12, hr, hog, hoq, hm6, hF6, hc12, hg12⟩ := hcut
                have HFIN := Lib.hid (ps_fin (c := c6) hb0 hg12 hgl hB hr hog hoq hm6 hF6 hc12)
                clear kR fR kP fP hr hF6
                have kR := hR12.cell 0
                have fR := hR12.frozen 0
                have kP := hP12.cell 0
                simp at kR kP
                go_wp2
                (try simp only [Exit.inBlock, Exit.then])
                refine bodyPost_ret (v := .agg #[.slice A6 m6 c6]) (results_cell_row rfl _ _ w.heap.size 26 #[.slice A6 m6 c6] (0, 0) _ (by simp) (hR12.set_ 0 _) Tryz.underlying26 rfl (by kernel_rfl)) rfl ?_
                exact HFIN.out
              rcases (by omega : (k : Int) = 0 ∨ (k : Int) = 1 ∨ (k : Int) = 2 ∨ (k : Int) = 3) with hk0 | hk0 | hk0 | hk0
              · have hq0 : ((k : Int) == 0) = true := by simp; omega
                have hq1 : ((k : Int) == 1) = false := by simp; omega
                have hq2 : ((k : Int) == 2) = false := by simp; omega
                have hq3 : ((k : Int) == 3) = false := by simp; omega
                have h1l : (1 : Int) ≤ (p.length : Int) := by omega
                have hld1 : (p.length : Int) ≤ (d : Int) := by omega
                obtain ⟨ad, HAD⟩ : ∃ ad, Hid ((if d = 1 then some (⟨r, 0, none⟩ : Addr) else some ⟨r, 1, none⟩) = ad) := ⟨_, rfl⟩
                have hbr : r ≠ b := fun e => own_ne hrow ho (by decide) rfl (by rw [e]; rfl)
                have hrow2 := own_same (w' := w11.setCell ⟨b, x, none⟩ (.slice ad (p.length - 1) (d - 1))) hrow fun k hk => Below.heap_setCell w11 ⟨b, x, none⟩ _ k (fun e => hbr (by injection hk with hk; exact hk.trans e))
                have hrd2 := rd_of_own (R := RI) hrow2 (RI_ints fun y hy => by have := hp2 y hy; omega)
                have hu : RG2 g w.heap.size (w11.setCell ⟨b, x, none⟩ (.slice ad (p.length - 1) (d - 1))) (.slice ad (p.length - 1) (d - 1)) (p.drop 1) := by
                  refine ⟨ad, _, _, rfl, ?_, ?_, ?_⟩
                  · have e0 := HAD.out
                    by_cases hd1 : d = 1
                    · rw [if_pos hd1] at e0
                      subst e0
                      have e1 : p.length - 1 = 0 := by omega
                      have e2 : p.drop 1 = [] := List.drop_eq_nil_of_le (by omega)
                      rw [e1, e2]
                      exact RdL.nil _ _ _
                    · rw [if_neg hd1] at e0
                      subst e0
                      exact hrd2.drop 1
                  · intro b1 o1 e0
                    rw [← HAD.out] at e0
                    split at e0 <;> (simp only [Option.some.injEq, Addr.mk.injEq, and_true] at e0; omega)
                  · intro b1 o1 e0
                    rw [← HAD.out] at e0
                    split at e0 <;> (simp only [Option.some.injEq, Addr.mk.injEq, and_true] at e0; omega)
                have HMR0 := (mut_row ho hl (fun j u ys _ h1 h2 => hrows j u ys h1 h2) (by omega) hlo6 (by omega) (by omega) HFB.out hxn hu hR11 hP11 hc11 hg011)
                obtain ⟨hr, hog, hoq, hcx2, hgx2, hRx, hPx⟩ := HMR0
                have HMR : Hid (PosW B g (t + 200) w.heap.size w7.heap.size w0 (w11.setCell ⟨b, x, none⟩ (.slice ad (p.length - 1) (d - 1)))) := ⟨_, n, c7, _, hPx, hRx, hr, hog, hoq, by omega, fun s hs => by
                  rcases List.mem_or_eq_of_mem_set hs with hs | rfl
                  · have := (HF.out s hs).1; omega
                  · rw [List.length_drop]; omega, hcx2.mono (by omega), hgx2⟩
                clear hr hRx hPx hcx2 hgx2
                clear hu hrd2 hrow2 hrows hnd
                go_wp2_with fail
                go_region
                rw [HAD.out]
                go_wp2_with fail
                go_meet
                exact HMR.out.next (Below.drew (Below.refl _ _))
              · have hq0 : ((k : Int) == 0) = false := by simp; omega
                have hq1 : ((k : Int) == 1) = true := by simp; omega
                have hq2 : ((k : Int) == 2) = false := by simp; omega
                have hq3 : ((k : Int) == 3) = false := by simp; omega
                have hz11 : w6.heap.size ≤ w11.heap.size := by have := (ho.lt b rfl).2; omega
                have hcons : ∀ (A3 : Option Addr) (c3 : Nat) (w12 : World), w12.ownsRow w6.heap.size 3 1 (.slice A3 (p.length + 1) c3) (p.length + 1) (ints p ++ [.int .i64 n]) → w11.grownBy w12 (Value.slice (some ⟨r, 0, none⟩) p.length d).ownBlock → Below w6.heap.size w11 w12 →
                    w12.cell? ⟨w7.heap.size, 0, none⟩ = some (.slice (some ⟨b, 0, none⟩) n c7) ∧ w12.cell? ⟨b, x, none⟩ = some (.slice (some ⟨r, 0, none⟩) p.length d) ∧ w12.frozen? ⟨b, x, none⟩ = false ∧
                    (RdL (RG2 g w.heap.size) (w12.setCell ⟨b, x, none⟩ (.slice A3 (p.length + 1) c3)) (some ⟨b, 0, none⟩) n (F.set x (p ++ [(n : Int)])) ∧ Off g (some ⟨b, 0, none⟩) ∧ Hi w.heap.size (some ⟨b, 0, none⟩) ∧ CurB B (w12.setCell ⟨b, x, none⟩ (.slice A3 (p.length + 1) c3)) g (t + 2 + 14 * n + 2 * n + 18) ∧ w0.grownBy (w12.setCell ⟨b, x, none⟩ (.slice A3 (p.length + 1) c3)) (some g) ∧ Blk (w12.setCell ⟨b, x, none⟩ (.slice A3 (p.length + 1) c3)) w.heap.size 26 #[.slice none 0 0] ∧ Blk (w12.setCell ⟨b, x, none⟩ (.slice A3 (p.length + 1) c3)) w7.heap.size 26 #[.slice (some ⟨b, 0, none⟩) n c7]) := fun A3 c3 w12 hown12 hg12 hb12 => by
                  have ho12 := own_same ho fun k hk => hg12.block k (ho.lt k hk).2 (fun e => own_ne hrow ho (by decide) e.symm hk)
                  have hR12 := hR11.grown hg12 (fun e => own_far hrow hR11 (by decide) e.symm)
                  have hP12 := hP11.grown hg12 (fun e => own_far hrow hP11 (by decide) e.symm)
                  have hown13 := own_same (w' := w12.setCell ⟨b, x, none⟩ (.slice A3 (p.length + 1) c3)) hown12 fun k hk => Below.heap_setCell w12 ⟨b, x, none⟩ _ k (fun e => own_ne hown12 ho12 (by decide) hk (by have h2 : k = b := e; rw [h2]; rfl))
                  have hk12 := hP12.cell 0
                  refine ⟨by simpa using hk12, (ho12.cellAt x (by omega)).trans hvx, ho12.frozenAt x, ?_⟩
                  refine mut_row ho12 hl (fun j u ys hj h1 h2 => own_same (hrows j u ys h1 h2) fun k hk => hg12.block k ((hrows j u ys h1 h2).lt k hk).2 fun e => hj (nodup_blocks hnd h1 hvx hk e.symm)) (by omega) hlo6 (by omega) (by omega) HFB.out hxn ⟨A3, _, c3, rfl, ?_, own_offG hown13 (by omega), own_hiG hown13 hlo6⟩ hR12 hP12 (hc11.grown hg12 fun q hq => by have := (hrow.lt q hq).1; omega) (growB_own hg011 hg12 fun q hq => by have := (hrow.lt q hq).1; omega)
                  have e : ints p ++ [.int .i64 (n : Int)] = ints (p ++ [(n : Int)]) := ints_snocG p n
                  rw [e] at hown13
                  exact rd_of_own (R := RI) hown13 (RI_ints fun y hy => by
                    rcases List.mem_append.1 hy with hy | hy
                    · have := hp2 y hy; omega
                    · rw [List.mem_singleton.1 hy]; omega)
                have HCONS := Lib.hid hcons
                have hrow11 : (w11.drew).ownsRow w6.heap.size 3 1 (.slice (some ⟨r, 0, none⟩) p.length d) p.length (ints p) := hrow
                have hcxa : (w11.alloc (.cells #[.int .i64 n] 3)).cell? ⟨b, x, none⟩ = some (.slice (some ⟨r, 0, none⟩) p.length d) := keepP (below_box w11 _) hcx
                have kPa : (w11.alloc (.cells #[.int .i64 n] 3)).cell? ⟨w7.heap.size, 0, none⟩ = some (.slice (some ⟨b, 0, none⟩) n c7) := keepP (below_box w11 _) kP
                clear hcons hrows hnd
                go_wp2_with fail
                go_region_law (first
                  | (refine step_app1 w11.drew rfl (.tmp 108) (.tmp 110) 27 3 rfl (.int .i64 0) 8 Tryz.underlying27 info_int rfl (by decide) w6.heap.size p.length d (some ⟨r, 0, none⟩) (ints p) (by rfl) hrow11 (.int .i64 n) rfl (by rfl) (by omega) (by exact hz11) ?_; intro A3 c3 w12 hown12 hg12 hb12; obtain ⟨k12, kc12, kf12, HMR⟩ := HCONS.out A3 c3 w12 hown12 (growB_trans (toGr (Below.drew (Below.refl _ _))) hg12) ((Below.drew (Below.refl _ _)).trans hb12)))
                all_goals
                  obtain ⟨hr, hog, hoq, hcx2, hgx2, hRx, hPx⟩ := HMR
                  have HMR' : Hid (PosW B g (t + 200) w.heap.size w7.heap.size w0 (w12.setCell ⟨b, x, none⟩ (.slice A3 (p.length + 1) c3))) := ⟨_, n, c7, _, hPx, hRx, hr, hog, hoq, by omega, fun s hs => by
                    rcases List.mem_or_eq_of_mem_set hs with hs | rfl
                    · have := (HF.out s hs).1; omega
                    · rw [List.length_append, List.length_singleton]; omega, hcx2.mono (by omega), hgx2⟩
                  clear hr hRx hPx hcx2 hgx2
                  go_wp2_with fail
                  go_meet
                  exact HMR'.out
              · have hq0 : ((k : Int) == 0) = false := by simp; omega
                have hq1 : ((k : Int) == 1) = false := by simp; omega
                have hq2 : ((k : Int) == 2) = true := by simp; omega
                have hq3 : ((k : Int) == 3) = false := by simp; omega
                clear hk0 hk
                have hbl := (ho.lt b rfl).2
                have hcc : CurB B w11 g (t + 132) := hc11.mono (by omega)
                have hHP : Hid (∀ wz, Below w11.heap.size w11 wz → Calls Tryz.prog 23 #[.pointer (some ⟨g, 0, none⟩), .int .i64 n] wz (fun e w' => ∃ y : Nat, y < n ∧ e = .returned (.int .i64 y) ∧ CurB B w' g (t + 134) ∧ w11.grownBy w' (some g) ∧ w'.cell? ⟨w7.heap.size, 0, none⟩ = some (.slice (some ⟨b, 0, none⟩) n c7) ∧ w'.cell? ⟨b, x, none⟩ = some (.slice (some ⟨r, 0, none⟩) p.length d) ∧ w'.ownsRow w6.heap.size 3 1 (.slice (some ⟨r, 0, none⟩) p.length d) p.length (ints p))) := fun wz hwz =>
                  (pickB_any g (t + 132) (n : Int) wz (hcc.next_ hwz) (by omega) (by omega)).mono fun e w' ⟨y, hy, he, hc2, hg2⟩ => by
                    have hg3 := growB_trans (toGr (r := some g) hwz) hg2
                    have hk := (hP11.grown hg3 (fun e => by injection e with e; have := hc11.lt; omega)).cell 0
                    simp at hk
                    exact ⟨y, by omega, he, hc2, hg3, hk, ((own_grownG ho hg3 (by omega)).cellAt x (by omega)).trans hvx, own_grownG hrow hg3 (by omega)⟩
                have hFIN : Hid (∀ (wn wm : World) (y : Nat) (A3 : Option Addr) (m3 c3 : Nat) (L : List Int), y < n → CurB B wn g (t + 134) → w11.grownBy wn (some g) → Below wn.heap.size wn wm → wm.ownsRow w6.heap.size 3 1 (.slice A3 m3 c3) m3 (ints L) → m3 ≤ p.length + 1 → (∀ z ∈ L, z ∈ p ∨ z = (y : Int)) →
                    wm.cell? ⟨w7.heap.size, 0, none⟩ = some (.slice (some ⟨b, 0, none⟩) n c7) ∧ wm.cell? ⟨b, x, none⟩ = some (.slice (some ⟨r, 0, none⟩) p.length d) ∧ wm.frozen? ⟨b, x, none⟩ = false ∧ PosW B g (t + 200) w.heap.size w7.heap.size w0 (wm.setCell ⟨b, x, none⟩ (.slice A3 m3 c3))) := fun wn wm y A3 m3 c3 L hyn hcn hgn hbm hown3 hm3 hL => by
                  have hgm := growB_trans hgn (toGr (r := some g) hbm)
                  have hom := own_grownG ho hgm (by omega)
                  have hPm := hP11.grown hgm (fun e => by injection e with e; have := hc11.lt; omega)
                  have hRm := hR11.grown hgm (fun e => by injection e with e; omega)
                  have hkm := hPm.cell 0
                  simp at hkm
                  have hown4 := own_same (w' := wm.setCell ⟨b, x, none⟩ (.slice A3 m3 c3)) hown3 fun k hk => Below.heap_setCell wm ⟨b, x, none⟩ _ k (fun e => own_ne hown3 hom (by decide) hk (by have h2 : k = b := e; rw [h2]; rfl))
                  obtain ⟨hr, hog, hoq, hcx2, hgx2, hRx, hPx⟩ := mut_row hom hl (fun j u ys _ h1 h2 => own_grownG (hrows j u ys h1 h2) hgm (by omega)) (by omega) hlo6 (by omega) (by omega) HFB.out hxn (u := .slice A3 m3 c3) (p := L) ⟨A3, m3, c3, rfl, rd_of_own (R := RI) hown4 (RI_ints fun z hz => by
                    rcases hL z hz with hz | rfl
                    · have := hp2 z hz; omega
                    · omega), own_offG hown4 (by omega), own_hiG hown4 hlo6⟩ hRm hPm (hcn.next_ hbm) (growB_trans hg011 hgm)
                  have hLl : L.length = m3 := by have := hown3.1; simpa [ints] using this
                  exact ⟨hkm, (hom.cellAt x (by omega)).trans hvx, hom.frozenAt x, _, n, c7, _, hPx, hRx, hr, hog, hoq, by omega, fun s hs => by
                    rcases List.mem_or_eq_of_mem_set hs with hs | rfl
                    · have := (HF.out s hs).1; omega
                    · omega, hcx2.mono (by omega), hgx2⟩
                have hz11 : w6.heap.size ≤ w11.heap.size := by omega
                clear kR fR fP hfx hrows hnd ho hvx hP11 hR11 hcc
                go_wp2_with fail
                go_region_law (first
                  | (go_simp; go_at_call 23; (first | refine (hHP.out w11 (Below.refl _ _)).mono ?_ | refine (hHP.out w11.drew (Below.drew (Below.refl _ _))).mono ?_); rintro e wn ⟨y, hy, rfl, hcn, hgn, kPn, kxn, hown⟩; have hzn : w6.heap.size ≤ wn.heap.size := Nat.le_trans hz11 hgn.size)
                  | (go_simp; go_at_call 53; (first | refine (l1Put_any w6.heap.size r p.length d p (y : Int) wn hown hzn (by omega) (fun z hz => by have := hp2 z hz; omega) (by omega)).mono ?_ | refine (l1Put_any w6.heap.size r p.length d p (y : Int) wn.drew hown hzn (by omega) (fun z hz => by have := hp2 z hz; omega) (by omega)).mono ?_); rintro e wm ⟨A3, m3, c3, L, rfl, hown3, hm3, hL, hbm⟩; obtain ⟨kPm, kxm, kfm, HPW⟩ := hFIN.out wn wm y A3 m3 c3 L hy hcn hgn (by first | exact hbm | exact (Below.drew (Below.refl _ _)).trans hbm) hown3 hm3 hL))
                all_goals
                  go_wp2_with fail
                  go_meet
                  first
                    | exact HPW
                    | exact HPW.next (Below.drew (Below.refl _ _))
              · have hq0 : ((k : Int) == 0) = false := by simp; omega
                have hq1 : ((k : Int) == 1) = false := by simp; omega
                have hq2 : ((k : Int) == 2) = false := by simp; omega
                have hq3 : ((k : Int) == 3) = true := by simp; omega
                clear hk0 hk
                have HGP : Hid (g < w7.heap.size) := by show g < w7.heap.size; omega
                have hMM : OwM 27 3 (.int .i64) w6.heap.size w11 (.slice (some ⟨b, 0, none⟩) n c7) n F := ⟨vs, ho, hl, hrows, hnd⟩
                have hF0 : ∀ p ∈ F, p.length ≤ 20 ∧ ∀ x ∈ p, -2000 ≤ x ∧ x ≤ 2000 := fun p hp => ⟨by have := (HF.out p hp).1; omega, HFB.out p hp⟩
                have hz11 : w6.heap.size ≤ w11.heap.size := by have := (ho.lt b rfl).2; omega
                clear kR fR kP fP hcx hfx hrow hrows hnd ho hvx
                go_wp2_with fail
                go_loopg [] (12 - n) (fun gk wr => ∃ (m' : Nat) (A' : Option Addr) (c' : Nat) (F' : List (List Int)), gk + m' = 12 ∧ Blk wr w7.heap.size 26 #[.slice A' m' c'] ∧ Blk wr w.heap.size 26 #[.slice none 0 0] ∧ OwM 27 3 (.int .i64) w6.heap.size wr (.slice A' m' c') m' F' ∧ (∀ p ∈ F', p.length ≤ 20 ∧ ∀ x ∈ p, -2000 ≤ x ∧ x ≤ 2000) ∧ CurB B wr g (t + 132 + 2 * m') ∧ w0.grownBy wr (some g) ∧ w6.heap.size ≤ wr.heap.size)
                case atStart => exact ⟨n, some ⟨b, 0, none⟩, c7, F, by omega, hP11, hR11, hMM, hF0, hc11.mono (by omega), hg011, hz11⟩
                case round =>
                  clear hMM hF0 hP11 hR11 hc11 hg011
                  obtain ⟨m', A', c', F', hgm, hP, hR, hM, hF', hc, hg, hz⟩ := hrel
                  have HF' := Lib.hid hF'
                  clear hF'
                  have kP := hP.cell 0
                  simp at kP
                  have hC : ∀ wz, Below wr.heap.size wr wz → Calls Tryz.prog 23 #[.pointer (some ⟨g, 0, none⟩), .int .i64 2] wz (fun e w' => ∃ y : Nat, y < 2 ∧ e = .returned (.int .i64 y) ∧ CurB B w' g (t + 132 + 2 * m' + 2) ∧ wr.grownBy w' (some g) ∧ w'.cell? ⟨w7.heap.size, 0, none⟩ = some (.slice A' m' c')) := fun wz hwz =>
                    (pickB_any g (t + 132 + 2 * m') 2 wz (hc.next_ hwz) (by omega) (by omega)).mono fun e w' ⟨y, hy, he, hc2, hg2⟩ => by
                      have hg3 := growB_trans (toGr (r := some g) hwz) hg2
                      have hk := (hP.grown hg3 (fun e => by injection e with e; have := hc.lt; omega)).cell 0
                      simp at hk
                      exact ⟨y, by omega, he, hc2, hg3, hk⟩
                  go_upto_region 29 with fail
                  go_cut [136] from 130 to 145 (fun u136 wx => ∃ bb : Bool, u136 = .bool bb ∧ Hid (bb = true → m' ≤ 10) ∧ CurB B wx g (t + 132 + 2 * m' + 2) ∧ wr.grownBy wx (some g))
                  case first =>
                    go_region_held3 (fun w' => w'.cell? ⟨w7.heap.size, 0, none⟩ = some (.slice A' m' c')) (first | go_keep | exact kPn) (first
                      | (go_at_call 23; (with_reducible refine (hC _ ?_).mono ?_); (first | exact Below.refl _ _ | exact Below.drew (Below.refl _ _)); rintro e wn ⟨y, hy, rfl, hcn, hgn, kPn⟩))
                    all_goals
                      have hy0 : (0 : Int) ≤ (y : Int) := by omega
                      have hy2 : (y : Int) < 2 := by omega
                      have hw10 : IntKind.i64.wrap (10 + (y : Int)) = 10 + (y : Int) := by rw [IntKind.wrap_i64]; omega
                      go_wp2_with fail
                      go_meet
                      exact ⟨_, rfl, (fun h => by have := of_decide_eq_true h; omega), by first | exact hcn | exact hcn.next_ (Below.drew (Below.refl _ _)), by first | exact hgn | exact growB_trans hgn (toGr (Below.drew (Below.refl _ _)))⟩
                  case rest =>
                    obtain ⟨bb, rfl, HBB, hc2, hg2⟩ := hcut
                    obtain ⟨w12, HWC⟩ : ∃ wq : World, wq = wc := ⟨_, rfl⟩
                    subst HWC
                    have hgr := hc.lt
                    have hP2 := hP.grown hg2 (fun e => by injection e with e; have := hP.lt; have := (HGP.out); omega)
                    have hR2 := hR.grown hg2 (fun e => by injection e with e; omega)
                    have hM2 := hM.grownI hg2 (by omega)
                    have hg02 := growB_trans hg hg2
                    have hz12 := Nat.le_trans hz hg2.size
                    clear hP hR hM hg hc kP hC hg2
                    rcases bb with _ | _
                    · obtain ⟨A9, c9, e9, -, hog, hoq, hr⟩ := hM2.toR2 (g := g) (q := w.heap.size) (by omega) hlo6 (fun p hp => (HF'.out p hp).2)
                      injection e9 with e1 _ e3
                      subst e1
                      subst e3
                      have HFIN : Hid (PosW B g (t + 200) w.heap.size w7.heap.size w0 w12) := ⟨_, m', c', F', hP2, hR2, hr, hog, hoq, by omega, fun p hp => (HF'.out p hp).1, hc2.mono (by omega), hg02⟩
                      clear hr
                      go_wp2_with fail
                      go_meet
                      exact HFIN.out
                    · have hm10 : m' ≤ 10 := HBB.out (by first | rfl | trivial)
                      have hbA := below_box w12 (.cells #[.int .i64 m'] 3)
                      have hownA : (w12.alloc (.cells #[.int .i64 m'] 3)).ownsRow w12.heap.size 3 1 (.slice (some ⟨w12.heap.size, 0, none⟩) 1 1) 1 (ints [(m' : Int)]) := World.ownsRow_lit w12 #[.int .i64 m'] 1 (Nat.le_refl _) (by unfold maxLen; omega) rfl
                      obtain ⟨vs', hvs', HPU⟩ := hM2.push (by decide) hbA hz12 (xs := [(m' : Int)]) hownA
                      have hP3 := hP2.next hbA
                      have hR3 := hR2.next hbA
                      have hzA : w6.heap.size ≤ (w12.alloc (.cells #[.int .i64 m'] 3)).heap.size := Nat.le_trans hz12 hbA.size
                      have kP2 := hP2.cell 0
                      simp at kP2
                      have hc3 := hc2.next_ hbA
                      have hg03 := growB_trans hg02 (toGr (r := some g) hbA)
                      clear hM2 hownA
                      go_wp2_with (at_builtin; refine app1 (w12.alloc (.cells #[.int .i64 m'] 3)) rfl _ _ 24 27 rfl (.slice none 0 0) 24 Tryz.underlying24 info_ints rfl (by decide) w6.heap.size m' c' A' vs' rfl hvs' (.slice (some ⟨w12.heap.size, 0, none⟩) 1 1) rfl (by show Value.slice (some ⟨w12.heap.size + 1, 0, none⟩) 1 1 = _; simp) (by omega) hzA ?_; intro A5 c5 w14 hown5 hg5 hb5; have BP5 := hP3.grown hg5 (fun e => own_far hvs' hP3 (by decide) e.symm); have BR5 := hR3.grown hg5 (fun e => own_far hvs' hR3 (by decide) e.symm); have cP5 := BP5.cell 0; have fP5 := BP5.frozen 0; simp at cP5)
                      have hM5 := (HPU hown5 hg5).far BP5 (by decide) (by decide) 0 (.slice A5 (m' + 1) c5)
                      have hG6 : w14.grownBy (w14.setCell ⟨w7.heap.size, 0, none⟩ (.slice A5 (m' + 1) c5)) (some w7.heap.size) := grown_setB (g := w7.heap.size) (p := ⟨w7.heap.size, 0, none⟩) (grown_reflB w14 _) rfl _
                      have hc5 := (hc3.grown hg5 fun q hq => by have := (hvs'.lt q hq).1; omega).grown hG6 (fun q hq => by injection hq with hq; omega)
                      have hg5' := growB_own (growB_own hg03 hg5 fun q hq => by have := (hvs'.lt q hq).1; omega) hG6 (fun q hq => by injection hq with hq; omega)
                      have hz5 : w6.heap.size ≤ (w14.setCell ⟨w7.heap.size, 0, none⟩ (.slice A5 (m' + 1) c5)).heap.size := Nat.le_trans hzA (Nat.le_trans hg5.size hG6.size)
                      have hR6 := BR5.far (p := ⟨w7.heap.size, 0, none⟩) (by show w.heap.size ≠ w7.heap.size; omega) (.slice A5 (m' + 1) c5)
                      clear HPU hown5 hg5 hvs' hb5
                      go_roundg (gk - 1)
                      case measure => omega
                      case rel => exact ⟨m' + 1, A5, c5, F' ++ [[(m' : Int)]], by omega, BP5.set_ 0 _, hR6, hM5, fun p hp => by
                        rcases List.mem_append.1 hp with hp | hp
                        · exact HF'.out p hp
                        · rw [List.mem_singleton.1 hp]; exact ⟨by simp, fun x hx => by rw [List.mem_singleton.1 hx]; omega⟩, hc5.mono (by omega), hg5', hz5⟩
            · obtain ⟨A8, c8, e8, -, hog, hoq, hr⟩ := hM9.toR2 (g := g) (q := w.heap.size) (by omega) hlo6 HFB.out
              injection e8 with e1 _ e3
              subst e1
              subst e3
              have HFIN := Lib.hid (ps_fin (c := c7) hb0 hg09 hgl hB hr hog hoq (by omega) (fun p hp => by have := (HF.out p hp).1; omega) (hc9.mono (by omega : _ ≤ t + 200)))
              clear hr
              go_wp2
              (try simp only [Exit.inBlock, Exit.then])
              refine bodyPost_ret (v := .agg #[.slice A7 n c7]) (results_cell_row rfl _ _ w.heap.size 26 #[.slice A7 n c7] (0, 0) _ (by simp) (hR9.set_ 0 _) Tryz.underlying26 rfl (by kernel_rfl)) rfl ?_
              exact HFIN.out
end Go.Proofs.YtkmgbdljiajlaaaGreatDoor
namespace Go.Proofs.YtkmgbdljiajlaaaGreatDoor
open Go.RowKit

theorem Blk.c0 {w : World} {g : Nat} {t : TypeId} {v : Value} (h : Blk w g t #[v]) : w.cell? ⟨g, 0, none⟩ = some v := by have := h.cell 0; simpa using this

def P1 (xss : List (List Int)) (x : Nat) : Prop := (allIn 0 ((xss.length : Int) - 1) (rowOf xss x) && risesL (rowOf xss x)) = true ∧ hasI x (rowOf xss x) = true
def P2 (xss : List (List Int)) (x : Nat) (y : Int) : Prop := ¬ (y ≠ x ∧ hasI x (rowOf xss y.toNat) = true) ∧ partL (rowOf xss x) (rowOf xss y.toNat) = true
def GoodQ (xss : List (List Int)) : Prop := xss.length ≤ 10 ∧ (∀ x < xss.length, P1 xss x) ∧ ∀ x < xss.length, ∀ (i : Nat) y, (rowOf xss x)[i]? = some y → P2 xss x y
theorem good_iff {xss : List (List Int)} : GoodQ xss ↔ GoodP xss := by
  constructor
  · rintro ⟨h1, h2, h3⟩
    have h3' : ∀ x < xss.length, ∀ y ∈ rowOf xss x, P2 xss x y := fun x hx y hy => by
      obtain ⟨i, hi⟩ := List.getElem?_of_mem hy
      exact h3 x hx i y hi
    refine ⟨h1, fun x hx => ?_, fun x hx => ⟨(h2 x hx).2, fun y hy => ⟨?_, fun z hz => ?_⟩⟩⟩
    · have := (h2 x hx).1
      simp only [Bool.and_eq_true] at this
      exact ⟨this.2, this.1⟩
    · rintro ⟨e1, e2, e3⟩
      have h4 := (h3' x hx y (hasI_iff.1 e3)).1
      exact h4 ⟨by omega, by simpa [leF] using e2⟩
    · rintro ⟨e1, e2, e3⟩
      have h4 := (h3' z hz y (hasI_iff.1 e2)).2
      have h5 := partL_iff.1 h4 x (by simpa [leF, hasI_iff] using e1)
      have : leF xss x z = true := hasI_iff.2 h5
      rw [this] at e3
      exact absurd e3 (by decide)
  · rintro ⟨h1, h2, h3⟩
    refine ⟨h1, fun x hx => ⟨by rw [(h2 x hx).1, (h2 x hx).2]; rfl, (h3 x hx).1⟩, fun x hx i y hy => ?_⟩
    have hm := List.mem_of_getElem? hy
    have hb := allIn_iff.1 (h2 x hx).2 y hm
    obtain ⟨y, rfl⟩ := Int.eq_ofNat_of_zero_le hb.1
    have hyn : y < xss.length := by omega
    refine ⟨?_, ?_⟩
    · rintro ⟨e1, e2⟩
      exact ((h3 x hx).2 y hyn).1 ⟨by omega, by simpa [leF] using e2, hasI_iff.2 hm⟩
    · rw [partL_iff]
      intro v hv
      have hvb := allIn_iff.1 (h2 y hyn).2 v (by simpa using hv)
      obtain ⟨v, rfl⟩ := Int.eq_ofNat_of_zero_le hvb.1
      have h4 := ((h3 v (by omega)).2 y hyn).2 x hx
      rcases e : leF xss v x with _ | _
      · exact absurd ⟨hasI_iff.2 (by simpa using hv), hasI_iff.2 hm, e⟩ h4
      · exact hasI_iff.1 e

theorem l1Has_is {A : Option Addr} {n c : Nat} {xs : List Int} {y : Int} {w : World} {r : Bool} (hr : hasI y xs = r) (h : RdL RI w A n xs) : Calls Tryz.prog 60 #[.slice A n c, .int .i64 y] w (Qt w (.bool r)) :=
  hr ▸ quiet_same (l1Has_any A n c xs y w h)
theorem l5Within_is {A B : Option Addr} {n m c d : Nat} {xs ys : List Int} {w : World} {r : Bool} (hr : partL ys xs = r) (h : RdL RI w A n xs) (h' : RdL RI w B m ys) : Calls Tryz.prog 61 #[.slice A n c, .slice B m d] w (Qt w (.bool r)) :=
  hr ▸ quiet_same (l5Within_any A B n m c d xs ys w h h')
theorem bad2 {xss : List (List Int)} {k i : Nat} {y : Int} (hk : k < xss.length) (hi : (rowOf xss k)[i]? = some y) (h : ¬ P2 xss k y) : ¬ GoodP xss := fun hg => h ((good_iff.2 hg).2.2 k hk i y hi)
theorem P2_iff {xss : List (List Int)} {k y : Nat} {s t : List Int} (hs : rowOf xss k = s) (ht : rowOf xss y = t) : P2 xss k (y : Int) ↔ ((((y : Int) != (k : Int)) && hasI k t) || !(partL s t)) = false := by
  unfold P2
  rw [Int.toNat_natCast, hs, ht]
  rcases hasI k t with _ | _ <;> rcases partL s t with _ | _ <;> simp
theorem P2_eq {xss : List (List Int)} {k y : Nat} {s t : List Int} {a b c : Bool} (hs : rowOf xss k = s) (ht : rowOf xss y = t) (ha : ((y : Int) != (k : Int)) = a) (hb : hasI k t = b) (hc : partL s t = c) (h : ((a && b) || !c) = true) : ¬ P2 xss k (y : Int) := by
  rw [P2_iff hs ht, ha, hb, hc, h]; decide
theorem P2_eq' {xss : List (List Int)} {k y : Nat} {s t : List Int} {a b c : Bool} (hs : rowOf xss k = s) (ht : rowOf xss y = t) (ha : ((y : Int) != (k : Int)) = a) (hb : hasI k t = b) (hc : partL s t = c) (h : ((a && b) || !c) = false) : P2 xss k (y : Int) := by
  rw [P2_iff hs ht, ha, hb, hc, h]

set_option maxRecDepth 20000 in
set_option maxHeartbeats 4000000 in
theorem l23Good_any (A : Option Addr) (n c : Nat) (xss : List (List Int)) (w : World) (h : RdL (RV RI) w A n xss) :
    Calls Tryz.prog 29 #[.agg #[.slice A n c]] w (Bl w (.bool (tt (GoodP xss)))) := by
  have hle := h.le
  have hlen := Lib.hid h.len
  have hb := below_box w (.cells #[.slice A n c] 26)
  have h1 := h.next stab_RVI hb
  have BX := Blk.new w 26 #[.slice A n c]
  have c0 := BX.cell 0
  simp at c0
  by_cases hn : n ≤ 10
  rotate_left
  · have HG : Hid (¬ GoodP xss) := fun hg => hn (by rw [← hlen.out]; exact hg.1)
    go_enter Tryz.func29, Tryz.ntmps29
    go_wp2
    go_ret
    exact ⟨ret_bool (tt_false HG.out), hb⟩
  · go_enter Tryz.func29, Tryz.ntmps29
    go_wp2
    have c1 := BX.cell 0
    clear c0 h BX
    generalize w.alloc (.cells #[.slice A n c] 26) = w1 at *
    simp at c1
    go_loopw [4] (fun i wr => ∃ k : Nat, k ≤ n ∧ i = .int .i64 k ∧ Hid (∀ x < k, P1 xss x) ∧ Drawn w1 wr) (fun i _ => n - (intOf i).toNat)
    case atStart => exact ⟨0, Nat.zero_le _, rfl, fun x hx => absurd hx (by omega), Drawn.zero _⟩
    case round =>
      obtain ⟨k, hk, rfl, HH, z, rfl⟩ := hrel
      by_cases hlt : k < n
      · obtain ⟨b, o, v, s, rfl, hc, ⟨B, j, d, rfl, hs⟩, -, hx⟩ := h1.at hlt
        have HX := Lib.hid (rowOf_get hx)
        have hk0 : (0 : Int) ≤ (k : Int) := by omega
        have hk1 : (k : Int) < (n : Int) := by omega
        clear hx
        rcases hr : (allIn 0 ((n : Int) - 1) s && risesL s) with _ | _
        · have HG : Hid (¬ GoodP xss) := fun hg => by
            have := ((good_iff.2 hg).2.1 k (by rw [hlen.out]; exact hlt)).1
            rw [HX.out, hlen.out, hr] at this
            exact absurd this (by decide)
          have HRR := Lib.hid hr
          clear hr
          go_wp2_with fail
          refine (l1Rising_any _ _ _ _ _ _ _ (hs.drewN stab_RI _)).mono ?_
          rintro e w' ⟨rfl, z', rfl⟩
          rw [HRR.out]
          go_wp2_with fail
          go_ret
          exact ⟨ret_bool (tt_false HG.out), (by first | exact hb | exact below_drewN (hb) _ | exact below_drewN (below_drewN (hb) _) _ | exact below_drewN (below_drewN (below_drewN (hb) _) _) _)⟩
        · have HRR := Lib.hid hr
          clear hr
          rcases hi : hasI k s with _ | _
          · have HG : Hid (¬ GoodP xss) := fun hg => by
              have := ((good_iff.2 hg).2.1 k (by rw [hlen.out]; exact hlt)).2
              rw [HX.out, hi] at this
              exact absurd this (by decide)
            have HI := Lib.hid hi
            clear hi
            go_wp2_with fail
            refine (l1Rising_any _ _ _ _ _ _ _ (hs.drewN stab_RI _)).mono ?_
            rintro e w' ⟨rfl, z', rfl⟩
            rw [HRR.out]
            go_wp2_with fail
            refine (l1Has_any _ _ _ _ _ _ (hs.drewN stab_RI _)).mono ?_
            rintro e w' ⟨rfl, rfl⟩
            rw [HI.out]
            go_wp2_with fail
            go_ret
            exact ⟨ret_bool (tt_false HG.out), (by first | exact hb | exact below_drewN (hb) _ | exact below_drewN (below_drewN (hb) _) _ | exact below_drewN (below_drewN (below_drewN (hb) _) _) _)⟩
          · have HI := Lib.hid hi
            have HP : Hid (P1 xss k) := ⟨by rw [HX.out, hlen.out]; exact HRR.out, by rw [HX.out]; exact hi⟩
            clear hi
            go_wp2_with fail
            refine (l1Rising_any _ _ _ _ _ _ _ (hs.drewN stab_RI _)).mono ?_
            rintro e w' ⟨rfl, z', rfl⟩
            rw [HRR.out]
            go_wp2_with fail
            refine (l1Has_any _ _ _ _ _ _ (hs.drewN stab_RI _)).mono ?_
            rintro e w' ⟨rfl, rfl⟩
            rw [HI.out]
            go_wp2_with fail
            go_roundw
            case rel => exact ⟨k + 1, by omega, by go_num, fun x hx => by
              rcases Nat.lt_or_ge x k with h1 | h1
              · exact HH.out x h1
              · have : x = k := by omega
                subst this
                exact HP.out, (by first | exact Drawn.zero _ | exact Drawn.at_ _ _ | exact (Drawn.at_ _ _).more _ | exact ((Drawn.at_ _ _).more _).more _)⟩
            case measure => simp [intOf]; omega
      · have HP : Hid (∀ x < n, P1 xss x) := fun x hx => HH.out x (by omega)
        clear HH
        go_wp2
        go_loopw [5, 6, 7] (fun i _ _ wr => ∃ k : Nat, k ≤ n ∧ i = .int .i64 k ∧ Hid (∀ x < k, ∀ (i : Nat) y, (rowOf xss x)[i]? = some y → P2 xss x y) ∧ Drawn w1 wr) (fun i _ _ _ => n - (intOf i).toNat)
        case atStart => exact ⟨0, Nat.zero_le _, rfl, fun x hx => absurd hx (by omega), (by first | exact Drawn.zero _ | exact Drawn.at_ _ _ | exact (Drawn.at_ _ _).more _ | exact ((Drawn.at_ _ _).more _).more _)⟩
        case round =>
          obtain ⟨k, hk, rfl, HH, z, rfl⟩ := hrel
          by_cases hlt : k < n
          · obtain ⟨b, o, v, s, rfl, hc, ⟨B, j, d, rfl, hs⟩, -, hx⟩ := h1.at hlt
            have HX := Lib.hid (rowOf_get hx)
            have HJ := Lib.hid hs.len
            have hk0 : (0 : Int) ≤ (k : Int) := by omega
            have hk1 : (k : Int) < (n : Int) := by omega
            have hjle := hs.le
            have HIN := Lib.hid (allIn_iff.1 ((Bool.and_eq_true _ _).mp (HP.out k hlt).1).1)
            clear hx
            go_wp2
            go_loopw [6, 7] (fun i _ wi => ∃ q : Nat, q ≤ j ∧ i = .int .i64 q ∧ Hid (∀ i < q, ∀ y, (rowOf xss k)[i]? = some y → P2 xss k y) ∧ Drawn w1 wi) (fun i _ _ => j - (intOf i).toNat)
            case atStart => exact ⟨0, Nat.zero_le _, rfl, fun i hi => absurd hi (by omega), (by first | exact Drawn.zero _ | exact Drawn.at_ _ _ | exact (Drawn.at_ _ _).more _ | exact ((Drawn.at_ _ _).more _).more _)⟩
            case round =>
              obtain ⟨q, hq, rfl, HQ, z, rfl⟩ := hrel
              by_cases hltq : q < j
              · obtain ⟨B1, B2, v, y, rfl, hcy, ⟨rfl, -⟩, -, hxy⟩ := hs.at hltq
                have HXY : Hid ((rowOf xss k)[q]? = some y) := by rw [HX.out]; exact hxy
                have hy := HIN.out y (by rw [HX.out]; exact List.mem_of_getElem? hxy)
                obtain ⟨y, rfl⟩ := Int.eq_ofNat_of_zero_le hy.1
                have hyn : y < n := by have := hlen.out; omega
                have hy0 : (0 : Int) ≤ (y : Int) := by omega
                have hy1 : (y : Int) < (n : Int) := by omega
                have hq0 : (0 : Int) ≤ (q : Int) := by omega
                have hq1 : (q : Int) < (j : Int) := by omega
                obtain ⟨v', t, hct, ⟨B', j', d', rfl, ht⟩, -, hxt⟩ := h1.at' hyn
                have HT := Lib.hid (rowOf_get hxt)
                clear hxy hy hxt
                rcases hyk : ((y : Int) != (k : Int)) with _ | _
                all_goals
                  rcases hb1 : hasI k t with _ | _
                  all_goals
                    rcases hb2 : partL s t with _ | _
                    all_goals
                      have HYK := Lib.hid hyk
                      have HB1 := Lib.hid hb1
                      have HB2 := Lib.hid hb2
                      clear hb1 hb2
                      go_wp2
                      go_quiet ((first | (go_at_call 60; exact quiet_add (l1Has_is HB1.out (ht.drewN stab_RI _))) | (go_at_call 61; exact quiet_add (l5Within_is HB2.out (ht.drewN stab_RI _) (hs.drewN stab_RI _)))))
                      go_wp2
                      first
                        | (go_ret
                           exact ⟨ret_bool (tt_false (bad2 (by rw [hlen.out]; exact hlt) HXY.out (P2_eq HX.out HT.out HYK.out HB1.out HB2.out (by decide)))), (by first | exact hb | exact below_drewN (hb) _ | exact below_drewN (below_drewN (hb) _) _ | exact below_drewN (below_drewN (below_drewN (hb) _) _) _)⟩)
                        | (go_roundw
                           case rel => exact ⟨q + 1, by omega, by go_num, fun i hi y' hy' => by
                             rcases Nat.lt_or_ge i q with h1 | h1
                             · exact HQ.out i h1 y' hy'
                             · have : i = q := by omega
                               subst this
                               rw [HXY.out] at hy'
                               injection hy' with hy'
                               subst hy'
                               exact P2_eq' HX.out HT.out HYK.out HB1.out HB2.out (by decide), (by first | exact Drawn.zero _ | exact Drawn.at_ _ _ | exact (Drawn.at_ _ _).more _ | exact ((Drawn.at_ _ _).more _).more _)⟩
                           case measure => simp [intOf]; omega)
              · have HN : Hid (∀ (i : Nat) y, (rowOf xss k)[i]? = some y → P2 xss k y) := fun i y hy => HQ.out i (by
                  have := (List.getElem?_eq_some_iff.1 hy).1
                  rw [HX.out, HJ.out] at this
                  omega) y hy
                clear HQ
                go_wp2
                go_roundw
                case rel => exact ⟨k + 1, by omega, by go_num, fun x hx => by
                  rcases Nat.lt_or_ge x k with h1 | h1
                  · exact HH.out x h1
                  · have : x = k := by omega
                    subst this
                    exact HN.out, (by first | exact Drawn.zero _ | exact Drawn.at_ _ _ | exact (Drawn.at_ _ _).more _ | exact ((Drawn.at_ _ _).more _).more _)⟩
                case measure => simp [intOf]; omega
          · have HG : Hid (GoodP xss) := good_iff.1 ⟨by rw [hlen.out]; exact hn, by rw [hlen.out]; exact HP.out, by rw [hlen.out]; exact fun x hx => HH.out x (by omega)⟩
            go_wp2
            go_ret
            exact ⟨ret_bool (tt_true HG.out), (by first | exact hb | exact below_drewN (hb) _ | exact below_drewN (below_drewN (hb) _) _ | exact below_drewN (below_drewN (below_drewN (hb) _) _) _)⟩
end Go.Proofs.YtkmgbdljiajlaaaGreatDoor
namespace Go.Proofs.YtkmgbdljiajlaaaGreatDoor
open Go.RowKit

def mapB (n m l : Nat) (fs : List Int) : Bool := ((l : Int) == (n : Int)) && allIn 0 ((m : Int) - 1) fs
def fAt (fs : List Int) (x : Nat) : Nat := (fs.getD x 0).toNat
def MonXY (F G : Nat → Nat → Bool) (fs : List Int) (x y : Nat) : Prop := ¬ (F x y = true ∧ G (fAt fs x) (fAt fs y) = false)
def MonP (n : Nat) (F G : Nat → Nat → Bool) (fs : List Int) : Prop := ∀ x < n, ∀ y < n, MonXY F G fs x y
theorem MonXY.no {F G : Nat → Nat → Bool} {fs : List Int} {x y x' y' : Nat} {a b : Bool} (hx : fAt fs x = x') (hy : fAt fs y = y') (h1 : F x y = a) (h2 : G x' y' = b) (h : (a && !b) = true) : ¬ MonXY F G fs x y := by
  unfold MonXY; rw [hx, hy, h1, h2]; rcases a with _ | _ <;> rcases b with _ | _ <;> simp at *

/-! ## the reference -/
set_option maxHeartbeats 400000 in
theorem l23Leq_any (A : Option Addr) (n c : Nat) (xss : List (List Int)) (x : Int) (y : Nat) (w : World) (h : RdL (RV RI) w A n xss) (hy : y < n) :
    Calls Tryz.prog 115 #[.agg #[.slice A n c], .int .i64 x, .int .i64 y] w (Bl w (.bool (hasI x (rowOf xss y)))) := by
  have hle := h.le
  have hb := below_box w (.cells #[.slice A n c] 26)
  have h1 := h.next stab_RVI hb
  obtain ⟨b, o, v, t, rfl, hct, ⟨B', j', d', rfl, ht⟩, -, hxt⟩ := h1.at hy
  have HT := Lib.hid (rowOf_get hxt)
  have hy0 : (0 : Int) ≤ (y : Int) := by omega
  have hy1 : (y : Int) < (n : Int) := by omega
  clear hxt h
  go_enter Tryz.func115, Tryz.ntmps115
  go_wp2_with (go_at_call 60; refine (l1Has_any _ _ _ _ _ _ ht).mono ?_; rintro e w' ⟨rfl, rfl⟩)
  go_ret
  exact ⟨ret_bool (by rw [HT.out]), hb⟩

noncomputable def mapS (n m l : Nat) (xss yss : List (List Int)) (fs : List Int) : Bool := tt (GoodP xss) && tt (GoodP yss) && mapB n m l fs
/-! ## IsMonotone -/
end Go.Proofs.YtkmgbdljiajlaaaGreatDoor
namespace Go.Proofs.YtkmgbdljiajlaaaGreatDoor
open Go.RowKit

def upF (G : Nat → Nat → Bool) (fs : List Int) : Nat → Nat → Bool := fun a b => G (fAt fs a) b

end Go.Proofs.YtkmgbdljiajlaaaGreatDoor
namespace Go.Proofs.YtkmgbdljiajlaaaGreatDoor
open Go.RowKit

def belowAll (F : Nat → Nat → Bool) (xs : List Int) (x : Int) : Bool := xs.all fun z => F z.toNat x.toNat
def grI (F : Nat → Nat → Bool) (xs : List Int) : Int := (xs.find? (belowAll F xs)).getD (-1)
theorem find_none {P : Int → Bool} {xs : List Int} (h : ∀ j < xs.length, ∀ u, xs[j]? = some u → P u = false) : xs.find? P = none := by
  rw [List.find?_eq_none]
  intro x hx
  obtain ⟨j, hj⟩ := List.getElem?_of_mem hx
  rw [h j (List.getElem?_eq_some_iff.1 hj).1 x hj]
  decide
def AdjXY (F G : Nat → Nat → Bool) (fs gs : List Int) (x y : Nat) : Prop := G (fAt fs x) y = F x (fAt gs y)
def AdjP (n m : Nat) (F G : Nat → Nat → Bool) (fs gs : List Int) : Prop := ∀ x < n, ∀ y < m, AdjXY F G fs gs x y
theorem AdjXY.no {F G : Nat → Nat → Bool} {fs gs : List Int} {x y x' y' : Nat} {a b : Bool} (hx : fAt fs x = x') (hy : fAt gs y = y') (h1 : G x' y = a) (h2 : F x y' = b) (h : a ≠ b) : ¬ AdjXY F G fs gs x y := by
  unfold AdjXY; rw [hx, hy, h1, h2]; exact h

end Go.Proofs.YtkmgbdljiajlaaaGreatDoor
namespace Go.Proofs.YtkmgbdljiajlaaaGreatDoor
open Go.RowKit

def gUp (F G : Nat → Nat → Bool) (fs : List Int) (n y : Nat) : Int := grI F (rowTo (upF G fs) y n)
def upR (F G : Nat → Nat → Bool) (fs : List Int) (n k : Nat) : List Int := (List.range k).map (gUp F G fs n)
def UpP (n m : Nat) (F G : Nat → Nat → Bool) (fs : List Int) : Prop := (∀ y < m, 0 ≤ gUp F G fs n y) ∧ AdjP n m F G fs (upR F G fs n m)
noncomputable def upB (n m l : Nat) (xss yss : List (List Int)) (fs : List Int) : Bool := mapS n m l xss yss fs && tt (UpP n m (leF xss) (leF yss) fs)
noncomputable def upL (n m l : Nat) (xss yss : List (List Int)) (fs : List Int) : List Int := if upB n m l xss yss fs then upR (leF xss) (leF yss) fs n m else []
def UpE (w : World) (n m l : Nat) (xss yss : List (List Int)) (fs : List Int) (e : Ending) (w' : World) : Prop :=
  ∃ A k c, e = .returned (.tuple #[.slice A k c, .bool (upB n m l xss yss fs)]) ∧ w'.ownsRow w.heap.size 3 1 (.slice A k c) k (ints (upL n m l xss yss fs)) ∧ Below w.heap.size w w'
theorem UpE.no {w w' : World} {n m l : Nat} {xss yss : List (List Int)} {fs : List Int} {A : Option Addr} {c : Nat} (h : upB n m l xss yss fs = false) (ho : w'.ownsRow w.heap.size 3 1 (.slice A 0 c) 0 []) (hb : Below w.heap.size w w') : UpE w n m l xss yss fs (.returned (.tuple #[.slice A 0 c, .bool false])) w' := by
  have e : upL n m l xss yss fs = [] := by unfold upL; rw [h]; rfl
  exact ⟨A, 0, c, by rw [h], by rw [e]; exact ho, hb⟩
end Go.Proofs.YtkmgbdljiajlaaaGreatDoor
namespace Go.Proofs.YtkmgbdljiajlaaaGreatDoor
open Go.RowKit

end Go.Proofs.YtkmgbdljiajlaaaGreatDoor
namespace Go.Proofs.YtkmgbdljiajlaaaGreatDoor
open Go.RowKit

def BestP (F : Nat → Nat → Bool) (xs : List Int) (q : Nat) (b : Value) : Prop := (b = .int .i64 (-1) ∧ ∀ j < q, ∀ u, xs[j]? = some u → belowAll F xs u = false) ∨ (b = .int .i64 (grI F xs) ∧ 0 ≤ grI F xs)
theorem BestP.keep {F : Nat → Nat → Bool} {xs : List Int} {q : Nat} {b : Value} {v : Int} (h : BestP F xs q b) (hv : xs[q]? = some v) (hP : belowAll F xs v = false) : BestP F xs (q + 1) b := by
  rcases h with ⟨h1, h2⟩ | h
  · refine .inl ⟨h1, fun j hj u hu => ?_⟩
    rcases Nat.lt_or_ge j q with h3 | h3
    · exact h2 j h3 u hu
    · obtain rfl : j = q := by omega
      rw [hv] at hu
      injection hu with hu
      rw [← hu]
      exact hP
  · exact .inr h
theorem BestP.done {F : Nat → Nat → Bool} {xs : List Int} {q : Nat} {b : Value} (h : BestP F xs q b) (hq : xs.length ≤ q) : b = .int .i64 (grI F xs) := by
  rcases h with ⟨h1, h2⟩ | h
  · rw [h1]
    unfold grI
    rw [find_none (fun j hj u hu => h2 j (by omega) u hu)]
    rfl
  · exact h.1

end Go.Proofs.YtkmgbdljiajlaaaGreatDoor
namespace Go.Proofs.YtkmgbdljiajlaaaGreatDoor
open Go.RowKit

def mtF (F : Nat → Nat → Bool) (x : Nat) : Nat → Nat → Bool := fun z y => F z x && F z y
def mt (F : Nat → Nat → Bool) (n x y : Nat) : Int := grI F (rowTo (mtF F x) y n)
def duF (F : Nat → Nat → Bool) : Nat → Nat → Bool := fun x y => F y x
def MeetP (F : Nat → Nat → Bool) (n : Nat) : Prop := ∀ x < n, ∀ y < n, 0 ≤ mt F n x y
def LatP (F : Nat → Nat → Bool) (n : Nat) : Prop := n ≠ 0 ∧ MeetP F n ∧ MeetP (duF F) n

theorem ord_rfl {F : Nat → Nat → Bool} {n x : Nat} (hO : OrdP n F) (hx : x < n) : F x x = true := (hO x hx).1
theorem ord_anti {F : Nat → Nat → Bool} {n x y : Nat} (hO : OrdP n F) (hx : x < n) (hy : y < n) (h1 : F x y = true) (h2 : F y x = true) : x = y := by
  by_cases h : x = y
  · exact h
  · exact absurd ⟨h, h1, h2⟩ ((hO x hx).2 y hy).1
theorem ord_tr {F : Nat → Nat → Bool} {n x y z : Nat} (hO : OrdP n F) (hx : x < n) (hy : y < n) (hz : z < n) (h1 : F x y = true) (h2 : F y z = true) : F x z = true := by
  rcases e : F x z with _ | _
  · exact absurd ⟨h1, h2, e⟩ (((hO x hx).2 y hy).2 z hz)
  · rfl
/-! ## The bottom -/
def botTo (F : Nat → Nat → Bool) (n : Nat) : Nat → Nat
  | 0 => 0
  | k + 1 => (mt F n (botTo F n k) k).toNat
def bot (F : Nat → Nat → Bool) (n : Nat) : Nat := botTo F n n
/-! ## The least fixed point -/
def lfp (fs : List Int) : Nat → Nat → Nat
  | 0, x => x
  | k + 1, x => if fAt fs x = x then x else lfp fs k (fAt fs x)
def rk (F : Nat → Nat → Bool) (n x : Nat) : Nat := (rowTo F x n).length
theorem rk_le (F : Nat → Nat → Bool) (n x : Nat) : rk F n x ≤ n := rowTo_len F x n
theorem filter_lt {P Q : Nat → Bool} : ∀ {l : List Nat}, (∀ x ∈ l, P x = true → Q x = true) → (∃ x ∈ l, Q x = true ∧ P x = false) → (l.filter P).length < (l.filter Q).length
  | [], _, h => by obtain ⟨x, hx, _⟩ := h; cases hx
  | a :: l, h, ⟨x, hx, h1, h2⟩ => by
    have hle : ∀ {l : List Nat}, (∀ x ∈ l, P x = true → Q x = true) → (l.filter P).length ≤ (l.filter Q).length := by
      intro l
      induction l with
      | nil => intro _; exact Nat.le_refl _
      | cons b l ih =>
        intro hh
        have h3 := ih fun y hy => hh y (by simp [hy])
        have h4 := hh b (by simp)
        rcases eP : P b with _ | _
        · rcases eQ : Q b with _ | _
          · rw [List.filter_cons_of_neg (by simp [eP]), List.filter_cons_of_neg (by simp [eQ])]; exact h3
          · rw [List.filter_cons_of_neg (by simp [eP]), List.filter_cons_of_pos eQ, List.length_cons]; omega
        · rw [List.filter_cons_of_pos eP, List.filter_cons_of_pos (h4 eP), List.length_cons, List.length_cons]; omega
    have ht : ∀ y ∈ l, P y = true → Q y = true := fun y hy => h y (by simp [hy])
    rcases List.mem_cons.1 hx with rfl | hx'
    · rw [List.filter_cons_of_neg (by simp [h2]), List.filter_cons_of_pos h1, List.length_cons]
      have := hle ht
      omega
    · have ih := filter_lt ht ⟨x, hx', h1, h2⟩
      have h4 := h a (by simp)
      rcases eP : P a with _ | _
      · rcases eQ : Q a with _ | _
        · rw [List.filter_cons_of_neg (by simp [eP]), List.filter_cons_of_neg (by simp [eQ])]; exact ih
        · rw [List.filter_cons_of_neg (by simp [eP]), List.filter_cons_of_pos eQ, List.length_cons]; omega
      · rw [List.filter_cons_of_pos eP, List.filter_cons_of_pos (h4 eP), List.length_cons, List.length_cons]; omega
theorem rk_lt {F : Nat → Nat → Bool} {n x y : Nat} (hO : OrdP n F) (hx : x < n) (hy : y < n) (h : F x y = true) (hne : x ≠ y) : rk F n x < rk F n y := by
  unfold rk rowTo
  rw [List.length_map, List.length_map]
  refine filter_lt (fun z hz h1 => ord_tr hO (List.mem_range.1 hz) hx hy h1 h) ⟨y, List.mem_range.2 hy, ord_rfl hO hy, ?_⟩
  rcases e : F y x with _ | _
  · rfl
  · exact absurd (ord_anti hO hx hy h e) hne
theorem rk_pos {F : Nat → Nat → Bool} {n x : Nat} (hO : OrdP n F) (hx : x < n) : 1 ≤ rk F n x := by
  unfold rk
  have : (x : Int) ∈ rowTo F x n := rowTo_mem.2 ⟨x, hx, ord_rfl hO hx, rfl⟩
  exact List.length_pos_of_mem this
/-- After j rounds from b the loop stands at x. -/
def LfpI (F : Nat → Nat → Bool) (fs : List Int) (n b j x : Nat) : Prop := x < n ∧ F x (fAt fs x) = true ∧ j + 1 ≤ rk F n x ∧ lfp fs (n - j) x = lfp fs n b
theorem LfpI.start {F : Nat → Nat → Bool} {fs : List Int} {n b : Nat} (hO : OrdP n F) (hb : b < n) (h : F b (fAt fs b) = true) : LfpI F fs n b 0 b := ⟨hb, h, rk_pos hO hb, rfl⟩
theorem LfpI.lt {F : Nat → Nat → Bool} {fs : List Int} {n b j x : Nat} (h : LfpI F fs n b j x) : j < n := by
  have := rk_le F n x
  have := h.2.2.1
  omega
theorem LfpI.next {F : Nat → Nat → Bool} {fs : List Int} {n b j x y : Nat} (hO : OrdP n F) (hM : MonP n F F fs) (h : LfpI F fs n b j x) (hy : y < n) (e : fAt fs x = y) (hne : y ≠ x) : LfpI F fs n b (j + 1) y := by
  have hj := h.lt
  obtain ⟨hx, h1, h2, h3⟩ := h
  rw [e] at h1
  have h4 := rk_lt hO hx hy h1 (fun e2 => hne e2.symm)
  refine ⟨hy, ?_, by omega, ?_⟩
  · have := hM x hx y hy
    unfold MonXY at this
    rw [e] at this
    rcases e2 : F y (fAt fs y) with _ | _
    · exact absurd ⟨h1, e2⟩ this
    · rfl
  · rw [← h3, show n - j = (n - (j + 1)) + 1 by omega]
    show _ = if fAt fs x = x then x else lfp fs _ (fAt fs x)
    rw [e, if_neg hne]
theorem LfpI.done {F : Nat → Nat → Bool} {fs : List Int} {n b j x : Nat} (h : LfpI F fs n b j x) (e : fAt fs x = x) : x = lfp fs n b := by
  have hj := h.lt
  rw [← h.2.2.2, show n - j = (n - (j + 1)) + 1 by omega]
  show _ = if fAt fs x = x then x else _
  rw [if_pos e]
noncomputable def lfB (n l : Nat) (xss : List (List Int)) (fs : List Int) : Bool := mapS n n l xss xss fs && tt (LatP (leF xss) n ∧ MonP n (leF xss) (leF xss) fs)
noncomputable def lfV (n l : Nat) (xss : List (List Int)) (fs : List Int) : Int := if lfB n l xss fs then lfp fs n (bot (leF xss) n) else 0
def LfE (w : World) (n l : Nat) (xss : List (List Int)) (fs : List Int) (e : Ending) (w' : World) : Prop := e = .returned (.tuple #[.int .i64 (lfV n l xss fs), .bool (lfB n l xss fs)]) ∧ Below w.heap.size w w'
theorem LfE.no {w w' : World} {n l : Nat} {xss : List (List Int)} {fs : List Int} (h : lfB n l xss fs = false) (hb : Below w.heap.size w w') : LfE w n l xss fs (.returned (.tuple #[.int .i64 0, .bool false])) w' := by
  refine ⟨?_, hb⟩
  unfold lfV
  rw [h]
  rfl
end Go.Proofs.YtkmgbdljiajlaaaGreatDoor
namespace Go.Proofs.YtkmgbdljiajlaaaGreatDoor
open Go.RowKit

end Go.Proofs.YtkmgbdljiajlaaaGreatDoor
namespace Go.Proofs.YtkmgbdljiajlaaaGreatDoor
open Go.RowKit

end Go.Proofs.YtkmgbdljiajlaaaGreatDoor
namespace Go.Proofs.YtkmgbdljiajlaaaGreatDoor
open Go.RowKit

end Go.Proofs.YtkmgbdljiajlaaaGreatDoor
namespace Go.Proofs.YtkmgbdljiajlaaaGreatDoor
open Go.RowKit

end Go.Proofs.YtkmgbdljiajlaaaGreatDoor
namespace Go.Proofs.YtkmgbdljiajlaaaGreatDoor
open Go.RowKit

end Go.Proofs.YtkmgbdljiajlaaaGreatDoor
namespace Go.Proofs.YtkmgbdljiajlaaaGreatDoor
open Go.RowKit

end Go.Proofs.YtkmgbdljiajlaaaGreatDoor
namespace Go.Proofs.YtkmgbdljiajlaaaGreatDoor
open Go.RowKit

end Go.Proofs.YtkmgbdljiajlaaaGreatDoor
namespace Go.Proofs.YtkmgbdljiajlaaaGreatDoor
open Go.RowKit

theorem nums2n (w : World) (g n : Nat) (hn : n ≤ 1000) (hg : g < w.heap.size) {k : Nat} (hk : k = w.heap.size) : NumsP (fun x => -1 ≤ x ∧ x ≤ (n : Int)) (w.alloc (.cells #[.int .i64 (-1), .int .i64 n] 3)) g k 2 := by
  subst hk
  refine ⟨by omega, by omega, by omega, fun i hi => ?_⟩
  have hc := (Blk.new w 3 #[.int .i64 (-1), .int .i64 n]).cell i
  rcases (by omega : i = 0 ∨ i = 1) with rfl | rfl
  · exact ⟨-1, ⟨by omega, by omega⟩, hc⟩
  · exact ⟨n, ⟨by omega, by omega⟩, hc⟩
def PntD (B n : Nat) (w : World) (g t : Nat) (e : Ending) (w' : World) : Prop := ∃ x : Int, (-1 ≤ x ∧ x ≤ (n : Int)) ∧ e = .returned (.int .i64 x) ∧ CurB B w' g t ∧ w.grownBy w' (some g)
set_option maxHeartbeats 4000000 in
theorem point23_any (B g t n c : Nat) (A : Option Addr) (w : World) (h : CurB B w g t) (ht : t ≤ 999980000) (hn : n ≤ 1000) :
    Calls Tryz.prog 24 #[.pointer (some ⟨g, 0, none⟩), .agg #[.slice A n c]] w (PntD B n w g (t + 4)) := by
  obtain ⟨w0, HW0⟩ : ∃ wb, Hid (wb = w.alloc (.cells #[.slice A n c] 26)) := ⟨_, rfl⟩
  have hb0 : Below w.heap.size w w0 := by rw [HW0.out]; exact below_box _ _
  have BX : Blk w0 w.heap.size 26 #[.slice A n c] := by rw [HW0.out]; exact Blk.new _ _ _
  have hc0 := h.next_ hb0
  have hg0 : w.grownBy w0 (some g) := toGr hb0
  have hgl := h.lt
  have k0 := BX.cell 0
  simp at k0
  have k1 := k0
  rw [HW0.out] at k1
  have HAM : Hid (∀ (wz : World) (t' k : Nat), k = wz.heap.size → CurB B wz g t' → w.grownBy wz (some g) → t' ≤ t + 2 → Calls Tryz.prog 22 #[.pointer (some ⟨g, 0, none⟩), .slice (some ⟨k, 0, none⟩) 2 2] (wz.alloc (.cells #[.int .i64 (-1), .int .i64 n] 3)) (PntD B n w g (t + 4))) := fun wz t' k hk hcz hgz ht' =>
    (amongB_any g t' k 2 2 _ (hcz.next_ (below_box _ _)) (by omega) _ (nums2n wz g n hn hcz.lt hk)).mono fun e w' ⟨x, hx, he, hc, hg⟩ => ⟨x, hx, he, hc.mono (by omega), growB_trans (growB_box hgz _) hg⟩
  by_cases hn0 : n = 0
  · subst hn0
    have HA := Lib.hid (HAM.out w0 t (w.heap.size + 1) (by rw [HW0.out]; simp) hc0 hg0 (by omega))
    rw [HW0.out] at HA
    go_enter Tryz.func24, Tryz.ntmps24
    go_wp2_with fail
    refine HA.out.mono ?_
    rintro e w1 ⟨x, hx, rfl, hc1, hg1⟩
    go_wp2_with fail
    go_ret
    exact ⟨x, hx, rfl, hc1, hg1⟩
  · have hn1 : ((n : Int) == 0) = false := by simp; omega
    have H1 := Lib.hid (oneB_any g t 24 w0 hc0 (by omega) (by omega))
    rw [HW0.out] at H1
    go_enter Tryz.func24, Tryz.ntmps24
    go_wp2_with fail
    refine H1.out.mono ?_
    rintro e w1 ⟨bb, rfl, hc1, hg1⟩
    rw [← HW0.out] at hg1
    have hg01 := growB_trans hg0 hg1
    have B1 := BX.grown hg1 (fun e => by injection e with e; omega)
    have k2 := B1.cell 0
    simp at k2
    have hz1 := hg01.size
    clear H1 k0 k1
    rcases bb with _ | _
    · have HP := Lib.hid (pickB_any g (t + 2) (n : Int) w1 hc1 (by omega) (by omega))
      go_wp2_with fail
      refine HP.out.mono ?_
      rintro e w2 ⟨x, hx, rfl, hc2, hg2⟩
      go_wp2_with fail
      go_ret
      exact ⟨x, ⟨by omega, by omega⟩, rfl, hc2, growB_trans hg01 hg2⟩
    · have HA := Lib.hid (HAM.out w1 (t + 2) w1.heap.size rfl hc1 hg01 (by omega))
      go_wp2_with fail
      refine HA.out.mono ?_
      rintro e w2 ⟨x, hx, rfl, hc2, hg2⟩
      go_wp2_with fail
      go_ret
      exact ⟨x, hx, rfl, hc2, hg2⟩
end Go.Proofs.YtkmgbdljiajlaaaGreatDoor
