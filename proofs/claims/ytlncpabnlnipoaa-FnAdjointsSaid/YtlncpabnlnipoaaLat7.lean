
/- Walks: the greatest lower bound of some elements, and the bottom (the reference's). -/
import Derived.Test.YtlncpabnlnipoaaLat6
namespace Go.Proofs.Ytlncpabnlnipoaa
open Go.RowKit

def alB (F : Nat → Nat → Bool) (ss : List Int) : Nat → Nat → Bool := fun z _ => ss.all fun s => F z s.toNat
theorem alB_two {F : Nat → Nat → Bool} {n x y : Nat} : grI F (rowTo (alB F [(x : Int), (y : Int)]) 0 n) = mt F n x y := by
  unfold mt
  rw [rowTo_congr (F := alB F [(x : Int), (y : Int)]) (G := mtF F x) (x := 0) (y := y) fun z _ => by simp [alB, mtF]]

set_option maxRecDepth 20000 in
set_option maxHeartbeats 4000000 in
theorem l24Bound_any (A C : Option Addr) (n c l e : Nat) (xss : List (List Int)) (ss : List Int) (w : World) (h : RdL (RV RI) w A n xss) (hf : RdL RI w C l ss) (hin : ∀ x ∈ ss, 0 ≤ x ∧ x ≤ (n : Int) - 1) (hn : n ≤ 1048576) :
    Calls Try.prog 26 #[.agg #[.slice A n c], .slice C l e] w (Bl w (.int .i64 (grI (leF xss) (rowTo (alB (leF xss) ss) 0 n)))) := by
  have hle := h.le
  have hle' := hf.le
  have HIN := Lib.hid hin
  have HSL := Lib.hid hf.len
  clear hin
  obtain ⟨w0, hw0, T0, hs0, BX⟩ := boxes1a w #[.slice A n c] 26
  have HW0 : Hid (w.alloc (.cells #[.slice A n c] 26) = w0) := hw0.symm
  have O0 : (w0.alloc (.cells #[] 3)).ownsRow w0.heap.size 3 1 (.slice (some ⟨w.heap.size + 1, 0, none⟩) 0 0) 0 (ints []) := by
    rw [← hs0]
    exact World.ownsRow_lit _ _ _ (Nat.le_refl _) (Nat.zero_le _) rfl
  clear hw0 hs0
  go_enter Try.func26, Try.ntmps26
  go_wp2
  go_loopw [5, 6] (fun v i wr => ∃ (k p : Nat) (acc : List Int), k ≤ n ∧ p ≤ k ∧ i = .int .i64 k ∧ acc = rowTo (alB (leF xss) ss) 0 k ∧ Gat w0.heap.size w0 wr v p acc) (fun _ i _ => n - (intOf i).toNat)
  case atStart =>
    rw [HW0.out]
    exact ⟨0, 0, [], Nat.zero_le _, Nat.le_refl _, rfl, rfl, _, _, rfl, rfl, O0, below_box _ _⟩
  case round =>
    clear O0
    obtain ⟨k, p, acc, hk, hpk, rfl, hacc2, A', c', rfl, hacc, hown, hT⟩ := hrel
    have HA := Lib.hid hacc
    have HA2 := Lib.hid hacc2
    clear hacc hacc2
    have hTw := below_next T0 hT rfl
    replace h := h.next stab_RVI hTw
    replace hf := hf.next stab_RI hTw
    replace BX := BX.next hT
    have cX := BX.c0
    obtain ⟨wo, hwo⟩ : ∃ wo : World, wo = wr := ⟨_, rfl⟩
    subst hwo
    by_cases hlt : k < n
    · have hk0 : (0 : Int) ≤ (k : Int) := by omega
      have hk1 : (k : Int) < (n : Int) := by omega
      go_wp2
      clear cX
      go_loopw [7, 8] (fun b i wi => ∃ q : Nat, q ≤ l ∧ i = .int .i64 q ∧ b = .bool ((ss.take q).all fun s => leF xss k s.toNat) ∧ Below wo.heap.size wo wi) (fun _ i _ => l - (intOf i).toNat)
      case atStart => exact ⟨0, Nat.zero_le _, rfl, rfl, Below.refl _ _⟩
      case round =>
        obtain ⟨q, hq, rfl, rfl, hTi⟩ := hrel
        by_cases hltq : q < l
        · have hq0 : (0 : Int) ≤ (q : Int) := by omega
          have hq1 : (q : Int) < (l : Int) := by omega
          have cX := (BX.next hTi).c0
          obtain ⟨fb, fo, v, x', rfl, hcf, ⟨rfl, -⟩, -, hx⟩ := (hf.next stab_RI hTi).at hltq
          have hxm := HIN.out x' (List.mem_of_getElem? hx)
          obtain ⟨x', rfl⟩ := Int.eq_ofNat_of_zero_le hxm.1
          have hxn : x' < n := by omega
          have hh := h.next stab_RVI hTi
          obtain ⟨b1, HS1⟩ : ∃ b, Hid (hasI (k : Int) (rowOf xss x') = b) := ⟨_, rfl⟩
          obtain ⟨b0, HB0⟩ : ∃ B, Hid (((ss.take q).all fun s => leF xss k s.toNat) = B) := ⟨_, rfl⟩
          have HST : Hid (((ss.take (q + 1)).all fun s => leF xss k s.toNat) = (b0 && b1)) := by
            show _ = _
            rw [all_take_succ hx, HB0.out, ← HS1.out]
            rfl
          have HC1 : ∀ wz, Below wr.heap.size wr wz → Calls Try.prog 25 #[.agg #[.slice A n c], .int .i64 k, .int .i64 x'] wz (Bl wz (.bool b1)) := fun wz hz => by
            have := l23Leq_any A n c xss (k : Int) x' wz (hh.next stab_RVI hz) hxn
            rwa [HS1.out] at this
          rw [HB0.out]
          clear hx hxm
          have Tk : Below wr.heap.size wr wr := Below.refl _ _
          rcases b0 with _ | _
          · go_upto_region 9 with fail
            go_quiet (fail)
            go_wp2_with fail
            go_roundw
            case rel => exact ⟨q + 1, by omega, by go_num, by rw [HST.out]; rfl, below_drewN hTi _⟩
            case measure => simp [intOf]; omega
          · go_upto_region 9 with fail
            go_region_held3 (fun w' => w'.cell? ⟨w.heap.size, 0, none⟩ = some (.slice A n c) ∧ w'.cell? ⟨fb, fo + q, none⟩ = some (.int .i64 x')) (first | go_keep | exact ⟨keepc Tk cX, keepc Tk hcf⟩) (first
              | (go_at_call 25; (with_reducible refine (HC1 _ ?_).mono ?_); (first | exact Tk | exact Below.drew Tk); rintro e wn ⟨rfl, hbn⟩; replace Tk := below_next (by first | exact Tk | exact Below.drew Tk) hbn rfl))
            have hT7 := below_next hTi Tk rfl
            go_wp2_with fail
            go_roundw
            case rel => exact ⟨q + 1, by omega, by go_num, by rw [HST.out]; rfl, by first | exact hT7 | exact Below.drew hT7⟩
            case measure => simp [intOf]; omega
        · obtain rfl : q = l := by omega
          have hlt' : ¬ (q : Int) < (q : Int) := by omega
          obtain ⟨b0, HB0⟩ : ∃ B, Hid (((ss.take q).all fun s => leF xss k s.toNat) = B) := ⟨_, rfl⟩
          have HAL : Hid (alB (leF xss) ss k 0 = b0) := by
            show _ = _
            rw [← HB0.out, List.take_of_length_le (by rw [HSL.out]; exact Nat.le_refl _)]
            rfl
          have how7 := own_next hown hTi
          have hT7 := below_next hT hTi rfl
          have hs7 := hT7.size
          rw [HB0.out]
          rcases b0 with _ | _
          · go_wp2_with fail
            go_roundw
            case rel => exact ⟨k + 1, p, acc, by omega, by omega, by go_num, by rw [rowTo_succ, if_neg (by rw [HAL.out]; decide)]; exact HA2.out, A', c', rfl, HA.out, how7, hT7⟩
            case measure => simp [intOf]; omega
          · go_wp2_with (at_builtin; refine app1 wr rfl _ _ 27 3 rfl (.int .i64 0) 8 Try.underlying27 info_int rfl (by decide) w0.heap.size p c' A' (ints acc) rfl how7 (.int .i64 k) rfl rfl (by omega) hs7 ?_; intro A8 c8 w8 hown8 hg8 hb8)
            go_roundw
            case rel => exact ⟨k + 1, p + 1, acc ++ [(k : Int)], by omega, by omega, by go_num, by rw [rowTo_succ, if_pos HAL.out, HA2.out], A8, c8, rfl, by simp [HA.out], by rw [ints_snoc]; exact hown8, hT7.trans hb8⟩
            case measure => simp [intOf]; omega
    · obtain rfl : k = n := by omega
      have hlt' : ¬ (k : Int) < (k : Int) := by omega
      obtain ⟨L, HL⟩ : ∃ L, Hid (rowTo (alB (leF xss) ss) 0 k = L) := ⟨_, rfl⟩
      have HLin : Hid (∀ v ∈ L, 0 ≤ v ∧ v ≤ (k : Int) - 1) := by show ∀ v ∈ L, _; rw [← HL.out]; exact row_in
      have HLL : Hid (L.length = p) := by show _ = _; rw [← HL.out, ← HA2.out]; exact HA.out
      rw [HA2.out, HL.out] at hown
      have R6 := rd_of_own (R := RI) hown (RI_ints fun v hv => by have := HLin.out v hv; omega)
      go_wp2
      clear cX
      go_loopw [9] (fun i wi => ∃ j : Nat, j ≤ p ∧ i = .int .i64 j ∧ Hid (∀ a < j, ∀ u, L[a]? = some u → belowAll (leF xss) L u = false) ∧ Below wo.heap.size wo wi) (fun i _ => p - (intOf i).toNat)
      case atStart => exact ⟨0, Nat.zero_le _, rfl, upto0, Below.refl _ _⟩
      case round =>
        obtain ⟨j, hj, rfl, HH, hTj⟩ := hrel
        by_cases hltj : j < p
        · have hj0 : (0 : Int) ≤ (j : Int) := by omega
          have hj1 : (j : Int) < (p : Int) := by omega
          obtain ⟨b6, o6, v, x', rfl, hc6, ⟨rfl, -⟩, -, hx⟩ := (R6.next stab_RI hTj).at hltj
          have hxm := HLin.out x' (List.mem_of_getElem? hx)
          obtain ⟨x', rfl⟩ := Int.eq_ofNat_of_zero_le hxm.1
          have hx0 : (0 : Int) ≤ (x' : Int) := by omega
          have hx1 : (x' : Int) < (k : Int) := by omega
          obtain ⟨bb, oo, v, t, rfl, hct, ⟨B7, j7, d7, rfl, ht⟩, -, hxt⟩ := (h.next stab_RVI hTj).at (k := x') (by omega)
          have cX := (BX.next hTj).c0
          have HXX := Lib.hid hx
          have hR6 := R6.next stab_RI hTj
          obtain ⟨b1, HS1⟩ : ∃ b, Hid (partL t L = b) := ⟨_, rfl⟩
          have HR1 : Hid (belowAll (leF xss) L (x' : Int) = b1) := by
            show _ = _
            rw [← belowAll_part (fun v hv => (HLin.out v hv).1) (rowOf_get hxt)]
            exact HS1.out
          have HC1 : ∀ wz, Below wr.heap.size wr wz → Calls Try.prog 34 #[.slice (some ⟨b6, o6, none⟩) p c', .slice B7 j7 d7] wz fun e w' => e = .returned (.bool b1) ∧ wz = w' := fun wz hz => by
            have := l5Within_any (some ⟨b6, o6, none⟩) B7 p j7 c' d7 L t wz (hR6.next stab_RI hz) (ht.next stab_RI hz)
            rwa [HS1.out] at this
          clear hx hxm hxt
          have Tk : Below wr.heap.size wr wr := Below.refl _ _
          go_upto_region 15 with fail
          go_region_held3 (fun w' => w'.cell? ⟨w.heap.size, 0, none⟩ = some (.slice (some ⟨bb, oo, none⟩) k c) ∧ w'.cell? ⟨b6, o6 + j, none⟩ = some (.int .i64 x') ∧ w'.cell? ⟨bb, oo + x', none⟩ = some (.slice B7 j7 d7)) (first | go_keep | exact ⟨keepc Tk cX, keepc Tk hc6, keepc Tk hct⟩) (first
            | (go_at_call 34; (with_reducible refine (HC1 _ ?_).mono ?_); (first | exact Tk | exact Below.drew Tk | exact below_drewN Tk _); rintro e wn ⟨rfl, rfl⟩))
          have hTz := below_next (below_next T0 hT rfl) hTj rfl
          rcases b1 with _ | _
          · go_wp2_with fail
            go_roundw
            case rel => exact ⟨j + 1, by omega, by go_num, upto HH.out (fun u hu => by rw [HXX.out] at hu; injection hu with hu; rw [← hu]; exact HR1.out), by first | exact hTj | exact Below.drew hTj | exact below_drewN hTj _⟩
            case measure => simp [intOf]; omega
          · go_wp2_with fail
            go_ret
            refine ⟨ret_int ?_, by first | exact hTz | exact Below.drew hTz | exact below_drewN hTz _⟩
            rw [HL.out]
            unfold grI
            rw [find_at HH.out HXX.out HR1.out]
            rfl
        · obtain rfl : j = p := by omega
          have hlt2 : ¬ (j : Int) < (j : Int) := by omega
          have HN : Hid (grI (leF xss) L = -1) := by
            show _ = _
            unfold grI
            rw [find_none (fun a ha u hu => HH.out a (by rw [← HLL.out]; exact ha) u hu)]
            rfl
          have hTz := below_next (below_next T0 hT rfl) hTj rfl
          go_wp2_with fail
          go_ret
          exact ⟨ret_int (by rw [HL.out, HN.out]), hTz⟩

set_option maxRecDepth 20000 in
set_option maxHeartbeats 1000000 in
theorem l24Bottom_any (A : Option Addr) (n c : Nat) (xss : List (List Int)) (w : World) (h : RdL (RV RI) w A n xss) (hg : GoodP xss) (hL : LatP (leF xss) n) :
    Calls Try.prog 41 #[.agg #[.slice A n c]] w (Bl w (.int .i64 (bot (leF xss) n : Nat))) := by
  have hn : n ≤ 1048576 := by rw [← h.len]; have := hg.1; omega
  have hO : OrdP n (leF xss) := by rw [← h.len]; exact hg.2.2
  have HV : Hid (grI (leF (posTo n (duF (leF xss)) n)) (rowTo (alB (leF (posTo n (duF (leF xss)) n)) []) 0 n) = (bot (leF xss) n : Nat)) := by
    show _ = _
    rw [rowTo_congr (F := alB (leF (posTo n (duF (leF xss)) n)) []) (G := oneF) (x := 0) (y := 0) (fun z _ => rfl), ← bot_gr hO hL.2.1 hL.1]
    exact grI_congr row_in fun x hx y hy => leF_pos hx hy
  obtain ⟨b, HB⟩ : ∃ b, Hid (bot (leF xss) n = b) := ⟨_, rfl⟩
  rw [HB.out] at HV
  obtain ⟨w0, hw0, T0, hs0, BX⟩ := boxes1a w #[.slice A n c] 26
  have HW0 := Lib.hid hw0
  have h0 := h.next stab_RVI T0
  clear hw0 hs0 hg hL hO
  rw [HB.out]
  go_enter Try.func41, Try.ntmps41
  go_wp2_with fail
  rw [← HW0.out]
  refine (l23Dual_any _ _ _ _ _ h0 hn).mono ?_
  rintro e w2 ⟨A2, c2, rfl, r2, hb2⟩
  have T2 := below_next T0 hb2 rfl
  obtain ⟨w3, hw3, T3, hs3, -⟩ := boxes1a w2 #[] 3
  have HW3 := Lib.hid hw3
  have R3 : RdL RI w3 (some ⟨w2.heap.size, 0, none⟩) 0 [] := RdL.nil _ _ _
  clear hw3 hs3
  go_wp2_with fail
  rw [← HW3.out]
  refine (l24Bound_any _ _ _ _ _ _ _ _ _ (r2.next stab_RVI T3) R3 (by simp) hn).mono ?_
  rintro e w4 ⟨rfl, hb4⟩
  rw [HV.out]
  go_wp2_with fail
  go_ret
  exact ⟨rfl, below_next (below_next T2 T3 rfl) hb4 rfl⟩
end Go.Proofs.Ytlncpabnlnipoaa
