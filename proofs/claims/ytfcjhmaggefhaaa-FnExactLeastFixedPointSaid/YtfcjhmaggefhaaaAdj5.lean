
/- Walks: UpperAdjoint, in the reference: the whole. -/
import Derived.Test.YtfcjhmaggefhaaaAdj4
namespace Go.Proofs.Ytfcjhmaggefhaaa
open Go.RowKit

def BestP (F : Nat → Nat → Bool) (xs : List Int) (q : Nat) (b : Value) : Prop := (b = .int .i64 (-1) ∧ ∀ j < q, ∀ u, xs[j]? = some u → belowAll F xs u = false) ∨ (b = .int .i64 (grI F xs) ∧ 0 ≤ grI F xs)
theorem BestP.keep {F : Nat → Nat → Bool} {xs : List Int} {q : Nat} {b : Value} {v : Int} (h : BestP F xs q b) (hv : xs[q]? = some v) (hP : belowAll F xs v = false) : BestP F xs (q + 1) b := by
  rcases h with ⟨h1, h2⟩ | h
  · refine .inl ⟨h1, fun j hj u hu => ?_⟩
    rcases Nat.lt_or_ge j q with h3 | h3
    · exact h2 j h3 u hu
    · obtain rfl : j = q := by omega
      rw [hv] at hu
      injection hu with hu
      rw [← hu]
      exact hP
  · exact .inr h
theorem BestP.done {F : Nat → Nat → Bool} {xs : List Int} {q : Nat} {b : Value} (h : BestP F xs q b) (hq : xs.length ≤ q) : b = .int .i64 (grI F xs) := by
  rcases h with ⟨h1, h2⟩ | h
  · rw [h1]
    unfold grI
    rw [find_none (fun j hj u hu => h2 j (by omega) u hu)]
    rfl
  · exact h.1

set_option maxRecDepth 20000 in
set_option maxHeartbeats 8000000 in
theorem specUp_any (A B C : Option Addr) (n m l c d e : Nat) (xss yss : List (List Int)) (fs : List Int) (w : World) (h : RdL (RV RI) w A n xss) (h' : RdL (RV RI) w B m yss) (hf : RdL RI w C l fs) :
    Calls Try.prog 27 #[.agg #[.slice A n c], .agg #[.slice B m d], .slice C l e] w (UpE w n m l xss yss fs) := by
  have hb := below_box2 w (.cells #[.slice A n c] 29) (.cells #[.slice B m d] 29)
  have BX := (Blk.new w 29 #[.slice A n c]).alloc (.cells #[.slice B m d] 29)
  have BY : Blk ((w.alloc (.cells #[.slice A n c] 29)).alloc (.cells #[.slice B m d] 29)) (w.heap.size + 1) 29 #[.slice B m d] := by
    have := Blk.new (w.alloc (.cells #[.slice A n c] 29)) 29 #[.slice B m d]
    simpa using this
  obtain ⟨w0, hw0⟩ : ∃ w0, w0 = (w.alloc (.cells #[.slice A n c] 29)).alloc (.cells #[.slice B m d] 29) := ⟨_, rfl⟩
  rw [← hw0] at hb BX BY
  have HW0 := Lib.hid hw0
  have hs0 : w0.heap.size = w.heap.size + 1 + 1 := by rw [hw0]; simp
  have HS0 := Lib.hid hs0
  clear hw0
  obtain ⟨w1, hw1⟩ : ∃ w1, w1 = w0.alloc (.cells #[] 3) := ⟨_, rfl⟩
  have T1' : Below w0.heap.size w0 w1 := by rw [hw1]; exact below_box _ _
  have O1 : w1.ownsRow w0.heap.size 3 1 (.slice (some ⟨w.heap.size + 1 + 1, 0, none⟩) 0 0) 0 (ints []) := by
    rw [hw1, ← hs0]
    exact World.ownsRow_lit w0 #[] 0 (Nat.le_refl _) (Nat.zero_le _) rfl
  have T1 := below_next hb T1' rfl
  have HW1 : Hid (w1 = ((w.alloc (.cells #[.slice A n c] 29)).alloc (.cells #[.slice B m d] 29)).alloc (.cells #[] 3)) := by show _ = _; rw [hw1, HW0.out]
  replace BX := BX.next T1'
  replace BY := BY.next T1'
  have cX := BX.c0
  have cY := BY.c0
  rw [HW1.out] at cX cY
  clear hw1 hs0
  have h1r := h.next stab_RVI T1
  have h1r' := h'.next stab_RVI T1
  have hf1 := hf.next stab_RI T1
  rcases h4 : mapS n m l xss yss fs with _ | _
  · have H4 := Lib.hid h4
    have H0 : Hid (upB n m l xss yss fs = false) := by show _ = _; unfold upB; rw [h4]; rfl
    clear h4
    go_enter Try.func27, Try.ntmps27
    go_wp2_with fail
    rw [← HW1.out]
    refine (l30Map_any _ _ _ _ _ _ _ _ _ _ _ _ _ h1r h1r' hf1).mono ?_
    rintro e w2 ⟨rfl, hb2⟩
    rw [H4.out]
    have T2 := below_next T1 hb2 rfl
    go_wp2_with fail
    go_ret2
    exact UpE.no H0.out (own_lowB (own_next O1 hb2) hb.size) T2
  · obtain ⟨hg1, hg2, -, rfl, hin, -⟩ := mapS_true h4
    have H4 := Lib.hid h4
    have HUB : Hid (upB l m l xss yss fs = tt (UpP l m (leF xss) (leF yss) fs)) := by show _ = _; unfold upB; rw [h4]; rfl
    have HIN := Lib.hid hin
    have HG1 := Lib.hid hg1
    have HXL := Lib.hid h.len
    have hl10 : l ≤ 10 := by rw [← h.len]; exact hg1.1
    have hm10 : m ≤ 10 := by rw [← h'.len]; exact hg2.1
    have HORD : Hid (OrdP l (leF xss)) := by show OrdP _ _; rw [← h.len]; exact hg1.2.2
    clear h4 hin hg1 hg2
    go_enter Try.func27, Try.ntmps27
    go_wp2_with fail
    rw [← HW1.out]
    refine (l30Map_any _ _ _ _ _ _ _ _ _ _ _ _ _ h1r h1r' hf1).mono ?_
    rintro e w2 ⟨rfl, hb2⟩
    rw [H4.out]
    have T2 := below_next T1 hb2 rfl
    have T2b := below_next T1' hb2 rfl
    replace BX := BX.next hb2
    replace BY := BY.next hb2
    have O2 := own_next O1 hb2
    replace h1r := h1r.next stab_RVI hb2
    replace h1r' := h1r'.next stab_RVI hb2
    replace hf1 := hf1.next stab_RI hb2
    clear cX cY hb2 O1
    go_wp2_with fail
    go_loopw [8, 9] (fun v i wr => ∃ (k : Nat) (acc : List Int), k ≤ m ∧ i = .int .i64 k ∧ acc = upR (leF xss) (leF yss) fs l k ∧ (∀ y < k, 0 ≤ gUp (leF xss) (leF yss) fs l y) ∧ Gat w0.heap.size w0 wr v k acc ∧ Blk wr w.heap.size 29 #[.slice A l c] ∧ Blk wr (w.heap.size + 1) 29 #[.slice B m d] ∧ Below w.heap.size w wr) (fun _ i _ => m - (intOf i).toNat)
    case atStart => exact ⟨0, [], Nat.zero_le _, rfl, rfl, upto0, ⟨_, _, rfl, rfl, O2, T2b⟩, BX, BY, T2⟩
    case round =>
      obtain ⟨k, acc, hk, rfl, hacc2, hpos, ⟨A', c', rfl, hacc, hown, hT0⟩, BX, BY, hT⟩ := hrel
      have HA := Lib.hid hacc
      have HA2 := Lib.hid hacc2
      have HP := Lib.hid hpos
      clear hacc hacc2 hpos
      replace h1r := h.next stab_RVI hT
      replace h1r' := h'.next stab_RVI hT
      replace hf1 := hf.next stab_RI hT
      have hle := h.le
      have hle' := h'.le
      obtain ⟨wo, hwo⟩ : ∃ wo : World, wo = wr := ⟨_, rfl⟩
      subst hwo
      have cX := BX.c0
      have cY := BY.c0
      by_cases hlt : k < m
      · have hk0 : (0 : Int) ≤ (k : Int) := by omega
        have hk1 : (k : Int) < (m : Int) := by omega
        have hwlo := hT.size
        have hBXl := BX.lt
        have hBYl := BY.lt
        go_wp2_with fail
        go_loopw [10, 11] (fun v i wi => ∃ (q p : Nat) (ac : List Int), q ≤ l ∧ p ≤ q ∧ i = .int .i64 q ∧ ac = rowTo (upF (leF yss) fs) k q ∧ Gat wo.heap.size wo wi v p ac) (fun _ i _ => l - (intOf i).toNat)
        case atStart => exact ⟨0, 0, [], Nat.zero_le _, Nat.le_refl _, rfl, rfl, _, _, rfl, rfl, World.ownsRow_lit _ _ _ (Nat.le_refl _) (Nat.zero_le _) rfl, below_box _ _⟩
        case round =>
          obtain ⟨q, p, ac, hq, hpq, rfl, hac2, A6, c6, rfl, hac, how6, hTi⟩ := hrel
          have HC := Lib.hid hac
          have HC2 := Lib.hid hac2
          clear hac hac2 cX cY
          have cX := (BX.next hTi).c0
          have cY := (BY.next hTi).c0
          by_cases hltq : q < l
          · have hq0 : (0 : Int) ≤ (q : Int) := by omega
            have hq1 : (q : Int) < (l : Int) := by omega
            obtain ⟨fb, fo, v, x', rfl, hcf, ⟨rfl, -⟩, -, hx⟩ := (hf1.next stab_RI hTi).at hltq
            have hxm := HIN.out x' (List.mem_of_getElem? hx)
            obtain ⟨x', rfl⟩ := Int.eq_ofNat_of_zero_le hxm.1
            have HX := Lib.hid (fAt_get hx)
            have hh' := h1r'.next stab_RVI hTi
            obtain ⟨b1, HS1⟩ : ∃ b, Hid (hasI (x' : Int) (rowOf yss k) = b) := ⟨_, rfl⟩
            have HR1 : Hid (upF (leF yss) fs q k = b1) := by show _ = _; unfold upF; rw [HX.out]; exact HS1.out
            have HC1 : ∀ wz, Below wr.heap.size wr wz → Calls Try.prog 84 #[.agg #[.slice B m d], .int .i64 x', .int .i64 k] wz (Bl wz (.bool b1)) := fun wz hz => by
              have := l23Leq_any B m d yss (x' : Int) k wz (hh'.next stab_RVI hz) hlt
              rwa [HS1.out] at this
            clear hx hxm
            have Tk : Below wr.heap.size wr wr := Below.refl _ _
            go_upto_region 11 with fail
            go_region_held3 (fun w' => w'.cell? ⟨w.heap.size + 1, 0, none⟩ = some (.slice B m d) ∧ w'.cell? ⟨fb, fo + q, none⟩ = some (.int .i64 x')) (first | go_keep | exact ⟨keepc Tk cY, keepc Tk hcf⟩) (first
              | (go_at_call 84; (with_reducible refine (HC1 _ ?_).mono ?_); (first | exact Tk | exact Below.drew Tk); rintro e wn ⟨rfl, hbn⟩; replace Tk := below_next (by first | exact Tk | exact Below.drew Tk) hbn rfl))
            have how7 := own_next how6 Tk
            have hT7 := below_next hTi Tk rfl
            have hs7 := hT7.size
            rcases b1 with _ | _
            · go_wp2_with fail
              go_roundw
              case rel => exact ⟨q + 1, p, ac, by omega, by omega, by go_num, by rw [rowTo_succ, if_neg (by rw [HR1.out]; decide)]; exact HC2.out, A6, c6, rfl, HC.out, how7, hT7⟩
              case measure => simp [intOf]; omega
            · go_wp2_with (at_builtin; refine app1 wn rfl _ _ 25 3 rfl (.int .i64 0) 8 Try.underlying25 info_int rfl (by decide) wo.heap.size p c6 A6 (ints ac) rfl how7 (.int .i64 q) rfl rfl (by omega) hs7 ?_; intro A8 c8 w8 hown8 hg8 hb8)
              go_roundw
              case rel => exact ⟨q + 1, p + 1, ac ++ [(q : Int)], by omega, by omega, by go_num, by rw [rowTo_succ, if_pos HR1.out, HC2.out], A8, c8, rfl, by simp [HC.out], by rw [ints_snoc]; exact hown8, hT7.trans hb8⟩
              case measure => simp [intOf]; omega
          · obtain rfl : q = l := by omega
            have hlt' : ¬ (q : Int) < (q : Int) := by omega
            obtain ⟨L, HL⟩ : ∃ L, Hid (rowTo (upF (leF yss) fs) k q = L) := ⟨_, rfl⟩
            have HGU : Hid (gUp (leF xss) (leF yss) fs q k = grI (leF xss) L) := by show _ = _; unfold gUp; rw [HL.out]
            have HLin : Hid (∀ v ∈ L, 0 ≤ v ∧ v ≤ (q : Int) - 1) := by show ∀ v ∈ L, _; rw [← HL.out]; exact row_in
            have HLL : Hid (L.length = p) := by show _ = _; rw [← HL.out, ← HC2.out]; exact HC.out
            rw [HC2.out, HL.out] at how6
            have R6 := rd_of_own (R := RI) how6 (RI_ints fun v hv => by have := HLin.out v hv; omega)
            have hT6 := below_next hT hTi rfl
            replace hown := own_next hown hTi
            replace BX := BX.next hTi
            replace BY := BY.next hTi
            replace h1r := h1r.next stab_RVI hTi
            have hT60 := below_next hT0 hTi rfl
            clear how6 cX cY HC HC2
            obtain ⟨w6, hw6⟩ : ∃ w6 : World, w6 = wr := ⟨_, rfl⟩
            subst hw6
            go_wp2_with fail
            go_loopw [12, 13] (fun b i wi => ∃ j : Nat, j ≤ p ∧ i = .int .i64 j ∧ BestP (leF xss) L j b ∧ Below w6.heap.size w6 wi) (fun _ i _ => p - (intOf i).toNat)
            case atStart => exact ⟨0, Nat.zero_le _, rfl, .inl ⟨rfl, fun j hj => absurd hj (by omega)⟩, Below.refl _ _⟩
            case round =>
              obtain ⟨j, hj, rfl, HB, hTj⟩ := hrel
              have HBB := Lib.hid HB
              by_cases hltj : j < p
              · have hj0 : (0 : Int) ≤ (j : Int) := by omega
                have hj1 : (j : Int) < (p : Int) := by omega
                obtain ⟨b6, o6, v, x', rfl, hc6, ⟨rfl, -⟩, -, hx⟩ := (R6.next stab_RI hTj).at hltj
                have hxm := HLin.out x' (List.mem_of_getElem? hx)
                obtain ⟨x', rfl⟩ := Int.eq_ofNat_of_zero_le hxm.1
                have hx0 : (0 : Int) ≤ (x' : Int) := by omega
                have hx1 : (x' : Int) < (q : Int) := by omega
                obtain ⟨bb, oo, v, t, rfl, hct, ⟨B7, j7, d7, rfl, ht⟩, -, hxt⟩ := (h1r.next stab_RVI hTj).at (k := x') (by omega)
                have cX := (BX.next hTj).c0
                have HXX := Lib.hid hx
                have hR6 := R6.next stab_RI hTj
                obtain ⟨b1, HS1⟩ : ∃ b, Hid (partL t L = b) := ⟨_, rfl⟩
                have HR1 : Hid (belowAll (leF xss) L (x' : Int) = b1) := by
                  show _ = _
                  rw [← belowAll_part (fun v hv => (HLin.out v hv).1) (rowOf_get hxt)]
                  exact HS1.out
                have HC1 : ∀ wz, Below wr.heap.size wr wz → Calls Try.prog 85 #[.slice (some ⟨b6, o6, none⟩) p c6, .slice B7 j7 d7] wz fun e w' => e = .returned (.bool b1) ∧ wz = w' := fun wz hz => by
                  have := l5Within_any (some ⟨b6, o6, none⟩) B7 p j7 c6 d7 L t wz (hR6.next stab_RI hz) (ht.next stab_RI hz)
                  rwa [HS1.out] at this
                clear hx hxm hxt HB
                have Tk : Below wr.heap.size wr wr := Below.refl _ _
                go_upto_region 17 with fail
                go_region_held3 (fun w' => w'.cell? ⟨w.heap.size, 0, none⟩ = some (.slice (some ⟨bb, oo, none⟩) q c) ∧ w'.cell? ⟨b6, o6 + j, none⟩ = some (.int .i64 x') ∧ w'.cell? ⟨bb, oo + x', none⟩ = some (.slice B7 j7 d7)) (first | go_keep | exact ⟨keepc Tk cX, keepc Tk hc6, keepc Tk hct⟩) (first
                  | (go_at_call 85; (with_reducible refine (HC1 _ ?_).mono ?_); (first | exact Tk | exact Below.drew Tk | exact below_drewN Tk _); rintro e wn ⟨rfl, rfl⟩))
                rcases b1 with _ | _
                · go_wp2_with fail
                  go_roundw
                  case rel => exact ⟨j + 1, by omega, by go_num, HBB.out.keep HXX.out HR1.out, by first | exact hTj | exact Below.drew hTj | exact below_drewN hTj _⟩
                  case measure => simp [intOf]; omega
                · go_wp2_with fail
                  go_roundw
                  case rel => exact ⟨j + 1, by omega, by go_num, .inr ⟨by rw [gr_last HORD.out HLin.out (List.mem_of_getElem? HXX.out) HR1.out], by rw [gr_last HORD.out HLin.out (List.mem_of_getElem? HXX.out) HR1.out]; omega⟩, by first | exact hTj | exact Below.drew hTj | exact below_drewN hTj _⟩
                  case measure => simp [intOf]; omega
              · obtain rfl : j = p := by omega
                have hlt2 : ¬ (j : Int) < (j : Int) := by omega
                obtain rfl := HB.done (by rw [HLL.out]; exact Nat.le_refl _)
                replace hown := own_next hown hTj
                have hT7 := below_next hT6 hTj rfl
                have hT70 := below_next hT60 hTj rfl
                have hs70 := hT70.size
                clear HB HBB
                have BX7 := BX.next hTj
                have BY7 := BY.next hTj
                rcases gUp_in (F := leF xss) (G := leF yss) (fs := fs) (n := q) (y := k) with hv | hv
                · have HNO : Hid (upB q m q xss yss fs = false) := by
                    show _ = _
                    rw [HUB.out, ← tt_false]
                    exact fun hh => by have := hh.1 k hlt; omega
                  rw [HGU.out] at hv
                  rw [hv]
                  clear hv
                  go_wp2_with fail
                  go_ret2
                  exact UpE.no HNO.out (World.ownsRow_lit _ #[] 0 hT7.size (Nat.zero_le _) rfl) (below_next hT7 (below_box _ _) rfl)
                · obtain ⟨V, HV⟩ : ∃ V, Hid (grI (leF xss) L = V) := ⟨_, rfl⟩
                  have HGV : Hid (gUp (leF xss) (leF yss) fs q k = V) := by show _ = _; rw [HGU.out, HV.out]
                  rw [HV.out]
                  rw [HGV.out] at hv
                  have hv0 : ¬ V < 0 := by omega
                  go_wp2_with (at_builtin; refine app1 wr rfl _ _ 25 3 rfl (.int .i64 0) 8 Try.underlying25 info_int rfl (by decide) w0.heap.size k c' A' (ints acc) rfl hown (.int .i64 V) rfl rfl (by omega) hs70 ?_; intro A2 c2 w8 hown2 hg2 hb2)
                  go_roundw
                  case rel => exact ⟨k + 1, acc ++ [V], by omega, by go_num, by rw [upR_succ, HA2.out, HGV.out], upto HP.out (by rw [HGV.out]; omega), ⟨A2, c2, rfl, by simp [HA.out], by rw [ints_snoc]; exact hown2, hT70.trans hb2⟩, BX7.below hb2 (by rw [HS0.out]; omega), BY7.below hb2 (by rw [HS0.out]; omega), hT7.trans (hb2.mono (by rw [HS0.out]; omega))⟩
                  case measure => simp [intOf]; omega
      · obtain rfl : k = m := by omega
        have hlt' : ¬ (k : Int) < (k : Int) := by omega
        have Rg : RdL RI wo A' k (upR (leF xss) (leF yss) fs l k) := by
          rw [← HA2.out]
          exact rd_of_own (R := RI) hown (RI_ints fun v hv => by
            rw [HA2.out] at hv
            have := upR_in HP.out v hv
            omega)
        have HGIN := Lib.hid (upR_in HP.out)
        rcases ha : tt (AdjP l k (leF xss) (leF yss) fs (upR (leF xss) (leF yss) fs l k)) with _ | _
        · have HAD := Lib.hid ha
          have HNO : Hid (upB l k l xss yss fs = false) := by
            show _ = _
            rw [HUB.out, ← tt_false]
            intro hh
            rw [← tt_true hh.2] at ha
            cases ha
          clear ha
          go_wp2_with fail
          refine (l30Adjoint_any _ _ _ _ _ _ _ _ _ _ _ _ _ _ _ h1r h1r' hf1 Rg HIN.out HGIN.out).mono ?_
          rintro e w7 ⟨rfl, hb7⟩
          rw [HAD.out]
          have hTz := below_next hT hb7 rfl
          go_wp2_with fail
          go_ret2
          exact UpE.no HNO.out (World.ownsRow_lit _ #[] 0 hTz.size (Nat.zero_le _) rfl) (below_next hTz (below_box _ _) rfl)
        · have HAD := Lib.hid ha
          have HYES : Hid (upB l k l xss yss fs = true) := by
            show _ = _
            rw [HUB.out, ← tt_true]
            exact ⟨HP.out, tt_iff.1 ha⟩
          clear ha
          go_wp2_with fail
          refine (l30Adjoint_any _ _ _ _ _ _ _ _ _ _ _ _ _ _ _ h1r h1r' hf1 Rg HIN.out HGIN.out).mono ?_
          rintro e w7 ⟨rfl, hb7⟩
          rw [HAD.out]
          have hTz := below_next hT hb7 rfl
          go_wp2_with fail
          go_ret2
          exact UpE.yes HYES.out (by rw [← HA2.out]; exact own_lowB (own_next hown hb7) hb.size) hTz
theorem upB_good {n m l : Nat} {xss yss : List (List Int)} {fs : List Int} (h : upB n m l xss yss fs = true) : GoodP xss ∧ GoodP yss ∧ UpP n m (leF xss) (leF yss) fs := by
  unfold upB at h
  rw [Bool.and_eq_true] at h
  obtain ⟨h1, h2, -⟩ := mapS_true h.1
  exact ⟨h1, h2, tt_iff.1 h.2⟩
theorem upL_len {w : World} {B : Option Addr} {n m l : Nat} {xss yss : List (List Int)} {fs : List Int} (h : RdL (RV RI) w B m yss) : (upL n m l xss yss fs).length ≤ 10 := by
  unfold upL
  split
  · rename_i hb
    rw [upR_len, ← h.len]
    exact (upB_good hb).2.1.1
  · exact Nat.zero_le _
theorem upL_bounds {w : World} {A : Option Addr} {n m l : Nat} {xss yss : List (List Int)} {fs : List Int} (h : RdL (RV RI) w A n xss) : ∀ x ∈ upL n m l xss yss fs, -9223372036854775808 ≤ x ∧ x ≤ 9223372036854775807 := by
  intro x hx
  unfold upL at hx
  split at hx
  · rename_i hb
    have := upR_in (upB_good hb).2.2.1 x hx
    have h10 : xss.length ≤ 10 := (upB_good hb).1.1
    rw [h.len] at h10
    omega
  · simp at hx
end Go.Proofs.Ytfcjhmaggefhaaa
