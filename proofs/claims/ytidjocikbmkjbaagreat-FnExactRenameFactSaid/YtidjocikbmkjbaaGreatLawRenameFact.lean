
/- The walk of the law FnExactRenameFact. Printed by genlaw3.py. -/
import Derived.Test.YtidjocikbmkjbaaGreatRfF
import Derived.Deep.RegionHeld3
import Derived.Deep.DeepCutAuto
namespace Go.Proofs.YtidjocikbmkjbaaGreat
open Go.RowKit

set_option linter.unusedVariables false in
set_option linter.unusedSimpArgs false in
set_option maxRecDepth 100000 in
set_option maxHeartbeats 16000000 in
theorem lawRenameFact (cs0 : List Value) (x0 : AlgebraM) (cs1 : List Value) (x1 : FactM) (v2 : Value) (x2 : List Int) (w : World) (h0 : shAlgebra.rd w cs0 x0) (h1 : shFact.rd w cs1 x1) (h2 : (Sh.il 3).rd w [v2] x2) :
    Calls Tryz.prog 3 #[.agg cs0.toArray, .agg cs1.toArray, v2] w (Bl w (.bool true)) := by
  have hh0 := h0
  obtain ⟨Aa0Ops, na0Ops, ca0Ops, rfl, qa0Size, qa0Ops⟩ := rdAlgebra hh0
  clear hh0
  have hh1 := h1
  obtain ⟨Aa1EqLeft, na1EqLeft, ca1EqLeft, Aa1EqRight, na1EqRight, ca1EqRight, Aa1List, na1List, ca1List, rfl, qa1Kind, qa1EqLeft, qa1EqRight, qa1List⟩ := rdFact hh1
  clear hh1
  have hh2 := h2
  obtain ⟨_, e2, Aq2, nq2, cq2, rfl, rq2⟩ := hh2
  injection e2 with e2 _
  subst e2
  have hq2 := rq2.len
  clear rq2
  have T0 : Below w.heap.size w w := Below.refl _ _
  obtain ⟨w1, HW1', hb1, hsz1, P0, P1⟩ := boxes2 w #[.int .i64 x0.1, .slice Aa0Ops na0Ops ca0Ops] #[.int .i64 x1.1, .slice Aa1EqLeft na1EqLeft ca1EqLeft, .slice Aa1EqRight na1EqRight ca1EqRight, .slice Aa1List na1List ca1List] 24 29
  have HW1 := Lib.hid HW1'
  clear HW1'
  have zw1 : w.heap.size ≤ w1.heap.size := hb1.size
  replace T0 := below_next T0 hb1 rfl
  clear hb1
  have L0 : (0 : Int) ≤ 1048576 ∧ (1048576 : Int) ≤ 1048576 := by omega
  go_enter Tryz.func3, Tryz.ntmps3
  by_cases z2 : (1048576 : Int) < (nq2 : Int)
  · have cP0_0 := P0.cell 0
    have cP0_1 := P0.cell 1
    have cP1_0 := P1.cell 0
    have cP1_1 := P1.cell 1
    have cP1_2 := P1.cell 2
    have cP1_3 := P1.cell 3
    simp only [List.getElem?_toArray, List.getElem?_cons_zero, List.getElem?_cons_succ] at cP0_0 cP0_1 cP1_0 cP1_1 cP1_2 cP1_3
    rw [HW1.out] at cP0_0
    rw [HW1.out] at cP0_1
    rw [HW1.out] at cP1_0
    rw [HW1.out] at cP1_1
    rw [HW1.out] at cP1_2
    rw [HW1.out] at cP1_3
    go_wp2_with fail
    rw [← HW1.out]
    clear cP0_0 cP0_1 cP1_0 cP1_1 cP1_2 cP1_3
    go_ret
    exact ⟨rfl, T0⟩
  have hn2 : x2.length ≤ 1048576 := by omega
  have cP0_0 := P0.cell 0
  have cP0_1 := P0.cell 1
  have cP1_0 := P1.cell 0
  have cP1_1 := P1.cell 1
  have cP1_2 := P1.cell 2
  have cP1_3 := P1.cell 3
  simp only [List.getElem?_toArray, List.getElem?_cons_zero, List.getElem?_cons_succ] at cP0_0 cP0_1 cP1_0 cP1_1 cP1_2 cP1_3
  rw [HW1.out] at cP0_0
  rw [HW1.out] at cP0_1
  rw [HW1.out] at cP1_0
  rw [HW1.out] at cP1_1
  rw [HW1.out] at cP1_2
  rw [HW1.out] at cP1_3
  go_wp2_with fail
  rw [← HW1.out]
  clear cP0_0 cP0_1 cP1_0 cP1_1 cP1_2 cP1_3
  refine (szAlgebra_any [.int .i64 x0.1, .slice Aa0Ops na0Ops ca0Ops] x0 1048576 _ (shAlgebra.stab h0 T0.block) L0.1 L0.2).mono ?_
  rintro e w2 ⟨rfl, hb2⟩
  have zw2 : w1.heap.size ≤ w2.heap.size := hb2.size
  replace T0 := below_next T0 hb2 rfl
  replace P0 := P0.next hb2
  replace P1 := P1.next hb2
  clear hb2
  obtain ⟨l0, HL0⟩ : ∃ l, Hid (szR (shAlgebra.cnt x0) 1048576 = l) := ⟨_, rfl⟩
  have bd0 := szR_bd (shAlgebra.cnt x0) (left := 1048576) L0.1
  rw [HL0.out] at bd0 ⊢
  by_cases z0 : l0 < 0
  · go_wp2_with fail
    go_ret
    exact ⟨rfl, T0⟩
  have hn0 : (shAlgebra.cnt x0) ≤ 1048576 := by have := szR_ok (a := (shAlgebra.cnt x0)) (left := 1048576) (by rw [HL0.out]; exact z0); omega
  have M0 : 0 ≤ l0 ∧ l0 ≤ 1048576 := by omega
  clear bd0
  have cP0_0 := P0.cell 0
  have cP0_1 := P0.cell 1
  have cP1_0 := P1.cell 0
  have cP1_1 := P1.cell 1
  have cP1_2 := P1.cell 2
  have cP1_3 := P1.cell 3
  simp only [List.getElem?_toArray, List.getElem?_cons_zero, List.getElem?_cons_succ] at cP0_0 cP0_1 cP1_0 cP1_1 cP1_2 cP1_3
  go_wp2_with fail
  clear cP0_0 cP0_1 cP1_0 cP1_1 cP1_2 cP1_3
  refine (szFact_any [.int .i64 x1.1, .slice Aa1EqLeft na1EqLeft ca1EqLeft, .slice Aa1EqRight na1EqRight ca1EqRight, .slice Aa1List na1List ca1List] x1 l0 _ (shFact.stab h1 T0.block) M0.1 M0.2).mono ?_
  rintro e w3 ⟨rfl, hb3⟩
  have zw3 : w2.heap.size ≤ w3.heap.size := hb3.size
  replace T0 := below_next T0 hb3 rfl
  replace P0 := P0.next hb3
  replace P1 := P1.next hb3
  clear hb3
  obtain ⟨l1, HL1⟩ : ∃ l, Hid (szR (shFact.cnt x1) l0 = l) := ⟨_, rfl⟩
  have bd1 := szR_bd (shFact.cnt x1) (left := l0) M0.1
  rw [HL1.out] at bd1 ⊢
  by_cases z1 : l1 < 0
  · go_wp2_with fail
    go_ret
    exact ⟨rfl, T0⟩
  have hn1 : (shFact.cnt x1) ≤ 1048576 := by have := szR_ok (a := (shFact.cnt x1)) (left := l0) (by rw [HL1.out]; exact z1); omega
  have M1 : 0 ≤ l1 ∧ l1 ≤ 1048576 := by omega
  clear bd1
  obtain ⟨mo0, HMO0⟩ : ∃ b, Hid (rfR x0 x1 x2 = b) := ⟨_, rfl⟩
  obtain ⟨mo1, HMO1⟩ : ∃ b, Hid (rfOk x0 x1 x2 = b) := ⟨_, rfl⟩
  have hbb1 := bne_self mo1
  have g0 := (shAlgebra.stab h0 T0.block)
  have g1 := (shFact.stab h1 T0.block)
  have g2 := ((Sh.il 3).stab h2 T0.block)
  have cP0_0 := P0.cell 0
  have cP0_1 := P0.cell 1
  have cP1_0 := P1.cell 0
  have cP1_1 := P1.cell 1
  have cP1_2 := P1.cell 2
  have cP1_3 := P1.cell 3
  simp only [List.getElem?_toArray, List.getElem?_cons_zero, List.getElem?_cons_succ] at cP0_0 cP0_1 cP1_0 cP1_1 cP1_2 cP1_3
  go_upto_region 10 with fail
  clear cP0_0 cP0_1 cP1_0 cP1_1 cP1_2 cP1_3
  have cP0_0 := P0.cell 0
  have cP0_1 := P0.cell 1
  have cP1_0 := P1.cell 0
  have cP1_1 := P1.cell 1
  have cP1_2 := P1.cell 2
  have cP1_3 := P1.cell 3
  simp only [List.getElem?_toArray, List.getElem?_cons_zero, List.getElem?_cons_succ] at cP0_0 cP0_1 cP1_0 cP1_1 cP1_2 cP1_3
  have Tk : Below w3.heap.size w3 w3 := Below.refl _ _
  have kcP0_0 := cP0_0
  have kcP0_1 := cP0_1
  have kcP1_0 := cP1_0
  have kcP1_1 := cP1_1
  have kcP1_2 := cP1_2
  have kcP1_3 := cP1_3
  go_cut [8, 9] (fun u8 u9 wx => ∃ (gw : Nat) (AwEqLeft AwEqRight AwList : Option Addr) (nwEqLeft cwEqLeft nwEqRight cwEqRight nwList cwList : Nat) (blw : List Nat), u8 = .pointer (some ⟨gw, 0, none⟩) ∧ u9 = .bool mo1 ∧ w3.heap.size ≤ gw ∧ Blk wx gw 34 #[.int .i64 mo0.1, .slice AwEqLeft nwEqLeft cwEqLeft, .slice AwEqRight nwEqRight cwEqRight, .slice AwList nwList cwList] ∧ shFact.own wx [.int .i64 mo0.1, .slice AwEqLeft nwEqLeft cwEqLeft, .slice AwEqRight nwEqRight cwEqRight, .slice AwList nwList cwList] mo0 blw ∧ Below w3.heap.size w3 wx)
  case first =>
    refine wp_region_held_drew (S := fun w' => w'.cell? ⟨w.heap.size, 0, none⟩ = some (.int .i64 x0.1) ∧ w'.cell? ⟨w.heap.size, 1, none⟩ = some (.slice Aa0Ops na0Ops ca0Ops) ∧ w'.cell? ⟨(w.heap.size + 1), 0, none⟩ = some (.int .i64 x1.1) ∧ w'.cell? ⟨(w.heap.size + 1), 1, none⟩ = some (.slice Aa1EqLeft na1EqLeft ca1EqLeft) ∧ w'.cell? ⟨(w.heap.size + 1), 2, none⟩ = some (.slice Aa1EqRight na1EqRight ca1EqRight) ∧ w'.cell? ⟨(w.heap.size + 1), 3, none⟩ = some (.slice Aa1List na1List ca1List)) (by kernel_rfl) ⟨cP0_0, cP0_1, cP1_0, cP1_1, cP1_2, cP1_3⟩ (fun hHeld0 => ?_)
    obtain ⟨wt1, Hwt1⟩ : ∃ x, Hid (x = World.drew w3) := ⟨_, rfl⟩
    have hbwt1 : Below w3.heap.size w3 wt1 := by rw [Hwt1.out]; exact (Below.refl _ _).drew
    rw [← Hwt1.out] at hHeld0 ⊢
    have ywt1 := hbwt1.size
    replace Tk := below_next Tk hbwt1 rfl
    replace cP0_0 := keepc hbwt1 cP0_0
    replace cP0_1 := keepc hbwt1 cP0_1
    replace cP1_0 := keepc hbwt1 cP1_0
    replace cP1_1 := keepc hbwt1 cP1_1
    replace cP1_2 := keepc hbwt1 cP1_2
    replace cP1_3 := keepc hbwt1 cP1_3
    refine wpAnyH_take (i := 0) (v := .agg #[.int .i64 x0.1, .slice Aa0Ops na0Ops ca0Ops]) rfl (by kernel_rfl) (by kernel_rfl) (by kernel_rfl) (fun _ _ _ h => h) (Or.inl ⟨by kernel_rfl, fun wv hSw => by (obtain ⟨hS0, hS1, hS2, hS3, hS4, hS5⟩ := hSw); go_simp⟩) (by assumption) ?_
    (try simp only [Act.put, List.getElem_toArray, List.getElem_cons_zero, List.getElem_cons_succ, List.setIfInBounds_toArray, List.set_cons_zero, List.set_cons_succ])
    refine wpAnyH_take (i := 2) (v := .agg #[.int .i64 x1.1, .slice Aa1EqLeft na1EqLeft ca1EqLeft, .slice Aa1EqRight na1EqRight ca1EqRight, .slice Aa1List na1List ca1List]) rfl (by kernel_rfl) (by kernel_rfl) (by kernel_rfl) (fun _ _ _ h => h) (Or.inl ⟨by kernel_rfl, fun wv hSw => by (obtain ⟨hS0, hS1, hS2, hS3, hS4, hS5⟩ := hSw); go_simp⟩) (by assumption) ?_
    (try simp only [Act.put, List.getElem_toArray, List.getElem_cons_zero, List.getElem_cons_succ, List.setIfInBounds_toArray, List.set_cons_zero, List.set_cons_succ])
    refine wpAnyH_take (i := 4) (v := .slice Aq2 nq2 cq2) rfl (by kernel_rfl) (by kernel_rfl) (by kernel_rfl) (fun _ _ _ h => h) (Or.inl ⟨by kernel_rfl, fun _ _ => by go_simp⟩) (by assumption) ?_
    (try simp only [Act.put, List.getElem_toArray, List.getElem_cons_zero, List.getElem_cons_succ, List.setIfInBounds_toArray, List.set_cons_zero, List.set_cons_succ])
    refine wpAnyH_ready (rs := [1, 10]) (by kernel_rfl) (by simp) ?_
    refine (AllReadyH.cons rfl (fun K hK => ?_) (AllReadyH.cons rfl (fun K hK => ?_) AllReadyH.nil))
    · go_simp
      refine (toAlgebra_any [.int .i64 x0.1, .slice Aa0Ops na0Ops ca0Ops] x0 _ (shAlgebra.stab g0 Tk.block) hn0).mono ?_
      rintro e wt2 ⟨csn0, bn0, rfl, On0, In0, hbwt2⟩
      have Rn0 := shAlgebra.ord On0
      clear On0 In0
      go_wp2_with fail
      have ywt2 := hbwt2.size
      replace Tk := below_next Tk hbwt2 rfl
      replace cP0_0 := keepc hbwt2 cP0_0
      replace cP0_1 := keepc hbwt2 cP0_1
      replace cP1_0 := keepc hbwt2 cP1_0
      replace cP1_1 := keepc hbwt2 cP1_1
      replace cP1_2 := keepc hbwt2 cP1_2
      replace cP1_3 := keepc hbwt2 cP1_3
      refine hK.out _ _ ⟨cP0_0, cP0_1, cP1_0, cP1_1, cP1_2, cP1_3⟩ (fun hHeld1 => ?_)
      clear hK K hHeld0
      (try simp only [Act.put, List.getElem_toArray, List.getElem_cons_zero, List.getElem_cons_succ, List.setIfInBounds_toArray, List.set_cons_zero, List.set_cons_succ])
      refine wpAnyH_ready (rs := [3, 10]) (by kernel_rfl) (by simp) ?_
      refine (AllReadyH.cons rfl (fun K hK => ?_) (AllReadyH.cons rfl (fun K hK => ?_) AllReadyH.nil))
      · go_simp
        refine (toFact_any [.int .i64 x1.1, .slice Aa1EqLeft na1EqLeft ca1EqLeft, .slice Aa1EqRight na1EqRight ca1EqRight, .slice Aa1List na1List ca1List] x1 _ (shFact.stab g1 Tk.block) hn1).mono ?_
        rintro e wt3 ⟨csn1, bn1, rfl, On1, In1, hbwt3⟩
        have Rn1 := shFact.ord On1
        clear On1 In1
        go_wp2_with fail
        have ywt3 := hbwt3.size
        replace Tk := below_next Tk hbwt3 rfl
        replace Rn0 := stab_same Rn0 hbwt3
        replace cP0_0 := keepc hbwt3 cP0_0
        replace cP0_1 := keepc hbwt3 cP0_1
        replace cP1_0 := keepc hbwt3 cP1_0
        replace cP1_1 := keepc hbwt3 cP1_1
        replace cP1_2 := keepc hbwt3 cP1_2
        replace cP1_3 := keepc hbwt3 cP1_3
        refine hK.out _ _ ⟨cP0_0, cP0_1, cP1_0, cP1_1, cP1_2, cP1_3⟩ (fun hHeld2 => ?_)
        clear hK K hHeld1
        (try simp only [Act.put, List.getElem_toArray, List.getElem_cons_zero, List.getElem_cons_succ, List.setIfInBounds_toArray, List.set_cons_zero, List.set_cons_succ])
        refine wpAnyH_ready (rs := [5, 10]) (by kernel_rfl) (by simp) ?_
        refine (AllReadyH.cons rfl (fun K hK => ?_) (AllReadyH.cons rfl (fun K hK => ?_) AllReadyH.nil))
        · go_simp
          refine (toIl_any (.slice Aq2 nq2 cq2) x2 _ ((Sh.il 3).stab g2 Tk.block) hn2).mono ?_
          rintro e wt4 ⟨vn2, bn2, rfl, On2, In2, hbwt4⟩
          have Rn2 := (Sh.il 3).ord On2
          clear On2 In2
          go_wp2_with fail
          have ywt4 := hbwt4.size
          replace Tk := below_next Tk hbwt4 rfl
          replace Rn0 := stab_same Rn0 hbwt4
          replace Rn1 := stab_same Rn1 hbwt4
          replace cP0_0 := keepc hbwt4 cP0_0
          replace cP0_1 := keepc hbwt4 cP0_1
          replace cP1_0 := keepc hbwt4 cP1_0
          replace cP1_1 := keepc hbwt4 cP1_1
          replace cP1_2 := keepc hbwt4 cP1_2
          replace cP1_3 := keepc hbwt4 cP1_3
          refine hK.out _ _ ⟨cP0_0, cP0_1, cP1_0, cP1_1, cP1_2, cP1_3⟩ (fun hHeld3 => ?_)
          clear hK K hHeld2
          (try simp only [Act.put, List.getElem_toArray, List.getElem_cons_zero, List.getElem_cons_succ, List.setIfInBounds_toArray, List.set_cons_zero, List.set_cons_succ])
          refine wpAnyH_ready (rs := [6, 10]) (by kernel_rfl) (by simp) ?_
          refine (AllReadyH.cons rfl (fun K hK => ?_) (AllReadyH.cons rfl (fun K hK => ?_) AllReadyH.nil))
          · go_simp
            refine (specRF_any csn0 csn1 vn2 x0 x1 x2 _ Rn0 Rn1 Rn2 hn1).mono ?_
            rintro e wt5 ⟨csw, blw, rfl, Ow, Iw, hbwt5⟩
            rw [HMO0.out] at Ow
            obtain ⟨AwEqLeft, nwEqLeft, cwEqLeft, AwEqRight, nwEqRight, cwEqRight, AwList, nwList, cwList, rfl, -, -, -, -⟩ := rdFact (shFact.ord Ow)
            rw [HMO1.out]
            go_wp2_with fail
            have ywt5 := hbwt5.size
            replace Tk := below_next Tk hbwt5 rfl
            replace Rn0 := stab_same Rn0 hbwt5
            replace Rn1 := stab_same Rn1 hbwt5
            replace Rn2 := stab_same Rn2 hbwt5
            replace cP0_0 := keepc hbwt5 cP0_0
            replace cP0_1 := keepc hbwt5 cP0_1
            replace cP1_0 := keepc hbwt5 cP1_0
            replace cP1_1 := keepc hbwt5 cP1_1
            replace cP1_2 := keepc hbwt5 cP1_2
            replace cP1_3 := keepc hbwt5 cP1_3
            refine hK.out _ _ ⟨cP0_0, cP0_1, cP1_0, cP1_1, cP1_2, cP1_3⟩ (fun hHeld4 => ?_)
            clear hK K hHeld3
            (try simp only [Act.put, List.getElem_toArray, List.getElem_cons_zero, List.getElem_cons_succ, List.setIfInBounds_toArray, List.set_cons_zero, List.set_cons_succ])
            refine wpAnyH_take (i := 7) (v := .tuple #[.agg #[.int .i64 mo0.1, .slice AwEqLeft nwEqLeft cwEqLeft, .slice AwEqRight nwEqRight cwEqRight, .slice AwList nwList cwList], .bool mo1]) rfl (by kernel_rfl) (by kernel_rfl) (by kernel_rfl) (fun _ _ _ h => h) (Or.inl ⟨by kernel_rfl, fun _ _ => by go_simp⟩) (by assumption) ?_
            (try simp only [Act.put, List.getElem_toArray, List.getElem_cons_zero, List.getElem_cons_succ, List.setIfInBounds_toArray, List.set_cons_zero, List.set_cons_succ])
            refine wpAnyH_take (i := 8) (v := .agg #[.int .i64 mo0.1, .slice AwEqLeft nwEqLeft cwEqLeft, .slice AwEqRight nwEqRight cwEqRight, .slice AwList nwList cwList]) rfl (by kernel_rfl) (by kernel_rfl) (by kernel_rfl) (fun _ _ _ h => h) (Or.inl ⟨by kernel_rfl, fun _ _ => by go_simp⟩) (by assumption) ?_
            (try simp only [Act.put, List.getElem_toArray, List.getElem_cons_zero, List.getElem_cons_succ, List.setIfInBounds_toArray, List.set_cons_zero, List.set_cons_succ])
            refine wpAnyH_take (i := 9) (v := .bool mo1) rfl (by kernel_rfl) (by kernel_rfl) (by kernel_rfl) (fun _ _ _ h => h) (Or.inl ⟨by kernel_rfl, fun _ _ => by go_simp⟩) (by assumption) ?_
            (try simp only [Act.put, List.getElem_toArray, List.getElem_cons_zero, List.getElem_cons_succ, List.setIfInBounds_toArray, List.set_cons_zero, List.set_cons_succ])
            refine wpAnyH_ready (rs := [10]) (by kernel_rfl) (by simp) ?_
            refine (AllReadyH.cons rfl (fun K hK => ?_) AllReadyH.nil)
            go_simp
            obtain ⟨wt6, Hwt6⟩ : ∃ x, Hid (x = wt5.alloc (.cells #[.int .i64 0, .slice none 0 0, .slice none 0 0, .slice none 0 0] 34)) := ⟨_, rfl⟩
            rw [← Hwt6.out]
            have hbwt6 : Below wt5.heap.size wt5 wt6 := by rw [Hwt6.out]; exact below_box _ _
            have Bwt6 : Blk wt6 wt5.heap.size 34 #[.int .i64 0, .slice none 0 0, .slice none 0 0, .slice none 0 0] := by rw [Hwt6.out]; exact Blk.new _ _ _
            have zwt6 : wt5.heap.size < wt6.heap.size := Bwt6.lt
            have ywt6 := hbwt6.size
            replace Tk := below_next Tk hbwt6 rfl
            replace Rn0 := stab_same Rn0 hbwt6
            replace Rn1 := stab_same Rn1 hbwt6
            replace Rn2 := stab_same Rn2 hbwt6
            replace Ow := Sh.onext Ow hbwt6
            replace cP0_0 := keepc hbwt6 cP0_0
            replace cP0_1 := keepc hbwt6 cP0_1
            replace cP1_0 := keepc hbwt6 cP1_0
            replace cP1_1 := keepc hbwt6 cP1_1
            replace cP1_2 := keepc hbwt6 cP1_2
            replace cP1_3 := keepc hbwt6 cP1_3
            refine hK.out _ _ ⟨cP0_0, cP0_1, cP1_0, cP1_1, cP1_2, cP1_3⟩ (fun hHeld5 => ?_)
            clear hK K hHeld4
            (try simp only [Act.put, List.getElem_toArray, List.getElem_cons_zero, List.getElem_cons_succ, List.setIfInBounds_toArray, List.set_cons_zero, List.set_cons_succ])
            refine wpAnyH_ready (rs := [11]) (by kernel_rfl) (by simp) ?_
            refine (AllReadyH.cons rfl (fun K hK => ?_) AllReadyH.nil)
            have bC0 := Bwt6.cell 0
            have bC1 := Bwt6.cell 1
            have bC2 := Bwt6.cell 2
            have bC3 := Bwt6.cell 3
            simp only [List.getElem?_toArray, List.getElem?_cons_zero, List.getElem?_cons_succ] at bC0 bC1 bC2 bC3
            have bF0 := Bwt6.frozen 0
            have bF1 := Bwt6.frozen 1
            have bF2 := Bwt6.frozen 2
            have bF3 := Bwt6.frozen 3
            go_simp
            have hgn : wt5.heap.size ∉ blw := fun hh => by have := Iw.2 _ hh; omega
            have hgo : w3.heap.size ≤ wt5.heap.size := by omega
            obtain ⟨wt7, Hwt7⟩ : ∃ x, Hid (x = ((((wt6.setCell ⟨wt5.heap.size, 0, none⟩ (.int .i64 mo0.1)).setCell ⟨wt5.heap.size, 1, none⟩ (.slice AwEqLeft nwEqLeft cwEqLeft)).setCell ⟨wt5.heap.size, 2, none⟩ (.slice AwEqRight nwEqRight cwEqRight)).setCell ⟨wt5.heap.size, 3, none⟩ (.slice AwList nwList cwList))) := ⟨_, rfl⟩
            rw [← Hwt7.out]
            have BGf : Blk wt7 wt5.heap.size 34 #[.int .i64 mo0.1, .slice AwEqLeft nwEqLeft cwEqLeft, .slice AwEqRight nwEqRight cwEqRight, .slice AwList nwList cwList] := by rw [Hwt7.out]; simpa using (Blk.set_ (Blk.set_ (Blk.set_ (Blk.set_ Bwt6 0 (.int .i64 mo0.1)) 1 (.slice AwEqLeft nwEqLeft cwEqLeft)) 2 (.slice AwEqRight nwEqRight cwEqRight)) 3 (.slice AwList nwList cwList))
            have OGf : shFact.own wt7 [.int .i64 mo0.1, .slice AwEqLeft nwEqLeft cwEqLeft, .slice AwEqRight nwEqRight cwEqRight, .slice AwList nwList cwList] mo0 blw := by rw [Hwt7.out]; exact (Sh.oset' (p := ⟨wt5.heap.size, 3, none⟩) (Sh.oset' (p := ⟨wt5.heap.size, 2, none⟩) (Sh.oset' (p := ⟨wt5.heap.size, 1, none⟩) (Sh.oset' (p := ⟨wt5.heap.size, 0, none⟩) Ow hgn _) hgn _) hgn _) hgn _)
            have TGf : Below w3.heap.size w3 wt7 := by rw [Hwt7.out]; exact (Below.setCell (p := ⟨wt5.heap.size, 3, none⟩) (Below.setCell (p := ⟨wt5.heap.size, 2, none⟩) (Below.setCell (p := ⟨wt5.heap.size, 1, none⟩) (Below.setCell (p := ⟨wt5.heap.size, 0, none⟩) Tk (by exact hgo) _) (by exact hgo) _) (by exact hgo) _) (by exact hgo) _)
            replace cP0_0 := keepc TGf kcP0_0
            replace cP0_1 := keepc TGf kcP0_1
            replace cP1_0 := keepc TGf kcP1_0
            replace cP1_1 := keepc TGf kcP1_1
            replace cP1_2 := keepc TGf kcP1_2
            replace cP1_3 := keepc TGf kcP1_3
            refine hK.out _ _ ⟨cP0_0, cP0_1, cP1_0, cP1_1, cP1_2, cP1_3⟩ (fun hHeld6 => ?_)
            clear hK K hHeld5
            (try simp only [Act.put, List.getElem_toArray, List.getElem_cons_zero, List.getElem_cons_succ, List.setIfInBounds_toArray, List.set_cons_zero, List.set_cons_succ])
            refine wpAnyH_take (i := 12) (v := .bool mo1) rfl (by kernel_rfl) (by kernel_rfl) (by kernel_rfl) (fun _ _ _ h => h) (Or.inl ⟨by kernel_rfl, fun _ _ => by go_simp⟩) (by assumption) ?_
            (try simp only [Act.put, List.getElem_toArray, List.getElem_cons_zero, List.getElem_cons_succ, List.setIfInBounds_toArray, List.set_cons_zero, List.set_cons_succ])
            refine wpAnyH_done (by kernel_rfl) ?_ _
            go_wp2_with fail
            go_meet
            exact ⟨_, _, _, _, _, _, _, _, _, _, _, rfl, rfl, hgo, BGf, OGf, TGf⟩
          · go_simp
            obtain ⟨wt8, Hwt8⟩ : ∃ x, Hid (x = wt4.alloc (.cells #[.int .i64 0, .slice none 0 0, .slice none 0 0, .slice none 0 0] 34)) := ⟨_, rfl⟩
            rw [← Hwt8.out]
            have hbwt8 : Below wt4.heap.size wt4 wt8 := by rw [Hwt8.out]; exact below_box _ _
            have Bwt8 : Blk wt8 wt4.heap.size 34 #[.int .i64 0, .slice none 0 0, .slice none 0 0, .slice none 0 0] := by rw [Hwt8.out]; exact Blk.new _ _ _
            have zwt8 : wt4.heap.size < wt8.heap.size := Bwt8.lt
            have ywt8 := hbwt8.size
            replace Tk := below_next Tk hbwt8 rfl
            replace Rn0 := stab_same Rn0 hbwt8
            replace Rn1 := stab_same Rn1 hbwt8
            replace Rn2 := stab_same Rn2 hbwt8
            replace cP0_0 := keepc hbwt8 cP0_0
            replace cP0_1 := keepc hbwt8 cP0_1
            replace cP1_0 := keepc hbwt8 cP1_0
            replace cP1_1 := keepc hbwt8 cP1_1
            replace cP1_2 := keepc hbwt8 cP1_2
            replace cP1_3 := keepc hbwt8 cP1_3
            refine hK.out _ _ ⟨cP0_0, cP0_1, cP1_0, cP1_1, cP1_2, cP1_3⟩ (fun hHeld4 => ?_)
            clear hK K hHeld3
            (try simp only [Act.put, List.getElem_toArray, List.getElem_cons_zero, List.getElem_cons_succ, List.setIfInBounds_toArray, List.set_cons_zero, List.set_cons_succ])
            refine wpAnyH_ready (rs := [6]) (by kernel_rfl) (by simp) ?_
            refine (AllReadyH.cons rfl (fun K hK => ?_) AllReadyH.nil)
            go_simp
            refine (specRF_any csn0 csn1 vn2 x0 x1 x2 _ Rn0 Rn1 Rn2 hn1).mono ?_
            rintro e wt9 ⟨csw, blw, rfl, Ow, Iw, hbwt9⟩
            rw [HMO0.out] at Ow
            obtain ⟨AwEqLeft, nwEqLeft, cwEqLeft, AwEqRight, nwEqRight, cwEqRight, AwList, nwList, cwList, rfl, -, -, -, -⟩ := rdFact (shFact.ord Ow)
            rw [HMO1.out]
            go_wp2_with fail
            have ywt9 := hbwt9.size
            replace Tk := below_next Tk hbwt9 rfl
            replace Rn0 := stab_same Rn0 hbwt9
            replace Rn1 := stab_same Rn1 hbwt9
            replace Rn2 := stab_same Rn2 hbwt9
            replace Bwt8 := Bwt8.next hbwt9
            replace cP0_0 := keepc hbwt9 cP0_0
            replace cP0_1 := keepc hbwt9 cP0_1
            replace cP1_0 := keepc hbwt9 cP1_0
            replace cP1_1 := keepc hbwt9 cP1_1
            replace cP1_2 := keepc hbwt9 cP1_2
            replace cP1_3 := keepc hbwt9 cP1_3
            refine hK.out _ _ ⟨cP0_0, cP0_1, cP1_0, cP1_1, cP1_2, cP1_3⟩ (fun hHeld5 => ?_)
            clear hK K hHeld4
            (try simp only [Act.put, List.getElem_toArray, List.getElem_cons_zero, List.getElem_cons_succ, List.setIfInBounds_toArray, List.set_cons_zero, List.set_cons_succ])
            refine wpAnyH_take (i := 7) (v := .tuple #[.agg #[.int .i64 mo0.1, .slice AwEqLeft nwEqLeft cwEqLeft, .slice AwEqRight nwEqRight cwEqRight, .slice AwList nwList cwList], .bool mo1]) rfl (by kernel_rfl) (by kernel_rfl) (by kernel_rfl) (fun _ _ _ h => h) (Or.inl ⟨by kernel_rfl, fun _ _ => by go_simp⟩) (by assumption) ?_
            (try simp only [Act.put, List.getElem_toArray, List.getElem_cons_zero, List.getElem_cons_succ, List.setIfInBounds_toArray, List.set_cons_zero, List.set_cons_succ])
            refine wpAnyH_take (i := 8) (v := .agg #[.int .i64 mo0.1, .slice AwEqLeft nwEqLeft cwEqLeft, .slice AwEqRight nwEqRight cwEqRight, .slice AwList nwList cwList]) rfl (by kernel_rfl) (by kernel_rfl) (by kernel_rfl) (fun _ _ _ h => h) (Or.inl ⟨by kernel_rfl, fun _ _ => by go_simp⟩) (by assumption) ?_
            (try simp only [Act.put, List.getElem_toArray, List.getElem_cons_zero, List.getElem_cons_succ, List.setIfInBounds_toArray, List.set_cons_zero, List.set_cons_succ])
            refine wpAnyH_take (i := 9) (v := .bool mo1) rfl (by kernel_rfl) (by kernel_rfl) (by kernel_rfl) (fun _ _ _ h => h) (Or.inl ⟨by kernel_rfl, fun _ _ => by go_simp⟩) (by assumption) ?_
            (try simp only [Act.put, List.getElem_toArray, List.getElem_cons_zero, List.getElem_cons_succ, List.setIfInBounds_toArray, List.set_cons_zero, List.set_cons_succ])
            refine wpAnyH_ready (rs := [11]) (by kernel_rfl) (by simp) ?_
            refine (AllReadyH.cons rfl (fun K hK => ?_) AllReadyH.nil)
            have bC0 := Bwt8.cell 0
            have bC1 := Bwt8.cell 1
            have bC2 := Bwt8.cell 2
            have bC3 := Bwt8.cell 3
            simp only [List.getElem?_toArray, List.getElem?_cons_zero, List.getElem?_cons_succ] at bC0 bC1 bC2 bC3
            have bF0 := Bwt8.frozen 0
            have bF1 := Bwt8.frozen 1
            have bF2 := Bwt8.frozen 2
            have bF3 := Bwt8.frozen 3
            go_simp
            have hgn : wt4.heap.size ∉ blw := fun hh => by have := Iw.2 _ hh; omega
            have hgo : w3.heap.size ≤ wt4.heap.size := by omega
            obtain ⟨wt10, Hwt10⟩ : ∃ x, Hid (x = ((((wt9.setCell ⟨wt4.heap.size, 0, none⟩ (.int .i64 mo0.1)).setCell ⟨wt4.heap.size, 1, none⟩ (.slice AwEqLeft nwEqLeft cwEqLeft)).setCell ⟨wt4.heap.size, 2, none⟩ (.slice AwEqRight nwEqRight cwEqRight)).setCell ⟨wt4.heap.size, 3, none⟩ (.slice AwList nwList cwList))) := ⟨_, rfl⟩
            rw [← Hwt10.out]
            have BGf : Blk wt10 wt4.heap.size 34 #[.int .i64 mo0.1, .slice AwEqLeft nwEqLeft cwEqLeft, .slice AwEqRight nwEqRight cwEqRight, .slice AwList nwList cwList] := by rw [Hwt10.out]; simpa using (Blk.set_ (Blk.set_ (Blk.set_ (Blk.set_ Bwt8 0 (.int .i64 mo0.1)) 1 (.slice AwEqLeft nwEqLeft cwEqLeft)) 2 (.slice AwEqRight nwEqRight cwEqRight)) 3 (.slice AwList nwList cwList))
            have OGf : shFact.own wt10 [.int .i64 mo0.1, .slice AwEqLeft nwEqLeft cwEqLeft, .slice AwEqRight nwEqRight cwEqRight, .slice AwList nwList cwList] mo0 blw := by rw [Hwt10.out]; exact (Sh.oset' (p := ⟨wt4.heap.size, 3, none⟩) (Sh.oset' (p := ⟨wt4.heap.size, 2, none⟩) (Sh.oset' (p := ⟨wt4.heap.size, 1, none⟩) (Sh.oset' (p := ⟨wt4.heap.size, 0, none⟩) Ow hgn _) hgn _) hgn _) hgn _)
            have TGf : Below w3.heap.size w3 wt10 := by rw [Hwt10.out]; exact (Below.setCell (p := ⟨wt4.heap.size, 3, none⟩) (Below.setCell (p := ⟨wt4.heap.size, 2, none⟩) (Below.setCell (p := ⟨wt4.heap.size, 1, none⟩) (Below.setCell (p := ⟨wt4.heap.size, 0, none⟩) Tk (by exact hgo) _) (by exact hgo) _) (by exact hgo) _) (by exact hgo) _)
            replace cP0_0 := keepc TGf kcP0_0
            replace cP0_1 := keepc TGf kcP0_1
            replace cP1_0 := keepc TGf kcP1_0
            replace cP1_1 := keepc TGf kcP1_1
            replace cP1_2 := keepc TGf kcP1_2
            replace cP1_3 := keepc TGf kcP1_3
            refine hK.out _ _ ⟨cP0_0, cP0_1, cP1_0, cP1_1, cP1_2, cP1_3⟩ (fun hHeld6 => ?_)
            clear hK K hHeld5
            (try simp only [Act.put, List.getElem_toArray, List.getElem_cons_zero, List.getElem_cons_succ, List.setIfInBounds_toArray, List.set_cons_zero, List.set_cons_succ])
            refine wpAnyH_take (i := 12) (v := .bool mo1) rfl (by kernel_rfl) (by kernel_rfl) (by kernel_rfl) (fun _ _ _ h => h) (Or.inl ⟨by kernel_rfl, fun _ _ => by go_simp⟩) (by assumption) ?_
            (try simp only [Act.put, List.getElem_toArray, List.getElem_cons_zero, List.getElem_cons_succ, List.setIfInBounds_toArray, List.set_cons_zero, List.set_cons_succ])
            refine wpAnyH_done (by kernel_rfl) ?_ _
            go_wp2_with fail
            go_meet
            exact ⟨_, _, _, _, _, _, _, _, _, _, _, rfl, rfl, hgo, BGf, OGf, TGf⟩
        · go_simp
          obtain ⟨wt11, Hwt11⟩ : ∃ x, Hid (x = wt3.alloc (.cells #[.int .i64 0, .slice none 0 0, .slice none 0 0, .slice none 0 0] 34)) := ⟨_, rfl⟩
          rw [← Hwt11.out]
          have hbwt11 : Below wt3.heap.size wt3 wt11 := by rw [Hwt11.out]; exact below_box _ _
          have Bwt11 : Blk wt11 wt3.heap.size 34 #[.int .i64 0, .slice none 0 0, .slice none 0 0, .slice none 0 0] := by rw [Hwt11.out]; exact Blk.new _ _ _
          have zwt11 : wt3.heap.size < wt11.heap.size := Bwt11.lt
          have ywt11 := hbwt11.size
          replace Tk := below_next Tk hbwt11 rfl
          replace Rn0 := stab_same Rn0 hbwt11
          replace Rn1 := stab_same Rn1 hbwt11
          replace cP0_0 := keepc hbwt11 cP0_0
          replace cP0_1 := keepc hbwt11 cP0_1
          replace cP1_0 := keepc hbwt11 cP1_0
          replace cP1_1 := keepc hbwt11 cP1_1
          replace cP1_2 := keepc hbwt11 cP1_2
          replace cP1_3 := keepc hbwt11 cP1_3
          refine hK.out _ _ ⟨cP0_0, cP0_1, cP1_0, cP1_1, cP1_2, cP1_3⟩ (fun hHeld3 => ?_)
          clear hK K hHeld2
          (try simp only [Act.put, List.getElem_toArray, List.getElem_cons_zero, List.getElem_cons_succ, List.setIfInBounds_toArray, List.set_cons_zero, List.set_cons_succ])
          refine wpAnyH_ready (rs := [5]) (by kernel_rfl) (by simp) ?_
          refine (AllReadyH.cons rfl (fun K hK => ?_) AllReadyH.nil)
          go_simp
          refine (toIl_any (.slice Aq2 nq2 cq2) x2 _ ((Sh.il 3).stab g2 Tk.block) hn2).mono ?_
          rintro e wt12 ⟨vn2, bn2, rfl, On2, In2, hbwt12⟩
          have Rn2 := (Sh.il 3).ord On2
          clear On2 In2
          go_wp2_with fail
          have ywt12 := hbwt12.size
          replace Tk := below_next Tk hbwt12 rfl
          replace Rn0 := stab_same Rn0 hbwt12
          replace Rn1 := stab_same Rn1 hbwt12
          replace Bwt11 := Bwt11.next hbwt12
          replace cP0_0 := keepc hbwt12 cP0_0
          replace cP0_1 := keepc hbwt12 cP0_1
          replace cP1_0 := keepc hbwt12 cP1_0
          replace cP1_1 := keepc hbwt12 cP1_1
          replace cP1_2 := keepc hbwt12 cP1_2
          replace cP1_3 := keepc hbwt12 cP1_3
          refine hK.out _ _ ⟨cP0_0, cP0_1, cP1_0, cP1_1, cP1_2, cP1_3⟩ (fun hHeld4 => ?_)
          clear hK K hHeld3
          (try simp only [Act.put, List.getElem_toArray, List.getElem_cons_zero, List.getElem_cons_succ, List.setIfInBounds_toArray, List.set_cons_zero, List.set_cons_succ])
          refine wpAnyH_ready (rs := [6]) (by kernel_rfl) (by simp) ?_
          refine (AllReadyH.cons rfl (fun K hK => ?_) AllReadyH.nil)
          go_simp
          refine (specRF_any csn0 csn1 vn2 x0 x1 x2 _ Rn0 Rn1 Rn2 hn1).mono ?_
          rintro e wt13 ⟨csw, blw, rfl, Ow, Iw, hbwt13⟩
          rw [HMO0.out] at Ow
          obtain ⟨AwEqLeft, nwEqLeft, cwEqLeft, AwEqRight, nwEqRight, cwEqRight, AwList, nwList, cwList, rfl, -, -, -, -⟩ := rdFact (shFact.ord Ow)
          rw [HMO1.out]
          go_wp2_with fail
          have ywt13 := hbwt13.size
          replace Tk := below_next Tk hbwt13 rfl
          replace Rn0 := stab_same Rn0 hbwt13
          replace Rn1 := stab_same Rn1 hbwt13
          replace Bwt11 := Bwt11.next hbwt13
          replace Rn2 := stab_same Rn2 hbwt13
          replace cP0_0 := keepc hbwt13 cP0_0
          replace cP0_1 := keepc hbwt13 cP0_1
          replace cP1_0 := keepc hbwt13 cP1_0
          replace cP1_1 := keepc hbwt13 cP1_1
          replace cP1_2 := keepc hbwt13 cP1_2
          replace cP1_3 := keepc hbwt13 cP1_3
          refine hK.out _ _ ⟨cP0_0, cP0_1, cP1_0, cP1_1, cP1_2, cP1_3⟩ (fun hHeld5 => ?_)
          clear hK K hHeld4
          (try simp only [Act.put, List.getElem_toArray, List.getElem_cons_zero, List.getElem_cons_succ, List.setIfInBounds_toArray, List.set_cons_zero, List.set_cons_succ])
          refine wpAnyH_take (i := 7) (v := .tuple #[.agg #[.int .i64 mo0.1, .slice AwEqLeft nwEqLeft cwEqLeft, .slice AwEqRight nwEqRight cwEqRight, .slice AwList nwList cwList], .bool mo1]) rfl (by kernel_rfl) (by kernel_rfl) (by kernel_rfl) (fun _ _ _ h => h) (Or.inl ⟨by kernel_rfl, fun _ _ => by go_simp⟩) (by assumption) ?_
          (try simp only [Act.put, List.getElem_toArray, List.getElem_cons_zero, List.getElem_cons_succ, List.setIfInBounds_toArray, List.set_cons_zero, List.set_cons_succ])
          refine wpAnyH_take (i := 8) (v := .agg #[.int .i64 mo0.1, .slice AwEqLeft nwEqLeft cwEqLeft, .slice AwEqRight nwEqRight cwEqRight, .slice AwList nwList cwList]) rfl (by kernel_rfl) (by kernel_rfl) (by kernel_rfl) (fun _ _ _ h => h) (Or.inl ⟨by kernel_rfl, fun _ _ => by go_simp⟩) (by assumption) ?_
          (try simp only [Act.put, List.getElem_toArray, List.getElem_cons_zero, List.getElem_cons_succ, List.setIfInBounds_toArray, List.set_cons_zero, List.set_cons_succ])
          refine wpAnyH_take (i := 9) (v := .bool mo1) rfl (by kernel_rfl) (by kernel_rfl) (by kernel_rfl) (fun _ _ _ h => h) (Or.inl ⟨by kernel_rfl, fun _ _ => by go_simp⟩) (by assumption) ?_
          (try simp only [Act.put, List.getElem_toArray, List.getElem_cons_zero, List.getElem_cons_succ, List.setIfInBounds_toArray, List.set_cons_zero, List.set_cons_succ])
          refine wpAnyH_ready (rs := [11]) (by kernel_rfl) (by simp) ?_
          refine (AllReadyH.cons rfl (fun K hK => ?_) AllReadyH.nil)
          have bC0 := Bwt11.cell 0
          have bC1 := Bwt11.cell 1
          have bC2 := Bwt11.cell 2
          have bC3 := Bwt11.cell 3
          simp only [List.getElem?_toArray, List.getElem?_cons_zero, List.getElem?_cons_succ] at bC0 bC1 bC2 bC3
          have bF0 := Bwt11.frozen 0
          have bF1 := Bwt11.frozen 1
          have bF2 := Bwt11.frozen 2
          have bF3 := Bwt11.frozen 3
          go_simp
          have hgn : wt3.heap.size ∉ blw := fun hh => by have := Iw.2 _ hh; omega
          have hgo : w3.heap.size ≤ wt3.heap.size := by omega
          obtain ⟨wt14, Hwt14⟩ : ∃ x, Hid (x = ((((wt13.setCell ⟨wt3.heap.size, 0, none⟩ (.int .i64 mo0.1)).setCell ⟨wt3.heap.size, 1, none⟩ (.slice AwEqLeft nwEqLeft cwEqLeft)).setCell ⟨wt3.heap.size, 2, none⟩ (.slice AwEqRight nwEqRight cwEqRight)).setCell ⟨wt3.heap.size, 3, none⟩ (.slice AwList nwList cwList))) := ⟨_, rfl⟩
          rw [← Hwt14.out]
          have BGf : Blk wt14 wt3.heap.size 34 #[.int .i64 mo0.1, .slice AwEqLeft nwEqLeft cwEqLeft, .slice AwEqRight nwEqRight cwEqRight, .slice AwList nwList cwList] := by rw [Hwt14.out]; simpa using (Blk.set_ (Blk.set_ (Blk.set_ (Blk.set_ Bwt11 0 (.int .i64 mo0.1)) 1 (.slice AwEqLeft nwEqLeft cwEqLeft)) 2 (.slice AwEqRight nwEqRight cwEqRight)) 3 (.slice AwList nwList cwList))
          have OGf : shFact.own wt14 [.int .i64 mo0.1, .slice AwEqLeft nwEqLeft cwEqLeft, .slice AwEqRight nwEqRight cwEqRight, .slice AwList nwList cwList] mo0 blw := by rw [Hwt14.out]; exact (Sh.oset' (p := ⟨wt3.heap.size, 3, none⟩) (Sh.oset' (p := ⟨wt3.heap.size, 2, none⟩) (Sh.oset' (p := ⟨wt3.heap.size, 1, none⟩) (Sh.oset' (p := ⟨wt3.heap.size, 0, none⟩) Ow hgn _) hgn _) hgn _) hgn _)
          have TGf : Below w3.heap.size w3 wt14 := by rw [Hwt14.out]; exact (Below.setCell (p := ⟨wt3.heap.size, 3, none⟩) (Below.setCell (p := ⟨wt3.heap.size, 2, none⟩) (Below.setCell (p := ⟨wt3.heap.size, 1, none⟩) (Below.setCell (p := ⟨wt3.heap.size, 0, none⟩) Tk (by exact hgo) _) (by exact hgo) _) (by exact hgo) _) (by exact hgo) _)
          replace cP0_0 := keepc TGf kcP0_0
          replace cP0_1 := keepc TGf kcP0_1
          replace cP1_0 := keepc TGf kcP1_0
          replace cP1_1 := keepc TGf kcP1_1
          replace cP1_2 := keepc TGf kcP1_2
          replace cP1_3 := keepc TGf kcP1_3
          refine hK.out _ _ ⟨cP0_0, cP0_1, cP1_0, cP1_1, cP1_2, cP1_3⟩ (fun hHeld6 => ?_)
          clear hK K hHeld5
          (try simp only [Act.put, List.getElem_toArray, List.getElem_cons_zero, List.getElem_cons_succ, List.setIfInBounds_toArray, List.set_cons_zero, List.set_cons_succ])
          refine wpAnyH_take (i := 12) (v := .bool mo1) rfl (by kernel_rfl) (by kernel_rfl) (by kernel_rfl) (fun _ _ _ h => h) (Or.inl ⟨by kernel_rfl, fun _ _ => by go_simp⟩) (by assumption) ?_
          (try simp only [Act.put, List.getElem_toArray, List.getElem_cons_zero, List.getElem_cons_succ, List.setIfInBounds_toArray, List.set_cons_zero, List.set_cons_succ])
          refine wpAnyH_done (by kernel_rfl) ?_ _
          go_wp2_with fail
          go_meet
          exact ⟨_, _, _, _, _, _, _, _, _, _, _, rfl, rfl, hgo, BGf, OGf, TGf⟩
      · go_simp
        obtain ⟨wt15, Hwt15⟩ : ∃ x, Hid (x = wt2.alloc (.cells #[.int .i64 0, .slice none 0 0, .slice none 0 0, .slice none 0 0] 34)) := ⟨_, rfl⟩
        rw [← Hwt15.out]
        have hbwt15 : Below wt2.heap.size wt2 wt15 := by rw [Hwt15.out]; exact below_box _ _
        have Bwt15 : Blk wt15 wt2.heap.size 34 #[.int .i64 0, .slice none 0 0, .slice none 0 0, .slice none 0 0] := by rw [Hwt15.out]; exact Blk.new _ _ _
        have zwt15 : wt2.heap.size < wt15.heap.size := Bwt15.lt
        have ywt15 := hbwt15.size
        replace Tk := below_next Tk hbwt15 rfl
        replace Rn0 := stab_same Rn0 hbwt15
        replace cP0_0 := keepc hbwt15 cP0_0
        replace cP0_1 := keepc hbwt15 cP0_1
        replace cP1_0 := keepc hbwt15 cP1_0
        replace cP1_1 := keepc hbwt15 cP1_1
        replace cP1_2 := keepc hbwt15 cP1_2
        replace cP1_3 := keepc hbwt15 cP1_3
        refine hK.out _ _ ⟨cP0_0, cP0_1, cP1_0, cP1_1, cP1_2, cP1_3⟩ (fun hHeld2 => ?_)
        clear hK K hHeld1
        (try simp only [Act.put, List.getElem_toArray, List.getElem_cons_zero, List.getElem_cons_succ, List.setIfInBounds_toArray, List.set_cons_zero, List.set_cons_succ])
        refine wpAnyH_ready (rs := [3]) (by kernel_rfl) (by simp) ?_
        refine (AllReadyH.cons rfl (fun K hK => ?_) AllReadyH.nil)
        go_simp
        refine (toFact_any [.int .i64 x1.1, .slice Aa1EqLeft na1EqLeft ca1EqLeft, .slice Aa1EqRight na1EqRight ca1EqRight, .slice Aa1List na1List ca1List] x1 _ (shFact.stab g1 Tk.block) hn1).mono ?_
        rintro e wt16 ⟨csn1, bn1, rfl, On1, In1, hbwt16⟩
        have Rn1 := shFact.ord On1
        clear On1 In1
        go_wp2_with fail
        have ywt16 := hbwt16.size
        replace Tk := below_next Tk hbwt16 rfl
        replace Rn0 := stab_same Rn0 hbwt16
        replace Bwt15 := Bwt15.next hbwt16
        replace cP0_0 := keepc hbwt16 cP0_0
        replace cP0_1 := keepc hbwt16 cP0_1
        replace cP1_0 := keepc hbwt16 cP1_0
        replace cP1_1 := keepc hbwt16 cP1_1
        replace cP1_2 := keepc hbwt16 cP1_2
        replace cP1_3 := keepc hbwt16 cP1_3
        refine hK.out _ _ ⟨cP0_0, cP0_1, cP1_0, cP1_1, cP1_2, cP1_3⟩ (fun hHeld3 => ?_)
        clear hK K hHeld2
        (try simp only [Act.put, List.getElem_toArray, List.getElem_cons_zero, List.getElem_cons_succ, List.setIfInBounds_toArray, List.set_cons_zero, List.set_cons_succ])
        refine wpAnyH_ready (rs := [5]) (by kernel_rfl) (by simp) ?_
        refine (AllReadyH.cons rfl (fun K hK => ?_) AllReadyH.nil)
        go_simp
        refine (toIl_any (.slice Aq2 nq2 cq2) x2 _ ((Sh.il 3).stab g2 Tk.block) hn2).mono ?_
        rintro e wt17 ⟨vn2, bn2, rfl, On2, In2, hbwt17⟩
        have Rn2 := (Sh.il 3).ord On2
        clear On2 In2
        go_wp2_with fail
        have ywt17 := hbwt17.size
        replace Tk := below_next Tk hbwt17 rfl
        replace Rn0 := stab_same Rn0 hbwt17
        replace Bwt15 := Bwt15.next hbwt17
        replace Rn1 := stab_same Rn1 hbwt17
        replace cP0_0 := keepc hbwt17 cP0_0
        replace cP0_1 := keepc hbwt17 cP0_1
        replace cP1_0 := keepc hbwt17 cP1_0
        replace cP1_1 := keepc hbwt17 cP1_1
        replace cP1_2 := keepc hbwt17 cP1_2
        replace cP1_3 := keepc hbwt17 cP1_3
        refine hK.out _ _ ⟨cP0_0, cP0_1, cP1_0, cP1_1, cP1_2, cP1_3⟩ (fun hHeld4 => ?_)
        clear hK K hHeld3
        (try simp only [Act.put, List.getElem_toArray, List.getElem_cons_zero, List.getElem_cons_succ, List.setIfInBounds_toArray, List.set_cons_zero, List.set_cons_succ])
        refine wpAnyH_ready (rs := [6]) (by kernel_rfl) (by simp) ?_
        refine (AllReadyH.cons rfl (fun K hK => ?_) AllReadyH.nil)
        go_simp
        refine (specRF_any csn0 csn1 vn2 x0 x1 x2 _ Rn0 Rn1 Rn2 hn1).mono ?_
        rintro e wt18 ⟨csw, blw, rfl, Ow, Iw, hbwt18⟩
        rw [HMO0.out] at Ow
        obtain ⟨AwEqLeft, nwEqLeft, cwEqLeft, AwEqRight, nwEqRight, cwEqRight, AwList, nwList, cwList, rfl, -, -, -, -⟩ := rdFact (shFact.ord Ow)
        rw [HMO1.out]
        go_wp2_with fail
        have ywt18 := hbwt18.size
        replace Tk := below_next Tk hbwt18 rfl
        replace Rn0 := stab_same Rn0 hbwt18
        replace Bwt15 := Bwt15.next hbwt18
        replace Rn1 := stab_same Rn1 hbwt18
        replace Rn2 := stab_same Rn2 hbwt18
        replace cP0_0 := keepc hbwt18 cP0_0
        replace cP0_1 := keepc hbwt18 cP0_1
        replace cP1_0 := keepc hbwt18 cP1_0
        replace cP1_1 := keepc hbwt18 cP1_1
        replace cP1_2 := keepc hbwt18 cP1_2
        replace cP1_3 := keepc hbwt18 cP1_3
        refine hK.out _ _ ⟨cP0_0, cP0_1, cP1_0, cP1_1, cP1_2, cP1_3⟩ (fun hHeld5 => ?_)
        clear hK K hHeld4
        (try simp only [Act.put, List.getElem_toArray, List.getElem_cons_zero, List.getElem_cons_succ, List.setIfInBounds_toArray, List.set_cons_zero, List.set_cons_succ])
        refine wpAnyH_take (i := 7) (v := .tuple #[.agg #[.int .i64 mo0.1, .slice AwEqLeft nwEqLeft cwEqLeft, .slice AwEqRight nwEqRight cwEqRight, .slice AwList nwList cwList], .bool mo1]) rfl (by kernel_rfl) (by kernel_rfl) (by kernel_rfl) (fun _ _ _ h => h) (Or.inl ⟨by kernel_rfl, fun _ _ => by go_simp⟩) (by assumption) ?_
        (try simp only [Act.put, List.getElem_toArray, List.getElem_cons_zero, List.getElem_cons_succ, List.setIfInBounds_toArray, List.set_cons_zero, List.set_cons_succ])
        refine wpAnyH_take (i := 8) (v := .agg #[.int .i64 mo0.1, .slice AwEqLeft nwEqLeft cwEqLeft, .slice AwEqRight nwEqRight cwEqRight, .slice AwList nwList cwList]) rfl (by kernel_rfl) (by kernel_rfl) (by kernel_rfl) (fun _ _ _ h => h) (Or.inl ⟨by kernel_rfl, fun _ _ => by go_simp⟩) (by assumption) ?_
        (try simp only [Act.put, List.getElem_toArray, List.getElem_cons_zero, List.getElem_cons_succ, List.setIfInBounds_toArray, List.set_cons_zero, List.set_cons_succ])
        refine wpAnyH_take (i := 9) (v := .bool mo1) rfl (by kernel_rfl) (by kernel_rfl) (by kernel_rfl) (fun _ _ _ h => h) (Or.inl ⟨by kernel_rfl, fun _ _ => by go_simp⟩) (by assumption) ?_
        (try simp only [Act.put, List.getElem_toArray, List.getElem_cons_zero, List.getElem_cons_succ, List.setIfInBounds_toArray, List.set_cons_zero, List.set_cons_succ])
        refine wpAnyH_ready (rs := [11]) (by kernel_rfl) (by simp) ?_
        refine (AllReadyH.cons rfl (fun K hK => ?_) AllReadyH.nil)
        have bC0 := Bwt15.cell 0
        have bC1 := Bwt15.cell 1
        have bC2 := Bwt15.cell 2
        have bC3 := Bwt15.cell 3
        simp only [List.getElem?_toArray, List.getElem?_cons_zero, List.getElem?_cons_succ] at bC0 bC1 bC2 bC3
        have bF0 := Bwt15.frozen 0
        have bF1 := Bwt15.frozen 1
        have bF2 := Bwt15.frozen 2
        have bF3 := Bwt15.frozen 3
        go_simp
        have hgn : wt2.heap.size ∉ blw := fun hh => by have := Iw.2 _ hh; omega
        have hgo : w3.heap.size ≤ wt2.heap.size := by omega
        obtain ⟨wt19, Hwt19⟩ : ∃ x, Hid (x = ((((wt18.setCell ⟨wt2.heap.size, 0, none⟩ (.int .i64 mo0.1)).setCell ⟨wt2.heap.size, 1, none⟩ (.slice AwEqLeft nwEqLeft cwEqLeft)).setCell ⟨wt2.heap.size, 2, none⟩ (.slice AwEqRight nwEqRight cwEqRight)).setCell ⟨wt2.heap.size, 3, none⟩ (.slice AwList nwList cwList))) := ⟨_, rfl⟩
        rw [← Hwt19.out]
        have BGf : Blk wt19 wt2.heap.size 34 #[.int .i64 mo0.1, .slice AwEqLeft nwEqLeft cwEqLeft, .slice AwEqRight nwEqRight cwEqRight, .slice AwList nwList cwList] := by rw [Hwt19.out]; simpa using (Blk.set_ (Blk.set_ (Blk.set_ (Blk.set_ Bwt15 0 (.int .i64 mo0.1)) 1 (.slice AwEqLeft nwEqLeft cwEqLeft)) 2 (.slice AwEqRight nwEqRight cwEqRight)) 3 (.slice AwList nwList cwList))
        have OGf : shFact.own wt19 [.int .i64 mo0.1, .slice AwEqLeft nwEqLeft cwEqLeft, .slice AwEqRight nwEqRight cwEqRight, .slice AwList nwList cwList] mo0 blw := by rw [Hwt19.out]; exact (Sh.oset' (p := ⟨wt2.heap.size, 3, none⟩) (Sh.oset' (p := ⟨wt2.heap.size, 2, none⟩) (Sh.oset' (p := ⟨wt2.heap.size, 1, none⟩) (Sh.oset' (p := ⟨wt2.heap.size, 0, none⟩) Ow hgn _) hgn _) hgn _) hgn _)
        have TGf : Below w3.heap.size w3 wt19 := by rw [Hwt19.out]; exact (Below.setCell (p := ⟨wt2.heap.size, 3, none⟩) (Below.setCell (p := ⟨wt2.heap.size, 2, none⟩) (Below.setCell (p := ⟨wt2.heap.size, 1, none⟩) (Below.setCell (p := ⟨wt2.heap.size, 0, none⟩) Tk (by exact hgo) _) (by exact hgo) _) (by exact hgo) _) (by exact hgo) _)
        replace cP0_0 := keepc TGf kcP0_0
        replace cP0_1 := keepc TGf kcP0_1
        replace cP1_0 := keepc TGf kcP1_0
        replace cP1_1 := keepc TGf kcP1_1
        replace cP1_2 := keepc TGf kcP1_2
        replace cP1_3 := keepc TGf kcP1_3
        refine hK.out _ _ ⟨cP0_0, cP0_1, cP1_0, cP1_1, cP1_2, cP1_3⟩ (fun hHeld6 => ?_)
        clear hK K hHeld5
        (try simp only [Act.put, List.getElem_toArray, List.getElem_cons_zero, List.getElem_cons_succ, List.setIfInBounds_toArray, List.set_cons_zero, List.set_cons_succ])
        refine wpAnyH_take (i := 12) (v := .bool mo1) rfl (by kernel_rfl) (by kernel_rfl) (by kernel_rfl) (fun _ _ _ h => h) (Or.inl ⟨by kernel_rfl, fun _ _ => by go_simp⟩) (by assumption) ?_
        (try simp only [Act.put, List.getElem_toArray, List.getElem_cons_zero, List.getElem_cons_succ, List.setIfInBounds_toArray, List.set_cons_zero, List.set_cons_succ])
        refine wpAnyH_done (by kernel_rfl) ?_ _
        go_wp2_with fail
        go_meet
        exact ⟨_, _, _, _, _, _, _, _, _, _, _, rfl, rfl, hgo, BGf, OGf, TGf⟩
    · go_simp
      obtain ⟨wt20, Hwt20⟩ : ∃ x, Hid (x = wt1.alloc (.cells #[.int .i64 0, .slice none 0 0, .slice none 0 0, .slice none 0 0] 34)) := ⟨_, rfl⟩
      rw [← Hwt20.out]
      have hbwt20 : Below wt1.heap.size wt1 wt20 := by rw [Hwt20.out]; exact below_box _ _
      have Bwt20 : Blk wt20 wt1.heap.size 34 #[.int .i64 0, .slice none 0 0, .slice none 0 0, .slice none 0 0] := by rw [Hwt20.out]; exact Blk.new _ _ _
      have zwt20 : wt1.heap.size < wt20.heap.size := Bwt20.lt
      have ywt20 := hbwt20.size
      replace Tk := below_next Tk hbwt20 rfl
      replace cP0_0 := keepc hbwt20 cP0_0
      replace cP0_1 := keepc hbwt20 cP0_1
      replace cP1_0 := keepc hbwt20 cP1_0
      replace cP1_1 := keepc hbwt20 cP1_1
      replace cP1_2 := keepc hbwt20 cP1_2
      replace cP1_3 := keepc hbwt20 cP1_3
      refine hK.out _ _ ⟨cP0_0, cP0_1, cP1_0, cP1_1, cP1_2, cP1_3⟩ (fun hHeld1 => ?_)
      clear hK K hHeld0
      (try simp only [Act.put, List.getElem_toArray, List.getElem_cons_zero, List.getElem_cons_succ, List.setIfInBounds_toArray, List.set_cons_zero, List.set_cons_succ])
      refine wpAnyH_ready (rs := [1]) (by kernel_rfl) (by simp) ?_
      refine (AllReadyH.cons rfl (fun K hK => ?_) AllReadyH.nil)
      go_simp
      refine (toAlgebra_any [.int .i64 x0.1, .slice Aa0Ops na0Ops ca0Ops] x0 _ (shAlgebra.stab g0 Tk.block) hn0).mono ?_
      rintro e wt21 ⟨csn0, bn0, rfl, On0, In0, hbwt21⟩
      have Rn0 := shAlgebra.ord On0
      clear On0 In0
      go_wp2_with fail
      have ywt21 := hbwt21.size
      replace Tk := below_next Tk hbwt21 rfl
      replace Bwt20 := Bwt20.next hbwt21
      replace cP0_0 := keepc hbwt21 cP0_0
      replace cP0_1 := keepc hbwt21 cP0_1
      replace cP1_0 := keepc hbwt21 cP1_0
      replace cP1_1 := keepc hbwt21 cP1_1
      replace cP1_2 := keepc hbwt21 cP1_2
      replace cP1_3 := keepc hbwt21 cP1_3
      refine hK.out _ _ ⟨cP0_0, cP0_1, cP1_0, cP1_1, cP1_2, cP1_3⟩ (fun hHeld2 => ?_)
      clear hK K hHeld1
      (try simp only [Act.put, List.getElem_toArray, List.getElem_cons_zero, List.getElem_cons_succ, List.setIfInBounds_toArray, List.set_cons_zero, List.set_cons_succ])
      refine wpAnyH_ready (rs := [3]) (by kernel_rfl) (by simp) ?_
      refine (AllReadyH.cons rfl (fun K hK => ?_) AllReadyH.nil)
      go_simp
      refine (toFact_any [.int .i64 x1.1, .slice Aa1EqLeft na1EqLeft ca1EqLeft, .slice Aa1EqRight na1EqRight ca1EqRight, .slice Aa1List na1List ca1List] x1 _ (shFact.stab g1 Tk.block) hn1).mono ?_
      rintro e wt22 ⟨csn1, bn1, rfl, On1, In1, hbwt22⟩
      have Rn1 := shFact.ord On1
      clear On1 In1
      go_wp2_with fail
      have ywt22 := hbwt22.size
      replace Tk := below_next Tk hbwt22 rfl
      replace Bwt20 := Bwt20.next hbwt22
      replace Rn0 := stab_same Rn0 hbwt22
      replace cP0_0 := keepc hbwt22 cP0_0
      replace cP0_1 := keepc hbwt22 cP0_1
      replace cP1_0 := keepc hbwt22 cP1_0
      replace cP1_1 := keepc hbwt22 cP1_1
      replace cP1_2 := keepc hbwt22 cP1_2
      replace cP1_3 := keepc hbwt22 cP1_3
      refine hK.out _ _ ⟨cP0_0, cP0_1, cP1_0, cP1_1, cP1_2, cP1_3⟩ (fun hHeld3 => ?_)
      clear hK K hHeld2
      (try simp only [Act.put, List.getElem_toArray, List.getElem_cons_zero, List.getElem_cons_succ, List.setIfInBounds_toArray, List.set_cons_zero, List.set_cons_succ])
      refine wpAnyH_ready (rs := [5]) (by kernel_rfl) (by simp) ?_
      refine (AllReadyH.cons rfl (fun K hK => ?_) AllReadyH.nil)
      go_simp
      refine (toIl_any (.slice Aq2 nq2 cq2) x2 _ ((Sh.il 3).stab g2 Tk.block) hn2).mono ?_
      rintro e wt23 ⟨vn2, bn2, rfl, On2, In2, hbwt23⟩
      have Rn2 := (Sh.il 3).ord On2
      clear On2 In2
      go_wp2_with fail
      have ywt23 := hbwt23.size
      replace Tk := below_next Tk hbwt23 rfl
      replace Bwt20 := Bwt20.next hbwt23
      replace Rn0 := stab_same Rn0 hbwt23
      replace Rn1 := stab_same Rn1 hbwt23
      replace cP0_0 := keepc hbwt23 cP0_0
      replace cP0_1 := keepc hbwt23 cP0_1
      replace cP1_0 := keepc hbwt23 cP1_0
      replace cP1_1 := keepc hbwt23 cP1_1
      replace cP1_2 := keepc hbwt23 cP1_2
      replace cP1_3 := keepc hbwt23 cP1_3
      refine hK.out _ _ ⟨cP0_0, cP0_1, cP1_0, cP1_1, cP1_2, cP1_3⟩ (fun hHeld4 => ?_)
      clear hK K hHeld3
      (try simp only [Act.put, List.getElem_toArray, List.getElem_cons_zero, List.getElem_cons_succ, List.setIfInBounds_toArray, List.set_cons_zero, List.set_cons_succ])
      refine wpAnyH_ready (rs := [6]) (by kernel_rfl) (by simp) ?_
      refine (AllReadyH.cons rfl (fun K hK => ?_) AllReadyH.nil)
      go_simp
      refine (specRF_any csn0 csn1 vn2 x0 x1 x2 _ Rn0 Rn1 Rn2 hn1).mono ?_
      rintro e wt24 ⟨csw, blw, rfl, Ow, Iw, hbwt24⟩
      rw [HMO0.out] at Ow
      obtain ⟨AwEqLeft, nwEqLeft, cwEqLeft, AwEqRight, nwEqRight, cwEqRight, AwList, nwList, cwList, rfl, -, -, -, -⟩ := rdFact (shFact.ord Ow)
      rw [HMO1.out]
      go_wp2_with fail
      have ywt24 := hbwt24.size
      replace Tk := below_next Tk hbwt24 rfl
      replace Bwt20 := Bwt20.next hbwt24
      replace Rn0 := stab_same Rn0 hbwt24
      replace Rn1 := stab_same Rn1 hbwt24
      replace Rn2 := stab_same Rn2 hbwt24
      replace cP0_0 := keepc hbwt24 cP0_0
      replace cP0_1 := keepc hbwt24 cP0_1
      replace cP1_0 := keepc hbwt24 cP1_0
      replace cP1_1 := keepc hbwt24 cP1_1
      replace cP1_2 := keepc hbwt24 cP1_2
      replace cP1_3 := keepc hbwt24 cP1_3
      refine hK.out _ _ ⟨cP0_0, cP0_1, cP1_0, cP1_1, cP1_2, cP1_3⟩ (fun hHeld5 => ?_)
      clear hK K hHeld4
      (try simp only [Act.put, List.getElem_toArray, List.getElem_cons_zero, List.getElem_cons_succ, List.setIfInBounds_toArray, List.set_cons_zero, List.set_cons_succ])
      refine wpAnyH_take (i := 7) (v := .tuple #[.agg #[.int .i64 mo0.1, .slice AwEqLeft nwEqLeft cwEqLeft, .slice AwEqRight nwEqRight cwEqRight, .slice AwList nwList cwList], .bool mo1]) rfl (by kernel_rfl) (by kernel_rfl) (by kernel_rfl) (fun _ _ _ h => h) (Or.inl ⟨by kernel_rfl, fun _ _ => by go_simp⟩) (by assumption) ?_
      (try simp only [Act.put, List.getElem_toArray, List.getElem_cons_zero, List.getElem_cons_succ, List.setIfInBounds_toArray, List.set_cons_zero, List.set_cons_succ])
      refine wpAnyH_take (i := 8) (v := .agg #[.int .i64 mo0.1, .slice AwEqLeft nwEqLeft cwEqLeft, .slice AwEqRight nwEqRight cwEqRight, .slice AwList nwList cwList]) rfl (by kernel_rfl) (by kernel_rfl) (by kernel_rfl) (fun _ _ _ h => h) (Or.inl ⟨by kernel_rfl, fun _ _ => by go_simp⟩) (by assumption) ?_
      (try simp only [Act.put, List.getElem_toArray, List.getElem_cons_zero, List.getElem_cons_succ, List.setIfInBounds_toArray, List.set_cons_zero, List.set_cons_succ])
      refine wpAnyH_take (i := 9) (v := .bool mo1) rfl (by kernel_rfl) (by kernel_rfl) (by kernel_rfl) (fun _ _ _ h => h) (Or.inl ⟨by kernel_rfl, fun _ _ => by go_simp⟩) (by assumption) ?_
      (try simp only [Act.put, List.getElem_toArray, List.getElem_cons_zero, List.getElem_cons_succ, List.setIfInBounds_toArray, List.set_cons_zero, List.set_cons_succ])
      refine wpAnyH_ready (rs := [11]) (by kernel_rfl) (by simp) ?_
      refine (AllReadyH.cons rfl (fun K hK => ?_) AllReadyH.nil)
      have bC0 := Bwt20.cell 0
      have bC1 := Bwt20.cell 1
      have bC2 := Bwt20.cell 2
      have bC3 := Bwt20.cell 3
      simp only [List.getElem?_toArray, List.getElem?_cons_zero, List.getElem?_cons_succ] at bC0 bC1 bC2 bC3
      have bF0 := Bwt20.frozen 0
      have bF1 := Bwt20.frozen 1
      have bF2 := Bwt20.frozen 2
      have bF3 := Bwt20.frozen 3
      go_simp
      have hgn : wt1.heap.size ∉ blw := fun hh => by have := Iw.2 _ hh; omega
      have hgo : w3.heap.size ≤ wt1.heap.size := by omega
      obtain ⟨wt25, Hwt25⟩ : ∃ x, Hid (x = ((((wt24.setCell ⟨wt1.heap.size, 0, none⟩ (.int .i64 mo0.1)).setCell ⟨wt1.heap.size, 1, none⟩ (.slice AwEqLeft nwEqLeft cwEqLeft)).setCell ⟨wt1.heap.size, 2, none⟩ (.slice AwEqRight nwEqRight cwEqRight)).setCell ⟨wt1.heap.size, 3, none⟩ (.slice AwList nwList cwList))) := ⟨_, rfl⟩
      rw [← Hwt25.out]
      have BGf : Blk wt25 wt1.heap.size 34 #[.int .i64 mo0.1, .slice AwEqLeft nwEqLeft cwEqLeft, .slice AwEqRight nwEqRight cwEqRight, .slice AwList nwList cwList] := by rw [Hwt25.out]; simpa using (Blk.set_ (Blk.set_ (Blk.set_ (Blk.set_ Bwt20 0 (.int .i64 mo0.1)) 1 (.slice AwEqLeft nwEqLeft cwEqLeft)) 2 (.slice AwEqRight nwEqRight cwEqRight)) 3 (.slice AwList nwList cwList))
      have OGf : shFact.own wt25 [.int .i64 mo0.1, .slice AwEqLeft nwEqLeft cwEqLeft, .slice AwEqRight nwEqRight cwEqRight, .slice AwList nwList cwList] mo0 blw := by rw [Hwt25.out]; exact (Sh.oset' (p := ⟨wt1.heap.size, 3, none⟩) (Sh.oset' (p := ⟨wt1.heap.size, 2, none⟩) (Sh.oset' (p := ⟨wt1.heap.size, 1, none⟩) (Sh.oset' (p := ⟨wt1.heap.size, 0, none⟩) Ow hgn _) hgn _) hgn _) hgn _)
      have TGf : Below w3.heap.size w3 wt25 := by rw [Hwt25.out]; exact (Below.setCell (p := ⟨wt1.heap.size, 3, none⟩) (Below.setCell (p := ⟨wt1.heap.size, 2, none⟩) (Below.setCell (p := ⟨wt1.heap.size, 1, none⟩) (Below.setCell (p := ⟨wt1.heap.size, 0, none⟩) Tk (by exact hgo) _) (by exact hgo) _) (by exact hgo) _) (by exact hgo) _)
      replace cP0_0 := keepc TGf kcP0_0
      replace cP0_1 := keepc TGf kcP0_1
      replace cP1_0 := keepc TGf kcP1_0
      replace cP1_1 := keepc TGf kcP1_1
      replace cP1_2 := keepc TGf kcP1_2
      replace cP1_3 := keepc TGf kcP1_3
      refine hK.out _ _ ⟨cP0_0, cP0_1, cP1_0, cP1_1, cP1_2, cP1_3⟩ (fun hHeld6 => ?_)
      clear hK K hHeld5
      (try simp only [Act.put, List.getElem_toArray, List.getElem_cons_zero, List.getElem_cons_succ, List.setIfInBounds_toArray, List.set_cons_zero, List.set_cons_succ])
      refine wpAnyH_take (i := 12) (v := .bool mo1) rfl (by kernel_rfl) (by kernel_rfl) (by kernel_rfl) (fun _ _ _ h => h) (Or.inl ⟨by kernel_rfl, fun _ _ => by go_simp⟩) (by assumption) ?_
      (try simp only [Act.put, List.getElem_toArray, List.getElem_cons_zero, List.getElem_cons_succ, List.setIfInBounds_toArray, List.set_cons_zero, List.set_cons_succ])
      refine wpAnyH_done (by kernel_rfl) ?_ _
      go_wp2_with fail
      go_meet
      exact ⟨_, _, _, _, _, _, _, _, _, _, _, rfl, rfl, hgo, BGf, OGf, TGf⟩
  case rest =>
    obtain ⟨gw, AwEqLeft, AwEqRight, AwList, nwEqLeft, cwEqLeft, nwEqRight, cwEqRight, nwList, cwList, blw, rfl, rfl, hgow, Bw, Ow, hb4⟩ := hcut
    obtain ⟨w4, HWC⟩ : ∃ wq : World, wq = wc := ⟨_, rfl⟩
    subst HWC
    have ygw : gw < w4.heap.size := Bw.lt
    have zw4 : w3.heap.size ≤ w4.heap.size := hb4.size
    replace T0 := below_next T0 hb4 rfl
    replace P0 := P0.next hb4
    replace P1 := P1.next hb4
    clear hb4 Tk cP0_0 cP0_1 cP1_0 cP1_1 cP1_2 cP1_3 kcP0_0 kcP0_1 kcP1_0 kcP1_1 kcP1_2 kcP1_3
    have Rw := shFact.ord Ow
    clear g0
    clear g1
    clear g2
    have Tw : Below w4.heap.size w4 w4 := Below.refl _ _
    have cP0_0 := P0.cell 0
    have cP0_1 := P0.cell 1
    have cP1_0 := P1.cell 0
    have cP1_1 := P1.cell 1
    have cP1_2 := P1.cell 2
    have cP1_3 := P1.cell 3
    have cBw_0 := Bw.cell 0
    have cBw_1 := Bw.cell 1
    have cBw_2 := Bw.cell 2
    have cBw_3 := Bw.cell 3
    simp only [List.getElem?_toArray, List.getElem?_cons_zero, List.getElem?_cons_succ] at cP0_0 cP0_1 cP1_0 cP1_1 cP1_2 cP1_3 cBw_0 cBw_1 cBw_2 cBw_3
    go_wp2_with fail
    clear cP0_0 cP0_1 cP1_0 cP1_1 cP1_2 cP1_3 cBw_0 cBw_1 cBw_2 cBw_3
    refine (toAlgebra_any [.int .i64 x0.1, .slice Aa0Ops na0Ops ca0Ops] x0 _ (shAlgebra.stab h0 T0.block) hn0).mono ?_
    rintro e w5 ⟨csx0, blx0, rfl, Ox0, Ix0, hb5⟩
    have zw5 : w4.heap.size ≤ w5.heap.size := hb5.size
    replace T0 := below_next T0 hb5 rfl
    replace Tw := below_next Tw hb5 rfl
    replace P0 := P0.next hb5
    replace P1 := P1.next hb5
    replace Bw := Bw.next hb5
    clear hb5
    obtain ⟨Ax0Ops, nx0Ops, cx0Ops, rfl, -, -⟩ := rdAlgebra (shAlgebra.ord Ox0)
    obtain ⟨w6, HW6⟩ : ∃ wb, Hid (wb = w5.alloc (.cells #[.int .i64 x0.1, .slice Ax0Ops nx0Ops cx0Ops] 39)) := ⟨_, rfl⟩
    have hb6 : Below w5.heap.size w5 w6 := by rw [HW6.out]; exact below_box _ _
    have X0 : Blk w6 w5.heap.size 39 #[.int .i64 x0.1, .slice Ax0Ops nx0Ops cx0Ops] := by rw [HW6.out]; exact Blk.new _ _ _
    have yw6 : w5.heap.size < w6.heap.size := X0.lt
    have zw6 : w5.heap.size ≤ w6.heap.size := hb6.size
    replace T0 := below_next T0 hb6 rfl
    replace Tw := below_next Tw hb6 rfl
    replace Ox0 := Sh.onext Ox0 hb6
    replace P0 := P0.next hb6
    replace P1 := P1.next hb6
    replace Bw := Bw.next hb6
    clear hb6
    have cP0_0 := P0.cell 0
    have cP0_1 := P0.cell 1
    have cP1_0 := P1.cell 0
    have cP1_1 := P1.cell 1
    have cP1_2 := P1.cell 2
    have cP1_3 := P1.cell 3
    have cBw_0 := Bw.cell 0
    have cBw_1 := Bw.cell 1
    have cBw_2 := Bw.cell 2
    have cBw_3 := Bw.cell 3
    have cX0_0 := X0.cell 0
    have cX0_1 := X0.cell 1
    simp only [List.getElem?_toArray, List.getElem?_cons_zero, List.getElem?_cons_succ] at cP0_0 cP0_1 cP1_0 cP1_1 cP1_2 cP1_3 cBw_0 cBw_1 cBw_2 cBw_3 cX0_0 cX0_1
    rw [HW6.out] at cP0_0
    rw [HW6.out] at cP0_1
    rw [HW6.out] at cP1_0
    rw [HW6.out] at cP1_1
    rw [HW6.out] at cP1_2
    rw [HW6.out] at cP1_3
    rw [HW6.out] at cBw_0
    rw [HW6.out] at cBw_1
    rw [HW6.out] at cBw_2
    rw [HW6.out] at cBw_3
    rw [HW6.out] at cX0_0
    rw [HW6.out] at cX0_1
    go_wp2_with fail
    rw [← HW6.out]
    clear cP0_0 cP0_1 cP1_0 cP1_1 cP1_2 cP1_3 cBw_0 cBw_1 cBw_2 cBw_3 cX0_0 cX0_1
    refine (toFact_any [.int .i64 x1.1, .slice Aa1EqLeft na1EqLeft ca1EqLeft, .slice Aa1EqRight na1EqRight ca1EqRight, .slice Aa1List na1List ca1List] x1 _ (shFact.stab h1 T0.block) hn1).mono ?_
    rintro e w7 ⟨csx1, blx1, rfl, Ox1, Ix1, hb7⟩
    have zw7 : w6.heap.size ≤ w7.heap.size := hb7.size
    replace T0 := below_next T0 hb7 rfl
    replace Tw := below_next Tw hb7 rfl
    replace Ox0 := Sh.onext Ox0 hb7
    replace P0 := P0.next hb7
    replace P1 := P1.next hb7
    replace Bw := Bw.next hb7
    replace X0 := X0.next hb7
    clear hb7
    obtain ⟨Ax1EqLeft, nx1EqLeft, cx1EqLeft, Ax1EqRight, nx1EqRight, cx1EqRight, Ax1List, nx1List, cx1List, rfl, -, -, -, -⟩ := rdFact (shFact.ord Ox1)
    obtain ⟨w8, HW8⟩ : ∃ wb, Hid (wb = w7.alloc (.cells #[.int .i64 x1.1, .slice Ax1EqLeft nx1EqLeft cx1EqLeft, .slice Ax1EqRight nx1EqRight cx1EqRight, .slice Ax1List nx1List cx1List] 34)) := ⟨_, rfl⟩
    have hb8 : Below w7.heap.size w7 w8 := by rw [HW8.out]; exact below_box _ _
    have X1 : Blk w8 w7.heap.size 34 #[.int .i64 x1.1, .slice Ax1EqLeft nx1EqLeft cx1EqLeft, .slice Ax1EqRight nx1EqRight cx1EqRight, .slice Ax1List nx1List cx1List] := by rw [HW8.out]; exact Blk.new _ _ _
    have yw8 : w7.heap.size < w8.heap.size := X1.lt
    have zw8 : w7.heap.size ≤ w8.heap.size := hb8.size
    replace T0 := below_next T0 hb8 rfl
    replace Tw := below_next Tw hb8 rfl
    replace Ox0 := Sh.onext Ox0 hb8
    replace Ox1 := Sh.onext Ox1 hb8
    replace P0 := P0.next hb8
    replace P1 := P1.next hb8
    replace Bw := Bw.next hb8
    replace X0 := X0.next hb8
    clear hb8
    have cP0_0 := P0.cell 0
    have cP0_1 := P0.cell 1
    have cP1_0 := P1.cell 0
    have cP1_1 := P1.cell 1
    have cP1_2 := P1.cell 2
    have cP1_3 := P1.cell 3
    have cBw_0 := Bw.cell 0
    have cBw_1 := Bw.cell 1
    have cBw_2 := Bw.cell 2
    have cBw_3 := Bw.cell 3
    have cX0_0 := X0.cell 0
    have cX0_1 := X0.cell 1
    have cX1_0 := X1.cell 0
    have cX1_1 := X1.cell 1
    have cX1_2 := X1.cell 2
    have cX1_3 := X1.cell 3
    simp only [List.getElem?_toArray, List.getElem?_cons_zero, List.getElem?_cons_succ] at cP0_0 cP0_1 cP1_0 cP1_1 cP1_2 cP1_3 cBw_0 cBw_1 cBw_2 cBw_3 cX0_0 cX0_1 cX1_0 cX1_1 cX1_2 cX1_3
    rw [HW8.out] at cP0_0
    rw [HW8.out] at cP0_1
    rw [HW8.out] at cP1_0
    rw [HW8.out] at cP1_1
    rw [HW8.out] at cP1_2
    rw [HW8.out] at cP1_3
    rw [HW8.out] at cBw_0
    rw [HW8.out] at cBw_1
    rw [HW8.out] at cBw_2
    rw [HW8.out] at cBw_3
    rw [HW8.out] at cX0_0
    rw [HW8.out] at cX0_1
    rw [HW8.out] at cX1_0
    rw [HW8.out] at cX1_1
    rw [HW8.out] at cX1_2
    rw [HW8.out] at cX1_3
    go_wp2_with fail
    rw [← HW8.out]
    clear cP0_0 cP0_1 cP1_0 cP1_1 cP1_2 cP1_3 cBw_0 cBw_1 cBw_2 cBw_3 cX0_0 cX0_1 cX1_0 cX1_1 cX1_2 cX1_3
    refine (toIl_any (.slice Aq2 nq2 cq2) x2 _ ((Sh.il 3).stab h2 T0.block) hn2).mono ?_
    rintro e w9 ⟨vx2, blx2, rfl, Ox2, Ix2, hb9⟩
    have zw9 : w8.heap.size ≤ w9.heap.size := hb9.size
    replace T0 := below_next T0 hb9 rfl
    replace Tw := below_next Tw hb9 rfl
    replace Ox0 := Sh.onext Ox0 hb9
    replace Ox1 := Sh.onext Ox1 hb9
    replace P0 := P0.next hb9
    replace P1 := P1.next hb9
    replace Bw := Bw.next hb9
    replace X0 := X0.next hb9
    replace X1 := X1.next hb9
    clear hb9
    have cP0_0 := P0.cell 0
    have cP0_1 := P0.cell 1
    have cP1_0 := P1.cell 0
    have cP1_1 := P1.cell 1
    have cP1_2 := P1.cell 2
    have cP1_3 := P1.cell 3
    have cBw_0 := Bw.cell 0
    have cBw_1 := Bw.cell 1
    have cBw_2 := Bw.cell 2
    have cBw_3 := Bw.cell 3
    have cX0_0 := X0.cell 0
    have cX0_1 := X0.cell 1
    have cX1_0 := X1.cell 0
    have cX1_1 := X1.cell 1
    have cX1_2 := X1.cell 2
    have cX1_3 := X1.cell 3
    simp only [List.getElem?_toArray, List.getElem?_cons_zero, List.getElem?_cons_succ] at cP0_0 cP0_1 cP1_0 cP1_1 cP1_2 cP1_3 cBw_0 cBw_1 cBw_2 cBw_3 cX0_0 cX0_1 cX1_0 cX1_1 cX1_2 cX1_3
    go_wp2_with fail
    clear cP0_0 cP0_1 cP1_0 cP1_1 cP1_2 cP1_3 cBw_0 cBw_1 cBw_2 cBw_3 cX0_0 cX0_1 cX1_0 cX1_1 cX1_2 cX1_3
    refine (implRF_any [.int .i64 x0.1, .slice Ax0Ops nx0Ops cx0Ops] [.int .i64 x1.1, .slice Ax1EqLeft nx1EqLeft cx1EqLeft, .slice Ax1EqRight nx1EqRight cx1EqRight, .slice Ax1List nx1List cx1List] vx2 x0 x1 x2 _ (shAlgebra.ord Ox0) (shFact.ord Ox1) ((Sh.il 3).ord Ox2) hn1).mono ?_
    rintro e w10 ⟨csg, blg, rfl, Og, Ig, hb10⟩
    rw [HMO1.out]
    have zw10 : w9.heap.size ≤ w10.heap.size := hb10.size
    replace T0 := below_next T0 hb10 rfl
    replace Tw := below_next Tw hb10 rfl
    replace Ox0 := Sh.onext Ox0 hb10
    replace Ox1 := Sh.onext Ox1 hb10
    replace Ox2 := Sh.onext Ox2 hb10
    replace P0 := P0.next hb10
    replace P1 := P1.next hb10
    replace Bw := Bw.next hb10
    replace X0 := X0.next hb10
    replace X1 := X1.next hb10
    clear hb10
    rw [HMO0.out] at Og
    obtain ⟨AgEqLeft, ngEqLeft, cgEqLeft, AgEqRight, ngEqRight, cgEqRight, AgList, ngList, cgList, rfl, -, -, -, -⟩ := rdFact (shFact.ord Og)
    obtain ⟨w11, HW11⟩ : ∃ wb, Hid (wb = w10.alloc (.cells #[.int .i64 mo0.1, .slice AgEqLeft ngEqLeft cgEqLeft, .slice AgEqRight ngEqRight cgEqRight, .slice AgList ngList cgList] 34)) := ⟨_, rfl⟩
    have hb11 : Below w10.heap.size w10 w11 := by rw [HW11.out]; exact below_box _ _
    have Bg : Blk w11 w10.heap.size 34 #[.int .i64 mo0.1, .slice AgEqLeft ngEqLeft cgEqLeft, .slice AgEqRight ngEqRight cgEqRight, .slice AgList ngList cgList] := by rw [HW11.out]; exact Blk.new _ _ _
    have yw11 : w10.heap.size < w11.heap.size := Bg.lt
    have zw11 : w10.heap.size ≤ w11.heap.size := hb11.size
    replace T0 := below_next T0 hb11 rfl
    replace Tw := below_next Tw hb11 rfl
    replace Ox0 := Sh.onext Ox0 hb11
    replace Ox1 := Sh.onext Ox1 hb11
    replace Ox2 := Sh.onext Ox2 hb11
    replace Og := Sh.onext Og hb11
    replace P0 := P0.next hb11
    replace P1 := P1.next hb11
    replace Bw := Bw.next hb11
    replace X0 := X0.next hb11
    replace X1 := X1.next hb11
    clear hb11
    have cP0_0 := P0.cell 0
    have cP0_1 := P0.cell 1
    have cP1_0 := P1.cell 0
    have cP1_1 := P1.cell 1
    have cP1_2 := P1.cell 2
    have cP1_3 := P1.cell 3
    have cBw_0 := Bw.cell 0
    have cBw_1 := Bw.cell 1
    have cBw_2 := Bw.cell 2
    have cBw_3 := Bw.cell 3
    have cX0_0 := X0.cell 0
    have cX0_1 := X0.cell 1
    have cX1_0 := X1.cell 0
    have cX1_1 := X1.cell 1
    have cX1_2 := X1.cell 2
    have cX1_3 := X1.cell 3
    have cBg_0 := Bg.cell 0
    have cBg_1 := Bg.cell 1
    have cBg_2 := Bg.cell 2
    have cBg_3 := Bg.cell 3
    simp only [List.getElem?_toArray, List.getElem?_cons_zero, List.getElem?_cons_succ] at cP0_0 cP0_1 cP1_0 cP1_1 cP1_2 cP1_3 cBw_0 cBw_1 cBw_2 cBw_3 cX0_0 cX0_1 cX1_0 cX1_1 cX1_2 cX1_3 cBg_0 cBg_1 cBg_2 cBg_3
    rw [HW11.out] at cP0_0
    rw [HW11.out] at cP0_1
    rw [HW11.out] at cP1_0
    rw [HW11.out] at cP1_1
    rw [HW11.out] at cP1_2
    rw [HW11.out] at cP1_3
    rw [HW11.out] at cBw_0
    rw [HW11.out] at cBw_1
    rw [HW11.out] at cBw_2
    rw [HW11.out] at cBw_3
    rw [HW11.out] at cX0_0
    rw [HW11.out] at cX0_1
    rw [HW11.out] at cX1_0
    rw [HW11.out] at cX1_1
    rw [HW11.out] at cX1_2
    rw [HW11.out] at cX1_3
    rw [HW11.out] at cBg_0
    rw [HW11.out] at cBg_1
    rw [HW11.out] at cBg_2
    rw [HW11.out] at cBg_3
    go_wp2_with fail
    rw [← HW11.out]
    clear cP0_0 cP0_1 cP1_0 cP1_1 cP1_2 cP1_3 cBw_0 cBw_1 cBw_2 cBw_3 cX0_0 cX0_1 cX1_0 cX1_1 cX1_2 cX1_3 cBg_0 cBg_1 cBg_2 cBg_3
    refine (eqFact_any [.int .i64 mo0.1, .slice AgEqLeft ngEqLeft cgEqLeft, .slice AgEqRight ngEqRight cgEqRight, .slice AgList ngList cgList] [.int .i64 mo0.1, .slice AwEqLeft nwEqLeft cwEqLeft, .slice AwEqRight nwEqRight cwEqRight, .slice AwList nwList cwList] mo0 mo0 _ (shFact.ord Og) (shFact.stab Rw Tw.block)).mono ?_
    rintro e w12 ⟨rfl, hb12⟩
    rw [eqC_self]
    have zw12 : w11.heap.size ≤ w12.heap.size := hb12.size
    replace T0 := below_next T0 hb12 rfl
    replace Tw := below_next Tw hb12 rfl
    replace Ox0 := Sh.onext Ox0 hb12
    replace Ox1 := Sh.onext Ox1 hb12
    replace Ox2 := Sh.onext Ox2 hb12
    replace Og := Sh.onext Og hb12
    replace P0 := P0.next hb12
    replace P1 := P1.next hb12
    replace Bw := Bw.next hb12
    replace X0 := X0.next hb12
    replace X1 := X1.next hb12
    replace Bg := Bg.next hb12
    clear hb12
    have g0 := (shAlgebra.stab h0 T0.block)
    have Rx0 := shAlgebra.ord Ox0
    have cP0_0 := P0.cell 0
    have cP0_1 := P0.cell 1
    have cP1_0 := P1.cell 0
    have cP1_1 := P1.cell 1
    have cP1_2 := P1.cell 2
    have cP1_3 := P1.cell 3
    have cBw_0 := Bw.cell 0
    have cBw_1 := Bw.cell 1
    have cBw_2 := Bw.cell 2
    have cBw_3 := Bw.cell 3
    have cX0_0 := X0.cell 0
    have cX0_1 := X0.cell 1
    have cX1_0 := X1.cell 0
    have cX1_1 := X1.cell 1
    have cX1_2 := X1.cell 2
    have cX1_3 := X1.cell 3
    have cBg_0 := Bg.cell 0
    have cBg_1 := Bg.cell 1
    have cBg_2 := Bg.cell 2
    have cBg_3 := Bg.cell 3
    simp only [List.getElem?_toArray, List.getElem?_cons_zero, List.getElem?_cons_succ] at cP0_0 cP0_1 cP1_0 cP1_1 cP1_2 cP1_3 cBw_0 cBw_1 cBw_2 cBw_3 cX0_0 cX0_1 cX1_0 cX1_1 cX1_2 cX1_3 cBg_0 cBg_1 cBg_2 cBg_3
    go_upto_region 17 with fail
    clear cP0_0 cP0_1 cP1_0 cP1_1 cP1_2 cP1_3 cBw_0 cBw_1 cBw_2 cBw_3 cX0_0 cX0_1 cX1_0 cX1_1 cX1_2 cX1_3 cBg_0 cBg_1 cBg_2 cBg_3
    have cP0_0 := P0.cell 0
    have cP0_1 := P0.cell 1
    have cP1_0 := P1.cell 0
    have cP1_1 := P1.cell 1
    have cP1_2 := P1.cell 2
    have cP1_3 := P1.cell 3
    have cBw_0 := Bw.cell 0
    have cBw_1 := Bw.cell 1
    have cBw_2 := Bw.cell 2
    have cBw_3 := Bw.cell 3
    have cX0_0 := X0.cell 0
    have cX0_1 := X0.cell 1
    have cX1_0 := X1.cell 0
    have cX1_1 := X1.cell 1
    have cX1_2 := X1.cell 2
    have cX1_3 := X1.cell 3
    have cBg_0 := Bg.cell 0
    have cBg_1 := Bg.cell 1
    have cBg_2 := Bg.cell 2
    have cBg_3 := Bg.cell 3
    simp only [List.getElem?_toArray, List.getElem?_cons_zero, List.getElem?_cons_succ] at cP0_0 cP0_1 cP1_0 cP1_1 cP1_2 cP1_3 cBw_0 cBw_1 cBw_2 cBw_3 cX0_0 cX0_1 cX1_0 cX1_1 cX1_2 cX1_3 cBg_0 cBg_1 cBg_2 cBg_3
    have Tk : Below w12.heap.size w12 w12 := Below.refl _ _
    go_region_held3 (fun w' => w'.cell? ⟨w.heap.size, 0, none⟩ = some (.int .i64 x0.1) ∧ w'.cell? ⟨w.heap.size, 1, none⟩ = some (.slice Aa0Ops na0Ops ca0Ops) ∧ w'.cell? ⟨(w.heap.size + 1), 0, none⟩ = some (.int .i64 x1.1) ∧ w'.cell? ⟨(w.heap.size + 1), 1, none⟩ = some (.slice Aa1EqLeft na1EqLeft ca1EqLeft) ∧ w'.cell? ⟨(w.heap.size + 1), 2, none⟩ = some (.slice Aa1EqRight na1EqRight ca1EqRight) ∧ w'.cell? ⟨(w.heap.size + 1), 3, none⟩ = some (.slice Aa1List na1List ca1List) ∧ w'.cell? ⟨gw, 0, none⟩ = some (.int .i64 mo0.1) ∧ w'.cell? ⟨gw, 1, none⟩ = some (.slice AwEqLeft nwEqLeft cwEqLeft) ∧ w'.cell? ⟨gw, 2, none⟩ = some (.slice AwEqRight nwEqRight cwEqRight) ∧ w'.cell? ⟨gw, 3, none⟩ = some (.slice AwList nwList cwList) ∧ w'.cell? ⟨w5.heap.size, 0, none⟩ = some (.int .i64 x0.1) ∧ w'.cell? ⟨w5.heap.size, 1, none⟩ = some (.slice Ax0Ops nx0Ops cx0Ops) ∧ w'.cell? ⟨w7.heap.size, 0, none⟩ = some (.int .i64 x1.1) ∧ w'.cell? ⟨w7.heap.size, 1, none⟩ = some (.slice Ax1EqLeft nx1EqLeft cx1EqLeft) ∧ w'.cell? ⟨w7.heap.size, 2, none⟩ = some (.slice Ax1EqRight nx1EqRight cx1EqRight) ∧ w'.cell? ⟨w7.heap.size, 3, none⟩ = some (.slice Ax1List nx1List cx1List) ∧ w'.cell? ⟨w10.heap.size, 0, none⟩ = some (.int .i64 mo0.1) ∧ w'.cell? ⟨w10.heap.size, 1, none⟩ = some (.slice AgEqLeft ngEqLeft cgEqLeft) ∧ w'.cell? ⟨w10.heap.size, 2, none⟩ = some (.slice AgEqRight ngEqRight cgEqRight) ∧ w'.cell? ⟨w10.heap.size, 3, none⟩ = some (.slice AgList ngList cgList)) (first | go_keep | exact ⟨keepc Tk cP0_0, keepc Tk cP0_1, keepc Tk cP1_0, keepc Tk cP1_1, keepc Tk cP1_2, keepc Tk cP1_3, keepc Tk cBw_0, keepc Tk cBw_1, keepc Tk cBw_2, keepc Tk cBw_3, keepc Tk cX0_0, keepc Tk cX0_1, keepc Tk cX1_0, keepc Tk cX1_1, keepc Tk cX1_2, keepc Tk cX1_3, keepc Tk cBg_0, keepc Tk cBg_1, keepc Tk cBg_2, keepc Tk cBg_3⟩) (first | (go_at_call 7; refine (toAlgebra_any [.int .i64 x0.1, .slice Aa0Ops na0Ops ca0Ops] x0 _ (shAlgebra.stab g0 (by first | exact Tk.block | exact (Below.drew Tk).block)) hn0).mono ?_; rintro e wn ⟨csn0, bn0, rfl, On, In, hbn⟩; have Rn0 := shAlgebra.ord On; clear On In; replace Tk := below_next (by first | exact Tk | exact Below.drew Tk) hbn rfl) | (go_at_call 12; refine (eqAlgebra_any [.int .i64 x0.1, .slice Ax0Ops nx0Ops cx0Ops] csn0 x0 x0 _ (shAlgebra.stab Rx0 (by first | exact Tk.block | exact (Below.drew Tk).block)) (by first | exact Rn0 | exact shAlgebra.stab Rn0 (below_drewN (Below.refl _ _) 1).block)).mono ?_; rintro e w13 ⟨rfl, hbn⟩; replace Tk := below_next (by first | exact Tk | exact Below.drew Tk) hbn rfl; rw [eqC_self]))
    have hb13 := Tk
    have zw13 : w12.heap.size ≤ w13.heap.size := hb13.size
    replace T0 := below_next T0 hb13 rfl
    replace Tw := below_next Tw hb13 rfl
    replace Ox0 := Sh.onext Ox0 hb13
    replace Ox1 := Sh.onext Ox1 hb13
    replace Ox2 := Sh.onext Ox2 hb13
    replace Og := Sh.onext Og hb13
    replace P0 := P0.next hb13
    replace P1 := P1.next hb13
    replace Bw := Bw.next hb13
    replace X0 := X0.next hb13
    replace X1 := X1.next hb13
    replace Bg := Bg.next hb13
    clear hb13 Tk cP0_0 cP0_1 cP1_0 cP1_1 cP1_2 cP1_3 cBw_0 cBw_1 cBw_2 cBw_3 cX0_0 cX0_1 cX1_0 cX1_1 cX1_2 cX1_3 cBg_0 cBg_1 cBg_2 cBg_3
    clear g0 Rx0
    try clear Rn0 hbn
    have g1 := (shFact.stab h1 T0.block)
    have Rx1 := shFact.ord Ox1
    have cP0_0 := P0.cell 0
    have cP0_1 := P0.cell 1
    have cP1_0 := P1.cell 0
    have cP1_1 := P1.cell 1
    have cP1_2 := P1.cell 2
    have cP1_3 := P1.cell 3
    have cBw_0 := Bw.cell 0
    have cBw_1 := Bw.cell 1
    have cBw_2 := Bw.cell 2
    have cBw_3 := Bw.cell 3
    have cX0_0 := X0.cell 0
    have cX0_1 := X0.cell 1
    have cX1_0 := X1.cell 0
    have cX1_1 := X1.cell 1
    have cX1_2 := X1.cell 2
    have cX1_3 := X1.cell 3
    have cBg_0 := Bg.cell 0
    have cBg_1 := Bg.cell 1
    have cBg_2 := Bg.cell 2
    have cBg_3 := Bg.cell 3
    simp only [List.getElem?_toArray, List.getElem?_cons_zero, List.getElem?_cons_succ] at cP0_0 cP0_1 cP1_0 cP1_1 cP1_2 cP1_3 cBw_0 cBw_1 cBw_2 cBw_3 cX0_0 cX0_1 cX1_0 cX1_1 cX1_2 cX1_3 cBg_0 cBg_1 cBg_2 cBg_3
    go_upto_region 19 with fail
    clear cP0_0 cP0_1 cP1_0 cP1_1 cP1_2 cP1_3 cBw_0 cBw_1 cBw_2 cBw_3 cX0_0 cX0_1 cX1_0 cX1_1 cX1_2 cX1_3 cBg_0 cBg_1 cBg_2 cBg_3
    have cP0_0 := P0.cell 0
    have cP0_1 := P0.cell 1
    have cP1_0 := P1.cell 0
    have cP1_1 := P1.cell 1
    have cP1_2 := P1.cell 2
    have cP1_3 := P1.cell 3
    have cBw_0 := Bw.cell 0
    have cBw_1 := Bw.cell 1
    have cBw_2 := Bw.cell 2
    have cBw_3 := Bw.cell 3
    have cX0_0 := X0.cell 0
    have cX0_1 := X0.cell 1
    have cX1_0 := X1.cell 0
    have cX1_1 := X1.cell 1
    have cX1_2 := X1.cell 2
    have cX1_3 := X1.cell 3
    have cBg_0 := Bg.cell 0
    have cBg_1 := Bg.cell 1
    have cBg_2 := Bg.cell 2
    have cBg_3 := Bg.cell 3
    simp only [List.getElem?_toArray, List.getElem?_cons_zero, List.getElem?_cons_succ] at cP0_0 cP0_1 cP1_0 cP1_1 cP1_2 cP1_3 cBw_0 cBw_1 cBw_2 cBw_3 cX0_0 cX0_1 cX1_0 cX1_1 cX1_2 cX1_3 cBg_0 cBg_1 cBg_2 cBg_3
    have Tk : Below w13.heap.size w13 w13 := Below.refl _ _
    go_region_held3 (fun w' => w'.cell? ⟨w.heap.size, 0, none⟩ = some (.int .i64 x0.1) ∧ w'.cell? ⟨w.heap.size, 1, none⟩ = some (.slice Aa0Ops na0Ops ca0Ops) ∧ w'.cell? ⟨(w.heap.size + 1), 0, none⟩ = some (.int .i64 x1.1) ∧ w'.cell? ⟨(w.heap.size + 1), 1, none⟩ = some (.slice Aa1EqLeft na1EqLeft ca1EqLeft) ∧ w'.cell? ⟨(w.heap.size + 1), 2, none⟩ = some (.slice Aa1EqRight na1EqRight ca1EqRight) ∧ w'.cell? ⟨(w.heap.size + 1), 3, none⟩ = some (.slice Aa1List na1List ca1List) ∧ w'.cell? ⟨gw, 0, none⟩ = some (.int .i64 mo0.1) ∧ w'.cell? ⟨gw, 1, none⟩ = some (.slice AwEqLeft nwEqLeft cwEqLeft) ∧ w'.cell? ⟨gw, 2, none⟩ = some (.slice AwEqRight nwEqRight cwEqRight) ∧ w'.cell? ⟨gw, 3, none⟩ = some (.slice AwList nwList cwList) ∧ w'.cell? ⟨w5.heap.size, 0, none⟩ = some (.int .i64 x0.1) ∧ w'.cell? ⟨w5.heap.size, 1, none⟩ = some (.slice Ax0Ops nx0Ops cx0Ops) ∧ w'.cell? ⟨w7.heap.size, 0, none⟩ = some (.int .i64 x1.1) ∧ w'.cell? ⟨w7.heap.size, 1, none⟩ = some (.slice Ax1EqLeft nx1EqLeft cx1EqLeft) ∧ w'.cell? ⟨w7.heap.size, 2, none⟩ = some (.slice Ax1EqRight nx1EqRight cx1EqRight) ∧ w'.cell? ⟨w7.heap.size, 3, none⟩ = some (.slice Ax1List nx1List cx1List) ∧ w'.cell? ⟨w10.heap.size, 0, none⟩ = some (.int .i64 mo0.1) ∧ w'.cell? ⟨w10.heap.size, 1, none⟩ = some (.slice AgEqLeft ngEqLeft cgEqLeft) ∧ w'.cell? ⟨w10.heap.size, 2, none⟩ = some (.slice AgEqRight ngEqRight cgEqRight) ∧ w'.cell? ⟨w10.heap.size, 3, none⟩ = some (.slice AgList ngList cgList)) (first | go_keep | exact ⟨keepc Tk cP0_0, keepc Tk cP0_1, keepc Tk cP1_0, keepc Tk cP1_1, keepc Tk cP1_2, keepc Tk cP1_3, keepc Tk cBw_0, keepc Tk cBw_1, keepc Tk cBw_2, keepc Tk cBw_3, keepc Tk cX0_0, keepc Tk cX0_1, keepc Tk cX1_0, keepc Tk cX1_1, keepc Tk cX1_2, keepc Tk cX1_3, keepc Tk cBg_0, keepc Tk cBg_1, keepc Tk cBg_2, keepc Tk cBg_3⟩) (first | (go_at_call 8; refine (toFact_any [.int .i64 x1.1, .slice Aa1EqLeft na1EqLeft ca1EqLeft, .slice Aa1EqRight na1EqRight ca1EqRight, .slice Aa1List na1List ca1List] x1 _ (shFact.stab g1 (by first | exact Tk.block | exact (Below.drew Tk).block)) hn1).mono ?_; rintro e wn ⟨csn1, bn1, rfl, On, In, hbn⟩; have Rn1 := shFact.ord On; clear On In; replace Tk := below_next (by first | exact Tk | exact Below.drew Tk) hbn rfl) | (go_at_call 11; refine (eqFact_any [.int .i64 x1.1, .slice Ax1EqLeft nx1EqLeft cx1EqLeft, .slice Ax1EqRight nx1EqRight cx1EqRight, .slice Ax1List nx1List cx1List] csn1 x1 x1 _ (shFact.stab Rx1 (by first | exact Tk.block | exact (Below.drew Tk).block)) (by first | exact Rn1 | exact shFact.stab Rn1 (below_drewN (Below.refl _ _) 1).block)).mono ?_; rintro e w14 ⟨rfl, hbn⟩; replace Tk := below_next (by first | exact Tk | exact Below.drew Tk) hbn rfl; rw [eqC_self]))
    have hb14 := Tk
    have zw14 : w13.heap.size ≤ w14.heap.size := hb14.size
    replace T0 := below_next T0 hb14 rfl
    replace Tw := below_next Tw hb14 rfl
    replace Ox0 := Sh.onext Ox0 hb14
    replace Ox1 := Sh.onext Ox1 hb14
    replace Ox2 := Sh.onext Ox2 hb14
    replace Og := Sh.onext Og hb14
    replace P0 := P0.next hb14
    replace P1 := P1.next hb14
    replace Bw := Bw.next hb14
    replace X0 := X0.next hb14
    replace X1 := X1.next hb14
    replace Bg := Bg.next hb14
    clear hb14 Tk cP0_0 cP0_1 cP1_0 cP1_1 cP1_2 cP1_3 cBw_0 cBw_1 cBw_2 cBw_3 cX0_0 cX0_1 cX1_0 cX1_1 cX1_2 cX1_3 cBg_0 cBg_1 cBg_2 cBg_3
    clear g1 Rx1
    try clear Rn1 hbn
    have cP0_0 := P0.cell 0
    have cP0_1 := P0.cell 1
    have cP1_0 := P1.cell 0
    have cP1_1 := P1.cell 1
    have cP1_2 := P1.cell 2
    have cP1_3 := P1.cell 3
    have cBw_0 := Bw.cell 0
    have cBw_1 := Bw.cell 1
    have cBw_2 := Bw.cell 2
    have cBw_3 := Bw.cell 3
    have cX0_0 := X0.cell 0
    have cX0_1 := X0.cell 1
    have cX1_0 := X1.cell 0
    have cX1_1 := X1.cell 1
    have cX1_2 := X1.cell 2
    have cX1_3 := X1.cell 3
    have cBg_0 := Bg.cell 0
    have cBg_1 := Bg.cell 1
    have cBg_2 := Bg.cell 2
    have cBg_3 := Bg.cell 3
    simp only [List.getElem?_toArray, List.getElem?_cons_zero, List.getElem?_cons_succ] at cP0_0 cP0_1 cP1_0 cP1_1 cP1_2 cP1_3 cBw_0 cBw_1 cBw_2 cBw_3 cX0_0 cX0_1 cX1_0 cX1_1 cX1_2 cX1_3 cBg_0 cBg_1 cBg_2 cBg_3
    go_wp2_with fail
    clear cP0_0 cP0_1 cP1_0 cP1_1 cP1_2 cP1_3 cBw_0 cBw_1 cBw_2 cBw_3 cX0_0 cX0_1 cX1_0 cX1_1 cX1_2 cX1_3 cBg_0 cBg_1 cBg_2 cBg_3
    refine (toIl_any (.slice Aq2 nq2 cq2) x2 _ ((Sh.il 3).stab h2 T0.block) hn2).mono ?_
    rintro e w15 ⟨vy2, bly2, rfl, Oy2, Iy2, hb15⟩
    have zw15 : w14.heap.size ≤ w15.heap.size := hb15.size
    replace T0 := below_next T0 hb15 rfl
    replace Tw := below_next Tw hb15 rfl
    replace Ox0 := Sh.onext Ox0 hb15
    replace Ox1 := Sh.onext Ox1 hb15
    replace Ox2 := Sh.onext Ox2 hb15
    replace Og := Sh.onext Og hb15
    replace P0 := P0.next hb15
    replace P1 := P1.next hb15
    replace Bw := Bw.next hb15
    replace X0 := X0.next hb15
    replace X1 := X1.next hb15
    replace Bg := Bg.next hb15
    clear hb15
    have cP0_0 := P0.cell 0
    have cP0_1 := P0.cell 1
    have cP1_0 := P1.cell 0
    have cP1_1 := P1.cell 1
    have cP1_2 := P1.cell 2
    have cP1_3 := P1.cell 3
    have cBw_0 := Bw.cell 0
    have cBw_1 := Bw.cell 1
    have cBw_2 := Bw.cell 2
    have cBw_3 := Bw.cell 3
    have cX0_0 := X0.cell 0
    have cX0_1 := X0.cell 1
    have cX1_0 := X1.cell 0
    have cX1_1 := X1.cell 1
    have cX1_2 := X1.cell 2
    have cX1_3 := X1.cell 3
    have cBg_0 := Bg.cell 0
    have cBg_1 := Bg.cell 1
    have cBg_2 := Bg.cell 2
    have cBg_3 := Bg.cell 3
    simp only [List.getElem?_toArray, List.getElem?_cons_zero, List.getElem?_cons_succ] at cP0_0 cP0_1 cP1_0 cP1_1 cP1_2 cP1_3 cBw_0 cBw_1 cBw_2 cBw_3 cX0_0 cX0_1 cX1_0 cX1_1 cX1_2 cX1_3 cBg_0 cBg_1 cBg_2 cBg_3
    go_wp2_with fail
    clear cP0_0 cP0_1 cP1_0 cP1_1 cP1_2 cP1_3 cBw_0 cBw_1 cBw_2 cBw_3 cX0_0 cX0_1 cX1_0 cX1_1 cX1_2 cX1_3 cBg_0 cBg_1 cBg_2 cBg_3
    refine (eqIl_any vx2 vy2 x2 x2 _ ((Sh.il 3).ord Ox2) ((Sh.il 3).ord Oy2)).mono ?_
    rintro e w16 ⟨rfl, hb16⟩
    rw [eqC_self]
    have zw16 : w15.heap.size ≤ w16.heap.size := hb16.size
    replace T0 := below_next T0 hb16 rfl
    replace Tw := below_next Tw hb16 rfl
    replace Ox0 := Sh.onext Ox0 hb16
    replace Ox1 := Sh.onext Ox1 hb16
    replace Ox2 := Sh.onext Ox2 hb16
    replace Og := Sh.onext Og hb16
    replace Oy2 := Sh.onext Oy2 hb16
    replace P0 := P0.next hb16
    replace P1 := P1.next hb16
    replace Bw := Bw.next hb16
    replace X0 := X0.next hb16
    replace X1 := X1.next hb16
    replace Bg := Bg.next hb16
    clear hb16
    clear Oy2 Iy2
    have k0_0 : (0 : Int) ≤ 1 := by omega
    have hm0 : msAlgebra x0 ≤ 4194304 := mcle_stAlgebra hn0
    have cP0_0 := P0.cell 0
    have cP0_1 := P0.cell 1
    have cP1_0 := P1.cell 0
    have cP1_1 := P1.cell 1
    have cP1_2 := P1.cell 2
    have cP1_3 := P1.cell 3
    have cBw_0 := Bw.cell 0
    have cBw_1 := Bw.cell 1
    have cBw_2 := Bw.cell 2
    have cBw_3 := Bw.cell 3
    have cX0_0 := X0.cell 0
    have cX0_1 := X0.cell 1
    have cX1_0 := X1.cell 0
    have cX1_1 := X1.cell 1
    have cX1_2 := X1.cell 2
    have cX1_3 := X1.cell 3
    have cBg_0 := Bg.cell 0
    have cBg_1 := Bg.cell 1
    have cBg_2 := Bg.cell 2
    have cBg_3 := Bg.cell 3
    simp only [List.getElem?_toArray, List.getElem?_cons_zero, List.getElem?_cons_succ] at cP0_0 cP0_1 cP1_0 cP1_1 cP1_2 cP1_3 cBw_0 cBw_1 cBw_2 cBw_3 cX0_0 cX0_1 cX1_0 cX1_1 cX1_2 cX1_3 cBg_0 cBg_1 cBg_2 cBg_3
    go_wp2_with fail
    clear cP0_0 cP0_1 cP1_0 cP1_1 cP1_2 cP1_3 cBw_0 cBw_1 cBw_2 cBw_3 cX0_0 cX0_1 cX1_0 cX1_1 cX1_2 cX1_3 cBg_0 cBg_1 cBg_2 cBg_3
    refine (markAlgebra_any [.int .i64 x0.1, .slice Ax0Ops nx0Ops cx0Ops] x0 blx0 (1) _ Ox0 Ix0.1 (by omega) (by omega)).mono ?_
    rintro e w17 ⟨rfl, -, hb17⟩
    have hg17 := hb17.chg (lo := w4.heap.size) (hi := w5.heap.size) Ix0.2
    have zw17 : w16.heap.size ≤ w17.heap.size := hg17.size
    replace T0 := T0.trans (hg17.below (by omega) (by have := T0.size; omega))
    replace Tw := Tw.trans (hg17.below (by omega) (by have := Tw.size; omega))
    replace Ox1 := Sh.okept Ox1 Ix1 hg17 (by omega)
    replace Ox2 := Sh.okept Ox2 Ix2 hg17 (by omega)
    replace Og := Sh.okept Og Ig hg17 (by omega)
    replace P0 := P0.chg' hg17 (by omega)
    replace P1 := P1.chg' hg17 (by omega)
    replace Bw := Bw.chg' hg17 (by omega)
    replace X0 := X0.chg' hg17 (by omega)
    replace X1 := X1.chg' hg17 (by omega)
    replace Bg := Bg.chg' hg17 (by omega)
    clear hb17 hg17
    clear Ox0
    have hm1 : msFactA x1 ≤ 4194304 := mcle_stFact hn1
    have cP0_0 := P0.cell 0
    have cP0_1 := P0.cell 1
    have cP1_0 := P1.cell 0
    have cP1_1 := P1.cell 1
    have cP1_2 := P1.cell 2
    have cP1_3 := P1.cell 3
    have cBw_0 := Bw.cell 0
    have cBw_1 := Bw.cell 1
    have cBw_2 := Bw.cell 2
    have cBw_3 := Bw.cell 3
    have cX0_0 := X0.cell 0
    have cX0_1 := X0.cell 1
    have cX1_0 := X1.cell 0
    have cX1_1 := X1.cell 1
    have cX1_2 := X1.cell 2
    have cX1_3 := X1.cell 3
    have cBg_0 := Bg.cell 0
    have cBg_1 := Bg.cell 1
    have cBg_2 := Bg.cell 2
    have cBg_3 := Bg.cell 3
    simp only [List.getElem?_toArray, List.getElem?_cons_zero, List.getElem?_cons_succ] at cP0_0 cP0_1 cP1_0 cP1_1 cP1_2 cP1_3 cBw_0 cBw_1 cBw_2 cBw_3 cX0_0 cX0_1 cX1_0 cX1_1 cX1_2 cX1_3 cBg_0 cBg_1 cBg_2 cBg_3
    go_wp2_with fail
    clear cP0_0 cP0_1 cP1_0 cP1_1 cP1_2 cP1_3 cBw_0 cBw_1 cBw_2 cBw_3 cX0_0 cX0_1 cX1_0 cX1_1 cX1_2 cX1_3 cBg_0 cBg_1 cBg_2 cBg_3
    refine (markFact_any [.int .i64 x1.1, .slice Ax1EqLeft nx1EqLeft cx1EqLeft, .slice Ax1EqRight nx1EqRight cx1EqRight, .slice Ax1List nx1List cx1List] x1 blx1 (1 + ((msAlgebra x0 : Nat) : Int)) _ Ox1 Ix1.1 (by omega) (by omega)).mono ?_
    rintro e w18 ⟨rfl, -, hb18⟩
    have hg18 := hb18.chg (lo := w6.heap.size) (hi := w7.heap.size) Ix1.2
    have zw18 : w17.heap.size ≤ w18.heap.size := hg18.size
    replace T0 := T0.trans (hg18.below (by omega) (by have := T0.size; omega))
    replace Tw := Tw.trans (hg18.below (by omega) (by have := Tw.size; omega))
    replace Ox2 := Sh.okept Ox2 Ix2 hg18 (by omega)
    replace Og := Sh.okept Og Ig hg18 (by omega)
    replace P0 := P0.chg' hg18 (by omega)
    replace P1 := P1.chg' hg18 (by omega)
    replace Bw := Bw.chg' hg18 (by omega)
    replace X0 := X0.chg' hg18 (by omega)
    replace X1 := X1.chg' hg18 (by omega)
    replace Bg := Bg.chg' hg18 (by omega)
    clear hb18 hg18
    clear Ox1
    have hm2 : x2.length ≤ 4194304 := by have := hn2; exact Nat.le_trans this (by decide)
    have cP0_0 := P0.cell 0
    have cP0_1 := P0.cell 1
    have cP1_0 := P1.cell 0
    have cP1_1 := P1.cell 1
    have cP1_2 := P1.cell 2
    have cP1_3 := P1.cell 3
    have cBw_0 := Bw.cell 0
    have cBw_1 := Bw.cell 1
    have cBw_2 := Bw.cell 2
    have cBw_3 := Bw.cell 3
    have cX0_0 := X0.cell 0
    have cX0_1 := X0.cell 1
    have cX1_0 := X1.cell 0
    have cX1_1 := X1.cell 1
    have cX1_2 := X1.cell 2
    have cX1_3 := X1.cell 3
    have cBg_0 := Bg.cell 0
    have cBg_1 := Bg.cell 1
    have cBg_2 := Bg.cell 2
    have cBg_3 := Bg.cell 3
    simp only [List.getElem?_toArray, List.getElem?_cons_zero, List.getElem?_cons_succ] at cP0_0 cP0_1 cP1_0 cP1_1 cP1_2 cP1_3 cBw_0 cBw_1 cBw_2 cBw_3 cX0_0 cX0_1 cX1_0 cX1_1 cX1_2 cX1_3 cBg_0 cBg_1 cBg_2 cBg_3
    go_wp2_with fail
    clear cP0_0 cP0_1 cP1_0 cP1_1 cP1_2 cP1_3 cBw_0 cBw_1 cBw_2 cBw_3 cX0_0 cX0_1 cX1_0 cX1_1 cX1_2 cX1_3 cBg_0 cBg_1 cBg_2 cBg_3
    refine (markIl_any vx2 x2 blx2 (1 + ((msAlgebra x0 : Nat) : Int) + ((msFactA x1 : Nat) : Int)) _ Ox2 (by omega) (by omega)).mono ?_
    rintro e w19 ⟨rfl, -, hb19⟩
    have hg19 := hb19.chg (lo := w8.heap.size) (hi := w9.heap.size) Ix2.2
    have zw19 : w18.heap.size ≤ w19.heap.size := hg19.size
    replace T0 := T0.trans (hg19.below (by omega) (by have := T0.size; omega))
    replace Tw := Tw.trans (hg19.below (by omega) (by have := Tw.size; omega))
    replace Og := Sh.okept Og Ig hg19 (by omega)
    replace P0 := P0.chg' hg19 (by omega)
    replace P1 := P1.chg' hg19 (by omega)
    replace Bw := Bw.chg' hg19 (by omega)
    replace X0 := X0.chg' hg19 (by omega)
    replace X1 := X1.chg' hg19 (by omega)
    replace Bg := Bg.chg' hg19 (by omega)
    clear hb19 hg19
    clear Ox2
    have hk0 : ¬ (1 + ((msAlgebra x0 : Nat) : Int) + ((msFactA x1 : Nat) : Int) + ((x2.length : Nat) : Int) < (0 : Int)) := by omega
    have cP0_0 := P0.cell 0
    have cP0_1 := P0.cell 1
    have cP1_0 := P1.cell 0
    have cP1_1 := P1.cell 1
    have cP1_2 := P1.cell 2
    have cP1_3 := P1.cell 3
    have cBw_0 := Bw.cell 0
    have cBw_1 := Bw.cell 1
    have cBw_2 := Bw.cell 2
    have cBw_3 := Bw.cell 3
    have cX0_0 := X0.cell 0
    have cX0_1 := X0.cell 1
    have cX1_0 := X1.cell 0
    have cX1_1 := X1.cell 1
    have cX1_2 := X1.cell 2
    have cX1_3 := X1.cell 3
    have cBg_0 := Bg.cell 0
    have cBg_1 := Bg.cell 1
    have cBg_2 := Bg.cell 2
    have cBg_3 := Bg.cell 3
    simp only [List.getElem?_toArray, List.getElem?_cons_zero, List.getElem?_cons_succ] at cP0_0 cP0_1 cP1_0 cP1_1 cP1_2 cP1_3 cBw_0 cBw_1 cBw_2 cBw_3 cX0_0 cX0_1 cX1_0 cX1_1 cX1_2 cX1_3 cBg_0 cBg_1 cBg_2 cBg_3
    go_wp2_with fail
    clear cP0_0 cP0_1 cP1_0 cP1_1 cP1_2 cP1_3 cBw_0 cBw_1 cBw_2 cBw_3 cX0_0 cX0_1 cX1_0 cX1_1 cX1_2 cX1_3 cBg_0 cBg_1 cBg_2 cBg_3
    refine (eqFact_any [.int .i64 mo0.1, .slice AgEqLeft ngEqLeft cgEqLeft, .slice AgEqRight ngEqRight cgEqRight, .slice AgList ngList cgList] [.int .i64 mo0.1, .slice AwEqLeft nwEqLeft cwEqLeft, .slice AwEqRight nwEqRight cwEqRight, .slice AwList nwList cwList] mo0 mo0 _ (shFact.ord Og) (shFact.stab Rw Tw.block)).mono ?_
    rintro e w20 ⟨rfl, hb20⟩
    rw [eqC_self]
    have zw20 : w19.heap.size ≤ w20.heap.size := hb20.size
    replace T0 := below_next T0 hb20 rfl
    replace Tw := below_next Tw hb20 rfl
    replace Og := Sh.onext Og hb20
    replace P0 := P0.next hb20
    replace P1 := P1.next hb20
    replace Bw := Bw.next hb20
    replace X0 := X0.next hb20
    replace X1 := X1.next hb20
    replace Bg := Bg.next hb20
    clear hb20
    have hmr : msFactA mo0 ≤ 4194304 := by rw [← HMO0.out]; exact mcle_stFact (rfR_cnt hn1)
    have cP0_0 := P0.cell 0
    have cP0_1 := P0.cell 1
    have cP1_0 := P1.cell 0
    have cP1_1 := P1.cell 1
    have cP1_2 := P1.cell 2
    have cP1_3 := P1.cell 3
    have cBw_0 := Bw.cell 0
    have cBw_1 := Bw.cell 1
    have cBw_2 := Bw.cell 2
    have cBw_3 := Bw.cell 3
    have cX0_0 := X0.cell 0
    have cX0_1 := X0.cell 1
    have cX1_0 := X1.cell 0
    have cX1_1 := X1.cell 1
    have cX1_2 := X1.cell 2
    have cX1_3 := X1.cell 3
    have cBg_0 := Bg.cell 0
    have cBg_1 := Bg.cell 1
    have cBg_2 := Bg.cell 2
    have cBg_3 := Bg.cell 3
    simp only [List.getElem?_toArray, List.getElem?_cons_zero, List.getElem?_cons_succ] at cP0_0 cP0_1 cP1_0 cP1_1 cP1_2 cP1_3 cBw_0 cBw_1 cBw_2 cBw_3 cX0_0 cX0_1 cX1_0 cX1_1 cX1_2 cX1_3 cBg_0 cBg_1 cBg_2 cBg_3
    go_wp2_with fail
    clear cP0_0 cP0_1 cP1_0 cP1_1 cP1_2 cP1_3 cBw_0 cBw_1 cBw_2 cBw_3 cX0_0 cX0_1 cX1_0 cX1_1 cX1_2 cX1_3 cBg_0 cBg_1 cBg_2 cBg_3
    refine (markFact_any [.int .i64 mo0.1, .slice AgEqLeft ngEqLeft cgEqLeft, .slice AgEqRight ngEqRight cgEqRight, .slice AgList ngList cgList] mo0 blg 1 _ Og Ig.1 (by omega) (by omega)).mono ?_
    rintro e w21 ⟨rfl, Om, hb21⟩
    have hg21 := hb21.chg (lo := w9.heap.size) (hi := w10.heap.size) Ig.2
    have zw21 : w20.heap.size ≤ w21.heap.size := hg21.size
    replace T0 := T0.trans (hg21.below (by omega) (by have := T0.size; omega))
    replace Tw := Tw.trans (hg21.below (by omega) (by have := Tw.size; omega))
    replace P0 := P0.chg' hg21 (by omega)
    replace P1 := P1.chg' hg21 (by omega)
    replace Bw := Bw.chg' hg21 (by omega)
    replace X0 := X0.chg' hg21 (by omega)
    replace X1 := X1.chg' hg21 (by omega)
    replace Bg := Bg.chg' hg21 (by omega)
    clear hb21 hg21
    clear Og
    have hq0 : ¬ (1 + ((msFactA mo0 : Nat) : Int) < 0) := by omega
    have hqq : ((1 + ((msFactA mo0 : Nat) : Int)) != (1 + ((msFactA mo0 : Nat) : Int))) = false := by simp
    have cP0_0 := P0.cell 0
    have cP0_1 := P0.cell 1
    have cP1_0 := P1.cell 0
    have cP1_1 := P1.cell 1
    have cP1_2 := P1.cell 2
    have cP1_3 := P1.cell 3
    have cBw_0 := Bw.cell 0
    have cBw_1 := Bw.cell 1
    have cBw_2 := Bw.cell 2
    have cBw_3 := Bw.cell 3
    have cX0_0 := X0.cell 0
    have cX0_1 := X0.cell 1
    have cX1_0 := X1.cell 0
    have cX1_1 := X1.cell 1
    have cX1_2 := X1.cell 2
    have cX1_3 := X1.cell 3
    have cBg_0 := Bg.cell 0
    have cBg_1 := Bg.cell 1
    have cBg_2 := Bg.cell 2
    have cBg_3 := Bg.cell 3
    simp only [List.getElem?_toArray, List.getElem?_cons_zero, List.getElem?_cons_succ] at cP0_0 cP0_1 cP1_0 cP1_1 cP1_2 cP1_3 cBw_0 cBw_1 cBw_2 cBw_3 cX0_0 cX0_1 cX1_0 cX1_1 cX1_2 cX1_3 cBg_0 cBg_1 cBg_2 cBg_3
    go_wp2_with fail
    clear cP0_0 cP0_1 cP1_0 cP1_1 cP1_2 cP1_3 cBw_0 cBw_1 cBw_2 cBw_3 cX0_0 cX0_1 cX1_0 cX1_1 cX1_2 cX1_3 cBg_0 cBg_1 cBg_2 cBg_3
    refine (heldFact_any [.int .i64 mo0.1, .slice AgEqLeft ngEqLeft cgEqLeft, .slice AgEqRight ngEqRight cgEqRight, .slice AgList ngList cgList] mo0 1 _ (shFact.ord Om) (by omega) (by omega)).mono ?_
    rintro e w22 ⟨rfl, hb22⟩
    have zw22 : w21.heap.size ≤ w22.heap.size := hb22.size
    replace T0 := below_next T0 hb22 rfl
    replace Tw := below_next Tw hb22 rfl
    replace Om := Sh.onext Om hb22
    replace P0 := P0.next hb22
    replace P1 := P1.next hb22
    replace Bw := Bw.next hb22
    replace X0 := X0.next hb22
    replace X1 := X1.next hb22
    replace Bg := Bg.next hb22
    clear hb22
    have g0 := (shAlgebra.stab h0 T0.block)
    have g1 := (shFact.stab h1 T0.block)
    have g2 := ((Sh.il 3).stab h2 T0.block)
    have cP0_0 := P0.cell 0
    have cP0_1 := P0.cell 1
    have cP1_0 := P1.cell 0
    have cP1_1 := P1.cell 1
    have cP1_2 := P1.cell 2
    have cP1_3 := P1.cell 3
    have cBw_0 := Bw.cell 0
    have cBw_1 := Bw.cell 1
    have cBw_2 := Bw.cell 2
    have cBw_3 := Bw.cell 3
    have cX0_0 := X0.cell 0
    have cX0_1 := X0.cell 1
    have cX1_0 := X1.cell 0
    have cX1_1 := X1.cell 1
    have cX1_2 := X1.cell 2
    have cX1_3 := X1.cell 3
    have cBg_0 := Bg.cell 0
    have cBg_1 := Bg.cell 1
    have cBg_2 := Bg.cell 2
    have cBg_3 := Bg.cell 3
    simp only [List.getElem?_toArray, List.getElem?_cons_zero, List.getElem?_cons_succ] at cP0_0 cP0_1 cP1_0 cP1_1 cP1_2 cP1_3 cBw_0 cBw_1 cBw_2 cBw_3 cX0_0 cX0_1 cX1_0 cX1_1 cX1_2 cX1_3 cBg_0 cBg_1 cBg_2 cBg_3
    go_upto_region 37 with fail
    clear cP0_0 cP0_1 cP1_0 cP1_1 cP1_2 cP1_3 cBw_0 cBw_1 cBw_2 cBw_3 cX0_0 cX0_1 cX1_0 cX1_1 cX1_2 cX1_3 cBg_0 cBg_1 cBg_2 cBg_3
    have cP0_0 := P0.cell 0
    have cP0_1 := P0.cell 1
    have cP1_0 := P1.cell 0
    have cP1_1 := P1.cell 1
    have cP1_2 := P1.cell 2
    have cP1_3 := P1.cell 3
    have cBw_0 := Bw.cell 0
    have cBw_1 := Bw.cell 1
    have cBw_2 := Bw.cell 2
    have cBw_3 := Bw.cell 3
    have cX0_0 := X0.cell 0
    have cX0_1 := X0.cell 1
    have cX1_0 := X1.cell 0
    have cX1_1 := X1.cell 1
    have cX1_2 := X1.cell 2
    have cX1_3 := X1.cell 3
    have cBg_0 := Bg.cell 0
    have cBg_1 := Bg.cell 1
    have cBg_2 := Bg.cell 2
    have cBg_3 := Bg.cell 3
    simp only [List.getElem?_toArray, List.getElem?_cons_zero, List.getElem?_cons_succ] at cP0_0 cP0_1 cP1_0 cP1_1 cP1_2 cP1_3 cBw_0 cBw_1 cBw_2 cBw_3 cX0_0 cX0_1 cX1_0 cX1_1 cX1_2 cX1_3 cBg_0 cBg_1 cBg_2 cBg_3
    have Tk : Below w22.heap.size w22 w22 := Below.refl _ _
    have kcP0_0 := cP0_0
    have kcP0_1 := cP0_1
    have kcP1_0 := cP1_0
    have kcP1_1 := cP1_1
    have kcP1_2 := cP1_2
    have kcP1_3 := cP1_3
    go_cut [18, 19] (fun u18 u19 wx => ∃ (gh : Nat) (AhEqLeft AhEqRight AhList : Option Addr) (nhEqLeft chEqLeft nhEqRight chEqRight nhList chList : Nat) (blh : List Nat), u18 = .pointer (some ⟨gh, 0, none⟩) ∧ u19 = .bool mo1 ∧ w22.heap.size ≤ gh ∧ Blk wx gh 34 #[.int .i64 mo0.1, .slice AhEqLeft nhEqLeft chEqLeft, .slice AhEqRight nhEqRight chEqRight, .slice AhList nhList chList] ∧ shFact.own wx [.int .i64 mo0.1, .slice AhEqLeft nhEqLeft chEqLeft, .slice AhEqRight nhEqRight chEqRight, .slice AhList nhList chList] mo0 blh ∧ Below w22.heap.size w22 wx)
    case first =>
      refine wp_region_held_drew (S := fun w' => w'.cell? ⟨w.heap.size, 0, none⟩ = some (.int .i64 x0.1) ∧ w'.cell? ⟨w.heap.size, 1, none⟩ = some (.slice Aa0Ops na0Ops ca0Ops) ∧ w'.cell? ⟨(w.heap.size + 1), 0, none⟩ = some (.int .i64 x1.1) ∧ w'.cell? ⟨(w.heap.size + 1), 1, none⟩ = some (.slice Aa1EqLeft na1EqLeft ca1EqLeft) ∧ w'.cell? ⟨(w.heap.size + 1), 2, none⟩ = some (.slice Aa1EqRight na1EqRight ca1EqRight) ∧ w'.cell? ⟨(w.heap.size + 1), 3, none⟩ = some (.slice Aa1List na1List ca1List)) (by kernel_rfl) ⟨cP0_0, cP0_1, cP1_0, cP1_1, cP1_2, cP1_3⟩ (fun hHeld0 => ?_)
      obtain ⟨wt1, Hwt1⟩ : ∃ x, Hid (x = World.drew w22) := ⟨_, rfl⟩
      have hbwt1 : Below w22.heap.size w22 wt1 := by rw [Hwt1.out]; exact (Below.refl _ _).drew
      rw [← Hwt1.out] at hHeld0 ⊢
      have ywt1 := hbwt1.size
      replace Tk := below_next Tk hbwt1 rfl
      replace cP0_0 := keepc hbwt1 cP0_0
      replace cP0_1 := keepc hbwt1 cP0_1
      replace cP1_0 := keepc hbwt1 cP1_0
      replace cP1_1 := keepc hbwt1 cP1_1
      replace cP1_2 := keepc hbwt1 cP1_2
      replace cP1_3 := keepc hbwt1 cP1_3
      refine wpAnyH_take (i := 0) (v := .agg #[.int .i64 x0.1, .slice Aa0Ops na0Ops ca0Ops]) rfl (by kernel_rfl) (by kernel_rfl) (by kernel_rfl) (fun _ _ _ h => h) (Or.inl ⟨by kernel_rfl, fun wv hSw => by (obtain ⟨hS0, hS1, hS2, hS3, hS4, hS5⟩ := hSw); go_simp⟩) (by assumption) ?_
      (try simp only [Act.put, List.getElem_toArray, List.getElem_cons_zero, List.getElem_cons_succ, List.setIfInBounds_toArray, List.set_cons_zero, List.set_cons_succ])
      refine wpAnyH_take (i := 2) (v := .agg #[.int .i64 x1.1, .slice Aa1EqLeft na1EqLeft ca1EqLeft, .slice Aa1EqRight na1EqRight ca1EqRight, .slice Aa1List na1List ca1List]) rfl (by kernel_rfl) (by kernel_rfl) (by kernel_rfl) (fun _ _ _ h => h) (Or.inl ⟨by kernel_rfl, fun wv hSw => by (obtain ⟨hS0, hS1, hS2, hS3, hS4, hS5⟩ := hSw); go_simp⟩) (by assumption) ?_
      (try simp only [Act.put, List.getElem_toArray, List.getElem_cons_zero, List.getElem_cons_succ, List.setIfInBounds_toArray, List.set_cons_zero, List.set_cons_succ])
      refine wpAnyH_take (i := 4) (v := .slice Aq2 nq2 cq2) rfl (by kernel_rfl) (by kernel_rfl) (by kernel_rfl) (fun _ _ _ h => h) (Or.inl ⟨by kernel_rfl, fun _ _ => by go_simp⟩) (by assumption) ?_
      (try simp only [Act.put, List.getElem_toArray, List.getElem_cons_zero, List.getElem_cons_succ, List.setIfInBounds_toArray, List.set_cons_zero, List.set_cons_succ])
      refine wpAnyH_ready (rs := [1, 10]) (by kernel_rfl) (by simp) ?_
      refine (AllReadyH.cons rfl (fun K hK => ?_) (AllReadyH.cons rfl (fun K hK => ?_) AllReadyH.nil))
      · go_simp
        refine (toAlgebra_any [.int .i64 x0.1, .slice Aa0Ops na0Ops ca0Ops] x0 _ (shAlgebra.stab g0 Tk.block) hn0).mono ?_
        rintro e wt2 ⟨csn0, bn0, rfl, On0, In0, hbwt2⟩
        have Rn0 := shAlgebra.ord On0
        clear On0 In0
        go_wp2_with fail
        have ywt2 := hbwt2.size
        replace Tk := below_next Tk hbwt2 rfl
        replace cP0_0 := keepc hbwt2 cP0_0
        replace cP0_1 := keepc hbwt2 cP0_1
        replace cP1_0 := keepc hbwt2 cP1_0
        replace cP1_1 := keepc hbwt2 cP1_1
        replace cP1_2 := keepc hbwt2 cP1_2
        replace cP1_3 := keepc hbwt2 cP1_3
        refine hK.out _ _ ⟨cP0_0, cP0_1, cP1_0, cP1_1, cP1_2, cP1_3⟩ (fun hHeld1 => ?_)
        clear hK K hHeld0
        (try simp only [Act.put, List.getElem_toArray, List.getElem_cons_zero, List.getElem_cons_succ, List.setIfInBounds_toArray, List.set_cons_zero, List.set_cons_succ])
        refine wpAnyH_ready (rs := [3, 10]) (by kernel_rfl) (by simp) ?_
        refine (AllReadyH.cons rfl (fun K hK => ?_) (AllReadyH.cons rfl (fun K hK => ?_) AllReadyH.nil))
        · go_simp
          refine (toFact_any [.int .i64 x1.1, .slice Aa1EqLeft na1EqLeft ca1EqLeft, .slice Aa1EqRight na1EqRight ca1EqRight, .slice Aa1List na1List ca1List] x1 _ (shFact.stab g1 Tk.block) hn1).mono ?_
          rintro e wt3 ⟨csn1, bn1, rfl, On1, In1, hbwt3⟩
          have Rn1 := shFact.ord On1
          clear On1 In1
          go_wp2_with fail
          have ywt3 := hbwt3.size
          replace Tk := below_next Tk hbwt3 rfl
          replace Rn0 := stab_same Rn0 hbwt3
          replace cP0_0 := keepc hbwt3 cP0_0
          replace cP0_1 := keepc hbwt3 cP0_1
          replace cP1_0 := keepc hbwt3 cP1_0
          replace cP1_1 := keepc hbwt3 cP1_1
          replace cP1_2 := keepc hbwt3 cP1_2
          replace cP1_3 := keepc hbwt3 cP1_3
          refine hK.out _ _ ⟨cP0_0, cP0_1, cP1_0, cP1_1, cP1_2, cP1_3⟩ (fun hHeld2 => ?_)
          clear hK K hHeld1
          (try simp only [Act.put, List.getElem_toArray, List.getElem_cons_zero, List.getElem_cons_succ, List.setIfInBounds_toArray, List.set_cons_zero, List.set_cons_succ])
          refine wpAnyH_ready (rs := [5, 10]) (by kernel_rfl) (by simp) ?_
          refine (AllReadyH.cons rfl (fun K hK => ?_) (AllReadyH.cons rfl (fun K hK => ?_) AllReadyH.nil))
          · go_simp
            refine (toIl_any (.slice Aq2 nq2 cq2) x2 _ ((Sh.il 3).stab g2 Tk.block) hn2).mono ?_
            rintro e wt4 ⟨vn2, bn2, rfl, On2, In2, hbwt4⟩
            have Rn2 := (Sh.il 3).ord On2
            clear On2 In2
            go_wp2_with fail
            have ywt4 := hbwt4.size
            replace Tk := below_next Tk hbwt4 rfl
            replace Rn0 := stab_same Rn0 hbwt4
            replace Rn1 := stab_same Rn1 hbwt4
            replace cP0_0 := keepc hbwt4 cP0_0
            replace cP0_1 := keepc hbwt4 cP0_1
            replace cP1_0 := keepc hbwt4 cP1_0
            replace cP1_1 := keepc hbwt4 cP1_1
            replace cP1_2 := keepc hbwt4 cP1_2
            replace cP1_3 := keepc hbwt4 cP1_3
            refine hK.out _ _ ⟨cP0_0, cP0_1, cP1_0, cP1_1, cP1_2, cP1_3⟩ (fun hHeld3 => ?_)
            clear hK K hHeld2
            (try simp only [Act.put, List.getElem_toArray, List.getElem_cons_zero, List.getElem_cons_succ, List.setIfInBounds_toArray, List.set_cons_zero, List.set_cons_succ])
            refine wpAnyH_ready (rs := [6, 10]) (by kernel_rfl) (by simp) ?_
            refine (AllReadyH.cons rfl (fun K hK => ?_) (AllReadyH.cons rfl (fun K hK => ?_) AllReadyH.nil))
            · go_simp
              refine (implRF_any csn0 csn1 vn2 x0 x1 x2 _ Rn0 Rn1 Rn2 hn1).mono ?_
              rintro e wt5 ⟨csh, blh, rfl, Oh, Ih, hbwt5⟩
              rw [HMO0.out] at Oh
              obtain ⟨AhEqLeft, nhEqLeft, chEqLeft, AhEqRight, nhEqRight, chEqRight, AhList, nhList, chList, rfl, -, -, -, -⟩ := rdFact (shFact.ord Oh)
              rw [HMO1.out]
              go_wp2_with fail
              have ywt5 := hbwt5.size
              replace Tk := below_next Tk hbwt5 rfl
              replace Rn0 := stab_same Rn0 hbwt5
              replace Rn1 := stab_same Rn1 hbwt5
              replace Rn2 := stab_same Rn2 hbwt5
              replace cP0_0 := keepc hbwt5 cP0_0
              replace cP0_1 := keepc hbwt5 cP0_1
              replace cP1_0 := keepc hbwt5 cP1_0
              replace cP1_1 := keepc hbwt5 cP1_1
              replace cP1_2 := keepc hbwt5 cP1_2
              replace cP1_3 := keepc hbwt5 cP1_3
              refine hK.out _ _ ⟨cP0_0, cP0_1, cP1_0, cP1_1, cP1_2, cP1_3⟩ (fun hHeld4 => ?_)
              clear hK K hHeld3
              (try simp only [Act.put, List.getElem_toArray, List.getElem_cons_zero, List.getElem_cons_succ, List.setIfInBounds_toArray, List.set_cons_zero, List.set_cons_succ])
              refine wpAnyH_take (i := 7) (v := .tuple #[.agg #[.int .i64 mo0.1, .slice AhEqLeft nhEqLeft chEqLeft, .slice AhEqRight nhEqRight chEqRight, .slice AhList nhList chList], .bool mo1]) rfl (by kernel_rfl) (by kernel_rfl) (by kernel_rfl) (fun _ _ _ h => h) (Or.inl ⟨by kernel_rfl, fun _ _ => by go_simp⟩) (by assumption) ?_
              (try simp only [Act.put, List.getElem_toArray, List.getElem_cons_zero, List.getElem_cons_succ, List.setIfInBounds_toArray, List.set_cons_zero, List.set_cons_succ])
              refine wpAnyH_take (i := 8) (v := .agg #[.int .i64 mo0.1, .slice AhEqLeft nhEqLeft chEqLeft, .slice AhEqRight nhEqRight chEqRight, .slice AhList nhList chList]) rfl (by kernel_rfl) (by kernel_rfl) (by kernel_rfl) (fun _ _ _ h => h) (Or.inl ⟨by kernel_rfl, fun _ _ => by go_simp⟩) (by assumption) ?_
              (try simp only [Act.put, List.getElem_toArray, List.getElem_cons_zero, List.getElem_cons_succ, List.setIfInBounds_toArray, List.set_cons_zero, List.set_cons_succ])
              refine wpAnyH_take (i := 9) (v := .bool mo1) rfl (by kernel_rfl) (by kernel_rfl) (by kernel_rfl) (fun _ _ _ h => h) (Or.inl ⟨by kernel_rfl, fun _ _ => by go_simp⟩) (by assumption) ?_
              (try simp only [Act.put, List.getElem_toArray, List.getElem_cons_zero, List.getElem_cons_succ, List.setIfInBounds_toArray, List.set_cons_zero, List.set_cons_succ])
              refine wpAnyH_ready (rs := [10]) (by kernel_rfl) (by simp) ?_
              refine (AllReadyH.cons rfl (fun K hK => ?_) AllReadyH.nil)
              go_simp
              obtain ⟨wt6, Hwt6⟩ : ∃ x, Hid (x = wt5.alloc (.cells #[.int .i64 0, .slice none 0 0, .slice none 0 0, .slice none 0 0] 34)) := ⟨_, rfl⟩
              rw [← Hwt6.out]
              have hbwt6 : Below wt5.heap.size wt5 wt6 := by rw [Hwt6.out]; exact below_box _ _
              have Bwt6 : Blk wt6 wt5.heap.size 34 #[.int .i64 0, .slice none 0 0, .slice none 0 0, .slice none 0 0] := by rw [Hwt6.out]; exact Blk.new _ _ _
              have zwt6 : wt5.heap.size < wt6.heap.size := Bwt6.lt
              have ywt6 := hbwt6.size
              replace Tk := below_next Tk hbwt6 rfl
              replace Rn0 := stab_same Rn0 hbwt6
              replace Rn1 := stab_same Rn1 hbwt6
              replace Rn2 := stab_same Rn2 hbwt6
              replace Oh := Sh.onext Oh hbwt6
              replace cP0_0 := keepc hbwt6 cP0_0
              replace cP0_1 := keepc hbwt6 cP0_1
              replace cP1_0 := keepc hbwt6 cP1_0
              replace cP1_1 := keepc hbwt6 cP1_1
              replace cP1_2 := keepc hbwt6 cP1_2
              replace cP1_3 := keepc hbwt6 cP1_3
              refine hK.out _ _ ⟨cP0_0, cP0_1, cP1_0, cP1_1, cP1_2, cP1_3⟩ (fun hHeld5 => ?_)
              clear hK K hHeld4
              (try simp only [Act.put, List.getElem_toArray, List.getElem_cons_zero, List.getElem_cons_succ, List.setIfInBounds_toArray, List.set_cons_zero, List.set_cons_succ])
              refine wpAnyH_ready (rs := [11]) (by kernel_rfl) (by simp) ?_
              refine (AllReadyH.cons rfl (fun K hK => ?_) AllReadyH.nil)
              have bC0 := Bwt6.cell 0
              have bC1 := Bwt6.cell 1
              have bC2 := Bwt6.cell 2
              have bC3 := Bwt6.cell 3
              simp only [List.getElem?_toArray, List.getElem?_cons_zero, List.getElem?_cons_succ] at bC0 bC1 bC2 bC3
              have bF0 := Bwt6.frozen 0
              have bF1 := Bwt6.frozen 1
              have bF2 := Bwt6.frozen 2
              have bF3 := Bwt6.frozen 3
              go_simp
              have hgn : wt5.heap.size ∉ blh := fun hh => by have := Ih.2 _ hh; omega
              have hgo : w22.heap.size ≤ wt5.heap.size := by omega
              obtain ⟨wt7, Hwt7⟩ : ∃ x, Hid (x = ((((wt6.setCell ⟨wt5.heap.size, 0, none⟩ (.int .i64 mo0.1)).setCell ⟨wt5.heap.size, 1, none⟩ (.slice AhEqLeft nhEqLeft chEqLeft)).setCell ⟨wt5.heap.size, 2, none⟩ (.slice AhEqRight nhEqRight chEqRight)).setCell ⟨wt5.heap.size, 3, none⟩ (.slice AhList nhList chList))) := ⟨_, rfl⟩
              rw [← Hwt7.out]
              have BGf : Blk wt7 wt5.heap.size 34 #[.int .i64 mo0.1, .slice AhEqLeft nhEqLeft chEqLeft, .slice AhEqRight nhEqRight chEqRight, .slice AhList nhList chList] := by rw [Hwt7.out]; simpa using (Blk.set_ (Blk.set_ (Blk.set_ (Blk.set_ Bwt6 0 (.int .i64 mo0.1)) 1 (.slice AhEqLeft nhEqLeft chEqLeft)) 2 (.slice AhEqRight nhEqRight chEqRight)) 3 (.slice AhList nhList chList))
              have OGf : shFact.own wt7 [.int .i64 mo0.1, .slice AhEqLeft nhEqLeft chEqLeft, .slice AhEqRight nhEqRight chEqRight, .slice AhList nhList chList] mo0 blh := by rw [Hwt7.out]; exact (Sh.oset' (p := ⟨wt5.heap.size, 3, none⟩) (Sh.oset' (p := ⟨wt5.heap.size, 2, none⟩) (Sh.oset' (p := ⟨wt5.heap.size, 1, none⟩) (Sh.oset' (p := ⟨wt5.heap.size, 0, none⟩) Oh hgn _) hgn _) hgn _) hgn _)
              have TGf : Below w22.heap.size w22 wt7 := by rw [Hwt7.out]; exact (Below.setCell (p := ⟨wt5.heap.size, 3, none⟩) (Below.setCell (p := ⟨wt5.heap.size, 2, none⟩) (Below.setCell (p := ⟨wt5.heap.size, 1, none⟩) (Below.setCell (p := ⟨wt5.heap.size, 0, none⟩) Tk (by exact hgo) _) (by exact hgo) _) (by exact hgo) _) (by exact hgo) _)
              replace cP0_0 := keepc TGf kcP0_0
              replace cP0_1 := keepc TGf kcP0_1
              replace cP1_0 := keepc TGf kcP1_0
              replace cP1_1 := keepc TGf kcP1_1
              replace cP1_2 := keepc TGf kcP1_2
              replace cP1_3 := keepc TGf kcP1_3
              refine hK.out _ _ ⟨cP0_0, cP0_1, cP1_0, cP1_1, cP1_2, cP1_3⟩ (fun hHeld6 => ?_)
              clear hK K hHeld5
              (try simp only [Act.put, List.getElem_toArray, List.getElem_cons_zero, List.getElem_cons_succ, List.setIfInBounds_toArray, List.set_cons_zero, List.set_cons_succ])
              refine wpAnyH_take (i := 12) (v := .bool mo1) rfl (by kernel_rfl) (by kernel_rfl) (by kernel_rfl) (fun _ _ _ h => h) (Or.inl ⟨by kernel_rfl, fun _ _ => by go_simp⟩) (by assumption) ?_
              (try simp only [Act.put, List.getElem_toArray, List.getElem_cons_zero, List.getElem_cons_succ, List.setIfInBounds_toArray, List.set_cons_zero, List.set_cons_succ])
              refine wpAnyH_done (by kernel_rfl) ?_ _
              go_wp2_with fail
              go_meet
              exact ⟨_, _, _, _, _, _, _, _, _, _, _, rfl, rfl, hgo, BGf, OGf, TGf⟩
            · go_simp
              obtain ⟨wt8, Hwt8⟩ : ∃ x, Hid (x = wt4.alloc (.cells #[.int .i64 0, .slice none 0 0, .slice none 0 0, .slice none 0 0] 34)) := ⟨_, rfl⟩
              rw [← Hwt8.out]
              have hbwt8 : Below wt4.heap.size wt4 wt8 := by rw [Hwt8.out]; exact below_box _ _
              have Bwt8 : Blk wt8 wt4.heap.size 34 #[.int .i64 0, .slice none 0 0, .slice none 0 0, .slice none 0 0] := by rw [Hwt8.out]; exact Blk.new _ _ _
              have zwt8 : wt4.heap.size < wt8.heap.size := Bwt8.lt
              have ywt8 := hbwt8.size
              replace Tk := below_next Tk hbwt8 rfl
              replace Rn0 := stab_same Rn0 hbwt8
              replace Rn1 := stab_same Rn1 hbwt8
              replace Rn2 := stab_same Rn2 hbwt8
              replace cP0_0 := keepc hbwt8 cP0_0
              replace cP0_1 := keepc hbwt8 cP0_1
              replace cP1_0 := keepc hbwt8 cP1_0
              replace cP1_1 := keepc hbwt8 cP1_1
              replace cP1_2 := keepc hbwt8 cP1_2
              replace cP1_3 := keepc hbwt8 cP1_3
              refine hK.out _ _ ⟨cP0_0, cP0_1, cP1_0, cP1_1, cP1_2, cP1_3⟩ (fun hHeld4 => ?_)
              clear hK K hHeld3
              (try simp only [Act.put, List.getElem_toArray, List.getElem_cons_zero, List.getElem_cons_succ, List.setIfInBounds_toArray, List.set_cons_zero, List.set_cons_succ])
              refine wpAnyH_ready (rs := [6]) (by kernel_rfl) (by simp) ?_
              refine (AllReadyH.cons rfl (fun K hK => ?_) AllReadyH.nil)
              go_simp
              refine (implRF_any csn0 csn1 vn2 x0 x1 x2 _ Rn0 Rn1 Rn2 hn1).mono ?_
              rintro e wt9 ⟨csh, blh, rfl, Oh, Ih, hbwt9⟩
              rw [HMO0.out] at Oh
              obtain ⟨AhEqLeft, nhEqLeft, chEqLeft, AhEqRight, nhEqRight, chEqRight, AhList, nhList, chList, rfl, -, -, -, -⟩ := rdFact (shFact.ord Oh)
              rw [HMO1.out]
              go_wp2_with fail
              have ywt9 := hbwt9.size
              replace Tk := below_next Tk hbwt9 rfl
              replace Rn0 := stab_same Rn0 hbwt9
              replace Rn1 := stab_same Rn1 hbwt9
              replace Rn2 := stab_same Rn2 hbwt9
              replace Bwt8 := Bwt8.next hbwt9
              replace cP0_0 := keepc hbwt9 cP0_0
              replace cP0_1 := keepc hbwt9 cP0_1
              replace cP1_0 := keepc hbwt9 cP1_0
              replace cP1_1 := keepc hbwt9 cP1_1
              replace cP1_2 := keepc hbwt9 cP1_2
              replace cP1_3 := keepc hbwt9 cP1_3
              refine hK.out _ _ ⟨cP0_0, cP0_1, cP1_0, cP1_1, cP1_2, cP1_3⟩ (fun hHeld5 => ?_)
              clear hK K hHeld4
              (try simp only [Act.put, List.getElem_toArray, List.getElem_cons_zero, List.getElem_cons_succ, List.setIfInBounds_toArray, List.set_cons_zero, List.set_cons_succ])
              refine wpAnyH_take (i := 7) (v := .tuple #[.agg #[.int .i64 mo0.1, .slice AhEqLeft nhEqLeft chEqLeft, .slice AhEqRight nhEqRight chEqRight, .slice AhList nhList chList], .bool mo1]) rfl (by kernel_rfl) (by kernel_rfl) (by kernel_rfl) (fun _ _ _ h => h) (Or.inl ⟨by kernel_rfl, fun _ _ => by go_simp⟩) (by assumption) ?_
              (try simp only [Act.put, List.getElem_toArray, List.getElem_cons_zero, List.getElem_cons_succ, List.setIfInBounds_toArray, List.set_cons_zero, List.set_cons_succ])
              refine wpAnyH_take (i := 8) (v := .agg #[.int .i64 mo0.1, .slice AhEqLeft nhEqLeft chEqLeft, .slice AhEqRight nhEqRight chEqRight, .slice AhList nhList chList]) rfl (by kernel_rfl) (by kernel_rfl) (by kernel_rfl) (fun _ _ _ h => h) (Or.inl ⟨by kernel_rfl, fun _ _ => by go_simp⟩) (by assumption) ?_
              (try simp only [Act.put, List.getElem_toArray, List.getElem_cons_zero, List.getElem_cons_succ, List.setIfInBounds_toArray, List.set_cons_zero, List.set_cons_succ])
              refine wpAnyH_take (i := 9) (v := .bool mo1) rfl (by kernel_rfl) (by kernel_rfl) (by kernel_rfl) (fun _ _ _ h => h) (Or.inl ⟨by kernel_rfl, fun _ _ => by go_simp⟩) (by assumption) ?_
              (try simp only [Act.put, List.getElem_toArray, List.getElem_cons_zero, List.getElem_cons_succ, List.setIfInBounds_toArray, List.set_cons_zero, List.set_cons_succ])
              refine wpAnyH_ready (rs := [11]) (by kernel_rfl) (by simp) ?_
              refine (AllReadyH.cons rfl (fun K hK => ?_) AllReadyH.nil)
              have bC0 := Bwt8.cell 0
              have bC1 := Bwt8.cell 1
              have bC2 := Bwt8.cell 2
              have bC3 := Bwt8.cell 3
              simp only [List.getElem?_toArray, List.getElem?_cons_zero, List.getElem?_cons_succ] at bC0 bC1 bC2 bC3
              have bF0 := Bwt8.frozen 0
              have bF1 := Bwt8.frozen 1
              have bF2 := Bwt8.frozen 2
              have bF3 := Bwt8.frozen 3
              go_simp
              have hgn : wt4.heap.size ∉ blh := fun hh => by have := Ih.2 _ hh; omega
              have hgo : w22.heap.size ≤ wt4.heap.size := by omega
              obtain ⟨wt10, Hwt10⟩ : ∃ x, Hid (x = ((((wt9.setCell ⟨wt4.heap.size, 0, none⟩ (.int .i64 mo0.1)).setCell ⟨wt4.heap.size, 1, none⟩ (.slice AhEqLeft nhEqLeft chEqLeft)).setCell ⟨wt4.heap.size, 2, none⟩ (.slice AhEqRight nhEqRight chEqRight)).setCell ⟨wt4.heap.size, 3, none⟩ (.slice AhList nhList chList))) := ⟨_, rfl⟩
              rw [← Hwt10.out]
              have BGf : Blk wt10 wt4.heap.size 34 #[.int .i64 mo0.1, .slice AhEqLeft nhEqLeft chEqLeft, .slice AhEqRight nhEqRight chEqRight, .slice AhList nhList chList] := by rw [Hwt10.out]; simpa using (Blk.set_ (Blk.set_ (Blk.set_ (Blk.set_ Bwt8 0 (.int .i64 mo0.1)) 1 (.slice AhEqLeft nhEqLeft chEqLeft)) 2 (.slice AhEqRight nhEqRight chEqRight)) 3 (.slice AhList nhList chList))
              have OGf : shFact.own wt10 [.int .i64 mo0.1, .slice AhEqLeft nhEqLeft chEqLeft, .slice AhEqRight nhEqRight chEqRight, .slice AhList nhList chList] mo0 blh := by rw [Hwt10.out]; exact (Sh.oset' (p := ⟨wt4.heap.size, 3, none⟩) (Sh.oset' (p := ⟨wt4.heap.size, 2, none⟩) (Sh.oset' (p := ⟨wt4.heap.size, 1, none⟩) (Sh.oset' (p := ⟨wt4.heap.size, 0, none⟩) Oh hgn _) hgn _) hgn _) hgn _)
              have TGf : Below w22.heap.size w22 wt10 := by rw [Hwt10.out]; exact (Below.setCell (p := ⟨wt4.heap.size, 3, none⟩) (Below.setCell (p := ⟨wt4.heap.size, 2, none⟩) (Below.setCell (p := ⟨wt4.heap.size, 1, none⟩) (Below.setCell (p := ⟨wt4.heap.size, 0, none⟩) Tk (by exact hgo) _) (by exact hgo) _) (by exact hgo) _) (by exact hgo) _)
              replace cP0_0 := keepc TGf kcP0_0
              replace cP0_1 := keepc TGf kcP0_1
              replace cP1_0 := keepc TGf kcP1_0
              replace cP1_1 := keepc TGf kcP1_1
              replace cP1_2 := keepc TGf kcP1_2
              replace cP1_3 := keepc TGf kcP1_3
              refine hK.out _ _ ⟨cP0_0, cP0_1, cP1_0, cP1_1, cP1_2, cP1_3⟩ (fun hHeld6 => ?_)
              clear hK K hHeld5
              (try simp only [Act.put, List.getElem_toArray, List.getElem_cons_zero, List.getElem_cons_succ, List.setIfInBounds_toArray, List.set_cons_zero, List.set_cons_succ])
              refine wpAnyH_take (i := 12) (v := .bool mo1) rfl (by kernel_rfl) (by kernel_rfl) (by kernel_rfl) (fun _ _ _ h => h) (Or.inl ⟨by kernel_rfl, fun _ _ => by go_simp⟩) (by assumption) ?_
              (try simp only [Act.put, List.getElem_toArray, List.getElem_cons_zero, List.getElem_cons_succ, List.setIfInBounds_toArray, List.set_cons_zero, List.set_cons_succ])
              refine wpAnyH_done (by kernel_rfl) ?_ _
              go_wp2_with fail
              go_meet
              exact ⟨_, _, _, _, _, _, _, _, _, _, _, rfl, rfl, hgo, BGf, OGf, TGf⟩
          · go_simp
            obtain ⟨wt11, Hwt11⟩ : ∃ x, Hid (x = wt3.alloc (.cells #[.int .i64 0, .slice none 0 0, .slice none 0 0, .slice none 0 0] 34)) := ⟨_, rfl⟩
            rw [← Hwt11.out]
            have hbwt11 : Below wt3.heap.size wt3 wt11 := by rw [Hwt11.out]; exact below_box _ _
            have Bwt11 : Blk wt11 wt3.heap.size 34 #[.int .i64 0, .slice none 0 0, .slice none 0 0, .slice none 0 0] := by rw [Hwt11.out]; exact Blk.new _ _ _
            have zwt11 : wt3.heap.size < wt11.heap.size := Bwt11.lt
            have ywt11 := hbwt11.size
            replace Tk := below_next Tk hbwt11 rfl
            replace Rn0 := stab_same Rn0 hbwt11
            replace Rn1 := stab_same Rn1 hbwt11
            replace cP0_0 := keepc hbwt11 cP0_0
            replace cP0_1 := keepc hbwt11 cP0_1
            replace cP1_0 := keepc hbwt11 cP1_0
            replace cP1_1 := keepc hbwt11 cP1_1
            replace cP1_2 := keepc hbwt11 cP1_2
            replace cP1_3 := keepc hbwt11 cP1_3
            refine hK.out _ _ ⟨cP0_0, cP0_1, cP1_0, cP1_1, cP1_2, cP1_3⟩ (fun hHeld3 => ?_)
            clear hK K hHeld2
            (try simp only [Act.put, List.getElem_toArray, List.getElem_cons_zero, List.getElem_cons_succ, List.setIfInBounds_toArray, List.set_cons_zero, List.set_cons_succ])
            refine wpAnyH_ready (rs := [5]) (by kernel_rfl) (by simp) ?_
            refine (AllReadyH.cons rfl (fun K hK => ?_) AllReadyH.nil)
            go_simp
            refine (toIl_any (.slice Aq2 nq2 cq2) x2 _ ((Sh.il 3).stab g2 Tk.block) hn2).mono ?_
            rintro e wt12 ⟨vn2, bn2, rfl, On2, In2, hbwt12⟩
            have Rn2 := (Sh.il 3).ord On2
            clear On2 In2
            go_wp2_with fail
            have ywt12 := hbwt12.size
            replace Tk := below_next Tk hbwt12 rfl
            replace Rn0 := stab_same Rn0 hbwt12
            replace Rn1 := stab_same Rn1 hbwt12
            replace Bwt11 := Bwt11.next hbwt12
            replace cP0_0 := keepc hbwt12 cP0_0
            replace cP0_1 := keepc hbwt12 cP0_1
            replace cP1_0 := keepc hbwt12 cP1_0
            replace cP1_1 := keepc hbwt12 cP1_1
            replace cP1_2 := keepc hbwt12 cP1_2
            replace cP1_3 := keepc hbwt12 cP1_3
            refine hK.out _ _ ⟨cP0_0, cP0_1, cP1_0, cP1_1, cP1_2, cP1_3⟩ (fun hHeld4 => ?_)
            clear hK K hHeld3
            (try simp only [Act.put, List.getElem_toArray, List.getElem_cons_zero, List.getElem_cons_succ, List.setIfInBounds_toArray, List.set_cons_zero, List.set_cons_succ])
            refine wpAnyH_ready (rs := [6]) (by kernel_rfl) (by simp) ?_
            refine (AllReadyH.cons rfl (fun K hK => ?_) AllReadyH.nil)
            go_simp
            refine (implRF_any csn0 csn1 vn2 x0 x1 x2 _ Rn0 Rn1 Rn2 hn1).mono ?_
            rintro e wt13 ⟨csh, blh, rfl, Oh, Ih, hbwt13⟩
            rw [HMO0.out] at Oh
            obtain ⟨AhEqLeft, nhEqLeft, chEqLeft, AhEqRight, nhEqRight, chEqRight, AhList, nhList, chList, rfl, -, -, -, -⟩ := rdFact (shFact.ord Oh)
            rw [HMO1.out]
            go_wp2_with fail
            have ywt13 := hbwt13.size
            replace Tk := below_next Tk hbwt13 rfl
            replace Rn0 := stab_same Rn0 hbwt13
            replace Rn1 := stab_same Rn1 hbwt13
            replace Bwt11 := Bwt11.next hbwt13
            replace Rn2 := stab_same Rn2 hbwt13
            replace cP0_0 := keepc hbwt13 cP0_0
            replace cP0_1 := keepc hbwt13 cP0_1
            replace cP1_0 := keepc hbwt13 cP1_0
            replace cP1_1 := keepc hbwt13 cP1_1
            replace cP1_2 := keepc hbwt13 cP1_2
            replace cP1_3 := keepc hbwt13 cP1_3
            refine hK.out _ _ ⟨cP0_0, cP0_1, cP1_0, cP1_1, cP1_2, cP1_3⟩ (fun hHeld5 => ?_)
            clear hK K hHeld4
            (try simp only [Act.put, List.getElem_toArray, List.getElem_cons_zero, List.getElem_cons_succ, List.setIfInBounds_toArray, List.set_cons_zero, List.set_cons_succ])
            refine wpAnyH_take (i := 7) (v := .tuple #[.agg #[.int .i64 mo0.1, .slice AhEqLeft nhEqLeft chEqLeft, .slice AhEqRight nhEqRight chEqRight, .slice AhList nhList chList], .bool mo1]) rfl (by kernel_rfl) (by kernel_rfl) (by kernel_rfl) (fun _ _ _ h => h) (Or.inl ⟨by kernel_rfl, fun _ _ => by go_simp⟩) (by assumption) ?_
            (try simp only [Act.put, List.getElem_toArray, List.getElem_cons_zero, List.getElem_cons_succ, List.setIfInBounds_toArray, List.set_cons_zero, List.set_cons_succ])
            refine wpAnyH_take (i := 8) (v := .agg #[.int .i64 mo0.1, .slice AhEqLeft nhEqLeft chEqLeft, .slice AhEqRight nhEqRight chEqRight, .slice AhList nhList chList]) rfl (by kernel_rfl) (by kernel_rfl) (by kernel_rfl) (fun _ _ _ h => h) (Or.inl ⟨by kernel_rfl, fun _ _ => by go_simp⟩) (by assumption) ?_
            (try simp only [Act.put, List.getElem_toArray, List.getElem_cons_zero, List.getElem_cons_succ, List.setIfInBounds_toArray, List.set_cons_zero, List.set_cons_succ])
            refine wpAnyH_take (i := 9) (v := .bool mo1) rfl (by kernel_rfl) (by kernel_rfl) (by kernel_rfl) (fun _ _ _ h => h) (Or.inl ⟨by kernel_rfl, fun _ _ => by go_simp⟩) (by assumption) ?_
            (try simp only [Act.put, List.getElem_toArray, List.getElem_cons_zero, List.getElem_cons_succ, List.setIfInBounds_toArray, List.set_cons_zero, List.set_cons_succ])
            refine wpAnyH_ready (rs := [11]) (by kernel_rfl) (by simp) ?_
            refine (AllReadyH.cons rfl (fun K hK => ?_) AllReadyH.nil)
            have bC0 := Bwt11.cell 0
            have bC1 := Bwt11.cell 1
            have bC2 := Bwt11.cell 2
            have bC3 := Bwt11.cell 3
            simp only [List.getElem?_toArray, List.getElem?_cons_zero, List.getElem?_cons_succ] at bC0 bC1 bC2 bC3
            have bF0 := Bwt11.frozen 0
            have bF1 := Bwt11.frozen 1
            have bF2 := Bwt11.frozen 2
            have bF3 := Bwt11.frozen 3
            go_simp
            have hgn : wt3.heap.size ∉ blh := fun hh => by have := Ih.2 _ hh; omega
            have hgo : w22.heap.size ≤ wt3.heap.size := by omega
            obtain ⟨wt14, Hwt14⟩ : ∃ x, Hid (x = ((((wt13.setCell ⟨wt3.heap.size, 0, none⟩ (.int .i64 mo0.1)).setCell ⟨wt3.heap.size, 1, none⟩ (.slice AhEqLeft nhEqLeft chEqLeft)).setCell ⟨wt3.heap.size, 2, none⟩ (.slice AhEqRight nhEqRight chEqRight)).setCell ⟨wt3.heap.size, 3, none⟩ (.slice AhList nhList chList))) := ⟨_, rfl⟩
            rw [← Hwt14.out]
            have BGf : Blk wt14 wt3.heap.size 34 #[.int .i64 mo0.1, .slice AhEqLeft nhEqLeft chEqLeft, .slice AhEqRight nhEqRight chEqRight, .slice AhList nhList chList] := by rw [Hwt14.out]; simpa using (Blk.set_ (Blk.set_ (Blk.set_ (Blk.set_ Bwt11 0 (.int .i64 mo0.1)) 1 (.slice AhEqLeft nhEqLeft chEqLeft)) 2 (.slice AhEqRight nhEqRight chEqRight)) 3 (.slice AhList nhList chList))
            have OGf : shFact.own wt14 [.int .i64 mo0.1, .slice AhEqLeft nhEqLeft chEqLeft, .slice AhEqRight nhEqRight chEqRight, .slice AhList nhList chList] mo0 blh := by rw [Hwt14.out]; exact (Sh.oset' (p := ⟨wt3.heap.size, 3, none⟩) (Sh.oset' (p := ⟨wt3.heap.size, 2, none⟩) (Sh.oset' (p := ⟨wt3.heap.size, 1, none⟩) (Sh.oset' (p := ⟨wt3.heap.size, 0, none⟩) Oh hgn _) hgn _) hgn _) hgn _)
            have TGf : Below w22.heap.size w22 wt14 := by rw [Hwt14.out]; exact (Below.setCell (p := ⟨wt3.heap.size, 3, none⟩) (Below.setCell (p := ⟨wt3.heap.size, 2, none⟩) (Below.setCell (p := ⟨wt3.heap.size, 1, none⟩) (Below.setCell (p := ⟨wt3.heap.size, 0, none⟩) Tk (by exact hgo) _) (by exact hgo) _) (by exact hgo) _) (by exact hgo) _)
            replace cP0_0 := keepc TGf kcP0_0
            replace cP0_1 := keepc TGf kcP0_1
            replace cP1_0 := keepc TGf kcP1_0
            replace cP1_1 := keepc TGf kcP1_1
            replace cP1_2 := keepc TGf kcP1_2
            replace cP1_3 := keepc TGf kcP1_3
            refine hK.out _ _ ⟨cP0_0, cP0_1, cP1_0, cP1_1, cP1_2, cP1_3⟩ (fun hHeld6 => ?_)
            clear hK K hHeld5
            (try simp only [Act.put, List.getElem_toArray, List.getElem_cons_zero, List.getElem_cons_succ, List.setIfInBounds_toArray, List.set_cons_zero, List.set_cons_succ])
            refine wpAnyH_take (i := 12) (v := .bool mo1) rfl (by kernel_rfl) (by kernel_rfl) (by kernel_rfl) (fun _ _ _ h => h) (Or.inl ⟨by kernel_rfl, fun _ _ => by go_simp⟩) (by assumption) ?_
            (try simp only [Act.put, List.getElem_toArray, List.getElem_cons_zero, List.getElem_cons_succ, List.setIfInBounds_toArray, List.set_cons_zero, List.set_cons_succ])
            refine wpAnyH_done (by kernel_rfl) ?_ _
            go_wp2_with fail
            go_meet
            exact ⟨_, _, _, _, _, _, _, _, _, _, _, rfl, rfl, hgo, BGf, OGf, TGf⟩
        · go_simp
          obtain ⟨wt15, Hwt15⟩ : ∃ x, Hid (x = wt2.alloc (.cells #[.int .i64 0, .slice none 0 0, .slice none 0 0, .slice none 0 0] 34)) := ⟨_, rfl⟩
          rw [← Hwt15.out]
          have hbwt15 : Below wt2.heap.size wt2 wt15 := by rw [Hwt15.out]; exact below_box _ _
          have Bwt15 : Blk wt15 wt2.heap.size 34 #[.int .i64 0, .slice none 0 0, .slice none 0 0, .slice none 0 0] := by rw [Hwt15.out]; exact Blk.new _ _ _
          have zwt15 : wt2.heap.size < wt15.heap.size := Bwt15.lt
          have ywt15 := hbwt15.size
          replace Tk := below_next Tk hbwt15 rfl
          replace Rn0 := stab_same Rn0 hbwt15
          replace cP0_0 := keepc hbwt15 cP0_0
          replace cP0_1 := keepc hbwt15 cP0_1
          replace cP1_0 := keepc hbwt15 cP1_0
          replace cP1_1 := keepc hbwt15 cP1_1
          replace cP1_2 := keepc hbwt15 cP1_2
          replace cP1_3 := keepc hbwt15 cP1_3
          refine hK.out _ _ ⟨cP0_0, cP0_1, cP1_0, cP1_1, cP1_2, cP1_3⟩ (fun hHeld2 => ?_)
          clear hK K hHeld1
          (try simp only [Act.put, List.getElem_toArray, List.getElem_cons_zero, List.getElem_cons_succ, List.setIfInBounds_toArray, List.set_cons_zero, List.set_cons_succ])
          refine wpAnyH_ready (rs := [3]) (by kernel_rfl) (by simp) ?_
          refine (AllReadyH.cons rfl (fun K hK => ?_) AllReadyH.nil)
          go_simp
          refine (toFact_any [.int .i64 x1.1, .slice Aa1EqLeft na1EqLeft ca1EqLeft, .slice Aa1EqRight na1EqRight ca1EqRight, .slice Aa1List na1List ca1List] x1 _ (shFact.stab g1 Tk.block) hn1).mono ?_
          rintro e wt16 ⟨csn1, bn1, rfl, On1, In1, hbwt16⟩
          have Rn1 := shFact.ord On1
          clear On1 In1
          go_wp2_with fail
          have ywt16 := hbwt16.size
          replace Tk := below_next Tk hbwt16 rfl
          replace Rn0 := stab_same Rn0 hbwt16
          replace Bwt15 := Bwt15.next hbwt16
          replace cP0_0 := keepc hbwt16 cP0_0
          replace cP0_1 := keepc hbwt16 cP0_1
          replace cP1_0 := keepc hbwt16 cP1_0
          replace cP1_1 := keepc hbwt16 cP1_1
          replace cP1_2 := keepc hbwt16 cP1_2
          replace cP1_3 := keepc hbwt16 cP1_3
          refine hK.out _ _ ⟨cP0_0, cP0_1, cP1_0, cP1_1, cP1_2, cP1_3⟩ (fun hHeld3 => ?_)
          clear hK K hHeld2
          (try simp only [Act.put, List.getElem_toArray, List.getElem_cons_zero, List.getElem_cons_succ, List.setIfInBounds_toArray, List.set_cons_zero, List.set_cons_succ])
          refine wpAnyH_ready (rs := [5]) (by kernel_rfl) (by simp) ?_
          refine (AllReadyH.cons rfl (fun K hK => ?_) AllReadyH.nil)
          go_simp
          refine (toIl_any (.slice Aq2 nq2 cq2) x2 _ ((Sh.il 3).stab g2 Tk.block) hn2).mono ?_
          rintro e wt17 ⟨vn2, bn2, rfl, On2, In2, hbwt17⟩
          have Rn2 := (Sh.il 3).ord On2
          clear On2 In2
          go_wp2_with fail
          have ywt17 := hbwt17.size
          replace Tk := below_next Tk hbwt17 rfl
          replace Rn0 := stab_same Rn0 hbwt17
          replace Bwt15 := Bwt15.next hbwt17
          replace Rn1 := stab_same Rn1 hbwt17
          replace cP0_0 := keepc hbwt17 cP0_0
          replace cP0_1 := keepc hbwt17 cP0_1
          replace cP1_0 := keepc hbwt17 cP1_0
          replace cP1_1 := keepc hbwt17 cP1_1
          replace cP1_2 := keepc hbwt17 cP1_2
          replace cP1_3 := keepc hbwt17 cP1_3
          refine hK.out _ _ ⟨cP0_0, cP0_1, cP1_0, cP1_1, cP1_2, cP1_3⟩ (fun hHeld4 => ?_)
          clear hK K hHeld3
          (try simp only [Act.put, List.getElem_toArray, List.getElem_cons_zero, List.getElem_cons_succ, List.setIfInBounds_toArray, List.set_cons_zero, List.set_cons_succ])
          refine wpAnyH_ready (rs := [6]) (by kernel_rfl) (by simp) ?_
          refine (AllReadyH.cons rfl (fun K hK => ?_) AllReadyH.nil)
          go_simp
          refine (implRF_any csn0 csn1 vn2 x0 x1 x2 _ Rn0 Rn1 Rn2 hn1).mono ?_
          rintro e wt18 ⟨csh, blh, rfl, Oh, Ih, hbwt18⟩
          rw [HMO0.out] at Oh
          obtain ⟨AhEqLeft, nhEqLeft, chEqLeft, AhEqRight, nhEqRight, chEqRight, AhList, nhList, chList, rfl, -, -, -, -⟩ := rdFact (shFact.ord Oh)
          rw [HMO1.out]
          go_wp2_with fail
          have ywt18 := hbwt18.size
          replace Tk := below_next Tk hbwt18 rfl
          replace Rn0 := stab_same Rn0 hbwt18
          replace Bwt15 := Bwt15.next hbwt18
          replace Rn1 := stab_same Rn1 hbwt18
          replace Rn2 := stab_same Rn2 hbwt18
          replace cP0_0 := keepc hbwt18 cP0_0
          replace cP0_1 := keepc hbwt18 cP0_1
          replace cP1_0 := keepc hbwt18 cP1_0
          replace cP1_1 := keepc hbwt18 cP1_1
          replace cP1_2 := keepc hbwt18 cP1_2
          replace cP1_3 := keepc hbwt18 cP1_3
          refine hK.out _ _ ⟨cP0_0, cP0_1, cP1_0, cP1_1, cP1_2, cP1_3⟩ (fun hHeld5 => ?_)
          clear hK K hHeld4
          (try simp only [Act.put, List.getElem_toArray, List.getElem_cons_zero, List.getElem_cons_succ, List.setIfInBounds_toArray, List.set_cons_zero, List.set_cons_succ])
          refine wpAnyH_take (i := 7) (v := .tuple #[.agg #[.int .i64 mo0.1, .slice AhEqLeft nhEqLeft chEqLeft, .slice AhEqRight nhEqRight chEqRight, .slice AhList nhList chList], .bool mo1]) rfl (by kernel_rfl) (by kernel_rfl) (by kernel_rfl) (fun _ _ _ h => h) (Or.inl ⟨by kernel_rfl, fun _ _ => by go_simp⟩) (by assumption) ?_
          (try simp only [Act.put, List.getElem_toArray, List.getElem_cons_zero, List.getElem_cons_succ, List.setIfInBounds_toArray, List.set_cons_zero, List.set_cons_succ])
          refine wpAnyH_take (i := 8) (v := .agg #[.int .i64 mo0.1, .slice AhEqLeft nhEqLeft chEqLeft, .slice AhEqRight nhEqRight chEqRight, .slice AhList nhList chList]) rfl (by kernel_rfl) (by kernel_rfl) (by kernel_rfl) (fun _ _ _ h => h) (Or.inl ⟨by kernel_rfl, fun _ _ => by go_simp⟩) (by assumption) ?_
          (try simp only [Act.put, List.getElem_toArray, List.getElem_cons_zero, List.getElem_cons_succ, List.setIfInBounds_toArray, List.set_cons_zero, List.set_cons_succ])
          refine wpAnyH_take (i := 9) (v := .bool mo1) rfl (by kernel_rfl) (by kernel_rfl) (by kernel_rfl) (fun _ _ _ h => h) (Or.inl ⟨by kernel_rfl, fun _ _ => by go_simp⟩) (by assumption) ?_
          (try simp only [Act.put, List.getElem_toArray, List.getElem_cons_zero, List.getElem_cons_succ, List.setIfInBounds_toArray, List.set_cons_zero, List.set_cons_succ])
          refine wpAnyH_ready (rs := [11]) (by kernel_rfl) (by simp) ?_
          refine (AllReadyH.cons rfl (fun K hK => ?_) AllReadyH.nil)
          have bC0 := Bwt15.cell 0
          have bC1 := Bwt15.cell 1
          have bC2 := Bwt15.cell 2
          have bC3 := Bwt15.cell 3
          simp only [List.getElem?_toArray, List.getElem?_cons_zero, List.getElem?_cons_succ] at bC0 bC1 bC2 bC3
          have bF0 := Bwt15.frozen 0
          have bF1 := Bwt15.frozen 1
          have bF2 := Bwt15.frozen 2
          have bF3 := Bwt15.frozen 3
          go_simp
          have hgn : wt2.heap.size ∉ blh := fun hh => by have := Ih.2 _ hh; omega
          have hgo : w22.heap.size ≤ wt2.heap.size := by omega
          obtain ⟨wt19, Hwt19⟩ : ∃ x, Hid (x = ((((wt18.setCell ⟨wt2.heap.size, 0, none⟩ (.int .i64 mo0.1)).setCell ⟨wt2.heap.size, 1, none⟩ (.slice AhEqLeft nhEqLeft chEqLeft)).setCell ⟨wt2.heap.size, 2, none⟩ (.slice AhEqRight nhEqRight chEqRight)).setCell ⟨wt2.heap.size, 3, none⟩ (.slice AhList nhList chList))) := ⟨_, rfl⟩
          rw [← Hwt19.out]
          have BGf : Blk wt19 wt2.heap.size 34 #[.int .i64 mo0.1, .slice AhEqLeft nhEqLeft chEqLeft, .slice AhEqRight nhEqRight chEqRight, .slice AhList nhList chList] := by rw [Hwt19.out]; simpa using (Blk.set_ (Blk.set_ (Blk.set_ (Blk.set_ Bwt15 0 (.int .i64 mo0.1)) 1 (.slice AhEqLeft nhEqLeft chEqLeft)) 2 (.slice AhEqRight nhEqRight chEqRight)) 3 (.slice AhList nhList chList))
          have OGf : shFact.own wt19 [.int .i64 mo0.1, .slice AhEqLeft nhEqLeft chEqLeft, .slice AhEqRight nhEqRight chEqRight, .slice AhList nhList chList] mo0 blh := by rw [Hwt19.out]; exact (Sh.oset' (p := ⟨wt2.heap.size, 3, none⟩) (Sh.oset' (p := ⟨wt2.heap.size, 2, none⟩) (Sh.oset' (p := ⟨wt2.heap.size, 1, none⟩) (Sh.oset' (p := ⟨wt2.heap.size, 0, none⟩) Oh hgn _) hgn _) hgn _) hgn _)
          have TGf : Below w22.heap.size w22 wt19 := by rw [Hwt19.out]; exact (Below.setCell (p := ⟨wt2.heap.size, 3, none⟩) (Below.setCell (p := ⟨wt2.heap.size, 2, none⟩) (Below.setCell (p := ⟨wt2.heap.size, 1, none⟩) (Below.setCell (p := ⟨wt2.heap.size, 0, none⟩) Tk (by exact hgo) _) (by exact hgo) _) (by exact hgo) _) (by exact hgo) _)
          replace cP0_0 := keepc TGf kcP0_0
          replace cP0_1 := keepc TGf kcP0_1
          replace cP1_0 := keepc TGf kcP1_0
          replace cP1_1 := keepc TGf kcP1_1
          replace cP1_2 := keepc TGf kcP1_2
          replace cP1_3 := keepc TGf kcP1_3
          refine hK.out _ _ ⟨cP0_0, cP0_1, cP1_0, cP1_1, cP1_2, cP1_3⟩ (fun hHeld6 => ?_)
          clear hK K hHeld5
          (try simp only [Act.put, List.getElem_toArray, List.getElem_cons_zero, List.getElem_cons_succ, List.setIfInBounds_toArray, List.set_cons_zero, List.set_cons_succ])
          refine wpAnyH_take (i := 12) (v := .bool mo1) rfl (by kernel_rfl) (by kernel_rfl) (by kernel_rfl) (fun _ _ _ h => h) (Or.inl ⟨by kernel_rfl, fun _ _ => by go_simp⟩) (by assumption) ?_
          (try simp only [Act.put, List.getElem_toArray, List.getElem_cons_zero, List.getElem_cons_succ, List.setIfInBounds_toArray, List.set_cons_zero, List.set_cons_succ])
          refine wpAnyH_done (by kernel_rfl) ?_ _
          go_wp2_with fail
          go_meet
          exact ⟨_, _, _, _, _, _, _, _, _, _, _, rfl, rfl, hgo, BGf, OGf, TGf⟩
      · go_simp
        obtain ⟨wt20, Hwt20⟩ : ∃ x, Hid (x = wt1.alloc (.cells #[.int .i64 0, .slice none 0 0, .slice none 0 0, .slice none 0 0] 34)) := ⟨_, rfl⟩
        rw [← Hwt20.out]
        have hbwt20 : Below wt1.heap.size wt1 wt20 := by rw [Hwt20.out]; exact below_box _ _
        have Bwt20 : Blk wt20 wt1.heap.size 34 #[.int .i64 0, .slice none 0 0, .slice none 0 0, .slice none 0 0] := by rw [Hwt20.out]; exact Blk.new _ _ _
        have zwt20 : wt1.heap.size < wt20.heap.size := Bwt20.lt
        have ywt20 := hbwt20.size
        replace Tk := below_next Tk hbwt20 rfl
        replace cP0_0 := keepc hbwt20 cP0_0
        replace cP0_1 := keepc hbwt20 cP0_1
        replace cP1_0 := keepc hbwt20 cP1_0
        replace cP1_1 := keepc hbwt20 cP1_1
        replace cP1_2 := keepc hbwt20 cP1_2
        replace cP1_3 := keepc hbwt20 cP1_3
        refine hK.out _ _ ⟨cP0_0, cP0_1, cP1_0, cP1_1, cP1_2, cP1_3⟩ (fun hHeld1 => ?_)
        clear hK K hHeld0
        (try simp only [Act.put, List.getElem_toArray, List.getElem_cons_zero, List.getElem_cons_succ, List.setIfInBounds_toArray, List.set_cons_zero, List.set_cons_succ])
        refine wpAnyH_ready (rs := [1]) (by kernel_rfl) (by simp) ?_
        refine (AllReadyH.cons rfl (fun K hK => ?_) AllReadyH.nil)
        go_simp
        refine (toAlgebra_any [.int .i64 x0.1, .slice Aa0Ops na0Ops ca0Ops] x0 _ (shAlgebra.stab g0 Tk.block) hn0).mono ?_
        rintro e wt21 ⟨csn0, bn0, rfl, On0, In0, hbwt21⟩
        have Rn0 := shAlgebra.ord On0
        clear On0 In0
        go_wp2_with fail
        have ywt21 := hbwt21.size
        replace Tk := below_next Tk hbwt21 rfl
        replace Bwt20 := Bwt20.next hbwt21
        replace cP0_0 := keepc hbwt21 cP0_0
        replace cP0_1 := keepc hbwt21 cP0_1
        replace cP1_0 := keepc hbwt21 cP1_0
        replace cP1_1 := keepc hbwt21 cP1_1
        replace cP1_2 := keepc hbwt21 cP1_2
        replace cP1_3 := keepc hbwt21 cP1_3
        refine hK.out _ _ ⟨cP0_0, cP0_1, cP1_0, cP1_1, cP1_2, cP1_3⟩ (fun hHeld2 => ?_)
        clear hK K hHeld1
        (try simp only [Act.put, List.getElem_toArray, List.getElem_cons_zero, List.getElem_cons_succ, List.setIfInBounds_toArray, List.set_cons_zero, List.set_cons_succ])
        refine wpAnyH_ready (rs := [3]) (by kernel_rfl) (by simp) ?_
        refine (AllReadyH.cons rfl (fun K hK => ?_) AllReadyH.nil)
        go_simp
        refine (toFact_any [.int .i64 x1.1, .slice Aa1EqLeft na1EqLeft ca1EqLeft, .slice Aa1EqRight na1EqRight ca1EqRight, .slice Aa1List na1List ca1List] x1 _ (shFact.stab g1 Tk.block) hn1).mono ?_
        rintro e wt22 ⟨csn1, bn1, rfl, On1, In1, hbwt22⟩
        have Rn1 := shFact.ord On1
        clear On1 In1
        go_wp2_with fail
        have ywt22 := hbwt22.size
        replace Tk := below_next Tk hbwt22 rfl
        replace Bwt20 := Bwt20.next hbwt22
        replace Rn0 := stab_same Rn0 hbwt22
        replace cP0_0 := keepc hbwt22 cP0_0
        replace cP0_1 := keepc hbwt22 cP0_1
        replace cP1_0 := keepc hbwt22 cP1_0
        replace cP1_1 := keepc hbwt22 cP1_1
        replace cP1_2 := keepc hbwt22 cP1_2
        replace cP1_3 := keepc hbwt22 cP1_3
        refine hK.out _ _ ⟨cP0_0, cP0_1, cP1_0, cP1_1, cP1_2, cP1_3⟩ (fun hHeld3 => ?_)
        clear hK K hHeld2
        (try simp only [Act.put, List.getElem_toArray, List.getElem_cons_zero, List.getElem_cons_succ, List.setIfInBounds_toArray, List.set_cons_zero, List.set_cons_succ])
        refine wpAnyH_ready (rs := [5]) (by kernel_rfl) (by simp) ?_
        refine (AllReadyH.cons rfl (fun K hK => ?_) AllReadyH.nil)
        go_simp
        refine (toIl_any (.slice Aq2 nq2 cq2) x2 _ ((Sh.il 3).stab g2 Tk.block) hn2).mono ?_
        rintro e wt23 ⟨vn2, bn2, rfl, On2, In2, hbwt23⟩
        have Rn2 := (Sh.il 3).ord On2
        clear On2 In2
        go_wp2_with fail
        have ywt23 := hbwt23.size
        replace Tk := below_next Tk hbwt23 rfl
        replace Bwt20 := Bwt20.next hbwt23
        replace Rn0 := stab_same Rn0 hbwt23
        replace Rn1 := stab_same Rn1 hbwt23
        replace cP0_0 := keepc hbwt23 cP0_0
        replace cP0_1 := keepc hbwt23 cP0_1
        replace cP1_0 := keepc hbwt23 cP1_0
        replace cP1_1 := keepc hbwt23 cP1_1
        replace cP1_2 := keepc hbwt23 cP1_2
        replace cP1_3 := keepc hbwt23 cP1_3
        refine hK.out _ _ ⟨cP0_0, cP0_1, cP1_0, cP1_1, cP1_2, cP1_3⟩ (fun hHeld4 => ?_)
        clear hK K hHeld3
        (try simp only [Act.put, List.getElem_toArray, List.getElem_cons_zero, List.getElem_cons_succ, List.setIfInBounds_toArray, List.set_cons_zero, List.set_cons_succ])
        refine wpAnyH_ready (rs := [6]) (by kernel_rfl) (by simp) ?_
        refine (AllReadyH.cons rfl (fun K hK => ?_) AllReadyH.nil)
        go_simp
        refine (implRF_any csn0 csn1 vn2 x0 x1 x2 _ Rn0 Rn1 Rn2 hn1).mono ?_
        rintro e wt24 ⟨csh, blh, rfl, Oh, Ih, hbwt24⟩
        rw [HMO0.out] at Oh
        obtain ⟨AhEqLeft, nhEqLeft, chEqLeft, AhEqRight, nhEqRight, chEqRight, AhList, nhList, chList, rfl, -, -, -, -⟩ := rdFact (shFact.ord Oh)
        rw [HMO1.out]
        go_wp2_with fail
        have ywt24 := hbwt24.size
        replace Tk := below_next Tk hbwt24 rfl
        replace Bwt20 := Bwt20.next hbwt24
        replace Rn0 := stab_same Rn0 hbwt24
        replace Rn1 := stab_same Rn1 hbwt24
        replace Rn2 := stab_same Rn2 hbwt24
        replace cP0_0 := keepc hbwt24 cP0_0
        replace cP0_1 := keepc hbwt24 cP0_1
        replace cP1_0 := keepc hbwt24 cP1_0
        replace cP1_1 := keepc hbwt24 cP1_1
        replace cP1_2 := keepc hbwt24 cP1_2
        replace cP1_3 := keepc hbwt24 cP1_3
        refine hK.out _ _ ⟨cP0_0, cP0_1, cP1_0, cP1_1, cP1_2, cP1_3⟩ (fun hHeld5 => ?_)
        clear hK K hHeld4
        (try simp only [Act.put, List.getElem_toArray, List.getElem_cons_zero, List.getElem_cons_succ, List.setIfInBounds_toArray, List.set_cons_zero, List.set_cons_succ])
        refine wpAnyH_take (i := 7) (v := .tuple #[.agg #[.int .i64 mo0.1, .slice AhEqLeft nhEqLeft chEqLeft, .slice AhEqRight nhEqRight chEqRight, .slice AhList nhList chList], .bool mo1]) rfl (by kernel_rfl) (by kernel_rfl) (by kernel_rfl) (fun _ _ _ h => h) (Or.inl ⟨by kernel_rfl, fun _ _ => by go_simp⟩) (by assumption) ?_
        (try simp only [Act.put, List.getElem_toArray, List.getElem_cons_zero, List.getElem_cons_succ, List.setIfInBounds_toArray, List.set_cons_zero, List.set_cons_succ])
        refine wpAnyH_take (i := 8) (v := .agg #[.int .i64 mo0.1, .slice AhEqLeft nhEqLeft chEqLeft, .slice AhEqRight nhEqRight chEqRight, .slice AhList nhList chList]) rfl (by kernel_rfl) (by kernel_rfl) (by kernel_rfl) (fun _ _ _ h => h) (Or.inl ⟨by kernel_rfl, fun _ _ => by go_simp⟩) (by assumption) ?_
        (try simp only [Act.put, List.getElem_toArray, List.getElem_cons_zero, List.getElem_cons_succ, List.setIfInBounds_toArray, List.set_cons_zero, List.set_cons_succ])
        refine wpAnyH_take (i := 9) (v := .bool mo1) rfl (by kernel_rfl) (by kernel_rfl) (by kernel_rfl) (fun _ _ _ h => h) (Or.inl ⟨by kernel_rfl, fun _ _ => by go_simp⟩) (by assumption) ?_
        (try simp only [Act.put, List.getElem_toArray, List.getElem_cons_zero, List.getElem_cons_succ, List.setIfInBounds_toArray, List.set_cons_zero, List.set_cons_succ])
        refine wpAnyH_ready (rs := [11]) (by kernel_rfl) (by simp) ?_
        refine (AllReadyH.cons rfl (fun K hK => ?_) AllReadyH.nil)
        have bC0 := Bwt20.cell 0
        have bC1 := Bwt20.cell 1
        have bC2 := Bwt20.cell 2
        have bC3 := Bwt20.cell 3
        simp only [List.getElem?_toArray, List.getElem?_cons_zero, List.getElem?_cons_succ] at bC0 bC1 bC2 bC3
        have bF0 := Bwt20.frozen 0
        have bF1 := Bwt20.frozen 1
        have bF2 := Bwt20.frozen 2
        have bF3 := Bwt20.frozen 3
        go_simp
        have hgn : wt1.heap.size ∉ blh := fun hh => by have := Ih.2 _ hh; omega
        have hgo : w22.heap.size ≤ wt1.heap.size := by omega
        obtain ⟨wt25, Hwt25⟩ : ∃ x, Hid (x = ((((wt24.setCell ⟨wt1.heap.size, 0, none⟩ (.int .i64 mo0.1)).setCell ⟨wt1.heap.size, 1, none⟩ (.slice AhEqLeft nhEqLeft chEqLeft)).setCell ⟨wt1.heap.size, 2, none⟩ (.slice AhEqRight nhEqRight chEqRight)).setCell ⟨wt1.heap.size, 3, none⟩ (.slice AhList nhList chList))) := ⟨_, rfl⟩
        rw [← Hwt25.out]
        have BGf : Blk wt25 wt1.heap.size 34 #[.int .i64 mo0.1, .slice AhEqLeft nhEqLeft chEqLeft, .slice AhEqRight nhEqRight chEqRight, .slice AhList nhList chList] := by rw [Hwt25.out]; simpa using (Blk.set_ (Blk.set_ (Blk.set_ (Blk.set_ Bwt20 0 (.int .i64 mo0.1)) 1 (.slice AhEqLeft nhEqLeft chEqLeft)) 2 (.slice AhEqRight nhEqRight chEqRight)) 3 (.slice AhList nhList chList))
        have OGf : shFact.own wt25 [.int .i64 mo0.1, .slice AhEqLeft nhEqLeft chEqLeft, .slice AhEqRight nhEqRight chEqRight, .slice AhList nhList chList] mo0 blh := by rw [Hwt25.out]; exact (Sh.oset' (p := ⟨wt1.heap.size, 3, none⟩) (Sh.oset' (p := ⟨wt1.heap.size, 2, none⟩) (Sh.oset' (p := ⟨wt1.heap.size, 1, none⟩) (Sh.oset' (p := ⟨wt1.heap.size, 0, none⟩) Oh hgn _) hgn _) hgn _) hgn _)
        have TGf : Below w22.heap.size w22 wt25 := by rw [Hwt25.out]; exact (Below.setCell (p := ⟨wt1.heap.size, 3, none⟩) (Below.setCell (p := ⟨wt1.heap.size, 2, none⟩) (Below.setCell (p := ⟨wt1.heap.size, 1, none⟩) (Below.setCell (p := ⟨wt1.heap.size, 0, none⟩) Tk (by exact hgo) _) (by exact hgo) _) (by exact hgo) _) (by exact hgo) _)
        replace cP0_0 := keepc TGf kcP0_0
        replace cP0_1 := keepc TGf kcP0_1
        replace cP1_0 := keepc TGf kcP1_0
        replace cP1_1 := keepc TGf kcP1_1
        replace cP1_2 := keepc TGf kcP1_2
        replace cP1_3 := keepc TGf kcP1_3
        refine hK.out _ _ ⟨cP0_0, cP0_1, cP1_0, cP1_1, cP1_2, cP1_3⟩ (fun hHeld6 => ?_)
        clear hK K hHeld5
        (try simp only [Act.put, List.getElem_toArray, List.getElem_cons_zero, List.getElem_cons_succ, List.setIfInBounds_toArray, List.set_cons_zero, List.set_cons_succ])
        refine wpAnyH_take (i := 12) (v := .bool mo1) rfl (by kernel_rfl) (by kernel_rfl) (by kernel_rfl) (fun _ _ _ h => h) (Or.inl ⟨by kernel_rfl, fun _ _ => by go_simp⟩) (by assumption) ?_
        (try simp only [Act.put, List.getElem_toArray, List.getElem_cons_zero, List.getElem_cons_succ, List.setIfInBounds_toArray, List.set_cons_zero, List.set_cons_succ])
        refine wpAnyH_done (by kernel_rfl) ?_ _
        go_wp2_with fail
        go_meet
        exact ⟨_, _, _, _, _, _, _, _, _, _, _, rfl, rfl, hgo, BGf, OGf, TGf⟩
    case rest =>
      obtain ⟨gh, AhEqLeft, AhEqRight, AhList, nhEqLeft, chEqLeft, nhEqRight, chEqRight, nhList, chList, blh, rfl, rfl, hgoh, Bh, Oh, hb23⟩ := hcut
      obtain ⟨w23, HWC⟩ : ∃ wq : World, wq = wc := ⟨_, rfl⟩
      subst HWC
      have ygh : gh < w23.heap.size := Bh.lt
      have zw23 : w22.heap.size ≤ w23.heap.size := hb23.size
      replace T0 := below_next T0 hb23 rfl
      replace Tw := below_next Tw hb23 rfl
      replace Om := Sh.onext Om hb23
      replace P0 := P0.next hb23
      replace P1 := P1.next hb23
      replace Bw := Bw.next hb23
      replace X0 := X0.next hb23
      replace X1 := X1.next hb23
      replace Bg := Bg.next hb23
      clear hb23 Tk cP0_0 cP0_1 cP1_0 cP1_1 cP1_2 cP1_3 cBw_0 cBw_1 cBw_2 cBw_3 cX0_0 cX0_1 cX1_0 cX1_1 cX1_2 cX1_3 cBg_0 cBg_1 cBg_2 cBg_3 kcP0_0 kcP0_1 kcP1_0 kcP1_1 kcP1_2 kcP1_3
      clear g0
      clear g1
      clear g2
      have cP0_0 := P0.cell 0
      have cP0_1 := P0.cell 1
      have cP1_0 := P1.cell 0
      have cP1_1 := P1.cell 1
      have cP1_2 := P1.cell 2
      have cP1_3 := P1.cell 3
      have cBw_0 := Bw.cell 0
      have cBw_1 := Bw.cell 1
      have cBw_2 := Bw.cell 2
      have cBw_3 := Bw.cell 3
      have cX0_0 := X0.cell 0
      have cX0_1 := X0.cell 1
      have cX1_0 := X1.cell 0
      have cX1_1 := X1.cell 1
      have cX1_2 := X1.cell 2
      have cX1_3 := X1.cell 3
      have cBg_0 := Bg.cell 0
      have cBg_1 := Bg.cell 1
      have cBg_2 := Bg.cell 2
      have cBg_3 := Bg.cell 3
      have cBh_0 := Bh.cell 0
      have cBh_1 := Bh.cell 1
      have cBh_2 := Bh.cell 2
      have cBh_3 := Bh.cell 3
      simp only [List.getElem?_toArray, List.getElem?_cons_zero, List.getElem?_cons_succ] at cP0_0 cP0_1 cP1_0 cP1_1 cP1_2 cP1_3 cBw_0 cBw_1 cBw_2 cBw_3 cX0_0 cX0_1 cX1_0 cX1_1 cX1_2 cX1_3 cBg_0 cBg_1 cBg_2 cBg_3 cBh_0 cBh_1 cBh_2 cBh_3
      go_wp2_with fail
      clear cP0_0 cP0_1 cP1_0 cP1_1 cP1_2 cP1_3 cBw_0 cBw_1 cBw_2 cBw_3 cX0_0 cX0_1 cX1_0 cX1_1 cX1_2 cX1_3 cBg_0 cBg_1 cBg_2 cBg_3 cBh_0 cBh_1 cBh_2 cBh_3
      refine (eqFact_any [.int .i64 mo0.1, .slice AhEqLeft nhEqLeft chEqLeft, .slice AhEqRight nhEqRight chEqRight, .slice AhList nhList chList] [.int .i64 mo0.1, .slice AwEqLeft nwEqLeft cwEqLeft, .slice AwEqRight nwEqRight cwEqRight, .slice AwList nwList cwList] mo0 mo0 _ (shFact.ord Oh) (shFact.stab Rw Tw.block)).mono ?_
      rintro e w24 ⟨rfl, hb24⟩
      rw [eqC_self]
      have zw24 : w23.heap.size ≤ w24.heap.size := hb24.size
      replace T0 := below_next T0 hb24 rfl
      replace Tw := below_next Tw hb24 rfl
      replace Om := Sh.onext Om hb24
      replace Oh := Sh.onext Oh hb24
      replace P0 := P0.next hb24
      replace P1 := P1.next hb24
      replace Bw := Bw.next hb24
      replace X0 := X0.next hb24
      replace X1 := X1.next hb24
      replace Bg := Bg.next hb24
      replace Bh := Bh.next hb24
      clear hb24
      have cP0_0 := P0.cell 0
      have cP0_1 := P0.cell 1
      have cP1_0 := P1.cell 0
      have cP1_1 := P1.cell 1
      have cP1_2 := P1.cell 2
      have cP1_3 := P1.cell 3
      have cBw_0 := Bw.cell 0
      have cBw_1 := Bw.cell 1
      have cBw_2 := Bw.cell 2
      have cBw_3 := Bw.cell 3
      have cX0_0 := X0.cell 0
      have cX0_1 := X0.cell 1
      have cX1_0 := X1.cell 0
      have cX1_1 := X1.cell 1
      have cX1_2 := X1.cell 2
      have cX1_3 := X1.cell 3
      have cBg_0 := Bg.cell 0
      have cBg_1 := Bg.cell 1
      have cBg_2 := Bg.cell 2
      have cBg_3 := Bg.cell 3
      have cBh_0 := Bh.cell 0
      have cBh_1 := Bh.cell 1
      have cBh_2 := Bh.cell 2
      have cBh_3 := Bh.cell 3
      simp only [List.getElem?_toArray, List.getElem?_cons_zero, List.getElem?_cons_succ] at cP0_0 cP0_1 cP1_0 cP1_1 cP1_2 cP1_3 cBw_0 cBw_1 cBw_2 cBw_3 cX0_0 cX0_1 cX1_0 cX1_1 cX1_2 cX1_3 cBg_0 cBg_1 cBg_2 cBg_3 cBh_0 cBh_1 cBh_2 cBh_3
      go_wp2_with fail
      clear cP0_0 cP0_1 cP1_0 cP1_1 cP1_2 cP1_3 cBw_0 cBw_1 cBw_2 cBw_3 cX0_0 cX0_1 cX1_0 cX1_1 cX1_2 cX1_3 cBg_0 cBg_1 cBg_2 cBg_3 cBh_0 cBh_1 cBh_2 cBh_3
      refine (heldFact_any [.int .i64 mo0.1, .slice AgEqLeft ngEqLeft cgEqLeft, .slice AgEqRight ngEqRight cgEqRight, .slice AgList ngList cgList] mo0 1 _ (shFact.ord Om) (by omega) (by omega)).mono ?_
      rintro e w25 ⟨rfl, hb25⟩
      have zw25 : w24.heap.size ≤ w25.heap.size := hb25.size
      replace T0 := below_next T0 hb25 rfl
      replace Tw := below_next Tw hb25 rfl
      replace Om := Sh.onext Om hb25
      replace Oh := Sh.onext Oh hb25
      replace P0 := P0.next hb25
      replace P1 := P1.next hb25
      replace Bw := Bw.next hb25
      replace X0 := X0.next hb25
      replace X1 := X1.next hb25
      replace Bg := Bg.next hb25
      replace Bh := Bh.next hb25
      clear hb25
      have cP0_0 := P0.cell 0
      have cP0_1 := P0.cell 1
      have cP1_0 := P1.cell 0
      have cP1_1 := P1.cell 1
      have cP1_2 := P1.cell 2
      have cP1_3 := P1.cell 3
      have cBw_0 := Bw.cell 0
      have cBw_1 := Bw.cell 1
      have cBw_2 := Bw.cell 2
      have cBw_3 := Bw.cell 3
      have cX0_0 := X0.cell 0
      have cX0_1 := X0.cell 1
      have cX1_0 := X1.cell 0
      have cX1_1 := X1.cell 1
      have cX1_2 := X1.cell 2
      have cX1_3 := X1.cell 3
      have cBg_0 := Bg.cell 0
      have cBg_1 := Bg.cell 1
      have cBg_2 := Bg.cell 2
      have cBg_3 := Bg.cell 3
      have cBh_0 := Bh.cell 0
      have cBh_1 := Bh.cell 1
      have cBh_2 := Bh.cell 2
      have cBh_3 := Bh.cell 3
      simp only [List.getElem?_toArray, List.getElem?_cons_zero, List.getElem?_cons_succ] at cP0_0 cP0_1 cP1_0 cP1_1 cP1_2 cP1_3 cBw_0 cBw_1 cBw_2 cBw_3 cX0_0 cX0_1 cX1_0 cX1_1 cX1_2 cX1_3 cBg_0 cBg_1 cBg_2 cBg_3 cBh_0 cBh_1 cBh_2 cBh_3
      go_wp2_with fail
      clear cP0_0 cP0_1 cP1_0 cP1_1 cP1_2 cP1_3 cBw_0 cBw_1 cBw_2 cBw_3 cX0_0 cX0_1 cX1_0 cX1_1 cX1_2 cX1_3 cBg_0 cBg_1 cBg_2 cBg_3 cBh_0 cBh_1 cBh_2 cBh_3
      go_ret
      exact ⟨rfl, T0⟩
end Go.Proofs.YtidjocikbmkjbaaGreat
