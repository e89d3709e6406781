/- Parts of the proof: Ind, ClosP2, CsP, SubL, RenM, Ren, Res. -/
import Derived.Test.YtkmgbdljiajlaaaGreatQ3
import Derived.Test.YtkmgbdljiajlaaaGreatQ2
import Derived.Deep.RegionHeld3
import Derived.Deep.DeepCutAuto
import Derived.Deep.RegionLaw
import Derived.Laws.OwnMore
namespace Go.Proofs.YtkmgbdljiajlaaaGreat
open Go.RowKit
set_option linter.unusedVariables false
set_option linter.unusedSimpArgs false

theorem drop_rd0 {w : World} {b o k j2 : Nat} {L : List Int} (h : RdL RI w (some ⟨b, o, none⟩) k L) (hk : k ≤ j2) : RdL RI w (some ⟨b, o, none⟩) 0 (L.drop j2) := by
  have h2 : L.drop j2 = [] := List.drop_eq_nil_of_le (by rw [h.len]; omega)
  rw [h2]
  exact RdL.nil _ _ _
set_option maxRecDepth 20000 in
set_option maxHeartbeats 8000000 in
theorem implInd_any (cs : List Value) (x : AlgebraM) (A : Option Addr) (k c : Nat) (L : List Int) (w : World) (h : shAlgebra.rd w cs x) (hl : RdL RI w A k L) (hkc : k ≤ c) :
    Calls Tryz.prog 7 #[.agg cs.toArray, .slice A k c] w (Bl w (.tuple #[.bool (elB x L && indB x L), .bool (elB x L)])) := by
  have hrd := h
  have hll := hl.len
  obtain ⟨B, m, d, rfl, -, -⟩ := rdAlgebra h
  obtain ⟨w0, hw0, T0, hsz0, BP⟩ := boxes1 w #[.int .i64 x.1, .slice B m d] 26
  have HW0 := Lib.hid hw0
  have hr0 := stab_same hrd T0
  have hl0 := hl.next stab_RI T0
  have cP0 := BP.cell 0
  have cP1 := BP.cell 1
  simp at cP0 cP1
  have HG := Lib.hid (areEl_any [.int .i64 x.1, .slice B m d] x A k c L w0 hr0 hl0)
  have HLL := Lib.hid hll
  obtain ⟨r, HR⟩ : ∃ r, Hid (elB x L = r) := ⟨_, rfl⟩
  rw [HR.out] at HG ⊢
  clear hw0 hrd h hl hll
  rcases r with _ | _
  · go_enter Tryz.func7, Tryz.ntmps7
    go_upto_region 1 with fail
    rw [← HW0.out]
    go_wp2_with fail
    refine HG.out.mono ?_
    rintro e w1 ⟨rfl, hb1⟩
    go_wp2_with fail
    go_ret2
    exact ⟨rfl, below_next T0 hb1 rfl⟩
  obtain ⟨hax, hl20, hin⟩ := el_parts HR.out
  obtain ⟨z, ops⟩ := x
  obtain ⟨n, rfl⟩ : ∃ n : Nat, z = (n : Int) := ⟨z.toNat, by have h1 : 1 ≤ z := hax.1; omega⟩
  have HAX := Lib.hid hax
  have HIN := Lib.hid hin
  have hn8 : n ≤ 8 := by have h1 : (n : Int) ≤ 8 := hax.2.1; omega
  have hk20 : k ≤ 20 := by rw [← HLL.out]; exact hl20
  have HIB : Hid (indB ((n : Int), ops) L = indTo n ops L k) := by show _ = _; unfold indB; rw [HLL.out]; simp
  rw [Bool.true_and]
  obtain ⟨p, HPP⟩ : ∃ z, Hid (w.heap.size = z) := ⟨_, Lib.hid rfl⟩
  clear hax hl20 hin
  go_enter Tryz.func7, Tryz.ntmps7
  go_upto_region 1 with fail
  rw [← HW0.out]
  go_wp2_with fail
  refine HG.out.mono ?_
  rintro e w1 ⟨rfl, hb1⟩
  have T1 := below_next T0 hb1 rfl
  have BP1 := BP.next hb1
  have HRD : Hid (∀ wz, Below w1.heap.size w1 wz → shAlgebra.rd wz [.int .i64 (n : Int), .slice B m d] ((n : Int), ops)) := fun wz hz => stab_same (stab_same hr0 hb1) hz
  have hl1 := hl0.next stab_RI hb1
  rw [HPP.out] at BP1 ⊢
  clear HG cP0 cP1 hr0 hl0 hb1
  go_wp2_with fail
  go_loopw [14] (fun v wr => ∃ j : Nat, j ≤ k ∧ v = .int .i64 j ∧ indTo n ops L j = true ∧ Below w1.heap.size w1 wr) (fun v _ => k - (intOf v).toNat)
  case atStart => exact ⟨0, Nat.zero_le _, rfl, rfl, Below.refl _ _⟩
  case round =>
    obtain ⟨j, hj, rfl, hind, hTr⟩ := hrel
    have HID := Lib.hid hind
    clear hind
    have hL := hl1.next stab_RI hTr
    by_cases hjk : j < k
    · have hj0 : (0 : Int) ≤ (j : Int) := by omega
      have hj1 : (j : Int) < (k : Int) := by omega
      obtain ⟨b, o, v, y, rfl, hcy, ⟨rfl, hy0, hy1⟩, -, hxy⟩ := hL.at hjk
      have hgd : L.getD j 0 = y := by simp [List.getD, hxy]
      obtain ⟨ys, HYS⟩ : ∃ ys, Hid (L.take j ++ L.drop (j + 1) = ys) := ⟨_, Lib.hid rfl⟩
      have HYI : Hid (∀ v ∈ ys, 0 ≤ v ∧ v ≤ (n : Int) - 1) := fun v hv => by
        rw [← HYS.out] at hv
        exact HIN.out v ((List.mem_append.1 hv).elim List.mem_of_mem_take List.mem_of_mem_drop)
      have HYB : Hid (∀ v ∈ ys, -9223372036854775808 ≤ v ∧ v ≤ 9223372036854775807) := fun v hv => by have := HYI.out v hv; omega
      obtain ⟨zs, HZS⟩ : ∃ zs, Hid (genL n ops ys = zs) := ⟨_, Lib.hid rfl⟩
      have HZB : Hid (∀ v ∈ zs, -9223372036854775808 ≤ v ∧ v ≤ 9223372036854775807) := by rw [← HZS.out]; exact genL_bd (by omega)
      obtain ⟨hv, HHI⟩ : ∃ b, Hid (hasI y zs = b) := ⟨_, Lib.hid rfl⟩
      have HST : Hid (indTo n ops L (j + 1) = !hv) := by show _ = _; rw [indTo, HID.out, Bool.true_and, hgd, HYS.out, HZS.out, HHI.out]
      have cP0 := (BP1.next hTr).cell 0
      have cP1 := (BP1.next hTr).cell 1
      simp at cP0 cP1
      have oP0 := cP0
      have oP1 := cP1
      have Tk : Below wr.heap.size wr wr := Below.refl _ _
      clear hxy hgd
      rcases hv with _ | _
      · have HNX : Hid (indTo n ops L (j + 1) = true) := HST.out
        go_upto_region 6 with fail
        refine wp_region_held_drew (S := fun w' => w'.cell? ⟨p, 0, none⟩ = some (.int .i64 (n : Int)) ∧ w'.cell? ⟨p, 1, none⟩ = some (.slice B m d)) (by kernel_rfl) ⟨cP0, cP1⟩ (fun hHeld0 => ?_)
        obtain ⟨wt1, Hwt1⟩ : ∃ x, Hid (x = World.drew wr) := ⟨_, rfl⟩
        have hbwt1 : Below wr.heap.size wr wt1 := by rw [Hwt1.out]; exact (Below.refl _ _).drew
        rw [← Hwt1.out] at hHeld0 ⊢
        have ywt1 := hbwt1.size
        replace Tk := below_next Tk hbwt1 rfl
        replace cP0 := keepc hbwt1 cP0
        replace cP1 := keepc hbwt1 cP1
        refine wpAnyH_take (i := 0) (v := .agg #[.int .i64 (n : Int), .slice B m d]) rfl (by kernel_rfl) (by kernel_rfl) (by kernel_rfl) (fun _ _ _ h => h) (Or.inl ⟨by kernel_rfl, fun wv hSw => by (obtain ⟨hS0, hS1⟩ := hSw); go_simp⟩) (by assumption) ?_
        (try simp only [Act.put, List.getElem_toArray, List.getElem_cons_zero, List.getElem_cons_succ, List.setIfInBounds_toArray, List.set_cons_zero, List.set_cons_succ])
        refine wpAnyH_take (i := 1) (v := .slice (some ⟨b, o, none⟩) k c) rfl (by kernel_rfl) (by kernel_rfl) (by kernel_rfl) (fun _ _ _ h => h) (Or.inl ⟨by kernel_rfl, fun _ _ => by go_simp⟩) (by assumption) ?_
        (try simp only [Act.put, List.getElem_toArray, List.getElem_cons_zero, List.getElem_cons_succ, List.setIfInBounds_toArray, List.set_cons_zero, List.set_cons_succ])
        refine wpAnyH_take (i := 2) (v := .int .i64 (j : Int)) rfl (by kernel_rfl) (by kernel_rfl) (by kernel_rfl) (fun _ _ _ h => h) (Or.inl ⟨by kernel_rfl, fun _ _ => by go_simp⟩) (by assumption) ?_
        (try simp only [Act.put, List.getElem_toArray, List.getElem_cons_zero, List.getElem_cons_succ, List.setIfInBounds_toArray, List.set_cons_zero, List.set_cons_succ])
        refine wpAnyH_take (i := 5) (v := .int .i64 y) rfl (by kernel_rfl) (by kernel_rfl) (by kernel_rfl) (fun _ _ _ h => h) (Or.inl ⟨by kernel_rfl, fun _ _ => by go_simp⟩) (by assumption) ?_
        (try simp only [Act.put, List.getElem_toArray, List.getElem_cons_zero, List.getElem_cons_succ, List.setIfInBounds_toArray, List.set_cons_zero, List.set_cons_succ])
        refine wpAnyH_ready (rs := [3]) (by kernel_rfl) (by simp) ?_
        refine (AllReadyH.cons rfl (fun K hK => ?_) AllReadyH.nil)
        go_simp
        refine (without_any b o k c j L wt1 (hL.next stab_RI Tk) hjk hkc (by omega)).mono ?_
        rintro e wt2 ⟨A5, n5, c5, rfl, how5, hb5⟩
        rw [HYS.out] at how5
        have hr5 := rd_of_own (R := RI) how5 (RI_ints HYB.out)
        go_wp2_with fail
        have ywt2 := hb5.size
        replace Tk := below_next Tk hb5 rfl
        replace cP0 := keepc hb5 cP0
        replace cP1 := keepc hb5 cP1
        refine hK.out _ _ ⟨cP0, cP1⟩ (fun hHeld1 => ?_)
        clear hK K hHeld0
        (try simp only [Act.put, List.getElem_toArray, List.getElem_cons_zero, List.getElem_cons_succ, List.setIfInBounds_toArray, List.set_cons_zero, List.set_cons_succ])
        refine wpAnyH_ready (rs := [4]) (by kernel_rfl) (by simp) ?_
        refine (AllReadyH.cons rfl (fun K hK => ?_) AllReadyH.nil)
        go_simp
        have HGE := generate_any [.int .i64 (n : Int), .slice B m d] ((n : Int), ops) A5 n5 c5 ys wt2 (HRD.out wt2 (below_next hTr Tk rfl)) HAX.out hr5 HYI.out
        rw [show (Prod.fst ((n : Int), ops)).toNat = n from by simp, show genL n (Prod.snd ((n : Int), ops)) ys = zs from HZS.out] at HGE
        refine HGE.mono ?_
        rintro e wt3 ⟨A6, c6, rfl, how6, hb6⟩
        have hr6 := rd_of_own (R := RI) how6 (RI_ints HZB.out)
        go_wp2_with fail
        have ywt3 := hb6.size
        replace Tk := below_next Tk hb6 rfl
        replace hr5 := hr5.next stab_RI hb6
        replace cP0 := keepc hb6 cP0
        replace cP1 := keepc hb6 cP1
        refine hK.out _ _ ⟨cP0, cP1⟩ (fun hHeld2 => ?_)
        clear hK K hHeld1
        (try simp only [Act.put, List.getElem_toArray, List.getElem_cons_zero, List.getElem_cons_succ, List.setIfInBounds_toArray, List.set_cons_zero, List.set_cons_succ])
        refine wpAnyH_ready (rs := [6]) (by kernel_rfl) (by simp) ?_
        refine (AllReadyH.cons rfl (fun K hK => ?_) AllReadyH.nil)
        go_simp
        refine (hasNot_any A6 zs.length c6 zs y wt3 hr6).mono ?_
        rintro e wq ⟨rfl, rfl⟩
        rw [HHI.out]
        go_wp2_with fail
        refine hK.out _ _ ⟨cP0, cP1⟩ (fun hHeld3 => ?_)
        clear hK K hHeld2
        (try simp only [Act.put, List.getElem_toArray, List.getElem_cons_zero, List.getElem_cons_succ, List.setIfInBounds_toArray, List.set_cons_zero, List.set_cons_succ])
        refine wpAnyH_take (i := 7) (v := .bool false) rfl (by kernel_rfl) (by kernel_rfl) (by kernel_rfl) (fun _ _ _ h => h) (Or.inl ⟨by kernel_rfl, fun _ _ => by go_simp⟩) (by assumption) ?_
        (try simp only [Act.put, List.getElem_toArray, List.getElem_cons_zero, List.getElem_cons_succ, List.setIfInBounds_toArray, List.set_cons_zero, List.set_cons_succ])
        refine wpAnyH_done (by kernel_rfl) ?_ _
        clear hHeld3
        go_wp2_with fail
        go_roundw
        case rel => exact ⟨j + 1, by omega, by go_num, HNX.out, below_next hTr Tk rfl⟩
        case measure => simp [intOf]; omega
      · have HNO : Hid (indB ((n : Int), ops) L = false) := by show _ = _; rw [HIB.out]; exact indTo_no (show j + 1 ≤ k by omega) HST.out
        go_upto_region 6 with fail
        refine wp_region_held_drew (S := fun w' => w'.cell? ⟨p, 0, none⟩ = some (.int .i64 (n : Int)) ∧ w'.cell? ⟨p, 1, none⟩ = some (.slice B m d)) (by kernel_rfl) ⟨cP0, cP1⟩ (fun hHeld0 => ?_)
        obtain ⟨wt1, Hwt1⟩ : ∃ x, Hid (x = World.drew wr) := ⟨_, rfl⟩
        have hbwt1 : Below wr.heap.size wr wt1 := by rw [Hwt1.out]; exact (Below.refl _ _).drew
        rw [← Hwt1.out] at hHeld0 ⊢
        have ywt1 := hbwt1.size
        replace Tk := below_next Tk hbwt1 rfl
        replace cP0 := keepc hbwt1 cP0
        replace cP1 := keepc hbwt1 cP1
        refine wpAnyH_take (i := 0) (v := .agg #[.int .i64 (n : Int), .slice B m d]) rfl (by kernel_rfl) (by kernel_rfl) (by kernel_rfl) (fun _ _ _ h => h) (Or.inl ⟨by kernel_rfl, fun wv hSw => by (obtain ⟨hS0, hS1⟩ := hSw); go_simp⟩) (by assumption) ?_
        (try simp only [Act.put, List.getElem_toArray, List.getElem_cons_zero, List.getElem_cons_succ, List.setIfInBounds_toArray, List.set_cons_zero, List.set_cons_succ])
        refine wpAnyH_take (i := 1) (v := .slice (some ⟨b, o, none⟩) k c) rfl (by kernel_rfl) (by kernel_rfl) (by kernel_rfl) (fun _ _ _ h => h) (Or.inl ⟨by kernel_rfl, fun _ _ => by go_simp⟩) (by assumption) ?_
        (try simp only [Act.put, List.getElem_toArray, List.getElem_cons_zero, List.getElem_cons_succ, List.setIfInBounds_toArray, List.set_cons_zero, List.set_cons_succ])
        refine wpAnyH_take (i := 2) (v := .int .i64 (j : Int)) rfl (by kernel_rfl) (by kernel_rfl) (by kernel_rfl) (fun _ _ _ h => h) (Or.inl ⟨by kernel_rfl, fun _ _ => by go_simp⟩) (by assumption) ?_
        (try simp only [Act.put, List.getElem_toArray, List.getElem_cons_zero, List.getElem_cons_succ, List.setIfInBounds_toArray, List.set_cons_zero, List.set_cons_succ])
        refine wpAnyH_take (i := 5) (v := .int .i64 y) rfl (by kernel_rfl) (by kernel_rfl) (by kernel_rfl) (fun _ _ _ h => h) (Or.inl ⟨by kernel_rfl, fun _ _ => by go_simp⟩) (by assumption) ?_
        (try simp only [Act.put, List.getElem_toArray, List.getElem_cons_zero, List.getElem_cons_succ, List.setIfInBounds_toArray, List.set_cons_zero, List.set_cons_succ])
        refine wpAnyH_ready (rs := [3]) (by kernel_rfl) (by simp) ?_
        refine (AllReadyH.cons rfl (fun K hK => ?_) AllReadyH.nil)
        go_simp
        refine (without_any b o k c j L wt1 (hL.next stab_RI Tk) hjk hkc (by omega)).mono ?_
        rintro e wt2 ⟨A5, n5, c5, rfl, how5, hb5⟩
        rw [HYS.out] at how5
        have hr5 := rd_of_own (R := RI) how5 (RI_ints HYB.out)
        go_wp2_with fail
        have ywt2 := hb5.size
        replace Tk := below_next Tk hb5 rfl
        replace cP0 := keepc hb5 cP0
        replace cP1 := keepc hb5 cP1
        refine hK.out _ _ ⟨cP0, cP1⟩ (fun hHeld1 => ?_)
        clear hK K hHeld0
        (try simp only [Act.put, List.getElem_toArray, List.getElem_cons_zero, List.getElem_cons_succ, List.setIfInBounds_toArray, List.set_cons_zero, List.set_cons_succ])
        refine wpAnyH_ready (rs := [4]) (by kernel_rfl) (by simp) ?_
        refine (AllReadyH.cons rfl (fun K hK => ?_) AllReadyH.nil)
        go_simp
        have HGE := generate_any [.int .i64 (n : Int), .slice B m d] ((n : Int), ops) A5 n5 c5 ys wt2 (HRD.out wt2 (below_next hTr Tk rfl)) HAX.out hr5 HYI.out
        rw [show (Prod.fst ((n : Int), ops)).toNat = n from by simp, show genL n (Prod.snd ((n : Int), ops)) ys = zs from HZS.out] at HGE
        refine HGE.mono ?_
        rintro e wt3 ⟨A6, c6, rfl, how6, hb6⟩
        have hr6 := rd_of_own (R := RI) how6 (RI_ints HZB.out)
        go_wp2_with fail
        have ywt3 := hb6.size
        replace Tk := below_next Tk hb6 rfl
        replace hr5 := hr5.next stab_RI hb6
        replace cP0 := keepc hb6 cP0
        replace cP1 := keepc hb6 cP1
        refine hK.out _ _ ⟨cP0, cP1⟩ (fun hHeld2 => ?_)
        clear hK K hHeld1
        (try simp only [Act.put, List.getElem_toArray, List.getElem_cons_zero, List.getElem_cons_succ, List.setIfInBounds_toArray, List.set_cons_zero, List.set_cons_succ])
        refine wpAnyH_ready (rs := [6]) (by kernel_rfl) (by simp) ?_
        refine (AllReadyH.cons rfl (fun K hK => ?_) AllReadyH.nil)
        go_simp
        refine (hasNot_any A6 zs.length c6 zs y wt3 hr6).mono ?_
        rintro e wq ⟨rfl, rfl⟩
        rw [HHI.out]
        go_wp2_with fail
        refine hK.out _ _ ⟨cP0, cP1⟩ (fun hHeld3 => ?_)
        clear hK K hHeld2
        (try simp only [Act.put, List.getElem_toArray, List.getElem_cons_zero, List.getElem_cons_succ, List.setIfInBounds_toArray, List.set_cons_zero, List.set_cons_succ])
        refine wpAnyH_take (i := 7) (v := .bool true) rfl (by kernel_rfl) (by kernel_rfl) (by kernel_rfl) (fun _ _ _ h => h) (Or.inl ⟨by kernel_rfl, fun _ _ => by go_simp⟩) (by assumption) ?_
        (try simp only [Act.put, List.getElem_toArray, List.getElem_cons_zero, List.getElem_cons_succ, List.setIfInBounds_toArray, List.set_cons_zero, List.set_cons_succ])
        refine wpAnyH_done (by kernel_rfl) ?_ _
        clear hHeld3
        go_wp2_with fail
        go_ret2
        exact ⟨by rw [HNO.out]; rfl, below_next T1 (below_next hTr Tk rfl) rfl⟩
    · obtain rfl : j = k := by omega
      have hj1 : ¬ (j : Int) < (j : Int) := by omega
      have HNO : Hid (indB ((n : Int), ops) L = true) := by show _ = _; rw [HIB.out]; exact HID.out
      go_wp2_with fail
      go_ret2
      exact ⟨by rw [HNO.out]; rfl, below_next T1 hTr rfl⟩
set_option maxRecDepth 20000 in
set_option maxHeartbeats 8000000 in
theorem specInd_any (cs : List Value) (x : AlgebraM) (A : Option Addr) (k c : Nat) (L : List Int) (w : World) (h : shAlgebra.rd w cs x) (hl : RdL RI w A k L) (hkc : k ≤ c) :
    Calls Tryz.prog 8 #[.agg cs.toArray, .slice A k c] w (Bl w (.tuple #[.bool (elB x L && indB x L), .bool (elB x L)])) := by
  have hrd := h
  have hll := hl.len
  obtain ⟨B, m, d, rfl, -, -⟩ := rdAlgebra h
  obtain ⟨w0, hw0, T0, hsz0, BP⟩ := boxes1 w #[.int .i64 x.1, .slice B m d] 26
  have HW0 := Lib.hid hw0
  have hr0 := stab_same hrd T0
  have hl0 := hl.next stab_RI T0
  have cP0 := BP.cell 0
  have cP1 := BP.cell 1
  simp at cP0 cP1
  have HG := Lib.hid (l5Some_any [.int .i64 x.1, .slice B m d] x A k c L w0 hr0 hl0)
  have HLL := Lib.hid hll
  obtain ⟨r, HR⟩ : ∃ r, Hid (elB x L = r) := ⟨_, rfl⟩
  rw [HR.out] at HG ⊢
  clear hw0 hrd h hl hll
  rcases r with _ | _
  · go_enter Tryz.func8, Tryz.ntmps8
    go_upto_region 1 with fail
    rw [← HW0.out]
    go_wp2_with fail
    refine HG.out.mono ?_
    rintro e w1 ⟨rfl, hb1⟩
    go_wp2_with fail
    go_ret2
    exact ⟨rfl, below_next T0 hb1 rfl⟩
  obtain ⟨hax, hl20, hin⟩ := el_parts HR.out
  obtain ⟨z, ops⟩ := x
  obtain ⟨n, rfl⟩ : ∃ n : Nat, z = (n : Int) := ⟨z.toNat, by have h1 : 1 ≤ z := hax.1; omega⟩
  have HAX := Lib.hid hax
  have HIN := Lib.hid hin
  have hn8 : n ≤ 8 := by have h1 : (n : Int) ≤ 8 := hax.2.1; omega
  have hk20 : k ≤ 20 := by rw [← HLL.out]; exact hl20
  have HIB : Hid (indB ((n : Int), ops) L = indTo n ops L k) := by show _ = _; unfold indB; rw [HLL.out]; simp
  rw [Bool.true_and]
  obtain ⟨p, HPP⟩ : ∃ z, Hid (w.heap.size = z) := ⟨_, Lib.hid rfl⟩
  clear hax hl20 hin
  go_enter Tryz.func8, Tryz.ntmps8
  go_upto_region 1 with fail
  rw [← HW0.out]
  go_wp2_with fail
  refine HG.out.mono ?_
  rintro e w1 ⟨rfl, hb1⟩
  have T1 := below_next T0 hb1 rfl
  have BP1 := BP.next hb1
  have HRD : Hid (∀ wz, Below w1.heap.size w1 wz → shAlgebra.rd wz [.int .i64 (n : Int), .slice B m d] ((n : Int), ops)) := fun wz hz => stab_same (stab_same hr0 hb1) hz
  have hl1 := hl0.next stab_RI hb1
  rw [HPP.out] at BP1 ⊢
  clear HG cP0 cP1 hr0 hl0 hb1
  go_wp2_with fail
  go_loopw [6] (fun v wr => ∃ j : Nat, j ≤ k ∧ v = .int .i64 j ∧ indTo n ops L j = true ∧ Below w1.heap.size w1 wr) (fun v _ => k - (intOf v).toNat)
  case atStart => exact ⟨0, Nat.zero_le _, rfl, rfl, Below.refl _ _⟩
  case round =>
    obtain ⟨j, hj, rfl, hind, hTr⟩ := hrel
    have HID := Lib.hid hind
    clear hind
    have hL := hl1.next stab_RI hTr
    by_cases hjk : j < k
    · have hj0 : (0 : Int) ≤ (j : Int) := by omega
      have hj1 : (j : Int) < (k : Int) := by omega
      obtain ⟨b, o, v, y, rfl, hcy, ⟨rfl, hy0, hy1⟩, -, hxy⟩ := hL.at hjk
      have hgd : L.getD j 0 = y := by simp [List.getD, hxy]
      obtain ⟨ys, HYS⟩ : ∃ ys, Hid (L.take j ++ L.drop (j + 1) = ys) := ⟨_, Lib.hid rfl⟩
      have HYI : Hid (∀ v ∈ ys, 0 ≤ v ∧ v ≤ (n : Int) - 1) := fun v hv => by
        rw [← HYS.out] at hv
        exact HIN.out v ((List.mem_append.1 hv).elim List.mem_of_mem_take List.mem_of_mem_drop)
      have HYB : Hid (∀ v ∈ ys, -9223372036854775808 ≤ v ∧ v ≤ 9223372036854775807) := fun v hv => by have := HYI.out v hv; omega
      obtain ⟨zs, HZS⟩ : ∃ zs, Hid (genL n ops ys = zs) := ⟨_, Lib.hid rfl⟩
      have HZB : Hid (∀ v ∈ zs, -9223372036854775808 ≤ v ∧ v ≤ 9223372036854775807) := by rw [← HZS.out]; exact genL_bd (by omega)
      obtain ⟨hv, HHI⟩ : ∃ b, Hid (hasI y zs = b) := ⟨_, Lib.hid rfl⟩
      have HST : Hid (indTo n ops L (j + 1) = !hv) := by show _ = _; rw [indTo, HID.out, Bool.true_and, hgd, HYS.out, HZS.out, HHI.out]
      have cP0 := (BP1.next hTr).cell 0
      have cP1 := (BP1.next hTr).cell 1
      simp at cP0 cP1
      have oP0 := cP0
      have oP1 := cP1
      have Tk : Below wr.heap.size wr wr := Below.refl _ _
      have cy := hcy
      have oY := hcy
      obtain ⟨j2, HJ2⟩ : ∃ z, Hid (j + 1 = z) := ⟨_, Lib.hid rfl⟩
      have f1 : (j : Int) + 1 = (j2 : Int) := by have := HJ2.out; omega
      have f2 : IntKind.i64.wrap (j2 : Int) = (j2 : Int) := by rw [IntKind.wrap_i64]; omega
      have hj2 : j2 ≤ k := by have := HJ2.out; omega
      have hj2i : (j2 : Int) ≤ (k : Int) := by omega
      have hj20 : (0 : Int) ≤ (j2 : Int) := by omega
      have hjc : (j : Int) ≤ (c : Int) := by omega
      have hkcI : (k : Int) ≤ (c : Int) := by omega
      clear hxy hgd
      rcases hv with _ | _
      · have HNX : Hid (indTo n ops L (j + 1) = true) := HST.out
        by_cases hcj : c = j2
        · subst hcj
          have hkc' : k ≤ c := hkc
          go_upto_region 6 with fail
          refine wp_region_held_drew (S := fun w' => w'.cell? ⟨p, 0, none⟩ = some (.int .i64 (n : Int)) ∧ w'.cell? ⟨p, 1, none⟩ = some (.slice B m d) ∧ w'.cell? ⟨b, o + j, none⟩ = some (.int .i64 y)) (by kernel_rfl) ⟨cP0, cP1, cy⟩ (fun hHeld0 => ?_)
          obtain ⟨wt1, Hwt1⟩ : ∃ x, Hid (x = World.drew wr) := ⟨_, rfl⟩
          have hbwt1 : Below wr.heap.size wr wt1 := by rw [Hwt1.out]; exact (Below.refl _ _).drew
          rw [← Hwt1.out] at hHeld0 ⊢
          have ywt1 := hbwt1.size
          replace Tk := below_next Tk hbwt1 rfl
          replace cP0 := keepc hbwt1 cP0
          replace cP1 := keepc hbwt1 cP1
          replace cy := keepc hbwt1 cy
          refine wpAnyH_take (i := 0) (v := .agg #[.int .i64 (n : Int), .slice B m d]) rfl (by kernel_rfl) (by kernel_rfl) (by kernel_rfl) (fun _ _ _ h => h) (Or.inl ⟨by kernel_rfl, fun wv hSw => by (obtain ⟨hS0, hS1, hS2⟩ := hSw); go_simp⟩) (by assumption) ?_
          (try simp only [Act.put, List.getElem_toArray, List.getElem_cons_zero, List.getElem_cons_succ, List.setIfInBounds_toArray, List.set_cons_zero, List.set_cons_succ])
          refine wpAnyH_take (i := 1) (v := .slice (some ⟨b, o, none⟩) k c) rfl (by kernel_rfl) (by kernel_rfl) (by kernel_rfl) (fun _ _ _ h => h) (Or.inl ⟨by kernel_rfl, fun _ _ => by go_simp⟩) (by assumption) ?_
          (try simp only [Act.put, List.getElem_toArray, List.getElem_cons_zero, List.getElem_cons_succ, List.setIfInBounds_toArray, List.set_cons_zero, List.set_cons_succ])
          refine wpAnyH_take (i := 2) (v := .int .i64 (j : Int)) rfl (by kernel_rfl) (by kernel_rfl) (by kernel_rfl) (fun _ _ _ h => h) (Or.inl ⟨by kernel_rfl, fun _ _ => by go_simp⟩) (by assumption) ?_
          (try simp only [Act.put, List.getElem_toArray, List.getElem_cons_zero, List.getElem_cons_succ, List.setIfInBounds_toArray, List.set_cons_zero, List.set_cons_succ])
          refine wpAnyH_take (i := 3) (v := .slice (some ⟨b, o, none⟩) j c) rfl (by kernel_rfl) (by kernel_rfl) (by kernel_rfl) (fun _ _ _ h => h) (Or.inl ⟨by kernel_rfl, fun _ _ => by go_simp⟩) (by assumption) ?_
          (try simp only [Act.put, List.getElem_toArray, List.getElem_cons_zero, List.getElem_cons_succ, List.setIfInBounds_toArray, List.set_cons_zero, List.set_cons_succ])
          refine wpAnyH_take (i := 5) (v := .slice (some ⟨b, o, none⟩) k c) rfl (by kernel_rfl) (by kernel_rfl) (by kernel_rfl) (fun _ _ _ h => h) (Or.inl ⟨by kernel_rfl, fun _ _ => by go_simp⟩) (by assumption) ?_
          (try simp only [Act.put, List.getElem_toArray, List.getElem_cons_zero, List.getElem_cons_succ, List.setIfInBounds_toArray, List.set_cons_zero, List.set_cons_succ])
          refine wpAnyH_take (i := 6) (v := .int .i64 (j : Int)) rfl (by kernel_rfl) (by kernel_rfl) (by kernel_rfl) (fun _ _ _ h => h) (Or.inl ⟨by kernel_rfl, fun _ _ => by go_simp⟩) (by assumption) ?_
          (try simp only [Act.put, List.getElem_toArray, List.getElem_cons_zero, List.getElem_cons_succ, List.setIfInBounds_toArray, List.set_cons_zero, List.set_cons_succ])
          refine wpAnyH_take (i := 7) (v := .int .i64 (c : Int)) rfl (by kernel_rfl) (by kernel_rfl) (by kernel_rfl) (fun _ _ _ h => h) (Or.inl ⟨by kernel_rfl, fun _ _ => by go_simp⟩) (by assumption) ?_
          (try simp only [Act.put, List.getElem_toArray, List.getElem_cons_zero, List.getElem_cons_succ, List.setIfInBounds_toArray, List.set_cons_zero, List.set_cons_succ])
          refine wpAnyH_take (i := 8) (v := .slice (some ⟨b, o, none⟩) 0 0) rfl (by kernel_rfl) (by kernel_rfl) (by kernel_rfl) (fun _ _ _ h => h) (Or.inl ⟨by kernel_rfl, fun _ _ => by go_simp⟩) (by assumption) ?_
          (try simp only [Act.put, List.getElem_toArray, List.getElem_cons_zero, List.getElem_cons_succ, List.setIfInBounds_toArray, List.set_cons_zero, List.set_cons_succ])
          refine wpAnyH_take (i := 11) (v := .slice (some ⟨b, o, none⟩) k c) rfl (by kernel_rfl) (by kernel_rfl) (by kernel_rfl) (fun _ _ _ h => h) (Or.inl ⟨by kernel_rfl, fun _ _ => by go_simp⟩) (by assumption) ?_
          (try simp only [Act.put, List.getElem_toArray, List.getElem_cons_zero, List.getElem_cons_succ, List.setIfInBounds_toArray, List.set_cons_zero, List.set_cons_succ])
          refine wpAnyH_take (i := 12) (v := .int .i64 (j : Int)) rfl (by kernel_rfl) (by kernel_rfl) (by kernel_rfl) (fun _ _ _ h => h) (Or.inl ⟨by kernel_rfl, fun _ _ => by go_simp⟩) (by assumption) ?_
          (try simp only [Act.put, List.getElem_toArray, List.getElem_cons_zero, List.getElem_cons_succ, List.setIfInBounds_toArray, List.set_cons_zero, List.set_cons_succ])
          refine wpAnyH_take (i := 13) (v := .pointer (some ⟨b, o + j, none⟩)) rfl (by kernel_rfl) (by kernel_rfl) (by kernel_rfl) (fun _ _ _ h => h) (Or.inl ⟨by kernel_rfl, fun _ _ => by go_simp⟩) (by assumption) ?_
          (try simp only [Act.put, List.getElem_toArray, List.getElem_cons_zero, List.getElem_cons_succ, List.setIfInBounds_toArray, List.set_cons_zero, List.set_cons_succ])
          refine wpAnyH_take (i := 14) (v := .int .i64 y) rfl (by kernel_rfl) (by kernel_rfl) (by kernel_rfl) (fun _ _ _ h => h) (Or.inl ⟨by kernel_rfl, fun wv hSw => by (obtain ⟨hS0, hS1, hS2⟩ := hSw); go_simp⟩) (by assumption) ?_
          (try simp only [Act.put, List.getElem_toArray, List.getElem_cons_zero, List.getElem_cons_succ, List.setIfInBounds_toArray, List.set_cons_zero, List.set_cons_succ])
          refine wpAnyH_ready (rs := [4]) (by kernel_rfl) (by simp) ?_
          refine (AllReadyH.cons rfl (fun K hK => ?_) AllReadyH.nil)
          go_simp
          refine (l1Own_any (some ⟨b, o, none⟩) j _ (L.take j) wt1 ((hL.next stab_RI Tk).take (by omega)) (by omega)).mono ?_
          rintro e wt2 ⟨A5, c5, rfl, how5, hb5⟩
          replace how5 := own_mono how5 Tk.size
          go_wp2_with fail
          have ywt2 := hb5.size
          replace Tk := below_next Tk hb5 rfl
          replace cP0 := keepc hb5 cP0
          replace cP1 := keepc hb5 cP1
          replace cy := keepc hb5 cy
          refine hK.out _ _ ⟨cP0, cP1, cy⟩ (fun hHeld1 => ?_)
          clear hK K hHeld0
          (try simp only [Act.put, List.getElem_toArray, List.getElem_cons_zero, List.getElem_cons_succ, List.setIfInBounds_toArray, List.set_cons_zero, List.set_cons_succ])
          refine wpAnyH_ready (rs := [9]) (by kernel_rfl) (by simp) ?_
          refine (AllReadyH.cons rfl (fun K hK => ?_) AllReadyH.nil)
          refine step_appAny wt2 rfl (.tmp 21) (.tmp 25) 27 3 rfl (.int .i64 0) 8 Tryz.underlying27 info_int rfl (by decide) wr.heap.size j c5 A5 (ints (L.take j)) (by rfl) how5 (some ⟨b, o, none⟩) 0 0 (L.drop c) (fun x => .int .i64 x) (fun _ => rfl) (by rfl) (drop_rd0 (hL.next stab_RI Tk) hkc) (fun _ _ _ h => h.1) (by omega) Tk.size ?_
          intro A6' c6' wt3 how6' hg6' hb6'
          simp only [Nat.add_zero] at how6' ⊢
          rw [show ints (L.take j) ++ (L.drop c).map (fun x => Value.int .i64 x) = ints ys from by rw [← HYS.out, ← HJ2.out]; simp [ints]] at how6'
          have hr5 := rd_of_own (R := RI) how6' (RI_ints HYB.out)
          replace Tk := Tk.trans hb6'
          replace cP0 := keepc Tk oP0
          replace cP1 := keepc Tk oP1
          replace cy := keepc Tk oY
          refine hK.out _ _ ⟨cP0, cP1, cy⟩ (fun hHeld2 => ?_)
          clear hK K hHeld1
          (try simp only [Act.put, List.getElem_toArray, List.getElem_cons_zero, List.getElem_cons_succ, List.setIfInBounds_toArray, List.set_cons_zero, List.set_cons_succ])
          refine wpAnyH_ready (rs := [10]) (by kernel_rfl) (by simp) ?_
          refine (AllReadyH.cons rfl (fun K hK => ?_) AllReadyH.nil)
          go_simp
          have HGE := l5Close_any [.int .i64 (n : Int), .slice B m d] ((n : Int), ops) A6' j c6' ys wt3 (HRD.out wt3 (below_next hTr Tk rfl)) HAX.out hr5 HYI.out
          rw [show (Prod.fst ((n : Int), ops)).toNat = n from by simp, show genL n (Prod.snd ((n : Int), ops)) ys = zs from HZS.out] at HGE
          refine HGE.mono ?_
          rintro e wt4 ⟨A6, c6, rfl, how6, hb6⟩
          have hr6 := rd_of_own (R := RI) how6 (RI_ints HZB.out)
          go_wp2_with fail
          have ywt4 := hb6.size
          replace Tk := below_next Tk hb6 rfl
          replace hr5 := hr5.next stab_RI hb6
          replace cP0 := keepc hb6 cP0
          replace cP1 := keepc hb6 cP1
          replace cy := keepc hb6 cy
          refine hK.out _ _ ⟨cP0, cP1, cy⟩ (fun hHeld3 => ?_)
          clear hK K hHeld2
          (try simp only [Act.put, List.getElem_toArray, List.getElem_cons_zero, List.getElem_cons_succ, List.setIfInBounds_toArray, List.set_cons_zero, List.set_cons_succ])
          refine wpAnyH_ready (rs := [15]) (by kernel_rfl) (by simp) ?_
          refine (AllReadyH.cons rfl (fun K hK => ?_) AllReadyH.nil)
          go_simp
          refine (l1Has_any A6 zs.length c6 zs y wt4 hr6).mono ?_
          rintro e wq ⟨rfl, rfl⟩
          rw [HHI.out]
          go_wp2_with fail
          refine hK.out _ _ ⟨cP0, cP1, cy⟩ (fun hHeld4 => ?_)
          clear hK K hHeld3
          (try simp only [Act.put, List.getElem_toArray, List.getElem_cons_zero, List.getElem_cons_succ, List.setIfInBounds_toArray, List.set_cons_zero, List.set_cons_succ])
          refine wpAnyH_done (by kernel_rfl) ?_ _
          clear hHeld4
          go_wp2_with fail
          go_roundw
          case rel => exact ⟨j + 1, by omega, by go_num, HNX.out, below_next hTr Tk rfl⟩
          case measure => simp [intOf]; omega
        · have hcj1 : ¬ j2 = c := fun e => hcj e.symm
          go_upto_region 6 with fail
          refine wp_region_held_drew (S := fun w' => w'.cell? ⟨p, 0, none⟩ = some (.int .i64 (n : Int)) ∧ w'.cell? ⟨p, 1, none⟩ = some (.slice B m d) ∧ w'.cell? ⟨b, o + j, none⟩ = some (.int .i64 y)) (by kernel_rfl) ⟨cP0, cP1, cy⟩ (fun hHeld0 => ?_)
          obtain ⟨wt1, Hwt1⟩ : ∃ x, Hid (x = World.drew wr) := ⟨_, rfl⟩
          have hbwt1 : Below wr.heap.size wr wt1 := by rw [Hwt1.out]; exact (Below.refl _ _).drew
          rw [← Hwt1.out] at hHeld0 ⊢
          have ywt1 := hbwt1.size
          replace Tk := below_next Tk hbwt1 rfl
          replace cP0 := keepc hbwt1 cP0
          replace cP1 := keepc hbwt1 cP1
          replace cy := keepc hbwt1 cy
          refine wpAnyH_take (i := 0) (v := .agg #[.int .i64 (n : Int), .slice B m d]) rfl (by kernel_rfl) (by kernel_rfl) (by kernel_rfl) (fun _ _ _ h => h) (Or.inl ⟨by kernel_rfl, fun wv hSw => by (obtain ⟨hS0, hS1, hS2⟩ := hSw); go_simp⟩) (by assumption) ?_
          (try simp only [Act.put, List.getElem_toArray, List.getElem_cons_zero, List.getElem_cons_succ, List.setIfInBounds_toArray, List.set_cons_zero, List.set_cons_succ])
          refine wpAnyH_take (i := 1) (v := .slice (some ⟨b, o, none⟩) k c) rfl (by kernel_rfl) (by kernel_rfl) (by kernel_rfl) (fun _ _ _ h => h) (Or.inl ⟨by kernel_rfl, fun _ _ => by go_simp⟩) (by assumption) ?_
          (try simp only [Act.put, List.getElem_toArray, List.getElem_cons_zero, List.getElem_cons_succ, List.setIfInBounds_toArray, List.set_cons_zero, List.set_cons_succ])
          refine wpAnyH_take (i := 2) (v := .int .i64 (j : Int)) rfl (by kernel_rfl) (by kernel_rfl) (by kernel_rfl) (fun _ _ _ h => h) (Or.inl ⟨by kernel_rfl, fun _ _ => by go_simp⟩) (by assumption) ?_
          (try simp only [Act.put, List.getElem_toArray, List.getElem_cons_zero, List.getElem_cons_succ, List.setIfInBounds_toArray, List.set_cons_zero, List.set_cons_succ])
          refine wpAnyH_take (i := 3) (v := .slice (some ⟨b, o, none⟩) j c) rfl (by kernel_rfl) (by kernel_rfl) (by kernel_rfl) (fun _ _ _ h => h) (Or.inl ⟨by kernel_rfl, fun _ _ => by go_simp⟩) (by assumption) ?_
          (try simp only [Act.put, List.getElem_toArray, List.getElem_cons_zero, List.getElem_cons_succ, List.setIfInBounds_toArray, List.set_cons_zero, List.set_cons_succ])
          refine wpAnyH_take (i := 5) (v := .slice (some ⟨b, o, none⟩) k c) rfl (by kernel_rfl) (by kernel_rfl) (by kernel_rfl) (fun _ _ _ h => h) (Or.inl ⟨by kernel_rfl, fun _ _ => by go_simp⟩) (by assumption) ?_
          (try simp only [Act.put, List.getElem_toArray, List.getElem_cons_zero, List.getElem_cons_succ, List.setIfInBounds_toArray, List.set_cons_zero, List.set_cons_succ])
          refine wpAnyH_take (i := 6) (v := .int .i64 (j : Int)) rfl (by kernel_rfl) (by kernel_rfl) (by kernel_rfl) (fun _ _ _ h => h) (Or.inl ⟨by kernel_rfl, fun _ _ => by go_simp⟩) (by assumption) ?_
          (try simp only [Act.put, List.getElem_toArray, List.getElem_cons_zero, List.getElem_cons_succ, List.setIfInBounds_toArray, List.set_cons_zero, List.set_cons_succ])
          refine wpAnyH_take (i := 7) (v := .int .i64 (j2 : Int)) rfl (by kernel_rfl) (by kernel_rfl) (by kernel_rfl) (fun _ _ _ h => h) (Or.inl ⟨by kernel_rfl, fun _ _ => by go_simp⟩) (by assumption) ?_
          (try simp only [Act.put, List.getElem_toArray, List.getElem_cons_zero, List.getElem_cons_succ, List.setIfInBounds_toArray, List.set_cons_zero, List.set_cons_succ])
          refine wpAnyH_take (i := 8) (v := .slice (some ⟨b, o + j2, none⟩) (k - j2) (c - j2)) rfl (by kernel_rfl) (by kernel_rfl) (by kernel_rfl) (fun _ _ _ h => h) (Or.inl ⟨by kernel_rfl, fun _ _ => by go_simp⟩) (by assumption) ?_
          (try simp only [Act.put, List.getElem_toArray, List.getElem_cons_zero, List.getElem_cons_succ, List.setIfInBounds_toArray, List.set_cons_zero, List.set_cons_succ])
          refine wpAnyH_take (i := 11) (v := .slice (some ⟨b, o, none⟩) k c) rfl (by kernel_rfl) (by kernel_rfl) (by kernel_rfl) (fun _ _ _ h => h) (Or.inl ⟨by kernel_rfl, fun _ _ => by go_simp⟩) (by assumption) ?_
          (try simp only [Act.put, List.getElem_toArray, List.getElem_cons_zero, List.getElem_cons_succ, List.setIfInBounds_toArray, List.set_cons_zero, List.set_cons_succ])
          refine wpAnyH_take (i := 12) (v := .int .i64 (j : Int)) rfl (by kernel_rfl) (by kernel_rfl) (by kernel_rfl) (fun _ _ _ h => h) (Or.inl ⟨by kernel_rfl, fun _ _ => by go_simp⟩) (by assumption) ?_
          (try simp only [Act.put, List.getElem_toArray, List.getElem_cons_zero, List.getElem_cons_succ, List.setIfInBounds_toArray, List.set_cons_zero, List.set_cons_succ])
          refine wpAnyH_take (i := 13) (v := .pointer (some ⟨b, o + j, none⟩)) rfl (by kernel_rfl) (by kernel_rfl) (by kernel_rfl) (fun _ _ _ h => h) (Or.inl ⟨by kernel_rfl, fun _ _ => by go_simp⟩) (by assumption) ?_
          (try simp only [Act.put, List.getElem_toArray, List.getElem_cons_zero, List.getElem_cons_succ, List.setIfInBounds_toArray, List.set_cons_zero, List.set_cons_succ])
          refine wpAnyH_take (i := 14) (v := .int .i64 y) rfl (by kernel_rfl) (by kernel_rfl) (by kernel_rfl) (fun _ _ _ h => h) (Or.inl ⟨by kernel_rfl, fun wv hSw => by (obtain ⟨hS0, hS1, hS2⟩ := hSw); go_simp⟩) (by assumption) ?_
          (try simp only [Act.put, List.getElem_toArray, List.getElem_cons_zero, List.getElem_cons_succ, List.setIfInBounds_toArray, List.set_cons_zero, List.set_cons_succ])
          refine wpAnyH_ready (rs := [4]) (by kernel_rfl) (by simp) ?_
          refine (AllReadyH.cons rfl (fun K hK => ?_) AllReadyH.nil)
          go_simp
          refine (l1Own_any (some ⟨b, o, none⟩) j _ (L.take j) wt1 ((hL.next stab_RI Tk).take (by omega)) (by omega)).mono ?_
          rintro e wt2 ⟨A5, c5, rfl, how5, hb5⟩
          replace how5 := own_mono how5 Tk.size
          go_wp2_with fail
          have ywt2 := hb5.size
          replace Tk := below_next Tk hb5 rfl
          replace cP0 := keepc hb5 cP0
          replace cP1 := keepc hb5 cP1
          replace cy := keepc hb5 cy
          refine hK.out _ _ ⟨cP0, cP1, cy⟩ (fun hHeld1 => ?_)
          clear hK K hHeld0
          (try simp only [Act.put, List.getElem_toArray, List.getElem_cons_zero, List.getElem_cons_succ, List.setIfInBounds_toArray, List.set_cons_zero, List.set_cons_succ])
          refine wpAnyH_ready (rs := [9]) (by kernel_rfl) (by simp) ?_
          refine (AllReadyH.cons rfl (fun K hK => ?_) AllReadyH.nil)
          refine step_appAny wt2 rfl (.tmp 21) (.tmp 25) 27 3 rfl (.int .i64 0) 8 Tryz.underlying27 info_int rfl (by decide) wr.heap.size j c5 A5 (ints (L.take j)) (by rfl) how5 (some ⟨b, o + j2, none⟩) (k - j2) (c - j2) (L.drop j2) (fun x => .int .i64 x) (fun _ => rfl) (by rfl) ((hL.next stab_RI Tk).drop j2) (fun _ _ _ h => h.1) (by omega) Tk.size ?_
          intro A6' c6' wt3 how6' hg6' hb6'
          rw [show ints (L.take j) ++ (L.drop j2).map (fun x => Value.int .i64 x) = ints ys from by rw [← HYS.out, ← HJ2.out]; simp [ints]] at how6'
          have hr5 := rd_of_own (R := RI) how6' (RI_ints HYB.out)
          replace Tk := Tk.trans hb6'
          replace cP0 := keepc Tk oP0
          replace cP1 := keepc Tk oP1
          replace cy := keepc Tk oY
          refine hK.out _ _ ⟨cP0, cP1, cy⟩ (fun hHeld2 => ?_)
          clear hK K hHeld1
          (try simp only [Act.put, List.getElem_toArray, List.getElem_cons_zero, List.getElem_cons_succ, List.setIfInBounds_toArray, List.set_cons_zero, List.set_cons_succ])
          refine wpAnyH_ready (rs := [10]) (by kernel_rfl) (by simp) ?_
          refine (AllReadyH.cons rfl (fun K hK => ?_) AllReadyH.nil)
          go_simp
          have HGE := l5Close_any [.int .i64 (n : Int), .slice B m d] ((n : Int), ops) A6' (j + (k - j2)) c6' ys wt3 (HRD.out wt3 (below_next hTr Tk rfl)) HAX.out hr5 HYI.out
          rw [show (Prod.fst ((n : Int), ops)).toNat = n from by simp, show genL n (Prod.snd ((n : Int), ops)) ys = zs from HZS.out] at HGE
          refine HGE.mono ?_
          rintro e wt4 ⟨A6, c6, rfl, how6, hb6⟩
          have hr6 := rd_of_own (R := RI) how6 (RI_ints HZB.out)
          go_wp2_with fail
          have ywt4 := hb6.size
          replace Tk := below_next Tk hb6 rfl
          replace hr5 := hr5.next stab_RI hb6
          replace cP0 := keepc hb6 cP0
          replace cP1 := keepc hb6 cP1
          replace cy := keepc hb6 cy
          refine hK.out _ _ ⟨cP0, cP1, cy⟩ (fun hHeld3 => ?_)
          clear hK K hHeld2
          (try simp only [Act.put, List.getElem_toArray, List.getElem_cons_zero, List.getElem_cons_succ, List.setIfInBounds_toArray, List.set_cons_zero, List.set_cons_succ])
          refine wpAnyH_ready (rs := [15]) (by kernel_rfl) (by simp) ?_
          refine (AllReadyH.cons rfl (fun K hK => ?_) AllReadyH.nil)
          go_simp
          refine (l1Has_any A6 zs.length c6 zs y wt4 hr6).mono ?_
          rintro e wq ⟨rfl, rfl⟩
          rw [HHI.out]
          go_wp2_with fail
          refine hK.out _ _ ⟨cP0, cP1, cy⟩ (fun hHeld4 => ?_)
          clear hK K hHeld3
          (try simp only [Act.put, List.getElem_toArray, List.getElem_cons_zero, List.getElem_cons_succ, List.setIfInBounds_toArray, List.set_cons_zero, List.set_cons_succ])
          refine wpAnyH_done (by kernel_rfl) ?_ _
          clear hHeld4
          go_wp2_with fail
          go_roundw
          case rel => exact ⟨j + 1, by omega, by go_num, HNX.out, below_next hTr Tk rfl⟩
          case measure => simp [intOf]; omega
      · have HNO : Hid (indB ((n : Int), ops) L = false) := by show _ = _; rw [HIB.out]; exact indTo_no (show j + 1 ≤ k by omega) HST.out
        by_cases hcj : c = j2
        · subst hcj
          have hkc' : k ≤ c := hkc
          go_upto_region 6 with fail
          refine wp_region_held_drew (S := fun w' => w'.cell? ⟨p, 0, none⟩ = some (.int .i64 (n : Int)) ∧ w'.cell? ⟨p, 1, none⟩ = some (.slice B m d) ∧ w'.cell? ⟨b, o + j, none⟩ = some (.int .i64 y)) (by kernel_rfl) ⟨cP0, cP1, cy⟩ (fun hHeld0 => ?_)
          obtain ⟨wt1, Hwt1⟩ : ∃ x, Hid (x = World.drew wr) := ⟨_, rfl⟩
          have hbwt1 : Below wr.heap.size wr wt1 := by rw [Hwt1.out]; exact (Below.refl _ _).drew
          rw [← Hwt1.out] at hHeld0 ⊢
          have ywt1 := hbwt1.size
          replace Tk := below_next Tk hbwt1 rfl
          replace cP0 := keepc hbwt1 cP0
          replace cP1 := keepc hbwt1 cP1
          replace cy := keepc hbwt1 cy
          refine wpAnyH_take (i := 0) (v := .agg #[.int .i64 (n : Int), .slice B m d]) rfl (by kernel_rfl) (by kernel_rfl) (by kernel_rfl) (fun _ _ _ h => h) (Or.inl ⟨by kernel_rfl, fun wv hSw => by (obtain ⟨hS0, hS1, hS2⟩ := hSw); go_simp⟩) (by assumption) ?_
          (try simp only [Act.put, List.getElem_toArray, List.getElem_cons_zero, List.getElem_cons_succ, List.setIfInBounds_toArray, List.set_cons_zero, List.set_cons_succ])
          refine wpAnyH_take (i := 1) (v := .slice (some ⟨b, o, none⟩) k c) rfl (by kernel_rfl) (by kernel_rfl) (by kernel_rfl) (fun _ _ _ h => h) (Or.inl ⟨by kernel_rfl, fun _ _ => by go_simp⟩) (by assumption) ?_
          (try simp only [Act.put, List.getElem_toArray, List.getElem_cons_zero, List.getElem_cons_succ, List.setIfInBounds_toArray, List.set_cons_zero, List.set_cons_succ])
          refine wpAnyH_take (i := 2) (v := .int .i64 (j : Int)) rfl (by kernel_rfl) (by kernel_rfl) (by kernel_rfl) (fun _ _ _ h => h) (Or.inl ⟨by kernel_rfl, fun _ _ => by go_simp⟩) (by assumption) ?_
          (try simp only [Act.put, List.getElem_toArray, List.getElem_cons_zero, List.getElem_cons_succ, List.setIfInBounds_toArray, List.set_cons_zero, List.set_cons_succ])
          refine wpAnyH_take (i := 3) (v := .slice (some ⟨b, o, none⟩) j c) rfl (by kernel_rfl) (by kernel_rfl) (by kernel_rfl) (fun _ _ _ h => h) (Or.inl ⟨by kernel_rfl, fun _ _ => by go_simp⟩) (by assumption) ?_
          (try simp only [Act.put, List.getElem_toArray, List.getElem_cons_zero, List.getElem_cons_succ, List.setIfInBounds_toArray, List.set_cons_zero, List.set_cons_succ])
          refine wpAnyH_take (i := 5) (v := .slice (some ⟨b, o, none⟩) k c) rfl (by kernel_rfl) (by kernel_rfl) (by kernel_rfl) (fun _ _ _ h => h) (Or.inl ⟨by kernel_rfl, fun _ _ => by go_simp⟩) (by assumption) ?_
          (try simp only [Act.put, List.getElem_toArray, List.getElem_cons_zero, List.getElem_cons_succ, List.setIfInBounds_toArray, List.set_cons_zero, List.set_cons_succ])
          refine wpAnyH_take (i := 6) (v := .int .i64 (j : Int)) rfl (by kernel_rfl) (by kernel_rfl) (by kernel_rfl) (fun _ _ _ h => h) (Or.inl ⟨by kernel_rfl, fun _ _ => by go_simp⟩) (by assumption) ?_
          (try simp only [Act.put, List.getElem_toArray, List.getElem_cons_zero, List.getElem_cons_succ, List.setIfInBounds_toArray, List.set_cons_zero, List.set_cons_succ])
          refine wpAnyH_take (i := 7) (v := .int .i64 (c : Int)) rfl (by kernel_rfl) (by kernel_rfl) (by kernel_rfl) (fun _ _ _ h => h) (Or.inl ⟨by kernel_rfl, fun _ _ => by go_simp⟩) (by assumption) ?_
          (try simp only [Act.put, List.getElem_toArray, List.getElem_cons_zero, List.getElem_cons_succ, List.setIfInBounds_toArray, List.set_cons_zero, List.set_cons_succ])
          refine wpAnyH_take (i := 8) (v := .slice (some ⟨b, o, none⟩) 0 0) rfl (by kernel_rfl) (by kernel_rfl) (by kernel_rfl) (fun _ _ _ h => h) (Or.inl ⟨by kernel_rfl, fun _ _ => by go_simp⟩) (by assumption) ?_
          (try simp only [Act.put, List.getElem_toArray, List.getElem_cons_zero, List.getElem_cons_succ, List.setIfInBounds_toArray, List.set_cons_zero, List.set_cons_succ])
          refine wpAnyH_take (i := 11) (v := .slice (some ⟨b, o, none⟩) k c) rfl (by kernel_rfl) (by kernel_rfl) (by kernel_rfl) (fun _ _ _ h => h) (Or.inl ⟨by kernel_rfl, fun _ _ => by go_simp⟩) (by assumption) ?_
          (try simp only [Act.put, List.getElem_toArray, List.getElem_cons_zero, List.getElem_cons_succ, List.setIfInBounds_toArray, List.set_cons_zero, List.set_cons_succ])
          refine wpAnyH_take (i := 12) (v := .int .i64 (j : Int)) rfl (by kernel_rfl) (by kernel_rfl) (by kernel_rfl) (fun _ _ _ h => h) (Or.inl ⟨by kernel_rfl, fun _ _ => by go_simp⟩) (by assumption) ?_
          (try simp only [Act.put, List.getElem_toArray, List.getElem_cons_zero, List.getElem_cons_succ, List.setIfInBounds_toArray, List.set_cons_zero, List.set_cons_succ])
          refine wpAnyH_take (i := 13) (v := .pointer (some ⟨b, o + j, none⟩)) rfl (by kernel_rfl) (by kernel_rfl) (by kernel_rfl) (fun _ _ _ h => h) (Or.inl ⟨by kernel_rfl, fun _ _ => by go_simp⟩) (by assumption) ?_
          (try simp only [Act.put, List.getElem_toArray, List.getElem_cons_zero, List.getElem_cons_succ, List.setIfInBounds_toArray, List.set_cons_zero, List.set_cons_succ])
          refine wpAnyH_take (i := 14) (v := .int .i64 y) rfl (by kernel_rfl) (by kernel_rfl) (by kernel_rfl) (fun _ _ _ h => h) (Or.inl ⟨by kernel_rfl, fun wv hSw => by (obtain ⟨hS0, hS1, hS2⟩ := hSw); go_simp⟩) (by assumption) ?_
          (try simp only [Act.put, List.getElem_toArray, List.getElem_cons_zero, List.getElem_cons_succ, List.setIfInBounds_toArray, List.set_cons_zero, List.set_cons_succ])
          refine wpAnyH_ready (rs := [4]) (by kernel_rfl) (by simp) ?_
          refine (AllReadyH.cons rfl (fun K hK => ?_) AllReadyH.nil)
          go_simp
          refine (l1Own_any (some ⟨b, o, none⟩) j _ (L.take j) wt1 ((hL.next stab_RI Tk).take (by omega)) (by omega)).mono ?_
          rintro e wt2 ⟨A5, c5, rfl, how5, hb5⟩
          replace how5 := own_mono how5 Tk.size
          go_wp2_with fail
          have ywt2 := hb5.size
          replace Tk := below_next Tk hb5 rfl
          replace cP0 := keepc hb5 cP0
          replace cP1 := keepc hb5 cP1
          replace cy := keepc hb5 cy
          refine hK.out _ _ ⟨cP0, cP1, cy⟩ (fun hHeld1 => ?_)
          clear hK K hHeld0
          (try simp only [Act.put, List.getElem_toArray, List.getElem_cons_zero, List.getElem_cons_succ, List.setIfInBounds_toArray, List.set_cons_zero, List.set_cons_succ])
          refine wpAnyH_ready (rs := [9]) (by kernel_rfl) (by simp) ?_
          refine (AllReadyH.cons rfl (fun K hK => ?_) AllReadyH.nil)
          refine step_appAny wt2 rfl (.tmp 21) (.tmp 25) 27 3 rfl (.int .i64 0) 8 Tryz.underlying27 info_int rfl (by decide) wr.heap.size j c5 A5 (ints (L.take j)) (by rfl) how5 (some ⟨b, o, none⟩) 0 0 (L.drop c) (fun x => .int .i64 x) (fun _ => rfl) (by rfl) (drop_rd0 (hL.next stab_RI Tk) hkc) (fun _ _ _ h => h.1) (by omega) Tk.size ?_
          intro A6' c6' wt3 how6' hg6' hb6'
          simp only [Nat.add_zero] at how6' ⊢
          rw [show ints (L.take j) ++ (L.drop c).map (fun x => Value.int .i64 x) = ints ys from by rw [← HYS.out, ← HJ2.out]; simp [ints]] at how6'
          have hr5 := rd_of_own (R := RI) how6' (RI_ints HYB.out)
          replace Tk := Tk.trans hb6'
          replace cP0 := keepc Tk oP0
          replace cP1 := keepc Tk oP1
          replace cy := keepc Tk oY
          refine hK.out _ _ ⟨cP0, cP1, cy⟩ (fun hHeld2 => ?_)
          clear hK K hHeld1
          (try simp only [Act.put, List.getElem_toArray, List.getElem_cons_zero, List.getElem_cons_succ, List.setIfInBounds_toArray, List.set_cons_zero, List.set_cons_succ])
          refine wpAnyH_ready (rs := [10]) (by kernel_rfl) (by simp) ?_
          refine (AllReadyH.cons rfl (fun K hK => ?_) AllReadyH.nil)
          go_simp
          have HGE := l5Close_any [.int .i64 (n : Int), .slice B m d] ((n : Int), ops) A6' j c6' ys wt3 (HRD.out wt3 (below_next hTr Tk rfl)) HAX.out hr5 HYI.out
          rw [show (Prod.fst ((n : Int), ops)).toNat = n from by simp, show genL n (Prod.snd ((n : Int), ops)) ys = zs from HZS.out] at HGE
          refine HGE.mono ?_
          rintro e wt4 ⟨A6, c6, rfl, how6, hb6⟩
          have hr6 := rd_of_own (R := RI) how6 (RI_ints HZB.out)
          go_wp2_with fail
          have ywt4 := hb6.size
          replace Tk := below_next Tk hb6 rfl
          replace hr5 := hr5.next stab_RI hb6
          replace cP0 := keepc hb6 cP0
          replace cP1 := keepc hb6 cP1
          replace cy := keepc hb6 cy
          refine hK.out _ _ ⟨cP0, cP1, cy⟩ (fun hHeld3 => ?_)
          clear hK K hHeld2
          (try simp only [Act.put, List.getElem_toArray, List.getElem_cons_zero, List.getElem_cons_succ, List.setIfInBounds_toArray, List.set_cons_zero, List.set_cons_succ])
          refine wpAnyH_ready (rs := [15]) (by kernel_rfl) (by simp) ?_
          refine (AllReadyH.cons rfl (fun K hK => ?_) AllReadyH.nil)
          go_simp
          refine (l1Has_any A6 zs.length c6 zs y wt4 hr6).mono ?_
          rintro e wq ⟨rfl, rfl⟩
          rw [HHI.out]
          go_wp2_with fail
          refine hK.out _ _ ⟨cP0, cP1, cy⟩ (fun hHeld4 => ?_)
          clear hK K hHeld3
          (try simp only [Act.put, List.getElem_toArray, List.getElem_cons_zero, List.getElem_cons_succ, List.setIfInBounds_toArray, List.set_cons_zero, List.set_cons_succ])
          refine wpAnyH_done (by kernel_rfl) ?_ _
          clear hHeld4
          go_wp2_with fail
          go_ret2
          exact ⟨by rw [HNO.out]; rfl, below_next T1 (below_next hTr Tk rfl) rfl⟩
        · have hcj1 : ¬ j2 = c := fun e => hcj e.symm
          go_upto_region 6 with fail
          refine wp_region_held_drew (S := fun w' => w'.cell? ⟨p, 0, none⟩ = some (.int .i64 (n : Int)) ∧ w'.cell? ⟨p, 1, none⟩ = some (.slice B m d) ∧ w'.cell? ⟨b, o + j, none⟩ = some (.int .i64 y)) (by kernel_rfl) ⟨cP0, cP1, cy⟩ (fun hHeld0 => ?_)
          obtain ⟨wt1, Hwt1⟩ : ∃ x, Hid (x = World.drew wr) := ⟨_, rfl⟩
          have hbwt1 : Below wr.heap.size wr wt1 := by rw [Hwt1.out]; exact (Below.refl _ _).drew
          rw [← Hwt1.out] at hHeld0 ⊢
          have ywt1 := hbwt1.size
          replace Tk := below_next Tk hbwt1 rfl
          replace cP0 := keepc hbwt1 cP0
          replace cP1 := keepc hbwt1 cP1
          replace cy := keepc hbwt1 cy
          refine wpAnyH_take (i := 0) (v := .agg #[.int .i64 (n : Int), .slice B m d]) rfl (by kernel_rfl) (by kernel_rfl) (by kernel_rfl) (fun _ _ _ h => h) (Or.inl ⟨by kernel_rfl, fun wv hSw => by (obtain ⟨hS0, hS1, hS2⟩ := hSw); go_simp⟩) (by assumption) ?_
          (try simp only [Act.put, List.getElem_toArray, List.getElem_cons_zero, List.getElem_cons_succ, List.setIfInBounds_toArray, List.set_cons_zero, List.set_cons_succ])
          refine wpAnyH_take (i := 1) (v := .slice (some ⟨b, o, none⟩) k c) rfl (by kernel_rfl) (by kernel_rfl) (by kernel_rfl) (fun _ _ _ h => h) (Or.inl ⟨by kernel_rfl, fun _ _ => by go_simp⟩) (by assumption) ?_
          (try simp only [Act.put, List.getElem_toArray, List.getElem_cons_zero, List.getElem_cons_succ, List.setIfInBounds_toArray, List.set_cons_zero, List.set_cons_succ])
          refine wpAnyH_take (i := 2) (v := .int .i64 (j : Int)) rfl (by kernel_rfl) (by kernel_rfl) (by kernel_rfl) (fun _ _ _ h => h) (Or.inl ⟨by kernel_rfl, fun _ _ => by go_simp⟩) (by assumption) ?_
          (try simp only [Act.put, List.getElem_toArray, List.getElem_cons_zero, List.getElem_cons_succ, List.setIfInBounds_toArray, List.set_cons_zero, List.set_cons_succ])
          refine wpAnyH_take (i := 3) (v := .slice (some ⟨b, o, none⟩) j c) rfl (by kernel_rfl) (by kernel_rfl) (by kernel_rfl) (fun _ _ _ h => h) (Or.inl ⟨by kernel_rfl, fun _ _ => by go_simp⟩) (by assumption) ?_
          (try simp only [Act.put, List.getElem_toArray, List.getElem_cons_zero, List.getElem_cons_succ, List.setIfInBounds_toArray, List.set_cons_zero, List.set_cons_succ])
          refine wpAnyH_take (i := 5) (v := .slice (some ⟨b, o, none⟩) k c) rfl (by kernel_rfl) (by kernel_rfl) (by kernel_rfl) (fun _ _ _ h => h) (Or.inl ⟨by kernel_rfl, fun _ _ => by go_simp⟩) (by assumption) ?_
          (try simp only [Act.put, List.getElem_toArray, List.getElem_cons_zero, List.getElem_cons_succ, List.setIfInBounds_toArray, List.set_cons_zero, List.set_cons_succ])
          refine wpAnyH_take (i := 6) (v := .int .i64 (j : Int)) rfl (by kernel_rfl) (by kernel_rfl) (by kernel_rfl) (fun _ _ _ h => h) (Or.inl ⟨by kernel_rfl, fun _ _ => by go_simp⟩) (by assumption) ?_
          (try simp only [Act.put, List.getElem_toArray, List.getElem_cons_zero, List.getElem_cons_succ, List.setIfInBounds_toArray, List.set_cons_zero, List.set_cons_succ])
          refine wpAnyH_take (i := 7) (v := .int .i64 (j2 : Int)) rfl (by kernel_rfl) (by kernel_rfl) (by kernel_rfl) (fun _ _ _ h => h) (Or.inl ⟨by kernel_rfl, fun _ _ => by go_simp⟩) (by assumption) ?_
          (try simp only [Act.put, List.getElem_toArray, List.getElem_cons_zero, List.getElem_cons_succ, List.setIfInBounds_toArray, List.set_cons_zero, List.set_cons_succ])
          refine wpAnyH_take (i := 8) (v := .slice (some ⟨b, o + j2, none⟩) (k - j2) (c - j2)) rfl (by kernel_rfl) (by kernel_rfl) (by kernel_rfl) (fun _ _ _ h => h) (Or.inl ⟨by kernel_rfl, fun _ _ => by go_simp⟩) (by assumption) ?_
          (try simp only [Act.put, List.getElem_toArray, List.getElem_cons_zero, List.getElem_cons_succ, List.setIfInBounds_toArray, List.set_cons_zero, List.set_cons_succ])
          refine wpAnyH_take (i := 11) (v := .slice (some ⟨b, o, none⟩) k c) rfl (by kernel_rfl) (by kernel_rfl) (by kernel_rfl) (fun _ _ _ h => h) (Or.inl ⟨by kernel_rfl, fun _ _ => by go_simp⟩) (by assumption) ?_
          (try simp only [Act.put, List.getElem_toArray, List.getElem_cons_zero, List.getElem_cons_succ, List.setIfInBounds_toArray, List.set_cons_zero, List.set_cons_succ])
          refine wpAnyH_take (i := 12) (v := .int .i64 (j : Int)) rfl (by kernel_rfl) (by kernel_rfl) (by kernel_rfl) (fun _ _ _ h => h) (Or.inl ⟨by kernel_rfl, fun _ _ => by go_simp⟩) (by assumption) ?_
          (try simp only [Act.put, List.getElem_toArray, List.getElem_cons_zero, List.getElem_cons_succ, List.setIfInBounds_toArray, List.set_cons_zero, List.set_cons_succ])
          refine wpAnyH_take (i := 13) (v := .pointer (some ⟨b, o + j, none⟩)) rfl (by kernel_rfl) (by kernel_rfl) (by kernel_rfl) (fun _ _ _ h => h) (Or.inl ⟨by kernel_rfl, fun _ _ => by go_simp⟩) (by assumption) ?_
          (try simp only [Act.put, List.getElem_toArray, List.getElem_cons_zero, List.getElem_cons_succ, List.setIfInBounds_toArray, List.set_cons_zero, List.set_cons_succ])
          refine wpAnyH_take (i := 14) (v := .int .i64 y) rfl (by kernel_rfl) (by kernel_rfl) (by kernel_rfl) (fun _ _ _ h => h) (Or.inl ⟨by kernel_rfl, fun wv hSw => by (obtain ⟨hS0, hS1, hS2⟩ := hSw); go_simp⟩) (by assumption) ?_
          (try simp only [Act.put, List.getElem_toArray, List.getElem_cons_zero, List.getElem_cons_succ, List.setIfInBounds_toArray, List.set_cons_zero, List.set_cons_succ])
          refine wpAnyH_ready (rs := [4]) (by kernel_rfl) (by simp) ?_
          refine (AllReadyH.cons rfl (fun K hK => ?_) AllReadyH.nil)
          go_simp
          refine (l1Own_any (some ⟨b, o, none⟩) j _ (L.take j) wt1 ((hL.next stab_RI Tk).take (by omega)) (by omega)).mono ?_
          rintro e wt2 ⟨A5, c5, rfl, how5, hb5⟩
          replace how5 := own_mono how5 Tk.size
          go_wp2_with fail
          have ywt2 := hb5.size
          replace Tk := below_next Tk hb5 rfl
          replace cP0 := keepc hb5 cP0
          replace cP1 := keepc hb5 cP1
          replace cy := keepc hb5 cy
          refine hK.out _ _ ⟨cP0, cP1, cy⟩ (fun hHeld1 => ?_)
          clear hK K hHeld0
          (try simp only [Act.put, List.getElem_toArray, List.getElem_cons_zero, List.getElem_cons_succ, List.setIfInBounds_toArray, List.set_cons_zero, List.set_cons_succ])
          refine wpAnyH_ready (rs := [9]) (by kernel_rfl) (by simp) ?_
          refine (AllReadyH.cons rfl (fun K hK => ?_) AllReadyH.nil)
          refine step_appAny wt2 rfl (.tmp 21) (.tmp 25) 27 3 rfl (.int .i64 0) 8 Tryz.underlying27 info_int rfl (by decide) wr.heap.size j c5 A5 (ints (L.take j)) (by rfl) how5 (some ⟨b, o + j2, none⟩) (k - j2) (c - j2) (L.drop j2) (fun x => .int .i64 x) (fun _ => rfl) (by rfl) ((hL.next stab_RI Tk).drop j2) (fun _ _ _ h => h.1) (by omega) Tk.size ?_
          intro A6' c6' wt3 how6' hg6' hb6'
          rw [show ints (L.take j) ++ (L.drop j2).map (fun x => Value.int .i64 x) = ints ys from by rw [← HYS.out, ← HJ2.out]; simp [ints]] at how6'
          have hr5 := rd_of_own (R := RI) how6' (RI_ints HYB.out)
          replace Tk := Tk.trans hb6'
          replace cP0 := keepc Tk oP0
          replace cP1 := keepc Tk oP1
          replace cy := keepc Tk oY
          refine hK.out _ _ ⟨cP0, cP1, cy⟩ (fun hHeld2 => ?_)
          clear hK K hHeld1
          (try simp only [Act.put, List.getElem_toArray, List.getElem_cons_zero, List.getElem_cons_succ, List.setIfInBounds_toArray, List.set_cons_zero, List.set_cons_succ])
          refine wpAnyH_ready (rs := [10]) (by kernel_rfl) (by simp) ?_
          refine (AllReadyH.cons rfl (fun K hK => ?_) AllReadyH.nil)
          go_simp
          have HGE := l5Close_any [.int .i64 (n : Int), .slice B m d] ((n : Int), ops) A6' (j + (k - j2)) c6' ys wt3 (HRD.out wt3 (below_next hTr Tk rfl)) HAX.out hr5 HYI.out
          rw [show (Prod.fst ((n : Int), ops)).toNat = n from by simp, show genL n (Prod.snd ((n : Int), ops)) ys = zs from HZS.out] at HGE
          refine HGE.mono ?_
          rintro e wt4 ⟨A6, c6, rfl, how6, hb6⟩
          have hr6 := rd_of_own (R := RI) how6 (RI_ints HZB.out)
          go_wp2_with fail
          have ywt4 := hb6.size
          replace Tk := below_next Tk hb6 rfl
          replace hr5 := hr5.next stab_RI hb6
          replace cP0 := keepc hb6 cP0
          replace cP1 := keepc hb6 cP1
          replace cy := keepc hb6 cy
          refine hK.out _ _ ⟨cP0, cP1, cy⟩ (fun hHeld3 => ?_)
          clear hK K hHeld2
          (try simp only [Act.put, List.getElem_toArray, List.getElem_cons_zero, List.getElem_cons_succ, List.setIfInBounds_toArray, List.set_cons_zero, List.set_cons_succ])
          refine wpAnyH_ready (rs := [15]) (by kernel_rfl) (by simp) ?_
          refine (AllReadyH.cons rfl (fun K hK => ?_) AllReadyH.nil)
          go_simp
          refine (l1Has_any A6 zs.length c6 zs y wt4 hr6).mono ?_
          rintro e wq ⟨rfl, rfl⟩
          rw [HHI.out]
          go_wp2_with fail
          refine hK.out _ _ ⟨cP0, cP1, cy⟩ (fun hHeld4 => ?_)
          clear hK K hHeld3
          (try simp only [Act.put, List.getElem_toArray, List.getElem_cons_zero, List.getElem_cons_succ, List.setIfInBounds_toArray, List.set_cons_zero, List.set_cons_succ])
          refine wpAnyH_done (by kernel_rfl) ?_ _
          clear hHeld4
          go_wp2_with fail
          go_ret2
          exact ⟨by rw [HNO.out]; rfl, below_next T1 (below_next hTr Tk rfl) rfl⟩
    · obtain rfl : j = k := by omega
      have hj1 : ¬ (j : Int) < (j : Int) := by omega
      have HNO : Hid (indB ((n : Int), ops) L = true) := by show _ = _; rw [HIB.out]; exact HID.out
      go_wp2_with fail
      go_ret2
      exact ⟨by rw [HNO.out]; rfl, below_next T1 hTr rfl⟩
end Go.Proofs.YtkmgbdljiajlaaaGreat
namespace Go.Proofs.YtkmgbdljiajlaaaGreat
open Go.RowKit

theorem less_of_sub2 {n : Nat} {b s : List Int} (hb : IsSet n b) (hs : IsSet n s) (h : ∀ x ∈ b, x ∈ s) : s = b ∨ lessT b s = true := by
  by_cases he : ∀ x ∈ s, x ∈ b
  · exact .inl (set_ext hs hb fun x => ⟨he x, h x⟩)
  · refine .inr (lessT_iff.2 (.inl ?_))
    have hnb : b.Nodup := hb.1.imp fun h => by omega
    have hns : s.Nodup := hs.1.imp fun h => by omega
    rcases Nat.lt_or_ge b.length s.length with h1 | h1
    · exact h1
    · exfalso
      refine he fun x hx => ?_
      refine Classical.byContradiction fun hxb => ?_
      have := nodup_len (l := x :: b) (m := s) (List.nodup_cons.2 ⟨hxb, hnb⟩) fun y hy => by
        rcases List.mem_cons.1 hy with rfl | hy
        · exact hx
        · exact h y hy
      simp at this
      omega
end Go.Proofs.YtkmgbdljiajlaaaGreat
namespace Go.Proofs.YtkmgbdljiajlaaaGreat
open Go.RowKit

section
variable {n : Nat} {S : List (List Int)}
theorem close_in {set : List Int} : ∀ {l : List (List Int)}, (∃ s ∈ l, partL s set = true) → closeL set l ∈ l ∧ partL (closeL set l) set = true
  | [], h => by obtain ⟨s, hs, -⟩ := h; simp at hs
  | s :: l, h => by
    rw [closeL]
    by_cases h1 : partL s set = true
    · rw [if_pos h1]; exact ⟨List.mem_cons_self .., h1⟩
    · rw [if_neg h1]
      obtain ⟨t, ht, hp⟩ := h
      rcases List.mem_cons.1 ht with rfl | ht
      · exact absurd hp h1
      · have := close_in ⟨t, ht, hp⟩
        exact ⟨List.mem_cons_of_mem _ this.1, this.2⟩
theorem sys_close (hS : IsSys n S) {set : List Int} (hs : ∀ x ∈ set, 0 ≤ x ∧ x < (n : Int)) : closeL set S ∈ S ∧ partL (closeL set S) set = true :=
  close_in ⟨upTo n, hS.2.2, partL_iff.2 fun x hx => mem_upTo.2 (hs x hx)⟩
/-- The closure is at most each closed set that has the set. -/
theorem close_first {set : List Int} : ∀ {l : List (List Int)}, Srt l → ∀ m ∈ l, partL m set = true → closeL set l = m ∨ lessT (closeL set l) m = true
  | s :: l, hs, m, hm, hp => by
    rw [closeL]
    by_cases h1 : partL s set = true
    · rw [if_pos h1]
      rcases List.mem_cons.1 hm with rfl | hm
      · exact .inl rfl
      · exact .inr ((List.pairwise_cons.1 hs).1 m hm)
    · rw [if_neg h1]
      rcases List.mem_cons.1 hm with rfl | hm
      · exact absurd hp h1
      · exact close_first (List.pairwise_cons.1 hs).2 m hm hp
theorem close_least (hS : IsSys n S) {set c : List Int} (hs : ∀ x ∈ set, 0 ≤ x ∧ x < (n : Int)) (hc : c ∈ S) (hp : partL c set = true) : partL c (closeL set S) = true := by
  obtain ⟨h1, h2⟩ := sys_close hS hs
  have hm := hS.2.1 _ h1 _ hc
  have hmp : partL (meetL c (closeL set S)) set = true := partL_iff.2 fun x hx => mem_meetL.2 ⟨partL_iff.1 h2 x hx, partL_iff.1 hp x hx⟩
  have hms := hS.1.2 _ hm
  have hcs := hS.1.2 _ h1
  have key : closeL set S = meetL c (closeL set S) := by
    rcases close_first hS.1.1 _ hm hmp with e | e
    · exact e
    · rcases less_of_sub2 hms hcs (fun x hx => (mem_meetL.1 hx).1) with e2 | e2
      · exact e2
      · exact absurd (lessT_trans _ _ _ e e2) (lessT_irr _)
  exact partL_iff.2 fun x hx => by rw [key] at hx; exact (mem_meetL.1 hx).2

/-! ## The meet-irreducible sets -/
end
end Go.Proofs.YtkmgbdljiajlaaaGreat
namespace Go.Proofs.YtkmgbdljiajlaaaGreat
open Go.RowKit
set_option linter.unusedVariables false
set_option linter.unusedSimpArgs false

section
variable {n : Nat} {ops : List OpM}
theorem gen_mem {S : List Int} {x : Int} : x ∈ genL n ops S ↔ ∃ y : Nat, y < n ∧ clB n ops (gB (inL n S)) y = true ∧ x = (y : Int) := markL_mem
theorem gen_set (S : List Int) : IsSet n (genL n ops S) := ⟨markL_asc _ _, fun x hx => by have := markL_in x hx; omega⟩
theorem inL_mem {S : List Int} {y : Nat} (h : y < n) : gB (inL n S) y = true ↔ (y : Int) ∈ S := by rw [inL_get h, hasI_iff]
theorem gen_sup {S : List Int} {x : Int} (hx : x ∈ S) (h0 : 0 ≤ x) (h1 : x < (n : Int)) : x ∈ genL n ops S := by
  obtain ⟨y, rfl⟩ := Int.eq_ofNat_of_zero_le h0
  exact gen_mem.2 ⟨y, by omega, clB_sup n ops _ y (by omega) ((inL_mem (by omega)).2 hx), rfl⟩
theorem gen_in {S T : List Int} (h : ∀ x ∈ S, 0 ≤ x → x < (n : Int) → x ∈ genL n ops T) {x : Int} (hx : x ∈ genL n ops S) : x ∈ genL n ops T := by
  obtain ⟨y, hy, hc, rfl⟩ := gen_mem.1 hx
  refine gen_mem.2 ⟨y, hy, clB_least (clB_closed n ops _) (fun z hz hb => ?_) y hy hc, rfl⟩
  obtain ⟨z', _, h2, h3⟩ := gen_mem.1 (h z ((inL_mem hz).1 hb) (by omega) (by omega))
  have : z = z' := by omega
  subst this
  exact h2
theorem gen_mono {S T : List Int} (h : ∀ x ∈ S, x ∈ T) {x : Int} (hx : x ∈ genL n ops S) : x ∈ genL n ops T := gen_in (fun y hy h0 h1 => gen_sup (h y hy) h0 h1) hx
theorem gen_congr {S T : List Int} (h : ∀ x, x ∈ S ↔ x ∈ T) : genL n ops S = genL n ops T :=
  set_ext (gen_set S) (gen_set T) fun x => ⟨gen_mono fun y hy => (h y).1 hy, gen_mono fun y hy => (h y).2 hy⟩
theorem gen_idem (S : List Int) : genL n ops (genL n ops S) = genL n ops S :=
  set_ext (gen_set _) (gen_set S) fun x => ⟨gen_in fun y hy _ _ => hy, fun hx => gen_sup hx ((gen_set S).2 x hx).1 ((gen_set S).2 x hx).2⟩
theorem sub_iff {V : List Int} : subB n ops V = true ↔ IsSet n V ∧ genL n ops V = V := by
  have e : subB n ops V = (setB n V && decide ((genL n ops V).length = V.length)) := rfl
  rw [e, Bool.and_eq_true, setB_iff, decide_eq_true_eq]
  constructor
  · rintro ⟨h1, h2⟩
    exact ⟨h1, (gen_eq (fun v hv => by have := h1.2 v hv; omega) (rises_iff.2 h1.1)).1 h2⟩
  · rintro ⟨h1, h2⟩
    exact ⟨h1, by rw [h2]⟩
/-! ## Masks and sets -/
theorem bits_low {m k : Nat} : ∀ {j : Nat}, j ≤ k → bitsTo (m + 2 ^ k) j = bitsTo m j
  | 0, _ => rfl
  | j + 1, h => by
    rw [bitsTo, bitsTo, bits_low (by omega)]
    have e : 2 ^ k = 2 ^ j * (2 * 2 ^ (k - j - 1)) := by
      rw [← Nat.mul_assoc, ← Nat.pow_succ, ← Nat.pow_add]
      congr 1
      omega
    have e2 : (m + 2 ^ k) / 2 ^ j % 2 = m / 2 ^ j % 2 := by
      rw [e, Nat.add_mul_div_left _ _ (Nat.two_pow_pos j), Nat.add_mul_mod_self_left]
    rw [e2]
theorem bits_high {m k : Nat} (h : m < 2 ^ k) : ∀ t, bitsTo m (k + t) = bitsTo m k
  | 0 => rfl
  | t + 1 => by
    rw [← Nat.add_assoc, bitsTo, bits_high h t]
    have : m / 2 ^ (k + t) = 0 := Nat.div_eq_of_lt (Nat.lt_of_lt_of_le h (Nat.pow_le_pow_right (by decide) (by omega)))
    rw [this]
    simp
theorem valB_app (p q : List Int) : valB (p ++ q) = valB p + valB q := by
  induction p with
  | nil => simp [valB]
  | cons x l ih => rw [List.cons_append, valB, valB, ih]; omega
theorem bits_set : ∀ {k : Nat} {p : List Int}, IsSet k p → bitsTo (valB p) k = p ∧ valB p < 2 ^ k
  | 0, p, h => by
    obtain rfl : p = [] := List.eq_nil_iff_forall_not_mem.2 fun x hx => by have := h.2 x hx; omega
    exact ⟨rfl, by decide⟩
  | k + 1, p, h => by
    have hq : IsSet k (p.filter fun x => decide (x < (k : Int))) := ⟨h.1.filter _, fun x hx => by
      obtain ⟨h1, h2⟩ := List.mem_filter.1 hx
      exact ⟨(h.2 x h1).1, by simpa using h2⟩⟩
    obtain ⟨e1, e2⟩ := bits_set hq
    by_cases hk : (k : Int) ∈ p
    · have e : p = (p.filter fun x => decide (x < (k : Int))) ++ [(k : Int)] := by
        refine set_ext (n := k + 1) (m := k + 1) h ⟨List.pairwise_append.2 ⟨hq.1, List.pairwise_singleton .., fun a ha b hb => by rw [List.mem_singleton.1 hb]; exact (hq.2 a ha).2⟩, fun x hx => ?_⟩ fun x => ?_
        · rcases List.mem_append.1 hx with hx | hx
          · have := hq.2 x hx; omega
          · rw [List.mem_singleton.1 hx]; omega
        · rw [List.mem_append, List.mem_singleton, List.mem_filter]
          constructor
          · intro hx
            have := h.2 x hx
            by_cases hxk : x < (k : Int)
            · exact .inl ⟨hx, by simpa using hxk⟩
            · exact .inr (by omega)
          · rintro (hx | rfl)
            · exact hx.1
            · exact hk
      have ev : valB p = valB (p.filter fun x => decide (x < (k : Int))) + 2 ^ k := by
        conv => lhs; rw [e]
        rw [valB_app]
        simp [valB]
      generalize (p.filter fun x => decide (x < (k : Int))) = q at e ev e1 e2
      refine ⟨?_, by rw [ev, Nat.pow_succ]; omega⟩
      rw [bitsTo, ev, bits_low (Nat.le_refl k), e1, Nat.add_div_right _ (Nat.two_pow_pos k), Nat.div_eq_of_lt e2, e]
      simp
    · have e : p = p.filter fun x => decide (x < (k : Int)) := by
        refine (List.filter_eq_self.2 fun x hx => ?_).symm
        have := h.2 x hx
        have hne : x ≠ (k : Int) := fun e => hk (e ▸ hx)
        simp
        omega
      rw [← e] at e1 e2
      refine ⟨?_, by rw [Nat.pow_succ]; omega⟩
      rw [bitsTo, e1, Nat.div_eq_of_lt e2]
      simp
theorem bits8_set {p : List Int} (hn : n ≤ 8) (h : IsSet n p) : bitsTo (valB p) 8 = p ∧ valB p < 2 ^ n := by
  obtain ⟨e1, e2⟩ := bits_set h
  have e3 := bits_high e2 (8 - n)
  rw [show n + (8 - n) = 8 by omega, e1] at e3
  exact ⟨e3, e2⟩
theorem bits6_set {p : List Int} (hn : n ≤ 6) (h : IsSet n p) : bitsTo (valB p) 6 = p ∧ valB p < 2 ^ n := by
  obtain ⟨e1, e2⟩ := bits_set h
  have e3 := bits_high e2 (6 - n)
  rw [show n + (6 - n) = 6 by omega, e1] at e3
  exact ⟨e3, e2⟩
theorem bits6_in {q : Nat} (h : q < 2 ^ n) (hn : n ≤ 6) : IsSet n (bitsTo q 6) := by
  have key : ∀ n : Nat, n ≤ 6 → ∀ q : Nat, q < 2 ^ n → setB (n : Int) (bitsTo q 6) = true := by decide +kernel
  exact setB_iff.1 (key n hn q h)
/-! ## The system of subuniverses -/
theorem subs_mem (hn : n ≤ 8) {p : List Int} : p ∈ subsL ((n : Int), ops) ↔ IsSet n p ∧ genL n ops p = p := by
  have e : subsL ((n : Int), ops) = insA (subB n ops) (2 ^ n) := by unfold subsL; simp
  rw [e, insA_mem, selA_mem (pow8 hn)]
  constructor
  · rintro ⟨j, -, -, h⟩
    exact sub_iff.1 h
  · intro h
    obtain ⟨e1, e2⟩ := bits8_set hn h.1
    exact ⟨valB p, e2, e1.symm, sub_iff.2 h⟩
theorem subs_sys (hn : n ≤ 8) : IsSys n (subsL ((n : Int), ops)) := by
  have e : subsL ((n : Int), ops) = insA (subB n ops) (2 ^ n) := by unfold subsL; simp
  refine ⟨⟨by rw [e]; exact insA_srt _ (pow8 hn), fun p hp => ((subs_mem hn).1 hp).1⟩, fun p hp q hq => ?_, ?_⟩
  · obtain ⟨p1, p2⟩ := (subs_mem hn).1 hp
    obtain ⟨q1, q2⟩ := (subs_mem hn).1 hq
    have hm : IsSet n (meetL q p) := p1.meet q
    refine (subs_mem hn).2 ⟨hm, set_ext (gen_set _) hm fun x => ⟨fun hx => ?_, fun hx => gen_sup hx (hm.2 x hx).1 (hm.2 x hx).2⟩⟩
    rw [mem_meetL]
    exact ⟨by rw [← p2]; exact gen_mono (fun y hy => (mem_meetL.1 hy).1) hx, by rw [← q2]; exact gen_mono (fun y hy => (mem_meetL.1 hy).2) hx⟩
  · refine (subs_mem hn).2 ⟨upTo_set n, set_ext (gen_set _) (upTo_set n) fun x => ⟨fun hx => mem_upTo.2 ((gen_set _).2 x hx), fun hx => gen_sup hx (mem_upTo.1 hx).1 (mem_upTo.1 hx).2⟩⟩
theorem subs_close (hn : n ≤ 8) {T : List Int} (hT : ∀ x ∈ T, 0 ≤ x ∧ x < (n : Int)) : closeL T (subsL ((n : Int), ops)) = genL n ops T := by
  have hS := subs_sys (ops := ops) hn
  obtain ⟨h1, h2⟩ := sys_close hS hT
  obtain ⟨c1, c2⟩ := (subs_mem hn).1 h1
  have hG : genL n ops T ∈ subsL ((n : Int), ops) := (subs_mem hn).2 ⟨gen_set T, gen_idem T⟩
  have hp := close_least hS hT hG (partL_iff.2 fun x hx => gen_sup hx (hT x hx).1 (hT x hx).2)
  refine set_ext c1 (gen_set T) fun x => ⟨fun hx => partL_iff.1 hp x hx, fun hx => ?_⟩
  rw [← c2]
  exact gen_mono (fun y hy => partL_iff.1 h2 y hy) hx
theorem subs_res (hn : n ≤ 6) : sysRes (n : Int) (subsL ((n : Int), ops)) = true := by
  unfold sysRes
  rw [sysB_iff.2 (subs_sys (by omega)), Bool.and_true]
  unfold inB
  simp
  omega
theorem subs_lenL (hn : n ≤ 8) : ∀ s ∈ subsL ((n : Int), ops), s.length ≤ 1048576 := fun s hs => by
  have h := ((subs_mem hn).1 hs).1
  have h1 := nodup_len (l := s) (m := upTo n) (h.1.imp fun hab => by omega) fun x hx => mem_upTo.2 (h.2 x hx)
  rw [upTo_len] at h1
  omega
/-! ## Independent lists -/
/-- The members of a list in order. -/
def setL (n : Nat) (L : List Int) : List Int := markL n fun y => hasI (y : Int) L
theorem setL_set (L : List Int) : IsSet n (setL n L) := ⟨markL_asc _ _, fun x hx => by have := markL_in x hx; omega⟩
theorem setL_mem {L : List Int} (h : ∀ v ∈ L, 0 ≤ v ∧ v ≤ (n : Int) - 1) {x : Int} : x ∈ setL n L ↔ x ∈ L := by
  unfold setL
  rw [markL_mem]
  constructor
  · rintro ⟨y, -, h1, rfl⟩
    exact hasI_iff.1 h1
  · intro hx
    obtain ⟨y, rfl⟩ := Int.eq_ofNat_of_zero_le (h x hx).1
    exact ⟨y, by have := (h _ hx).2; omega, hasI_iff.2 hx, rfl⟩
theorem indTo_iff {xs : List Int} : ∀ {k : Nat}, indTo n ops xs k = true ↔ ∀ i, i < k → xs.getD i 0 ∉ genL n ops (xs.take i ++ xs.drop (i + 1))
  | 0 => by simp [indTo]
  | k + 1 => by
    rw [indTo, Bool.and_eq_true, indTo_iff, Bool.not_eq_true', ← Bool.not_eq_true, hasI_iff]
    constructor
    · rintro ⟨h1, h2⟩ i hi
      by_cases e : i = k
      · subst e; exact h2
      · exact h1 i (by omega)
    · intro h
      exact ⟨fun i hi => h i (by omega), h k (by omega)⟩
theorem freeTo_iff {S : List (List Int)} {xs : List Int} : ∀ {k : Nat}, freeTo S xs k = true ↔ ∀ i, i < k → xs.getD i 0 ∉ closeL (xs.take i ++ xs.drop (i + 1)) S
  | 0 => by simp [freeTo]
  | k + 1 => by
    rw [freeTo, Bool.and_eq_true, freeTo_iff, Bool.not_eq_true', ← Bool.not_eq_true, hasI_iff]
    constructor
    · rintro ⟨h1, h2⟩ i hi
      by_cases e : i = k
      · subst e; exact h2
      · exact h1 i (by omega)
    · intro h
      exact ⟨fun i hi => h i (by omega), h k (by omega)⟩
theorem frees_iff {S : List (List Int)} : ∀ {k : Nat} {x : List Int}, x ∈ frees S k ↔ ∃ j, j < k ∧ x = bitsTo j 6 ∧ freeB S x = true
  | 0, x => by simp [frees]
  | k + 1, x => by
    rw [frees, List.mem_append, frees_iff]
    constructor
    · rintro (⟨j, h1, h2, h3⟩ | h)
      · exact ⟨j, by omega, h2, h3⟩
      · split at h
        · rename_i hp
          rw [List.mem_singleton.1 h]
          exact ⟨k, by omega, rfl, hp⟩
        · simp at h
    · rintro ⟨j, h1, h2, h3⟩
      by_cases e : j = k
      · subst e
        right
        rw [← h2, if_pos h3]
        simp
      · exact .inl ⟨j, by omega, h2, h3⟩
theorem wo_split {l : List Int} {i : Nat} (hi : i < l.length) : l = l.take i ++ l.getD i 0 :: l.drop (i + 1) := by
  have e : l.getD i 0 = l[i] := by simp [List.getD, List.getElem?_eq_getElem hi]
  rw [e, ← List.drop_eq_getElem_cons hi, List.take_append_drop]
theorem wo_mem {l : List Int} {i : Nat} (hi : i < l.length) (hn : l.Nodup) {y : Int} : y ∈ l.take i ++ l.drop (i + 1) ↔ y ∈ l ∧ y ≠ l.getD i 0 := by
  have e := wo_split hi
  rw [e, List.nodup_append] at hn
  obtain ⟨h1, h2, h3⟩ := hn
  rw [List.nodup_cons] at h2
  generalize l.getD i 0 = a at *
  constructor
  · intro hy
    rcases List.mem_append.1 hy with hy | hy
    · exact ⟨by rw [e]; exact List.mem_append_left _ hy, fun e2 => h3 y hy a (List.mem_cons_self ..) e2⟩
    · exact ⟨by rw [e]; exact List.mem_append_right _ (List.mem_cons_of_mem _ hy), fun e2 => h2.1 (e2 ▸ hy)⟩
  · rintro ⟨hy, hne⟩
    rw [e] at hy
    rcases List.mem_append.1 hy with hy | hy
    · exact List.mem_append_left _ hy
    · rcases List.mem_cons.1 hy with hy | hy
      · exact absurd hy hne
      · exact List.mem_append_right _ hy
theorem wo_nodup : ∀ {l : List Int}, (∀ i, i < l.length → l.getD i 0 ∉ l.take i ++ l.drop (i + 1)) → l.Nodup
  | [], _ => List.nodup_nil
  | a :: l, h => by
    rw [List.nodup_cons]
    refine ⟨by simpa using h 0 (by simp), wo_nodup fun i hi hm => h (i + 1) (by simpa using hi) ?_⟩
    simp only [List.getD_cons_succ, List.take_succ_cons, List.drop_succ_cons, List.cons_append]
    exact List.mem_cons_of_mem _ hm
theorem free_iff {S : List (List Int)} {xs : List Int} (hC : ∀ T : List Int, (∀ x ∈ T, 0 ≤ x ∧ x < (n : Int)) → closeL T S = genL n ops T) (hx : ∀ v ∈ xs, 0 ≤ v ∧ v < (n : Int)) : freeB S xs = indTo n ops xs xs.length := by
  have e : freeB S xs = true ↔ indTo n ops xs xs.length = true := by
    unfold freeB
    rw [freeTo_iff, indTo_iff]
    constructor
    · intro h i hi
      rw [← hC _ fun x hm => hx x ((List.mem_append.1 hm).elim List.mem_of_mem_take List.mem_of_mem_drop)]
      exact h i hi
    · intro h i hi
      rw [hC _ fun x hm => hx x ((List.mem_append.1 hm).elim List.mem_of_mem_take List.mem_of_mem_drop)]
      exact h i hi
  cases h1 : freeB S xs <;> cases h2 : indTo n ops xs xs.length <;> simp_all
theorem ind_perm {L M : List Int} (hL : L.Nodup) (hM : M.Nodup) (h : ∀ x, x ∈ L ↔ x ∈ M) (hi : indTo n ops L L.length = true) : indTo n ops M M.length = true := by
  rw [indTo_iff] at hi ⊢
  intro i hil
  have hm : M.getD i 0 ∈ M := by
    have e : M.getD i 0 = M[i] := by simp [List.getD, List.getElem?_eq_getElem hil]
    rw [e]; exact List.getElem_mem hil
  obtain ⟨j, hj, ej⟩ := List.getElem_of_mem ((h _).2 hm)
  have e2 : L.getD j 0 = M.getD i 0 := by rw [← ej]; simp [List.getD, List.getElem?_eq_getElem hj]
  have h3 := hi j hj
  rw [e2] at h3
  rw [gen_congr (T := L.take j ++ L.drop (j + 1)) fun x => by rw [wo_mem hil hM, wo_mem hj hL, e2, h x]]
  exact h3
/-- Independent lists are the free sets. -/
theorem ind_law (hn : n ≤ 6) {L : List Int} (hL : ∀ v ∈ L, 0 ≤ v ∧ v ≤ (n : Int) - 1) :
    indB ((n : Int), ops) L = (decide ((setL n L).length = L.length) && decide (0 ≤ place (fsRes (n : Int) (subsL ((n : Int), ops))) (setL n L))) := by
  have hs := setL_set (n := n) L
  have hsn : (setL n L).Nodup := hs.1.imp fun hab => by omega
  have hmem : ∀ x, x ∈ setL n L ↔ x ∈ L := fun x => setL_mem hL
  have hI : indB ((n : Int), ops) L = indTo n ops L L.length := by unfold indB; simp
  have hF : ∀ T : List Int, (∀ x ∈ T, 0 ≤ x ∧ x < (n : Int)) → closeL T (subsL ((n : Int), ops)) = genL n ops T := fun T hT => subs_close (by omega) hT
  have hP : 0 ≤ place (fsRes (n : Int) (subsL ((n : Int), ops))) (setL n L) ↔ indTo n ops (setL n L) (setL n L).length = true := by
    rw [place_iff]
    unfold fsRes
    rw [subs_res hn, if_pos rfl, frI_mem, frees_iff, ← free_iff hF hs.2]
    obtain ⟨e1, e2⟩ := bits6_set hn hs
    constructor
    · rintro ⟨j, -, -, h3⟩; exact h3
    · intro h3; exact ⟨valB (setL n L), by simpa using e2, e1.symm, h3⟩
  rw [hI]
  by_cases hd : L.Nodup
  · have hl : (setL n L).length = L.length := Nat.le_antisymm (nodup_len hsn fun x hx => (hmem x).1 hx) (nodup_len hd fun x hx => (hmem x).2 hx)
    rw [decide_eq_true hl, Bool.true_and]
    have e : indTo n ops L L.length = true ↔ 0 ≤ place (fsRes (n : Int) (subsL ((n : Int), ops))) (setL n L) := by
      rw [hP]
      exact ⟨ind_perm hd hsn fun x => (hmem x).symm, ind_perm hsn hd hmem⟩
    cases h1 : indTo n ops L L.length with
    | true => rw [decide_eq_true (e.1 h1)]
    | false => rw [decide_eq_false fun h2 => by rw [e.2 h2] at h1; cases h1]
  · have hx : ∃ i, i < L.length ∧ L.getD i 0 ∈ L.take i ++ L.drop (i + 1) := Classical.byContradiction fun hc => hd (wo_nodup fun i hi hm => hc ⟨i, hi, hm⟩)
    obtain ⟨i, hi, hm⟩ := hx
    have h1 : indTo n ops L L.length = false := by
      cases h2 : indTo n ops L L.length with
      | false => rfl
      | true =>
        have hm' := (List.mem_append.1 hm).elim List.mem_of_mem_take List.mem_of_mem_drop
        exact absurd (gen_sup hm (hL _ hm').1 (by have := (hL _ hm').2; omega)) (indTo_iff.1 h2 i hi)
    have h2 : (setL n L).length < L.length := by
      have h3 := nodup_len (m := L.take i ++ L.drop (i + 1)) hsn fun x hx => by
        have h4 := (hmem x).1 hx
        rw [wo_split hi] at h4
        rcases List.mem_append.1 h4 with h4 | h4
        · exact List.mem_append_left _ h4
        · rcases List.mem_cons.1 h4 with rfl | h4
          · exact hm
          · exact List.mem_append_right _ h4
      rw [List.length_append, List.length_take, List.length_drop] at h3
      omega
    rw [h1, decide_eq_false (by omega)]
    rfl
end
end Go.Proofs.YtkmgbdljiajlaaaGreat
namespace Go.Proofs.YtkmgbdljiajlaaaGreat
open Go.RowKit

/-- append of one element of two cells to a row of the call's own. -/
theorem wp_app2 {P : Program} (w0 : World) {o : Oper} {a : Act} {K : Act → World → Prop} {Q : Exit → Act → World → Prop} (s x : Operand) (t e : TypeId)
    (ho : o.op = .call { callee := .builtin .append, args := #[s, x], argTypes := #[t, t] }) (z : Value) (bytes : Nat)
    (ht : P.underlying t = some (.slice e)) (hi : (P.info? e).map (fun i => (i.zero, i.size, i.bytes)) = some (some z, 2, bytes)) (hzs : z.cells.size = 2) (hbb : bytes ≤ 64)
    (base n c : Nat) (A : Option Addr) (xs : List Value) (hs : a.eval s = .slice A n c) (hown : w0.ownsRow base e 2 (.slice A n c) n xs) (u v : Value) (h1 : u.oneCell' = true) (h2 : v.oneCell' = true) (hx : a.eval x = .slice (some ⟨w0.heap.size, 0, none⟩) 1 1)
    (hn : n ≤ 1099511627776) (hbase : base ≤ w0.heap.size)
    (hK : ∀ A' c' w', w'.ownsRow base e 2 (.slice A' (n + 1) c') (n + 1) (xs ++ [u, v]) → w0.grownBy w' (Value.slice A n c).ownBlock → Below base w0 w' → K (a.put o.dst (.slice A' (n + 1) c')) w') :
    o.wp P a (w0.alloc (.cells #[u, v] e)) K Q := by
  obtain ⟨i, hi, hz, hsize, hby⟩ := info_parts hi
  have hbound : (n + 1) * bytes ≤ 140737488355328 := Nat.le_trans (Nat.mul_le_mul_left (n + 1) hbb) (by omega)
  refine wp_append_own (w0.alloc (.cells #[u, v] e)) s x t ho base e i z 2 bytes ht hi hz hsize hby hzs (by omega) (.slice A n c) n xs hs (hown.alloc _) ⟨w0.heap.size, 0, none⟩ 1 1 [u, v] hx rfl ?_ ?_ (by unfold maxLen; omega) hbound (by simp; omega) ?_
  · intro j y hj
    match j, hj with
    | 0, hj => simp at hj; subst hj; simp [Addr.add]
    | 1, hj => simp at hj; subst hj; simp [Addr.add]
  · intro y hy
    simp at hy
    rcases hy with rfl | rfl
    · exact h1
    · exact h2
  · intro v' w' hown' hgrow _
    obtain ⟨A', c', rfl⟩ := own_slice hown'
    have hg : w0.grownBy w' (Value.slice A n c).ownBlock :=
      ⟨hgrow.os, hgrow.tape, hgrow.output, Nat.le_trans (by simp) hgrow.size, fun k hk hne => (hgrow.block k (by simp; omega) hne).trans (Below.heap_alloc w0 _ k hk)⟩
    exact hK A' c' w' hown' hg ((Below.refl base w0).grown hg hbase (fun k hk => (hown.lt k hk).1))
theorem app2 {P : Program} (w0 : World) {ops : Array Oper} {rest : List Oper} {o : Oper} {a : Act} {Q : Exit → Act → World → Prop} (hgd : o.guard = none) (s x : Operand) (t e : TypeId)
    (ho : o.op = .call { callee := .builtin .append, args := #[s, x], argTypes := #[t, t] }) (z : Value) (bytes : Nat)
    (ht : P.underlying t = some (.slice e)) (hi : (P.info? e).map (fun i => (i.zero, i.size, i.bytes)) = some (some z, 2, bytes)) (hzs : z.cells.size = 2) (hbb : bytes ≤ 64)
    (base n c : Nat) (A : Option Addr) (xs : List Value) (hs : a.eval s = .slice A n c) (hown : w0.ownsRow base e 2 (.slice A n c) n xs) (u v : Value) (h1 : u.oneCell' = true) (h2 : v.oneCell' = true) (hx : a.eval x = .slice (some ⟨w0.heap.size, 0, none⟩) 1 1)
    (hn : n ≤ 1099511627776) (hbase : base ≤ w0.heap.size)
    (hK : ∀ A' c' w', w'.ownsRow base e 2 (.slice A' (n + 1) c') (n + 1) (xs ++ [u, v]) → w0.grownBy w' (Value.slice A n c).ownBlock → Below base w0 w' → wpList P ops Q rest (a.put o.dst (.slice A' (n + 1) c')) w') :
    wpList P ops Q (o :: rest) a (w0.alloc (.cells #[u, v] e)) :=
  wpList_plain hgd fun _ hK' => wp_app2 w0 s x t e ho z bytes ht hi hzs hbb base n c A xs hs hown u v h1 h2 hx hn hbase fun A' c' w' h2 h3 h4 => hK' _ _ (hK A' c' w' h2 h3 h4)
theorem step_app2 {P : Program} (w0 : World) {ops : Array Oper} {o : Oper} {a : Act} {K : Act → World → Prop} {Q : Exit → Act → World → Prop} {E : Prop} (hgd : o.guard = none) (s x : Operand) (t e : TypeId)
    (ho : o.op = .call { callee := .builtin .append, args := #[s, x], argTypes := #[t, t] }) (z : Value) (bytes : Nat)
    (ht : P.underlying t = some (.slice e)) (hi : (P.info? e).map (fun i => (i.zero, i.size, i.bytes)) = some (some z, 2, bytes)) (hzs : z.cells.size = 2) (hbb : bytes ≤ 64)
    (base n c : Nat) (A : Option Addr) (xs : List Value) (hs : a.eval s = .slice A n c) (hown : w0.ownsRow base e 2 (.slice A n c) n xs) (u v : Value) (h1 : u.oneCell' = true) (h2 : v.oneCell' = true) (hx : a.eval x = .slice (some ⟨w0.heap.size, 0, none⟩) 1 1)
    (hn : n ≤ 1099511627776) (hbase : base ≤ w0.heap.size)
    (hK : ∀ A' c' w', w'.ownsRow base e 2 (.slice A' (n + 1) c') (n + 1) (xs ++ [u, v]) → w0.grownBy w' (Value.slice A n c).ownBlock → Below base w0 w' → K (a.put o.dst (.slice A' (n + 1) c')) w') :
    if Region.wanted o (yielded ops a.tmps) = true then Oper.wp P o a (w0.alloc (.cells #[u, v] e)) K Q else E := by
  have hw : Region.wanted o (yielded ops a.tmps) = true := by simp [Region.wanted, hgd]
  rw [if_pos hw]
  exact wp_app2 w0 s x t e ho z bytes ht hi hzs hbb base n c A xs hs hown u v h1 h2 hx hn hbase hK

theorem info_op2 : (Tryz.prog.info? 80).map (fun i => (i.zero, i.size, i.bytes)) = some (some (.agg #[.int .i64 0, .slice none 0 0]), 2, 32) := by kernel_rfl

/-- A slice of operations of the call's own, its blocks from lo on. -/
def PO (lo : Nat) (w : World) (v : Value) (xs : List OpM) (css : List (List Value)) (bls : List (List Nat)) : Prop :=
  Parts shOp 80 w v xs css bls ∧ w.ownsRow lo 80 2 v xs.length css.flatten ∧ Iv lo w.heap.size (obl v ++ bls.flatten)
theorem shOp_blk {w : World} {c : List Value} {x : OpM} {bk : List Nat} (h : shOp.own w c x bk) {b : Nat} (hb : b ∈ bk) : ∃ cur fr, w.heap[b]? = some (.cells cur 3 fr) := by
  obtain ⟨c0, c1, b0, b1, rfl, rfl, ⟨_, rfl, -, rfl⟩, ⟨v, rfl, ho, -, rfl⟩⟩ := h
  rw [List.nil_append, mem_obl] at hb
  rcases ho.2 with ⟨rfl, -⟩ | ⟨g, cap, cur, rfl, -, hh, -⟩
  · simp [Value.ownBlock] at hb
  · simp only [Value.ownBlock, Option.some.injEq] at hb
    subst hb
    exact ⟨_, _, hh⟩
theorem row_blk {w : World} {base size n : Nat} {e : TypeId} {v : Value} {xs : List Value} (h : w.ownsRow base e size v n xs) {b : Nat} (hb : b ∈ obl v) : ∃ cur fr, w.heap[b]? = some (.cells cur e fr) := by
  rw [mem_obl] at hb
  rcases h.2 with ⟨rfl, -⟩ | ⟨g, cap, cur, rfl, -, hh, -⟩
  · simp [Value.ownBlock] at hb
  · simp only [Value.ownBlock, Option.some.injEq] at hb
    subst hb
    exact ⟨_, _, hh⟩
theorem obl_nd (v : Value) : (obl v).Nodup := by
  unfold obl
  cases v.ownBlock <;> simp
section
variable {lo : Nat} {w : World} {v : Value} {xs : List OpM} {css : List (List Value)} {bls : List (List Nat)}
theorem PO.nil (lo : Nat) (w : World) : PO lo w (.slice none 0 0) [] [] [] :=
  ⟨⟨⟨rfl, .inl ⟨rfl, rfl⟩⟩, rfl, rfl, fun k c x bk h => by simp at h⟩, ⟨rfl, .inl ⟨rfl, rfl⟩⟩, Iv.nil _ _⟩
theorem PO.own (h : PO lo w v xs css bls) : (Sh.rows shOp 80).own w [v] xs (obl v ++ bls.flatten) := ⟨v, css, bls, rfl, h.1, rfl⟩
theorem PO.next {w' : World} (h : PO lo w v xs css bls) (hb : Below w.heap.size w w') : PO lo w' v xs css bls :=
  ⟨h.1.same fun b hb' => hb.block b (h.1.lt b hb'), own_next h.2.1 hb, h.2.2.mono (Nat.le_refl _) hb.size⟩
theorem PO.same {w' : World} (h : PO lo w v xs css bls) (hz : w.heap.size ≤ w'.heap.size) (hs : ∀ b ∈ obl v ++ bls.flatten, w'.heap[b]? = w.heap[b]?) : PO lo w' v xs css bls :=
  ⟨h.1.same hs, own_same h.2.1 fun b hb => hs b (List.mem_append_left _ (mem_obl.2 hb)), h.2.2.mono (Nat.le_refl _) hz⟩
theorem PO.mono {lo' : Nat} (h : PO lo w v xs css bls) (hl : lo' ≤ lo) : PO lo' w v xs css bls := ⟨h.1, own_mono h.2.1 hl, h.2.2.mono hl (Nat.le_refl _)⟩
theorem PO.push (h : PO lo w v xs css bls) {w1 : World} (hb : Below w.heap.size w w1) (hlo : lo ≤ w.heap.size) {c : List Value} {x : OpM} {bk : List Nat} (ho : shOp.own w1 c x bk) (hiv : Iv w.heap.size w1.heap.size bk) :
    w1.ownsRow lo 80 2 v xs.length css.flatten ∧ ∀ {w2 : World} {v' : Value}, w2.ownsRow lo 80 2 v' (xs.length + 1) (css.flatten ++ c) → w1.grownBy w2 v.ownBlock → PO lo w2 v' (xs ++ [x]) (css ++ [c]) (bls ++ [bk]) := by
  have h1 := h.next hb
  refine ⟨h1.2.1, fun {w2 v'} hown hg => ?_⟩
  have hnd := List.nodup_append.1 h.2.2.1
  have far : ∀ b, b ∈ bls.flatten → w2.heap[b]? = w1.heap[b]? := fun b hb' => hg.block b (h1.2.2.2 b (List.mem_append_right _ hb')).2 fun e => hnd.2.2 b (mem_obl.2 e.symm) b hb' rfl
  have far2 : ∀ b, b ∈ bk → w2.heap[b]? = w1.heap[b]? := fun b hb' => hg.block b (hiv.2 b hb').2 fun e => by
    have h3 := (h.2.2.2 b (List.mem_append_left _ (mem_obl.2 e.symm))).2
    have h4 := (hiv.2 b hb').1
    omega
  have hl1 := h.1.l1
  have hl2 := h.1.l2
  have hP : Parts shOp 80 w2 v' (xs ++ [x]) (css ++ [c]) (bls ++ [bk]) := by
    refine ⟨?_, by simp [hl1], by simp [hl2], fun k c' x' bk' e1 e2 e3 => ?_⟩
    · rw [List.length_append, List.flatten_append, List.flatten_singleton]
      exact own_mono hown (Nat.zero_le _)
    · by_cases hk : k < xs.length
      · rw [List.getElem?_append_left (by omega)] at e1 e2 e3
        exact shOp.osame (h1.1.el k c' x' bk' e1 e2 e3) fun b hb' => far b (List.mem_flatten.2 ⟨_, List.mem_of_getElem? e3, hb'⟩)
      · have hk2 : k = xs.length := by
          have := (List.getElem?_eq_some_iff.1 e2).1
          simp at this
          omega
        subst hk2
        rw [List.getElem?_append_right (by omega)] at e1 e2 e3
        simp [hl1, hl2] at e1 e2 e3
        subst e1
        subst e2
        subst e3
        exact shOp.osame ho far2
  refine ⟨hP, by rw [List.length_append, List.flatten_append]; simpa using hown, ?_⟩
  rw [List.flatten_append]
  have hz : w1.heap.size ≤ w2.heap.size := hg.size
  have hzb := hb.size
  refine ⟨?_, fun b hb' => ?_⟩
  · rw [List.nodup_append]
    refine ⟨obl_nd _, ?_, fun a ha b hb' e => ?_⟩
    · rw [List.nodup_append]
      refine ⟨hnd.2.1, by simpa using hiv.1, fun a ha b hb' e => ?_⟩
      simp at hb'
      subst e
      have h3 := (h.2.2.2 a (List.mem_append_right _ ha)).2
      have h4 := (hiv.2 a hb').1
      omega
    · subst e
      obtain ⟨cur, fr, hc⟩ := row_blk hown ha
      have hb2 : a ∈ (bls ++ [bk]).flatten := by rw [List.flatten_append]; exact hb'
      obtain ⟨bq, hbq, hab⟩ := List.mem_flatten.1 hb2
      obtain ⟨k, hk⟩ := List.getElem?_of_mem hbq
      have hkl := (List.getElem?_eq_some_iff.1 hk).1
      have e1 := hP.l1
      have e2 := hP.l2
      have ho2 := hP.el k _ _ bq (List.getElem?_eq_getElem (by omega)) (List.getElem?_eq_getElem (by omega)) hk
      obtain ⟨cur2, fr2, hc2⟩ := shOp_blk ho2 hab
      rw [hc] at hc2
      injection hc2 with hc2
      injection hc2 with _ h5
      exact absurd h5 (by decide)
  · rcases List.mem_append.1 hb' with hb' | hb'
    · exact hown.lt b (mem_obl.1 hb')
    · rcases List.mem_append.1 hb' with hb' | hb'
      · have := h.2.2.2 b (List.mem_append_right _ hb')
        omega
      · have := hiv.2 b (by simpa using hb')
        omega
end
end Go.Proofs.YtkmgbdljiajlaaaGreat
namespace Go.Proofs.YtkmgbdljiajlaaaGreat
open Go.RowKit

theorem PO.far {lo : Nat} {w : World} {v : Value} {xs : List OpM} {css : List (List Value)} {bls : List (List Nat)} (h : PO lo w v xs css bls) {p : Addr} (hp : p.block < lo) (u : Value) : PO lo (w.setCell p u) v xs css bls :=
  h.same (by simp) fun b hb => Below.heap_setCell w p u b (by have := (h.2.2.2 b hb).1; omega)
end Go.Proofs.YtkmgbdljiajlaaaGreat
namespace Go.Proofs.YtkmgbdljiajlaaaGreat
open Go.RowKit

end Go.Proofs.YtkmgbdljiajlaaaGreat
namespace Go.Proofs.YtkmgbdljiajlaaaGreat
open Go.RowKit

end Go.Proofs.YtkmgbdljiajlaaaGreat
namespace Go.Proofs.YtkmgbdljiajlaaaGreat
open Go.RowKit

theorem res_row_tmpF {P : Program} {fn : Func} {p u : Tmp} {ty : TypeId} (h : fn.results = #[.cell p ty, .tmp u]) (tmps : Array Value) (w : World) (g : Nat) (t : TypeId) (cs : Array Value) (fr : Nat × Nat) (d : TypeDesc) (b : Value)
    (hp : tmps.getD p undef = .pointer (some ⟨g, 0, none⟩)) (hg : w.heap[g]? = some (.cells cs t fr))
    (hu : P.underlying ty = some d) (hd : (match d with | .struct _ | .array _ _ => true | _ => false) = true) (hi : (P.info? ty).map (·.size) = some cs.size) (hb : tmps.getD u undef = b) :
    (results fn tmps).run P w = .ok (.tuple #[.agg cs, b]) w := by
  rw [results_cell_tmp h, hp, hb]
  simp [asAddr, Result.andThen, run_loadVar_row w g t ty cs fr d hg hu hd hi]
/-! ## append, told where the row lies -/
theorem run_append_where {P : Program} (w : World) (base : Nat) (t ty e : TypeId) (i : TypeInfo) (z : Value) (size bytes : Nat) (ht : P.underlying t = some (.slice e)) (hi : P.info? e = some i) (hz : i.zero = some z)
    (hsize : i.size = size) (hby : i.bytes = bytes) (hzs : z.cells.size = size) (hsz : 0 < size)
    (v : Value) (n : Nat) (xs : List Value) (hown : w.ownsRow base e size v n xs)
    (a : Addr) (m c : Nat) (news : List Value) (hl : news.length = m * size) (hnews : ∀ j u, news[j]? = some u → w.cell? (a.add j) = some u) (h1 : ∀ u ∈ news, u.oneCell' = true)
    (h63 : n + m ≤ maxLen) (hbytes : (n + m) * bytes ≤ 140737488355328) (v' : Value) (w' : World) (hrun : (Builtin.append_ #[t, t] ty #[v, .slice (some a) m c]).run P w = .ok v' w') :
    v'.ownBlock = v.ownBlock ∨ v'.ownBlock = some w.heap.size := by
  subst hsize
  subst hby
  have hsmall : n + m ≤ 9223372036854775807 := by simp only [maxLen] at h63; omega
  rcases hown.2 with ⟨rfl, rfl⟩ | ⟨g, cap, cur, rfl, hbg, hg, hnc, hcm, hcs, htake⟩
  · by_cases hm : m = 0
    · subst hm
      have hn : news = [] := List.eq_nil_of_length_eq_zero (by simpa using hl)
      subst hn
      have : (Builtin.append_ #[t, t] ty #[.slice none 0 0, .slice (some a) 0 c]).run P w = .ok (.slice none 0 0) w := by
        simp [Builtin.append_, run_underlying ht, sizeOf, typeInfo, hi, Builtin.lenOf, Builtin.firstCells, loadCells, loadCellsFrom]
      rw [this] at hrun
      injection hrun with h1 h2
      subst h1
      exact .inl rfl
    · have hr := run_append_nil (P := P) w t ty e i z ht hi hz a m c news hl hnews (by omega) (by omega) (by have hb := hbytes; simp only [Nat.zero_add] at hb; omega)
      rw [hr] at hrun
      injection hrun with h1 h2
      subst h1
      exact .inr rfl
  · by_cases hroom : n + m ≤ cap
    · have hfit : n * i.size + news.length ≤ cur.size := by rw [hl, hcs, ← Nat.add_mul]; exact Nat.mul_le_mul_right _ hroom
      have hr := run_append_room (P := P) w t ty e i ht hi g n cap cur hg a m c news hl hnews h1 hroom hfit
      rw [hr] at hrun
      injection hrun with h1 h2
      subst h1
      exact .inl rfl
    · have holds : ∀ j u, xs[j]? = some u → w.cell? ((⟨g, 0, none⟩ : Addr).add j) = some u := hown.cells (g := g) rfl
      have hr := run_append_grow (P := P) w t ty e i z ht hi hz ⟨g, 0, none⟩ n cap xs hown.1 holds a m c news hl hnews (by omega) (by omega) (growslice_fits (by omega) hbytes)
      rw [hr] at hrun
      injection hrun with h1 h2
      subst h1
      exact .inr rfl
/-- append, told where the row lies. -/
theorem wp_append_at {P : Program} (w : World) {o : Oper} {a : Act} {K : Act → World → Prop} {Q : Exit → Act → World → Prop} (s x : Operand) (t : TypeId)
    (ho : o.op = .call { callee := .builtin .append, args := #[s, x], argTypes := #[t, t] })
    (base : Nat) (e : TypeId) (i : TypeInfo) (z : Value) (size bytes : Nat) (ht : P.underlying t = some (.slice e)) (hi : P.info? e = some i) (hz : i.zero = some z)
    (hsize : i.size = size) (hby : i.bytes = bytes) (hzs : z.cells.size = size) (hsz : 0 < size)
    (v : Value) (n : Nat) (xs : List Value) (hs : a.eval s = v) (hown : w.ownsRow base e size v n xs)
    (ad : Addr) (m c : Nat) (news : List Value) (hx : a.eval x = .slice (some ad) m c) (hl : news.length = m * size) (hnews : ∀ j u, news[j]? = some u → w.cell? (ad.add j) = some u) (h1 : ∀ u ∈ news, u.oneCell' = true)
    (h63 : n + m ≤ maxLen) (hbytes : (n + m) * bytes ≤ 140737488355328) (hbase : base ≤ w.heap.size)
    (h : ∀ v' w', w'.ownsRow base e size v' (n + m) (xs ++ news) → w.grownBy w' v.ownBlock → (v'.ownBlock = v.ownBlock ∨ v'.ownBlock = some w.heap.size) → K (a.put o.dst v') w') : o.wp P a w K Q := by
  obtain ⟨v', w', hr, h2, h3, h4⟩ := run_append_own (P := P) w base t o.type e i z size bytes ht hi hz hsize hby hzs hsz v n xs hown ad m c news hl hnews h1 h63 hbytes hbase
  have h5 := run_append_where (P := P) w base t o.type e i z size bytes ht hi hz hsize hby hzs hsz v n xs hown ad m c news hl hnews h1 h63 hbytes v' w' hr
  unfold Oper.wp execOp
  simp only [ho, resolve, invoke, builtin, Sem.run_bind, Sem.run_pure, Result.andThen_ok, List.map_toArray, List.map_cons, List.map_nil, hs, hx, hr]
  exact h v' w' h2 h3 h5
theorem step_app1at {P : Program} (w0 : World) {ops : Array Oper} {o : Oper} {a : Act} {K : Act → World → Prop} {Q : Exit → Act → World → Prop} {E : Prop} (hgd : o.guard = none) (s x : Operand) (t e : TypeId)
    (ho : o.op = .call { callee := .builtin .append, args := #[s, x], argTypes := #[t, t] }) (z : Value) (bytes : Nat)
    (ht : P.underlying t = some (.slice e)) (hi : (P.info? e).map (fun i => (i.zero, i.size, i.bytes)) = some (some z, 1, bytes)) (hzs : z.cells.size = 1) (hbb : bytes ≤ 64)
    (base n c : Nat) (A : Option Addr) (xs : List Value) (hs : a.eval s = .slice A n c) (hown : w0.ownsRow base e 1 (.slice A n c) n xs) (u : Value) (h1 : u.oneCell' = true) (hx : a.eval x = .slice (some ⟨w0.heap.size, 0, none⟩) 1 1)
    (hn : n ≤ 1099511627776) (hbase : base ≤ w0.heap.size)
    (hK : ∀ A' c' w', w'.ownsRow base e 1 (.slice A' (n + 1) c') (n + 1) (xs ++ [u]) → w0.grownBy w' (Value.slice A n c).ownBlock → Below base w0 w' → ((Value.slice A' (n + 1) c').ownBlock = (Value.slice A n c).ownBlock ∨ (Value.slice A' (n + 1) c').ownBlock = some (w0.heap.size + 1)) → K (a.put o.dst (.slice A' (n + 1) c')) w') :
    if Region.wanted o (yielded ops a.tmps) = true then Oper.wp P o a (w0.alloc (.cells #[u] e)) K Q else E := by
  have hw : Region.wanted o (yielded ops a.tmps) = true := by simp [Region.wanted, hgd]
  rw [if_pos hw]
  obtain ⟨i, hi, hz, hsize, hby⟩ := info_parts hi
  have hbound : (n + 1) * bytes ≤ 140737488355328 := Nat.le_trans (Nat.mul_le_mul_left (n + 1) hbb) (by omega)
  refine wp_append_at (w0.alloc (.cells #[u] e)) s x t ho base e i z 1 bytes ht hi hz hsize hby hzs (by omega) (.slice A n c) n xs hs (hown.alloc _) ⟨w0.heap.size, 0, none⟩ 1 1 [u] hx rfl ?_ ?_ (by unfold maxLen; omega) hbound (by simp; omega) ?_
  · intro j v hj
    match j, hj with
    | 0, hj => simp at hj; subst hj; simp [Addr.add]
  · intro v hv; simp at hv; subst hv; exact h1
  · intro v' w' hown' hgrow hat
    obtain ⟨A', c', rfl⟩ := own_slice hown'
    have hg : w0.grownBy w' (Value.slice A n c).ownBlock :=
      ⟨hgrow.os, hgrow.tape, hgrow.output, Nat.le_trans (by simp) hgrow.size, fun k hk hne => (hgrow.block k (by simp; omega) hne).trans (Below.heap_alloc w0 _ k hk)⟩
    refine hK A' c' w' hown' hg ((Below.refl base w0).grown hg hbase (fun k hk => (hown.lt k hk).1)) ?_
    rcases hat with h | h
    · exact .inl h
    · exact .inr (by simpa using h)
end Go.Proofs.YtkmgbdljiajlaaaGreat
