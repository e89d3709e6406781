
/- Walks: AddEntry of the program. -/
import Derived.Test.YtbpdbimdefdefaaAddP
namespace Go.Proofs.Ytbpdbimdefdefaa
open Go.RowKit

theorem PO.iv {lo : Nat} {w : World} {v : Value} {xs : List OpM} {css : List (List Value)} {bls : List (List Nat)} (h : PO lo w v xs css bls) : Iv lo w.heap.size (obl v ++ bls.flatten) := h.2.2
theorem canonO {cs : List Value} {x : AlgebraM} {w : World} (h : shAlgebra.rd w cs x) (hx : SmallP x) :
    Calls Try.prog 57 #[.agg cs.toArray] w (fun e w' => ∃ V L vc u bk, e = .returned (.tuple #[.agg #[.int .i64 (canA x).1, .slice V L vc], u]) ∧ shAlgebra.own w' [.int .i64 (canA x).1, .slice V L vc] (canA x) bk ∧ Iv w.heap.size w'.heap.size bk ∧ Below w.heap.size w w') := by
  obtain ⟨n, hn⟩ : ∃ n : Nat, x.1 = (n : Int) := ⟨x.1.toNat, by have h1 := hx.1; omega⟩
  refine (canonical_any cs x n w h hx hn).mono ?_
  rintro e w' ⟨vb, css, bls, Af, cf, rfl, hP, -, hb⟩
  obtain ⟨V, vc, rfl⟩ := own_slice hP.2.1
  have e1 : (canA x).1 = (n : Int) := by rw [← hn]; rfl
  refine ⟨V, (canA x).2.length, vc, _, _, by rw [e1], ?_, hP.iv, hb⟩
  exact hP.algO (show InR (canA x).1 from small_R (canA_small hx))
theorem PE.rdN {lo n c : Nat} {w : World} {A : Option Addr} {xs : List EntryM} {css : List (List Value)} {bls : List (List Nat)} (h : PE lo w (.slice A n c) xs css bls) : RdN shEntry.m shEntry.rd w A n xs := by
  obtain ⟨B, c', e, r⟩ := h.1.rd
  injection e with e1 e2 _
  subst e1
  subst e2
  exact r
set_option maxRecDepth 100000 in
set_option maxHeartbeats 8000000 in
theorem implAdd_any (A : Option Addr) (n c : Nat) (xs : List EntryM) (s : ByteArray) (ds : List Value) (a : AlgebraM) (w : World) (h : RdN shEntry.m shEntry.rd w A n xs) (hs : s.size ≤ maxLen) (h' : shAlgebra.rd w ds a) (hn : xs.length + cntS shEntry.cnt xs ≤ 1048576) :
    Calls Try.prog 19 #[.slice A n c, .string s, .agg ds.toArray] w (OwV (Sh.rows shEntry 64) w (adP xs s a).1 (adP xs s a).2) := by
  have hle := h.le
  obtain rfl : xs.length = n := h.len
  have hrd' := h'
  obtain ⟨B, m, d, rfl, qs, qo⟩ := rdAlgebra h'
  obtain ⟨w0, hw0, T0, hsz0, BP⟩ := boxes1 w #[.int .i64 a.1, .slice B m d] 38
  have HW0 := Lib.hid hw0
  have h0 := h.next T0
  have hr0 := shAlgebra.stab hrd' T0.block
  clear hw0
  obtain ⟨r1, HR1⟩ : ∃ r, Hid (catB xs = r) := ⟨_, rfl⟩
  rcases r1 with _ | _
  · have HM := Lib.hid (ad_no1 (s := s) (a := a) HR1.out)
    rw [HM.out]
    go_enter Try.func19, Try.ntmps19
    go_wp2_with fail
    rw [← HW0.out]
    refine (isCat_any _ _ _ xs _ h0).mono ?_
    rintro e w1 ⟨rfl, hb1⟩
    rw [HR1.out]
    have T1 := below_next T0 hb1 rfl
    obtain ⟨bl, ho, hiv⟩ := ow_lit T1
    have HO := Lib.hid ho
    clear ho
    have cP := (BP.next hb1).cell 0
    simp at cP
    go_wp2_with fail
    go_ret2
    exact ⟨_, bl, rfl, HO.out, hiv, below_next T1 (below_box _ _) rfl⟩
  · obtain ⟨r2, HR2⟩ : ∃ r, Hid (nameB s = r) := ⟨_, rfl⟩
    rcases r2 with _ | _
    · have HM := Lib.hid (ad_no2 (xs := xs) (a := a) HR2.out)
      rw [HM.out]
      go_enter Try.func19, Try.ntmps19
      go_wp2_with fail
      rw [← HW0.out]
      refine (isCat_any _ _ _ xs _ h0).mono ?_
      rintro e w1 ⟨rfl, hb1⟩
      rw [HR1.out]
      have T1 := below_next T0 hb1 rfl
      have cP := (BP.next hb1).cell 0
      simp at cP
      go_wp2_with fail
      refine (isName_any s _ hs).mono ?_
      rintro e w2 ⟨rfl, rfl⟩
      rw [HR2.out]
      obtain ⟨bl, ho, hiv⟩ := ow_lit T1
      have HO := Lib.hid ho
      clear ho
      go_wp2_with fail
      go_ret2
      exact ⟨_, bl, rfl, HO.out, hiv, below_next T1 (below_box _ _) rfl⟩
    · obtain ⟨r3, HR3⟩ : ∃ r, Hid (smallB a = r) := ⟨_, rfl⟩
      go_enter Try.func19, Try.ntmps19
      go_wp2_with fail
      rw [← HW0.out]
      refine (isCat_any _ _ _ xs _ h0).mono ?_
      rintro e w1 ⟨rfl, hb1⟩
      rw [HR1.out]
      have T1 := below_next T0 hb1 rfl
      have BP1 := BP.next hb1
      have cP0 := BP1.cell 0
      have cP1 := BP1.cell 1
      simp at cP0 cP1
      go_wp2_with fail
      refine (isName_any s _ hs).mono ?_
      rintro e w2 ⟨rfl, rfl⟩
      rw [HR2.out]
      go_wp2_with fail
      refine (isNamed_any _ a _ (shAlgebra.stab hr0 hb1.block)).mono ?_
      rintro e w3 ⟨rfl, hb3⟩
      rw [HR3.out]
      have T3 := below_next T1 hb3 rfl
      have BP3 := BP1.next hb3
      clear cP0 cP1
      have cP0 := BP3.cell 0
      have cP1 := BP3.cell 1
      simp at cP0 cP1
      rcases r3 with _ | _
      · have HM := Lib.hid (ad_no3 (xs := xs) (s := s) HR3.out)
        obtain ⟨bl, ho, hiv⟩ := ow_lit T3
        have HO := Lib.hid ho
        clear ho
        go_wp2_with fail
        go_ret2
        rw [HM.out]
        exact ⟨_, bl, rfl, HO.out, hiv, below_next T3 (below_box _ _) rfl⟩
      · have hsm := small_iff.1 HR3.out
        have HCAN := Lib.hid (canonO (w := w3) (shAlgebra.stab hrd' T3.block) hsm)
        go_wp2_with fail
        refine HCAN.out.mono ?_
        rintro e w4 ⟨V, L, vc, u, bk, rfl, hO4, hiv4, hb4⟩
        have T4 := below_next T3 hb4 rfl
        obtain ⟨w5, HW5⟩ : ∃ wb, Hid (wb = w4.alloc (.cells #[.int .i64 (canA a).1, .slice V L vc] 38)) := ⟨_, rfl⟩
        have hbb : Below w4.heap.size w4 w5 := by rw [HW5.out]; exact below_box _ _
        have BN : Blk w5 w4.heap.size 38 #[.int .i64 (canA a).1, .slice V L vc] := by rw [HW5.out]; exact Blk.new _ _ _
        have T5 := below_next T4 hbb rfl
        have hO5 := shEntry.osame (ent_own hs hO4) fun b hb => hbb.block b (hiv4.2 b hb).2
        have h5 := h.next T5
        have cN0 := BN.cell 0
        have cN1 := BN.cell 1
        simp at cN0 cN1
        have HCL : ∀ wz, Below w5.heap.size w5 wz → Calls Try.prog 45 #[.slice A xs.length c] wz (CpN wz xs) := fun wz hz => cloneEntriesN_any A xs.length c xs wz (h5.next hz) (by omega)
        have Tk : Below w5.heap.size w5 w5 := Below.refl _ _
        have hz3 := T3.size
        have hz5 := hbb.size
        have HIV := Lib.hid hiv4
        have hcs := canA_small hsm
        have HSM : Hid (∀ x ∈ xs, SmallP x.2) := fun x hx => cat_small HR1.out hx
        have hl12 := (cat_two HR1.out).1
        clear hiv4 h0 hrd' hr0 hO4 qs qo
        go_upto_region 4 with fail
        rw [← HW5.out]
        go_region_held3 (fun w' => w'.cell? ⟨w4.heap.size, 0, none⟩ = some (.int .i64 (canA a).1) ∧ w'.cell? ⟨w4.heap.size, 1, none⟩ = some (.slice V L vc)) (first | go_keep | exact ⟨keepc Tk cN0, keepc Tk cN1⟩) (first
          | (go_at_call 45; (with_reducible refine (HCL _ ?_).mono ?_); (first | exact Tk | exact Below.drew Tk); rintro e w6 ⟨g6, n6, c6, css6, bls6, rfl, hP6, hb6⟩; obtain ⟨rfl, hc6⟩ := hP6.ln; replace Tk := below_next (by first | exact Tk | exact Below.drew Tk) hb6 rfl)
          | (go_at_call 58; refine (withEntry_some w.heap.size g6 c6 xs css6 bls6 (s, canA a) V L vc bk _ (hP6.mono (by first | exact Nat.le_trans hz3 (Nat.le_trans hb4.size hz5) | (have := hb4.size; simp; omega))) (shEntry.osame hO5 fun b hb => Tk.block b (by have := (HIV.out.2 b hb).2; omega)) HIV.out.1 (fun b hb => by have h1 := HIV.out.2 b hb; have h2 := Tk.size; omega) (fun b hb hm => by have h1 := (HIV.out.2 b hb).2; have h2 := (hP6.2.2.2 b (List.mem_append_right _ hm)).1; (first | omega | (simp at h2; omega))) (by have := Tk.size; have := T5.size; omega) HSM.out hcs (by omega)).mono ?_; rintro e w7 ⟨A7, n7, c7, css7, bls7, rfl, hP7, hb7, -⟩; replace Tk := below_next Tk hb7 rfl))
        have T7 := below_next T5 Tk rfl
        obtain ⟨dv, HDV⟩ : ∃ dv, Hid (dupB xs (s, canA a) = dv) := ⟨_, rfl⟩
        rw [HDV.out] at hP7 ⊢
        rcases dv with _ | _
        · rw [if_neg (by decide)] at hP7
          obtain ⟨r4, HR4⟩ : ∃ r, Hid (catB (insM xs (s, canA a)) = r) := ⟨_, rfl⟩
          have HP7 := Lib.hid hP7
          have HRD := Lib.hid hP7.rdN
          clear hP7 hP6
          rcases r4 with _ | _
          · have HM := Lib.hid (ad_no4 (xs := xs) (s := s) HR4.out)
            go_wp2_with fail
            refine (isCat_any _ _ _ _ _ HRD.out).mono ?_
            rintro e w8 ⟨rfl, hb8⟩
            rw [HR4.out]
            have T8 := below_next T7 hb8 rfl
            obtain ⟨bl, ho, hiv⟩ := ow_lit T8
            have HO := Lib.hid ho
            clear ho
            go_wp2_with fail
            go_ret2
            rw [HM.out]
            exact ⟨_, bl, rfl, HO.out, hiv, below_next T8 (below_box _ _) rfl⟩
          · have HM := Lib.hid (ad_yes HR1.out HR2.out HR3.out HR4.out)
            go_wp2_with fail
            refine (isCat_any _ _ _ _ _ HRD.out).mono ?_
            rintro e w8 ⟨rfl, hb8⟩
            rw [HR4.out]
            have T8 := below_next T7 hb8 rfl
            have HP8 := Lib.hid (HP7.out.next hb8)
            go_wp2_with fail
            go_ret2
            rw [HM.out]
            exact ⟨_, _, rfl, HP8.out.own, HP8.out.2.2, T8⟩
        · have HM := Lib.hid (ad_no4 (xs := xs) (s := s) (dup_cat HDV.out hcs))
          clear hP7 hP6
          obtain ⟨bl, ho, hiv⟩ := ow_lit T7
          have HO := Lib.hid ho
          clear ho
          go_wp2_with fail
          go_ret2
          rw [HM.out]
          exact ⟨_, bl, rfl, HO.out, hiv, below_next T7 (below_box _ _) rfl⟩
end Go.Proofs.Ytbpdbimdefdefaa
