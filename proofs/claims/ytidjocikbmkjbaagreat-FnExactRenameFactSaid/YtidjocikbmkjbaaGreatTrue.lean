
/- Walks: is a fact true of an algebra (the program). -/
import Derived.Test.YtidjocikbmkjbaaGreatHom
import Derived.Test.YtidjocikbmkjbaaGreatGen
import Derived.Test.YtidjocikbmkjbaaGreatCong
import Derived.Test.YtidjocikbmkjbaaGreatTermP
namespace Go.Proofs.YtidjocikbmkjbaaGreat
open Go.RowKit
set_option linter.unusedVariables false

set_option maxRecDepth 20000 in
set_option maxHeartbeats 16000000 in
theorem isTrueOf_any (cs ds : List Value) (x : AlgebraM) (f : FactM) (w : World) (h : shAlgebra.rd w cs x) (h' : shFact.rd w ds f) (hx : AlgP x) :
    Calls Tryz.prog 28 #[.agg cs.toArray, .agg ds.toArray] w (Bl w (.bool (trueB x f))) := by
  have hrd := h
  obtain ⟨B, k, d, rfl, -, qo⟩ := rdAlgebra h
  obtain ⟨AL, nL, cL, AR, nR, cR, AV, nV, cV, rfl, -, rL, rR, rV⟩ := rdFact h'
  obtain ⟨kk, ⟨L, R⟩, V⟩ := f
  simp only at rL rR rV
  obtain ⟨n, hN⟩ : ∃ n : Nat, x.1 = (n : Int) := ⟨x.1.toNat, by have := hx.1; omega⟩
  have HNT : Hid (x.1.toNat = n) := by show _ = _; omega
  have hn8 : n ≤ 8 := by have := hx.2.1; omega
  obtain ⟨w0, hw0, T0, hsz0, BP, BQ⟩ := boxes2 w #[.int .i64 x.1, .slice B k d] #[.int .i64 kk, .slice AL nL cL, .slice AR nR cR, .slice AV nV cV] 39 34
  have HW0 := Lib.hid hw0
  have H1 := shAlgebra.stab hrd T0.block
  have r0L := rL.next stab_RI T0
  have r0R := rR.next stab_RI T0
  have r0V := rV.next stab_RI T0
  have H2 : shIdentity.rd w0 [.slice AL nL cL, .slice AR nR cR] ((L, R) : IdentityM) := mkIdentity r0L r0R
  have hle := r0L.le
  have hle2 := r0R.le
  have hle3 := r0V.le
  have HLL := Lib.hid rL.len
  have HLR := Lib.hid rR.len
  have HLV := Lib.hid rV.len
  have HC1 := Lib.hid (doesHold_any _ _ x (L, R) w0 H1 H2 hx)
  have HC2 := Lib.hid (isCounter_any _ _ x (L, R) AV nV cV V w0 H1 H2 r0V hx)
  have HC3 := Lib.hid (isSub_any _ x AV nV cV V w0 H1 hx r0V)
  have HC4 := Lib.hid (isCongruence_any _ x AV nV cV V w0 H1 hx r0V)
  have HC6 := Lib.hid (isHom_any _ x AV nV cV V w0 H1 hx r0V)
  have HX := Lib.hid hx
  have HRD := Lib.hid H1
  have HRV := Lib.hid r0V
  rw [HNT.out] at HC1 HC2 HC3 HC4 HC6
  rw [hN] at HC1 HC2 HC3 HC4 HC6 BP HW0 HRD
  have cP0 := BP.cell 0
  have cP1 := BP.cell 1
  have cQ0 := BQ.cell 0
  have cQ1 := BQ.cell 1
  have cQ2 := BQ.cell 2
  have cQ3 := BQ.cell 3
  simp at cP0 cP1 cQ0 cQ1 cQ2 cQ3
  obtain ⟨ne, HNE⟩ : ∃ b, Hid ((decide (nL = 0) && decide (nR = 0)) = b) := ⟨_, rfl⟩
  have HNE2 : Hid (noEq (L, R) = ne) := by
    show _ = _
    rw [← HNE.out]
    unfold noEq
    simp only
    rw [HLL.out, HLR.out]
    congr 1 <;> exact decide_eq_decide.2 (by omega)
  have HTB : Hid (trueB x (kk, (L, R), V) = if kk = 1 then holdB n x.2 L R && decide (nV = 0) else if kk = 2 then askB n x.2 L R && failB n x.2 L R V else ne && (if kk = 3 then subB n x.2 V else if kk = 4 then congB n x.2 V else if kk = 5 then genB n x.2 V else if kk = 6 then homB n x.2 V else false)) := by
    show _ = _
    unfold trueB
    simp only
    rw [HNT.out, HNE2.out, HLV.out]
  rw [hN]
  clear hw0 hsz0 hrd qo h h' hx hN H1 H2 rL rR rV r0L r0R r0V
  go_enter Tryz.func28, Tryz.ntmps28
  go_upto_region 1 with fail
  rw [← HW0.out]
  go_cut [5] from 8 to 19 (fun u5 wx => u5 = .bool ne ∧ wx = w0)
  case first =>
    rcases e1 : decide (nL = 0) with _ | _
    · have hd := eq0_nat e1
      have HN0 : Hid (ne = false) := by show _ = _; rw [← HNE.out, e1]; rfl
      clear e1
      go_wp2_with fail
      go_meet
      exact ⟨by rw [HN0.out], rfl⟩
    · have hd := eq0_nat e1
      have HN0 : Hid (ne = decide (nR = 0)) := by show _ = _; rw [← HNE.out, e1]; rfl
      clear e1
      rcases e2 : decide (nR = 0) with _ | _
      all_goals
        have hd2 := eq0_nat e2
        rw [e2] at HN0
        clear e2
        go_wp2_with fail
        go_meet
        exact ⟨by rw [HN0.out], rfl⟩
  case rest =>
    obtain ⟨rfl, hwc⟩ := hcut
    subst hwc
    obtain ⟨w0, HWC⟩ : ∃ wq : World, wq = wc := ⟨_, rfl⟩
    subst HWC
    by_cases h1 : kk = 1
    · subst h1
      obtain ⟨hb, HHB⟩ : ∃ b, Hid (holdB n x.2 L R = b) := ⟨_, rfl⟩
      obtain ⟨ask, HAS⟩ : ∃ b, Hid (askB n x.2 L R = b) := ⟨_, rfl⟩
      have HHA : Hid (ask = false → hb = false) := fun h => by
        rw [← HHB.out]
        unfold holdB
        rw [HAS.out, h]
        rfl
      have HRES : Hid (trueB x (1, (L, R), V) = (hb && decide (nV = 0))) := by show _ = _; rw [HTB.out, if_pos rfl, HHB.out]
      simp only at HC1
      rw [HHB.out, HAS.out] at HC1
      go_wp2_with fail
      refine HC1.out.mono ?_
      rintro e w1 ⟨rfl, hb1⟩
      replace cQ3 := keepc hb1 cQ3
      rcases ask with _ | _
      · have := HHA.out rfl
        subst this
        go_wp2_with fail
        go_ret
        exact ⟨ret_bool (by rw [HRES.out]; rfl), below_next T0 hb1 rfl⟩
      · rcases hb with _ | _
        · go_wp2_with fail
          go_ret
          exact ⟨ret_bool (by rw [HRES.out]; rfl), below_next T0 hb1 rfl⟩
        · rcases e3 : decide (nV = 0) with _ | _
          all_goals
            have hd3 := eq0_nat e3
            rw [e3] at HRES
            clear e3
            go_wp2_with fail
            go_ret
            exact ⟨ret_bool (by rw [HRES.out]; rfl), below_next T0 hb1 rfl⟩
    by_cases h2 : kk = 2
    · subst h2
      have HRES : Hid (trueB x (2, (L, R), V) = (askB n x.2 L R && failB n x.2 L R V)) := by show _ = _; rw [HTB.out, if_neg (by decide), if_pos rfl]
      obtain ⟨b, HB⟩ : ∃ b, Hid ((askB n x.2 L R && failB n x.2 L R V) = b) := ⟨_, rfl⟩
      simp only at HC2
      rw [HB.out] at HC2 HRES
      clear h1
      go_wp2_with fail
      refine HC2.out.mono ?_
      rintro e w1 ⟨rfl, hb1⟩
      go_wp2_with fail
      go_ret
      exact ⟨ret_bool HRES.out.symm, below_next T0 hb1 rfl⟩
    have e1 : (kk == 1) = false := beq_eq_false_iff_ne.2 h1
    have e2 : (kk == 2) = false := beq_eq_false_iff_ne.2 h2
    have HT2 : Hid (trueB x (kk, (L, R), V) = (ne && (if kk = 3 then subB n x.2 V else if kk = 4 then congB n x.2 V else if kk = 5 then genB n x.2 V else if kk = 6 then homB n x.2 V else false))) := by show _ = _; rw [HTB.out, if_neg h1, if_neg h2]
    clear HTB h1 h2 HC1 HC2
    rcases ne with _ | _
    · have HRES : Hid (trueB x (kk, (L, R), V) = false) := by show _ = _; rw [HT2.out]; rfl
      by_cases h3 : kk = 3
      · subst h3
        clear e1 e2
        go_wp2_with fail
        go_ret
        exact ⟨ret_bool HRES.out.symm, T0⟩
      by_cases h4 : kk = 4
      · subst h4
        clear e1 e2 h3
        go_wp2_with fail
        go_ret
        exact ⟨ret_bool HRES.out.symm, T0⟩
      have e3 : (kk == 3) = false := beq_eq_false_iff_ne.2 h3
      have e4 : (kk == 4) = false := beq_eq_false_iff_ne.2 h4
      by_cases h5 : kk = 5
      · subst h5
        clear e1 e2 e3 e4 h3 h4
        go_wp2_with fail
        go_quiet (fail)
        go_wp2_with fail
        go_ret
        exact ⟨ret_bool HRES.out.symm, (by first | exact T0 | exact below_drewN (T0) _ | exact below_drewN (below_drewN (T0) _) _ | exact below_drewN (below_drewN (below_drewN (T0) _) _) _)⟩
      have e5 : (kk == 5) = false := beq_eq_false_iff_ne.2 h5
      by_cases h6 : kk = 6
      · subst h6
        clear e1 e2 e3 e4 e5 h3 h4 h5
        go_wp2_with fail
        go_ret
        exact ⟨ret_bool HRES.out.symm, T0⟩
      have e6 : (kk == 6) = false := beq_eq_false_iff_ne.2 h6
      clear h3 h4 h5 h6
      go_wp2_with fail
      go_ret
      exact ⟨ret_bool HRES.out.symm, T0⟩
    · have HT3 : Hid (trueB x (kk, (L, R), V) = (if kk = 3 then subB n x.2 V else if kk = 4 then congB n x.2 V else if kk = 5 then genB n x.2 V else if kk = 6 then homB n x.2 V else false)) := by show _ = _; rw [HT2.out]; rfl
      by_cases h3 : kk = 3
      · subst h3
        have HRES : Hid (trueB x (3, (L, R), V) = subB n x.2 V) := by show _ = _; rw [HT3.out, if_pos rfl]
        obtain ⟨b, HB⟩ : ∃ b, Hid (subB n x.2 V = b) := ⟨_, rfl⟩
        rw [HB.out] at HC3 HRES
        clear e1 e2
        go_wp2_with fail
        refine HC3.out.mono ?_
        rintro e w1 ⟨rfl, hb1⟩
        go_wp2_with fail
        go_ret
        exact ⟨ret_bool HRES.out.symm, below_next T0 hb1 rfl⟩
      by_cases h4 : kk = 4
      · subst h4
        have HRES : Hid (trueB x (4, (L, R), V) = congB n x.2 V) := by show _ = _; rw [HT3.out, if_neg (by decide), if_pos rfl]
        obtain ⟨b, HB⟩ : ∃ b, Hid (congB n x.2 V = b) := ⟨_, rfl⟩
        rw [HB.out] at HC4 HRES
        clear e1 e2 h3
        go_wp2_with fail
        refine HC4.out.mono ?_
        rintro e w1 ⟨rfl, hb1⟩
        go_wp2_with fail
        go_ret
        exact ⟨ret_bool HRES.out.symm, below_next T0 hb1 rfl⟩
      have e3 : (kk == 3) = false := beq_eq_false_iff_ne.2 h3
      have e4 : (kk == 4) = false := beq_eq_false_iff_ne.2 h4
      by_cases h5 : kk = 5
      · subst h5
        have HRES : Hid (trueB x (5, (L, R), V) = genB n x.2 V) := by show _ = _; rw [HT3.out, if_neg (by decide), if_neg (by decide), if_pos rfl]
        clear e1 e2 e3 e4 h3 h4
        obtain ⟨b1, HB1⟩ : ∃ b, Hid (allIn 0 ((n : Int) - 1) V = b) := ⟨_, rfl⟩
        obtain ⟨b2, HB2⟩ : ∃ b, Hid (risesL V = b) := ⟨_, rfl⟩
        have HGB : Hid (genB n x.2 V = ((b1 && b2) && decide ((genL n x.2 V).length = n))) := by show _ = _; unfold genB; rw [HB1.out, HB2.out]
        have HIN : Hid (∀ wz, Below w0.heap.size w0 wz → Calls Tryz.prog 61 #[.slice AV nV cV, .int .i64 (n : Int)] wz (Qt wz (.bool b1))) := fun wz hz => by
          have := quiet_same (inSize_any AV nV cV V (n : Int) wz (HRV.out.next stab_RI hz))
          rwa [HB1.out] at this
        have HRI : Hid (∀ wz, Below w0.heap.size w0 wz → Calls Tryz.prog 62 #[.slice AV nV cV] wz (Qt wz (.bool b2))) := fun wz hz => by
          have := rises_any AV nV cV V wz (HRV.out.next stab_RI hz)
          rwa [HB2.out] at this
        obtain ⟨gl, HGL⟩ : ∃ l, Hid (genL n x.2 V = l) := ⟨_, rfl⟩
        have hgl : gl.length ≤ 8 := by rw [← HGL.out]; exact Nat.le_trans (markL_le _ _) hn8
        have HGE : Hid (b1 = true → ∀ wz, Below w0.heap.size w0 wz → Calls Tryz.prog 63 #[.agg #[.int .i64 (n : Int), .slice B k d], .slice AV nV cV] wz (OwI wz gl)) := fun hb1 wz hz => by
          subst hb1
          have := generate_any _ x AV nV cV V wz (shAlgebra.stab HRD.out hz.block) HX.out (HRV.out.next stab_RI hz) (fun v hv => by have := allIn_m.1 HB1.out v hv; have h2 := HNT.out; have h3 := HX.out.1; omega)
          rw [HNT.out, HGL.out] at this
          exact this
        have Tk : Below w0.heap.size w0 w0 := Below.refl _ _
        rw [HGL.out] at HGB
        rcases b1 with _ | _
        · go_wp2_with fail
          go_quiet ((go_at_call 61; first | exact quiet_one (HIN.out _ (by first | exact Below.refl _ _ | exact below_drewN (Below.refl _ _) _)) | exact quiet_add (HIN.out _ (by first | exact Below.refl _ _ | exact below_drewN (Below.refl _ _) _))))
          go_wp2_with fail
          go_ret
          exact ⟨ret_bool (by rw [HRES.out, HGB.out]; rfl), (by first | exact T0 | exact below_drewN (T0) _ | exact below_drewN (below_drewN (T0) _) _ | exact below_drewN (below_drewN (below_drewN (T0) _) _) _)⟩
        have HGT := Lib.hid (HGE.out rfl)
        clear HGE
        rcases b2 with _ | _
        · go_wp2_with fail
          go_quiet ((first
            | (go_at_call 61; first | exact quiet_one (HIN.out _ (by first | exact Below.refl _ _ | exact below_drewN (Below.refl _ _) _)) | exact quiet_add (HIN.out _ (by first | exact Below.refl _ _ | exact below_drewN (Below.refl _ _) _)))
            | (go_at_call 62; first | exact quiet_one (HRI.out _ (by first | exact Below.refl _ _ | exact below_drewN (Below.refl _ _) _)) | exact quiet_add (HRI.out _ (by first | exact Below.refl _ _ | exact below_drewN (Below.refl _ _) _)))))
          go_wp2_with fail
          go_ret
          exact ⟨ret_bool (by rw [HRES.out, HGB.out]; rfl), (by first | exact T0 | exact below_drewN (T0) _ | exact below_drewN (below_drewN (T0) _) _ | exact below_drewN (below_drewN (below_drewN (T0) _) _) _)⟩
        · have KP0 : Hid (∀ wz, Below w0.heap.size w0 wz → wz.cell? ⟨w.heap.size, 0, none⟩ = some (.int .i64 (n : Int))) := fun wz hz => keepc hz cP0
          go_wp2_with fail
          go_region_law (first
            | (go_simp; go_at_call 61; (with_reducible refine (HIN.out _ ?_).mono ?_); (first | exact Tk | exact below_drewN Tk _); rintro e wa ⟨rfl, za, rfl⟩)
            | (go_simp; go_at_call 62; (with_reducible refine (HRI.out _ ?_).mono ?_); (first | exact Tk | exact below_drewN Tk _); rintro e wb ⟨rfl, zb, rfl⟩)
            | (go_simp; go_at_call 63; (with_reducible refine (HGT.out _ ?_).mono ?_); (first | exact Tk | exact below_drewN Tk _); rintro e wc ⟨A5, c5, rfl, -, hb5⟩; replace Tk := below_next (by first | exact Tk | exact below_drewN Tk _) hb5 rfl; have cR0 := KP0.out _ Tk))
          all_goals
            go_wp2_with fail
            go_ret
            exact ⟨ret_bool (by rw [HRES.out, HGB.out, Bool.true_and, Bool.true_and, Bool.eq_iff_iff]; simp; try omega), below_next T0 (by first | exact Tk | exact below_drewN Tk _) rfl⟩
      have e5 : (kk == 5) = false := beq_eq_false_iff_ne.2 h5
      by_cases h6 : kk = 6
      · subst h6
        have HRES : Hid (trueB x (6, (L, R), V) = homB n x.2 V) := by show _ = _; rw [HT3.out, if_neg (by decide), if_neg (by decide), if_neg (by decide), if_pos rfl]
        obtain ⟨b, HB⟩ : ∃ b, Hid (homB n x.2 V = b) := ⟨_, rfl⟩
        rw [HB.out] at HC6 HRES
        clear e1 e2 e3 e4 e5 h3 h4 h5
        go_wp2_with fail
        refine HC6.out.mono ?_
        rintro e w1 ⟨rfl, hb1⟩
        go_wp2_with fail
        go_ret
        exact ⟨ret_bool HRES.out.symm, below_next T0 hb1 rfl⟩
      have e6 : (kk == 6) = false := beq_eq_false_iff_ne.2 h6
      have HRES : Hid (trueB x (kk, (L, R), V) = false) := by show _ = _; rw [HT3.out, if_neg h3, if_neg h4, if_neg h5, if_neg h6]
      clear h3 h4 h5 h6
      go_wp2_with fail
      go_ret
      exact ⟨ret_bool HRES.out.symm, T0⟩
end Go.Proofs.YtidjocikbmkjbaaGreat
