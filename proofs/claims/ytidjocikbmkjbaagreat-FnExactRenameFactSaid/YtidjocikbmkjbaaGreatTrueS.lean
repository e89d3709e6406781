
/- Walks: is a fact true of an algebra (the reference). -/
import Derived.Test.YtidjocikbmkjbaaGreatHomS
import Derived.Test.YtidjocikbmkjbaaGreatGenS
import Derived.Test.YtidjocikbmkjbaaGreatHoldT
import Derived.Test.YtidjocikbmkjbaaGreatTermP
namespace Go.Proofs.YtidjocikbmkjbaaGreat
open Go.RowKit
set_option linter.unusedVariables false

set_option maxHeartbeats 4000000 in
theorem l7Is_any (cs : List Value) (x : AlgebraM) (A : Option Addr) (m c : Nat) (f : List Int) (w : World) (h : shAlgebra.rd w cs x) (hx : AlgP x) (hr : RdL RI w A m f) :
    Calls Tryz.prog 49 #[.agg cs.toArray, .agg cs.toArray, .slice A m c] w (Bl w (.bool (homB x.1.toNat x.2 f))) := by
  have hrd := h
  obtain ⟨B, k, d, rfl, -, qo⟩ := rdAlgebra h
  obtain ⟨n, hN⟩ : ∃ n : Nat, x.1 = (n : Int) := ⟨x.1.toNat, by have := hx.1; omega⟩
  have HNN := Lib.hid hN
  have HNT : Hid (x.1.toNat = n) := by show _ = _; omega
  obtain ⟨w0, hw0, T0, hsz0, BP, BQ⟩ := boxes2 w #[.int .i64 x.1, .slice B k d] #[.int .i64 x.1, .slice B k d] 39 39
  have HW0 := Lib.hid hw0
  have HRD : Hid (∀ wz, Below w0.heap.size w0 wz → shAlgebra.rd wz [.int .i64 x.1, .slice B k d] x) := fun wz hz => shAlgebra.stab (shAlgebra.stab hrd T0.block) hz.block
  have cP0 := BP.cell 0
  have cP1 := BP.cell 1
  have cQ0 := BQ.cell 0
  have cQ1 := BQ.cell 1
  simp at cP0 cP1 cQ0 cQ1
  have HX := Lib.hid hx
  have HLN := Lib.hid hr.len
  have r0 := hr.next stab_RI T0
  have HM := Lib.hid (l7Map_any _ x A m c f w0 (HRD.out _ (Below.refl _ _)) hx r0)
  rw [HNT.out] at HM
  rw [HNT.out]
  obtain ⟨b1, HB1⟩ : ∃ z, Hid (mpB n f = z) := ⟨_, rfl⟩
  rw [HB1.out] at HM
  have HR : Hid (homB n x.2 f = (b1 && tt (HomP n x.2 f))) := by show _ = _; unfold homB; rw [← HB1.out]; rfl
  clear hw0 hsz0 qo h hrd hx hr hN
  go_enter Tryz.func49, Tryz.ntmps49
  go_upto_region 1 with fail
  rw [← HW0.out]
  go_wp2_with fail
  refine HM.out.mono ?_
  rintro e w1 ⟨rfl, hb1⟩
  replace cP0 := keepc hb1 cP0
  replace cP1 := keepc hb1 cP1
  replace cQ0 := keepc hb1 cQ0
  replace cQ1 := keepc hb1 cQ1
  rcases b1 with _ | _
  · go_wp2_with fail
    go_ret
    exact ⟨ret_bool (by rw [HR.out]; rfl), below_next T0 hb1 rfl⟩
  have hf := mpB_iff.1 HB1.out
  have hmn : m = n := by rw [← HLN.out]; exact hf.1
  subst hmn
  have HC := Lib.hid (l7Fault_any _ x A m c f w1 (HRD.out _ hb1) HX.out HNN.out (r0.next stab_RI hb1) hf)
  clear hf
  go_wp2_with fail
  refine HC.out.mono ?_
  rintro e w2 ⟨v1, v2, b, rfl, hk, hb2⟩
  have HK := Lib.hid hk
  clear hk
  have T2 := below_next T0 (below_next hb1 hb2 rfl) rfl
  rcases b with _ | _
  · have HT := Lib.hid (tt_true (HK.out.1 rfl))
    go_wp2_with fail
    go_ret
    exact ⟨ret_bool (by rw [HR.out, ← HT.out]; rfl), T2⟩
  · have HT := Lib.hid (tt_false (fun hh => absurd (HK.out.2 hh) (by decide)))
    go_wp2_with fail
    go_ret
    exact ⟨ret_bool (by rw [HR.out, ← HT.out]; rfl), T2⟩
set_option maxHeartbeats 4000000 in
theorem l6Is_any (cs : List Value) (x : AlgebraM) (A : Option Addr) (m c : Nat) (p : List Int) (w : World) (h : shAlgebra.rd w cs x) (hx : AlgP x) (hr : RdL RI w A m p) :
    Calls Tryz.prog 46 #[.agg cs.toArray, .slice A m c] w (Bl w (.bool (congB x.1.toNat x.2 p))) := by
  have hrd := h
  obtain ⟨B, k, d, rfl, -, qo⟩ := rdAlgebra h
  obtain ⟨n, hN⟩ : ∃ n : Nat, x.1 = (n : Int) := ⟨x.1.toNat, by have := hx.1; omega⟩
  have HNN := Lib.hid hN
  have HNT : Hid (x.1.toNat = n) := by show _ = _; omega
  have hn8 : n ≤ 8 := by have := hx.2.1; omega
  obtain ⟨w0, hw0, T0, hsz0, BP⟩ := boxes1 w #[.int .i64 x.1, .slice B k d] 39
  have HW0 := Lib.hid hw0
  have HRD : Hid (∀ wz, Below w0.heap.size w0 wz → shAlgebra.rd wz [.int .i64 x.1, .slice B k d] x) := fun wz hz => shAlgebra.stab (shAlgebra.stab hrd T0.block) hz.block
  rw [hN] at HW0 BP HRD
  have cP0 := BP.cell 0
  have cP1 := BP.cell 1
  simp at cP0 cP1
  have HX := Lib.hid hx
  have HLN := Lib.hid hr.len
  have r0 := hr.next stab_RI T0
  have HM := Lib.hid (l6Partition_any A n m c p w0 r0 (by omega))
  obtain ⟨b1, HB1⟩ : ∃ z, Hid (tt (ParP n p) = z) := ⟨_, rfl⟩
  rw [HB1.out] at HM
  have HR : Hid (congB n x.2 p = (b1 && tt (CompP n x.2 p))) := by show _ = _; unfold congB; rw [HB1.out]
  rw [HNT.out]
  rw [hN]
  clear hw0 hsz0 qo h hrd hx hr hN
  go_enter Tryz.func46, Tryz.ntmps46
  go_upto_region 1 with fail
  rw [← HW0.out]
  go_wp2_with fail
  refine HM.out.mono ?_
  rintro e w1 ⟨rfl, z, rfl⟩
  rcases b1 with _ | _
  · go_wp2_with fail
    go_ret
    exact ⟨ret_bool (by rw [HR.out]; rfl), below_drewN T0 z⟩
  have hp := tt_iff.1 HB1.out
  have hmn : m = n := by rw [← HLN.out]; exact hp.1
  subst hmn
  have HC := Lib.hid (l6Push_any _ x A m c p (w0.drewN z) (HRD.out _ (below_drewN (Below.refl _ _) z)) HX.out HNN.out (r0.drewN stab_RI z) hp)
  clear hp
  go_wp2_with fail
  refine HC.out.mono ?_
  rintro e w2 ⟨A2, c2, P, rfl, r2, hP, hb2⟩
  have T2 : Below w0.heap.size w0 w2 := (below_drewN (Below.refl _ _) z).trans hb2
  have HS := Lib.hid (l1Same_any A2 A m m c2 c P p w2 r2 (r0.next stab_RI T2))
  have HE : Hid (eqL P p = tt (CompP m x.2 p)) := by
    show _ = _
    rw [Bool.eq_iff_iff, tt_iff, eqL_iff]
    exact ⟨hP.back, hP.same⟩
  rw [HE.out] at HS
  obtain ⟨b2, HB2⟩ : ∃ z, Hid (tt (CompP m x.2 p) = z) := ⟨_, rfl⟩
  rw [HB2.out] at HS HR
  clear hP r2
  go_wp2_with fail
  refine HS.out.mono ?_
  rintro e w3 ⟨rfl, z3, rfl⟩
  go_wp2_with fail
  go_ret
  exact ⟨ret_bool (by rw [HR.out]; rfl), below_drewN (below_next T0 T2 rfl) z3⟩
set_option maxRecDepth 20000 in
set_option maxHeartbeats 16000000 in
theorem l32True_any (cs ds : List Value) (x : AlgebraM) (f : FactM) (w : World) (h : shAlgebra.rd w cs x) (h' : shFact.rd w ds f) (hx : AlgP x) :
    Calls Tryz.prog 22 #[.agg cs.toArray, .agg ds.toArray] w (Bl w (.bool (trueB x f))) := by
  have hrd := h
  obtain ⟨B, k, d, rfl, -, qo⟩ := rdAlgebra h
  obtain ⟨AL, nL, cL, AR, nR, cR, AV, nV, cV, rfl, -, rL, rR, rV⟩ := rdFact h'
  obtain ⟨kk, ⟨L, R⟩, V⟩ := f
  simp only at rL rR rV
  obtain ⟨n, hN⟩ : ∃ n : Nat, x.1 = (n : Int) := ⟨x.1.toNat, by have := hx.1; omega⟩
  have HNT : Hid (x.1.toNat = n) := by show _ = _; omega
  have hn8 : n ≤ 8 := by have := hx.2.1; omega
  have hn1 : 1 ≤ n := by have := hx.1; omega
  obtain ⟨w0, hw0, T0, hsz0, BP, BQ⟩ := boxes2 w #[.int .i64 x.1, .slice B k d] #[.int .i64 kk, .slice AL nL cL, .slice AR nR cR, .slice AV nV cV] 39 34
  have HW0 := Lib.hid hw0
  have H1 : Hid (∀ wz, Below w0.heap.size w0 wz → shAlgebra.rd wz [.int .i64 x.1, .slice B k d] x) := fun wz hz => shAlgebra.stab (shAlgebra.stab hrd T0.block) hz.block
  have r0L := rL.next stab_RI T0
  have r0R := rR.next stab_RI T0
  have r0V := rV.next stab_RI T0
  have H2 : Hid (∀ wz, Below w0.heap.size w0 wz → shIdentity.rd wz [.slice AL nL cL, .slice AR nR cR] ((L, R) : IdentityM)) := fun wz hz => mkIdentity (r0L.next stab_RI hz) (r0R.next stab_RI hz)
  have HRV : Hid (∀ wz, Below w0.heap.size w0 wz → RdL RI wz AV nV V) := fun wz hz => r0V.next stab_RI hz
  have hle := r0L.le
  have hle2 := r0R.le
  have hle3 := r0V.le
  have HLV := Lib.hid rV.len
  have HX := Lib.hid hx
  have HLL := Lib.hid rL.len
  have HLR := Lib.hid rR.len
  have cP0 := BP.cell 0
  have cP1 := BP.cell 1
  have cQ0 := BQ.cell 0
  have cQ1 := BQ.cell 1
  have cQ2 := BQ.cell 2
  have cQ3 := BQ.cell 3
  simp at cP0 cP1 cQ0 cQ1 cQ2 cQ3
  obtain ⟨ne, HNE⟩ : ∃ b, Hid (noEq (L, R) = b) := ⟨_, rfl⟩
  have HTB : Hid (trueB x (kk, (L, R), V) = if kk = 1 then holdB n x.2 L R && decide (nV = 0) else if kk = 2 then askB n x.2 L R && failB n x.2 L R V else ne && (if kk = 3 then subB n x.2 V else if kk = 4 then congB n x.2 V else if kk = 5 then genB n x.2 V else if kk = 6 then homB n x.2 V else false)) := by
    show _ = _
    unfold trueB
    simp only
    rw [HNT.out, HNE.out, HLV.out]
  obtain ⟨ask, HAS⟩ : ∃ b, Hid (askB n x.2 L R = b) := ⟨_, rfl⟩
  have HC1 : Hid (∀ wz, Below w0.heap.size w0 wz → Calls Tryz.prog 40 #[.agg #[.int .i64 x.1, .slice B k d], .agg #[.slice AL nL cL, .slice AR nR cR]] wz (Bl wz (.bool ask))) := fun wz hz => by
    have := l3Asked_any _ _ x (L, R) wz (H1.out wz hz) (H2.out wz hz) HX.out
    rw [HNT.out] at this
    simp only at this
    rwa [HAS.out] at this
  rw [hN] at BP HW0 cP0
  rw [hN]
  clear hw0 hsz0 hrd qo h h' hx rL rR rV r0L r0R r0V
  by_cases h1 : kk = 1
  · subst h1
    have HRES : Hid (trueB x (1, (L, R), V) = (holdB n x.2 L R && decide (nV = 0))) := by show _ = _; rw [HTB.out, if_pos rfl]
    rw [hN] at HC1 H1
    clear HTB
    rcases e3 : decide (nV = 0) with _ | _
    · have hd3 := eq0_nat e3
      rw [e3, Bool.and_false] at HRES
      clear e3
      go_enter Tryz.func22, Tryz.ntmps22
      go_upto_region 1 with fail
      rw [← HW0.out]
      go_wp2_with fail
      go_ret
      exact ⟨ret_bool HRES.out.symm, T0⟩
    · have hd3 := eq0_nat e3
      rw [e3, Bool.and_true] at HRES
      clear e3
      go_enter Tryz.func22, Tryz.ntmps22
      go_upto_region 1 with fail
      rw [← HW0.out]
      go_wp2_with fail
      refine (HC1.out _ (Below.refl _ _)).mono ?_
      rintro e w1 ⟨rfl, hb1⟩
      replace cP0 := keepc hb1 cP0
      replace cP1 := keepc hb1 cP1
      replace cQ1 := keepc hb1 cQ1
      replace cQ2 := keepc hb1 cQ2
      rcases ask with _ | _
      · have HH : Hid (holdB n x.2 L R = false) := by show _ = _; unfold holdB; rw [HAS.out]; rfl
        go_wp2_with fail
        go_ret
        exact ⟨ret_bool (by rw [HRES.out, HH.out]), below_next T0 hb1 rfl⟩
      · have HC := Lib.hid (l3Holds_any _ _ x (L, R) w1 (H1.out _ hb1) (H2.out _ hb1) HX.out (by rw [HNT.out]; exact HAS.out))
        rw [HNT.out] at HC
        simp only at HC
        have HH : Hid (holdB n x.2 L R = tt (HoldP n x.2 L R)) := by show _ = _; unfold holdB; rw [HAS.out]; rfl
        obtain ⟨hb, HHB⟩ : ∃ b, Hid (tt (HoldP n x.2 L R) = b) := ⟨_, rfl⟩
        rw [HHB.out] at HC HH
        go_wp2_with fail
        refine HC.out.mono ?_
        rintro e w2 ⟨rfl, hb2⟩
        go_wp2_with fail
        go_ret
        exact ⟨ret_bool (by rw [HRES.out, HH.out]), below_next T0 (below_next hb1 hb2 rfl) rfl⟩
  by_cases h2 : kk = 2
  · subst h2
    have HRES : Hid (trueB x (2, (L, R), V) = (ask && failB n x.2 L R V)) := by show _ = _; rw [HTB.out, if_neg (by decide), if_pos rfl, HAS.out]
    rw [hN] at HC1 H1
    clear HTB h1
    go_enter Tryz.func22, Tryz.ntmps22
    go_upto_region 1 with fail
    rw [← HW0.out]
    go_wp2_with fail
    refine (HC1.out _ (Below.refl _ _)).mono ?_
    rintro e w1 ⟨rfl, hb1⟩
    replace cP0 := keepc hb1 cP0
    replace cP1 := keepc hb1 cP1
    replace cQ1 := keepc hb1 cQ1
    replace cQ2 := keepc hb1 cQ2
    replace cQ3 := keepc hb1 cQ3
    rcases ask with _ | _
    · go_wp2_with fail
      go_ret
      exact ⟨ret_bool (by rw [HRES.out]; rfl), below_next T0 hb1 rfl⟩
    · have HC := Lib.hid (l32Fails_any _ _ x (L, R) AV nV cV V w1 (H1.out _ hb1) (H2.out _ hb1) (HRV.out _ hb1) HX.out (by rw [HNT.out]; exact HAS.out))
      rw [HNT.out] at HC
      simp only at HC
      obtain ⟨fb, HFB⟩ : ∃ b, Hid (failB n x.2 L R V = b) := ⟨_, rfl⟩
      rw [HFB.out] at HC HRES
      go_wp2_with fail
      refine HC.out.mono ?_
      rintro e w2 ⟨rfl, hb2⟩
      go_wp2_with fail
      go_ret
      exact ⟨ret_bool (by rw [HRES.out]; rfl), below_next T0 (below_next hb1 hb2 rfl) rfl⟩
  have e1 : (kk == 1) = false := beq_eq_false_iff_ne.2 h1
  have e2 : (kk == 2) = false := beq_eq_false_iff_ne.2 h2
  have HT2 : Hid (trueB x (kk, (L, R), V) = (ne && (if kk = 3 then subB n x.2 V else if kk = 4 then congB n x.2 V else if kk = 5 then genB n x.2 V else if kk = 6 then homB n x.2 V else false))) := by show _ = _; rw [HTB.out, if_neg h1, if_neg h2]
  have HNQ := Lib.hid (l32NoEq_any _ (L, R) w0 (H2.out _ (Below.refl _ _)))
  rw [HNE.out] at HNQ
  rw [hN] at H1
  clear HTB h1 h2 HC1
  go_enter Tryz.func22, Tryz.ntmps22
  go_upto_region 1 with fail
  rw [← HW0.out]
  go_wp2_with fail
  refine HNQ.out.mono ?_
  rintro e w1 ⟨rfl, hb1⟩
  have T1 := below_next T0 hb1 rfl
  replace cP0 := keepc hb1 cP0
  replace cP1 := keepc hb1 cP1
  replace cQ0 := keepc hb1 cQ0
  replace cQ1 := keepc hb1 cQ1
  replace cQ2 := keepc hb1 cQ2
  replace cQ3 := keepc hb1 cQ3
  rcases ne with _ | _
  · have HRES : Hid (trueB x (kk, (L, R), V) = false) := by show _ = _; rw [HT2.out]; rfl
    go_wp2_with fail
    go_ret
    exact ⟨ret_bool HRES.out.symm, T1⟩
  have HT3 : Hid (trueB x (kk, (L, R), V) = (if kk = 3 then subB n x.2 V else if kk = 4 then congB n x.2 V else if kk = 5 then genB n x.2 V else if kk = 6 then homB n x.2 V else false)) := by show _ = _; rw [HT2.out]; rfl
  by_cases h3 : kk = 3
  · subst h3
    have HRES : Hid (trueB x (3, (L, R), V) = subB n x.2 V) := by show _ = _; rw [HT3.out, if_pos rfl]
    have HC := Lib.hid (isSubU_any _ x AV nV cV V w1 (H1.out _ hb1) HX.out (HRV.out _ hb1))
    rw [HNT.out] at HC
    obtain ⟨b, HB⟩ : ∃ b, Hid (subB n x.2 V = b) := ⟨_, rfl⟩
    rw [HB.out] at HC HRES
    clear e1 e2
    go_wp2_with fail
    refine HC.out.mono ?_
    rintro e w2 ⟨rfl, hb2⟩
    go_wp2_with fail
    go_ret
    exact ⟨ret_bool HRES.out.symm, below_next T1 hb2 rfl⟩
  by_cases h4 : kk = 4
  · subst h4
    have HRES : Hid (trueB x (4, (L, R), V) = congB n x.2 V) := by show _ = _; rw [HT3.out, if_neg (by decide), if_pos rfl]
    have HP := Lib.hid (l6Partition_any AV n nV cV V w1 (HRV.out _ hb1) (by omega))
    obtain ⟨pb, HPB⟩ : ∃ b, Hid (tt (ParP n V) = b) := ⟨_, rfl⟩
    rw [HPB.out] at HP
    have HCG : Hid (pb = false → congB n x.2 V = false) := fun h => by unfold congB; rw [HPB.out, h]; rfl
    clear e1 e2 h3
    go_wp2_with fail
    refine HP.out.mono ?_
    rintro e w2 ⟨rfl, z, rfl⟩
    rcases pb with _ | _
    · have HCF : Hid (congB n x.2 V = false) := HCG.out rfl
      clear HCG
      go_wp2_with fail
      go_ret
      exact ⟨ret_bool (by rw [HRES.out]; exact HCF.out.symm), below_drewN T1 z⟩
    · clear HCG
      have Tz : Below w0.heap.size w0 (w1.drewN z) := below_drewN hb1 z
      have HC := Lib.hid (l6Is_any _ x AV nV cV V (w1.drewN z) (H1.out _ Tz) HX.out (HRV.out _ Tz))
      rw [HNT.out] at HC
      obtain ⟨b, HB⟩ : ∃ b, Hid (congB n x.2 V = b) := ⟨_, rfl⟩
      rw [HB.out] at HC HRES
      go_wp2_with fail
      refine HC.out.mono ?_
      rintro e w3 ⟨rfl, hb3⟩
      go_wp2_with fail
      go_ret
      exact ⟨ret_bool HRES.out.symm, below_next T0 (below_next Tz hb3 rfl) rfl⟩
  have e3 : (kk == 3) = false := beq_eq_false_iff_ne.2 h3
  have e4 : (kk == 4) = false := beq_eq_false_iff_ne.2 h4
  by_cases h5 : kk = 5
  · subst h5
    have HRES : Hid (trueB x (5, (L, R), V) = genB n x.2 V) := by show _ = _; rw [HT3.out, if_neg (by decide), if_neg (by decide), if_pos rfl]
    obtain ⟨b1, HB1⟩ : ∃ b, Hid ((allIn 0 ((n : Int) - 1) V && risesL V) = b) := ⟨_, rfl⟩
    have HGB : Hid (genB n x.2 V = (b1 && decide ((genL n x.2 V).length = n))) := by show _ = _; unfold genB; rw [HB1.out]
    have HRI : Hid (∀ wz, Below w1.heap.size w1 wz → Calls Tryz.prog 47 #[.slice AV nV cV, .int .i64 0, .int .i64 ((n : Int) - 1)] wz (Qt wz (.bool b1))) := fun wz hz => by
      have := l1Rising_any AV nV cV V 0 ((n : Int) - 1) wz (HRV.out wz (below_next hb1 hz rfl))
      rwa [HB1.out] at this
    obtain ⟨gl, HGL⟩ : ∃ l, Hid (genL n x.2 V = l) := ⟨_, rfl⟩
    have hgl : gl.length ≤ 8 := by rw [← HGL.out]; exact Nat.le_trans (markL_le _ _) hn8
    have hw1 : IntKind.i64.wrap ((n : Int) - 1) = (n : Int) - 1 := by rw [IntKind.wrap_i64]; omega
    rw [HGL.out] at HGB
    clear e1 e2 e3 e4 h3 h4
    rcases b1 with _ | _
    · go_wp2_with fail
      go_quiet ((go_at_call 47; first | exact quiet_one (HRI.out _ (by first | exact Below.refl _ _ | exact below_drewN (Below.refl _ _) _)) | exact quiet_add (HRI.out _ (by first | exact Below.refl _ _ | exact below_drewN (Below.refl _ _) _))))
      go_wp2_with fail
      go_ret
      exact ⟨ret_bool (by rw [HRES.out, HGB.out]; rfl), (by first | exact T1 | exact below_drewN (T1) _ | exact below_drewN (below_drewN (T1) _) _ | exact below_drewN (below_drewN (below_drewN (T1) _) _) _)⟩
    · have hb := HB1.out
      rw [Bool.and_eq_true] at hb
      have HGT : Hid (∀ wz, Below w1.heap.size w1 wz → Calls Tryz.prog 48 #[.agg #[.int .i64 (n : Int), .slice B k d], .slice AV nV cV] wz (OwI wz gl)) := fun wz hz => by
        have := l5Close_any _ x AV nV cV V wz (H1.out wz (below_next hb1 hz rfl)) HX.out (HRV.out wz (below_next hb1 hz rfl)) (fun v hv => by have := allIn_m.1 hb.1 v hv; have h2 := HNT.out; have h3 := HX.out.1; omega)
        rw [HNT.out, HGL.out] at this
        exact this
      have KP0 : Hid (∀ wz, Below w1.heap.size w1 wz → wz.cell? ⟨w.heap.size, 0, none⟩ = some (.int .i64 (n : Int))) := fun wz hz => keepc hz cP0
      have Tk : Below w1.heap.size w1 w1 := Below.refl _ _
      clear hb
      go_wp2_with fail
      go_region_law (first
        | (go_simp; go_at_call 47; (with_reducible refine (HRI.out _ ?_).mono ?_); (first | exact Tk | exact below_drewN Tk _); rintro e wb ⟨rfl, zb, rfl⟩)
        | (go_simp; go_at_call 48; (with_reducible refine (HGT.out _ ?_).mono ?_); (first | exact Tk | exact below_drewN Tk _); rintro e wc ⟨A5, c5, rfl, -, hb5⟩; replace Tk := below_next (by first | exact Tk | exact below_drewN Tk _) hb5 rfl; have cR0 := KP0.out _ Tk))
      all_goals
        go_wp2_with fail
        go_ret
        exact ⟨ret_bool (by rw [HRES.out, HGB.out, Bool.true_and, Bool.eq_iff_iff]; simp; try omega), below_next T1 (by first | exact Tk | exact below_drewN Tk _) rfl⟩
  have e5 : (kk == 5) = false := beq_eq_false_iff_ne.2 h5
  by_cases h6 : kk = 6
  · subst h6
    have HRES : Hid (trueB x (6, (L, R), V) = homB n x.2 V) := by show _ = _; rw [HT3.out, if_neg (by decide), if_neg (by decide), if_neg (by decide), if_pos rfl]
    have HC := Lib.hid (l7Is_any _ x AV nV cV V w1 (H1.out _ hb1) HX.out (HRV.out _ hb1))
    rw [HNT.out] at HC
    obtain ⟨b, HB⟩ : ∃ b, Hid (homB n x.2 V = b) := ⟨_, rfl⟩
    rw [HB.out] at HC HRES
    clear e1 e2 e3 e4 e5 h3 h4 h5
    go_wp2_with fail
    refine HC.out.mono ?_
    rintro e w2 ⟨rfl, hb2⟩
    go_wp2_with fail
    go_ret
    exact ⟨ret_bool HRES.out.symm, below_next T1 hb2 rfl⟩
  have e6 : (kk == 6) = false := beq_eq_false_iff_ne.2 h6
  have HRES : Hid (trueB x (kk, (L, R), V) = false) := by show _ = _; rw [HT3.out, if_neg h3, if_neg h4, if_neg h5, if_neg h6]
  clear h3 h4 h5 h6
  go_wp2_with fail
  go_ret
  exact ⟨ret_bool HRES.out.symm, T1⟩
end Go.Proofs.YtidjocikbmkjbaaGreat
