import Derived.Test.YtbkgbckbbnflpaaGreatQ7
set_option linter.unusedVariables false
set_option linter.unusedSimpArgs false
set_option maxRecDepth 100000
set_option maxHeartbeats 32000000
namespace Go.Proofs.YtbkgbckbbnflpaaGreat
open Go.RowKit
theorem lawRenaming (A : Option Addr) (n c : Nat) (code : List Int) (w : World) (h : RdL RU8 w A n code) :
    Calls Tryz.prog 3 #[.slice A n c] w (Bl w (.bool true)) := by
  have hle := h.le
  by_cases hbig : 65536 < n
  · go_enter Tryz.func3, Tryz.ntmps3
    have hd : decide (65536 < n) = true := by simpa using hbig
    go_wp2_with fail
    refine (rBig_any A n c _ hle).mono ?_
    rintro e w' ⟨rfl, rfl⟩
    rw [hd]
    go_wp2_with fail
    go_ret
    exact ⟨rfl, Below.refl _ _⟩
  have hC := code_inB h (by omega)
  have HDb : Hid (decide (65536 < n) = false) := by show _ = _; simpa using hbig
  clear hbig
  go_enter Tryz.func3, Tryz.ntmps3
  go_wp2_with fail
  refine (rBig_any A n c _ hle).mono ?_
  rintro e w' ⟨rfl, rfl⟩
  rw [HDb.out]
  go_wp2_with fail
  refine (drawRE_any A n c _ hC).mono ?_
  rintro e w1 ⟨ds, x, AL, k, cL, L, rfl, hA, hL, hQ, T1⟩
  obtain ⟨AX, mX, cX, hdx, -, -⟩ := rdAlgebra hA
  subst hdx
  obtain ⟨w2, HW2⟩ : ∃ wb, Hid (wb = w1.alloc (.cells #[.int .i64 x.1, .slice AX mX cX] 26)) := ⟨_, Lib.hid rfl⟩
  have hb2 : Below w1.heap.size w1 w2 := by rw [HW2.out]; exact below_box _ _
  have BX : Blk w2 w1.heap.size 26 #[.int .i64 x.1, .slice AX mX cX] := by rw [HW2.out]; exact Blk.new _ _ _
  obtain ⟨gX, HGX⟩ : ∃ x, Hid (w1.heap.size = x) := ⟨_, Lib.hid rfl⟩
  go_upto_region 4 with fail
  rw [← HW2.out]
  rw [HGX.out] at BX ⊢
  have T2 := below_next T1 hb2 rfl
  have HQ := Lib.hid hQ
  have HK : Hid (∀ wz, Below w2.heap.size w2 wz → shAlgebra.rd wz [.int .i64 x.1, .slice AX mX cX] x ∧ RdL RI wz AL k L ∧ Blk wz gX 26 #[.int .i64 x.1, .slice AX mX cX]) := fun wz hz => ⟨stab_same (stab_same hA hb2) hz, (hL.next stab_RI hb2).next stab_RI hz, BX.next hz⟩
  clear hA hL hQ T1 hb2 hC hle BX
  obtain ⟨y, HY⟩ : ∃ y, Hid (reM x L = y) := ⟨_, Lib.hid rfl⟩
  obtain ⟨rb, HRB⟩ : ∃ b, Hid (reB x L = b) := ⟨_, Lib.hid rfl⟩
  obtain ⟨rA, rL, rB⟩ := HK.out w2 (Below.refl _ _)
  have HI := Lib.hid (implRE_any _ x AL k cL L w2 rA rL)
  rw [HY.out, HRB.out] at HI
  have cX0 := rB.cell 0
  have cX1 := rB.cell 1
  simp at cX0 cX1
  clear rA rL rB
  go_wp2_with fail
  refine HI.out.mono ?_
  rintro e w3 ⟨cs2, bl2, rfl, hO2, -, hb3⟩
  obtain ⟨AY, mY, cY, hdy, -, -⟩ := rdAlgebra (shAlgebra.ord hO2)
  subst hdy
  obtain ⟨w4, HW4⟩ : ∃ wb, Hid (wb = w3.alloc (.cells #[.int .i64 y.1, .slice AY mY cY] 26)) := ⟨_, Lib.hid rfl⟩
  have hb4 : Below w3.heap.size w3 w4 := by rw [HW4.out]; exact below_box _ _
  have BY : Blk w4 w3.heap.size 26 #[.int .i64 y.1, .slice AY mY cY] := by rw [HW4.out]; exact Blk.new _ _ _
  obtain ⟨gY, HGY⟩ : ∃ x, Hid (w3.heap.size = x) := ⟨_, Lib.hid rfl⟩
  clear cX0 cX1 HI
  go_upto_region 5 with fail
  rw [← HW4.out]
  rw [HGY.out] at BY ⊢
  have S4 := below_next hb3 hb4 rfl
  have HKY : Hid (∀ wz, Below w4.heap.size w4 wz → shAlgebra.rd wz [.int .i64 y.1, .slice AY mY cY] y ∧ Blk wz gY 26 #[.int .i64 y.1, .slice AY mY cY]) := fun wz hz => ⟨stab_same (stab_same (shAlgebra.ord hO2) hb4) hz, BY.next hz⟩
  obtain ⟨rA, rL, rB⟩ := HK.out w4 S4
  have HI := Lib.hid (specRE_any _ x AL k cL L w4 rA rL)
  rw [HY.out, HRB.out] at HI
  have cX0 := rB.cell 0
  have cX1 := rB.cell 1
  simp at cX0 cX1
  clear rA rL rB hO2 hb3 hb4 BY
  go_wp2_with fail
  refine HI.out.mono ?_
  rintro e w5 ⟨cs3, bl3, rfl, hO3, -, hb5⟩
  obtain ⟨AZ, mZ, cZ, hdz, -, -⟩ := rdAlgebra (shAlgebra.ord hO3)
  subst hdz
  obtain ⟨w6, HW6⟩ : ∃ wb, Hid (wb = w5.alloc (.cells #[.int .i64 y.1, .slice AZ mZ cZ] 26)) := ⟨_, Lib.hid rfl⟩
  have hb6 : Below w5.heap.size w5 w6 := by rw [HW6.out]; exact below_box _ _
  have BZ : Blk w6 w5.heap.size 26 #[.int .i64 y.1, .slice AZ mZ cZ] := by rw [HW6.out]; exact Blk.new _ _ _
  obtain ⟨gZ, HGZ⟩ : ∃ x, Hid (w5.heap.size = x) := ⟨_, Lib.hid rfl⟩
  clear cX0 cX1 HI
  go_upto_region 6 with fail
  rw [← HW6.out]
  rw [HGZ.out] at BZ ⊢
  have S6 := below_next hb5 hb6 rfl
  have T6 := below_next T2 (below_next S4 S6 rfl) rfl
  obtain ⟨rY, rB⟩ := HKY.out w6 S6
  have HI := rAlgebra_any _ _ y y w6 rY (stab_same (shAlgebra.ord hO3) hb6)
  rw [eqC_self] at HI
  have HI := Lib.hid HI
  have cX0 := rB.cell 0
  have cX1 := rB.cell 1
  have cZ0 := BZ.cell 0
  have cZ1 := BZ.cell 1
  simp at cX0 cX1 cZ0 cZ1
  have hbb : (rb != rb) = false := by cases rb <;> rfl
  clear rY rB hO3 hb5 hb6 BZ
  go_wp2_with fail
  refine HI.out.mono ?_
  rintro e w7 ⟨rfl, hb7⟩
  have S7 := below_next (below_next S4 S6 rfl) hb7 rfl
  have T7 := below_next T2 S7 rfl
  have SY7 := below_next S6 hb7 rfl
  clear cX0 cX1 cZ0 cZ1 HI S6 T6 hb7 hbb S4
  rcases rb with _ | _
  · go_wp2_with fail
    go_ret
    exact ⟨rfl, T7⟩
  have hre := HRB.out
  unfold reB at hre
  rw [Bool.and_eq_true] at hre
  have hx := alg_iff.1 hre.1
  obtain ⟨z, ops⟩ := x
  obtain ⟨N, rfl⟩ : ∃ N : Nat, z = (N : Int) := ⟨z.toNat, by have h1 : 1 ≤ z := hx.1; omega⟩
  have hs : PermL N L := tt_iff.1 hre.2
  have hN1 : 0 < N := by have h1 : (1 : Int) ≤ (N : Int) := hx.1; omega
  have hN5 : N ≤ 5 := by
    have h1 : (N : Int) ≤ 5 ∨ (N : Int) = 9 := HQ.out.2
    have h2 : (N : Int) ≤ 8 := hx.2.1
    omega
  have hsm : SmallP ((N : Int), ops) := ⟨hx.1, by show (N : Int) ≤ 5; omega, hx.2.2.1, hx.2.2.2⟩
  have hops : ∀ o ∈ ops, OpP N o := hx.2.2.2
  obtain rfl : y = ((N : Int), ops.map (renOp N L)) := by rw [← HY.out]; unfold reM; rw [HRB.out]; rfl
  have hy : AlgP ((N : Int), ops.map (renOp N L)) := ren_alg (x := ((N : Int), ops)) hs hx
  have hsy : SmallP ((N : Int), ops.map (renOp N L)) := ren_small (x := ((N : Int), ops)) hs hsm
  have F1 := Lib.hid (sub_lenR hN1 hN5 hs hsm)
  have F2 := Lib.hid (few_five (ops := ops) hN5)
  have F2' := Lib.hid (few_five (ops := ops.map (renOp N L)) hN5)
  have F3 := Lib.hid (con_lenR hN1 hN5 hs hsm)
  have F4 : Hid (∀ V ∈ subsL ((N : Int), ops), InL N V ∧ subB N (ops.map (renOp N L)) (markL N fun y => hasI (y : Int) (comp V L)) = true) := fun V hV => by
    have h1 := (sub_mem (by omega)).1 hV
    have h2 := sub_ren hN1 hs hops h1
    rw [hs.1] at h2
    exact ⟨((sub_iff hN1 hops).1 h1).1, h2⟩
  have F5 : Hid (∀ p ∈ conL N ops, ParP N p ∧ congB N (ops.map (renOp N L)) (kerL (comp (inv N L) p)) = true) := fun p hp => by
    have h1 := (F2.out.2.2 p).1 hp
    have h2 := cong_ren hN1 hs hops h1
    rw [hs.1] at h2
    exact ⟨cong_par h1, h2⟩
  have F6 : Hid (canA ((N : Int), ops.map (renOp N L)) = canA ((N : Int), ops)) := canA_ren (x := ((N : Int), ops)) hsm hs
  have GA := Lib.hid (alg_iff.2 hx)
  have GB := Lib.hid (alg_iff.2 hy)
  have SA := Lib.hid (small_iff.2 hsm)
  have SB := Lib.hid (small_iff.2 hsy)
  have HX := Lib.hid hx
  have HYP := Lib.hid hy
  have HS := Lib.hid hs
  have hbd : ∀ v ∈ L, -9223372036854775808 ≤ v ∧ v ≤ 9223372036854775807 := fun v hv => by have := hs.2.1 v hv; omega
  obtain ⟨ops2, HO2⟩ : ∃ o, Hid (ops.map (renOp N L) = o) := ⟨_, Lib.hid rfl⟩
  rw [HO2.out] at F1 F2' F3 F4 F5 F6 GB SB HYP HKY
  have F7 : Hid (∀ V ∈ subsL ((N : Int), ops2), InL N V) := fun V hV => ((sub_iff hN1 (fun o ho => HYP.out.2.2.2 o ho)).1 ((sub_mem (by omega)).1 hV)).1
  have F8 : Hid (∀ p ∈ conL N ops2, ParP N p) := fun p hp => cong_par ((F2'.out.2.2 p).1 hp)
  have HKA : Hid (∀ wz, Below w7.heap.size w7 wz → shAlgebra.rd wz [.int .i64 (N : Int), .slice AX mX cX] ((N : Int), ops) ∧ RdL RI wz AL k L ∧ Blk wz gX 26 #[.int .i64 (N : Int), .slice AX mX cX] ∧ shAlgebra.rd wz [.int .i64 (N : Int), .slice AY mY cY] ((N : Int), ops2) ∧ Blk wz gY 26 #[.int .i64 (N : Int), .slice AY mY cY]) := fun wz hz => by
    obtain ⟨a1, a2, a3⟩ := HK.out wz (below_next S7 hz rfl)
    obtain ⟨b1, b2⟩ := HKY.out wz (below_next SY7 hz rfl)
    exact ⟨a1, a2, a3, b1, b2⟩
  have U7 : Below w7.heap.size w7 w7 := Below.refl _ _
  clear hre hx hs hsm hops hy hsy HK HKY HRB HY HQ S7 SY7 T2
  have HS1 : Hid (asRes ((N : Int), ops) = subsL ((N : Int), ops)) := by show _ = _; unfold asRes; rw [GA.out]; rfl
  have HS2 : Hid (asRes ((N : Int), ops2) = subsL ((N : Int), ops2)) := by show _ = _; unfold asRes; rw [GB.out]; rfl
  have HC1 : Hid (acB ((N : Int), ops) = true ∧ acRes ((N : Int), ops) = conL N ops) := by
    have h1 : acB ((N : Int), ops) = true := by unfold acB; rw [GA.out]; exact F2.out.1
    exact ⟨h1, by unfold acRes; rw [h1]; rfl⟩
  have HC2 : Hid (acB ((N : Int), ops2) = true ∧ acRes ((N : Int), ops2) = conL N ops2) := by
    have h1 : acB ((N : Int), ops2) = true := by unfold acB; rw [GB.out]; exact F2'.out.1
    exact ⟨h1, by unfold acRes; rw [h1]; rfl⟩
  obtain ⟨S1, HSS1⟩ : ∃ s, Hid (subsL ((N : Int), ops) = s) := ⟨_, Lib.hid rfl⟩
  obtain ⟨S2, HSS2⟩ : ∃ s, Hid (subsL ((N : Int), ops2) = s) := ⟨_, Lib.hid rfl⟩
  obtain ⟨C1, HCC1⟩ : ∃ s, Hid (conL N ops = s) := ⟨_, Lib.hid rfl⟩
  obtain ⟨C2, HCC2⟩ : ∃ s, Hid (conL N ops2 = s) := ⟨_, Lib.hid rfl⟩
  rw [HSS1.out] at HS1 F1 F4
  rw [HSS2.out] at HS2 F1 F7
  rw [HCC1.out] at HC1 F3 F5
  rw [HCC2.out] at HC2 F3 F8
  have tt1 : (true != true) = false := rfl
  obtain ⟨rA, rL, rB, sA, sB⟩ := HKA.out w7 U7
  have cX0 := rB.cell 0
  have cX1 := rB.cell 1
  simp at cX0 cX1
  have HI := implAS_any _ ((N : Int), ops) w7 rA
  rw [HS1.out, GA.out] at HI
  have HI := Lib.hid HI
  clear rA rL rB sA sB
  go_wp2_with fail
  refine HI.out.mono ?_
  rintro e w8 ⟨A1, n1, c1, rfl, hM, hb8⟩
  have U8 := below_next U7 hb8 rfl
  clear cX0 cX1 HI
  have R1 : RdL (RV RI) w8 A1 n1 S1 := hM.rd (R := RI) fun V hV v hv => by have := (F4.out V hV).1 v hv; exact ⟨rfl, by omega, by omega⟩
  clear hM
  obtain ⟨rA, rL, rB, sA, sB⟩ := HKA.out w8 U8
  have cX0 := rB.cell 0
  have cX1 := rB.cell 1
  simp at cX0 cX1
  have HI := specAS_any _ ((N : Int), ops) w8 rA
  rw [HS1.out, GA.out] at HI
  have HI := Lib.hid HI
  clear rA rL rB sA sB
  go_wp2_with fail
  refine HI.out.mono ?_
  rintro e w9 ⟨A2, n2, c2, rfl, R2, hb9⟩
  have U9 := below_next U8 hb9 rfl
  clear cX0 cX1 HI
  replace R1 := R1.next stab_RVI hb9
  have HT := rTable_any A1 A2 n1 n2 c1 c2 S1 S1 w9 R1 R2
  rw [eqLL_self] at HT
  have HT := Lib.hid HT
  go_wp2_with fail
  refine HT.out.mono ?_
  rintro e w' ⟨rfl, z1, rfl⟩
  obtain ⟨w10, HW10⟩ : ∃ z, Hid (z = w9.drewN z1) := ⟨_, Lib.hid rfl⟩
  have hb10 : Below w9.heap.size w9 w10 := by rw [HW10.out]; exact below_drewN (Below.refl _ _) _
  rw [← HW10.out]
  have U10 := below_next U9 hb10 rfl
  replace R1 := R1.next stab_RVI hb10
  clear HT R2 hb8 hb9 hb10 HW10
  obtain ⟨rA, rL, rB, sA, sB⟩ := HKA.out w10 U10
  have cX0 := sB.cell 0
  have cX1 := sB.cell 1
  simp at cX0 cX1
  have HI := implAS_any _ ((N : Int), ops2) w10 sA
  rw [HS2.out, GB.out] at HI
  have HI := Lib.hid HI
  clear rA rL rB sA sB
  go_wp2_with fail
  refine HI.out.mono ?_
  rintro e w11 ⟨A3, n3, c3, rfl, hM, hb11⟩
  have U11 := below_next U10 hb11 rfl
  clear cX0 cX1 HI
  have R3 : RdL (RV RI) w11 A3 n3 S2 := hM.rd (R := RI) fun V hV v hv => by have := F7.out V hV v hv; exact ⟨rfl, by omega, by omega⟩
  clear hM
  obtain ⟨rA, rL, rB, sA, sB⟩ := HKA.out w11 U11
  have cX0 := sB.cell 0
  have cX1 := sB.cell 1
  simp at cX0 cX1
  have HI := specAS_any _ ((N : Int), ops2) w11 sA
  rw [HS2.out, GB.out] at HI
  have HI := Lib.hid HI
  clear rA rL rB sA sB
  go_wp2_with fail
  refine HI.out.mono ?_
  rintro e w12 ⟨A4, n4, c4, rfl, R4, hb12⟩
  have U12 := below_next U11 hb12 rfl
  clear cX0 cX1 HI
  replace R3 := R3.next stab_RVI hb12
  have HT := rTable_any A3 A4 n3 n4 c3 c4 S2 S2 w12 R3 R4
  rw [eqLL_self] at HT
  have HT := Lib.hid HT
  have hl1 := R1.len
  have hl3 := R3.len
  have hnn : n1 = n3 := by rw [← hl1, ← hl3]; exact F1.out
  have hne : ((n1 : Int) != (n3 : Int)) = false := by rw [hnn]; simp
  clear hnn
  go_wp2_with fail
  refine HT.out.mono ?_
  rintro e w' ⟨rfl, z1, rfl⟩
  obtain ⟨w13, HW13⟩ : ∃ z, Hid (z = w12.drewN z1) := ⟨_, Lib.hid rfl⟩
  have hb13 : Below w12.heap.size w12 w13 := by rw [HW13.out]; exact below_drewN (Below.refl _ _) _
  rw [← HW13.out]
  have U13 := below_next U12 hb13 rfl
  replace R1 := R1.next stab_RVI (below_next (below_next hb11 hb12 rfl) hb13 rfl)
  have hn256 : n1 ≤ 1048576 := by
    have h1 := insA_len (subB N ops) (2 ^ N)
    have h2 : subsL ((N : Int), ops) = insA (subB N ops) (2 ^ N) := by unfold subsL; simp
    have h3 := pow8 (show N ≤ 8 by omega)
    rw [← hl1, ← HSS1.out, h2]
    omega
  have HN1 := Lib.hid hl1
  clear HT R3 R4 hb11 hb12 hb13 HW13 hl1 hl3 U8 U9 U11 U12
  go_wp2_with fail
  clear hne
  go_loopw [17] (fun i wr => ∃ q : Nat, q ≤ n1 ∧ i = .int .i64 q ∧ Below w13.heap.size w13 wr) (fun i _ => n1 - (intOf i).toNat)
  case atStart => exact ⟨0, Nat.zero_le _, rfl, Below.refl _ _⟩
  case round =>
    obtain ⟨q, hq, rfl, hT⟩ := hrel
    have V := below_next U13 hT rfl
    by_cases hlt : q < n1
    · have hq0 : (0 : Int) ≤ (q : Int) := by omega
      have hq1 : (q : Int) < (n1 : Int) := by omega
      obtain ⟨b1, o1, v1, VV, rfl, hc1, ⟨B1, m1, d1, rfl, hVr⟩, -, hVx⟩ := (R1.next stab_RVI hT).at hlt
      have HV4 := Lib.hid (F4.out VV (List.mem_of_getElem? hVx))
      obtain ⟨rA, rL, rB, sA, sB⟩ := HKA.out wr V
      have cX0 := rB.cell 0
      simp at cX0
      have HVL := Lib.hid hVr.len
      have hm1 : m1 ≤ 1048576 := by
        have h1 := HV4.out.2
        have h2 := HVL.out
        have h3 := (sub_iff hN1 (fun o ho => HX.out.2.2.2 o ho)).1 ((sub_mem (by omega)).1 (by rw [HSS1.out]; exact List.mem_of_getElem? hVx) : subB N ops VV = true)
        have h4 := nodup_len (m := upTo N) (List.Pairwise.imp (fun h => by omega) h3.2.1) fun v hv => by
          have := h3.1 v hv
          exact mem_upTo.2 ⟨this.1, by omega⟩
        rw [upTo_len] at h4
        omega
      have HVX := Lib.hid hVx
      have hkl := rL.len
      have hkN : N ≤ k := by rw [← hkl]; exact Nat.le_of_eq HS.out.1.symm
      obtain ⟨wq, HWQ⟩ : ∃ z, Hid (z = wr) := ⟨_, Lib.hid rfl⟩
      rw [← HWQ.out] at hT V hc1 hVr rL cX0
      rw [← HWQ.out]
      obtain ⟨CV, HCV⟩ : ∃ C, Hid (comp VV L = C) := ⟨_, Lib.hid rfl⟩
      have HCG : Hid (∀ (j v : Nat), VV[j]? = some (v : Int) → v < N → CV[j]? = some (nmAt L v : Int) ∧ nmAt L v < N) := fun j v hj hv => by
        obtain ⟨u, hu, hun, hue⟩ := HS.out.at hv
        rw [hue, ← HCV.out]
        refine ⟨?_, hun⟩
        unfold comp
        rw [List.getElem?_map, hj]
        show some (nmI L (v : Int)) = _
        rw [nmI_get hu]
      have HF4 : Hid (subB N ops2 (markL N fun y => hasI (y : Int) CV) = true) := by show _ = _; rw [← HCV.out]; exact HV4.out.2
      have HVI := Lib.hid HV4.out.1
      clear hVx hkl rA sA sB rB HWQ
      go_wp2_with (at_make; refine make_bl wq rfl _ _ rfl N rfl rfl (by omega) ?_; intro w14 hown1 hg1)
      have hb1 := (Below.refl wq.heap.size wq).grown hg1 (Nat.le_refl _) (by simp)
      clear hg1 cX0
      go_loopw [19] (fun i wr => ∃ j : Nat, j ≤ m1 ∧ i = .int .i64 j ∧ wr.ownsRow wq.heap.size 4 1 (.slice (some ⟨wq.heap.size, 0, none⟩) N N) N (bls (inL N (CV.take j))) ∧ Below wq.heap.size wq wr) (fun i _ => m1 - (intOf i).toNat)
      case atStart =>
        refine ⟨0, Nat.zero_le _, rfl, ?_, hb1⟩
        have e : inL N (CV.take 0) = List.replicate N false := by
          unfold inL
          rw [List.take_zero]
          exact List.eq_replicate_iff.2 ⟨by simp, fun b hb => by obtain ⟨y, -, rfl⟩ := List.mem_map.1 hb; rfl⟩
        rw [e]
        exact hown1
      case round =>
        clear hown1 hb1
        obtain ⟨j, hj, rfl, hown, hTr⟩ := hrel
        have hc1' := keepM hTr hc1
        by_cases hltj : j < m1
        · have hj0 : (0 : Int) ≤ (j : Int) := by omega
          have hj1 : (j : Int) < (m1 : Int) := by omega
          obtain ⟨b2, o2, u2, v, rfl, hc2, ⟨rfl, -, -⟩, -, hx2⟩ := (hVr.next stab_RI hTr).at hltj
          have hvi := HVI.out v (List.mem_of_getElem? hx2)
          obtain ⟨v, rfl⟩ := Int.eq_ofNat_of_zero_le hvi.1
          have hvN : v < N := by omega
          obtain ⟨b3, o3, u3, y, rfl, hc3, ⟨rfl, -, -⟩, -, hx3⟩ := (rL.next stab_RI hTr).at (k := v) (by omega)
          obtain ⟨hCj, hyN⟩ := HCG.out j v hx2 hvN
          have hye : y = (nmAt L v : Int) := by
            obtain ⟨u, hu, hun, hue⟩ := HS.out.at hvN
            rw [hx3] at hu
            injection hu with hu
            rw [hu, hue]
          subst hye
          obtain ⟨x, HXE⟩ : ∃ x, Hid (nmAt L v = x) := ⟨_, Lib.hid rfl⟩
          rw [HXE.out] at hCj hyN hc3
          have HSET := Lib.hid (inL_set hCj hyN)
          have hcell : wr.cell? ⟨wq.heap.size, x, none⟩ = some (.bool (gB (inL N (CV.take j)) x)) := by rw [hown.cellAt x (by omega), bls_get (by rw [inL_len]; exact hyN)]
          have hfz := hown.frozenAt x
          have hst := (hown.stored x (.bool true)).1
          rw [bls_set, HSET.out] at hst
          have hx0 : (0 : Int) ≤ (x : Int) := by omega
          have hx1 : (x : Int) < (N : Int) := by omega
          have hv0 : (0 : Int) ≤ (v : Int) := by omega
          have hv1 : (v : Int) < (k : Int) := by omega
          clear hx2 hx3 hown hCj hvi
          go_wp2_with fail
          go_roundw
          case rel => exact ⟨j + 1, by omega, by go_num, hst, hTr.setCell (Nat.le_refl _) _⟩
          case measure => simp [intOf]; try omega
        · have hj1 : ¬ (j : Int) < (m1 : Int) := by omega
          have hCl : CV.length ≤ j := by rw [← HCV.out, comp_len, HVL.out]; omega
          rw [List.take_of_length_le hCl] at hown
          obtain ⟨wv, HWV⟩ : ∃ z, Hid (z = wr) := ⟨_, Lib.hid rfl⟩
          rw [← HWV.out] at hTr hown hc1'
          rw [← HWV.out]
          have V14 := below_next V hTr rfl
          have hTv := below_next hT hTr rfl
          obtain ⟨rA, rL2, rB, sA, sB⟩ := HKA.out wv V14
          have hrb : RdL RB wv (some ⟨wq.heap.size, 0, none⟩) N (inL N CV) := rd_of_own (R := RB) hown (fun _ _ => rfl)
          have hT5 := below_box wv (.cells #[] 3)
          have hO := World.ownsRow_lit (base := wv.heap.size) (e := 3) (size := 1) wv #[] 0 (Nat.le_refl _) (Nat.zero_le _) rfl
          clear HWV hown hCl
          go_wp2_with fail
          go_loopw [20, 21] (fun s i wr => ∃ (z m : Nat) (A1 : Option Addr) (c1 : Nat), z ≤ N ∧ i = .int .i64 z ∧ s = .slice A1 m c1 ∧ Hid (m = (markL z (gB (inL N CV))).length) ∧ wr.ownsRow wv.heap.size 3 1 (.slice A1 m c1) m (ints (markL z (gB (inL N CV)))) ∧ Below wv.heap.size wv wr) (fun _ i _ => N - (intOf i).toNat)
          case atStart => exact ⟨0, 0, _, _, Nat.zero_le _, rfl, rfl, rfl, hO, hT5⟩
          case round =>
            clear hO hT5
            obtain ⟨z, m, A5, c5, hz, rfl, rfl, hm, hown, hTr⟩ := hrel
            have hmz : m ≤ z := by rw [hm.out]; exact markL_le z _
            have cX0 := (rB.next hTr).cell 0
            simp at cX0
            by_cases hltz : z < N
            · have hz0 : (0 : Int) ≤ (z : Int) := by omega
              have hz1 : (z : Int) < (N : Int) := by omega
              obtain ⟨u, v, hc, rfl, -, hx⟩ := (hrb.next stab_RB hTr).at' hltz
              rw [Nat.zero_add] at hc
              have HG := Lib.hid (gB_get hx)
              have HSS := Lib.hid (markL_succ z (gB (inL N CV)))
              rw [HG.out] at HSS
              clear hx
              rcases v with _ | _
              · have HS2 : Hid (markL (z + 1) (gB (inL N CV)) = markL z (gB (inL N CV))) := by show _ = _; rw [HSS.out]; simp
                go_wp2_with fail
                go_roundw
                case rel => exact ⟨z + 1, m, A5, c5, by omega, by go_num, rfl, by rw [HS2.out]; exact hm, by rw [HS2.out]; exact hown, hTr⟩
                case measure => simp [intOf]; try omega
              · have HS2 : Hid (markL (z + 1) (gB (inL N CV)) = markL z (gB (inL N CV)) ++ [(z : Int)]) := by show _ = _; rw [HSS.out]; simp
                have hsz := hTr.size
                have hm2 : Hid (m + 1 = (markL (z + 1) (gB (inL N CV))).length) := by show _ = _; rw [HS2.out, List.length_append, ← hm.out]; rfl
                go_wp2_with (at_builtin; refine app1 wr rfl _ _ 27 3 rfl (.int .i64 0) 8 Tryz.underlying27 info_int rfl (by decide) wv.heap.size m c5 A5 (ints (markL z (gB (inL N CV)))) rfl hown (.int .i64 (z : Int)) rfl rfl (by omega) (by omega) ?_; intro A6 c6 w15 hown2 hg2 hb2)
                go_roundw
                case rel => exact ⟨z + 1, m + 1, A6, c6, by omega, by go_num, rfl, hm2, by rw [HS2.out]; simpa [ints] using hown2, hTr.trans hb2⟩
                case measure => simp [intOf]; try omega
            · have hz1 : ¬ (z : Int) < (N : Int) := by omega
              obtain rfl : N = z := by omega
              have hMV : markL N (gB (inL N CV)) = markL N fun y => hasI (y : Int) CV := markL_congr fun y hy => inL_get hy
              rw [hMV] at hm hown
              obtain ⟨M, HM⟩ : ∃ M, Hid (markL N (fun y => hasI (y : Int) CV) = M) := ⟨_, Lib.hid rfl⟩
              rw [HM.out] at hm hown HF4
              have V15 := below_next V14 hTr rfl
              obtain ⟨rA, rL3, rB3, sA3, sB3⟩ := HKA.out wr V15
              have hMb : ∀ v ∈ M, -9223372036854775808 ≤ v ∧ v ≤ 9223372036854775807 := fun v hv => by
                rw [← HM.out] at hv
                have := markL_in v hv
                omega
              have hrM : RdL RI wr A5 m M := by
                have h1 := hm.out
                subst h1
                exact rd_of_own (R := RI) hown (RI_ints hMb)
              have HIS := implIS_any _ ((N : Int), ops2) A5 m c5 M wr sA3 HYP.out hrM
              rw [show subB ((N : Int), ops2).1.toNat ((N : Int), ops2).2 M = true from HF4.out] at HIS
              have HIS := Lib.hid HIS
              have cY0 := sB3.cell 0
              have cY1 := sB3.cell 1
              simp at cY0 cY1
              clear hown hrM hMb rA rL3 rB3 sA3 sB3 hm hmz
              go_wp2_with fail
              refine HIS.out.mono ?_
              rintro e w16 ⟨rfl, hb16⟩
              have Z16 := below_next (below_next hTv hTr rfl) hb16 rfl
              clear cY0 cY1 cX0
              go_wp2_with fail
              go_roundw
              case rel => exact ⟨q + 1, by omega, by go_num, Z16⟩
              case measure => simp [intOf]; try omega
    · have hq1 : ¬ (q : Int) < (n1 : Int) := by omega
      have U13 := V
      obtain ⟨w17, HW17⟩ : ∃ z, Hid (z = wr) := ⟨_, Lib.hid rfl⟩
      rw [← HW17.out] at U13
      rw [← HW17.out]
      have U17 := U13
      clear hT V U13 R1
      go_upto_region 35 with fail
      obtain ⟨rA, rL, rB, sA, sB⟩ := HKA.out w17 U17
      have cX0 := rB.cell 0
      have cX1 := rB.cell 1
      simp at cX0 cX1
      have HI := implAC_any _ ((N : Int), ops) w17 rA
      rw [HC1.out.2, HC1.out.1] at HI
      have HI := Lib.hid HI
      clear rA rL rB sA sB
      go_wp2_with fail
      refine HI.out.mono ?_
      rintro e w18 ⟨A5, n5, c5, rfl, hM, hb18⟩
      have U18 := below_next U17 hb18 rfl
      clear cX0 cX1 HI
      have R5 : RdL (RV RI) w18 A5 n5 C1 := hM.rd (R := RI) fun V hV v hv => by have := par_in (F5.out V hV).1 v hv; exact ⟨rfl, by omega, by omega⟩
      clear hM
      obtain ⟨rA, rL, rB, sA, sB⟩ := HKA.out w18 U18
      have cX0 := rB.cell 0
      have cX1 := rB.cell 1
      simp at cX0 cX1
      have HI := specAC_any _ ((N : Int), ops) w18 rA
      rw [HC1.out.2, HC1.out.1] at HI
      have HI := Lib.hid HI
      clear rA rL rB sA sB
      go_wp2_with fail
      refine HI.out.mono ?_
      rintro e w19 ⟨A6, n6, c6, rfl, R6, hb19⟩
      have U19 := below_next U18 hb19 rfl
      clear cX0 cX1 HI
      replace R5 := R5.next stab_RVI hb19
      have HT := rTable_any A5 A6 n5 n6 c5 c6 C1 C1 w19 R5 R6
      rw [eqLL_self] at HT
      have HT := Lib.hid HT
      go_wp2_with fail
      refine HT.out.mono ?_
      rintro e w' ⟨rfl, z1, rfl⟩
      obtain ⟨w20, HW20⟩ : ∃ z, Hid (z = w19.drewN z1) := ⟨_, Lib.hid rfl⟩
      have hb20 : Below w19.heap.size w19 w20 := by rw [HW20.out]; exact below_drewN (Below.refl _ _) _
      rw [← HW20.out]
      have U20 := below_next U19 hb20 rfl
      replace R5 := R5.next stab_RVI hb20
      clear HT R6 hb18 hb19 hb20 HW20
      go_upto_region 39 with fail
      obtain ⟨rA, rL, rB, sA, sB⟩ := HKA.out w20 U20
      have cX0 := sB.cell 0
      have cX1 := sB.cell 1
      simp at cX0 cX1
      have HI := implAC_any _ ((N : Int), ops2) w20 sA
      rw [HC2.out.2, HC2.out.1] at HI
      have HI := Lib.hid HI
      clear rA rL rB sA sB
      go_wp2_with fail
      refine HI.out.mono ?_
      rintro e w21 ⟨A7, n7, c7, rfl, hM, hb21⟩
      have U21 := below_next U20 hb21 rfl
      clear cX0 cX1 HI
      have R7 : RdL (RV RI) w21 A7 n7 C2 := hM.rd (R := RI) fun V hV v hv => by have := par_in (F8.out V hV) v hv; exact ⟨rfl, by omega, by omega⟩
      clear hM
      obtain ⟨rA, rL, rB, sA, sB⟩ := HKA.out w21 U21
      have cX0 := sB.cell 0
      have cX1 := sB.cell 1
      simp at cX0 cX1
      have HI := specAC_any _ ((N : Int), ops2) w21 sA
      rw [HC2.out.2, HC2.out.1] at HI
      have HI := Lib.hid HI
      clear rA rL rB sA sB
      go_wp2_with fail
      refine HI.out.mono ?_
      rintro e w22 ⟨A8, n8, c8, rfl, R8, hb22⟩
      have U22 := below_next U21 hb22 rfl
      clear cX0 cX1 HI
      replace R7 := R7.next stab_RVI hb22
      have HT := rTable_any A7 A8 n7 n8 c7 c8 C2 C2 w22 R7 R8
      rw [eqLL_self] at HT
      have HT := Lib.hid HT
      have hl5 := R5.len
      have hl7 := R7.len
      have hnn : n5 = n7 := by rw [← hl5, ← hl7]; exact F3.out
      have hne : ((n5 : Int) != (n7 : Int)) = false := by rw [hnn]; simp
      clear hnn
      go_wp2_with fail
      refine HT.out.mono ?_
      rintro e w' ⟨rfl, z1, rfl⟩
      obtain ⟨w23, HW23⟩ : ∃ z, Hid (z = w22.drewN z1) := ⟨_, Lib.hid rfl⟩
      have hb23 : Below w22.heap.size w22 w23 := by rw [HW23.out]; exact below_drewN (Below.refl _ _) _
      rw [← HW23.out]
      have U23 := below_next U22 hb23 rfl
      replace R5 := R5.next stab_RVI (below_next (below_next hb21 hb22 rfl) hb23 rfl)
      have hn200 : n5 ≤ 1048576 := by
        have h1 := pars_len (n := N) (by omega) (few_five (ops := ops) (by omega)).2.1.nodup (fun p hp => (F5.out p (by rw [← HCC1.out]; exact hp)).1)
        rw [HCC1.out] at h1
        omega
      clear HT R7 R8 hb21 hb22 hb23 HW23 hl5 hl7 U18 U19 U21 U22
      go_wp2_with fail
      clear hne
      go_loopw [32] (fun i wr => ∃ q : Nat, q ≤ n5 ∧ i = .int .i64 q ∧ Below w23.heap.size w23 wr) (fun i _ => n5 - (intOf i).toNat)
      case atStart => exact ⟨0, Nat.zero_le _, rfl, Below.refl _ _⟩
      case round =>
        obtain ⟨q, hq, rfl, hT⟩ := hrel
        have V := below_next U23 hT rfl
        by_cases hlt : q < n5
        · have hq0 : (0 : Int) ≤ (q : Int) := by omega
          have hq1 : (q : Int) < (n5 : Int) := by omega
          obtain ⟨b1, o1, v1, p, rfl, hc1, ⟨B1, m1, d1, rfl, hpr⟩, -, hpx⟩ := (R5.next stab_RVI hT).at hlt
          have HP5 := Lib.hid (F5.out p (List.mem_of_getElem? hpx))
          obtain rfl : N = m1 := by rw [← hpr.len]; exact HP5.out.1.1.symm
          obtain ⟨rA, rL, rB, sA, sB⟩ := HKA.out wr V
          have cX0 := rB.cell 0
          simp at cX0
          have hkl := rL.len
          have hkN : N ≤ k := by rw [← hkl]; exact Nat.le_of_eq HS.out.1.symm
          obtain ⟨wq, HWQ⟩ : ∃ z, Hid (z = wr) := ⟨_, Lib.hid rfl⟩
          rw [← HWQ.out] at hT V hc1 hpr rL cX0 rB
          rw [← HWQ.out]
          clear hpx hkl rA sA sB HWQ
          go_wp2_with (at_make; refine make_ints wq rfl _ _ rfl N rfl rfl (by omega) ?_; intro w24 hown1 hg1)
          have hb1 := (Below.refl wq.heap.size wq).grown hg1 (Nat.le_refl _) (by simp)
          clear hg1 cX0
          go_loopw [34] (fun i wr => ∃ (z : Nat) (Q : List Int), z ≤ N ∧ i = .int .i64 z ∧ wr.ownsRow wq.heap.size 3 1 (.slice (some ⟨wq.heap.size, 0, none⟩) N N) N (ints Q) ∧ Hid (Q.length = N) ∧ Hid (∀ x, x < z → Q[nmAt L x]? = some (p.getD x 0)) ∧ Below wq.heap.size wq wr) (fun i _ => N - (intOf i).toNat)
          case atStart => exact ⟨0, List.replicate N 0, Nat.zero_le _, rfl, by simpa [ints] using hown1, List.length_replicate .., fun x hx => absurd hx (by omega), hb1⟩
          case round =>
            clear hown1 hb1
            obtain ⟨z, Q, hz, rfl, hown, HQL, HQ, hTr⟩ := hrel
            have cX0 := (rB.next hTr).cell 0
            simp at cX0
            by_cases hltz : z < N
            · have hz0 : (0 : Int) ≤ (z : Int) := by omega
              have hz1 : (z : Int) < (N : Int) := by omega
              have hc1' := keepM hTr hc1
              obtain ⟨b2, o2, u2', v, rfl, hc2, ⟨rfl, -, -⟩, -, hx2⟩ := (hpr.next stab_RI hTr).at hltz
              obtain ⟨b3, o3, u3', y, rfl, hc3, ⟨rfl, -, -⟩, -, hx3⟩ := (rL.next stab_RI hTr).at (k := z) (by omega)
              obtain ⟨u, hu, hun, hue⟩ := HS.out.at hltz
              have hye : y = (nmAt L z : Int) := by
                rw [hx3] at hu
                injection hu with hu
                rw [hu, hue]
              subst hye
              have HSET := Lib.hid (set_fillC HS.out HQL.out hltz HQ.out)
              rw [show p.getD z 0 = v from by rw [List.getD_eq_getElem?_getD, hx2]; rfl] at HSET
              have hyN : nmAt L z < N := by rw [hue]; exact hun
              obtain ⟨x, HXE⟩ : ∃ x, Hid (nmAt L z = x) := ⟨_, Lib.hid rfl⟩
              rw [HXE.out] at hyN hc3 HSET
              obtain ⟨old, hcell⟩ := own_cellI hown HQL.out hyN
              have hfz := hown.frozenAt x
              have hst := (hown.stored x (.int .i64 v)).1
              have hst2 : (wr.setCell ⟨wq.heap.size, x, none⟩ (.int .i64 v)).ownsRow wq.heap.size 3 1 (.slice (some ⟨wq.heap.size, 0, none⟩) N N) N (ints (Q.set x v)) := by
                have h1 := hst
                unfold ints at h1 ⊢
                rw [List.map_set]
                exact h1
              have HQL2 : Hid ((Q.set x v).length = N) := by show _ = _; rw [List.length_set]; exact HQL.out
              have hx0 : (0 : Int) ≤ (x : Int) := by omega
              have hx1 : (x : Int) < (N : Int) := by omega
              have hz2 : (z : Int) < (k : Int) := by omega
              have d1 : wr.drew.cell? _ = _ := hc1'
              have d2 : wr.drew.cell? _ = _ := hc2
              have d3 : wr.drew.cell? _ = _ := hc3
              have d4 : wr.drew.cell? _ = _ := hcell
              have d5 : wr.drew.frozen? _ = _ := hfz
              clear hx2 hx3 hu hue hun hst hown
              go_upto_region 50 with fail
              go_region
              all_goals
                go_wp2_with fail
                go_roundw
                case rel => exact ⟨z + 1, Q.set x v, by omega, by go_num, own_drewN hst2 1, HQL2, HSET.out, (hTr.setCell (p := ⟨wq.heap.size, x, none⟩) (Nat.le_refl _) _).drew⟩
                case measure => simp [intOf]; try omega
            · have hz1 : ¬ (z : Int) < (N : Int) := by omega
              have hQE : Q = comp (inv N L) p := fill_doneC HS.out HP5.out.1.1 HQL.out fun x hx => HQ.out x (by omega)
              have HK5 : Hid (congB N ops2 (kerL Q) = true) := by show _ = _; rw [hQE]; exact HP5.out.2
              have hQb : ∀ v ∈ Q, -9223372036854775808 ≤ v ∧ v ≤ 9223372036854775807 := fun v hv => by
                rw [hQE] at hv
                unfold comp at hv
                obtain ⟨u, -, rfl⟩ := List.mem_map.1 hv
                have hin := par_in HP5.out.1
                unfold nmI
                rw [List.getD_eq_getElem?_getD]
                rcases e : p[u.toNat]? with _ | y
                · exact ⟨by decide, by decide⟩
                · have := hin y (List.mem_of_getElem? e)
                  show -9223372036854775808 ≤ y ∧ y ≤ 9223372036854775807
                  omega
              obtain ⟨wv, HWV⟩ : ∃ z, Hid (z = wr) := ⟨_, Lib.hid rfl⟩
              rw [← HWV.out] at hTr hown cX0
              rw [← HWV.out]
              have hrQ : RdL RI wv (some ⟨wq.heap.size, 0, none⟩) N Q := rd_of_own (R := RI) hown (RI_ints hQb)
              have HPM := Lib.hid (implPM_any N (some ⟨wq.heap.size, 0, none⟩) N Q wv hrQ hN1 (by omega))
              have V24 := below_next V hTr rfl
              have hTv := below_next hT hTr rfl
              clear hQE hQb hrQ hown HWV HQL HQ
              go_wp2_with fail
              refine HPM.out.mono ?_
              rintro e w25 ⟨A9, c9, rfl, hr9, hb25⟩
              have V25 := below_next V24 hb25 rfl
              obtain ⟨rA2, rL2, rB2, sA2, sB2⟩ := HKA.out w25 V25
              have HIC := implIC_any _ ((N : Int), ops2) A9 N c9 (kerL Q) w25 sA2 HYP.out hr9
              rw [show congB ((N : Int), ops2).1.toNat ((N : Int), ops2).2 (kerL Q) = true from HK5.out] at HIC
              have HIC := Lib.hid HIC
              have cY0 := sB2.cell 0
              have cY1 := sB2.cell 1
              simp at cY0 cY1
              clear rA2 rL2 rB2 sA2 sB2 hr9 cX0
              go_wp2_with fail
              refine HIC.out.mono ?_
              rintro e w26 ⟨rfl, hb26⟩
              have Z26 := below_next (below_next hTv hb25 rfl) hb26 rfl
              clear cY0 cY1
              go_wp2_with fail
              go_roundw
              case rel => exact ⟨q + 1, by omega, by go_num, Z26⟩
              case measure => simp [intOf]; try omega
        · have hq1 : ¬ (q : Int) < (n5 : Int) := by omega
          obtain ⟨w27, HW27⟩ : ∃ z, Hid (z = wr) := ⟨_, Lib.hid rfl⟩
          rw [← HW27.out] at V
          rw [← HW27.out]
          have U27 := V
          obtain ⟨rA, rL, rB, sA, sB⟩ := HKA.out w27 U27
          have HI := implCF_any _ ((N : Int), ops) w27 rA
          rw [SA.out, show cfM ((N : Int), ops) = canA ((N : Int), ops) from by unfold cfM; rw [SA.out]; rfl] at HI
          obtain ⟨cn, HCN⟩ : ∃ c, Hid (canA ((N : Int), ops) = c) := ⟨_, Lib.hid rfl⟩
          rw [HCN.out] at HI F6
          have HI := Lib.hid HI
          have cX0 := rB.cell 0
          have cX1 := rB.cell 1
          simp at cX0 cX1
          clear rA rL rB sA sB hT V HW27 R5
          go_wp2_with fail
          refine HI.out.mono ?_
          rintro e w28 ⟨cs7, bl7, rfl, hO7, -, hb28⟩
          obtain ⟨AF, mF, cF, hdf, -, -⟩ := rdAlgebra (shAlgebra.ord hO7)
          subst hdf
          obtain ⟨w29, HW29⟩ : ∃ wb, Hid (wb = w28.alloc (.cells #[.int .i64 cn.1, .slice AF mF cF] 26)) := ⟨_, Lib.hid rfl⟩
          have hb29 : Below w28.heap.size w28 w29 := by rw [HW29.out]; exact below_box _ _
          have BF_ : Blk w29 w28.heap.size 26 #[.int .i64 cn.1, .slice AF mF cF] := by rw [HW29.out]; exact Blk.new _ _ _
          obtain ⟨gF, HGF⟩ : ∃ x, Hid (w28.heap.size = x) := ⟨_, Lib.hid rfl⟩
          clear cX0 cX1 HI
          go_upto_region 56 with fail
          rw [← HW29.out]
          rw [HGF.out] at BF_ ⊢
          have U29 := below_next (below_next U27 hb28 rfl) hb29 rfl
          have HKF : Hid (∀ wz, Below w29.heap.size w29 wz → shAlgebra.rd wz [.int .i64 cn.1, .slice AF mF cF] cn ∧ Blk wz gF 26 #[.int .i64 cn.1, .slice AF mF cF]) := fun wz hz => ⟨stab_same (stab_same (shAlgebra.ord hO7) hb29) hz, BF_.next hz⟩
          obtain ⟨rA, rL, rB, sA, sB⟩ := HKA.out w29 U29
          have HI := implCF_any _ ((N : Int), ops2) w29 sA
          rw [SB.out, show cfM ((N : Int), ops2) = cn from by unfold cfM; rw [SB.out]; exact F6.out] at HI
          have HI := Lib.hid HI
          have cX0 := sB.cell 0
          have cX1 := sB.cell 1
          simp at cX0 cX1
          clear rA rL rB sA sB hO7 hb28 hb29 BF_ HW29
          go_wp2_with fail
          refine HI.out.mono ?_
          rintro e w30 ⟨cs8, bl8, rfl, hO8, -, hb30⟩
          obtain ⟨AG, mG, cG, hdg, -, -⟩ := rdAlgebra (shAlgebra.ord hO8)
          subst hdg
          obtain ⟨w31, HW31⟩ : ∃ wb, Hid (wb = w30.alloc (.cells #[.int .i64 cn.1, .slice AG mG cG] 26)) := ⟨_, Lib.hid rfl⟩
          have hb31 : Below w30.heap.size w30 w31 := by rw [HW31.out]; exact below_box _ _
          have BG_ : Blk w31 w30.heap.size 26 #[.int .i64 cn.1, .slice AG mG cG] := by rw [HW31.out]; exact Blk.new _ _ _
          obtain ⟨gG, HGG⟩ : ∃ x, Hid (w30.heap.size = x) := ⟨_, Lib.hid rfl⟩
          clear cX0 cX1 HI
          go_upto_region 57 with fail
          rw [← HW31.out]
          rw [HGG.out] at BG_ ⊢
          have S31 := below_next hb30 hb31 rfl
          have U31 := below_next U29 S31 rfl
          obtain ⟨rF, rB⟩ := HKF.out w31 S31
          have HI := rAlgebra_any _ _ cn cn w31 rF (stab_same (shAlgebra.ord hO8) hb31)
          rw [eqC_self] at HI
          have HI := Lib.hid HI
          have cX0 := rB.cell 0
          have cX1 := rB.cell 1
          have cZ0 := BG_.cell 0
          have cZ1 := BG_.cell 1
          simp at cX0 cX1 cZ0 cZ1
          clear rF rB hO8 hb30 hb31 BG_ HW31
          go_wp2_with fail
          refine HI.out.mono ?_
          rintro e w32 ⟨rfl, hb32⟩
          have T32 := below_next T7 (below_next U31 hb32 rfl) rfl
          go_wp2_with fail
          go_ret
          exact ⟨rfl, T32⟩
end Go.Proofs.YtbkgbckbbnflpaaGreat
