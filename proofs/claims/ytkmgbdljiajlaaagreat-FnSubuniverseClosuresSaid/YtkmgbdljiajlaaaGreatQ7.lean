/- Parts of the proof: LawSubuniverseClosures. -/
import Derived.Test.YtkmgbdljiajlaaaGreatQ4
import Derived.Test.YtkmgbdljiajlaaaGreatQ6
import Derived.BigGuardPart
namespace Go.Proofs.YtkmgbdljiajlaaaGreat
open Go.RowKit
set_option linter.unusedVariables false
set_option linter.unusedSimpArgs false

theorem ownmb_lenS {w : World} {A : Option Addr} {n c lo : Nat} {xss : List (List Int)} (h : OwM 27 3 (.int .i64) lo w (.slice A n c) n xss) : xss.length = n ∧ n ≤ c := by
  obtain ⟨vs, h1, h2, -⟩ := h
  have := h1.1
  refine ⟨by rw [← h2]; simpa using this, ?_⟩
  rcases h1.2 with ⟨e', h0⟩ | ⟨g', cap, cur, e', hb', -, h1, -⟩
  · omega
  · injection e' with _ _ e3
    omega
theorem mat_rd {w : World} {A : Option Addr} {n c lo N : Nat} {xss : List (List Int)} (h : OwM 27 3 (.int .i64) lo w (.slice A n c) n xss) (hb : ∀ s ∈ xss, IsSet N s) (hN : N ≤ 1048576) : RdL (RV RI) w A n xss :=
  h.rd (R := RI) fun s hs y hy => ⟨rfl, by have := (hb s hs).2 y hy; omega, by have := (hb s hs).2 y hy; omega⟩
set_option maxRecDepth 100000 in
set_option maxHeartbeats 16000000 in
theorem lawSubs (A : Option Addr) (n c : Nat) (code : List Int) (w : World) (h : RdL RU8 w A n code) :
    Calls Tryz.prog 3 #[.slice A n c] w (Bl w (.bool true)) := by
  have hle := h.le
  by_cases hbig : 65536 < n
  · go_enter Tryz.func3, Tryz.ntmps3
    have hd : decide (65536 < n) = true := by simpa using hbig
    go_wp2_with fail
    refine (rBig_any A n c _ hle).mono ?_
    rintro e w' ⟨rfl, rfl⟩
    rw [hd]
    go_wp2_with fail
    go_ret
    exact ⟨rfl, Below.refl _ _⟩
  have hC := code_inB h (by omega)
  have HDb : Hid (decide (65536 < n) = false) := by show _ = _; simpa using hbig
  clear hbig
  go_enter Tryz.func3, Tryz.ntmps3
  go_wp2_with fail
  refine (rBig_any A n c _ hle).mono ?_
  rintro e w' ⟨rfl, rfl⟩
  rw [HDb.out]
  go_wp2_with fail
  refine (drawInd_any A n c _ hC).mono ?_
  rintro e w1 ⟨ds, x, AL, k, cL, L, rfl, hAL, hAQ, hkc, hk21, hLB, T1⟩
  obtain ⟨hA, hL⟩ := hAL w1 (fun _ _ _ => rfl)
  obtain ⟨AX, mX, cX, hdx, -, -⟩ := rdAlgebra hA
  subst hdx
  obtain ⟨z, ops⟩ := x
  obtain ⟨N, rfl⟩ : ∃ N : Nat, z = (N : Int) := ⟨z.toNat, by have h1 : 0 ≤ z := hAQ.1; omega⟩
  have hN9 : N ≤ 9 := by have h1 : (N : Int) ≤ 9 := hAQ.2.1; omega
  clear hAL hAQ hLB hC
  have hA : shAlgebra.rd w1 [.int .i64 (N : Int), .slice AX mX cX] ((N : Int), ops) := hA
  obtain ⟨w2, HW2⟩ : ∃ wb, Hid (wb = w1.alloc (.cells #[.int .i64 (N : Int), .slice AX mX cX] 26)) := ⟨_, Lib.hid rfl⟩
  have hb2 : Below w1.heap.size w1 w2 := by rw [HW2.out]; exact below_box _ _
  have BX : Blk w2 w1.heap.size 26 #[.int .i64 (N : Int), .slice AX mX cX] := by rw [HW2.out]; exact Blk.new _ _ _
  obtain ⟨gX, HGX⟩ : ∃ x, Hid (w1.heap.size = x) := ⟨_, Lib.hid rfl⟩
  go_upto_region 4 with fail
  rw [← HW2.out]
  rw [HGX.out] at BX ⊢
  replace hA := stab_same hA hb2
  replace hL := hL.next stab_RI hb2
  have T2 := below_next T1 hb2 rfl
  obtain ⟨eb, HEB⟩ : ∃ b, Hid (elB ((N : Int), ops) L = b) := ⟨_, Lib.hid rfl⟩
  obtain ⟨ib, HIB⟩ : ∃ b, Hid ((eb && indB ((N : Int), ops) L) = b) := ⟨_, Lib.hid rfl⟩
  have HI : Hid (Calls Tryz.prog 7 #[.agg #[.int .i64 (N : Int), .slice AX mX cX], .slice AL k cL] w2 (Bl w2 (.tuple #[.bool ib, .bool eb]))) := by
    have := implInd_any [.int .i64 (N : Int), .slice AX mX cX] ((N : Int), ops) AL k cL L w2 hA hL hkc
    rw [HEB.out, HIB.out] at this
    exact this
  have cX0 := BX.cell 0
  have cX1 := BX.cell 1
  simp at cX0 cX1
  clear hb2 T1
  go_wp2_with fail
  refine HI.out.mono ?_
  rintro e w3 ⟨rfl, T3⟩
  replace hA := stab_same hA T3
  replace hL := hL.next stab_RI T3
  replace BX := BX.next T3
  replace T2 := below_next T2 T3 rfl
  have HS : Hid (Calls Tryz.prog 8 #[.agg #[.int .i64 (N : Int), .slice AX mX cX], .slice AL k cL] w3 (Bl w3 (.tuple #[.bool ib, .bool eb]))) := by
    have := specInd_any [.int .i64 (N : Int), .slice AX mX cX] ((N : Int), ops) AL k cL L w3 hA hL hkc
    rw [HEB.out, HIB.out] at this
    exact this
  clear cX0 cX1
  have cX0 := BX.cell 0
  have cX1 := BX.cell 1
  simp at cX0 cX1
  clear HI T3
  go_wp2_with fail
  refine HS.out.mono ?_
  rintro e w4 ⟨rfl, T4⟩
  replace hA := stab_same hA T4
  replace hL := hL.next stab_RI T4
  replace BX := BX.next T4
  replace T2 := below_next T2 T4 rfl
  clear cX0 cX1
  have cX0 := BX.cell 0
  have cX1 := BX.cell 1
  simp at cX0 cX1
  have hbi : (ib != ib) = false := by cases ib <;> rfl
  have hbe : (eb != eb) = false := by cases eb <;> rfl
  clear HS T4
  rcases eb with _ | _
  · go_wp2_with fail
    go_ret
    exact ⟨rfl, T2⟩
  by_cases h6 : 6 < N
  · have h6i : (6 : Int) < (N : Int) := by omega
    go_wp2_with fail
    go_ret
    exact ⟨rfl, T2⟩
  have h6i : ¬ (6 : Int) < (N : Int) := by omega
  have h6j : (N : Int) ≤ 6 := by omega
  have hN6 : N ≤ 6 := by omega
  obtain ⟨hax, -, hLin⟩ := el_parts HEB.out
  have HLI : Hid (∀ v ∈ L, 0 ≤ v ∧ v ≤ (N : Int) - 1) := hLin
  have HLEN := Lib.hid hL.len
  obtain ⟨S, HSS⟩ : ∃ S, Hid (subsL ((N : Int), ops) = S) := ⟨_, Lib.hid rfl⟩
  have HAS : Hid (asRes ((N : Int), ops) = S) := by show _ = _; unfold asRes; rw [alg_iff.2 hax, if_pos rfl, HSS.out]
  have HALG : Hid (algB ((N : Int), ops) = true) := alg_iff.2 hax
  have HSET : Hid (∀ s ∈ S, IsSet N s) := fun s hs => by rw [← HSS.out] at hs; exact ((subs_mem (by omega)).1 hs).1
  have HSLN : Hid (∀ s ∈ S, s.length ≤ 1048576) := fun s hs => by rw [← HSS.out] at hs; exact subs_lenL (by omega) s hs
  have HRES : Hid (sysRes (N : Int) S = true) := by show _ = _; rw [← HSS.out]; exact subs_res hN6
  have HIN6 : Hid (inB (N : Int) 0 6 = true) := by show _ = _; unfold inB; simp; omega
  have HIBL : Hid (ib = indB ((N : Int), ops) L) := by show _ = _; rw [← HIB.out]; rfl
  have H1 : Hid (Calls Tryz.prog 9 #[.agg #[.int .i64 (N : Int), .slice AX mX cX]] w4 (OwnMB w4 S true)) := by
    have := implAS_any [.int .i64 (N : Int), .slice AX mX cX] ((N : Int), ops) w4 hA
    rw [HAS.out, HALG.out] at this
    exact this
  clear hax hLin
  go_wp2_with fail
  refine H1.out.mono ?_
  rintro e w5 ⟨A9, n9, c9, rfl, hM9, T5⟩
  obtain ⟨-, hc9⟩ := ownmb_lenS hM9
  have hS9 := mat_rd hM9 HSET.out (by omega)
  replace hA := stab_same hA T5
  replace hL := hL.next stab_RI T5
  replace BX := BX.next T5
  replace T2 := below_next T2 T5 rfl
  clear cX0 cX1 hM9
  have cX0 := BX.cell 0
  have cX1 := BX.cell 1
  simp at cX0 cX1
  have H2 : Hid (Calls Tryz.prog 10 #[.agg #[.int .i64 (N : Int), .slice AX mX cX]] w5 (RdMB w5 S true)) := by
    have := specAS_any [.int .i64 (N : Int), .slice AX mX cX] ((N : Int), ops) w5 hA
    rw [HAS.out, HALG.out] at this
    exact this
  clear H1 T5
  go_wp2_with fail
  refine H2.out.mono ?_
  rintro e w6 ⟨A11, n11, c11, rfl, hS11, T6⟩
  replace hA := stab_same hA T6
  replace hL := hL.next stab_RI T6
  replace hS9 := hS9.next stab_RVI T6
  replace BX := BX.next T6
  replace T2 := below_next T2 T6 rfl
  clear cX0 cX1
  have H3 := Lib.hid (rTable_any A9 A11 n9 n11 c9 c11 S S w6 hS9 hS11)
  clear H2 T6
  go_wp2_with fail
  refine H3.out.mono ?_
  rintro e w7 ⟨rfl, z7, rfl⟩
  rw [eqLL_self]
  have T7 : Below w6.heap.size w6 (w6.drewN z7) := below_drewN (Below.refl _ _) z7
  obtain ⟨w7, HW7⟩ : ∃ x, Hid (x = w6.drewN z7) := ⟨_, Lib.hid rfl⟩
  rw [← HW7.out] at T7 ⊢
  replace hA := stab_same hA T7
  replace hL := hL.next stab_RI T7
  replace hS9 := hS9.next stab_RVI T7
  replace BX := BX.next T7
  replace T2 := below_next T2 T7 rfl
  have cX0 := BX.cell 0
  have cX1 := BX.cell 1
  simp at cX0 cX1
  have H4 : Hid (Calls Tryz.prog 12 #[.int .i64 (N : Int), .slice A9 n9 c9] w7 (Bl w7 (.tuple #[.bool true, .bool true]))) := by
    have := implIsSys_any A9 n9 c9 S (N : Int) w7 hS9 hc9 HSLN.out
    rw [HRES.out, HIN6.out] at this
    exact this
  clear H3 T7 hS11
  go_wp2_with fail
  refine H4.out.mono ?_
  rintro e w8 ⟨rfl, T8⟩
  replace hA := stab_same hA T8
  replace hL := hL.next stab_RI T8
  replace hS9 := hS9.next stab_RVI T8
  replace BX := BX.next T8
  replace T2 := below_next T2 T8 rfl
  clear cX0 cX1 H4 T8
  have hlit := World.ownsRow_lit (base := w8.heap.size) (e := 3) (size := 1) w8 #[] 0 (Nat.le_refl _) (Nat.zero_le _) rfl
  have hTl : Below w8.heap.size w8 (w8.alloc (.cells #[] 3)) := below_box _ _
  go_wp2_with fail
  go_loopw [15, 16] (fun s i wr => ∃ (j m c : Nat) (A : Option Addr), s = .slice A m c ∧ i = .int .i64 (j : Int) ∧ j ≤ N ∧ m ≤ j ∧ wr.ownsRow w8.heap.size 3 1 (.slice A m c) m (ints (markL j fun y => hasI (y : Int) L)) ∧ Below w8.heap.size w8 wr) (fun _ i _ => N - (intOf i).toNat)
  case atStart => exact ⟨0, 0, 0, _, rfl, rfl, Nat.zero_le _, Nat.le_refl _, hlit, hTl⟩
  case round =>
    clear hlit hTl
    obtain ⟨j, m, cs, AS, rfl, rfl, hj, hmj, hown, hTr⟩ := hrel
    have cX0 := (BX.next hTr).cell 0
    simp at cX0
    by_cases hlt : j < N
    · have hj0 : (0 : Int) ≤ (j : Int) := by omega
      have hj1 : (j : Int) < (N : Int) := by omega
      have HH := Lib.hid (rHas_any AL k cL L (j : Int) wr (hL.next stab_RI hTr))
      obtain ⟨hb, HHB⟩ : ∃ b, Hid (hasI (j : Int) L = b) := ⟨_, Lib.hid rfl⟩
      have HST : Hid (markL (j + 1) (fun y => hasI (y : Int) L) = markL j (fun y => hasI (y : Int) L) ++ if hb then [(j : Int)] else []) := by show _ = _; rw [markL_succ, HHB.out]
      obtain ⟨M, HM⟩ : ∃ M, Hid (markL j (fun y => hasI (y : Int) L) = M) := ⟨_, Lib.hid rfl⟩
      rw [HM.out] at hown HST
      have hz := hTr.size
      rcases hb with _ | _
      · have HS2 : Hid (markL (j + 1) (fun y => hasI (y : Int) L) = M) := by show _ = _; rw [HST.out]; simp
        go_wp2_with fail
        refine HH.out.mono ?_
        rintro e wq ⟨rfl, rfl⟩
        rw [HHB.out]
        go_wp2_with fail
        go_roundw
        case rel => exact ⟨j + 1, m, cs, AS, rfl, by go_num, by omega, by omega, by rw [HS2.out]; exact hown, hTr⟩
        case measure => simp [intOf]; omega
      · have HS2 : Hid (markL (j + 1) (fun y => hasI (y : Int) L) = M ++ [(j : Int)]) := by show _ = _; rw [HST.out]; simp
        go_wp2_with fail
        refine HH.out.mono ?_
        rintro e wq ⟨rfl, rfl⟩
        rw [HHB.out]
        go_wp2_with (at_builtin; refine app1 wr rfl _ _ 27 3 rfl (.int .i64 0) 8 Tryz.underlying27 info_int rfl (by decide) w8.heap.size m cs AS (ints M) rfl hown (.int .i64 (j : Int)) rfl rfl (by omega) hz ?_; intro A2 c2 w9 hown9 hg9 hb9)
        rw [ints_snocG] at hown9
        have hT9 := hTr.trans hb9
        clear hown hg9 hb9
        go_roundw
        case rel => exact ⟨j + 1, m + 1, c2, A2, rfl, by go_num, by omega, by omega, by rw [HS2.out]; exact hown9, hT9⟩
        case measure => simp [intOf]; omega
    · obtain rfl : j = N := by omega
      have hj1 : ¬ (j : Int) < (j : Int) := by omega
      obtain ⟨M, HM⟩ : ∃ M, Hid (setL j L = M) := ⟨_, Lib.hid rfl⟩
      have hown' : wr.ownsRow w8.heap.size 3 1 (.slice AS m cs) m (ints M) := by rw [← HM.out]; exact hown
      have HMS : Hid (IsSet j M) := by show IsSet _ _; rw [← HM.out]; exact setL_set L
      have hMr := rd_of_own (R := RI) hown' (RI_ints fun v hv => by have := HMS.out.2 v hv; omega)
      have HMM : Hid (∀ v ∈ M, v ∈ L) := fun v hv => by rw [← HM.out] at hv; exact (setL_mem HLI.out).1 hv
      obtain ⟨G, HG⟩ : ∃ G, Hid (genL j ops L = G) := ⟨_, Lib.hid rfl⟩
      have HCO : Hid (closeOk (j : Int) S M = true) := by show _ = _; unfold closeOk; rw [HRES.out, setB_iff.2 HMS.out]; rfl
      have HCR : Hid (closeRes (j : Int) S M = G) := by
        show _ = _
        unfold closeRes
        rw [HCO.out, if_pos rfl, ← HSS.out, subs_close (by omega) (fun v hv => HMS.out.2 v hv), ← HG.out]
        exact gen_congr fun v => ⟨fun hv => HMM.out v hv, fun hv => by rw [← HM.out]; exact (setL_mem HLI.out).2 hv⟩
      have HGB : Hid (∀ v ∈ G, -9223372036854775808 ≤ v ∧ v ≤ 9223372036854775807) := by rw [← HG.out]; exact genL_bd (by omega)
      have HLAW : Hid (ib = (decide (M.length = L.length) && decide (0 ≤ place (fsRes (j : Int) S) M))) := by show _ = _; rw [HIBL.out, ind_law hN6 HLI.out, HM.out, HSS.out]
      have hML : M.length = m := hMr.len
      have HML := Lib.hid hML
      replace hA := stab_same hA hTr
      replace hL := hL.next stab_RI hTr
      replace hS9 := hS9.next stab_RVI hTr
      replace BX := BX.next hTr
      replace T2 := below_next T2 hTr rfl
      have H5 : Hid (Calls Tryz.prog 14 #[.int .i64 (j : Int), .slice A9 n9 c9, .slice AS m cs] wr (OwnB wr G true)) := by
        have := implClosureOf_any A9 AS n9 c9 m cs S M (j : Int) wr hS9 hc9 HSLN.out hMr
        rw [HCO.out, HCR.out] at this
        exact this
      clear hown hown' hML
      go_wp2_with fail
      refine H5.out.mono ?_
      rintro e w9 ⟨A17, n17, c17, rfl, ho17, T9⟩
      have h17 := rd_of_own (R := RI) ho17 (RI_ints HGB.out)
      replace hA := stab_same hA T9
      replace hL := hL.next stab_RI T9
      replace hS9 := hS9.next stab_RVI T9
      replace hMr := hMr.next stab_RI T9
      replace BX := BX.next T9
      replace T2 := below_next T2 T9 rfl
      clear cX0 ho17
      have cX0 := BX.cell 0
      have cX1 := BX.cell 1
      simp at cX0 cX1
      have H6 : Hid (Calls Tryz.prog 15 #[.agg #[.int .i64 (j : Int), .slice AX mX cX], .slice AL k cL] w9 (OwnB w9 G true)) := by
        have := implGS_any [.int .i64 (j : Int), .slice AX mX cX] ((j : Int), ops) AL k cL L w9 hA hL
        rw [HEB.out, show gsRes ((j : Int), ops) L = G by unfold gsRes; rw [HEB.out, if_pos rfl, ← HG.out]; simp] at this
        exact this
      clear H5 T9
      go_wp2_with fail
      refine H6.out.mono ?_
      rintro e w10 ⟨A19, n19, c19, rfl, ho19, T10⟩
      have h19 := rd_of_own (R := RI) ho19 (RI_ints HGB.out)
      replace hA := stab_same hA T10
      replace hS9 := hS9.next stab_RVI T10
      replace hMr := hMr.next stab_RI T10
      replace h17 := h17.next stab_RI T10
      replace BX := BX.next T10
      replace T2 := below_next T2 T10 rfl
      clear cX0 cX1 ho19
      have H7 := Lib.hid (rInts_any A17 A19 n17 n19 c17 c19 G G w10 h17 h19)
      clear H6 T10
      go_wp2_with fail
      refine H7.out.mono ?_
      rintro e wq ⟨rfl, z11, rfl⟩
      rw [eqL_self]
      have T11 : Below w10.heap.size w10 (w10.drewN z11) := below_drewN (Below.refl _ _) z11
      obtain ⟨w11, HW11⟩ : ∃ x, Hid (x = w10.drewN z11) := ⟨_, Lib.hid rfl⟩
      rw [← HW11.out] at T11 ⊢
      replace hS9 := hS9.next stab_RVI T11
      replace hMr := hMr.next stab_RI T11
      replace BX := BX.next T11
      replace T2 := below_next T2 T11 rfl
      have cX0 := BX.cell 0
      have cX1 := BX.cell 1
      simp at cX0 cX1
      obtain ⟨FS, HFS⟩ : ∃ F, Hid (fsRes (j : Int) S = F) := ⟨_, Lib.hid rfl⟩
      have HFB : Hid (∀ s ∈ FS, IsSet j s) := fun s hs => by
        rw [← HFS.out] at hs
        unfold fsRes at hs
        rw [HRES.out, if_pos rfl, frI_mem] at hs
        obtain ⟨q, h1, rfl, -⟩ := frees_iff.1 hs
        exact bits6_in (by simpa using h1) hN6
      rw [HFS.out] at HLAW
      have H8 : Hid (Calls Tryz.prog 17 #[.int .i64 (j : Int), .slice A9 n9 c9] w11 (OwnMB w11 FS true)) := by
        have := implFS_any A9 n9 c9 (j : Int) S w11 hS9 hc9 HSLN.out
        rw [HFS.out, HRES.out] at this
        exact this
      clear H7 T11 h17 h19 hA hL
      go_wp2_with fail
      refine H8.out.mono ?_
      rintro e w12 ⟨A21, n21, c21, rfl, hM21, T12⟩
      have h21 := mat_rd hM21 HFB.out (by omega)
      replace hS9 := hS9.next stab_RVI T12
      replace hMr := hMr.next stab_RI T12
      replace BX := BX.next T12
      replace T2 := below_next T2 T12 rfl
      clear cX0 cX1 hM21
      have cX0 := BX.cell 0
      have cX1 := BX.cell 1
      simp at cX0 cX1
      have H9 : Hid (Calls Tryz.prog 18 #[.int .i64 (j : Int), .slice A9 n9 c9] w12 (RdMB w12 FS true)) := by
        have := specFS_any A9 n9 c9 S (j : Int) w12 hS9
        rw [HFS.out, HRES.out] at this
        exact this
      clear H8 T12
      go_wp2_with fail
      refine H9.out.mono ?_
      rintro e w13 ⟨A23, n23, c23, rfl, h23, T13⟩
      replace h21 := h21.next stab_RVI T13
      replace hMr := hMr.next stab_RI T13
      replace T2 := below_next T2 T13 rfl
      clear cX0 cX1
      have H10 := Lib.hid (rTable_any A21 A23 n21 n23 c21 c23 FS FS w13 h21 h23)
      clear H9 T13 BX hS9
      go_wp2_with fail
      refine H10.out.mono ?_
      rintro e wq ⟨rfl, z14, rfl⟩
      rw [eqLL_self]
      have T14 : Below w13.heap.size w13 (w13.drewN z14) := below_drewN (Below.refl _ _) z14
      obtain ⟨w14, HW14⟩ : ∃ x, Hid (x = w13.drewN z14) := ⟨_, Lib.hid rfl⟩
      rw [← HW14.out] at T14 ⊢
      replace h21 := h21.next stab_RVI T14
      replace hMr := hMr.next stab_RI T14
      replace T2 := below_next T2 T14 rfl
      clear H10 T14 h23
      by_cases hmk : m = k
      · subst hmk
        obtain ⟨pl, HPL⟩ : ∃ p, Hid (place FS M = p) := ⟨_, Lib.hid rfl⟩
        have HPP := rPlace_any A21 AS n21 m c21 cs FS M w14 h21 hMr
        rw [HPL.out] at HPP
        have HPP := Lib.hid HPP
        have HIV : Hid (ib = decide (0 ≤ pl)) := by show _ = _; rw [HLAW.out, HPL.out, decide_eq_true (by rw [HML.out, HLEN.out]), Bool.true_and]
        by_cases hpl : 0 ≤ pl
        · have hib : ib = true := by rw [HIV.out]; simpa using hpl
          subst hib
          go_wp2_with fail
          refine HPP.out.mono ?_
          rintro e wq ⟨rfl, z15, rfl⟩
          go_wp2_with fail
          go_ret
          exact ⟨rfl, below_drewN T2 z15⟩
        · have hib : ib = false := by rw [HIV.out]; simpa using hpl
          subst hib
          have hpl2 : pl < 0 := by omega
          go_wp2_with fail
          refine HPP.out.mono ?_
          rintro e wq ⟨rfl, z15, rfl⟩
          go_wp2_with fail
          go_ret
          exact ⟨by show Ending.returned (.bool (!decide (0 ≤ pl))) = _; rw [decide_eq_false (by omega : ¬ 0 ≤ pl)]; rfl, below_drewN T2 z15⟩
      · have hmk1 : ¬ (m : Int) = (k : Int) := by omega
        have hib : ib = false := by rw [HLAW.out, decide_eq_false (by rw [HML.out, HLEN.out]; exact hmk), Bool.false_and]
        subst hib
        go_wp2_with fail
        go_ret
        exact ⟨rfl, T2⟩
end Go.Proofs.YtkmgbdljiajlaaaGreat
