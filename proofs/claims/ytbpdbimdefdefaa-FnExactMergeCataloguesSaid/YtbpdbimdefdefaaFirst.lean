
/- Walks: the first order of names by its code (the reference's l31First). -/
import Derived.Test.YtbpdbimdefdefaaNames
namespace Go.Proofs.Ytbpdbimdefdefaa
open Go.RowKit

theorem PO.alg {lo : Nat} {w : World} {v : Value} {a : Int} {xs : List OpM} {css : List (List Value)} {bls : List (List Nat)} (h : PO lo w v xs css bls) (ha : InR a) : shAlgebra.rd w [.int .i64 a, v] (a, xs) :=
  ⟨[.int .i64 a], [v], rfl, ⟨_, rfl, rfl, ha.1, ha.2⟩, (Sh.rows shOp 103).ord h.own⟩
theorem small_R {x : AlgebraM} (h : SmallP x) : InR x.1 := ⟨by have := h.1; omega, by have := h.2.1; omega⟩
theorem code_ren_len {x : AlgebraM} {s : List Int} (hx : SmallP x) (hs : PermL x.1.toNat s) : (codeL (ren x s).2).length = (codeL x.2).length :=
  code_len_eq (ren_small hs hx).2.2.2 hx.2.2.2 ren_type
theorem code_small {x : AlgebraM} (hx : SmallP x) : (codeL x.2).length ≤ 1048576 := by
  have := cnt_small hx
  have h3 : shAlgebra.cnt x = 0 + (x.2.length + cntS shOp.cnt x.2) := rfl
  rw [codeL_len]
  omega
theorem code_R {x : AlgebraM} (hx : SmallP x) : ∀ y ∈ codeL x.2, InR y := by
  have key : ∀ l : List OpM, (∀ o ∈ l, OpP x.1.toNat o) → ∀ y ∈ codeL l, InR y := by
    intro l
    induction l with
    | nil => intro _ y hy; simp [codeL] at hy
    | cons o l ih =>
      intro hl y hy
      rw [codeL, List.mem_append] at hy
      rcases hy with hy | hy
      · have := (hl o (by simp)).2.2.2 y hy
        have := hx.2.1
        exact ⟨by omega, by omega⟩
      · exact ih (fun o ho => hl o (by simp [ho])) y hy
  exact key x.2 hx.2.2.2

set_option maxRecDepth 20000 in
set_option maxHeartbeats 8000000 in
theorem l31First_any (cs : List Value) (x : AlgebraM) (w : World) (h : shAlgebra.rd w cs x) (hx : SmallP x) :
    Calls Try.prog 102 #[.agg cs.toArray] w (fun e w' => ∃ A c, e = .returned (.slice A x.1.toNat c) ∧ RdL RI w' A x.1.toNat (canN x) ∧ Below w.heap.size w w') := by
  have hcnt := cnt_small hx
  have HX := Lib.hid hx
  obtain ⟨n, hn⟩ : ∃ n : Nat, x.1 = (n : Int) := ⟨x.1.toNat, by have h1 := hx.1; omega⟩
  have hn5 : n ≤ 5 := by have h1 := hx.2.1; omega
  have HNN : Hid (x.1.toNat = n) := by show _ = _; omega
  have HALL : Hid (∀ p ∈ ords n n [], PermL n p) := by have := all_perm (x := x); rw [HNN.out] at this; exact this
  have HBEST : Hid (bestOf x (ords n n []) = some (canN x)) := by have := (canN_ok (x := x)).1; rw [HNN.out] at this; exact this
  have HUP : Hid (ren x (upTo n) = x) := by have := ren_up hx; rw [HNN.out] at this; exact this
  obtain ⟨AL, HAL⟩ : ∃ AL, Hid (ords n n [] = AL) := ⟨_, rfl⟩
  obtain ⟨rest, HREST⟩ : ∃ rest, Hid (AL = upTo n :: rest) := by
    obtain ⟨l, hl⟩ := ords_head (n := n) n 0 (Nat.zero_add _)
    exact ⟨l, by show _ = _; rw [← HAL.out]; exact hl⟩
  rw [HAL.out] at HALL HBEST
  have hALlen : AL.length ≤ 3125 := by rw [← HAL.out]; exact Nat.le_trans (ords_len n []) (pow5 hn5 hn5)
  obtain ⟨CL, HCL⟩ : ∃ CL, Hid ((codeL x.2).length = CL) := ⟨_, rfl⟩
  have hCL : CL ≤ 1048576 := by rw [← HCL.out]; exact code_small hx
  have HCR : Hid (∀ p, PermL n p → (codeL (ren x p).2).length = CL ∧ ∀ y ∈ codeL (ren x p).2, InR y) := fun p hp => by
    have hp' : PermL x.1.toNat p := by rw [HNN.out]; exact hp
    exact ⟨by rw [code_ren_len HX.out hp', HCL.out], code_R (ren_small hp' HX.out)⟩
  have hrd := h
  obtain ⟨B, m, d, rfl, qs, qo⟩ := rdAlgebra h
  rw [HNN.out]
  rw [hn] at hrd qs ⊢
  obtain ⟨w0, hw0, T0, hs0, BP⟩ := boxes1 w #[.int .i64 (n : Int), .slice B m d] 38
  have HW0 : Hid (_ = w0) := hw0.symm
  have hz0 : w0.heap.size = w.heap.size + 1 := hs0
  obtain ⟨w1, hw1, T1, -, -⟩ := boxes1 w0 #[] 3
  have HW1 : Hid (_ = w1) := hw1.symm
  have cP0 := BP.cell 0
  simp at cP0
  rw [hw0] at cP0
  have R1 : RdL RI w1 (some ⟨w.heap.size + 1, 0, none⟩) 0 [] := RdL.nil _ _ _
  have HNM : Hid (Calls Try.prog 142 #[.int .i64 n, .slice (some ⟨w.heap.size + 1, 0, none⟩) 0 0] w1 (NmE w1 AL)) := by
    have := l31Names_any n hn5 n _ 0 0 [] w1 R1 (Nat.zero_add _)
    rw [HAL.out] at this
    exact this
  have T1w := below_next T0 T1 rfl
  replace BP := BP.next T1
  clear hw0 hw1 hs0 hz0 R1 hx h qo hcnt
  go_enter Try.func102, Try.ntmps102
  go_wp2_with fail
  rw [HW0.out, HW1.out]
  refine HNM.out.mono ?_
  rintro e w2 hNm
  obtain ⟨A2, c2, rfl, R2, hb2⟩ := hNm.rd
  have T2 := below_next T1w hb2 rfl
  replace BP := BP.next hb2
  have h2 := shAlgebra.stab hrd T2.block
  have hal0 : 0 < AL.length := by rw [HREST.out]; simp
  obtain ⟨b2, o2, v0, p0, rfl, hc0, ⟨A0, m0, c0, rfl, r0⟩, -, hx0⟩ := R2.at hal0
  have hp0 : p0 = upTo n := by rw [HREST.out] at hx0; simpa using hx0.symm
  subst hp0
  obtain rfl : n = m0 := by have := r0.len; rw [upTo_len] at this; exact this
  have cP0 := BP.cell 0
  have cP1 := BP.cell 1
  simp at cP0 cP1
  rw [Nat.add_zero] at hc0
  have hal1 : (0 : Int) < (AL.length : Int) := by omega
  have hle2 := R2.le
  clear hx0 hNm
  go_wp2_with fail
  refine (l31Code_any _ x _ h2 (cnt_small HX.out)).mono ?_
  rintro e w3 ⟨AC, cC, rfl, hoC, hb3⟩
  have RC := rd_of_own (R := RI) hoC (RI_ints (code_R HX.out))
  rw [HCL.out] at RC ⊢
  have T3 := below_next T2 hb3 rfl
  replace BP := BP.next hb3
  have R3 := R2.next (stab_RV stab_RI) hb3
  have r3 := r0.next stab_RI hb3
  have HST : Hid (bestOf x (AL.take 1) = some (upTo n)) := by show _ = _; rw [HREST.out]; rfl
  have RC' : RdL RI w3 AC CL (codeL (ren x (upTo n)).2) := by rw [HUP.out]; exact RC
  clear cP0 cP1 hc0 hoC RC R2 r0 h2
  go_wp2_with fail
  go_loopw [4, 5, 6] (fun v u i wr => ∃ (k : Nat) (b : List Int) (A : Option Addr) (c : Nat) (C : Option Addr) (cc : Nat), 1 ≤ k ∧ k ≤ AL.length ∧ i = .int .i64 k ∧ v = .slice A n c ∧ u = .slice C CL cc ∧ Hid (bestOf x (AL.take k) = some b) ∧ RdL RI wr A n b ∧ RdL RI wr C CL (codeL (ren x b).2) ∧ Below w3.heap.size w3 wr) (fun _ _ i _ => AL.length - (intOf i).toNat)
  case atStart => exact ⟨1, upTo n, A0, c0, AC, cC, Nat.le_refl _, by omega, rfl, rfl, rfl, HST, r3, RC', Below.refl _ _⟩
  case round =>
    clear r3 RC' HST
    obtain ⟨k, b, A, c, C, cc, hk1, hk2, rfl, rfl, rfl, HB, rb, rc, hT⟩ := hrel
    by_cases hlt : k < AL.length
    · have hk0 : (0 : Int) ≤ (k : Int) := by omega
      have hkl : (k : Int) < (AL.length : Int) := by omega
      have Rr := R3.next (stab_RV stab_RI) hT
      obtain ⟨v1, p, hcp, ⟨Ap, mp, cp, rfl, rp⟩, -, hxp⟩ := Rr.at' hlt
      have hpm := HALL.out p (List.mem_of_getElem? hxp)
      obtain rfl : n = mp := by rw [← rp.len]; exact hpm.1.symm
      have HNXT : Hid (bestOf x (AL.take (k + 1)) = better x (some b) p) := by show _ = _; rw [take_snoc hxp, bestOf_snoc, HB.out]
      have hpmx : PermL x.1.toNat p := by rw [HNN.out]; exact hpm
      have BPr := BP.next hT
      have cP0 := BPr.cell 0
      have cP1 := BPr.cell 1
      simp at cP0 cP1
      have hTw := below_next T3 hT rfl
      have hrr := shAlgebra.stab hrd hTw.block
      obtain ⟨hcl, hcR⟩ := HCR.out p hpm
      have HCLp := Lib.hid hcl
      have HCRp := Lib.hid hcR
      obtain ⟨hclb, -⟩ := HCR.out b (by have := best_mem HB.out; exact HALL.out b (List.mem_of_mem_take this))
      have HC1 : ∀ wz, Below wr.heap.size wr wz → Calls Try.prog 101 #[.agg #[.int .i64 (n : Int), .slice B m d], .slice Ap n cp] wz (AlgE wz (ren x p)) := fun wz hz => by
        have := l2Rename_any [.int .i64 (n : Int), .slice B m d] x Ap n cp p wz (shAlgebra.stab hrr hz.block) (rp.next stab_RI hz) HX.out hpmx
        exact this
      have HC2 : ∀ wz v css bls, Below wr.heap.size wr wz → PO 0 wz v (ren x p).2 css bls → Calls Try.prog 114 #[.agg #[.int .i64 (ren x p).1, v]] wz (CodeE wz (ren x p).2) := fun wz v css bls hz hp => by
        have := l31Code_any [.int .i64 (ren x p).1, v] (ren x p) wz (hp.alg (show InR x.1 from small_R HX.out)) (cnt_small (ren_small hpmx HX.out))
        exact this
      have HBQ := Lib.hid hclb
      have Tk : Below wr.heap.size wr wr := Below.refl _ _
      clear hcl hcR hclb hxp hpmx
      go_upto_region 7 with fail
      go_cut [7] (fun v7 wx => ∃ Aq cq, v7 = .slice Aq CL cq ∧ RdL RI wx Aq CL (codeL (ren x p).2) ∧ Below wr.heap.size wr wx)
      case first =>
        go_region_held3 (fun w' => w'.cell? ⟨w.heap.size, 0, none⟩ = some (.int .i64 (n : Int)) ∧ w'.cell? ⟨w.heap.size, 1, none⟩ = some (.slice B m d) ∧ w'.cell? ⟨b2, o2 + k, none⟩ = some (.slice Ap n cp)) (first | go_keep | exact ⟨keepc Tk cP0, keepc Tk cP1, keepc Tk hcp⟩) (first
          | (go_at_call 101; (with_reducible refine (HC1 _ ?_).mono ?_); (first | exact Tk | exact Below.drew Tk); rintro e wn ⟨vv, css, bls, rfl, hPn, hbn⟩; replace Tk := below_next (by first | exact Tk | exact Below.drew Tk) hbn rfl)
          | (go_at_call 114; refine (HC2 _ _ _ _ (by first | exact Tk | exact Below.drew Tk) (by first | exact hPn.mono (Nat.zero_le _) | exact (hPn.mono (Nat.zero_le _)).next (Below.drew (Below.refl _ _)))).mono ?_; rintro e wm ⟨Aq, cq, rfl, hoq, hbm⟩; replace Tk := below_next (by first | exact Tk | exact Below.drew Tk) hbm rfl))
        all_goals
          go_wp2_with fail
          go_meet
          refine ⟨Aq, cq, by rw [HCLp.out], ?_, by first | exact Tk | exact Below.drew Tk⟩
          have RQ := rd_of_own (R := RI) hoq (RI_ints HCRp.out)
          rw [HCLp.out] at RQ
          first | exact RQ | exact RQ.drew stab_RI
      case rest =>
        obtain ⟨Aq, cq, rfl, rq, hTc⟩ := hcut
        obtain ⟨w5, HWC⟩ : ∃ wq : World, wq = wc := ⟨_, rfl⟩
        subst HWC
        have hT5 := below_next hT hTc rfl
        have rb5 := rb.next stab_RI hTc
        have rc5 := rc.next stab_RI hTc
        have rp5 := rp.next stab_RI hTc
        have hcp5 := keepc hTc hcp
        clear cP0 cP1 hcp hTc Tk
        rcases hl : lessL (codeL (ren x p).2) (codeL (ren x b).2) with _ | _
        · have HLS := Lib.hid hl
          have HN2 : Hid (bestOf x (AL.take (k + 1)) = some b) := by show _ = _; rw [HNXT.out]; simp [better, hl]
          clear hl
          go_wp2_with (go_at_call 128; refine (l5Less_any _ _ _ _ _ _ _ _ rq rc5).mono ?_; rintro e w' ⟨rfl, z', rfl⟩; rw [HLS.out])
          go_roundw
          case rel => exact ⟨k + 1, b, A, c, C, cc, by omega, by omega, by go_num, rfl, rfl, HN2, rb5.drewN stab_RI _, rc5.drewN stab_RI _, below_drewN hT5 _⟩
          case measure => simp [intOf]; omega
        · have HLS := Lib.hid hl
          have HN2 : Hid (bestOf x (AL.take (k + 1)) = some p) := by show _ = _; rw [HNXT.out]; simp [better, hl]
          clear hl
          go_wp2_with (go_at_call 128; refine (l5Less_any _ _ _ _ _ _ _ _ rq rc5).mono ?_; rintro e w' ⟨rfl, z', rfl⟩; rw [HLS.out])
          go_roundw
          case rel => exact ⟨k + 1, p, Ap, cp, Aq, cq, by omega, by omega, by go_num, rfl, rfl, HN2, rp5.drewN stab_RI _, rq.drewN stab_RI _, below_drewN hT5 _⟩
          case measure => simp [intOf]; omega
    · have hke : k = AL.length := by omega
      have hlt' : ¬ (k : Int) < (AL.length : Int) := by omega
      have HF : Hid (b = canN x) := by
        show _ = _
        have h1 := HB.out
        rw [List.take_of_length_le (by omega), HBEST.out] at h1
        injection h1 with h1
        exact h1.symm
      clear hke
      go_wp2_with fail
      go_ret
      exact ⟨A, ⟨c, rfl⟩, by rw [← HF.out]; exact rb, below_next T3 hT rfl⟩
end Go.Proofs.Ytbpdbimdefdefaa
