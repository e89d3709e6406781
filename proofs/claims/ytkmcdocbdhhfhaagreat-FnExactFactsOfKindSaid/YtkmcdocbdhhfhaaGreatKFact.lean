
/- The harness's marks on []Fact and Lab. -/
import Derived.Test.YtkmcdocbdhhfhaaGreatKOp
import Derived.Test.YtkmcdocbdhhfhaaGreatHLab
namespace Go.Proofs.YtkmcdocbdhhfhaaGreat
open Go.RowKit

def mcFact (x : FactM) : Nat := 1 + x.2.1.1.length + x.2.1.2.length + x.2.2.length
def mqFact (k : Int) (x : FactM) : FactM := (k, (nums (k + 1) x.2.1.1.length, nums (k + 1 + x.2.1.1.length) x.2.1.2.length), nums (k + 1 + x.2.1.1.length + x.2.1.2.length) x.2.2.length)
def msLab (x : LabM) : Nat := msAlgebra x.2.1 + cntS mcFact x.2.2.1
def mqLab (k : Int) (x : LabM) : LabM := (x.1, mqAlgebra k x.2.1, mkL mqFact mcFact (k + msAlgebra x.2.1) x.2.2.1, x.2.2.2)

set_option linter.unusedVariables false in
set_option maxHeartbeats 16000000 in
theorem markFactS_any (v : Value) (xs : List FactM) (bl : List Nat) (k0 : Int) (w : World) (h : (Sh.rows shFact 49).own w [v] xs bl) (hnd : bl.Nodup) (h0 : 0 ≤ k0) (h1 : k0 + cntS mcFact xs ≤ 4611686018427387904) :
    Calls Tryz.prog 45 #[v, .int .i64 k0] w (MkE (Sh.rows shFact 49) w [v] (mkL mqFact mcFact k0 xs) bl (k0 + cntS mcFact xs)) := by
  obtain ⟨v', css0, bls, e, hP0, rfl⟩ := h
  injection e with e _
  subst e
  obtain ⟨A, c, rfl⟩ := own_slice hP0.row
  have hnl := own_len_le hP0.row
  unfold maxLen at hnl
  have HND := Lib.hid hnd
  clear hnd
  go_enter Tryz.func45, Tryz.ntmps45
  go_wp2
  go_loopw [1, 5] (fun q i wr => ∃ (j : Nat) (k : Int) (ys : List FactM) (css : List (List Value)), j ≤ xs.length ∧ i = .int .i64 j ∧ q = .int .i64 k ∧ MkAt mqFact mcFact k0 xs ys j k ∧ Parts shFact 49 wr (.slice A xs.length c) ys css bls ∧ ChgB (obl (.slice A xs.length c) ++ bls.flatten) w wr) (fun _ i _ => xs.length - (intOf i).toNat)
  case atStart => exact ⟨0, k0, xs, css0, Nat.zero_le _, rfl, rfl, MkAt.start _ _, hP0, ChgB.refl _ _⟩
  case round =>
    clear hP0
    obtain ⟨j, k, ys, css, hj, rfl, rfl, HM, hP, CH⟩ := hrel
    have hyl : ys.length = xs.length := HM.2.2.1
    by_cases hlt : j < xs.length
    · have hd : xs.drop j = xs[j] :: xs.drop (j + 1) := List.drop_eq_getElem_cons hlt
      generalize xs[j] = x at hd
      obtain ⟨hyj, hk0, hk1⟩ := HM.left hd
      have HS := Lib.hid (HM.step hd)
      obtain ⟨g, cap, hv⟩ := hP.slice (by omega : j < ys.length)
      injection hv with hA hn2 hc2
      subst hA
      clear hn2 hc2
      have hl1 := hP.l1
      have hl2 := hP.l2
      have hcj : css[j]? = some (css[j]'(by omega)) := List.getElem?_eq_getElem (by omega)
      have hbj : bls[j]? = some (bls[j]'(by omega)) := List.getElem?_eq_getElem (by omega)
      generalize css[j]'(by omega) = cj at hcj
      generalize bls[j]'(by omega) = bk at hbj
      have ho := hP.el j cj x bk hcj hyj hbj
      obtain ⟨c0, c1, b0, b1, rfl, rfl, O0, ⟨cE, cS, bE, bS, rfl, rfl, ⟨cL, cR, bL, bR, rfl, rfl, OL, OR⟩, OS⟩⟩ := ho
      obtain ⟨_, rfl, ⟨rfl, lo0, hi0⟩, rfl⟩ := O0
      obtain ⟨_, rfl, BL, mL, dL, rfl, -⟩ := (Sh.il 3).ord OL
      obtain ⟨_, rfl, BR, mR, dR, rfl, -⟩ := (Sh.il 3).ord OR
      obtain ⟨_, rfl, BS, mS, dS, rfl, -⟩ := (Sh.il 3).ord OS
      have hgb := nd_head HND.out (g := g) rfl
      have hbk : ∀ b ∈ (bL ++ bR) ++ bS, b ∈ bls.flatten := fun b hb => List.mem_flatten.2 ⟨_, List.mem_of_getElem? hbj, by simpa using hb⟩
      have hndk := nd_el HND.out hbj
      have ndk : ((bL ++ bR) ++ bS).Nodup := by simpa using hndk
      have gL : g ∉ bL := fun hh => hgb (hbk g (by simp [hh]))
      have gR : g ∉ bR := fun hh => hgb (hbk g (by simp [hh]))
      have gS : g ∉ bS := fun hh => hgb (hbk g (by simp [hh]))
      have dLR := nd_x (nd_l ndk)
      have dRL := nd_y (nd_l ndk)
      have dLS : ∀ z ∈ bL, z ∉ bS := fun z hz => nd_x ndk z (List.mem_append_left _ hz)
      have dRS : ∀ z ∈ bR, z ∉ bS := fun z hz => nd_x ndk z (List.mem_append_right _ hz)
      have dSL : ∀ z ∈ bS, z ∉ bL := fun z hz hh => dLS z hh hz
      have dSR : ∀ z ∈ bS, z ∉ bR := fun z hz hh => dRS z hh hz
      have hmb : j * 4 + 4 ≤ xs.length * 4 := by omega
      have ROW := hP.row
      rw [hyl] at ROW
      have hall := hP.all
      have q0 : j * 4 < xs.length * shFact.m := by show _ < _ * 4; omega
      have q1 : j * 4 + 1 < xs.length * shFact.m := by show _ < _ * 4; omega
      have q2 : j * 4 + 2 < xs.length * shFact.m := by show _ < _ * 4; omega
      have q3 : j * 4 + 3 < xs.length * shFact.m := by show _ < _ * 4; omega
      have F0 : css.flatten[j * 4]? = some (.int .i64 x.1) := by have := flat_get hall j 0 (by decide); rw [hcj] at this; exact this
      have F1 : css.flatten[j * 4 + 1]? = some (.slice BL mL dL) := by have := flat_get hall j 1 (by decide); rw [hcj] at this; exact this
      have F2 : css.flatten[j * 4 + 2]? = some (.slice BR mR dR) := by have := flat_get hall j 2 (by decide); rw [hcj] at this; exact this
      have F3 : css.flatten[j * 4 + 3]? = some (.slice BS mS dS) := by have := flat_get hall j 3 (by decide); rw [hcj] at this; exact this
      have cc0 : wr.cell? ⟨g, j * 4, none⟩ = some (.int .i64 x.1) := (ROW.cellAt _ q0).trans F0
      have cc1 : wr.cell? ⟨g, j * 4 + 1, none⟩ = some (.slice BL mL dL) := (ROW.cellAt _ q1).trans F1
      have ff0 : wr.frozen? ⟨g, j * 4, none⟩ = false := ROW.frozenAt _
      obtain ⟨w1, hw1⟩ : ∃ wb, wb = wr.setCell ⟨g, j * 4, none⟩ (.int .i64 k) := ⟨_, rfl⟩
      have ROW1 : w1.ownsRow 0 49 shFact.m (.slice (some ⟨g, 0, none⟩) xs.length c) xs.length (css.flatten.set (j * 4) (.int .i64 k)) := by rw [hw1]; exact (ROW.stored (j * 4) (.int .i64 k)).1
      replace OL : (Sh.il 3).own w1 [.slice BL mL dL] x.2.1.1 bL := by rw [hw1]; exact Sh.oset' (p := ⟨g, j * 4, none⟩) OL gL _
      replace OR : (Sh.il 3).own w1 [.slice BR mR dR] x.2.1.2 bR := by rw [hw1]; exact Sh.oset' (p := ⟨g, j * 4, none⟩) OR gR _
      replace OS : (Sh.il 3).own w1 [.slice BS mS dS] x.2.2 bS := by rw [hw1]; exact Sh.oset' (p := ⟨g, j * 4, none⟩) OS gS _
      have C1 : ChgB (g :: ((bL ++ bR) ++ bS)) wr w1 := by rw [hw1]; exact ChgB.set (p := ⟨g, j * 4, none⟩) (List.mem_cons_self ..) _
      have E1 : (css.flatten.set (j * 4) (.int .i64 k))[j * 4 + 1]? = some (.slice BL mL dL) := set_get_ne F1 (by omega)
      have E2 : (css.flatten.set (j * 4) (.int .i64 k))[j * 4 + 2]? = some (.slice BR mR dR) := set_get_ne F2 (by omega)
      have E3 : (css.flatten.set (j * 4) (.int .i64 k))[j * 4 + 3]? = some (.slice BS mS dS) := set_get_ne F3 (by omega)
      obtain ⟨fl, HFL⟩ : ∃ fl, Hid (css.flatten.set (j * 4) (.int .i64 k) = fl) := ⟨_, rfl⟩
      rw [HFL.out] at ROW1 E1 E2 E3
      have HE1 := Lib.hid E1
      have HE2 := Lib.hid E2
      have HE3 := Lib.hid E3
      have HBJ := Lib.hid hbj
      have HP := Lib.hid hP
      have HYL := Lib.hid hyl
      have hj0 : (0 : Int) ≤ (j : Int) := by omega
      have hj1 : (j : Int) < (xs.length : Int) := by omega
      have hmc : mcFact x = 1 + x.2.1.1.length + x.2.1.2.length + x.2.2.length := rfl
      clear hd HM hP hyl hcj hbj hyj ROW F0 F1 F2 F3 E1 E2 E3 hndk
      go_wp2_with fail
      rw [← hw1]
      clear hw1 cc0 cc1 ff0
      refine (markIl_any _ x.2.1.1 bL (k + 1) w1 OL (by omega) (by omega)).mono ?_
      rintro e w2 ⟨rfl, PL, hc2⟩
      replace ROW1 := row_chg ROW1 hc2 (fun b hb => by injection hb with hb; subst hb; exact gL)
      replace C1 := C1.trans (hc2.mono fun b hb => List.mem_cons_of_mem _ (by simp [hb]))
      replace OR := Sh.ochg OR hc2 dRL
      replace OS := Sh.ochg OS hc2 dSL
      have cc2 : w2.cell? ⟨g, j * 4 + 2, none⟩ = some (.slice BR mR dR) := (ROW1.cellAt _ q2).trans HE2.out
      clear hc2
      go_wp2_with fail
      clear cc2
      refine (markIl_any _ x.2.1.2 bR (k + 1 + x.2.1.1.length) w2 OR (by omega) (by omega)).mono ?_
      rintro e w3 ⟨rfl, PR, hc3⟩
      replace ROW1 := row_chg ROW1 hc3 (fun b hb => by injection hb with hb; subst hb; exact gR)
      replace C1 := C1.trans (hc3.mono fun b hb => List.mem_cons_of_mem _ (by simp [hb]))
      replace PL := Sh.ochg PL hc3 dLR
      replace OS := Sh.ochg OS hc3 dSR
      have cc3 : w3.cell? ⟨g, j * 4 + 3, none⟩ = some (.slice BS mS dS) := (ROW1.cellAt _ q3).trans HE3.out
      clear hc3
      go_wp2_with fail
      clear cc3
      refine (markIl_any _ x.2.2 bS (k + 1 + x.2.1.1.length + x.2.1.2.length) w3 OS (by omega) (by omega)).mono ?_
      rintro e w4 ⟨rfl, PS, hc4⟩
      replace ROW1 := row_chg ROW1 hc4 (fun b hb => by injection hb with hb; subst hb; exact gS)
      replace C1 := C1.trans (hc4.mono fun b hb => List.mem_cons_of_mem _ (by simp [hb]))
      replace PL := Sh.ochg PL hc4 dLS
      replace PR := Sh.ochg PR hc4 dRS
      clear hc4
      have hset : fl = setAll css.flatten (j * shFact.m) [.int .i64 k, .slice BL mL dL, .slice BR mR dR, .slice BS mS dS] := by
        show _ = (((css.flatten.set (j * 4) (.int .i64 k)).set (j * 4 + 1) (.slice BL mL dL)).set (j * 4 + 1 + 1) (.slice BR mR dR)).set (j * 4 + 1 + 1 + 1) (.slice BS mS dS)
        rw [HFL.out, set_same HE1.out, set_same HE2.out, set_same HE3.out]
      rw [hset] at ROW1
      have ROW3 : w4.ownsRow 0 49 shFact.m (.slice (some ⟨g, 0, none⟩) xs.length c) ys.length (setAll css.flatten (j * shFact.m) [.int .i64 k, .slice BL mL dL, .slice BR mR dR, .slice BS mS dS]) := by rw [HYL.out]; exact ROW1
      have hkr : InR k := ⟨by omega, by omega⟩
      have HPP := HP.out.put HND.out HBJ.out (c' := [.int .i64 k, .slice BL mL dL, .slice BR mR dR, .slice BS mS dS]) (x' := mqFact k x) ROW3 ⟨[.int .i64 k], [.slice BL mL dL, .slice BR mR dR, .slice BS mS dS], [], (bL ++ bR) ++ bS, rfl, rfl, ⟨_, rfl, ⟨rfl, hkr.1, hkr.2⟩, rfl⟩, ⟨[.slice BL mL dL, .slice BR mR dR], [.slice BS mS dS], bL ++ bR, bS, rfl, rfl, ⟨[.slice BL mL dL], [.slice BR mR dR], bL, bR, rfl, rfl, PL, PR⟩, PS⟩⟩
        (fun b hb hn => C1.block b (HP.out.lt b (List.mem_append_right _ hb)) (fun hh => by
          rcases List.mem_cons.1 hh with rfl | hh
          · exact hgb hb
          · exact hn (by simpa using hh)))
      have CH2 := CH.trans (C1.mono fun b hb => by
        rcases List.mem_cons.1 hb with rfl | hb
        · exact List.mem_append_left _ (mem_obl.2 rfl)
        · exact List.mem_append_right _ (hbk b hb))
      clear hset ROW1 ROW3 C1 PL PR PS
      have HPP' := Lib.hid HPP
      clear HPP
      go_wp2_with fail
      go_roundw
      case rel => exact ⟨j + 1, _, _, _, by omega, by go_num, rfl, by rw [show k + 1 + ((x.2.1.1.length : Nat) : Int) + ((x.2.1.2.length : Nat) : Int) + ((x.2.2.length : Nat) : Int) = k + mcFact x from by rw [hmc]; omega]; exact HS.out, HPP'.out, CH2⟩
      case measure => simp [intOf]; omega
    · have hj' : j = xs.length := by omega
      obtain ⟨rfl, hk⟩ := HM.done (List.drop_eq_nil_of_le (by omega))
      have HK := Lib.hid hk
      have HPP := Lib.hid hP
      clear hP hk hyl
      have hlt' : ¬ (j : Int) < (xs.length : Int) := by omega
      clear hj'
      go_wp2_with fail
      go_ret
      exact ⟨ret_int HK.out, ⟨_, css, bls, rfl, HPP.out, rfl⟩, CH⟩
set_option linter.unusedVariables false in
set_option maxHeartbeats 4000000 in
theorem markLab_any (cs : List Value) (x : LabM) (bl : List Nat) (k0 : Int) (w : World) (h : shLab.own w cs x bl) (hnd : bl.Nodup) (h0 : 0 ≤ k0) (h1 : k0 + msLab x ≤ 4611686018427387904) :
    Calls Tryz.prog 20 #[.agg cs.toArray, .int .i64 k0] w (MkE shLab w cs (mqLab k0 x) bl (k0 + msLab x)) := by
  obtain ⟨c0, c1, b0, b1, rfl, rfl, O0, ⟨cA, c2, bA, b2, rfl, rfl, OA, ⟨cF, cR, bF, bR, rfl, rfl, OF, OR⟩⟩⟩ := h
  obtain ⟨_, rfl, rfl, rfl⟩ := O0
  obtain ⟨_, rfl, ⟨rfl, lo0, hi0⟩, rfl⟩ := OR
  obtain ⟨B2, mF, dF, rfl, -⟩ := (Sh.rows shFact 49).ord OF
  obtain ⟨BA, mA, dA, rfl, -⟩ := rdAlgebra (shAlgebra.ord OA)
  have hms : msLab x = msAlgebra x.2.1 + cntS mcFact x.2.2.1 := rfl
  have hnd' : (bA ++ bF).Nodup := by simpa using hnd
  obtain ⟨w0, hw0, T0, hsz0, BP⟩ := boxes1 w #[.bool x.1, .int .i64 x.2.1.1, .slice BA mA dA, .slice B2 mF dF, .int .i64 x.2.2.2] 35
  have hA0 : ∀ b ∈ bA, b < w.heap.size := shAlgebra.olt OA
  replace OA := Sh.onext OA T0
  replace OF := Sh.onext OF T0
  go_enter Tryz.func20, Tryz.ntmps20
  go_wp2_with fail
  rw [← hw0]
  clear hw0
  refine (markAlgebra_any _ x.2.1 bA k0 w0 OA (nd_l hnd') h0 (by omega)).mono ?_
  rintro e w1 ⟨rfl, PA, hc⟩
  replace OF := Sh.ochg OF hc (nd_y hnd')
  have cP : w1.cell? ⟨w.heap.size, 3, none⟩ = some (.slice B2 mF dF) := by
    rw [World.cell?_of_block (hc.block w.heap.size (by omega) (fun hh => by have := hA0 _ hh; omega))]
    exact BP.cell 3
  go_wp2_with fail
  clear cP
  refine (markFactS_any _ x.2.2.1 bF (k0 + msAlgebra x.2.1) w1 OF (nd_r hnd') (by omega) (by omega)).mono ?_
  rintro e w2 ⟨rfl, PF, hc2⟩
  replace PA := Sh.ochg PA hc2 (nd_x hnd')
  go_wp2_with fail
  go_ret
  refine ⟨ret_int (by omega), ⟨[.bool x.1], [.int .i64 x.2.1.1, .slice BA mA dA, .slice B2 mF dF, .int .i64 x.2.2.2], [], bA ++ (bF ++ []), rfl, rfl, ⟨_, rfl, rfl, rfl⟩, ⟨[.int .i64 x.2.1.1, .slice BA mA dA], [.slice B2 mF dF, .int .i64 x.2.2.2], bA, bF ++ [], rfl, rfl, PA, ⟨[.slice B2 mF dF], [.int .i64 x.2.2.2], bF, [], rfl, rfl, PF, ⟨_, rfl, ⟨rfl, lo0, hi0⟩, rfl⟩⟩⟩⟩, ((ChgB.ofBelow T0).trans (hc.mono fun b hb => by simp [hb])).trans (hc2.mono fun b hb => by simp [hb])⟩
end Go.Proofs.YtkmcdocbdhhfhaaGreat
