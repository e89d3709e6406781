
/- The harness's marks on []Op and Algebra. -/
import Derived.Test.YtkmcdocbdhhfhaaGreatShape
import Derived.Test.YtkmcdocbdhhfhaaGreatHAlgebra
namespace Go.Proofs.YtkmcdocbdhhfhaaGreat
open Go.RowKit

def mcOp (x : OpM) : Nat := 1 + x.2.length
def mqOp (k : Int) (x : OpM) : OpM := (k, nums (k + 1) x.2.length)
def msAlgebra (x : AlgebraM) : Nat := cntS mcOp x.2
def mqAlgebra (k : Int) (x : AlgebraM) : AlgebraM := (x.1, mkL mqOp mcOp k x.2)

set_option linter.unusedVariables false in
set_option maxHeartbeats 8000000 in
theorem markOpS_any (v : Value) (xs : List OpM) (bl : List Nat) (k0 : Int) (w : World) (h : (Sh.rows shOp 87).own w [v] xs bl) (hnd : bl.Nodup) (h0 : 0 ≤ k0) (h1 : k0 + cntS mcOp xs ≤ 4611686018427387904) :
    Calls Tryz.prog 55 #[v, .int .i64 k0] w (MkE (Sh.rows shOp 87) w [v] (mkL mqOp mcOp k0 xs) bl (k0 + cntS mcOp xs)) := by
  obtain ⟨v', css0, bls, e, hP0, rfl⟩ := h
  injection e with e _
  subst e
  obtain ⟨A, c, rfl⟩ := own_slice hP0.row
  have hnl := own_len_le hP0.row
  unfold maxLen at hnl
  have HND := Lib.hid hnd
  clear hnd
  go_enter Tryz.func55, Tryz.ntmps55
  go_wp2
  go_loopw [1, 5] (fun q i wr => ∃ (j : Nat) (k : Int) (ys : List OpM) (css : List (List Value)), j ≤ xs.length ∧ i = .int .i64 j ∧ q = .int .i64 k ∧ MkAt mqOp mcOp k0 xs ys j k ∧ Parts shOp 87 wr (.slice A xs.length c) ys css bls ∧ ChgB (obl (.slice A xs.length c) ++ bls.flatten) w wr) (fun _ i _ => xs.length - (intOf i).toNat)
  case atStart => exact ⟨0, k0, xs, css0, Nat.zero_le _, rfl, rfl, MkAt.start _ _, hP0, ChgB.refl _ _⟩
  case round =>
    clear hP0
    obtain ⟨j, k, ys, css, hj, rfl, rfl, HM, hP, CH⟩ := hrel
    have hyl : ys.length = xs.length := HM.2.2.1
    by_cases hlt : j < xs.length
    · have hd : xs.drop j = xs[j] :: xs.drop (j + 1) := List.drop_eq_getElem_cons hlt
      generalize xs[j] = x at hd
      obtain ⟨hyj, hk0, hk1⟩ := HM.left hd
      have HS := Lib.hid (HM.step hd)
      obtain ⟨g, cap, hv⟩ := hP.slice (by omega : j < ys.length)
      injection hv with hA hn2 hc2
      subst hA
      clear hn2 hc2
      have hl1 := hP.l1
      have hl2 := hP.l2
      have hcj : css[j]? = some (css[j]'(by omega)) := List.getElem?_eq_getElem (by omega)
      have hbj : bls[j]? = some (bls[j]'(by omega)) := List.getElem?_eq_getElem (by omega)
      generalize css[j]'(by omega) = cj at hcj
      generalize bls[j]'(by omega) = bk at hbj
      have ho := hP.el j cj x bk hcj hyj hbj
      obtain ⟨c0, c1, b0, b1, rfl, rfl, O0, O1⟩ := ho
      obtain ⟨_, rfl, ⟨rfl, lo0, hi0⟩, rfl⟩ := O0
      obtain ⟨_, rfl, B, m, d, rfl, -⟩ := (Sh.il 3).ord O1
      have hgb := nd_head HND.out (g := g) rfl
      have hbk : ∀ b ∈ b1, b ∈ bls.flatten := fun b hb => List.mem_flatten.2 ⟨_, List.mem_of_getElem? hbj, by simpa using hb⟩
      have hgk : g ∉ b1 := fun hh => hgb (hbk g hh)
      have hmb : j * 2 + 2 ≤ xs.length * 2 := by omega
      have ROW := hP.row
      rw [hyl] at ROW
      have hall := hP.all
      have q0 : j * 2 < xs.length * shOp.m := by show _ < _ * 2; omega
      have q1 : j * 2 + 1 < xs.length * shOp.m := by show _ < _ * 2; omega
      have F0 : css.flatten[j * 2]? = some (.int .i64 x.1) := by have := flat_get hall j 0 (by decide); rw [hcj] at this; exact this
      have F1 : css.flatten[j * 2 + 1]? = some (.slice B m d) := by have := flat_get hall j 1 (by decide); rw [hcj] at this; exact this
      have cc0 : wr.cell? ⟨g, j * 2, none⟩ = some (.int .i64 x.1) := (ROW.cellAt _ q0).trans F0
      have cc1 : wr.cell? ⟨g, j * 2 + 1, none⟩ = some (.slice B m d) := (ROW.cellAt _ q1).trans F1
      have ff0 : wr.frozen? ⟨g, j * 2, none⟩ = false := ROW.frozenAt _
      obtain ⟨w1, hw1⟩ : ∃ wb, wb = wr.setCell ⟨g, j * 2, none⟩ (.int .i64 k) := ⟨_, rfl⟩
      have ROW1 : w1.ownsRow 0 87 shOp.m (.slice (some ⟨g, 0, none⟩) xs.length c) xs.length (css.flatten.set (j * 2) (.int .i64 k)) := by rw [hw1]; exact (ROW.stored (j * 2) (.int .i64 k)).1
      have O2 : (Sh.il 3).own w1 [.slice B m d] x.2 b1 := by rw [hw1]; exact Sh.oset' (p := ⟨g, j * 2, none⟩) O1 hgk _
      have C1 : ChgB (g :: b1) wr w1 := by rw [hw1]; exact ChgB.set (p := ⟨g, j * 2, none⟩) (List.mem_cons_self ..) _
      have HCJ := Lib.hid hcj
      have HBJ := Lib.hid hbj
      have HP := Lib.hid hP
      have HD := Lib.hid hd
      have HYL := Lib.hid hyl
      have HF1 := Lib.hid F1
      have hj0 : (0 : Int) ≤ (j : Int) := by omega
      have hj1 : (j : Int) < (xs.length : Int) := by omega
      have hmc : mcOp x = 1 + x.2.length := rfl
      clear hd HM hP hyl hcj hbj hyj ROW O1 F0 F1
      go_wp2_with fail
      rw [← hw1]
      clear hw1 cc0 cc1 ff0
      refine (markIl_any _ x.2 b1 (k + 1) w1 O2 (by omega) (by omega)).mono ?_
      rintro e w2 ⟨rfl, O3, hc2⟩
      have ROW2 := row_chg ROW1 hc2 (fun b hb => by injection hb with hb; subst hb; exact hgk)
      have C2 := C1.trans (hc2.mono fun b hb => List.mem_cons_of_mem _ hb)
      have hset : css.flatten.set (j * 2) (.int .i64 k) = setAll css.flatten (j * shOp.m) [.int .i64 k, .slice B m d] := by
        show _ = (css.flatten.set (j * 2) (.int .i64 k)).set (j * 2 + 1) (.slice B m d)
        rw [set_same (set_get_ne HF1.out (by omega))]
      rw [hset] at ROW2
      have ROW3 : w2.ownsRow 0 87 shOp.m (.slice (some ⟨g, 0, none⟩) xs.length c) ys.length (setAll css.flatten (j * shOp.m) [.int .i64 k, .slice B m d]) := by rw [HYL.out]; exact ROW2
      have hkr : InR k := ⟨by omega, by omega⟩
      have HPP := HP.out.put HND.out HBJ.out (c' := [.int .i64 k, .slice B m d]) (x' := mqOp k x) ROW3 ⟨[.int .i64 k], [.slice B m d], [], b1, rfl, rfl, ⟨_, rfl, ⟨rfl, hkr.1, hkr.2⟩, rfl⟩, O3⟩
        (fun b hb hn => C2.block b (HP.out.lt b (List.mem_append_right _ hb)) (by simp; exact ⟨fun e => hgb (e ▸ hb), by simpa using hn⟩))
      have CH2 := CH.trans (C2.mono fun b hb => by
        rcases List.mem_cons.1 hb with rfl | hb
        · exact List.mem_append_left _ (mem_obl.2 rfl)
        · exact List.mem_append_right _ (hbk b hb))
      clear hset ROW2 ROW3 C2 O3 C1 O2 ROW1
      have HPP' := Lib.hid HPP
      clear HPP
      go_wp2_with fail
      go_roundw
      case rel => exact ⟨j + 1, _, _, _, by omega, by go_num, rfl, by rw [show k + 1 + ((x.2.length : Nat) : Int) = k + mcOp x from by rw [hmc]; omega]; exact HS.out, HPP'.out, CH2⟩
      case measure => simp [intOf]; omega
    · have hj' : j = xs.length := by omega
      obtain ⟨rfl, hk⟩ := HM.done (List.drop_eq_nil_of_le (by omega))
      have HK := Lib.hid hk
      have HPP := Lib.hid hP
      clear hP hk hyl
      have hlt' : ¬ (j : Int) < (xs.length : Int) := by omega
      have hl := mkL_len mqOp mcOp k0 xs
      have HL := Lib.hid hl
      clear hl hj'
      go_wp2_with fail
      go_ret
      exact ⟨ret_int HK.out, ⟨_, css, bls, rfl, HPP.out, rfl⟩, CH⟩
set_option linter.unusedVariables false in
set_option maxHeartbeats 2000000 in
theorem markAlgebra_any (cs : List Value) (x : AlgebraM) (bl : List Nat) (k0 : Int) (w : World) (h : shAlgebra.own w cs x bl) (hnd : bl.Nodup) (h0 : 0 ≤ k0) (h1 : k0 + msAlgebra x ≤ 4611686018427387904) :
    Calls Tryz.prog 29 #[.agg cs.toArray, .int .i64 k0] w (MkE shAlgebra w cs (mqAlgebra k0 x) bl (k0 + msAlgebra x)) := by
  obtain ⟨c0, c1, b0, b1, rfl, rfl, O0, O1⟩ := h
  obtain ⟨_, rfl, ⟨rfl, lo0, hi0⟩, rfl⟩ := O0
  obtain ⟨B, m, d, rfl, -⟩ := (Sh.rows shOp 87).ord O1
  obtain ⟨w0, hw0, T0, hsz0, BP⟩ := boxes1 w #[.int .i64 x.1, .slice B m d] 32
  have O2 := Sh.onext O1 T0
  go_enter Tryz.func29, Tryz.ntmps29
  go_wp2_with fail
  rw [← hw0]
  clear hw0
  refine (markOpS_any _ x.2 b1 k0 w0 O2 (by simpa using hnd) h0 h1).mono ?_
  rintro e w1 ⟨rfl, O3, hc⟩
  go_wp2_with fail
  go_ret
  exact ⟨rfl, ⟨[.int .i64 x.1], [.slice B m d], [], b1, rfl, rfl, ⟨_, rfl, ⟨rfl, lo0, hi0⟩, rfl⟩, O3⟩, (ChgB.ofBelow T0).trans (hc.mono fun b hb => by simpa using hb)⟩
end Go.Proofs.YtkmcdocbdhhfhaaGreat
