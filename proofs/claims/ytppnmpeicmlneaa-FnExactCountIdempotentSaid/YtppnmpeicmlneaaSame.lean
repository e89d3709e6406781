
/- Walks: are two algebras the same (the program's sameAlgebra). -/
import Derived.Test.YtppnmpeicmlneaaCForm2
namespace Go.Proofs.Ytppnmpeicmlneaa
open Go.RowKit

theorem eqP_alg (x y : AlgebraM) : eqC x y = (eqC x.1 y.1 && eqC x.2 y.2) := by
  obtain ⟨a, s⟩ := x
  obtain ⟨b, t⟩ := y
  exact dec_pair a b s t
theorem eqP_op (x y : OpM) : eqC x y = (eqC x.1 y.1 && eqL x.2 y.2) := by
  obtain ⟨a, s⟩ := x
  obtain ⟨b, t⟩ := y
  rw [eqL_dec]
  exact dec_pair a b s t
theorem sameList_is {A B : Option Addr} {n m c d : Nat} {xs ys : List Int} {w : World} {r : Bool} (hr : eqL xs ys = r) (h : RdL RI w A n xs) (h' : RdL RI w B m ys) : Calls Try.prog 125 #[.slice A n c, .slice B m d] w (Qt w (.bool r)) :=
  hr ▸ quiet_same (sameList_any A B n m c d xs ys w h h')

set_option maxRecDepth 20000 in
set_option maxHeartbeats 4000000 in
theorem sameAlgebra_any (cs ds : List Value) (x y : AlgebraM) (w : World) (h : shAlgebra.rd w cs x) (h' : shAlgebra.rd w ds y) :
    Calls Try.prog 94 #[.agg cs.toArray, .agg ds.toArray] w (Bl w (.bool (eqC x y))) := by
  obtain ⟨B, n, c, rfl, qs, qo⟩ := rdAlgebra h
  obtain ⟨D, m, d, rfl, qs', qo'⟩ := rdAlgebra h'
  have hle := qo.le
  have hle' := qo'.le
  obtain ⟨w0, hw0, T0, hsz0, BP, BQ⟩ := boxes2 w #[.int .i64 x.1, .slice B n c] #[.int .i64 y.1, .slice D m d] 41 41
  have HW0 : Hid (_ = w0) := hw0.symm
  have cP0 := BP.cell 0
  have cP1 := BP.cell 1
  have cQ0 := BQ.cell 0
  have cQ1 := BQ.cell 1
  simp at cP0 cP1 cQ0 cQ1
  rw [hw0] at cP0 cP1 cQ0 cQ1
  have HD := Lib.hid (eqP_alg x y)
  clear hw0 hsz0
  rcases hd0 : eqC x.1 y.1 with _ | _
  · have ht : (x.1 != y.1) = true := neq_int hd0
    have HH0 := Lib.hid hd0
    clear hd0
    go_enter Try.func94, Try.ntmps94
    go_wp2_with fail
    go_ret
    exact ⟨ret_bool (by rw [HD.out, HH0.out]; rfl), by first | exact T0 | (rw [HW0.out]; exact T0)⟩
  have ht0 : (x.1 != y.1) = false := neq_int hd0
  have HH0 := Lib.hid hd0
  clear hd0
  have HDD : Hid (eqC x y = eqC x.2 y.2) := by show _ = _; rw [HD.out, HH0.out]; rfl
  by_cases hnm : n = m
  rotate_left
  · have ht1 : ((n : Int) != (m : Int)) = true := by rw [bne_iff_ne]; omega
    have HF : Hid (false = eqC x.2 y.2) := eqd_len qo.len qo'.len hnm
    go_enter Try.func94, Try.ntmps94
    go_wp2_with fail
    go_ret
    exact ⟨ret_bool (by rw [HDD.out, ← HF.out]), by first | exact T0 | (rw [HW0.out]; exact T0)⟩
  subst hnm
  have ht1 : ((n : Int) != (n : Int)) = false := by simp
  go_enter Try.func94, Try.ntmps94
  go_wp2_with fail
  clear cP0 cP1 cQ0 cQ1
  go_loopw [24] (fun i wr => ∃ k : Nat, k ≤ n ∧ i = .int .i64 k ∧ EqdAt x.2 y.2 k ∧ Blk wr (w.heap.size + 1) 41 #[.int .i64 y.1, .slice D n d] ∧ Below w.heap.size w wr) (fun i _ => n - (intOf i).toNat)
  case atStart =>
    rw [HW0.out]
    exact ⟨0, Nat.zero_le _, rfl, EqdAt.start _ _, BQ, T0⟩
  case round =>
    clear BQ BP
    obtain ⟨k, hk, rfl, H, BQ, hT⟩ := hrel
    by_cases hlt : k < n
    · obtain ⟨b, o, vs, u, rfl, -, hc, hr, hdr, -⟩ := (qo.next hT).at hlt
      obtain ⟨b', o', vs', v, rfl, -, hc', hr', hdr', -⟩ := (qo'.next hT).at hlt
      obtain ⟨B1, m1, d1, rfl, -, qt⟩ := rdOp hr
      obtain ⟨B2, m2, d2, rfl, -, qt'⟩ := rdOp hr'
      have cc0 : wr.cell? ⟨b, o + k * 2, none⟩ = some (.int .i64 u.1) := hc 0 _ rfl
      have cc1 : wr.cell? ⟨b, o + k * 2 + 1, none⟩ = some (.slice B1 m1 d1) := hc 1 _ rfl
      have dd0 : wr.cell? ⟨b', o' + k * 2, none⟩ = some (.int .i64 v.1) := hc' 0 _ rfl
      have dd1 : wr.cell? ⟨b', o' + k * 2 + 1, none⟩ = some (.slice B2 m2 d2) := hc' 1 _ rfl
      have HE := Lib.hid (eqP_op u v)
      have H1 := Lib.hid hdr
      have H2 := Lib.hid hdr'
      clear hc hc' hr hr' hdr hdr'
      have hk0 : (0 : Int) ≤ (k : Int) := by omega
      have hk1 : (k : Int) < (n : Int) := by omega
      obtain ⟨w5, hw5, T5, hs5, BU⟩ := boxes1 wr #[.int .i64 u.1, .slice B1 m1 d1] 102
      have HW5 := Lib.hid hw5
      have qt5 := qt.next stab_RI T5
      have qt5' := qt'.next stab_RI T5
      have BQ5 := BQ.next T5
      have hT5 := below_next hT T5 rfl
      have cU0 := BU.cell 0
      have cU1 := BU.cell 1
      have cQ1 := BQ5.cell 1
      have ee0 := keepc T5 dd0
      have ee1 := keepc T5 dd1
      simp at cU0 cU1 cQ1
      clear hw5 hs5
      rcases ha : eqC u.1 v.1 with _ | _
      · have hta : (u.1 != v.1) = true := neq_int ha
        have HEF : Hid (eqC u v = false) := by show _ = _; rw [HE.out, ha]; rfl
        clear ha
        go_upto_region 6 with fail
        rw [← HW5.out]
        clear cc0 cc1 dd0 dd1
        go_quiet (fail)
        go_wp2_with fail
        go_ret
        exact ⟨ret_bool (by rw [HDD.out, ← H.stop H1.out H2.out HEF.out]), by first | exact hT5 | exact below_drewN hT5 _⟩
      · have hta : (u.1 != v.1) = false := neq_int ha
        rcases hl : eqL u.2 v.2 with _ | _
        · have HEF : Hid (eqC u v = false) := by show _ = _; rw [HE.out, ha, hl]; rfl
          have HL := Lib.hid hl
          clear ha hl
          go_upto_region 6 with fail
          rw [← HW5.out]
          clear cc0 cc1 dd0 dd1
          go_quiet ((go_at_call 125; first | exact quiet_one (sameList_is HL.out (qt5.drewN stab_RI _) (qt5'.drewN stab_RI _)) | exact quiet_add (sameList_is HL.out (qt5.drewN stab_RI _) (qt5'.drewN stab_RI _))))
          go_wp2_with fail
          go_ret
          exact ⟨ret_bool (by rw [HDD.out, ← H.stop H1.out H2.out HEF.out]), by first | exact hT5 | exact below_drewN hT5 _⟩
        · have HEF : Hid (eqC u v = true) := by show _ = _; rw [HE.out, ha, hl]; rfl
          have HL := Lib.hid hl
          clear ha hl
          go_upto_region 6 with fail
          rw [← HW5.out]
          clear cc0 cc1 dd0 dd1
          go_quiet ((go_at_call 125; first | exact quiet_one (sameList_is HL.out (qt5.drewN stab_RI _) (qt5'.drewN stab_RI _)) | exact quiet_add (sameList_is HL.out (qt5.drewN stab_RI _) (qt5'.drewN stab_RI _))))
          go_wp2_with fail
          go_roundw
          case rel => exact ⟨k + 1, by omega, by go_num, H.step H1.out H2.out HEF.out, BQ5.drewN _, by first | exact hT5 | exact below_drewN hT5 _⟩
          case measure => simp [intOf]; omega
    · have hlt' : ¬ (k : Int) < (n : Int) := by omega
      have HE := Lib.hid (H.done (qo.drop_end hlt) (qo'.drop_end hlt))
      go_wp2_with fail
      go_ret
      exact ⟨ret_bool (by rw [HDD.out, ← HE.out]), hT⟩
end Go.Proofs.Ytppnmpeicmlneaa
