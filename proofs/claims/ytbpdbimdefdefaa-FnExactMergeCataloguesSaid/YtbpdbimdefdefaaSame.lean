
/- Walks: are two algebras the same (the program's sameAlgebra). -/
import Derived.Test.YtbpdbimdefdefaaCForm
namespace Go.Proofs.Ytbpdbimdefdefaa
open Go.RowKit

theorem eqP_alg (x y : AlgebraM) : eqC x y = (eqC x.1 y.1 && eqC x.2 y.2) := by
  obtain ⟨a, s⟩ := x
  obtain ⟨b, t⟩ := y
  exact dec_pair a b s t
theorem eqP_op (x y : OpM) : eqC x y = (eqC x.1 y.1 && eqL x.2 y.2) := by
  obtain ⟨a, s⟩ := x
  obtain ⟨b, t⟩ := y
  rw [eqL_dec]
  exact dec_pair a b s t
theorem sameList_is {A B : Option Addr} {n m c d : Nat} {xs ys : List Int} {w : World} {r : Bool} (hr : eqL xs ys = r) (h : RdL RI w A n xs) (h' : RdL RI w B m ys) : Calls Try.prog 137 #[.slice A n c, .slice B m d] w (Qt w (.bool r)) :=
  hr ▸ quiet_same (sameList_any A B n m c d xs ys w h h')

set_option maxRecDepth 20000 in
set_option maxHeartbeats 4000000 in
theorem sameAlgebra_any (cs ds : List Value) (x y : AlgebraM) (w : World) (h : shAlgebra.rd w cs x) (h' : shAlgebra.rd w ds y) :
    Calls Try.prog 96 #[.agg cs.toArray, .agg ds.toArray] w (Bl w (.bool (eqC x y))) := by
  obtain ⟨B, n, c, rfl, qs, qo⟩ := rdAlgebra h
  obtain ⟨D, m, d, rfl, qs', qo'⟩ := rdAlgebra h'
  have hle := qo.le
  have hle' := qo'.le
  obtain ⟨w0, hw0, T0, hsz0, BP, BQ⟩ := boxes2 w #[.int .i64 x.1, .slice B n c] #[.int .i64 y.1, .slice D m d] 38 38
  have HW0 : Hid (_ = w0) := hw0.symm
  have cP0 := BP.cell 0
  have cP1 := BP.cell 1
  have cQ0 := BQ.cell 0
  have cQ1 := BQ.cell 1
  simp at cP0 cP1 cQ0 cQ1
  rw [hw0] at cP0 cP1 cQ0 cQ1
  have HD := Lib.hid (eqP_alg x y)
  clear hw0 hsz0
  rcases hd0 : eqC x.1 y.1 with _ | _
  · have ht : (x.1 != y.1) = true := neq_int hd0
    have HH0 := Lib.hid hd0
    clear hd0
    go_enter Try.func96, Try.ntmps96
    go_wp2_with fail
    go_ret
    exact ⟨ret_bool (by rw [HD.out, HH0.out]; rfl), by first | exact T0 | (rw [HW0.out]; exact T0)⟩
  have ht0 : (x.1 != y.1) = false := neq_int hd0
  have HH0 := Lib.hid hd0
  clear hd0
  have HDD : Hid (eqC x y = eqC x.2 y.2) := by show _ = _; rw [HD.out, HH0.out]; rfl
  by_cases hnm : n = m
  rotate_left
  · have ht1 : ((n : Int) != (m : Int)) = true := by rw [bne_iff_ne]; omega
    have HF : Hid (false = eqC x.2 y.2) := eqd_len qo.len qo'.len hnm
    go_enter Try.func96, Try.ntmps96
    go_wp2_with fail
    go_ret
    exact ⟨ret_bool (by rw [HDD.out, ← HF.out]), by first | exact T0 | (rw [HW0.out]; exact T0)⟩
  subst hnm
  have ht1 : ((n : Int) != (n : Int)) = false := by simp
  go_enter Try.func96, Try.ntmps96
  go_wp2_with fail
  clear cP0 cP1 cQ0 cQ1
  go_loopw [24] (fun i wr => ∃ k : Nat, k ≤ n ∧ i = .int .i64 k ∧ EqdAt x.2 y.2 k ∧ Blk wr (w.heap.size + 1) 38 #[.int .i64 y.1, .slice D n d] ∧ Below w.heap.size w wr) (fun i _ => n - (intOf i).toNat)
  case atStart =>
    rw [HW0.out]
    exact ⟨0, Nat.zero_le _, rfl, EqdAt.start _ _, BQ, T0⟩
  case round =>
    clear BQ BP
    obtain ⟨k, hk, rfl, H, BQ, hT⟩ := hrel
    by_cases hlt : k < n
    · obtain ⟨b, o, vs, u, rfl, -, hc, hr, hdr, -⟩ := (qo.next hT).at hlt
      obtain ⟨b', o', vs', v, rfl, -, hc', hr', hdr', -⟩ := (qo'.next hT).at hlt
      obtain ⟨B1, m1, d1, rfl, -, qt⟩ := rdOp hr
      obtain ⟨B2, m2, d2, rfl, -, qt'⟩ := rdOp hr'
      have cc0 : wr.cell? ⟨b, o + k * 2, none⟩ = some (.int .i64 u.1) := hc 0 _ rfl
      have cc1 : wr.cell? ⟨b, o + k * 2 + 1, none⟩ = some (.slice B1 m1 d1) := hc 1 _ rfl
      have dd0 : wr.cell? ⟨b', o' + k * 2, none⟩ = some (.int .i64 v.1) := hc' 0 _ rfl
      have dd1 : wr.cell? ⟨b', o' + k * 2 + 1, none⟩ = some (.slice B2 m2 d2) := hc' 1 _ rfl
      have HE := Lib.hid (eqP_op u v)
      have H1 := Lib.hid hdr
      have H2 := Lib.hid hdr'
      clear hc hc' hr hr' hdr hdr'
      have hk0 : (0 : Int) ≤ (k : Int) := by omega
      have hk1 : (k : Int) < (n : Int) := by omega
      obtain ⟨w5, hw5, T5, hs5, BU⟩ := boxes1 wr #[.int .i64 u.1, .slice B1 m1 d1] 103
      have HW5 := Lib.hid hw5
      have qt5 := qt.next stab_RI T5
      have qt5' := qt'.next stab_RI T5
      have BQ5 := BQ.next T5
      have hT5 := below_next hT T5 rfl
      have cU0 := BU.cell 0
      have cU1 := BU.cell 1
      have cQ1 := BQ5.cell 1
      have ee0 := keepc T5 dd0
      have ee1 := keepc T5 dd1
      simp at cU0 cU1 cQ1
      clear hw5 hs5
      rcases ha : eqC u.1 v.1 with _ | _
      · have hta : (u.1 != v.1) = true := neq_int ha
        have HEF : Hid (eqC u v = false) := by show _ = _; rw [HE.out, ha]; rfl
        clear ha
        go_upto_region 6 with fail
        rw [← HW5.out]
        clear cc0 cc1 dd0 dd1
        go_quiet (fail)
        go_wp2_with fail
        go_ret
        exact ⟨ret_bool (by rw [HDD.out, ← H.stop H1.out H2.out HEF.out]), by first | exact hT5 | exact below_drewN hT5 _⟩
      · have hta : (u.1 != v.1) = false := neq_int ha
        rcases hl : eqL u.2 v.2 with _ | _
        · have HEF : Hid (eqC u v = false) := by show _ = _; rw [HE.out, ha, hl]; rfl
          have HL := Lib.hid hl
          clear ha hl
          go_upto_region 6 with fail
          rw [← HW5.out]
          clear cc0 cc1 dd0 dd1
          go_quiet ((go_at_call 137; first | exact quiet_one (sameList_is HL.out (qt5.drewN stab_RI _) (qt5'.drewN stab_RI _)) | exact quiet_add (sameList_is HL.out (qt5.drewN stab_RI _) (qt5'.drewN stab_RI _))))
          go_wp2_with fail
          go_ret
          exact ⟨ret_bool (by rw [HDD.out, ← H.stop H1.out H2.out HEF.out]), by first | exact hT5 | exact below_drewN hT5 _⟩
        · have HEF : Hid (eqC u v = true) := by show _ = _; rw [HE.out, ha, hl]; rfl
          have HL := Lib.hid hl
          clear ha hl
          go_upto_region 6 with fail
          rw [← HW5.out]
          clear cc0 cc1 dd0 dd1
          go_quiet ((go_at_call 137; first | exact quiet_one (sameList_is HL.out (qt5.drewN stab_RI _) (qt5'.drewN stab_RI _)) | exact quiet_add (sameList_is HL.out (qt5.drewN stab_RI _) (qt5'.drewN stab_RI _))))
          go_wp2_with fail
          go_roundw
          case rel => exact ⟨k + 1, by omega, by go_num, H.step H1.out H2.out HEF.out, BQ5.drewN _, by first | exact hT5 | exact below_drewN hT5 _⟩
          case measure => simp [intOf]; omega
    · have hlt' : ¬ (k : Int) < (n : Int) := by omega
      have HE := Lib.hid (H.done (qo.drop_end hlt) (qo'.drop_end hlt))
      go_wp2_with fail
      go_ret
      exact ⟨ret_bool (by rw [HDD.out, ← HE.out]), hT⟩
end Go.Proofs.Ytbpdbimdefdefaa
namespace Go.Proofs.Ytbpdbimdefdefaa
open Go.RowKit

def tyL (xs : List OpM) : List Int := xs.map (·.1)
theorem tyL_len (xs : List OpM) : (tyL xs).length = xs.length := by simp [tyL]
theorem tyL_snoc {xs : List OpM} {k : Nat} {u : OpM} (h : xs[k]? = some u) : (tyL xs).take (k + 1) = (tyL xs).take k ++ [u.1] := take_snoc (by unfold tyL; rw [List.getElem?_map, h]; rfl)
theorem tyL_R {w : World} {A : Option Addr} {n : Nat} {xs : List OpM} (h : RdN shOp.m shOp.rd w A n xs) : ∀ y ∈ tyL xs, InR y := by
  intro y hy
  unfold tyL at hy
  rw [List.mem_map] at hy
  obtain ⟨u, hu, rfl⟩ := hy
  obtain ⟨k, hk⟩ := List.getElem?_of_mem hu
  obtain ⟨b, o, vs, -, -, -, hr⟩ := h.2.2 k u hk
  obtain ⟨B, m, d, -, qa, -⟩ := rdOp hr
  exact qa
set_option maxRecDepth 20000 in
set_option maxHeartbeats 4000000 in
theorem l2Type_any (cs : List Value) (x : AlgebraM) (w : World) (h : shAlgebra.rd w cs x) (hn : x.2.length ≤ 1048576) :
    Calls Try.prog 136 #[.agg cs.toArray] w (fun e w' => ∃ A c, e = .returned (.slice A x.2.length c) ∧ RdL RI w' A x.2.length (tyL x.2) ∧ Below w.heap.size w w') := by
  obtain ⟨B, m, d, rfl, qs, qo⟩ := rdAlgebra h
  obtain rfl : x.2.length = m := qo.len
  have HTR := Lib.hid (tyL_R qo)
  have hle := qo.le
  obtain ⟨w0, hw0, T0, hsz0, BP⟩ := boxes1 w #[.int .i64 x.1, .slice B x.2.length d] 38
  have hown0 := lit_below T0
  have T1 := below_next T0 (below_box w0 (.cells #[] 3)) rfl
  obtain ⟨w1, hw1⟩ : ∃ wb, wb = w0.alloc (.cells #[] 3) := ⟨_, rfl⟩
  replace BP : Blk w1 w.heap.size 38 #[.int .i64 x.1, .slice B x.2.length d] := by rw [hw1]; exact BP.alloc _
  rw [← hw1] at hown0 T1
  rw [hsz0] at hown0
  have HW : Hid (w1 = (w.alloc (.cells #[.int .i64 x.1, .slice B x.2.length d] 38)).alloc (.cells #[] 3)) := by show _ = _; rw [hw1, hw0]
  clear hw0 hw1 T0 hsz0
  go_enter Try.func136, Try.ntmps136
  go_wp2_with fail
  rw [← HW.out]
  go_loopw [3, 4] (fun v i wr => ∃ (k : Nat) (A : Option Addr) (c : Nat), k ≤ x.2.length ∧ i = .int .i64 k ∧ v = .slice A k c ∧ wr.ownsRow w.heap.size 3 1 (.slice A k c) k (ints ((tyL x.2).take k)) ∧ Blk wr w.heap.size 38 #[.int .i64 x.1, .slice B x.2.length d] ∧ Below w.heap.size w wr) (fun _ i _ => x.2.length - (intOf i).toNat)
  case atStart => exact ⟨0, _, _, Nat.zero_le _, rfl, rfl, hown0, BP, T1⟩
  case round =>
    clear hown0 T1 BP
    obtain ⟨k, A, c, hk, rfl, rfl, hown, BP, hTw⟩ := hrel
    have q' := qo.next hTw
    have cP := BP.cell 1
    simp at cP
    by_cases hlt : k < x.2.length
    · obtain ⟨b, o, vs, u, rfl, -, hc, hr, -, hxu⟩ := q'.at hlt
      obtain ⟨B', m', d', rfl, qa, qt⟩ := rdOp hr
      have cc0 : wr.cell? ⟨b, o + k * 2, none⟩ = some (.int .i64 u.1) := hc 0 _ rfl
      have hbase := hTw.size
      have HS := Lib.hid (tyL_snoc hxu)
      clear hc hxu
      have hk0 : (0 : Int) ≤ (k : Int) := by omega
      have hk1 : (k : Int) < (x.2.length : Int) := by omega
      go_wp2_with (at_builtin; refine app1 wr rfl _ _ 75 3 rfl (.int .i64 0) 8 Try.underlying75 info_int rfl (by decide) w.heap.size k c A (ints ((tyL x.2).take k)) rfl hown (.int .i64 u.1) rfl rfl (by omega) hbase ?_; intro A2 c2 w2 hown2 hg2 hb2)
      go_roundw
      case rel => exact ⟨k + 1, A2, c2, by omega, by go_num, rfl, by rw [HS.out, ints_snoc]; exact hown2, BP.grown hg2 (fun e => own_off hown BP (by decide) e.symm), hTw.trans hb2⟩
      case measure => simp [intOf]; omega
    · have hke : k = x.2.length := by omega
      have hlt' : ¬ (k : Int) < (x.2.length : Int) := by omega
      have HRR : Hid (RdL RI wr A x.2.length (tyL x.2)) := by
        show RdL _ _ _ _ _
        rw [hke, List.take_of_length_le (by rw [tyL_len]; exact Nat.le_refl _)] at hown
        exact rd_of_own (R := RI) hown (RI_ints HTR.out)
      have HK := Lib.hid hke
      clear hke
      go_wp2_with fail
      go_ret
      exact ⟨A, ⟨c, by rw [← HK.out]; rfl⟩, HRR.out, hTw⟩

set_option maxRecDepth 20000 in
set_option maxHeartbeats 4000000 in
theorem l2Same_any (cs ds : List Value) (x y : AlgebraM) (w : World) (h : shAlgebra.rd w cs x) (h' : shAlgebra.rd w ds y) (hx : x.2.length ≤ 1048576) (hy : y.2.length ≤ 1048576) :
    Calls Try.prog 112 #[.agg cs.toArray, .agg ds.toArray] w (Bl w (.bool (eqL (tyL x.2) (tyL y.2)))) := by
  have hrd := h
  have hrd' := h'
  obtain ⟨B, n, c, rfl, qs, qo⟩ := rdAlgebra h
  obtain ⟨D, m, d, rfl, qs', qo'⟩ := rdAlgebra h'
  obtain ⟨w0, hw0, T0, hsz0, BP, BQ⟩ := boxes2 w #[.int .i64 x.1, .slice B n c] #[.int .i64 y.1, .slice D m d] 38 38
  have HW0 := Lib.hid hw0
  have cP0 := BP.cell 0
  have cP1 := BP.cell 1
  have cQ0 := BQ.cell 0
  have cQ1 := BQ.cell 1
  simp at cP0 cP1 cQ0 cQ1
  have HC1 : ∀ wz, Below w0.heap.size w0 wz → Calls Try.prog 136 #[.agg #[.int .i64 x.1, .slice B n c]] wz (fun e w' => ∃ A c, e = .returned (.slice A x.2.length c) ∧ RdL RI w' A x.2.length (tyL x.2) ∧ Below wz.heap.size wz w') := fun wz hz =>
    l2Type_any [.int .i64 x.1, .slice B n c] x wz (shAlgebra.stab (shAlgebra.stab hrd T0.block) hz.block) hx
  have HC2 : ∀ wz, Below w0.heap.size w0 wz → Calls Try.prog 136 #[.agg #[.int .i64 y.1, .slice D m d]] wz (fun e w' => ∃ A c, e = .returned (.slice A y.2.length c) ∧ RdL RI w' A y.2.length (tyL y.2) ∧ Below wz.heap.size wz w') := fun wz hz =>
    l2Type_any [.int .i64 y.1, .slice D m d] y wz (shAlgebra.stab (shAlgebra.stab hrd' T0.block) hz.block) hy
  clear hw0 hsz0 h h' qo qo'
  go_enter Try.func112, Try.ntmps112
  go_upto_region 1 with fail
  rw [← HW0.out]
  have Tk : Below w0.heap.size w0 w0 := Below.refl _ _
  go_cut [4] (fun v4 wx => v4 = .bool (eqL (tyL x.2) (tyL y.2)) ∧ Below w0.heap.size w0 wx)
  case first =>
    go_region_held3 (fun w' => w'.cell? ⟨w.heap.size, 0, none⟩ = some (.int .i64 x.1) ∧ w'.cell? ⟨w.heap.size, 1, none⟩ = some (.slice B n c) ∧ w'.cell? ⟨w.heap.size + 1, 0, none⟩ = some (.int .i64 y.1) ∧ w'.cell? ⟨w.heap.size + 1, 1, none⟩ = some (.slice D m d)) (first | go_keep | exact ⟨keepc Tk cP0, keepc Tk cP1, keepc Tk cQ0, keepc Tk cQ1⟩) (first
      | (go_at_call 136; (with_reducible refine (HC1 _ ?_).mono ?_); (first | exact Tk | exact Below.drew Tk); rintro e wn ⟨A1, c1, rfl, R1, hbn⟩; (try replace R2 := (by first | exact R2.next stab_RI hbn | exact (R2.drew stab_RI).next stab_RI hbn)); replace Tk := below_next (by first | exact Tk | exact Below.drew Tk) hbn rfl)
      | (go_at_call 136; (with_reducible refine (HC2 _ ?_).mono ?_); (first | exact Tk | exact Below.drew Tk); rintro e wn ⟨A2, c2, rfl, R2, hbn⟩; (try replace R1 := (by first | exact R1.next stab_RI hbn | exact (R1.drew stab_RI).next stab_RI hbn)); replace Tk := below_next (by first | exact Tk | exact Below.drew Tk) hbn rfl)
      | (go_at_call 113; refine (l1Same_any _ _ _ _ _ _ _ _ _ (by first | exact R1 | exact R1.drew stab_RI) (by first | exact R2 | exact R2.drew stab_RI)).mono ?_; rintro e wm ⟨rfl, z, rfl⟩; replace Tk := below_drewN (by first | exact Tk | exact Below.drew Tk) z))
    all_goals
      go_wp2_with fail
      go_meet
      exact ⟨rfl, by first | exact Tk | exact Below.drew Tk⟩
  case rest =>
    obtain ⟨rfl, hbc⟩ := hcut
    have hT := below_next T0 hbc rfl
    go_wp2_with fail
    go_ret
    exact ⟨rfl, hT⟩
theorem eqL_false {l m : List Int} (h : eqL l m = false) : l ≠ m := fun e => by rw [eqL_iff.2 e] at h; cases h
theorem same_val {x y : AlgebraM} (hx : SmallP x) (hy : SmallP y) {b1 b2 : Bool} (h0 : x.1 = y.1) (h1 : eqL (tyL x.2) (tyL y.2) = b1) (h2 : b1 = true → eqL (codeL x.2) (codeL y.2) = b2) : (b1 && b2) = eqC x y := by
  rcases b1 with _ | _
  · symm
    rw [Bool.false_and, eqC_no]
    intro e
    exact eqL_false h1 (by rw [e])
  · rw [Bool.true_and]
    rcases b2 with _ | _
    · symm
      rw [eqC_no]
      intro e
      exact eqL_false (h2 rfl) (by rw [e])
    · symm
      rw [eqC_iff]
      refine Prod.ext h0 (code_eq (n := x.1.toNat) hx.2.2.2 (by rw [h0]; exact hy.2.2.2) (eqL_iff.1 h1) (eqL_iff.1 (h2 rfl)))
end Go.Proofs.Ytbpdbimdefdefaa
namespace Go.Proofs.Ytbpdbimdefdefaa
open Go.RowKit

set_option maxRecDepth 20000 in
set_option maxHeartbeats 8000000 in
theorem l31Same_any (cs ds : List Value) (x y : AlgebraM) (w : World) (h : shAlgebra.rd w cs x) (h' : shAlgebra.rd w ds y) (hx : SmallP x) (hy : SmallP y) :
    Calls Try.prog 60 #[.agg cs.toArray, .agg ds.toArray] w (Bl w (.bool (eqC x y))) := by
  have hrd := h
  have hrd' := h'
  obtain ⟨B, n, c, rfl, qs, qo⟩ := rdAlgebra h
  obtain ⟨D, m, d, rfl, qs', qo'⟩ := rdAlgebra h'
  obtain ⟨w0, hw0, T0, hsz0, BP, BQ⟩ := boxes2 w #[.int .i64 x.1, .slice B n c] #[.int .i64 y.1, .slice D m d] 38 38
  have HW0 := Lib.hid hw0
  have cP0 := BP.cell 0
  have cP1 := BP.cell 1
  have cQ0 := BQ.cell 0
  have cQ1 := BQ.cell 1
  simp at cP0 cP1 cQ0 cQ1
  by_cases hs : x.1 = y.1
  rotate_left
  · have hbe : (x.1 == y.1) = false := by rw [beq_eq_false_iff_ne]; exact hs
    have HV : Hid (eqC x y = false) := by show _ = _; rw [eqC_no]; intro e; exact hs (by rw [e])
    rw [HV.out]
    clear hw0 hsz0 h h' qo qo' hx hy
    go_enter Try.func60, Try.ntmps60
    go_upto_region 1 with fail
    rw [← HW0.out]
    go_quiet (fail)
    go_wp2_with fail
    go_ret
    exact ⟨rfl, by first | exact T0 | exact below_drewN T0 _⟩
  · have hbe : (x.1 == y.1) = true := by rw [beq_iff_eq]; exact hs
    have hlx := code_small hx
    have hly := code_small hy
    have hx1 : x.2.length ≤ 1048576 := by have := hx.2.2.1; omega
    have hy1 : y.2.length ≤ 1048576 := by have := hy.2.2.1; omega
    have HRX := Lib.hid (code_R hx)
    have HRY := Lib.hid (code_R hy)
    obtain ⟨b1, HB1⟩ : ∃ b, Hid (eqL (tyL x.2) (tyL y.2) = b) := ⟨_, rfl⟩
    obtain ⟨b2, HB2⟩ : ∃ b, Hid (eqL (codeL x.2) (codeL y.2) = b) := ⟨_, rfl⟩
    have HV : Hid ((b1 && b2) = eqC x y) := same_val hx hy hs HB1.out fun _ => HB2.out
    obtain ⟨V, HVV⟩ : ∃ V, Hid (V = (b1 && b2)) := ⟨_, rfl⟩
    rw [← HV.out, ← HVV.out]
    have HC0 : ∀ wz, Below w0.heap.size w0 wz → Calls Try.prog 112 #[.agg #[.int .i64 x.1, .slice B n c], .agg #[.int .i64 y.1, .slice D m d]] wz (Bl wz (.bool b1)) := fun wz hz => by
      have := l2Same_any [.int .i64 x.1, .slice B n c] [.int .i64 y.1, .slice D m d] x y wz (shAlgebra.stab (shAlgebra.stab hrd T0.block) hz.block) (shAlgebra.stab (shAlgebra.stab hrd' T0.block) hz.block) hx1 hy1
      rw [HB1.out] at this
      exact this
    have HC1 : ∀ wz, Below w0.heap.size w0 wz → Calls Try.prog 114 #[.agg #[.int .i64 x.1, .slice B n c]] wz (CodeE wz x.2) := fun wz hz =>
      l31Code_any [.int .i64 x.1, .slice B n c] x wz (shAlgebra.stab (shAlgebra.stab hrd T0.block) hz.block) (cnt_small hx)
    have HC2 : ∀ wz, Below w0.heap.size w0 wz → Calls Try.prog 114 #[.agg #[.int .i64 y.1, .slice D m d]] wz (CodeE wz y.2) := fun wz hz =>
      l31Code_any [.int .i64 y.1, .slice D m d] y wz (shAlgebra.stab (shAlgebra.stab hrd' T0.block) hz.block) (cnt_small hy)
    clear hw0 hsz0 h h' qo qo' hs hx hy
    rcases b1 with _ | _
    · go_enter Try.func60, Try.ntmps60
      go_upto_region 1 with fail
      rw [← HW0.out]
      have Tk : Below w0.heap.size w0 w0 := Below.refl _ _
      go_cut [4] (fun v4 wx => v4 = .bool V ∧ Below w0.heap.size w0 wx)
      case first =>
        go_region_with (go_at_call 112; (with_reducible refine (HC0 _ ?_).mono ?_); (first | exact Tk | exact Below.drew Tk); rintro e wn ⟨rfl, hbn⟩; have T9 := below_next (by first | exact Tk | exact Below.drew Tk) hbn rfl)
        all_goals
          go_wp2_with fail
          go_meet
          exact ⟨by rw [HVV.out]; rfl, by first | exact T9 | exact Below.drew T9⟩
      case rest =>
        obtain ⟨rfl, hbc⟩ := hcut
        have hT := below_next T0 hbc rfl
        go_wp2_with fail
        go_ret
        exact ⟨rfl, hT⟩
    · go_enter Try.func60, Try.ntmps60
      go_upto_region 1 with fail
      rw [← HW0.out]
      have Tk : Below w0.heap.size w0 w0 := Below.refl _ _
      go_cut [4] (fun v4 wx => v4 = .bool V ∧ Below w0.heap.size w0 wx)
      case first =>
        go_region_held3 (fun w' => w'.cell? ⟨w.heap.size, 0, none⟩ = some (.int .i64 x.1) ∧ w'.cell? ⟨w.heap.size, 1, none⟩ = some (.slice B n c) ∧ w'.cell? ⟨w.heap.size + 1, 0, none⟩ = some (.int .i64 y.1) ∧ w'.cell? ⟨w.heap.size + 1, 1, none⟩ = some (.slice D m d)) (first | go_keep | exact ⟨keepc Tk cP0, keepc Tk cP1, keepc Tk cQ0, keepc Tk cQ1⟩) (first
          | (go_at_call 112; (with_reducible refine (HC0 _ ?_).mono ?_); (first | exact Tk | exact Below.drew Tk); rintro e wn ⟨rfl, hbn⟩; replace Tk := below_next (by first | exact Tk | exact Below.drew Tk) hbn rfl)
          | (go_at_call 114; (with_reducible refine (HC1 _ ?_).mono ?_); (first | exact Tk | exact Below.drew Tk); rintro e wn ⟨A1, c1, rfl, ho1, hbn⟩; have R1 := rd_of_own (R := RI) ho1 (RI_ints HRX.out); clear ho1; (try replace R2 := (by first | exact R2.next stab_RI hbn | exact (R2.drew stab_RI).next stab_RI hbn)); replace Tk := below_next (by first | exact Tk | exact Below.drew Tk) hbn rfl)
          | (go_at_call 114; (with_reducible refine (HC2 _ ?_).mono ?_); (first | exact Tk | exact Below.drew Tk); rintro e wn ⟨A2, c2, rfl, ho2, hbn⟩; have R2 := rd_of_own (R := RI) ho2 (RI_ints HRY.out); clear ho2; (try replace R1 := (by first | exact R1.next stab_RI hbn | exact (R1.drew stab_RI).next stab_RI hbn)); replace Tk := below_next (by first | exact Tk | exact Below.drew Tk) hbn rfl)
          | (go_at_call 113; refine (l1Same_any _ _ _ _ _ _ _ _ _ (by first | exact R1 | exact R1.drew stab_RI) (by first | exact R2 | exact R2.drew stab_RI)).mono ?_; rintro e wm ⟨rfl, z, rfl⟩; rw [HB2.out]; replace Tk := below_drewN (by first | exact Tk | exact Below.drew Tk) z))
        all_goals
          go_wp2_with fail
          go_meet
          exact ⟨by rw [HVV.out]; rfl, by first | exact Tk | exact Below.drew Tk⟩
      case rest =>
        obtain ⟨rfl, hbc⟩ := hcut
        have hT := below_next T0 hbc rfl
        go_wp2_with fail
        go_ret
        exact ⟨rfl, hT⟩
end Go.Proofs.Ytbpdbimdefdefaa
namespace Go.Proofs.Ytbpdbimdefdefaa
open Go.RowKit

noncomputable def hsM (x y : AlgebraM) : Bool := (smallB x && smallB y) && eqC (canA x) (canA y)
def hsOk (x y : AlgebraM) : Bool := smallB x && smallB y

end Go.Proofs.Ytbpdbimdefdefaa
namespace Go.Proofs.Ytbpdbimdefdefaa
open Go.RowKit

end Go.Proofs.Ytbpdbimdefdefaa
