
/- Walks: is an algebra valid, is it small, its code; in the program and in the reference. -/
import Derived.Test.YtidjocikbmkjbaaGreatHOp
import Derived.Test.YtidjocikbmkjbaaGreatList
namespace Go.Proofs.YtidjocikbmkjbaaGreat
open Go.RowKit

theorem pow_step {n k j : Nat} (h0 : 0 < j) (hj : j ≤ k) : n ^ (k - j) * n = n ^ (k - (j - 1)) := by
  rw [show k - (j - 1) = (k - j) + 1 by omega, Nat.pow_succ]
theorem pow_bd {n k : Nat} (hn : n ≤ 8) (hk : k ≤ 4) : n ^ k ≤ 4096 := by
  have h1 : n ^ k ≤ 8 ^ k := Nat.pow_le_pow_left hn k
  have h2 : 8 ^ k ≤ 8 ^ 4 := Nat.pow_le_pow_right (by decide) hk
  exact Nat.le_trans h1 h2
set_option maxHeartbeats 400000 in
theorem power_any (n k r : Nat) (w : World) (hr : n ^ k = r) (hn : n ≤ 8) (hk : k ≤ 4) :
    Calls Tryz.prog 85 #[.int .i64 n, .int .i64 k] w fun e w' => e = .returned (.int .i64 r) ∧ w = w' := by
  have HR := Lib.hid hr
  clear hr
  go_enter Tryz.func85, Tryz.ntmps85
  go_wp2
  go_loop [1, 5] (fun k' p => ∃ (j P : Nat), j ≤ k ∧ k' = .int .i64 j ∧ p = .int .i64 P ∧ Hid (P = n ^ (k - j))) (fun k' _ => (intOf k').toNat)
  case atStart => exact ⟨k, 1, Nat.le_refl _, rfl, rfl, by show _ = _; rw [Nat.sub_self, Nat.pow_zero]⟩
  case round =>
    obtain ⟨j, P, hj, rfl, rfl, HP⟩ := hrel
    by_cases hlt : 0 < j
    · have hP : P ≤ 4096 := by rw [HP.out]; exact pow_bd hn (by omega)
      have hM : P * n ≤ 4096 * 8 := Nat.mul_le_mul hP hn
      have hm0 : (0 : Int) ≤ (P : Int) * (n : Int) := by rw [← Int.natCast_mul]; omega
      have hm1 : (P : Int) * (n : Int) ≤ 32768 := by rw [← Int.natCast_mul]; omega
      have HE : Hid ((P : Int) * (n : Int) = ((P * n : Nat) : Int)) := (Int.natCast_mul _ _).symm
      have HF : Hid (P * n = n ^ (k - (j - 1))) := by show _ = _; rw [HP.out]; exact pow_step hlt hj
      have hj' : (0 : Int) < (j : Int) := by omega
      clear hM
      go_wp2
      go_round
      case rel => exact ⟨j - 1, P * n, by omega, by rw [show ((j - 1 : Nat) : Int) = (j : Int) - 1 by omega], by rw [HE.out], HF⟩
      case measure => simp [intOf]; omega
    · have hj' : ¬ (0 : Int) < (j : Int) := by omega
      have hj0 : (j : Int) ≤ 0 := by omega
      go_wp2
      go_ret
      exact ⟨ret_int (by rw [HP.out, show k - j = k by omega, HR.out]), rfl⟩
set_option maxHeartbeats 400000 in
theorem l2Pow_any (n k r : Nat) (w : World) (hr : n ^ k = r) (hn : n ≤ 8) (hk : k ≤ 4) :
    Calls Tryz.prog 71 #[.int .i64 n, .int .i64 k] w fun e w' => e = .returned (.int .i64 r) ∧ w = w' := by
  have HR := Lib.hid hr
  clear hr
  go_enter Tryz.func71, Tryz.ntmps71
  go_wp2
  go_loop [1, 5] (fun k' p => ∃ (j P : Nat), j ≤ k ∧ k' = .int .i64 j ∧ p = .int .i64 P ∧ Hid (P = n ^ (k - j))) (fun k' _ => (intOf k').toNat)
  case atStart => exact ⟨k, 1, Nat.le_refl _, rfl, rfl, by show _ = _; rw [Nat.sub_self, Nat.pow_zero]⟩
  case round =>
    obtain ⟨j, P, hj, rfl, rfl, HP⟩ := hrel
    by_cases hlt : 0 < j
    · have hP : P ≤ 4096 := by rw [HP.out]; exact pow_bd hn (by omega)
      have hM : P * n ≤ 4096 * 8 := Nat.mul_le_mul hP hn
      have hm0 : (0 : Int) ≤ (P : Int) * (n : Int) := by rw [← Int.natCast_mul]; omega
      have hm1 : (P : Int) * (n : Int) ≤ 32768 := by rw [← Int.natCast_mul]; omega
      have HE : Hid ((P : Int) * (n : Int) = ((P * n : Nat) : Int)) := (Int.natCast_mul _ _).symm
      have HF : Hid (P * n = n ^ (k - (j - 1))) := by show _ = _; rw [HP.out]; exact pow_step hlt hj
      have hj' : (0 : Int) < (j : Int) := by omega
      clear hM
      go_wp2
      go_round
      case rel => exact ⟨j - 1, P * n, by omega, by rw [show ((j - 1 : Nat) : Int) = (j : Int) - 1 by omega], by rw [HE.out], HF⟩
      case measure => simp [intOf]; omega
    · have hj' : ¬ (0 : Int) < (j : Int) := by omega
      have hj0 : (j : Int) ≤ 0 := by omega
      go_wp2
      go_ret
      exact ⟨ret_int (by rw [HP.out, show k - j = k by omega, HR.out]), rfl⟩

/-- Is x an operation on n elements? -/
def opB (n : Nat) (x : OpM) : Bool := inB x.1 0 3 && (decide (x.2.length = n ^ x.1.toNat) && allIn 0 ((n : Int) - 1) x.2)
theorem power_is {n k r : Nat} {w : World} (hr : n ^ k = r) (hn : n ≤ 8) (hk : k ≤ 4) : Calls Tryz.prog 85 #[.int .i64 n, .int .i64 k] w (Qt w (.int .i64 r)) := quiet_same (power_any n k r w hr hn hk)
theorem l2Pow_is {n k r : Nat} {w : World} (hr : n ^ k = r) (hn : n ≤ 8) (hk : k ≤ 4) : Calls Tryz.prog 71 #[.int .i64 n, .int .i64 k] w (Qt w (.int .i64 r)) := quiet_same (l2Pow_any n k r w hr hn hk)
theorem inSize_is {A : Option Addr} {n c : Nat} {xs : List Int} {m : Int} {w : World} {r : Bool} (hr : allIn 0 (m - 1) xs = r) (h : RdL RI w A n xs) : Calls Tryz.prog 61 #[.slice A n c, .int .i64 m] w (Qt w (.bool r)) := hr ▸ quiet_same (inSize_any A n c xs m w h)
theorem l1In_is {x a b : Int} {w : World} {r : Bool} (hr : inB x a b = r) : Calls Tryz.prog 38 #[.int .i64 x, .int .i64 a, .int .i64 b] w (Qt w (.bool r)) := hr ▸ quiet_same (l1In_any x a b w)

set_option maxRecDepth 20000 in
set_option maxHeartbeats 4000000 in
theorem isOp_any (cs : List Value) (x : OpM) (n : Nat) (w : World) (h : shOp.rd w cs x) (hn : n ≤ 8) :
    Calls Tryz.prog 56 #[.agg cs.toArray, .int .i64 n] w (Bl w (.bool (opB n x))) := by
  obtain ⟨a, t⟩ := x
  obtain ⟨B, m, d, rfl, ⟨lo, hi⟩, qt⟩ := rdOp h
  have hml := Lib.hid qt.len
  have hle := qt.le
  obtain ⟨w0, hw0, T0, hsz0, BP⟩ := boxes1 w #[.int .i64 a, .slice B m d] 67
  have HW0 := Lib.hid hw0
  clear hw0
  replace qt := qt.next stab_RI T0
  by_cases h0 : 0 ≤ a
  rotate_left
  · have HM : Hid (opB n (a, t) = false) := by show _ = _; unfold opB inB; simp [h0]
    go_enter Tryz.func56, Tryz.ntmps56
    go_upto_region 1 with fail
    rw [← HW0.out]
    have c0 := BP.cell 0
    have c1 := BP.cell 1
    simp at c0 c1
    go_quiet (fail)
    go_wp2_with fail
    go_ret
    exact ⟨ret_bool HM.out.symm, (by first | exact T0 | exact below_drewN (T0) _ | exact below_drewN (below_drewN (T0) _) _ | exact below_drewN (below_drewN (below_drewN (T0) _) _) _)⟩
  by_cases h3 : a ≤ 3
  rotate_left
  · have HM : Hid (opB n (a, t) = false) := by show _ = _; unfold opB inB; simp [h3]
    go_enter Tryz.func56, Tryz.ntmps56
    go_upto_region 1 with fail
    rw [← HW0.out]
    have c0 := BP.cell 0
    have c1 := BP.cell 1
    simp at c0 c1
    go_quiet (fail)
    go_wp2_with fail
    go_ret
    exact ⟨ret_bool HM.out.symm, (by first | exact T0 | exact below_drewN (T0) _ | exact below_drewN (below_drewN (T0) _) _ | exact below_drewN (below_drewN (below_drewN (T0) _) _) _)⟩
  obtain ⟨ar, rfl⟩ := Int.eq_ofNat_of_zero_le h0
  obtain ⟨r, hr⟩ : ∃ r, n ^ ar = r := ⟨_, rfl⟩
  have HR := Lib.hid hr
  clear hr
  have hd : decide (m = r) = ((m : Int) == (r : Int)) := by by_cases e : m = r <;> simp [e]; omega
  have HM : Hid (opB n ((ar : Int), t) = (((m : Int) == (r : Int)) && allIn 0 ((n : Int) - 1) t)) := by
    have hi3 : inB (ar : Int) 0 3 = true := by unfold inB; simp; omega
    show (inB (ar : Int) 0 3 && (decide (t.length = n ^ ((ar : Int)).toNat) && allIn 0 ((n : Int) - 1) t)) = _
    rw [hi3, Int.toNat_natCast, hml.out, HR.out, hd]
    rfl
  clear hd
  rcases h4 : allIn 0 ((n : Int) - 1) t with _ | _ <;> rcases h5 : ((m : Int) == (r : Int)) with _ | _
  all_goals
    have H4 := Lib.hid h4
    have H5 := Lib.hid h5
    clear h4
    go_enter Tryz.func56, Tryz.ntmps56
    go_upto_region 1 with fail
    rw [← HW0.out]
    have c0 := BP.cell 0
    have c1 := BP.cell 1
    simp at c0 c1
    go_quiet ((first | (go_at_call 85; first | exact quiet_one (power_is HR.out hn (by omega)) | exact quiet_add (power_is HR.out hn (by omega))) | (go_at_call 61; first | exact quiet_one (inSize_is H4.out (qt.drewN stab_RI _)) | exact quiet_add (inSize_is H4.out (qt.drewN stab_RI _)))))
    go_wp2_with fail
    go_ret
    exact ⟨ret_bool (by rw [HM.out, H4.out, H5.out]; rfl), (by first | exact T0 | exact below_drewN (T0) _ | exact below_drewN (below_drewN (T0) _) _ | exact below_drewN (below_drewN (below_drewN (T0) _) _) _)⟩

set_option maxRecDepth 20000 in
set_option maxHeartbeats 4000000 in
theorem l2Op_any (cs : List Value) (x : OpM) (n : Nat) (w : World) (h : shOp.rd w cs x) (hn : n ≤ 8) :
    Calls Tryz.prog 39 #[.int .i64 n, .agg cs.toArray] w (Bl w (.bool (opB n x))) := by
  obtain ⟨a, t⟩ := x
  obtain ⟨B, m, d, rfl, ⟨lo, hi⟩, qt⟩ := rdOp h
  have hml := Lib.hid qt.len
  have hle := qt.le
  obtain ⟨w0, hw0, T0, hsz0, BP⟩ := boxes1 w #[.int .i64 a, .slice B m d] 67
  have HW0 := Lib.hid hw0
  clear hw0
  replace qt := qt.next stab_RI T0
  rcases h0 : inB a 0 3 with _ | _
  · have HM : Hid (opB n (a, t) = false) := by show (inB a 0 3 && _) = false; rw [h0]; rfl
    have H0 := Lib.hid h0
    clear h0
    go_enter Tryz.func39, Tryz.ntmps39
    go_upto_region 1 with fail
    rw [← HW0.out]
    have c0 := BP.cell 0
    have c1 := BP.cell 1
    simp at c0 c1
    go_quiet ((go_at_call 38; first | exact quiet_one (l1In_is H0.out) | exact quiet_add (l1In_is H0.out)))
    go_wp2_with fail
    go_ret
    exact ⟨ret_bool HM.out.symm, (by first | exact T0 | exact below_drewN (T0) _ | exact below_drewN (below_drewN (T0) _) _ | exact below_drewN (below_drewN (below_drewN (T0) _) _) _)⟩
  have h03 : 0 ≤ a ∧ a ≤ 3 := by unfold inB at h0; simp at h0; omega
  have H0 := Lib.hid h0
  clear h0
  obtain ⟨ar, rfl⟩ := Int.eq_ofNat_of_zero_le h03.1
  obtain ⟨r, hr⟩ : ∃ r, n ^ ar = r := ⟨_, rfl⟩
  have HR := Lib.hid hr
  clear hr
  have hd : decide (m = r) = !((m : Int) != (r : Int)) := by by_cases e : m = r <;> simp [e]; omega
  have HM : Hid (opB n ((ar : Int), t) = (!((m : Int) != (r : Int)) && allIn 0 ((n : Int) - 1) t)) := by
    show (inB (ar : Int) 0 3 && (decide (t.length = n ^ ((ar : Int)).toNat) && allIn 0 ((n : Int) - 1) t)) = _
    rw [H0.out, Int.toNat_natCast, hml.out, HR.out, hd]
    rfl
  clear hd
  rcases h5 : ((m : Int) != (r : Int)) with _ | _
  all_goals
    have H5 := Lib.hid h5
    go_enter Tryz.func39, Tryz.ntmps39
    go_upto_region 1 with fail
    rw [← HW0.out]
    have c0 := BP.cell 0
    have c1 := BP.cell 1
    simp at c0 c1
    go_quiet ((first | (go_at_call 38; first | exact quiet_one (l1In_is H0.out) | exact quiet_add (l1In_is H0.out)) | (go_at_call 71; first | exact quiet_one (l2Pow_is HR.out hn (by omega)) | exact quiet_add (l2Pow_is HR.out hn (by omega)))))
  rotate_left
  · go_wp2_with fail
    go_ret
    exact ⟨ret_bool (by rw [HM.out, H5.out]; rfl), (by first | exact T0 | exact below_drewN (T0) _ | exact below_drewN (below_drewN (T0) _) _ | exact below_drewN (below_drewN (below_drewN (T0) _) _) _)⟩
  · have HN : Hid (opB n ((ar : Int), t) = allIn 0 ((n : Int) - 1) t) := by show _ = _; rw [HM.out, H5.out]; rfl
    clear HM c0 c1
    have hn1 : (0 : Int) ≤ (n : Int) := by omega
    have hn8 : (n : Int) ≤ 8 := by omega
    go_wp2_with fail
    go_loopw [5] (fun i wr => ∃ k : Nat, k ≤ m ∧ i = .int .i64 k ∧ At (allIn 0 ((n : Int) - 1)) t k ∧ Drawn w0 wr) (fun i _ => m - (intOf i).toNat)
    case atStart => exact ⟨0, Nat.zero_le _, rfl, rfl, (by first | exact Drawn.zero _ | exact Drawn.at_ _ _ | exact (Drawn.at_ _ _).more _ | exact ((Drawn.at_ _ _).more _).more _)⟩
    case round =>
      obtain ⟨k, hk, rfl, H, z, rfl⟩ := hrel
      have c1 := (BP.drewN z).cell 1
      simp at c1
      have q' := qt.drewN stab_RI z
      by_cases hlt : k < m
      · obtain ⟨b, o, v, x, rfl, hc, ⟨rfl, -⟩, hd, -⟩ := q'.at hlt
        have H1 := Lib.hid hd
        clear hd
        have hk0 : (0 : Int) ≤ (k : Int) := by omega
        have hk1 : (k : Int) < (m : Int) := by omega
        rcases hx : inB x 0 ((n : Int) - 1) with _ | _
        · have HX := Lib.hid hx
          clear hx
          go_wp2_with (go_at_call 38; refine (l1In_any _ _ _ _).mono ?_; rintro e w' ⟨rfl, rfl⟩; rw [HX.out])
          go_ret
          exact ⟨ret_bool (by rw [HN.out]; exact H.stop H1.out (by rw [allIn, HX.out]; rfl)), (by first | exact T0 | exact below_drewN (T0) _ | exact below_drewN (below_drewN (T0) _) _ | exact below_drewN (below_drewN (below_drewN (T0) _) _) _)⟩
        · have HX := Lib.hid hx
          clear hx
          go_wp2_with (go_at_call 38; refine (l1In_any _ _ _ _).mono ?_; rintro e w' ⟨rfl, rfl⟩; rw [HX.out])
          go_roundw
          case rel => exact ⟨k + 1, by omega, by go_num, H.step H1.out (by rw [allIn, HX.out]; rfl), (by first | exact Drawn.zero _ | exact Drawn.at_ _ _ | exact (Drawn.at_ _ _).more _ | exact ((Drawn.at_ _ _).more _).more _)⟩
          case measure => simp [intOf]; omega
      · have hlt' : ¬ (k : Int) < (m : Int) := by omega
        go_wp2_with fail
        go_ret
        exact ⟨ret_bool (by rw [HN.out]; exact H.done (qt.drop_end hlt) rfl), (by first | exact T0 | exact below_drewN (T0) _ | exact below_drewN (below_drewN (T0) _) _ | exact below_drewN (below_drewN (below_drewN (T0) _) _) _)⟩

/-- Is it an algebra? -/
def algB (x : AlgebraM) : Bool := inB x.1 1 8 && (decide (x.2.length ≤ 4) && x.2.all (opB x.1.toNat))
def allOp (n : Nat) (xs : List OpM) : Bool := xs.all (opB n)
theorem allOp_cons (n : Nat) (x : OpM) (xs : List OpM) : allOp n (x :: xs) = (opB n x && allOp n xs) := rfl
set_option maxRecDepth 20000 in
set_option maxHeartbeats 4000000 in
theorem isAlgebra_any (cs : List Value) (x : AlgebraM) (w : World) (h : shAlgebra.rd w cs x) :
    Calls Tryz.prog 27 #[.agg cs.toArray] w (Bl w (.bool (algB x))) := by
  obtain ⟨a, ops⟩ := x
  obtain ⟨B, m, d, rfl, ⟨lo, hi⟩, qo⟩ := rdAlgebra h
  have hml := Lib.hid qo.len
  have hle := qo.le
  obtain ⟨w0, hw0, T0, hsz0, BP⟩ := boxes1 w #[.int .i64 a, .slice B m d] 39
  have HW0 := Lib.hid hw0
  clear hw0
  by_cases h1 : a < 1
  · have HM : Hid (algB (a, ops) = false) := by show _ = _; unfold algB inB; simp; intro h; omega
    go_enter Tryz.func27, Tryz.ntmps27
    go_wp2_with fail
    go_ret
    exact ⟨ret_bool HM.out.symm, below_box _ _⟩
  by_cases h8 : 8 < a
  · have HM : Hid (algB (a, ops) = false) := by show _ = _; unfold algB inB; simp; intro h h'; omega
    go_enter Tryz.func27, Tryz.ntmps27
    go_wp2_with fail
    go_ret
    exact ⟨ret_bool HM.out.symm, below_box _ _⟩
  obtain ⟨n, rfl⟩ := Int.eq_ofNat_of_zero_le (show 0 ≤ a by omega)
  have hi8 : inB (n : Int) 1 8 = true := by unfold inB; simp; omega
  by_cases h4 : 4 < m
  · have HM : Hid (algB ((n : Int), ops) = false) := by show (inB (n : Int) 1 8 && (decide (ops.length ≤ 4) && _)) = false; rw [hml.out]; simp; intro _ h; omega
    go_enter Tryz.func27, Tryz.ntmps27
    go_wp2_with fail
    go_ret
    exact ⟨ret_bool HM.out.symm, below_box _ _⟩
  have HM : Hid (algB ((n : Int), ops) = allOp n ops) := by
    show (inB (n : Int) 1 8 && (decide (ops.length ≤ 4) && ops.all (opB (n : Int).toNat))) = _
    rw [hi8, hml.out, Int.toNat_natCast, show decide (m ≤ 4) = true by simp; omega]
    rfl
  clear hi8
  have hn8 : n ≤ 8 := by omega
  replace qo := qo.next T0
  go_enter Tryz.func27, Tryz.ntmps27
  go_wp2_with fail
  rw [← HW0.out]
  go_loopw [4, 22] (fun _ i wr => ∃ k : Nat, k ≤ m ∧ i = .int .i64 k ∧ At (allOp n) ops k ∧ Below w0.heap.size w0 wr) (fun _ i _ => m - (intOf i).toNat)
  case atStart => exact ⟨0, Nat.zero_le _, rfl, rfl, Below.refl _ _⟩
  case round =>
    obtain ⟨k, hk, rfl, H, hT⟩ := hrel
    have q' := qo.next hT
    by_cases hlt : k < m
    · obtain ⟨b, o, vs, x, rfl, -, hc, hr, hd, -⟩ := q'.at hlt
      obtain ⟨B', m', d', rfl, qa, qt⟩ := rdOp hr
      have cc0 : wr.cell? ⟨b, o + k * 2, none⟩ = some (.int .i64 x.1) := hc 0 _ rfl
      have cc1 : wr.cell? ⟨b, o + k * 2 + 1, none⟩ = some (.slice B' m' d') := hc 1 _ rfl
      obtain ⟨w1, hw1, T1, hsz1, BX⟩ := boxes1 wr #[.int .i64 x.1, .slice B' m' d'] 67
      have HW1 := Lib.hid hw1
      have cP := ((BP.next hT).next T1).cell 0
      simp at cP
      rw [HW1.out] at cP
      have H1 := Lib.hid hd
      have hr1 := shOp.stab hr T1.block
      have hT1 := below_next hT T1 rfl
      clear hd hc hw1
      have hk0 : (0 : Int) ≤ (k : Int) := by omega
      have hk1 : (k : Int) < (m : Int) := by omega
      obtain ⟨r, hr'⟩ : ∃ r, opB n x = r := ⟨_, rfl⟩
      have HR := Lib.hid hr'
      clear hr'
      go_wp2_with fail
      rw [← HW1.out]
      refine (isOp_any _ x n _ hr1 hn8).mono ?_
      rintro e w2 ⟨rfl, hb2⟩
      rw [HR.out]
      have hT2 := below_next hT1 hb2 rfl
      clear cc0 cc1 cP
      rcases r with _ | _
      · go_wp2_with fail
        go_ret
        exact ⟨ret_bool (by rw [HM.out]; exact H.stop H1.out (by rw [allOp_cons, HR.out]; rfl)), below_next T0 hT2 rfl⟩
      · go_wp2_with fail
        go_roundw
        case rel => exact ⟨k + 1, by omega, by go_num, H.step H1.out (by rw [allOp_cons, HR.out]; rfl), hT2⟩
        case measure => simp [intOf]; omega
    · have hlt' : ¬ (k : Int) < (m : Int) := by omega
      go_wp2_with fail
      go_ret
      exact ⟨ret_bool (by rw [HM.out]; exact H.done (qo.drop_end hlt) rfl), below_next T0 hT rfl⟩

set_option maxRecDepth 20000 in
set_option maxHeartbeats 4000000 in
theorem l2Good_any (cs : List Value) (x : AlgebraM) (w : World) (h : shAlgebra.rd w cs x) :
    Calls Tryz.prog 21 #[.agg cs.toArray] w (Bl w (.bool (algB x))) := by
  obtain ⟨a, ops⟩ := x
  obtain ⟨B, m, d, rfl, ⟨lo, hi⟩, qo⟩ := rdAlgebra h
  have hml := Lib.hid qo.len
  have hle := qo.le
  obtain ⟨w0, hw0, T0, hsz0, BP⟩ := boxes1 w #[.int .i64 a, .slice B m d] 39
  have HW0 := Lib.hid hw0
  clear hw0
  rcases h1 : inB a 1 8 with _ | _
  · have HM : Hid (algB (a, ops) = false) := by show (inB a 1 8 && _) = false; rw [h1]; rfl
    have H1 := Lib.hid h1
    clear h1
    go_enter Tryz.func21, Tryz.ntmps21
    go_wp2_with (go_at_call 38; refine (l1In_any _ _ _ _).mono ?_; rintro e w' ⟨rfl, rfl⟩; rw [H1.out])
    go_ret
    exact ⟨ret_bool HM.out.symm, below_box _ _⟩
  have h18 : 1 ≤ a ∧ a ≤ 8 := by unfold inB at h1; simp at h1; omega
  have H1 := Lib.hid h1
  clear h1
  obtain ⟨n, rfl⟩ := Int.eq_ofNat_of_zero_le (show 0 ≤ a by omega)
  by_cases h4 : 4 < m
  · have HM : Hid (algB ((n : Int), ops) = false) := by show (inB (n : Int) 1 8 && (decide (ops.length ≤ 4) && _)) = false; rw [hml.out]; simp; intro _ h; omega
    go_enter Tryz.func21, Tryz.ntmps21
    go_wp2_with (go_at_call 38; refine (l1In_any _ _ _ _).mono ?_; rintro e w' ⟨rfl, rfl⟩; rw [H1.out])
    go_ret
    exact ⟨ret_bool HM.out.symm, below_box _ _⟩
  have HM : Hid (algB ((n : Int), ops) = allOp n ops) := by
    show (inB (n : Int) 1 8 && (decide (ops.length ≤ 4) && ops.all (opB (n : Int).toNat))) = _
    rw [H1.out, hml.out, Int.toNat_natCast, show decide (m ≤ 4) = true by simp; omega]
    rfl
  have hn8 : n ≤ 8 := by omega
  replace qo := qo.next T0
  go_enter Tryz.func21, Tryz.ntmps21
  go_wp2_with (go_at_call 38; refine (l1In_any _ _ _ _).mono ?_; rintro e w' ⟨rfl, rfl⟩; rw [H1.out])
  rw [← HW0.out]
  go_loopw [3] (fun i wr => ∃ k : Nat, k ≤ m ∧ i = .int .i64 k ∧ At (allOp n) ops k ∧ Below w0.heap.size w0 wr) (fun i _ => m - (intOf i).toNat)
  case atStart => exact ⟨0, Nat.zero_le _, rfl, rfl, Below.refl _ _⟩
  case round =>
    obtain ⟨k, hk, rfl, H, hT⟩ := hrel
    have q' := qo.next hT
    have BPr := BP.next hT
    have cP0 := BPr.cell 0
    have cP1 := BPr.cell 1
    simp at cP0 cP1
    by_cases hlt : k < m
    · obtain ⟨b, o, vs, x, rfl, -, hc, hr, hd, -⟩ := q'.at hlt
      obtain ⟨B', m', d', rfl, qa, qt⟩ := rdOp hr
      have cc0 : wr.cell? ⟨b, o + k * 2, none⟩ = some (.int .i64 x.1) := hc 0 _ rfl
      have cc1 : wr.cell? ⟨b, o + k * 2 + 1, none⟩ = some (.slice B' m' d') := hc 1 _ rfl
      have HD := Lib.hid hd
      clear hd hc
      have hk0 : (0 : Int) ≤ (k : Int) := by omega
      have hk1 : (k : Int) < (m : Int) := by omega
      obtain ⟨r, hr'⟩ : ∃ r, opB n x = r := ⟨_, rfl⟩
      have HR := Lib.hid hr'
      clear hr'
      have Tk : Below wr.heap.size wr wr := Below.refl _ _
      go_upto_region 6 with fail
      go_cut [29] (fun v wx => v = .bool (!r) ∧ Below wr.heap.size wr wx)
      case first =>
        go_region_held3 (fun w' => w'.cell? ⟨w.heap.size, 0, none⟩ = some (.int .i64 n) ∧ w'.cell? ⟨w.heap.size, 1, none⟩ = some (.slice (some ⟨b, o, none⟩) m d) ∧ w'.cell? ⟨b, o + k * 2, none⟩ = some (.int .i64 x.1) ∧ w'.cell? ⟨b, o + k * 2 + 1, none⟩ = some (.slice B' m' d')) (first | go_keep | exact ⟨keepc Tk cP0, keepc Tk cP1, keepc Tk cc0, keepc Tk cc1⟩) ((go_at_call 39; refine (l2Op_any [.int .i64 x.1, .slice B' m' d'] x n _ (shOp.stab hr (by first | exact Tk.block | exact (Below.drew Tk).block)) hn8).mono ?_; rintro e wn ⟨rfl, hbn⟩; replace Tk := below_next (by first | exact Tk | exact Below.drew Tk) hbn rfl; rw [HR.out]))
        all_goals (go_wp2_with fail; go_meet; exact ⟨rfl, Tk⟩)
      case rest =>
        obtain ⟨rfl, hb4⟩ := hcut
        have hT2 := below_next hT hb4 rfl
        clear hb4 Tk cP0 cP1 cc0 cc1
        rcases r with _ | _
        · go_wp2_with fail
          go_ret
          exact ⟨ret_bool (by rw [HM.out]; exact H.stop HD.out (by rw [allOp_cons, HR.out]; rfl)), below_next T0 hT2 rfl⟩
        · go_wp2_with fail
          go_roundw
          case rel => exact ⟨k + 1, by omega, by go_num, H.step HD.out (by rw [allOp_cons, HR.out]; rfl), hT2⟩
          case measure => simp [intOf]; omega
    · have hlt' : ¬ (k : Int) < (m : Int) := by omega
      go_wp2_with fail
      go_ret
      exact ⟨ret_bool (by rw [HM.out]; exact H.done (qo.drop_end hlt) rfl), below_next T0 hT rfl⟩

/-- Is it a small algebra? -/
def smallB (x : AlgebraM) : Bool := algB x && decide (x.1 ≤ 5)
end Go.Proofs.YtidjocikbmkjbaaGreat
