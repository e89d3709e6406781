/- Parts of the proof: Alg, Code, RenP, Tt, PutX, HIdentity, HLabStep, Step, TermP, Bl, Term, Eval, VarS, Hold, Gen, HoldS, HoldT, GenS, Subs. -/
import Derived.Test.YtkmgbdljiajlaaaGreatQ2
import Derived.Test.YtkmgbdljiajlaaaGreatQ1
import Derived.Deep.RegionHeld3
import Derived.Deep.DeepCutAuto
import Derived.BigGuardPart
namespace Go.Proofs.YtkmgbdljiajlaaaGreat
open Go.RowKit

theorem pow_step {n k j : Nat} (h0 : 0 < j) (hj : j ≤ k) : n ^ (k - j) * n = n ^ (k - (j - 1)) := by
  rw [show k - (j - 1) = (k - j) + 1 by omega, Nat.pow_succ]
theorem pow_bd {n k : Nat} (hn : n ≤ 8) (hk : k ≤ 4) : n ^ k ≤ 4096 := by
  have h1 : n ^ k ≤ 8 ^ k := Nat.pow_le_pow_left hn k
  have h2 : 8 ^ k ≤ 8 ^ 4 := Nat.pow_le_pow_right (by decide) hk
  exact Nat.le_trans h1 h2
set_option maxHeartbeats 400000 in
theorem power_any (n k r : Nat) (w : World) (hr : n ^ k = r) (hn : n ≤ 8) (hk : k ≤ 4) :
    Calls Tryz.prog 119 #[.int .i64 n, .int .i64 k] w fun e w' => e = .returned (.int .i64 r) ∧ w = w' := by
  have HR := Lib.hid hr
  clear hr
  go_enter Tryz.func119, Tryz.ntmps119
  go_wp2
  go_loop [1, 5] (fun k' p => ∃ (j P : Nat), j ≤ k ∧ k' = .int .i64 j ∧ p = .int .i64 P ∧ Hid (P = n ^ (k - j))) (fun k' _ => (intOf k').toNat)
  case atStart => exact ⟨k, 1, Nat.le_refl _, rfl, rfl, by show _ = _; rw [Nat.sub_self, Nat.pow_zero]⟩
  case round =>
    obtain ⟨j, P, hj, rfl, rfl, HP⟩ := hrel
    by_cases hlt : 0 < j
    · have hP : P ≤ 4096 := by rw [HP.out]; exact pow_bd hn (by omega)
      have hM : P * n ≤ 4096 * 8 := Nat.mul_le_mul hP hn
      have hm0 : (0 : Int) ≤ (P : Int) * (n : Int) := by rw [← Int.natCast_mul]; omega
      have hm1 : (P : Int) * (n : Int) ≤ 32768 := by rw [← Int.natCast_mul]; omega
      have HE : Hid ((P : Int) * (n : Int) = ((P * n : Nat) : Int)) := (Int.natCast_mul _ _).symm
      have HF : Hid (P * n = n ^ (k - (j - 1))) := by show _ = _; rw [HP.out]; exact pow_step hlt hj
      have hj' : (0 : Int) < (j : Int) := by omega
      clear hM
      go_wp2
      go_round
      case rel => exact ⟨j - 1, P * n, by omega, by rw [show ((j - 1 : Nat) : Int) = (j : Int) - 1 by omega], by rw [HE.out], HF⟩
      case measure => simp [intOf]; omega
    · have hj' : ¬ (0 : Int) < (j : Int) := by omega
      have hj0 : (j : Int) ≤ 0 := by omega
      go_wp2
      go_ret
      exact ⟨ret_int (by rw [HP.out, show k - j = k by omega, HR.out]), rfl⟩
set_option maxHeartbeats 400000 in
theorem l2Pow_any (n k r : Nat) (w : World) (hr : n ^ k = r) (hn : n ≤ 8) (hk : k ≤ 4) :
    Calls Tryz.prog 104 #[.int .i64 n, .int .i64 k] w fun e w' => e = .returned (.int .i64 r) ∧ w = w' := by
  have HR := Lib.hid hr
  clear hr
  go_enter Tryz.func104, Tryz.ntmps104
  go_wp2
  go_loop [1, 5] (fun k' p => ∃ (j P : Nat), j ≤ k ∧ k' = .int .i64 j ∧ p = .int .i64 P ∧ Hid (P = n ^ (k - j))) (fun k' _ => (intOf k').toNat)
  case atStart => exact ⟨k, 1, Nat.le_refl _, rfl, rfl, by show _ = _; rw [Nat.sub_self, Nat.pow_zero]⟩
  case round =>
    obtain ⟨j, P, hj, rfl, rfl, HP⟩ := hrel
    by_cases hlt : 0 < j
    · have hP : P ≤ 4096 := by rw [HP.out]; exact pow_bd hn (by omega)
      have hM : P * n ≤ 4096 * 8 := Nat.mul_le_mul hP hn
      have hm0 : (0 : Int) ≤ (P : Int) * (n : Int) := by rw [← Int.natCast_mul]; omega
      have hm1 : (P : Int) * (n : Int) ≤ 32768 := by rw [← Int.natCast_mul]; omega
      have HE : Hid ((P : Int) * (n : Int) = ((P * n : Nat) : Int)) := (Int.natCast_mul _ _).symm
      have HF : Hid (P * n = n ^ (k - (j - 1))) := by show _ = _; rw [HP.out]; exact pow_step hlt hj
      have hj' : (0 : Int) < (j : Int) := by omega
      clear hM
      go_wp2
      go_round
      case rel => exact ⟨j - 1, P * n, by omega, by rw [show ((j - 1 : Nat) : Int) = (j : Int) - 1 by omega], by rw [HE.out], HF⟩
      case measure => simp [intOf]; omega
    · have hj' : ¬ (0 : Int) < (j : Int) := by omega
      have hj0 : (j : Int) ≤ 0 := by omega
      go_wp2
      go_ret
      exact ⟨ret_int (by rw [HP.out, show k - j = k by omega, HR.out]), rfl⟩

/-- Is x an operation on n elements? -/
def opB (n : Nat) (x : OpM) : Bool := inB x.1 0 3 && (decide (x.2.length = n ^ x.1.toNat) && allIn 0 ((n : Int) - 1) x.2)
theorem power_is {n k r : Nat} {w : World} (hr : n ^ k = r) (hn : n ≤ 8) (hk : k ≤ 4) : Calls Tryz.prog 119 #[.int .i64 n, .int .i64 k] w (Qt w (.int .i64 r)) := quiet_same (power_any n k r w hr hn hk)
theorem l2Pow_is {n k r : Nat} {w : World} (hr : n ^ k = r) (hn : n ≤ 8) (hk : k ≤ 4) : Calls Tryz.prog 104 #[.int .i64 n, .int .i64 k] w (Qt w (.int .i64 r)) := quiet_same (l2Pow_any n k r w hr hn hk)
theorem inSize_is {A : Option Addr} {n c : Nat} {xs : List Int} {m : Int} {w : World} {r : Bool} (hr : allIn 0 (m - 1) xs = r) (h : RdL RI w A n xs) : Calls Tryz.prog 74 #[.slice A n c, .int .i64 m] w (Qt w (.bool r)) := hr ▸ quiet_same (inSize_any A n c xs m w h)
theorem l1In_is {x a b : Int} {w : World} {r : Bool} (hr : inB x a b = r) : Calls Tryz.prog 84 #[.int .i64 x, .int .i64 a, .int .i64 b] w (Qt w (.bool r)) := hr ▸ quiet_same (l1In_any x a b w)

set_option maxRecDepth 20000 in
set_option maxHeartbeats 4000000 in
theorem isOp_any (cs : List Value) (x : OpM) (n : Nat) (w : World) (h : shOp.rd w cs x) (hn : n ≤ 8) :
    Calls Tryz.prog 83 #[.agg cs.toArray, .int .i64 n] w (Bl w (.bool (opB n x))) := by
  obtain ⟨a, t⟩ := x
  obtain ⟨B, m, d, rfl, ⟨lo, hi⟩, qt⟩ := rdOp h
  have hml := Lib.hid qt.len
  have hle := qt.le
  obtain ⟨w0, hw0, T0, hsz0, BP⟩ := boxes1 w #[.int .i64 a, .slice B m d] 80
  have HW0 := Lib.hid hw0
  clear hw0
  replace qt := qt.next stab_RI T0
  by_cases h0 : 0 ≤ a
  rotate_left
  · have HM : Hid (opB n (a, t) = false) := by show _ = _; unfold opB inB; simp [h0]
    go_enter Tryz.func83, Tryz.ntmps83
    go_upto_region 1 with fail
    rw [← HW0.out]
    have c0 := BP.cell 0
    have c1 := BP.cell 1
    simp at c0 c1
    go_quiet (fail)
    go_wp2_with fail
    go_ret
    exact ⟨ret_bool HM.out.symm, (by first | exact T0 | exact below_drewN (T0) _ | exact below_drewN (below_drewN (T0) _) _ | exact below_drewN (below_drewN (below_drewN (T0) _) _) _)⟩
  by_cases h3 : a ≤ 3
  rotate_left
  · have HM : Hid (opB n (a, t) = false) := by show _ = _; unfold opB inB; simp [h3]
    go_enter Tryz.func83, Tryz.ntmps83
    go_upto_region 1 with fail
    rw [← HW0.out]
    have c0 := BP.cell 0
    have c1 := BP.cell 1
    simp at c0 c1
    go_quiet (fail)
    go_wp2_with fail
    go_ret
    exact ⟨ret_bool HM.out.symm, (by first | exact T0 | exact below_drewN (T0) _ | exact below_drewN (below_drewN (T0) _) _ | exact below_drewN (below_drewN (below_drewN (T0) _) _) _)⟩
  obtain ⟨ar, rfl⟩ := Int.eq_ofNat_of_zero_le h0
  obtain ⟨r, hr⟩ : ∃ r, n ^ ar = r := ⟨_, rfl⟩
  have HR := Lib.hid hr
  clear hr
  have hd : decide (m = r) = ((m : Int) == (r : Int)) := by by_cases e : m = r <;> simp [e]; omega
  have HM : Hid (opB n ((ar : Int), t) = (((m : Int) == (r : Int)) && allIn 0 ((n : Int) - 1) t)) := by
    have hi3 : inB (ar : Int) 0 3 = true := by unfold inB; simp; omega
    show (inB (ar : Int) 0 3 && (decide (t.length = n ^ ((ar : Int)).toNat) && allIn 0 ((n : Int) - 1) t)) = _
    rw [hi3, Int.toNat_natCast, hml.out, HR.out, hd]
    rfl
  clear hd
  rcases h4 : allIn 0 ((n : Int) - 1) t with _ | _ <;> rcases h5 : ((m : Int) == (r : Int)) with _ | _
  all_goals
    have H4 := Lib.hid h4
    have H5 := Lib.hid h5
    clear h4
    go_enter Tryz.func83, Tryz.ntmps83
    go_upto_region 1 with fail
    rw [← HW0.out]
    have c0 := BP.cell 0
    have c1 := BP.cell 1
    simp at c0 c1
    go_quiet ((first | (go_at_call 119; first | exact quiet_one (power_is HR.out hn (by omega)) | exact quiet_add (power_is HR.out hn (by omega))) | (go_at_call 74; first | exact quiet_one (inSize_is H4.out (qt.drewN stab_RI _)) | exact quiet_add (inSize_is H4.out (qt.drewN stab_RI _)))))
    go_wp2_with fail
    go_ret
    exact ⟨ret_bool (by rw [HM.out, H4.out, H5.out]; rfl), (by first | exact T0 | exact below_drewN (T0) _ | exact below_drewN (below_drewN (T0) _) _ | exact below_drewN (below_drewN (below_drewN (T0) _) _) _)⟩

set_option maxRecDepth 20000 in
set_option maxHeartbeats 4000000 in
theorem l2Op_any (cs : List Value) (x : OpM) (n : Nat) (w : World) (h : shOp.rd w cs x) (hn : n ≤ 8) :
    Calls Tryz.prog 85 #[.int .i64 n, .agg cs.toArray] w (Bl w (.bool (opB n x))) := by
  obtain ⟨a, t⟩ := x
  obtain ⟨B, m, d, rfl, ⟨lo, hi⟩, qt⟩ := rdOp h
  have hml := Lib.hid qt.len
  have hle := qt.le
  obtain ⟨w0, hw0, T0, hsz0, BP⟩ := boxes1 w #[.int .i64 a, .slice B m d] 80
  have HW0 := Lib.hid hw0
  clear hw0
  replace qt := qt.next stab_RI T0
  rcases h0 : inB a 0 3 with _ | _
  · have HM : Hid (opB n (a, t) = false) := by show (inB a 0 3 && _) = false; rw [h0]; rfl
    have H0 := Lib.hid h0
    clear h0
    go_enter Tryz.func85, Tryz.ntmps85
    go_upto_region 1 with fail
    rw [← HW0.out]
    have c0 := BP.cell 0
    have c1 := BP.cell 1
    simp at c0 c1
    go_quiet ((go_at_call 84; first | exact quiet_one (l1In_is H0.out) | exact quiet_add (l1In_is H0.out)))
    go_wp2_with fail
    go_ret
    exact ⟨ret_bool HM.out.symm, (by first | exact T0 | exact below_drewN (T0) _ | exact below_drewN (below_drewN (T0) _) _ | exact below_drewN (below_drewN (below_drewN (T0) _) _) _)⟩
  have h03 : 0 ≤ a ∧ a ≤ 3 := by unfold inB at h0; simp at h0; omega
  have H0 := Lib.hid h0
  clear h0
  obtain ⟨ar, rfl⟩ := Int.eq_ofNat_of_zero_le h03.1
  obtain ⟨r, hr⟩ : ∃ r, n ^ ar = r := ⟨_, rfl⟩
  have HR := Lib.hid hr
  clear hr
  have hd : decide (m = r) = !((m : Int) != (r : Int)) := by by_cases e : m = r <;> simp [e]; omega
  have HM : Hid (opB n ((ar : Int), t) = (!((m : Int) != (r : Int)) && allIn 0 ((n : Int) - 1) t)) := by
    show (inB (ar : Int) 0 3 && (decide (t.length = n ^ ((ar : Int)).toNat) && allIn 0 ((n : Int) - 1) t)) = _
    rw [H0.out, Int.toNat_natCast, hml.out, HR.out, hd]
    rfl
  clear hd
  rcases h5 : ((m : Int) != (r : Int)) with _ | _
  all_goals
    have H5 := Lib.hid h5
    go_enter Tryz.func85, Tryz.ntmps85
    go_upto_region 1 with fail
    rw [← HW0.out]
    have c0 := BP.cell 0
    have c1 := BP.cell 1
    simp at c0 c1
    go_quiet ((first | (go_at_call 84; first | exact quiet_one (l1In_is H0.out) | exact quiet_add (l1In_is H0.out)) | (go_at_call 104; first | exact quiet_one (l2Pow_is HR.out hn (by omega)) | exact quiet_add (l2Pow_is HR.out hn (by omega)))))
  rotate_left
  · go_wp2_with fail
    go_ret
    exact ⟨ret_bool (by rw [HM.out, H5.out]; rfl), (by first | exact T0 | exact below_drewN (T0) _ | exact below_drewN (below_drewN (T0) _) _ | exact below_drewN (below_drewN (below_drewN (T0) _) _) _)⟩
  · have HN : Hid (opB n ((ar : Int), t) = allIn 0 ((n : Int) - 1) t) := by show _ = _; rw [HM.out, H5.out]; rfl
    clear HM c0 c1
    have hn1 : (0 : Int) ≤ (n : Int) := by omega
    have hn8 : (n : Int) ≤ 8 := by omega
    go_wp2_with fail
    go_loopw [5] (fun i wr => ∃ k : Nat, k ≤ m ∧ i = .int .i64 k ∧ At (allIn 0 ((n : Int) - 1)) t k ∧ Drawn w0 wr) (fun i _ => m - (intOf i).toNat)
    case atStart => exact ⟨0, Nat.zero_le _, rfl, rfl, (by first | exact Drawn.zero _ | exact Drawn.at_ _ _ | exact (Drawn.at_ _ _).more _ | exact ((Drawn.at_ _ _).more _).more _)⟩
    case round =>
      obtain ⟨k, hk, rfl, H, z, rfl⟩ := hrel
      have c1 := (BP.drewN z).cell 1
      simp at c1
      have q' := qt.drewN stab_RI z
      by_cases hlt : k < m
      · obtain ⟨b, o, v, x, rfl, hc, ⟨rfl, -⟩, hd, -⟩ := q'.at hlt
        have H1 := Lib.hid hd
        clear hd
        have hk0 : (0 : Int) ≤ (k : Int) := by omega
        have hk1 : (k : Int) < (m : Int) := by omega
        rcases hx : inB x 0 ((n : Int) - 1) with _ | _
        · have HX := Lib.hid hx
          clear hx
          go_wp2_with (go_at_call 84; refine (l1In_any _ _ _ _).mono ?_; rintro e w' ⟨rfl, rfl⟩; rw [HX.out])
          go_ret
          exact ⟨ret_bool (by rw [HN.out]; exact H.stop H1.out (by rw [allIn, HX.out]; rfl)), (by first | exact T0 | exact below_drewN (T0) _ | exact below_drewN (below_drewN (T0) _) _ | exact below_drewN (below_drewN (below_drewN (T0) _) _) _)⟩
        · have HX := Lib.hid hx
          clear hx
          go_wp2_with (go_at_call 84; refine (l1In_any _ _ _ _).mono ?_; rintro e w' ⟨rfl, rfl⟩; rw [HX.out])
          go_roundw
          case rel => exact ⟨k + 1, by omega, by go_num, H.step H1.out (by rw [allIn, HX.out]; rfl), (by first | exact Drawn.zero _ | exact Drawn.at_ _ _ | exact (Drawn.at_ _ _).more _ | exact ((Drawn.at_ _ _).more _).more _)⟩
          case measure => simp [intOf]; omega
      · have hlt' : ¬ (k : Int) < (m : Int) := by omega
        go_wp2_with fail
        go_ret
        exact ⟨ret_bool (by rw [HN.out]; exact H.done (qt.drop_end hlt) rfl), (by first | exact T0 | exact below_drewN (T0) _ | exact below_drewN (below_drewN (T0) _) _ | exact below_drewN (below_drewN (below_drewN (T0) _) _) _)⟩

/-- Is it an algebra? -/
def algB (x : AlgebraM) : Bool := inB x.1 1 8 && (decide (x.2.length ≤ 4) && x.2.all (opB x.1.toNat))
def allOp (n : Nat) (xs : List OpM) : Bool := xs.all (opB n)
theorem allOp_cons (n : Nat) (x : OpM) (xs : List OpM) : allOp n (x :: xs) = (opB n x && allOp n xs) := rfl
set_option maxRecDepth 20000 in
set_option maxHeartbeats 4000000 in
theorem isAlgebra_any (cs : List Value) (x : AlgebraM) (w : World) (h : shAlgebra.rd w cs x) :
    Calls Tryz.prog 39 #[.agg cs.toArray] w (Bl w (.bool (algB x))) := by
  obtain ⟨a, ops⟩ := x
  obtain ⟨B, m, d, rfl, ⟨lo, hi⟩, qo⟩ := rdAlgebra h
  have hml := Lib.hid qo.len
  have hle := qo.le
  obtain ⟨w0, hw0, T0, hsz0, BP⟩ := boxes1 w #[.int .i64 a, .slice B m d] 26
  have HW0 := Lib.hid hw0
  clear hw0
  by_cases h1 : a < 1
  · have HM : Hid (algB (a, ops) = false) := by show _ = _; unfold algB inB; simp; intro h; omega
    go_enter Tryz.func39, Tryz.ntmps39
    go_wp2_with fail
    go_ret
    exact ⟨ret_bool HM.out.symm, below_box _ _⟩
  by_cases h8 : 8 < a
  · have HM : Hid (algB (a, ops) = false) := by show _ = _; unfold algB inB; simp; intro h h'; omega
    go_enter Tryz.func39, Tryz.ntmps39
    go_wp2_with fail
    go_ret
    exact ⟨ret_bool HM.out.symm, below_box _ _⟩
  obtain ⟨n, rfl⟩ := Int.eq_ofNat_of_zero_le (show 0 ≤ a by omega)
  have hi8 : inB (n : Int) 1 8 = true := by unfold inB; simp; omega
  by_cases h4 : 4 < m
  · have HM : Hid (algB ((n : Int), ops) = false) := by show (inB (n : Int) 1 8 && (decide (ops.length ≤ 4) && _)) = false; rw [hml.out]; simp; intro _ h; omega
    go_enter Tryz.func39, Tryz.ntmps39
    go_wp2_with fail
    go_ret
    exact ⟨ret_bool HM.out.symm, below_box _ _⟩
  have HM : Hid (algB ((n : Int), ops) = allOp n ops) := by
    show (inB (n : Int) 1 8 && (decide (ops.length ≤ 4) && ops.all (opB (n : Int).toNat))) = _
    rw [hi8, hml.out, Int.toNat_natCast, show decide (m ≤ 4) = true by simp; omega]
    rfl
  clear hi8
  have hn8 : n ≤ 8 := by omega
  replace qo := qo.next T0
  go_enter Tryz.func39, Tryz.ntmps39
  go_wp2_with fail
  rw [← HW0.out]
  go_loopw [4, 22] (fun _ i wr => ∃ k : Nat, k ≤ m ∧ i = .int .i64 k ∧ At (allOp n) ops k ∧ Below w0.heap.size w0 wr) (fun _ i _ => m - (intOf i).toNat)
  case atStart => exact ⟨0, Nat.zero_le _, rfl, rfl, Below.refl _ _⟩
  case round =>
    obtain ⟨k, hk, rfl, H, hT⟩ := hrel
    have q' := qo.next hT
    by_cases hlt : k < m
    · obtain ⟨b, o, vs, x, rfl, -, hc, hr, hd, -⟩ := q'.at hlt
      obtain ⟨B', m', d', rfl, qa, qt⟩ := rdOp hr
      have cc0 : wr.cell? ⟨b, o + k * 2, none⟩ = some (.int .i64 x.1) := hc 0 _ rfl
      have cc1 : wr.cell? ⟨b, o + k * 2 + 1, none⟩ = some (.slice B' m' d') := hc 1 _ rfl
      obtain ⟨w1, hw1, T1, hsz1, BX⟩ := boxes1 wr #[.int .i64 x.1, .slice B' m' d'] 80
      have HW1 := Lib.hid hw1
      have cP := ((BP.next hT).next T1).cell 0
      simp at cP
      rw [HW1.out] at cP
      have H1 := Lib.hid hd
      have hr1 := shOp.stab hr T1.block
      have hT1 := below_next hT T1 rfl
      clear hd hc hw1
      have hk0 : (0 : Int) ≤ (k : Int) := by omega
      have hk1 : (k : Int) < (m : Int) := by omega
      obtain ⟨r, hr'⟩ : ∃ r, opB n x = r := ⟨_, rfl⟩
      have HR := Lib.hid hr'
      clear hr'
      go_wp2_with fail
      rw [← HW1.out]
      refine (isOp_any _ x n _ hr1 hn8).mono ?_
      rintro e w2 ⟨rfl, hb2⟩
      rw [HR.out]
      have hT2 := below_next hT1 hb2 rfl
      clear cc0 cc1 cP
      rcases r with _ | _
      · go_wp2_with fail
        go_ret
        exact ⟨ret_bool (by rw [HM.out]; exact H.stop H1.out (by rw [allOp_cons, HR.out]; rfl)), below_next T0 hT2 rfl⟩
      · go_wp2_with fail
        go_roundw
        case rel => exact ⟨k + 1, by omega, by go_num, H.step H1.out (by rw [allOp_cons, HR.out]; rfl), hT2⟩
        case measure => simp [intOf]; omega
    · have hlt' : ¬ (k : Int) < (m : Int) := by omega
      go_wp2_with fail
      go_ret
      exact ⟨ret_bool (by rw [HM.out]; exact H.done (qo.drop_end hlt) rfl), below_next T0 hT rfl⟩

set_option maxRecDepth 20000 in
set_option maxHeartbeats 4000000 in
theorem l2Good_any (cs : List Value) (x : AlgebraM) (w : World) (h : shAlgebra.rd w cs x) :
    Calls Tryz.prog 41 #[.agg cs.toArray] w (Bl w (.bool (algB x))) := by
  obtain ⟨a, ops⟩ := x
  obtain ⟨B, m, d, rfl, ⟨lo, hi⟩, qo⟩ := rdAlgebra h
  have hml := Lib.hid qo.len
  have hle := qo.le
  obtain ⟨w0, hw0, T0, hsz0, BP⟩ := boxes1 w #[.int .i64 a, .slice B m d] 26
  have HW0 := Lib.hid hw0
  clear hw0
  rcases h1 : inB a 1 8 with _ | _
  · have HM : Hid (algB (a, ops) = false) := by show (inB a 1 8 && _) = false; rw [h1]; rfl
    have H1 := Lib.hid h1
    clear h1
    go_enter Tryz.func41, Tryz.ntmps41
    go_wp2_with (go_at_call 84; refine (l1In_any _ _ _ _).mono ?_; rintro e w' ⟨rfl, rfl⟩; rw [H1.out])
    go_ret
    exact ⟨ret_bool HM.out.symm, below_box _ _⟩
  have h18 : 1 ≤ a ∧ a ≤ 8 := by unfold inB at h1; simp at h1; omega
  have H1 := Lib.hid h1
  clear h1
  obtain ⟨n, rfl⟩ := Int.eq_ofNat_of_zero_le (show 0 ≤ a by omega)
  by_cases h4 : 4 < m
  · have HM : Hid (algB ((n : Int), ops) = false) := by show (inB (n : Int) 1 8 && (decide (ops.length ≤ 4) && _)) = false; rw [hml.out]; simp; intro _ h; omega
    go_enter Tryz.func41, Tryz.ntmps41
    go_wp2_with (go_at_call 84; refine (l1In_any _ _ _ _).mono ?_; rintro e w' ⟨rfl, rfl⟩; rw [H1.out])
    go_ret
    exact ⟨ret_bool HM.out.symm, below_box _ _⟩
  have HM : Hid (algB ((n : Int), ops) = allOp n ops) := by
    show (inB (n : Int) 1 8 && (decide (ops.length ≤ 4) && ops.all (opB (n : Int).toNat))) = _
    rw [H1.out, hml.out, Int.toNat_natCast, show decide (m ≤ 4) = true by simp; omega]
    rfl
  have hn8 : n ≤ 8 := by omega
  replace qo := qo.next T0
  go_enter Tryz.func41, Tryz.ntmps41
  go_wp2_with (go_at_call 84; refine (l1In_any _ _ _ _).mono ?_; rintro e w' ⟨rfl, rfl⟩; rw [H1.out])
  rw [← HW0.out]
  go_loopw [3] (fun i wr => ∃ k : Nat, k ≤ m ∧ i = .int .i64 k ∧ At (allOp n) ops k ∧ Below w0.heap.size w0 wr) (fun i _ => m - (intOf i).toNat)
  case atStart => exact ⟨0, Nat.zero_le _, rfl, rfl, Below.refl _ _⟩
  case round =>
    obtain ⟨k, hk, rfl, H, hT⟩ := hrel
    have q' := qo.next hT
    have BPr := BP.next hT
    have cP0 := BPr.cell 0
    have cP1 := BPr.cell 1
    simp at cP0 cP1
    by_cases hlt : k < m
    · obtain ⟨b, o, vs, x, rfl, -, hc, hr, hd, -⟩ := q'.at hlt
      obtain ⟨B', m', d', rfl, qa, qt⟩ := rdOp hr
      have cc0 : wr.cell? ⟨b, o + k * 2, none⟩ = some (.int .i64 x.1) := hc 0 _ rfl
      have cc1 : wr.cell? ⟨b, o + k * 2 + 1, none⟩ = some (.slice B' m' d') := hc 1 _ rfl
      have HD := Lib.hid hd
      clear hd hc
      have hk0 : (0 : Int) ≤ (k : Int) := by omega
      have hk1 : (k : Int) < (m : Int) := by omega
      obtain ⟨r, hr'⟩ : ∃ r, opB n x = r := ⟨_, rfl⟩
      have HR := Lib.hid hr'
      clear hr'
      have Tk : Below wr.heap.size wr wr := Below.refl _ _
      go_upto_region 6 with fail
      go_cut [29] (fun v wx => v = .bool (!r) ∧ Below wr.heap.size wr wx)
      case first =>
        go_region_held3 (fun w' => w'.cell? ⟨w.heap.size, 0, none⟩ = some (.int .i64 n) ∧ w'.cell? ⟨w.heap.size, 1, none⟩ = some (.slice (some ⟨b, o, none⟩) m d) ∧ w'.cell? ⟨b, o + k * 2, none⟩ = some (.int .i64 x.1) ∧ w'.cell? ⟨b, o + k * 2 + 1, none⟩ = some (.slice B' m' d')) (first | go_keep | exact ⟨keepc Tk cP0, keepc Tk cP1, keepc Tk cc0, keepc Tk cc1⟩) ((go_at_call 85; refine (l2Op_any [.int .i64 x.1, .slice B' m' d'] x n _ (shOp.stab hr (by first | exact Tk.block | exact (Below.drew Tk).block)) hn8).mono ?_; rintro e wn ⟨rfl, hbn⟩; replace Tk := below_next (by first | exact Tk | exact Below.drew Tk) hbn rfl; rw [HR.out]))
        all_goals (go_wp2_with fail; go_meet; exact ⟨rfl, Tk⟩)
      case rest =>
        obtain ⟨rfl, hb4⟩ := hcut
        have hT2 := below_next hT hb4 rfl
        clear hb4 Tk cP0 cP1 cc0 cc1
        rcases r with _ | _
        · go_wp2_with fail
          go_ret
          exact ⟨ret_bool (by rw [HM.out]; exact H.stop HD.out (by rw [allOp_cons, HR.out]; rfl)), below_next T0 hT2 rfl⟩
        · go_wp2_with fail
          go_roundw
          case rel => exact ⟨k + 1, by omega, by go_num, H.step HD.out (by rw [allOp_cons, HR.out]; rfl), hT2⟩
          case measure => simp [intOf]; omega
    · have hlt' : ¬ (k : Int) < (m : Int) := by omega
      go_wp2_with fail
      go_ret
      exact ⟨ret_bool (by rw [HM.out]; exact H.done (qo.drop_end hlt) rfl), below_next T0 hT rfl⟩

/-- Is it a small algebra? -/
def smallB (x : AlgebraM) : Bool := algB x && decide (x.1 ≤ 5)
end Go.Proofs.YtkmgbdljiajlaaaGreat
namespace Go.Proofs.YtkmgbdljiajlaaaGreat
open Go.RowKit

def codeL : List OpM → List Int
  | [] => []
  | x :: l => x.2 ++ codeL l
theorem codeL_len : ∀ xs : List OpM, (codeL xs).length = cntS shOp.cnt xs
  | [] => rfl
  | x :: l => by
    rw [codeL, List.length_append, codeL_len l, cntS_cons]
    show x.2.length + _ = (0 + x.2.length) + _
    omega
/-- What has been gathered, and what the rest gives. -/
def CdAt (xs : List OpM) (k : Nat) (acc : List Int) : Prop := acc ++ codeL (xs.drop k) = codeL xs
theorem CdAt.step {xs : List OpM} {k : Nat} {acc : List Int} {x : OpM} (h : CdAt xs k acc) (hd : xs.drop k = x :: xs.drop (k + 1)) : CdAt xs (k + 1) (acc ++ x.2) := by
  unfold CdAt at *
  rw [← h, hd, codeL, List.append_assoc]
theorem CdAt.done {xs : List OpM} {k : Nat} {acc : List Int} (h : CdAt xs k acc) (hd : xs.drop k = []) : acc = codeL xs := by
  unfold CdAt at h
  rwa [hd, codeL, List.append_nil] at h
theorem CdAt.len {xs : List OpM} {k : Nat} {acc : List Int} {x : OpM} (h : CdAt xs k acc) (hd : xs.drop k = x :: xs.drop (k + 1)) : acc.length + x.2.length ≤ cntS shOp.cnt xs := by
  unfold CdAt at h
  have := congrArg List.length h
  rw [hd, codeL, List.length_append, List.length_append, codeL_len] at this
  have h2 := codeL_len xs
  omega
theorem own_off {w : World} {base : Nat} {e : TypeId} {size : Nat} {v : Value} {n : Nat} {xs : List Value} (h : w.ownsRow base e size v n xs) {g : Nat} {t : TypeId} {cs : Array Value} (hB : Blk w g t cs) (hne : e ≠ t) : v.ownBlock ≠ some g := by
  rcases h.2 with ⟨rfl, _⟩ | ⟨g1, cap, cur, rfl, _, hh, _⟩
  · simp [Value.ownBlock]
  · intro hc
    simp only [Value.ownBlock, Option.some.injEq] at hc
    subst hc
    rw [hB] at hh
    injection hh with hh
    injection hh with _ ht
    exact hne ht.symm
/-! ## CodeOf -/
end Go.Proofs.YtkmgbdljiajlaaaGreat
namespace Go.Proofs.YtkmgbdljiajlaaaGreat
open Go.RowKit

theorem hasI_m {x : Int} : ∀ {l : List Int}, hasI x l = true ↔ x ∈ l
  | [] => by simp [hasI]
  | y :: l => by
    rw [hasI, Bool.or_eq_true, hasI_m, beq_iff_eq, List.mem_cons]
    exact ⟨fun h => h.imp Eq.symm id, fun h => h.imp Eq.symm id⟩
theorem allIn_m {a b : Int} : ∀ {l : List Int}, allIn a b l = true ↔ ∀ x ∈ l, a ≤ x ∧ x ≤ b
  | [] => by simp [allIn]
  | y :: l => by
    simp [allIn, inB, allIn_m (l := l)]

/-! ## Digits -/
def digs (n : Nat) : Nat → Nat → List Nat
  | 0, _ => []
  | k + 1, i => digs n k (i / n) ++ [i % n]
theorem digs_len (n : Nat) : ∀ k i, (digs n k i).length = k
  | 0, _ => rfl
  | k + 1, i => by rw [digs, List.length_append, digs_len n k]; rfl
theorem digs_lt {n : Nat} (hn : 0 < n) : ∀ {k i d}, d ∈ digs n k i → d < n
  | 0, _, _, h => by cases h
  | k + 1, i, d, h => by
    rw [digs, List.mem_append] at h
    rcases h with h | h
    · exact digs_lt hn h
    · rw [List.mem_singleton] at h
      subst h
      exact Nat.mod_lt _ hn
/-! ## Names -/
def nmAt (s : List Int) (x : Nat) : Nat := (s.getD x 0).toNat
def PermL (n : Nat) (s : List Int) : Prop := s.length = n ∧ (∀ v ∈ s, 0 ≤ v ∧ v ≤ (n : Int) - 1) ∧ s.Nodup
theorem nmAt_get {s : List Int} {x : Nat} {v : Int} (h : s[x]? = some v) : nmAt s x = v.toNat := by simp [nmAt, List.getD_eq_getElem?_getD, h]
theorem PermL.at {n : Nat} {s : List Int} (h : PermL n s) {x : Nat} (hx : x < n) : ∃ v : Nat, s[x]? = some (v : Int) ∧ v < n ∧ nmAt s x = v := by
  have hl : x < s.length := by rw [h.1]; exact hx
  have hv := h.2.1 s[x] (List.getElem_mem hl)
  refine ⟨(s[x]).toNat, ?_, by omega, ?_⟩
  · rw [List.getElem?_eq_getElem hl, Int.toNat_of_nonneg hv.1]
  · exact nmAt_get (List.getElem?_eq_getElem hl)
theorem nodup_sub : ∀ {l m : List Int}, l.Nodup → (∀ x ∈ l, x ∈ m) → l.length ≤ m.length
  | [], _, _, _ => Nat.zero_le _
  | a :: l, m, hn, hs => by
    rw [List.nodup_cons] at hn
    have hm := hs a (by simp)
    have ih := nodup_sub (m := m.erase a) hn.2 fun x hx => (List.mem_erase_of_ne (fun e => hn.1 (by rw [← e]; exact hx))).2 (hs x (by simp [hx]))
    rw [List.length_erase_of_mem hm] at ih
    have := List.length_pos_of_mem hm
    rw [List.length_cons]
    omega
/-! ## Renaming one table -/
/-! ## The identity -/
/-! ## Renaming an algebra -/
def OpP (n : Nat) (x : OpM) : Prop := 0 ≤ x.1 ∧ x.1 ≤ 3 ∧ x.2.length = n ^ x.1.toNat ∧ ∀ v ∈ x.2, 0 ≤ v ∧ v ≤ (n : Int) - 1
def SmallP (x : AlgebraM) : Prop := 1 ≤ x.1 ∧ x.1 ≤ 5 ∧ x.2.length ≤ 4 ∧ ∀ o ∈ x.2, OpP x.1.toNat o
def AlgP (x : AlgebraM) : Prop := 1 ≤ x.1 ∧ x.1 ≤ 8 ∧ x.2.length ≤ 4 ∧ ∀ o ∈ x.2, OpP x.1.toNat o
theorem alg_iff {x : AlgebraM} : algB x = true ↔ AlgP x := by
  have hop : ∀ n o, opB n o = true ↔ OpP n o := fun n o => by
    unfold opB OpP inB
    rw [Bool.and_eq_true, Bool.and_eq_true, Bool.and_eq_true, decide_eq_true_eq, decide_eq_true_eq, decide_eq_true_eq, allIn_m]
    exact ⟨fun ⟨⟨a, b⟩, c, d⟩ => ⟨a, b, c, d⟩, fun ⟨a, b, c, d⟩ => ⟨⟨a, b⟩, c, d⟩⟩
  unfold algB AlgP inB
  simp only [Bool.and_eq_true, decide_eq_true_eq, List.all_eq_true, hop]
  exact ⟨fun ⟨⟨a, b⟩, c, d⟩ => ⟨a, b, c, d⟩, fun ⟨a, b, c, d⟩ => ⟨⟨a, b⟩, c, d⟩⟩
theorem small_iff {x : AlgebraM} : smallB x = true ↔ SmallP x := by
  have hop : ∀ n o, opB n o = true ↔ OpP n o := fun n o => by
    unfold opB OpP inB
    rw [Bool.and_eq_true, Bool.and_eq_true, Bool.and_eq_true, decide_eq_true_eq, decide_eq_true_eq, decide_eq_true_eq, allIn_m]
    exact ⟨fun ⟨⟨a, b⟩, c, d⟩ => ⟨a, b, c, d⟩, fun ⟨a, b, c, d⟩ => ⟨⟨a, b⟩, c, d⟩⟩
  unfold smallB algB SmallP inB
  simp only [Bool.and_eq_true, decide_eq_true_eq, List.all_eq_true, hop]
  exact ⟨fun ⟨⟨⟨a, b⟩, c, d⟩, e⟩ => ⟨a, e, c, d⟩, fun ⟨a, e, c, d⟩ => ⟨⟨⟨a, by omega⟩, c, d⟩, e⟩⟩
/-! ## All orders of names -/
/-! ## The first code -/
end Go.Proofs.YtkmgbdljiajlaaaGreat
namespace Go.Proofs.YtkmgbdljiajlaaaGreat
open Go.RowKit

def nats (l : List Nat) : List Int := l.map fun (d : Nat) => (d : Int)
/-- p places still to be laid; cur is what is left of the index. -/
def DgAt (n k i p cur : Nat) (L : List Int) : Prop := ∃ tl : List Nat, digs n k i = digs n p cur ++ tl ∧ L = List.replicate p 0 ++ nats tl ∧ p + tl.length = k ∧ cur ≤ i
theorem DgAt.start (n k i : Nat) : DgAt n k i k i (List.replicate k 0) := ⟨[], by simp, by simp [nats], rfl, Nat.le_refl _⟩
theorem DgAt.step {n k i p cur : Nat} {L : List Int} (h : DgAt n k i (p + 1) cur L) : DgAt n k i p (cur / n) (L.set p ((cur % n : Nat) : Int)) := by
  obtain ⟨tl, h1, rfl, h3, h4⟩ := h
  refine ⟨(cur % n) :: tl, by rw [h1, digs]; simp, ?_, by simp; omega, Nat.le_trans (Nat.div_le_self _ _) h4⟩
  rw [show List.replicate (p + 1) (0 : Int) = List.replicate p 0 ++ [0] by rw [List.replicate_succ'], List.append_assoc, List.set_append_right _ _ (by simp)]
  simp [nats]
theorem DgAt.done {n k i cur : Nat} {L : List Int} (h : DgAt n k i 0 cur L) : L = nats (digs n k i) := by
  obtain ⟨tl, h1, rfl, h3, -⟩ := h
  rw [h1, digs]
  simp
theorem ints_set (l : List Int) (p : Nat) (v : Int) : (ints l).set p (.int .i64 v) = ints (l.set p v) := by simp [ints, List.map_set]
theorem ints_rep (n : Nat) : ints (List.replicate n 0) = List.replicate n (.int .i64 0) := by simp [ints]
theorem ints_len (l : List Int) : (ints l).length = l.length := by simp [ints]

theorem w64 {x : Nat} (h : x ≤ 1048576) : wrap64 (x : Int) = x := by unfold wrap64; omega
set_option maxHeartbeats 1000000 in
theorem l2Args_any (i k n : Nat) (w : World) (hn : 0 < n) (hn8 : n ≤ 1048576) (hk : k ≤ 1048576) (hi : i ≤ 1048576) :
    Calls Tryz.prog 108 #[.int .i64 n, .int .i64 k, .int .i64 i] w fun e w' => ∃ g, e = .returned (.slice (some ⟨g, 0, none⟩) k k) ∧ w'.ownsRow w.heap.size 3 1 (.slice (some ⟨g, 0, none⟩) k k) k (ints (nats (digs n k i))) ∧ Below w.heap.size w w' := by
  go_enter Tryz.func108, Tryz.ntmps108
  go_wp2_with (at_make; refine make_ints _ rfl _ _ rfl k rfl rfl (by omega) ?_; intro w1 hown hg1)
  have hT := (Below.refl w.heap.size w).grown hg1 (Nat.le_refl _) (by simp)
  clear hg1
  go_loopw [2, 8] (fun c j wr => ∃ (p cur : Nat) (L : List Int), p ≤ k ∧ c = .int .i64 cur ∧ j = .int .i64 ((p : Int) - 1) ∧ Hid (DgAt n k i p cur L) ∧ cur ≤ 1048576 ∧ wr.ownsRow w.heap.size 3 1 (.slice (some ⟨w.heap.size, 0, none⟩) k k) k (ints L) ∧ Below w.heap.size w wr) (fun _ j _ => (intOf j + 1).toNat)
  case atStart => exact ⟨k, i, List.replicate k 0, Nat.le_refl _, rfl, by go_num, DgAt.start _ _ _, by omega, by rw [ints_rep]; exact hown, hT⟩
  case round =>
    clear hown hT
    obtain ⟨p, cur, L, hp, rfl, rfl, HD, hc, hown, hT⟩ := hrel
    rcases p with _ | p
    · have hl : Hid (L = nats (digs n k i)) := HD.out.done
      have h0 : ¬ (0 : Int) ≤ ((0 : Nat) : Int) - 1 := by omega
      go_wp2
      go_ret
      exact ⟨_, rfl, by rw [← hl.out]; exact hown, hT⟩
    · have h0 : (0 : Int) ≤ ((p + 1 : Nat) : Int) - 1 := by omega
      have hp0 : (0 : Int) ≤ (p : Int) := by omega
      have hp1 : (p : Int) < (k : Int) := by omega
      have HS : Hid (DgAt n k i p (cur / n) (L.set p ((cur % n : Nat) : Int))) := HD.out.step
      have e1 : ((p + 1 : Nat) : Int) - 1 = (p : Int) := by omega
      have hLl : p < (ints L).length := by have := hown.1; omega
      have hcell : wr.cell? ⟨w.heap.size, p, none⟩ = some ((ints L)[p]) := (hown.cellAt p (by omega)).trans (List.getElem?_eq_getElem hLl)
      have hfz : wr.frozen? ⟨w.heap.size, p, none⟩ = false := hown.frozenAt p
      have hst := (hown.stored p (.int .i64 ((cur % n : Nat) : Int))).1
      rw [ints_set] at hst
      have hnz : ¬ (n : Int) = 0 := by omega
      have hcd : cur / n ≤ 1048576 := Nat.le_trans (Nat.div_le_self _ _) hc
      have HQ : Hid (wrap64 ((cur : Int) / (n : Int)) = ((cur / n : Nat) : Int)) := by
        show _ = _
        have e : (cur : Int) / (n : Int) = ((cur / n : Nat) : Int) := by simp
        rw [e]
        exact w64 hcd
      rw [e1]
      clear h0 e1
      go_wp2
      go_roundw
      case rel => exact ⟨p, cur / n, _, by omega, by rw [HQ.out], by go_num, HS, hcd, hst, hT.setCell (Nat.le_refl _) _⟩
      case measure => simp [intOf]; try omega

end Go.Proofs.YtkmgbdljiajlaaaGreat
namespace Go.Proofs.YtkmgbdljiajlaaaGreat

noncomputable def tt (p : Prop) : Bool := @decide p (Classical.propDecidable p)
theorem tt_true {p : Prop} (h : p) : true = tt p := by unfold tt; simp [h]
theorem tt_iff {p : Prop} : tt p = true ↔ p := by unfold tt; simp
end Go.Proofs.YtkmgbdljiajlaaaGreat
namespace Go.Proofs.YtkmgbdljiajlaaaGreat
open Go.RowKit

end Go.Proofs.YtkmgbdljiajlaaaGreat
namespace Go.Proofs.YtkmgbdljiajlaaaGreat
open Go.RowKit

end Go.Proofs.YtkmgbdljiajlaaaGreat
namespace Go.Proofs.YtkmgbdljiajlaaaGreat
open Go.RowKit

end Go.Proofs.YtkmgbdljiajlaaaGreat
namespace Go.Proofs.YtkmgbdljiajlaaaGreat
open Go.RowKit

end Go.Proofs.YtkmgbdljiajlaaaGreat
namespace Go.Proofs.YtkmgbdljiajlaaaGreat
open Go.RowKit

end Go.Proofs.YtkmgbdljiajlaaaGreat
namespace Go.Proofs.YtkmgbdljiajlaaaGreat
open Go.RowKit
set_option linter.unusedVariables false

/-- The arity of the operation that a negative number names. -/
def arF (ops : List OpM) (v : Int) : Nat := (ops.getD (-1 - v).toNat (0, [])).1.toNat
def badV (ops : List OpM) (v : Int) : Bool := decide (6 ≤ v) || decide (v < -(ops.length : Int))
def adV (ops : List OpM) (v : Int) : Nat := if 0 ≤ v then 0 else arF ops v
/-- How many numbers m terms take from the beginning of a list. -/
def endT (ops : List OpM) : List Int → Nat → Option Nat
  | [], m => if m = 0 then some 0 else none
  | v :: l, m => if m = 0 then some 0 else if badV ops v then none else (endT ops l (m - 1 + adV ops v)).map (· + 1)
theorem endT_zero (ops : List OpM) (l : List Int) : endT ops l 0 = some 0 := by cases l <;> rfl
theorem endT_nil (ops : List OpM) {m : Nat} (h : 0 < m) : endT ops [] m = none := by unfold endT; rw [if_neg (by omega)]
theorem endT_cons {ops : List OpM} {v : Int} {l : List Int} {m : Nat} (h : 0 < m) : endT ops (v :: l) m = if badV ops v then none else (endT ops l (m - 1 + adV ops v)).map (· + 1) := by
  rw [endT, if_neg (by omega)]
/-- The place behind the subterm that begins at a place; -1: there is none. -/
def endI (ops : List OpM) (t : List Int) (at_ : Nat) : Int := match endT ops (t.drop at_) 1 with | some q => ((at_ + q : Nat) : Int) | none => -1
/-- The scan at place k, as many terms still wanted. -/
def EnI (ops : List OpM) (t : List Int) (a0 k need : Nat) : Prop := endT ops (t.drop a0) 1 = (endT ops (t.drop k) need).map (· + (k - a0)) ∧ a0 ≤ k ∧ need ≤ 1 + 3 * (k - a0)
theorem EnI.start (ops : List OpM) (t : List Int) (a0 : Nat) : EnI ops t a0 a0 1 := ⟨by cases endT ops (t.drop a0) 1 <;> simp, Nat.le_refl _, by omega⟩
theorem EnI.done {ops : List OpM} {t : List Int} {a0 k : Nat} (h : EnI ops t a0 k 0) : endI ops t a0 = (k : Int) := by
  unfold endI
  rw [h.1, endT_zero]
  have := h.2.1
  show ((a0 + (0 + (k - a0)) : Nat) : Int) = (k : Int)
  omega
theorem EnI.over {ops : List OpM} {t : List Int} {a0 k need : Nat} (h : EnI ops t a0 k need) (hn : 0 < need) (hk : ¬ k < t.length) : endI ops t a0 = -1 := by
  unfold endI
  rw [h.1, List.drop_eq_nil_of_le (by omega), endT_nil ops hn]
  rfl
theorem EnI.next {ops : List OpM} {t : List Int} {a0 k need : Nat} {v : Int} (h : EnI ops t a0 k need) (hn : 0 < need) (hv : t[k]? = some v) (hb : badV ops v = false) (h3 : adV ops v ≤ 3) : EnI ops t a0 (k + 1) (need - 1 + adV ops v) := by
  have hk := (List.getElem?_eq_some_iff.1 hv).1
  have e : t.drop k = v :: t.drop (k + 1) := by rw [List.drop_eq_getElem_cons hk, (List.getElem?_eq_some_iff.1 hv).2]
  obtain ⟨h1, h2, h4⟩ := h
  refine ⟨?_, by omega, by omega⟩
  rw [h1, e, endT_cons hn, hb]
  rcases endT ops (t.drop (k + 1)) (need - 1 + adV ops v) with _ | q
  · rfl
  · show some (q + 1 + (k - a0)) = some (q + (k + 1 - a0))
    congr 1
    omega
/-! ## The value -/
/-- Some terms, one behind the other. -/
def GoodS (ops : List OpM) (l : List Int) (m : Nat) : Prop := endT ops l m = some l.length
theorem GoodS.nil {ops : List OpM} {m : Nat} (h : GoodS ops [] m) : m = 0 := by
  unfold GoodS at h
  rcases Nat.eq_zero_or_pos m with h0 | h0
  · exact h0
  · rw [endT_nil ops h0] at h; cases h
theorem GoodS.cons {ops : List OpM} {v : Int} {l : List Int} {m : Nat} (h : GoodS ops (v :: l) m) : 0 < m ∧ badV ops v = false ∧ GoodS ops l (m - 1 + adV ops v) := by
  unfold GoodS at h ⊢
  rcases Nat.eq_zero_or_pos m with h0 | h0
  · subst h0
    rw [endT_zero] at h
    injection h with h
    simp at h
  · rw [endT_cons h0] at h
    split at h
    · cases h
    · rename_i hb
      refine ⟨h0, by simpa using hb, ?_⟩
      rcases e : endT ops l (m - 1 + adV ops v) with _ | q
      · rw [e] at h; cases h
      · rw [e] at h
        injection h with h
        simp only [List.length_cons] at h
        congr 1
        omega
theorem GoodS.drop {ops : List OpM} : ∀ {l : List Int} {m : Nat} (k : Nat), GoodS ops l m → ∃ m', GoodS ops (l.drop k) m'
  | l, m, 0, h => ⟨m, by simpa using h⟩
  | [], m, k + 1, h => ⟨m, by simpa using h⟩
  | v :: l, m, k + 1, h => by
    obtain ⟨-, -, h1⟩ := h.cons
    simpa using GoodS.drop k h1
end Go.Proofs.YtkmgbdljiajlaaaGreat
namespace Go.Proofs.YtkmgbdljiajlaaaGreat
open Go.RowKit
set_option linter.unusedVariables false

/-- Closed under the operations. -/
def ClosedM (n : Nat) (ops : List OpM) (M : Nat → Bool) : Prop := ∀ o ∈ ops, ∀ i, i < o.2.length → (∀ d ∈ digs n o.1.toNat i, M d = true) → M (nmAt o.2 i) = true
def LeM (n : Nat) (B M : Nat → Bool) : Prop := ∀ y, y < n → B y = true → M y = true
/-- In every closed set that has the set B. -/
def InCl (n : Nat) (ops : List OpM) (B : Nat → Bool) (y : Nat) : Prop := ∀ M, ClosedM n ops M → LeM n B M → M y = true
noncomputable def clB (n : Nat) (ops : List OpM) (B : Nat → Bool) (y : Nat) : Bool := tt (InCl n ops B y)
theorem LeM.refl (n : Nat) (B : Nat → Bool) : LeM n B B := fun _ _ h => h
theorem LeM.trans {n : Nat} {A B C : Nat → Bool} (h : LeM n A B) (k : LeM n B C) : LeM n A C := fun y hy ha => k y hy (h y hy ha)
theorem clB_closed (n : Nat) (ops : List OpM) (B : Nat → Bool) : ClosedM n ops (clB n ops B) := fun o ho i hi hd => tt_iff.2 fun M hM hB => hM o ho i hi fun d hd' => tt_iff.1 (hd d hd') M hM hB
theorem clB_sup (n : Nat) (ops : List OpM) (B : Nat → Bool) : LeM n B (clB n ops B) := fun y hy h => tt_iff.2 fun _ _ hB => hB y hy h
theorem clB_least {n : Nat} {ops : List OpM} {B M : Nat → Bool} (hc : ClosedM n ops M) (hs : LeM n B M) : LeM n (clB n ops B) M := fun _ _ h => tt_iff.1 h M hc hs
theorem cl_eq {n : Nat} {ops : List OpM} {B H : Nat → Bool} (hs : LeM n B H) (hc : ClosedM n ops H) (hl : LeM n H (clB n ops B)) {y : Nat} (hy : y < n) : H y = clB n ops B y := by
  rcases e : H y with _ | _
  · rcases e2 : clB n ops B y with _ | _
    · rfl
    · have := clB_least hc hs y hy e2
      rw [e] at this
      cases this
  · exact (hl y hy e).symm
/-- The marked numbers in ascending order. -/
def markL (n : Nat) (M : Nat → Bool) : List Int := ((List.range n).filter M).map fun (y : Nat) => (y : Int)
theorem markL_congr {n : Nat} {M H : Nat → Bool} (h : ∀ y, y < n → M y = H y) : markL n M = markL n H := by
  unfold markL
  congr 1
  exact List.filter_congr fun y hy => h y (List.mem_range.1 hy)
theorem markL_succ (n : Nat) (M : Nat → Bool) : markL (n + 1) M = markL n M ++ if M n then [(n : Int)] else [] := by
  unfold markL
  rw [List.range_succ, List.filter_append, List.map_append]
  congr 1
  rcases e : M n with _ | _ <;> simp [e]
theorem markL_mem {n : Nat} {M : Nat → Bool} {v : Int} : v ∈ markL n M ↔ ∃ y : Nat, y < n ∧ M y = true ∧ v = (y : Int) := by
  unfold markL
  rw [List.mem_map]
  constructor
  · rintro ⟨y, hy, rfl⟩
    rw [List.mem_filter, List.mem_range] at hy
    exact ⟨y, hy.1, hy.2, rfl⟩
  · rintro ⟨y, h1, h2, rfl⟩
    exact ⟨y, List.mem_filter.2 ⟨List.mem_range.2 h1, h2⟩, rfl⟩
theorem markL_le (n : Nat) (M : Nat → Bool) : (markL n M).length ≤ n := by
  unfold markL
  rw [List.length_map]
  exact Nat.le_trans (List.length_filter_le _ _) (by simp)
theorem markL_in {n : Nat} {M : Nat → Bool} : ∀ v ∈ markL n M, 0 ≤ v ∧ v ≤ (n : Int) - 1 := fun v hv => by
  obtain ⟨y, hy, -, rfl⟩ := markL_mem.1 hv
  omega
/-! ## Marks as a list of truth values -/
def gB (L : List Bool) (y : Nat) : Bool := L.getD y false
theorem gB_get {L : List Bool} {y : Nat} {b : Bool} (h : L[y]? = some b) : gB L y = b := by unfold gB; rw [List.getD_eq_getElem?_getD, h]; rfl
theorem gB_at {L : List Bool} {y : Nat} (h : y < L.length) : L[y]? = some (gB L y) := by unfold gB; rw [List.getD_eq_getElem?_getD, List.getElem?_eq_getElem h]; rfl
theorem gB_set {L : List Bool} {x y : Nat} (hx : x < L.length) (b : Bool) : gB (L.set x b) y = if y = x then b else gB L y := by
  unfold gB
  rw [List.getD_eq_getElem?_getD, List.getElem?_set]
  by_cases h : x = y
  · subst h
    rw [if_pos rfl, if_pos hx, if_pos rfl]
    rfl
  · rw [if_neg h, if_neg (fun e => h e.symm), List.getD_eq_getElem?_getD]
/-- What is not marked. -/
def offs (L : List Bool) : Nat := L.countP fun b => !b
theorem offs_set : ∀ {L : List Bool} {x : Nat}, L[x]? = some false → offs (L.set x true) + 1 = offs L
  | [], x, h => by simp at h
  | b :: L, 0, h => by
    simp only [List.getElem?_cons_zero, Option.some.injEq] at h
    subst h
    simp [offs]
  | b :: L, x + 1, h => by
    simp only [List.getElem?_cons_succ] at h
    have ih := offs_set h
    unfold offs at ih ⊢
    simp only [List.set_cons_succ, List.countP_cons]
    omega
theorem offs_le (L : List Bool) : offs L ≤ L.length := List.countP_le_length
/-- The rounds of the program: L is what is marked, L0 what was marked at first. -/
structure ClI (n : Nat) (ops : List OpM) (L0 L : List Bool) : Prop where
  len : L.length = n
  sup : LeM n (gB L0) (gB L)
  least : LeM n (gB L) (clB n ops (gB L0))
theorem ClI.start {n : Nat} {ops : List OpM} {L0 : List Bool} (h : L0.length = n) : ClI n ops L0 L0 := ⟨h, LeM.refl _ _, clB_sup _ _ _⟩
def AllM (n k i : Nat) (L : List Bool) : Bool := (digs n k i).all (gB L)
theorem ClI.mark {n : Nat} {ops : List OpM} {L0 L : List Bool} (h : ClI n ops L0 L) (hn : 0 < n) {o : OpM} (ho : o ∈ ops) {i v : Nat} (hv : o.2[i]? = some (v : Int)) (hvn : v < n) (hA : AllM n o.1.toNat i L = true) : ClI n ops L0 (L.set v true) := by
  have hl := h.len
  refine ⟨by rw [List.length_set]; exact hl, fun y hy hb => ?_, fun y hy hb => ?_⟩
  · rw [gB_set (by omega)]
    split
    · rfl
    · exact h.sup y hy hb
  · rw [gB_set (by omega)] at hb
    split at hb
    · rename_i e
      subst e
      have hi := (List.getElem?_eq_some_iff.1 hv).1
      have := clB_closed n ops (gB L0) o ho i hi fun d hd => h.least d (digs_lt hn hd) (List.all_eq_true.1 hA d hd)
      rwa [nmAt_get hv] at this
    · exact h.least y hy hb
/-- Nothing is to be marked at an entry of a table. -/
def OkE (n : Nat) (L : List Bool) (o : OpM) (i : Nat) : Prop := AllM n o.1.toNat i L = true → gB L (nmAt o.2 i) = true
theorem ClI.done {n : Nat} {ops : List OpM} {L0 L : List Bool} (h : ClI n ops L0 L) (hk : ∀ o ∈ ops, ∀ i, i < o.2.length → OkE n L o i) {y : Nat} (hy : y < n) : gB L y = clB n ops (gB L0) y :=
  cl_eq h.sup (fun o ho i hi hd => hk o ho i hi (List.all_eq_true.2 hd)) h.least hy
/-! ## The reference steps all at once -/
/-- One step: everything that an operation gives of what is marked. -/
def StP (n : Nat) (ops : List OpM) (L : List Bool) (y : Nat) : Prop := ∃ o ∈ ops, ∃ i, i < o.2.length ∧ AllM n o.1.toNat i L = true ∧ nmAt o.2 i = y
noncomputable def stL (n : Nat) (ops : List OpM) (L : List Bool) : List Bool := (List.range n).map fun y => gB L y || tt (StP n ops L y)
theorem stL_len (n : Nat) (ops : List OpM) (L : List Bool) : (stL n ops L).length = n := by simp [stL]
theorem stL_get {n : Nat} {ops : List OpM} {L : List Bool} {y : Nat} (hy : y < n) : gB (stL n ops L) y = (gB L y || tt (StP n ops L y)) := by
  refine gB_get ?_
  unfold stL
  rw [List.getElem?_map, List.getElem?_range hy]
  rfl
noncomputable def stN (n : Nat) (ops : List OpM) : Nat → List Bool → List Bool
  | 0, L => L
  | k + 1, L => stL n ops (stN n ops k L)
theorem stN_len {n : Nat} {ops : List OpM} {L : List Bool} (h : L.length = n) : ∀ k, (stN n ops k L).length = n
  | 0 => h
  | k + 1 => stL_len _ _ _
theorem gB_ext {L M : List Bool} {n : Nat} (hl : L.length = n) (hm : M.length = n) (h : ∀ y, y < n → gB L y = gB M y) : L = M := by
  apply List.ext_getElem?
  intro y
  by_cases hy : y < n
  · rw [gB_at (by omega), gB_at (by omega), h y hy]
  · rw [List.getElem?_eq_none (by omega), List.getElem?_eq_none (by omega)]
theorem offs_lt : ∀ {L M : List Bool}, L.length = M.length → (∀ y, gB L y = true → gB M y = true) → L ≠ M → offs M < offs L
  | [], [], _, _, h => absurd rfl h
  | [], _ :: _, h, _, _ => by simp at h
  | _ :: _, [], h, _, _ => by simp at h
  | a :: L, b :: M, hl, hle, hne => by
    have h0 := hle 0
    have hs : ∀ y, gB L y = true → gB M y = true := fun y => by
      have := hle (y + 1)
      simpa [gB] using this
    have hl' : L.length = M.length := by simpa using hl
    have hge : offs M ≤ offs L := by
      by_cases e : L = M
      · rw [e]; exact Nat.le_refl _
      · exact Nat.le_of_lt (offs_lt hl' hs e)
    by_cases e : L = M
    · subst e
      have hab : a ≠ b := fun e => hne (by rw [e])
      have h1 : a = false ∧ b = true := by
        rcases a with _ | _ <;> rcases b with _ | _
        · exact absurd rfl hab
        · exact ⟨rfl, rfl⟩
        · have := h0 (by simp [gB]); simp [gB] at this
        · exact absurd rfl hab
      obtain ⟨rfl, rfl⟩ := h1
      simp [offs]
    · have := offs_lt hl' hs e
      have hab : a = true → b = true := fun e => by have := h0 (by simp [gB, e]); simpa [gB] using this
      unfold offs at this hge ⊢
      simp only [List.countP_cons]
      rcases a with _ | _ <;> rcases b with _ | _ <;> simp_all <;> omega
theorem stL_up {n : Nat} {ops : List OpM} {L : List Bool} (hl : L.length = n) (y : Nat) (h : gB L y = true) : gB (stL n ops L) y = true := by
  have hy : y < n := by
    rcases Nat.lt_or_ge y n with h1 | h1
    · exact h1
    · unfold gB at h
      rw [List.getD_eq_getElem?_getD, List.getElem?_eq_none (by omega)] at h
      cases h
  rw [stL_get hy, h]
  rfl
theorem stN_cnt {n : Nat} {ops : List OpM} {L : List Bool} (hl : L.length = n) : ∀ k, stL n ops (stN n ops k L) = stN n ops k L ∨ k + offs (stN n ops k L) ≤ n
  | 0 => .inr (by have := offs_le L; show 0 + offs L ≤ n; omega)
  | k + 1 => by
    by_cases e : stL n ops (stN n ops k L) = stN n ops k L
    · left
      show stL n ops (stL n ops (stN n ops k L)) = stL n ops (stN n ops k L)
      rw [e, e]
    · right
      have h1 : k + offs (stN n ops k L) ≤ n := (stN_cnt hl k).resolve_left e
      have h2 := offs_lt (L := stN n ops k L) (M := stL n ops (stN n ops k L)) (by rw [stN_len hl, stL_len]) (fun y => stL_up (stN_len hl k) y) (Ne.symm e)
      show k + 1 + offs (stL n ops (stN n ops k L)) ≤ n
      omega
theorem stN_fix {n : Nat} {ops : List OpM} {L : List Bool} (hl : L.length = n) : stL n ops (stN n ops (n + 1) L) = stN n ops (n + 1) L := by
  rcases stN_cnt (ops := ops) hl (n + 1) with h | h
  · exact h
  · omega
theorem stN_inv {n : Nat} {ops : List OpM} {L : List Bool} (hn : 0 < n) (hl : L.length = n) : ∀ k, LeM n (gB L) (gB (stN n ops k L)) ∧ LeM n (gB (stN n ops k L)) (clB n ops (gB L))
  | 0 => ⟨LeM.refl _ _, clB_sup _ _ _⟩
  | k + 1 => by
    obtain ⟨h1, h2⟩ := stN_inv hn hl k
    refine ⟨fun y hy h => stL_up (stN_len hl k) y (h1 y hy h), fun y hy h => ?_⟩
    have h3 : gB (stL n ops (stN n ops k L)) y = true := h
    rw [stL_get hy, Bool.or_eq_true] at h3
    rcases h3 with h3 | h3
    · exact h2 y hy h3
    · obtain ⟨o, ho, i, hi, hA, rfl⟩ := tt_iff.1 h3
      exact clB_closed n ops (gB L) o ho i hi fun d hd => h2 d (digs_lt hn hd) (List.all_eq_true.1 hA d hd)
theorem stN_cl {n : Nat} {ops : List OpM} {L : List Bool} (hn : 0 < n) (hl : L.length = n) (hops : ∀ o ∈ ops, ∀ v ∈ o.2, 0 ≤ v ∧ v ≤ (n : Int) - 1) {y : Nat} (hy : y < n) : gB (stN n ops (n + 1) L) y = clB n ops (gB L) y := by
  obtain ⟨h1, h2⟩ := stN_inv (ops := ops) hn hl (n + 1)
  refine cl_eq h1 (fun o ho i hi hd => ?_) h2 hy
  have hv := hops o ho _ (List.getElem_mem hi)
  have hvn : nmAt o.2 i < n := by
    rw [nmAt_get (List.getElem?_eq_getElem hi)]
    omega
  rw [← stN_fix hl, stL_get hvn, ← tt_true (show StP n ops (stN n ops (n + 1) L) (nmAt o.2 i) from ⟨o, ho, i, hi, List.all_eq_true.2 hd, rfl⟩), Bool.or_true]
/-- What some elements generate. -/
def inL (n : Nat) (S : List Int) : List Bool := (List.range n).map fun (y : Nat) => hasI (y : Int) S
theorem inL_len (n : Nat) (S : List Int) : (inL n S).length = n := by simp [inL]
noncomputable def genL (n : Nat) (ops : List OpM) (S : List Int) : List Int := markL n (clB n ops (gB (inL n S)))
end Go.Proofs.YtkmgbdljiajlaaaGreat
namespace Go.Proofs.YtkmgbdljiajlaaaGreat
open Go.RowKit
set_option linter.unusedVariables false

/-- A partition of n elements: each is told by the least element of its block. -/
def ParI (p : List Int) (i : Nat) : Prop := 0 ≤ p.getD i 0 ∧ nmAt p i ≤ i ∧ nmAt p (nmAt p i) = nmAt p i
def ParP (n : Nat) (p : List Int) : Prop := p.length = n ∧ ∀ i, i < n → ParI p i
theorem ParP.at {n : Nat} {p : List Int} (h : ParP n p) {i : Nat} (hi : i < n) : p[i]? = some (nmAt p i : Int) ∧ nmAt p i ≤ i ∧ nmAt p (nmAt p i) = nmAt p i := by
  obtain ⟨h1, h2, h3⟩ := h.2 i hi
  refine ⟨?_, h2, h3⟩
  have hl : i < p.length := by rw [h.1]; exact hi
  unfold nmAt
  rw [List.getD_eq_getElem?_getD, List.getElem?_eq_getElem hl] at h1 ⊢
  simp only [Option.getD_some] at h1 ⊢
  congr 1
  omega
def uniV (a b v : Int) : Int := if v = (if a ≤ b then b else a) then (if a ≤ b then a else b) else v
/-- The blocks of two elements in one. -/
def uniL (p : List Int) (x y : Nat) : List Int := p.map (uniV (nmAt p x) (nmAt p y))
theorem uniL_len (p : List Int) (x y : Nat) : (uniL p x y).length = p.length := by simp [uniL]
theorem uni_same {p : List Int} {x y : Nat} (h : nmAt p x = nmAt p y) : uniL p x y = p := by
  unfold uniL
  rw [h]
  refine (List.map_congr_left (g := id) fun v _ => ?_).trans (List.map_id p)
  unfold uniV
  simp only [Int.le_refl, if_true]
  split
  · rename_i e; exact e.symm
  · rfl
section
variable {n : Nat} {p : List Int} (hp : ParP n p)
include hp
theorem uni_at {x y i : Nat} (hi : i < n) : nmAt (uniL p x y) i = if nmAt p i = max (nmAt p x) (nmAt p y) then min (nmAt p x) (nmAt p y) else nmAt p i := by
  have h1 : (uniL p x y)[i]? = some (uniV (nmAt p x) (nmAt p y) (nmAt p i)) := by
    unfold uniL
    rw [List.getElem?_map, (hp.at hi).1]
    rfl
  rw [nmAt_get h1]
  unfold uniV
  by_cases hxy : nmAt p x ≤ nmAt p y
  · have h2 : ((nmAt p x : Nat) : Int) ≤ ((nmAt p y : Nat) : Int) := by omega
    rw [if_pos h2, if_pos h2, Nat.max_eq_right hxy, Nat.min_eq_left hxy]
    by_cases e : nmAt p i = nmAt p y
    · rw [if_pos e, if_pos (by rw [e])]; omega
    · rw [if_neg e, if_neg (by omega)]; omega
  · have h2 : ¬ ((nmAt p x : Nat) : Int) ≤ ((nmAt p y : Nat) : Int) := by omega
    rw [if_neg h2, if_neg h2, Nat.max_eq_left (by omega), Nat.min_eq_right (by omega)]
    by_cases e : nmAt p i = nmAt p x
    · rw [if_pos e, if_pos (by rw [e])]; omega
    · rw [if_neg e, if_neg (by omega)]; omega
theorem par_lt {i : Nat} (hi : i < n) : nmAt p i < n := by have := (hp.at hi).2.1; omega
theorem uni_par {x y : Nat} (hx : x < n) (hy : y < n) : ParP n (uniL p x y) := by
  have hxl := par_lt hp hx
  have hyl := par_lt hp hy
  have hmin : min (nmAt p x) (nmAt p y) < n := by omega
  have hmm : nmAt p (min (nmAt p x) (nmAt p y)) = min (nmAt p x) (nmAt p y) := by
    rcases Nat.le_total (nmAt p x) (nmAt p y) with h | h
    · rw [Nat.min_eq_left h]; exact (hp.at hx).2.2
    · rw [Nat.min_eq_right h]; exact (hp.at hy).2.2
  refine ⟨by rw [uniL_len]; exact hp.1, fun i hi => ?_⟩
  have e := uni_at hp (x := x) (y := y) hi
  have h1 := hp.at hi
  refine ⟨?_, ?_, ?_⟩
  · unfold uniL
    rw [List.getD_eq_getElem?_getD, List.getElem?_map, h1.1]
    show 0 ≤ uniV _ _ _
    unfold uniV
    split
    · split <;> omega
    · omega
  · rw [e]
    split
    · omega
    · exact h1.2.1
  · rw [e]
    by_cases h2 : nmAt p i = max (nmAt p x) (nmAt p y)
    · rw [if_pos h2, uni_at hp hmin, hmm]
      split <;> rfl
    · rw [if_neg h2, uni_at hp (par_lt hp hi), h1.2.2, if_neg h2]
/-- Coarser. -/
theorem uni_keep {x y i j : Nat} (hi : i < n) (hj : j < n) (h : nmAt p i = nmAt p j) : nmAt (uniL p x y) i = nmAt (uniL p x y) j := by rw [uni_at hp hi, uni_at hp hj, h]
theorem uni_joins {x y : Nat} (hx : x < n) (hy : y < n) : nmAt (uniL p x y) x = nmAt (uniL p x y) y := by
  rw [uni_at hp hx, uni_at hp hy]
  rcases Nat.le_total (nmAt p x) (nmAt p y) with h | h
  · rw [Nat.max_eq_right h, Nat.min_eq_left h, if_pos rfl]
    split <;> omega
  · rw [Nat.max_eq_left h, Nat.min_eq_right h, if_pos rfl]
    split <;> omega
omit hp in
end
/-! ## Pairs that a congruence must hold together -/
/-! ## The reference's push -/
/-- out is what the partition p became: coarser; as p, where nothing was to be put together. -/
structure PuI (n : Nat) (p out : List Int) (all : Prop) : Prop where
  par : ParP n out
  keep : ∀ i j, i < n → j < n → nmAt p i = nmAt p j → nmAt out i = nmAt out j
  same : all → out = p
  back : out = p → all
theorem PuI.start {n : Nat} {p : List Int} (h : ParP n p) : PuI n p p True := ⟨h, fun _ _ _ _ h => h, fun _ => rfl, fun _ => trivial⟩
theorem PuI.congr {n : Nat} {p out : List Int} {a b : Prop} (h : PuI n p out a) (e : a ↔ b) : PuI n p out b := ⟨h.par, h.keep, fun hb => h.same (e.2 hb), fun hb => e.1 (h.back hb)⟩
theorem par_ext {n : Nat} {p q : List Int} (hp : ParP n p) (hq : ParP n q) (h : ∀ i, i < n → nmAt p i = nmAt q i) : p = q := by
  apply List.ext_getElem?
  intro i
  by_cases hi : i < n
  · rw [(hp.at hi).1, (hq.at hi).1, h i hi]
  · rw [List.getElem?_eq_none (by rw [hp.1]; omega), List.getElem?_eq_none (by rw [hq.1]; omega)]
theorem PuI.next {n : Nat} {p out : List Int} {all : Prop} (hp : ParP n p) (h : PuI n p out all) {x y : Nat} (hx : x < n) (hy : y < n) : PuI n p (uniL out x y) (all ∧ nmAt p x = nmAt p y) := by
  refine ⟨uni_par h.par hx hy, fun i j hi hj e => uni_keep h.par hi hj (h.keep i j hi hj e), fun ⟨ha, hxy⟩ => ?_, fun e => ?_⟩
  · have := h.same ha
    subst this
    exact uni_same hxy
  · have h1 : nmAt p x = nmAt p y := by rw [← e]; exact uni_joins h.par hx hy
    refine ⟨h.back ?_, h1⟩
    -- out is between p and uniL out = p
    refine par_ext h.par hp fun i hi => ?_
    have h2 : ∀ i j, i < n → j < n → nmAt out i = nmAt out j → nmAt p i = nmAt p j := fun i j hi hj e2 => by
      rw [← e]; exact uni_keep h.par hi hj e2
    -- both tell the block of i by its least element
    have ho := h.par.at hi
    have hq := hp.at hi
    have k1 := h.keep (nmAt p i) i (by omega) hi hq.2.2
    have k2 := h2 (nmAt out i) i (by omega) hi ho.2.2
    have k3 := (h.par.at (show nmAt p i < n by omega)).2.1
    have k4 := (hp.at (show nmAt out i < n by omega)).2.1
    omega
end Go.Proofs.YtkmgbdljiajlaaaGreat
namespace Go.Proofs.YtkmgbdljiajlaaaGreat
open Go.RowKit
set_option linter.unusedVariables false

theorem asc_ext : ∀ {l m : List Int}, l.Pairwise (· < ·) → m.Pairwise (· < ·) → (∀ x, x ∈ l ↔ x ∈ m) → l = m
  | [], [], _, _, _ => rfl
  | [], b :: m, _, _, h => by have := (h b).2 List.mem_cons_self; cases this
  | a :: l, [], _, _, h => by have := (h a).1 List.mem_cons_self; cases this
  | a :: l, b :: m, hl, hm, h => by
    rw [List.pairwise_cons] at hl hm
    have e : a = b := by
      rcases List.mem_cons.1 ((h a).1 List.mem_cons_self) with e | e
      · exact e
      · rcases List.mem_cons.1 ((h b).2 List.mem_cons_self) with e2 | e2
        · exact e2.symm
        · have h1 := hm.1 a e
          have h2 := hl.1 b e2
          omega
    subst e
    congr 1
    refine asc_ext hl.2 hm.2 fun x => ⟨fun hx => ?_, fun hx => ?_⟩
    · rcases List.mem_cons.1 ((h x).1 (List.mem_cons_of_mem _ hx)) with e | e
      · subst e; have := hl.1 x hx; omega
      · exact e
    · rcases List.mem_cons.1 ((h x).2 (List.mem_cons_of_mem _ hx)) with e | e
      · subst e; have := hm.1 x hx; omega
      · exact e
theorem markL_asc (n : Nat) (M : Nat → Bool) : (markL n M).Pairwise (· < ·) := by
  unfold markL
  rw [List.pairwise_map]
  exact ((List.pairwise_lt_range (n := n)).filter _).imp fun h => by omega
end Go.Proofs.YtkmgbdljiajlaaaGreat
namespace Go.Proofs.YtkmgbdljiajlaaaGreat
open Go.RowKit
set_option linter.unusedVariables false

end Go.Proofs.YtkmgbdljiajlaaaGreat
namespace Go.Proofs.YtkmgbdljiajlaaaGreat
open Go.RowKit

noncomputable def subB (n : Nat) (ops : List OpM) (V : List Int) : Bool := (allIn 0 ((n : Int) - 1) V && risesL V) && decide ((genL n ops V).length = V.length)
theorem in_gen {n : Nat} {ops : List OpM} {V : List Int} (h : ∀ v ∈ V, 0 ≤ v ∧ v ≤ (n : Int) - 1) : ∀ v ∈ V, v ∈ genL n ops V := fun v hv => by
  obtain ⟨y, rfl⟩ := Int.eq_ofNat_of_zero_le (h v hv).1
  have hy : y < n := by have := (h _ hv).2; omega
  refine markL_mem.2 ⟨y, hy, clB_sup n ops _ y hy ?_, rfl⟩
  refine gB_get ?_
  unfold inL
  rw [List.getElem?_map, List.getElem?_range hy]
  show some (hasI (y : Int) V) = some true
  rw [hasI_m.2 hv]
/-- As many as generated: the list itself. -/
theorem gen_eq {n : Nat} {ops : List OpM} {V : List Int} (h : ∀ v ∈ V, 0 ≤ v ∧ v ≤ (n : Int) - 1) (hr : risesL V = true) : (genL n ops V).length = V.length ↔ genL n ops V = V := by
  constructor
  · intro hl
    have hp := rises_iff.1 hr
    refine asc_ext (markL_asc _ _) hp fun x => ⟨fun hx => ?_, in_gen h x⟩
    have hnd : V.Nodup := hp.imp fun h => by omega
    by_cases hxV : x ∈ V
    · exact hxV
    · have := nodup_sub (l := x :: V) (m := genL n ops V) (List.nodup_cons.2 ⟨hxV, hnd⟩) fun y hy => by
        rcases List.mem_cons.1 hy with rfl | hy
        · exact hx
        · exact in_gen h y hy
      simp only [List.length_cons] at this
      omega
  · intro e
    rw [e]
end Go.Proofs.YtkmgbdljiajlaaaGreat
namespace Go.Proofs.YtkmgbdljiajlaaaGreat
open Go.RowKit
end Go.Proofs.YtkmgbdljiajlaaaGreat
namespace Go.Proofs.YtkmgbdljiajlaaaGreat
open Go.RowKit

def bls (L : List Bool) : List Value := L.map fun b => .bool b
theorem bls_get {L : List Bool} {y : Nat} (h : y < L.length) : (bls L)[y]? = some (.bool (gB L y)) := by unfold bls; rw [List.getElem?_map, gB_at h]; rfl
theorem bls_set (L : List Bool) (y : Nat) (b : Bool) : (bls L).set y (.bool b) = bls (L.set y b) := by simp [bls, List.map_set]
theorem bls_rep (n : Nat) : bls (List.replicate n false) = List.replicate n (.bool false) := by simp [bls]
theorem info_bl : (Tryz.prog.info? 4).map (fun i => (i.zero, i.size, i.bytes)) = some (some (.bool false), 1, 1) := by kernel_rfl
theorem make_bl (w : World) {ops : Array Oper} {rest : List Oper} {o : Oper} {a : Act} {Q : Exit → Act → World → Prop} (hg : o.guard = none) (l c : Operand) (hop : o.op = Op.makeSlice 47 l c)
    (n : Nat) (hl : a.eval l = .int .i64 n) (hc : a.eval c = .int .i64 n) (b : n ≤ 17592186044416)
    (hK : ∀ w', w'.ownsRow w.heap.size 4 1 (.slice (some ⟨w.heap.size, 0, none⟩) n n) n (bls (List.replicate n false)) → w.grownBy w' none → wpList Tryz.prog ops Q rest (a.put o.dst (.slice (some ⟨w.heap.size, 0, none⟩) n n)) w') :
    wpList Tryz.prog ops Q (o :: rest) a w := by
  obtain ⟨i0, hi, hz0, hz1, hz2⟩ := info_parts info_bl
  refine wpList_make_full w hg l c 47 hop w.heap.size 4 i0 (.bool false) 1 Tryz.underlying47 hi hz0 hz1 .i64 .i64 n n n hl hc rfl rfl (by rw [hz2]; omega) (by unfold maxLen; omega) (Nat.le_refl _) ?_
  intro w' h1 h2
  refine hK w' ?_ h2
  have e : (madeCells (Value.bool false).cells (n * 1)).toList = List.replicate n (.bool false) := by rw [Nat.mul_one]; exact toList_madeCells_one (.bool false) n
  rw [bls_rep, ← e]
  exact h1
end Go.Proofs.YtkmgbdljiajlaaaGreat
namespace Go.Proofs.YtkmgbdljiajlaaaGreat
open Go.RowKit
set_option linter.unusedVariables false

/-- The marked numbers as a list of the call's own. -/
def OwI (w : World) (L : List Int) (e : Ending) (w' : World) : Prop := ∃ A c, e = .returned (.slice A L.length c) ∧ w'.ownsRow w.heap.size 3 1 (.slice A L.length c) L.length (ints L) ∧ Below w.heap.size w w'
theorem OwI.rd {w w' : World} {L : List Int} {e : Ending} (h : OwI w L e w') (hb : ∀ v ∈ L, -9223372036854775808 ≤ v ∧ v ≤ 9223372036854775807) : ∃ A c, e = .returned (.slice A L.length c) ∧ RdL RI w' A L.length L ∧ Below w.heap.size w w' := by
  obtain ⟨A, c, h1, h2, h3⟩ := h
  exact ⟨A, c, h1, rd_of_own (R := RI) h2 (RI_ints hb), h3⟩
theorem markL_bd (n : Nat) (M : Nat → Bool) (hn : n ≤ 1048576) : ∀ v ∈ markL n M, -9223372036854775808 ≤ v ∧ v ≤ 9223372036854775807 := fun v hv => by
  have := markL_in v hv
  omega
set_option maxHeartbeats 1000000 in
theorem marked_any (A : Option Addr) (n c : Nat) (L : List Bool) (w : World) (h : RdL RB w A n L) (hn : n ≤ 1000) :
    Calls Tryz.prog 75 #[.slice A n c] w (OwI w (markL n (gB L))) := by
  have hT := below_box w (.cells #[] 3)
  have hlen := Lib.hid h.len
  go_enter Tryz.func75, Tryz.ntmps75
  go_wp2_with fail
  go_loopw [3, 4, 5, 9] (fun s _ _ i wr => ∃ (k m : Nat) (A1 : Option Addr) (c1 : Nat), k ≤ n ∧ i = .int .i64 k ∧ s = .slice A1 m c1 ∧ m = (markL k (gB L)).length ∧ wr.ownsRow w.heap.size 3 1 (.slice A1 m c1) m (ints (markL k (gB L))) ∧ Below w.heap.size w wr) (fun _ _ _ i _ => n - (intOf i).toNat)
  case atStart => exact ⟨0, 0, some ⟨w.heap.size, 0, none⟩, 0, Nat.zero_le _, rfl, rfl, rfl, World.ownsRow_lit w #[] 0 (Nat.le_refl _) (Nat.zero_le _) rfl, hT⟩
  case round =>
    obtain ⟨k, m, A1, c1, hk, rfl, rfl, hm, hown, hTr⟩ := hrel
    have hmk : m ≤ k := by rw [hm]; exact markL_le k (gB L)
    by_cases hlt : k < n
    · have hk0 : (0 : Int) ≤ (k : Int) := by omega
      have hk1 : (k : Int) < (n : Int) := by omega
      obtain ⟨b, o, u, v, rfl, hc, rfl, -, hx⟩ := (h.next stab_RB hTr).at hlt
      have HG := Lib.hid (gB_get hx)
      have HS := Lib.hid (markL_succ k (gB L))
      rw [HG.out] at HS
      have HMM := Lib.hid hm
      clear hx hm
      rcases v with _ | _
      · go_wp2_with fail
        go_roundw
        case rel => exact ⟨k + 1, m, A1, c1, by omega, by go_num, rfl, by rw [HS.out]; simpa using HMM.out, by rw [HS.out]; simpa using hown, hTr⟩
        case measure => simp [intOf]; omega
      · have hsz := hTr.size
        go_wp2_with (at_builtin; refine app1 wr rfl _ _ 27 3 rfl (.int .i64 0) 8 Tryz.underlying27 info_int rfl (by decide) w.heap.size m c1 A1 (ints (markL k (gB L))) rfl hown (.int .i64 (k : Int)) rfl rfl (by omega) (by omega) ?_; intro A2 c2 w2 hown2 hg2 hb2)
        go_roundw
        case rel => exact ⟨k + 1, m + 1, A2, c2, by omega, by go_num, rfl, by rw [HS.out]; simpa using HMM.out, by rw [HS.out]; simpa [ints] using hown2, hTr.trans hb2⟩
        case measure => simp [intOf]; omega
    · have hk1 : ¬ (k : Int) < (n : Int) := by omega
      obtain rfl : k = n := by omega
      have HMM := Lib.hid hm
      clear hm
      go_wp2_with fail
      go_ret
      exact ⟨A1, c1, by rw [HMM.out]; rfl, by rw [← HMM.out]; exact hown, hTr⟩
theorem inL_get {n y : Nat} {S : List Int} (h : y < n) : gB (inL n S) y = hasI (y : Int) S := by
  refine gB_get ?_
  unfold inL
  rw [List.getElem?_map, List.getElem?_range h]
  rfl
theorem inL_set {n k x : Nat} {S : List Int} (hx : S[k]? = some (x : Int)) (hxn : x < n) : (inL n (S.take k)).set x true = inL n (S.take (k + 1)) := by
  refine gB_ext (n := n) (by rw [List.length_set, inL_len]) (inL_len _ _) fun y hy => ?_
  rw [gB_set (by rw [inL_len]; exact hxn), inL_get hy, inL_get hy, List.take_add_one, hx]
  rw [Bool.eq_iff_iff]
  by_cases e : y = x
  · subst e; simp [hasI_m]
  · rw [if_neg e, hasI_m, hasI_m, List.mem_append]
    constructor
    · exact .inl
    · rintro (h | h)
      · exact h
      · simp at h; omega
end Go.Proofs.YtkmgbdljiajlaaaGreat
namespace Go.Proofs.YtkmgbdljiajlaaaGreat
open Go.RowKit
set_option linter.unusedVariables false

theorem op_nat {n : Nat} {o : OpM} (h : OpP n o) : ∃ (a : Nat) (tb : List Int), o = ((a : Int), tb) ∧ a ≤ 3 := by
  obtain ⟨k, tb⟩ := o
  obtain ⟨a, ha⟩ := Int.eq_ofNat_of_zero_le h.1
  have h2 := h.2.1
  simp only at ha h2
  exact ⟨a, tb, by rw [ha], by omega⟩
end Go.Proofs.YtkmgbdljiajlaaaGreat
namespace Go.Proofs.YtkmgbdljiajlaaaGreat
open Go.RowKit
set_option linter.unusedVariables false

end Go.Proofs.YtkmgbdljiajlaaaGreat
namespace Go.Proofs.YtkmgbdljiajlaaaGreat
open Go.RowKit
set_option linter.unusedVariables false

end Go.Proofs.YtkmgbdljiajlaaaGreat
namespace Go.Proofs.YtkmgbdljiajlaaaGreat
open Go.RowKit
set_option linter.unusedVariables false

end Go.Proofs.YtkmgbdljiajlaaaGreat
namespace Go.Proofs.YtkmgbdljiajlaaaGreat
open Go.RowKit
set_option linter.unusedVariables false

end Go.Proofs.YtkmgbdljiajlaaaGreat
namespace Go.Proofs.YtkmgbdljiajlaaaGreat
open Go.RowKit
set_option linter.unusedVariables false

theorem AlgP.ops {x : AlgebraM} (h : AlgP x) : ∀ o ∈ x.2, OpP x.1.toNat o := h.2.2.2
end Go.Proofs.YtkmgbdljiajlaaaGreat
namespace Go.Proofs.YtkmgbdljiajlaaaGreat
open Go.RowKit
set_option linter.unusedVariables false

end Go.Proofs.YtkmgbdljiajlaaaGreat
namespace Go.Proofs.YtkmgbdljiajlaaaGreat
open Go.RowKit
set_option linter.unusedVariables false

theorem gk_set {w w' : World} {g : Nat} (h : w.grownBy w' (some g)) {p : Addr} (hp : p.block = g) (v : Value) : w.grownBy (w'.setCell p v) (some g) :=
  ⟨h.os, h.tape, h.output, by simpa using h.size, fun k hk hne => (Below.heap_setCell w' p v k (by intro he; rw [he, hp] at hne; exact hne rfl)).trans (h.block k hk hne)⟩
theorem gk_refl (w : World) (r : Option Nat) : w.grownBy w r := ⟨rfl, rfl, rfl, Nat.le_refl _, fun _ _ _ => rfl⟩
theorem gk_trans {w w1 w2 : World} {r : Option Nat} (h : w.grownBy w1 r) (k : w1.grownBy w2 r) : w.grownBy w2 r :=
  ⟨k.os.trans h.os, k.tape.trans h.tape, k.output.trans h.output, Nat.le_trans h.size k.size, fun b hb hne => (k.block b (Nat.lt_of_lt_of_le hb h.size) hne).trans (h.block b hb hne)⟩
theorem gk_of {w w' : World} {r : Option Nat} (h : Below w.heap.size w w') : w.grownBy w' r := ⟨h.os, h.tape, h.output, h.size, fun b hb _ => h.block b hb⟩
set_option maxHeartbeats 2000000 in
theorem marks_any (A : Option Addr) (m c n : Nat) (S : List Int) (w : World) (h : RdL RI w A m S) (hS : ∀ v ∈ S, 0 ≤ v ∧ v ≤ (n : Int) - 1) (hn : n ≤ 1000) :
    Calls Tryz.prog 77 #[.slice A m c, .int .i64 n] w fun e w' => e = .returned (.slice (some ⟨w.heap.size, 0, none⟩) n n) ∧ w'.ownsRow w.heap.size 4 1 (.slice (some ⟨w.heap.size, 0, none⟩) n n) n (bls (inL n S)) ∧ Below w.heap.size w w' := by
  have HS := Lib.hid hS
  have HL := Lib.hid h.len
  have hle := h.le
  clear hS
  go_enter Tryz.func77, Tryz.ntmps77
  go_wp2_with (at_make; refine make_bl w rfl _ _ rfl n rfl rfl (by omega) ?_; intro w1 hown1 hg1)
  have hb1 := (Below.refl w.heap.size w).grown hg1 (Nat.le_refl _) (by simp)
  clear hg1
  go_loopw [12] (fun i wr => ∃ k : Nat, k ≤ m ∧ i = .int .i64 k ∧ wr.ownsRow w.heap.size 4 1 (.slice (some ⟨w.heap.size, 0, none⟩) n n) n (bls (inL n (S.take k))) ∧ Below w.heap.size w wr) (fun i _ => m - (intOf i).toNat)
  case atStart =>
    refine ⟨0, Nat.zero_le _, rfl, ?_, hb1⟩
    have e : inL n (S.take 0) = List.replicate n false := by
      unfold inL
      rw [List.take_zero]
      exact List.eq_replicate_iff.2 ⟨by simp, fun b hb => by obtain ⟨y, -, rfl⟩ := List.mem_map.1 hb; rfl⟩
    rw [e]
    exact hown1
  case round =>
    clear hown1 hb1
    obtain ⟨k, hk, rfl, hown, hTr⟩ := hrel
    by_cases hlt : k < m
    · have hk0 : (0 : Int) ≤ (k : Int) := by omega
      have hk1 : (k : Int) < (m : Int) := by omega
      obtain ⟨b, o, u, v, rfl, hc, ⟨rfl, hv0, hv1⟩, -, hx⟩ := h.at hlt
      have hvi := HS.out v (List.mem_of_getElem? hx)
      obtain ⟨x, rfl⟩ := Int.eq_ofNat_of_zero_le hvi.1
      have hxn : x < n := by omega
      have HSET := Lib.hid (inL_set hx hxn)
      replace hc := keepc hTr hc
      have hcell : wr.cell? ⟨w.heap.size, x, none⟩ = some (.bool (gB (inL n (S.take k)) x)) := by rw [hown.cellAt x (by omega), bls_get (by rw [inL_len]; exact hxn)]
      have hfz := hown.frozenAt x
      have hst := (hown.stored x (.bool true)).1
      rw [bls_set, HSET.out] at hst
      have hx0 : (0 : Int) ≤ (x : Int) := by omega
      have hx1 : (x : Int) < (n : Int) := by omega
      clear hx hown
      go_wp2_with fail
      go_roundw
      case rel => exact ⟨k + 1, by omega, by go_num, hst, hTr.setCell (Nat.le_refl _) _⟩
      case measure => simp [intOf]; try omega
    · have hk1 : ¬ (k : Int) < (m : Int) := by omega
      rw [List.take_of_length_le (by rw [HL.out]; omega)] at hown
      go_wp2_with fail
      go_ret
      exact ⟨rfl, hown, hTr⟩
set_option maxHeartbeats 2000000 in
theorem allIn_any (A : Option Addr) (n c ar i : Nat) (L : List Bool) (w : World) (h : RdL RB w A n L) (hn0 : 0 < n) (hn : n ≤ 1000) (ha : ar ≤ 1000) (hi : i ≤ 1048576) :
    Calls Tryz.prog 118 #[.int .i64 i, .int .i64 ar, .int .i64 n, .slice A n c] w fun e w' => e = .returned (.bool (AllM n ar i L)) ∧ w = w' := by
  have hle := h.le
  go_enter Tryz.func118, Tryz.ntmps118
  go_wp2
  go_loop [0, 1] (fun ci ck => ∃ k cur : Nat, k ≤ ar ∧ ck = .int .i64 k ∧ ci = .int .i64 cur ∧ cur ≤ 1048576 ∧ Hid (AllM n k cur L = AllM n ar i L)) (fun _ ck => (intOf ck).toNat)
  case atStart => exact ⟨ar, i, Nat.le_refl _, rfl, rfl, hi, rfl⟩
  case round =>
    obtain ⟨k, cur, hk, rfl, rfl, hc, HA⟩ := hrel
    rcases k with _ | k
    · have h0 : ¬ (0 : Int) < ((0 : Nat) : Int) := by omega
      have HR : Hid (AllM n ar i L = true) := by show _ = _; rw [← HA.out]; rfl
      go_wp2
      go_ret
      exact ⟨ret_bool HR.out.symm, rfl⟩
    · have h0 : (0 : Int) < ((k + 1 : Nat) : Int) := by omega
      have hr : cur % n < n := Nat.mod_lt _ hn0
      obtain ⟨b, o, u, v, rfl, hcc, rfl, -, hx⟩ := h.at hr
      have HE : Hid (AllM n (k + 1) cur L = (AllM n k (cur / n) L && v)) := by
        show _ = _
        unfold AllM
        rw [digs, List.all_append, ← gB_get hx]
        simp
      have hnz : ¬ (n : Int) = 0 := by omega
      have hcd : cur / n ≤ 1048576 := Nat.le_trans (Nat.div_le_self _ _) hc
      have HQ : Hid (wrap64 ((cur : Int) / (n : Int)) = ((cur / n : Nat) : Int)) := by
        show _ = _
        have e : (cur : Int) / (n : Int) = ((cur / n : Nat) : Int) := by simp
        rw [e]
        exact w64 hcd
      have hr0 : (0 : Int) ≤ ((cur % n : Nat) : Int) := by omega
      have hr1 : ((cur % n : Nat) : Int) < (n : Int) := by omega
      clear hx
      rcases v with _ | _
      · go_wp2
        go_ret
        exact ⟨ret_bool (by rw [← HA.out, HE.out, Bool.and_false]), rfl⟩
      · go_wp2
        go_round
        case rel => exact ⟨k, cur / n, by omega, by go_num, by rw [HQ.out], hcd, by show _ = _; rw [← HA.out, HE.out, Bool.and_true]⟩
        case measure => simp [intOf]; try omega
end Go.Proofs.YtkmgbdljiajlaaaGreat
namespace Go.Proofs.YtkmgbdljiajlaaaGreat
open Go.RowKit
set_option linter.unusedVariables false

/-- What is not marked in the world. -/
noncomputable def offW (w : World) (g n : Nat) : Nat := (List.range n).countP fun y => !(tt (w.cell? ⟨g, y, none⟩ = some (.bool true)))
def flagV : Value → Nat | .bool true => 1 | _ => 0
theorem offW_row {w : World} {base g n c : Nat} {L : List Bool} (h : w.ownsRow base 4 1 (.slice (some ⟨g, 0, none⟩) n c) n (bls L)) (hl : L.length = n) : offW w g n = offs L := by
  have e : L = (List.range n).map (gB L) := gB_ext (n := n) hl (by simp) fun y hy => by
    refine (gB_get ?_).symm
    rw [List.getElem?_map, List.getElem?_range hy]
    rfl
  unfold offW offs
  rw [e, List.countP_map]
  refine List.countP_congr fun y hy => ?_
  have hyn := List.mem_range.1 hy
  have hc : w.cell? ⟨g, y, none⟩ = some (.bool (gB L y)) := by rw [h.cellAt y (by omega), bls_get (by omega)]
  rw [hc]
  simp only [Function.comp_apply]
  rcases gB L y with _ | _ <;> simp [tt]
/-- What a round has done so far: k operations, q entries of the next one. -/
def ChM (n : Nat) (ops : List OpM) (L M : List Bool) (ch : Bool) (k : Nat) : Prop := (ch = true → offs M < offs L) ∧ (ch = false → M = L ∧ ∀ j, j < k → ∀ o, ops[j]? = some o → ∀ i, i < o.2.length → OkE n M o i)
def ChN (n : Nat) (ops : List OpM) (L M : List Bool) (ch : Bool) (k q : Nat) (op : OpM) : Prop := (ch = true → offs M < offs L) ∧ (ch = false → M = L ∧ (∀ j, j < k → ∀ o, ops[j]? = some o → ∀ i, i < o.2.length → OkE n M o i) ∧ ∀ i, i < q → OkE n M op i)
set_option maxRecDepth 20000 in
set_option maxHeartbeats 8000000 in
theorem closeUnder_any (cs : List Value) (x : AlgebraM) (g n c base : Nat) (L0 : List Bool) (wa w : World) (h : shAlgebra.rd wa cs x) (hx : AlgP x) (hn : x.1 = (n : Int)) (hT : Below wa.heap.size wa w) (hba : wa.heap.size ≤ base) (hown : w.ownsRow base 4 1 (.slice (some ⟨g, 0, none⟩) n c) n (bls L0)) (hl0 : L0.length = n) :
    Calls Tryz.prog 76 #[.agg cs.toArray, .slice (some ⟨g, 0, none⟩) n c] w fun e w' => ∃ L, e = .returned (.slice (some ⟨g, 0, none⟩) n c) ∧ w'.ownsRow base 4 1 (.slice (some ⟨g, 0, none⟩) n c) n (bls L) ∧ L.length = n ∧ (∀ y, y < n → gB L y = clB n x.2 (gB L0) y) ∧ w.grownBy w' (some g) := by
  obtain ⟨a, ops⟩ := x
  obtain ⟨hx1, hx2, hx3, hx4⟩ := hx
  simp only at hx1 hx2 hx3 hx4 hn
  subst hn
  rw [Int.toNat_natCast] at hx4
  have hn0 : 0 < n := by omega
  have hn8 : n ≤ 8 := by omega
  obtain ⟨B, m, d, rfl, -, qo⟩ := rdAlgebra h
  have HML := Lib.hid qo.len
  have HOPS := Lib.hid hx4
  have hm4 : m ≤ 4 := by rw [← qo.len]; exact hx3
  have hgl := hown.lt g rfl
  obtain ⟨w0, hw0, T0, hsz0, BP⟩ := boxes1 w #[.int .i64 (n : Int), .slice B m d] 26
  have HW0 := Lib.hid hw0
  have hown0 := own_next hown T0
  have HB := Lib.hid hba
  have hgw : (some w.heap.size) ≠ some g := fun e => by injection e with e; omega
  have HT0 : Hid (w.grownBy w0 (some g)) := gk_of T0
  have HTA : Hid (∀ wz, w0.grownBy wz (some g) → Below wa.heap.size wa wz) := fun wz hz => (below_next hT T0 rfl).grown hz (Nat.le_trans hT.size T0.size) fun k hk => by injection hk with hk; subst hk; exact Nat.le_trans hba hgl.1
  have HBP : Hid (∀ wz, w0.grownBy wz (some g) → wz.cell? ⟨w.heap.size, 0, none⟩ = some (.int .i64 (n : Int)) ∧ wz.cell? ⟨w.heap.size, 1, none⟩ = some (.slice B m d)) := fun wz hz => by
    have := BP.grown hz hgw
    have h0 := this.cell 0
    have h1 := this.cell 1
    simp at h0 h1
    exact ⟨h0, h1⟩
  clear hw0 hsz0 hown hx3 hx4 h hT hba
  go_enter Tryz.func76, Tryz.ntmps76
  go_upto_region 1 with fail
  rw [← HW0.out]
  go_wp2_with fail
  go_loopw [5] (fun s wr => ∃ (L : List Bool) (ch : Bool), s = .bool ch ∧ Hid (ClI n ops L0 L) ∧ wr.ownsRow base 4 1 (.slice (some ⟨g, 0, none⟩) n c) n (bls L) ∧ w0.grownBy wr (some g) ∧ Hid (ch = false → ∀ o ∈ ops, ∀ i, i < o.2.length → OkE n L o i)) (fun s wr => 2 * offW wr g n + flagV s)
  case atStart => exact ⟨L0, true, rfl, ClI.start hl0, hown0, gk_refl _ _, fun h => by cases h⟩
  case round =>
    clear hown0
    obtain ⟨L, ch, rfl, HI, hown, hG, HCH⟩ := hrel
    have HMS : Hid (offW wr g n = offs L) := offW_row hown HI.out.len
    rcases ch with _ | _
    · have HD : Hid (∀ y, y < n → gB L y = clB n ops (gB L0) y) := fun y hy => HI.out.done (HCH.out rfl) hy
      go_wp2_with fail
      go_ret
      exact ⟨rfl, L, hown, HI.out.len, HD.out, gk_trans HT0.out hG⟩
    · have kP1 := (HBP.out _ hG).2
      obtain ⟨ws, HWS⟩ : ∃ ws : World, ws = wr := ⟨_, rfl⟩
      subst HWS
      have HS0 : Hid (ChM n ops L L false 0) := id (And.intro (fun h => by cases h) fun _ => And.intro rfl fun j hj => absurd hj (by omega))
      go_wp2_with fail
      clear kP1
      go_loopw [5, 14] (fun s i wr => ∃ (k : Nat) (M : List Bool) (ch : Bool), k ≤ m ∧ i = .int .i64 k ∧ s = .bool ch ∧ Hid (ClI n ops L0 M) ∧ wr.ownsRow base 4 1 (.slice (some ⟨g, 0, none⟩) n c) n (bls M) ∧ w0.grownBy wr (some g) ∧ Hid (ChM n ops L M ch k)) (fun _ i _ => m - (intOf i).toNat)
      case atStart => exact ⟨0, L, false, Nat.zero_le _, rfl, rfl, HI, hown, hG, HS0⟩
      case round =>
        clear hown hG HI
        obtain ⟨k, M, ch, hk, rfl, rfl, HI, hown, hG, HM⟩ := hrel
        by_cases hlt : k < m
        · have hk0 : (0 : Int) ≤ (k : Int) := by omega
          have hk1 : (k : Int) < (m : Int) := by omega
          obtain ⟨b, o, vs, op, rfl, -, hc, hr, -, hxo⟩ := qo.at hlt
          obtain ⟨B', m', d', rfl, -, qt⟩ := rdOp hr
          have hoP := HOPS.out op (List.mem_of_getElem? hxo)
          obtain ⟨ar, tb, rfl, har⟩ := op_nat hoP
          have HXO := Lib.hid hxo
          have HTL : Hid (m' = n ^ ar) := by show _ = _; rw [← qt.len]; have := hoP.2.2.1; simpa using this
          have HTB : Hid (tb.length = m') := qt.len
          have HTV := Lib.hid hoP.2.2.2
          have cc0 := keepc (HTA.out _ hG) (hc 0 _ rfl)
          have cc1 := keepc (HTA.out _ hG) (hc 1 _ rfl)
          have hm512 : m' ≤ 4096 := by rw [HTL.out]; exact pow_bd hn8 (by omega)
          obtain ⟨w1, hw1, T1, hsz1, BX⟩ := boxes1 wr #[.int .i64 (ar : Int), .slice B' m' d'] 80
          have HW1 := Lib.hid hw1
          have hg1 := (hown.lt g rfl)
          have hG1 : w0.grownBy w1 (some g) := gk_trans hG (gk_of T1)
          have hown1 := own_next hown T1
          have hgx : (some wr.heap.size) ≠ some g := fun e => by injection e with e; omega
          have HBX : Hid (∀ wz, w1.grownBy wz (some g) → wz.cell? ⟨wr.heap.size, 0, none⟩ = some (.int .i64 (ar : Int)) ∧ wz.cell? ⟨wr.heap.size, 1, none⟩ = some (.slice B' m' d')) := fun wz hz => by
            have := BX.grown hz hgx
            have h0 := this.cell 0
            have h1 := this.cell 1
            simp at h0 h1
            exact ⟨h0, h1⟩
          have kX1 := (HBX.out _ (gk_refl _ _)).2
          clear hc hr hw1 hsz1 hxo hown hoP
          have cc0' : wr.cell? ⟨b, o + k * 2, none⟩ = some (.int .i64 (ar : Int)) := cc0
          have cc1' : wr.cell? ⟨b, o + k * 2 + 1, none⟩ = some (.slice B' m' d') := cc1
          clear cc0 cc1
          go_wp2_with fail
          rw [← HW1.out]
          go_wp2_with fail
          clear kX1 cc0' cc1'
          have HS1 : Hid (ChN n ops L M ch k 0 ((ar : Int), tb)) := id (And.intro HM.out.1 fun h => And.intro (HM.out.2 h).1 (And.intro (HM.out.2 h).2 fun i hi => absurd hi (by omega)))
          go_loopw [5, 21] (fun s i wi => ∃ (q : Nat) (M2 : List Bool) (ch2 : Bool), q ≤ m' ∧ i = .int .i64 q ∧ s = .bool ch2 ∧ Hid (ClI n ops L0 M2) ∧ wi.ownsRow base 4 1 (.slice (some ⟨g, 0, none⟩) n c) n (bls M2) ∧ w1.grownBy wi (some g) ∧ Hid (ChN n ops L M2 ch2 k q ((ar : Int), tb))) (fun _ i _ => m' - (intOf i).toNat)
          case atStart => exact ⟨0, M, ch, Nat.zero_le _, rfl, rfl, HI, hown1, gk_refl _ _, HS1⟩
          case round =>
            clear hown1 HI HM
            obtain ⟨q, M2, ch2, hq, rfl, rfl, HI, hown, hG2, HM⟩ := hrel
            have hG3 : w0.grownBy wr (some g) := gk_trans hG1 hG2
            by_cases hlq : q < m'
            · have hq0 : (0 : Int) ≤ (q : Int) := by omega
              have hq1 : (q : Int) < (m' : Int) := by omega
              obtain ⟨b3, o3, u3, v, rfl, hc3, ⟨rfl, -, -⟩, -, hxv⟩ := (qt.next stab_RI (HTA.out _ hG3)).at hlq
              have hvi := HTV.out v (List.mem_of_getElem? hxv)
              obtain ⟨y, rfl⟩ := Int.eq_ofNat_of_zero_le hvi.1
              have hyn : y < n := by omega
              have HXV := Lib.hid hxv
              have HNM : Hid (nmAt tb q = y) := by show _ = _; rw [nmAt_get hxv]; simp
              have hll := HI.out.len
              have hcell : wr.cell? ⟨g, y, none⟩ = some (.bool (gB M2 y)) := by rw [hown.cellAt y (by omega), bls_get (by omega)]
              have hy0 : (0 : Int) ≤ (y : Int) := by omega
              have hy1 : (y : Int) < (n : Int) := by omega
              have kP0 := (HBP.out _ hG3).1
              have kX0 := (HBX.out _ hG2).1
              obtain ⟨bv, HBV⟩ : ∃ b, Hid (gB M2 y = b) := ⟨_, rfl⟩
              rw [HBV.out] at hcell
              clear hxv hvi
              rcases bv with _ | _
              · have HC := Lib.hid (allIn_any (some ⟨g, 0, none⟩) n c ar q M2 wr (rd_of_own (R := RB) hown (fun z _ => rfl)) hn0 (by omega) (by omega) (by omega))
                obtain ⟨al, HAL⟩ : ∃ b, Hid (AllM n ar q M2 = b) := ⟨_, rfl⟩
                rw [HAL.out] at HC
                have hfz := hown.frozenAt y
                have hst := (hown.stored y (.bool true)).1
                rw [bls_set] at hst
                have HST := Lib.hid hst
                have HOW := Lib.hid hown
                clear hst hown
                go_wp2_with fail
                refine HC.out.mono ?_
                rintro e w3 ⟨rfl, rfl⟩
                rcases al with _ | _
                · have HM2 : Hid (ChN n ops L M2 ch2 k (q + 1) ((ar : Int), tb)) := id ⟨HM.out.1, fun h => ⟨(HM.out.2 h).1, (HM.out.2 h).2.1, fun i hi => by
                    by_cases e : i = q
                    · subst e
                      intro hA
                      have := HAL.out
                      simp only [Int.toNat_natCast] at hA
                      rw [hA] at this
                      cases this
                    · exact (HM.out.2 h).2.2 i (by omega)⟩⟩
                  go_wp2_with fail
                  go_roundw
                  case rel => exact ⟨q + 1, M2, ch2, by omega, by go_num, rfl, HI, HOW.out, hG2, HM2⟩
                  case measure => simp [intOf]; try omega
                · have HI2 : Hid (ClI n ops L0 (M2.set y true)) := HI.out.mark hn0 (List.mem_of_getElem? HXO.out) HXV.out hyn (by simpa using HAL.out)
                  have HM2 : Hid (ChN n ops L (M2.set y true) true k (q + 1) ((ar : Int), tb)) := id ⟨fun _ => by
                    have h1 := offs_set (L := M2) (x := y) (by rw [gB_at (by omega), HBV.out])
                    rcases ch2 with _ | _
                    · rw [(HM.out.2 rfl).1] at h1 ⊢; omega
                    · have := HM.out.1 rfl; omega, fun h => by cases h⟩
                  go_wp2_with fail
                  go_roundw
                  case rel => exact ⟨q + 1, M2.set y true, true, by omega, by go_num, rfl, HI2, HST.out, gk_set hG2 rfl _, HM2⟩
                  case measure => simp [intOf]; try omega
              · have HM2 : Hid (ChN n ops L M2 ch2 k (q + 1) ((ar : Int), tb)) := id ⟨HM.out.1, fun h => ⟨(HM.out.2 h).1, (HM.out.2 h).2.1, fun i hi => by
                  by_cases e : i = q
                  · subst e
                    intro _
                    show gB M2 (nmAt tb i) = true
                    rw [HNM.out, HBV.out]
                  · exact (HM.out.2 h).2.2 i (by omega)⟩⟩
                go_wp2_with fail
                go_roundw
                case rel => exact ⟨q + 1, M2, ch2, by omega, by go_num, rfl, HI, hown, hG2, HM2⟩
                case measure => simp [intOf]; try omega
            · have hq1 : ¬ (q : Int) < (m' : Int) := by omega
              have HM2 : Hid (ChM n ops L M2 ch2 (k + 1)) := id ⟨HM.out.1, fun h => ⟨(HM.out.2 h).1, fun j hj o ho i hi => by
                by_cases e : j = k
                · subst e
                  rw [HXO.out] at ho
                  injection ho with ho
                  subst ho
                  exact (HM.out.2 h).2.2 i (by have := HTB.out; simp only at hi; omega)
                · exact (HM.out.2 h).2.1 j (by omega) o ho i hi⟩⟩
              go_wp2_with fail
              go_roundw
              case rel => exact ⟨k + 1, M2, ch2, by omega, by go_num, rfl, HI, hown, hG3, HM2⟩
              case measure => simp [intOf]; try omega
        · have hk1 : ¬ (k : Int) < (m : Int) := by omega
          have HI2 := HI
          have HFIN : Hid (ch = false → ∀ o ∈ ops, ∀ i, i < o.2.length → OkE n M o i) := fun h o ho i hi => by
            obtain ⟨j, hj⟩ := List.getElem?_of_mem ho
            have hjl := (List.getElem?_eq_some_iff.1 hj).1
            exact (HM.out.2 h).2 j (by rw [HML.out] at hjl; omega) o hj i hi
          have HMS2 : Hid (offW wr g n = offs M) := offW_row hown HI.out.len
          go_wp2_with fail
          go_roundw
          case rel => exact ⟨M, ch, rfl, HI2, hown, hG, HFIN⟩
          case measure =>
            show 2 * offW wr g n + flagV (.bool ch) < 2 * offW _ g n + flagV (.bool true)
            rw [HMS2.out, HMS.out]
            rcases ch with _ | _
            · have := (HM.out.2 rfl).1
              subst this
              show 2 * offs M + 0 < 2 * offs M + 1
              omega
            · have := HM.out.1 rfl
              show 2 * offs M + 1 < 2 * offs L + 1
              omega
end Go.Proofs.YtkmgbdljiajlaaaGreat
namespace Go.Proofs.YtkmgbdljiajlaaaGreat
open Go.RowKit
set_option linter.unusedVariables false

theorem genL_bd {n : Nat} {ops : List OpM} {S : List Int} (hn : n ≤ 1048576) : ∀ v ∈ genL n ops S, -9223372036854775808 ≤ v ∧ v ≤ 9223372036854775807 := markL_bd n _ hn
set_option maxRecDepth 20000 in
set_option maxHeartbeats 4000000 in
theorem generate_any (cs : List Value) (x : AlgebraM) (A : Option Addr) (m c : Nat) (S : List Int) (w : World) (h : shAlgebra.rd w cs x) (hx : AlgP x) (hr : RdL RI w A m S) (hS : ∀ v ∈ S, 0 ≤ v ∧ v ≤ x.1 - 1) :
    Calls Tryz.prog 33 #[.agg cs.toArray, .slice A m c] w (OwI w (genL x.1.toNat x.2 S)) := by
  have hrd := h
  obtain ⟨B, k, d, rfl, -, qo⟩ := rdAlgebra h
  obtain ⟨n, hN⟩ : ∃ n : Nat, x.1 = (n : Int) := ⟨x.1.toNat, by have := hx.1; omega⟩
  have HNN := Lib.hid hN
  have hn8 : n ≤ 8 := by have := hx.2.1; omega
  have hn0 : 0 < n := by have := hx.1; omega
  have HNT : Hid (x.1.toNat = n) := by show _ = _; omega
  obtain ⟨w0, hw0, T0, hsz0, BP⟩ := boxes1 w #[.int .i64 x.1, .slice B k d] 26
  have HW0 := Lib.hid hw0
  rw [hN] at HW0 BP hS
  have cP0 := BP.cell 0
  have cP1 := BP.cell 1
  simp at cP0 cP1
  have HX := Lib.hid hx
  have HRD := Lib.hid (shAlgebra.stab hrd T0.block)
  have HS := Lib.hid hS
  have r0 := hr.next stab_RI T0
  have HM : Hid (∀ wz, Below w0.heap.size w0 wz → Calls Tryz.prog 77 #[.slice A m c, .int .i64 (n : Int)] wz fun e w' => e = .returned (.slice (some ⟨wz.heap.size, 0, none⟩) n n) ∧ w'.ownsRow wz.heap.size 4 1 (.slice (some ⟨wz.heap.size, 0, none⟩) n n) n (bls (inL n S)) ∧ Below wz.heap.size wz w') := fun wz hz => marks_any A m c n S wz (r0.next stab_RI hz) HS.out (by omega)
  have HC : Hid (∀ (g base : Nat) (wz : World), Below w0.heap.size w0 wz → w0.heap.size ≤ base → wz.ownsRow base 4 1 (.slice (some ⟨g, 0, none⟩) n n) n (bls (inL n S)) → Calls Tryz.prog 76 #[.agg #[.int .i64 (n : Int), .slice B k d], .slice (some ⟨g, 0, none⟩) n n] wz fun e w' => ∃ L, e = .returned (.slice (some ⟨g, 0, none⟩) n n) ∧ w'.ownsRow base 4 1 (.slice (some ⟨g, 0, none⟩) n n) n (bls L) ∧ L.length = n ∧ (∀ y, y < n → gB L y = clB n x.2 (gB (inL n S)) y) ∧ wz.grownBy w' (some g)) := fun g base wz hz hb ho => by
    have := closeUnder_any _ x g n n base (inL n S) w0 wz HRD.out HX.out HNN.out hz hb ho (inL_len _ _)
    rw [HNN.out] at this
    exact this
  rw [HNT.out]
  rw [hN]
  have Tk : Below w0.heap.size w0 w0 := Below.refl _ _
  clear hw0 hsz0 hrd qo h hx hr hS hN r0
  go_enter Tryz.func33, Tryz.ntmps33
  go_upto_region 1 with fail
  rw [← HW0.out]
  go_region_held3 (fun w' => w'.cell? ⟨w.heap.size, 0, none⟩ = some (.int .i64 (n : Int)) ∧ w'.cell? ⟨w.heap.size, 1, none⟩ = some (.slice B k d)) (first | go_keep | exact ⟨keepc Tk cP0, keepc Tk cP1⟩) (first
    | (go_at_call 77; (refine (HM.out _ ?_).mono ?_); (first | exact Tk | exact Below.drew Tk); rintro e wm ⟨rfl, hom, hbm⟩; replace hom := own_mono (base' := w0.heap.size) hom (by exact Tk.size); replace Tk := below_next (by first | exact Tk | exact Below.drew Tk) hbm rfl)
    | (go_at_call 76; (refine (HC.out _ w0.heap.size _ ?_ (Nat.le_refl _) ?_).mono ?_); (first | exact Tk | exact Below.drew Tk); (exact hom); rintro e wc ⟨L, rfl, hoc, hlc, hcl, hgc⟩; replace Tk := Below.grown (by first | exact Tk | exact Below.drew Tk) hgc (by exact Tk.size) (fun r hr => by injection hr with hr; have := hom.lt _ rfl; omega); have hE : markL n (gB L) = genL n x.2 S := markL_congr hcl)
    | (go_at_call 75; (refine (marked_any _ n n L _ (by exact rd_of_own (R := RB) hoc (fun z _ => rfl)) (by omega)).mono ?_); rintro e wd ⟨A5, c5, rfl, ho5, hb5⟩; replace ho5 := own_mono (base' := w0.heap.size) ho5 (by exact Tk.size); replace Tk := below_next (by first | exact Tk | exact Below.drew Tk) hb5 rfl))
  all_goals
    rw [hE] at ho5
    have HE := Lib.hid hE
    have HO := Lib.hid ho5
    clear ho5 hE hoc hom hgc hcl
    go_wp2_with fail
    go_ret
    exact ⟨A5, c5, rfl, own_mono HO.out T0.size, below_next T0 (by first | exact Tk | exact Below.drew Tk) rfl⟩
set_option maxHeartbeats 4000000 in
theorem isSub_any (cs : List Value) (x : AlgebraM) (A : Option Addr) (m c : Nat) (S : List Int) (w : World) (h : shAlgebra.rd w cs x) (hx : AlgP x) (hr : RdL RI w A m S) :
    Calls Tryz.prog 64 #[.agg cs.toArray, .slice A m c] w (Bl w (.bool (subB x.1.toNat x.2 S))) := by
  have hrd := h
  obtain ⟨B, k, d, rfl, -, qo⟩ := rdAlgebra h
  obtain ⟨n, hN⟩ : ∃ n : Nat, x.1 = (n : Int) := ⟨x.1.toNat, by have := hx.1; omega⟩
  have HNN := Lib.hid hN
  have hn8 : n ≤ 8 := by have := hx.2.1; omega
  have hn0 : 0 < n := by have := hx.1; omega
  have HNT : Hid (x.1.toNat = n) := by show _ = _; omega
  have hmle := hr.le
  have HL := Lib.hid hr.len
  obtain ⟨w0, hw0, T0, hsz0, BP⟩ := boxes1 w #[.int .i64 x.1, .slice B k d] 26
  have HW0 := Lib.hid hw0
  have HRD : Hid (∀ wz, Below w0.heap.size w0 wz → shAlgebra.rd wz [.int .i64 x.1, .slice B k d] x) := fun wz hz => shAlgebra.stab (shAlgebra.stab hrd T0.block) hz.block
  rw [hN] at HW0 BP HRD
  have cP0 := BP.cell 0
  have cP1 := BP.cell 1
  simp at cP0 cP1
  have HX := Lib.hid hx
  have r0 := hr.next stab_RI T0
  have HI := Lib.hid (inSize_any A m c S (n : Int) w0 r0)
  have HS := Lib.hid (rises_any A m c S w0 r0)
  obtain ⟨b1, HB1⟩ : ∃ b, Hid (allIn 0 ((n : Int) - 1) S = b) := ⟨_, rfl⟩
  obtain ⟨b2, HB2⟩ : ∃ b, Hid (risesL S = b) := ⟨_, rfl⟩
  rw [HB1.out] at HI
  rw [HB2.out] at HS
  have HR : Hid (subB n x.2 S = ((b1 && b2) && decide ((genL n x.2 S).length = m))) := by show _ = _; unfold subB; rw [HB1.out, HB2.out, HL.out]
  rw [HNT.out]
  rw [hN]
  clear hw0 hsz0 hrd qo h hx hr hN
  go_enter Tryz.func64, Tryz.ntmps64
  go_upto_region 1 with fail
  rw [← HW0.out]
  go_wp2_with fail
  refine HI.out.mono ?_
  rintro e w1 ⟨rfl, rfl⟩
  rcases b1 with _ | _
  · go_wp2_with fail
    go_ret
    exact ⟨ret_bool (by rw [HR.out]; rfl), T0⟩
  go_wp2_with fail
  refine HS.out.mono ?_
  rintro e w1 ⟨rfl, z, rfl⟩
  rcases b2 with _ | _
  · go_wp2_with fail
    go_ret
    exact ⟨ret_bool (by rw [HR.out]; rfl), below_drewN T0 z⟩
  have hin : ∀ v ∈ S, 0 ≤ v ∧ v ≤ x.1 - 1 := fun v hv => by rw [HNN.out]; exact allIn_m.1 HB1.out v hv
  have HG := Lib.hid (generate_any _ x A m c S (w0.drewN z) (HRD.out _ (below_drewN (Below.refl _ _) z)) HX.out (r0.drewN stab_RI z) hin)
  rw [HNT.out] at HG
  obtain ⟨gl, HGL⟩ : ∃ l, Hid (genL n x.2 S = l) := ⟨_, rfl⟩
  have HGB : Hid (gl.length ≤ 8) := by show _ ≤ 8; rw [← HGL.out]; exact Nat.le_trans (markL_le _ _) hn8
  rw [HGL.out] at HG HR
  have hgb := HGB.out
  clear hin
  go_wp2_with fail
  refine HG.out.mono ?_
  rintro e w2 ⟨A2, c2, rfl, ho2, hb2⟩
  clear ho2
  go_wp2_with fail
  go_ret
  exact ⟨ret_bool (by rw [HR.out, Bool.true_and, Bool.true_and, Bool.eq_iff_iff]; simp; try omega), below_next T0 ((below_drewN (Below.refl _ _) z).trans hb2) rfl⟩
end Go.Proofs.YtkmgbdljiajlaaaGreat
namespace Go.Proofs.YtkmgbdljiajlaaaGreat
open Go.RowKit
set_option linter.unusedVariables false

end Go.Proofs.YtkmgbdljiajlaaaGreat
namespace Go.Proofs.YtkmgbdljiajlaaaGreat
open Go.RowKit
set_option linter.unusedVariables false

end Go.Proofs.YtkmgbdljiajlaaaGreat
namespace Go.Proofs.YtkmgbdljiajlaaaGreat
open Go.RowKit
set_option linter.unusedVariables false

/-- What the first k operations, and q entries of the next one, give of what is marked. -/
def StTo (n : Nat) (ops : List OpM) (L : List Bool) (k q y : Nat) : Prop := ∃ j o i, ops[j]? = some o ∧ (j < k ∨ (j = k ∧ i < q)) ∧ i < o.2.length ∧ AllM n o.1.toNat i L = true ∧ nmAt o.2 i = y
structure StI (n : Nat) (ops : List OpM) (L M : List Bool) (k q : Nat) : Prop where
  len : M.length = n
  val : ∀ y, y < n → (gB M y = true ↔ gB L y = true ∨ StTo n ops L k q y)
theorem StI.start {n : Nat} {ops : List OpM} {L : List Bool} (h : L.length = n) : StI n ops L L 0 0 := ⟨h, fun y hy => ⟨.inl, fun hh => hh.elim id fun ⟨j, o, i, _, h, _⟩ => by omega⟩⟩
theorem StI.skip {n : Nat} {ops : List OpM} {L M : List Bool} {k q : Nat} {o : OpM} (h : StI n ops L M k q) (ho : ops[k]? = some o) (hA : AllM n o.1.toNat q L = false) : StI n ops L M k (q + 1) := ⟨h.len, fun y hy => by
  rw [h.val y hy]
  refine or_congr Iff.rfl ⟨fun ⟨j, o', i, h1, h2, h3⟩ => ⟨j, o', i, h1, by omega, h3⟩, fun ⟨j, o', i, h1, h2, h3, h4, h5⟩ => ⟨j, o', i, h1, ?_, h3, h4, h5⟩⟩
  by_cases e : j = k ∧ i = q
  · obtain ⟨rfl, rfl⟩ := e
    rw [ho] at h1
    injection h1 with h1
    subst h1
    rw [hA] at h4
    cases h4
  · omega⟩
theorem StI.mark {n : Nat} {ops : List OpM} {L M : List Bool} {k q v : Nat} {o : OpM} (h : StI n ops L M k q) (ho : ops[k]? = some o) (hv : o.2[q]? = some (v : Int)) (hvn : v < n) (hA : AllM n o.1.toNat q L = true) : StI n ops L (M.set v true) k (q + 1) := ⟨by rw [List.length_set]; exact h.len, fun y hy => by
  rw [gB_set (by rw [h.len]; exact hvn)]
  have hn : nmAt o.2 q = v := by rw [nmAt_get hv]; simp
  have hq := (List.getElem?_eq_some_iff.1 hv).1
  by_cases e : y = v
  · subst e
    rw [if_pos rfl]
    exact ⟨fun _ => .inr ⟨k, o, q, ho, .inr ⟨rfl, by omega⟩, hq, hA, hn⟩, fun _ => rfl⟩
  · rw [if_neg e, h.val y hy]
    refine or_congr Iff.rfl ⟨fun ⟨j, o', i, h1, h2, h3⟩ => ⟨j, o', i, h1, by omega, h3⟩, fun ⟨j, o', i, h1, h2, h3, h4, h5⟩ => ⟨j, o', i, h1, ?_, h3, h4, h5⟩⟩
    by_cases e2 : j = k ∧ i = q
    · obtain ⟨rfl, rfl⟩ := e2
      rw [ho] at h1
      injection h1 with h1
      subst h1
      exact absurd (h5.symm.trans hn) e
    · omega⟩
theorem StI.next {n : Nat} {ops : List OpM} {L M : List Bool} {k q : Nat} {o : OpM} (h : StI n ops L M k q) (ho : ops[k]? = some o) (hq : ¬ q < o.2.length) : StI n ops L M (k + 1) 0 := ⟨h.len, fun y hy => by
  rw [h.val y hy]
  refine or_congr Iff.rfl ⟨fun ⟨j, o', i, h1, h2, h3⟩ => ⟨j, o', i, h1, by omega, h3⟩, fun ⟨j, o', i, h1, h2, h3, h4⟩ => ⟨j, o', i, h1, ?_, h3, h4⟩⟩
  by_cases e : j = k
  · subst e
    rw [ho] at h1
    injection h1 with h1
    subst h1
    omega
  · omega⟩
theorem StI.done {n : Nat} {ops : List OpM} {L M : List Bool} {k q : Nat} (h : StI n ops L M k q) (hk : ¬ k < ops.length) : M = stL n ops L := by
  refine gB_ext (n := n) h.len (stL_len _ _ _) fun y hy => ?_
  rw [stL_get hy, Bool.eq_iff_iff, Bool.or_eq_true, tt_iff, h.val y hy]
  refine or_congr Iff.rfl ⟨fun ⟨j, o, i, h1, h2, h3, h4, h5⟩ => ⟨o, List.mem_of_getElem? h1, i, h3, h4, h5⟩, fun ⟨o, ho, i, h3, h4, h5⟩ => ?_⟩
  obtain ⟨j, hj⟩ := List.getElem?_of_mem ho
  have := (List.getElem?_eq_some_iff.1 hj).1
  exact ⟨j, o, i, hj, .inl (by omega), h3, h4, h5⟩
set_option maxHeartbeats 2000000 in
theorem l5In_any (A : Option Addr) (m c n : Nat) (S : List Int) (w : World) (h : RdL RI w A m S) (hS : ∀ v ∈ S, 0 ≤ v ∧ v ≤ (n : Int) - 1) (hn : n ≤ 1000) :
    Calls Tryz.prog 80 #[.int .i64 n, .slice A m c] w fun e w' => e = .returned (.slice (some ⟨w.heap.size, 0, none⟩) n n) ∧ w'.ownsRow w.heap.size 4 1 (.slice (some ⟨w.heap.size, 0, none⟩) n n) n (bls (inL n S)) ∧ Below w.heap.size w w' := by
  have HS := Lib.hid hS
  have HL := Lib.hid h.len
  have hle := h.le
  clear hS
  go_enter Tryz.func80, Tryz.ntmps80
  go_wp2_with (at_make; refine make_bl w rfl _ _ rfl n rfl rfl (by omega) ?_; intro w1 hown1 hg1)
  have hb1 := (Below.refl w.heap.size w).grown hg1 (Nat.le_refl _) (by simp)
  clear hg1
  go_loopw [6] (fun i wr => ∃ k : Nat, k ≤ m ∧ i = .int .i64 k ∧ wr.ownsRow w.heap.size 4 1 (.slice (some ⟨w.heap.size, 0, none⟩) n n) n (bls (inL n (S.take k))) ∧ Below w.heap.size w wr) (fun i _ => m - (intOf i).toNat)
  case atStart =>
    refine ⟨0, Nat.zero_le _, rfl, ?_, hb1⟩
    have e : inL n (S.take 0) = List.replicate n false := by
      unfold inL
      rw [List.take_zero]
      exact List.eq_replicate_iff.2 ⟨by simp, fun b hb => by obtain ⟨y, -, rfl⟩ := List.mem_map.1 hb; rfl⟩
    rw [e]
    exact hown1
  case round =>
    clear hown1 hb1
    obtain ⟨k, hk, rfl, hown, hTr⟩ := hrel
    by_cases hlt : k < m
    · have hk0 : (0 : Int) ≤ (k : Int) := by omega
      have hk1 : (k : Int) < (m : Int) := by omega
      obtain ⟨b, o, u, v, rfl, hc, ⟨rfl, hv0, hv1⟩, -, hx⟩ := h.at hlt
      have hvi := HS.out v (List.mem_of_getElem? hx)
      obtain ⟨x, rfl⟩ := Int.eq_ofNat_of_zero_le hvi.1
      have hxn : x < n := by omega
      have HSET := Lib.hid (inL_set hx hxn)
      replace hc := keepc hTr hc
      have hcell : wr.cell? ⟨w.heap.size, x, none⟩ = some (.bool (gB (inL n (S.take k)) x)) := by rw [hown.cellAt x (by omega), bls_get (by rw [inL_len]; exact hxn)]
      have hfz := hown.frozenAt x
      have hst := (hown.stored x (.bool true)).1
      rw [bls_set, HSET.out] at hst
      have hx0 : (0 : Int) ≤ (x : Int) := by omega
      have hx1 : (x : Int) < (n : Int) := by omega
      clear hx hown
      go_wp2_with fail
      go_roundw
      case rel => exact ⟨k + 1, by omega, by go_num, hst, hTr.setCell (Nat.le_refl _) _⟩
      case measure => simp [intOf]; try omega
    · have hk1 : ¬ (k : Int) < (m : Int) := by omega
      rw [List.take_of_length_le (by rw [HL.out]; omega)] at hown
      go_wp2_with fail
      go_ret
      exact ⟨rfl, hown, hTr⟩
set_option maxHeartbeats 2000000 in
theorem l5List_any (A : Option Addr) (n c : Nat) (L : List Bool) (w : World) (h : RdL RB w A n L) (hn : n ≤ 1000) :
    Calls Tryz.prog 82 #[.slice A n c] w (OwI w (markL n (gB L))) := by
  have hT := below_box w (.cells #[] 3)
  have hO := World.ownsRow_lit (base := w.heap.size) (e := 3) (size := 1) w #[] 0 (Nat.le_refl _) (Nat.zero_le _) rfl
  go_enter Tryz.func82, Tryz.ntmps82
  go_wp2_with fail
  go_loopw [3, 4] (fun s i wr => ∃ (k m : Nat) (A1 : Option Addr) (c1 : Nat), k ≤ n ∧ i = .int .i64 k ∧ s = .slice A1 m c1 ∧ m = (markL k (gB L)).length ∧ wr.ownsRow w.heap.size 3 1 (.slice A1 m c1) m (ints (markL k (gB L))) ∧ Below w.heap.size w wr) (fun _ i _ => n - (intOf i).toNat)
  case atStart => exact ⟨0, 0, _, _, Nat.zero_le _, rfl, rfl, rfl, hO, hT⟩
  case round =>
    clear hO hT
    obtain ⟨k, m, A1, c1, hk, rfl, rfl, hm, hown, hTr⟩ := hrel
    have hmk : m ≤ k := by rw [hm]; exact markL_le k (gB L)
    by_cases hlt : k < n
    · have hk0 : (0 : Int) ≤ (k : Int) := by omega
      have hk1 : (k : Int) < (n : Int) := by omega
      obtain ⟨b, o, u, v, rfl, hc, rfl, -, hx⟩ := (h.next stab_RB hTr).at hlt
      have HG := Lib.hid (gB_get hx)
      have HS := Lib.hid (markL_succ k (gB L))
      rw [HG.out] at HS
      have HMM := Lib.hid hm
      clear hx hm
      rcases v with _ | _
      · go_wp2_with fail
        go_roundw
        case rel => exact ⟨k + 1, m, A1, c1, by omega, by go_num, rfl, by rw [HS.out]; simpa using HMM.out, by rw [HS.out]; simpa using hown, hTr⟩
        case measure => simp [intOf]; try omega
      · have hsz := hTr.size
        go_wp2_with (at_builtin; refine app1 wr rfl _ _ 27 3 rfl (.int .i64 0) 8 Tryz.underlying27 info_int rfl (by decide) w.heap.size m c1 A1 (ints (markL k (gB L))) rfl hown (.int .i64 (k : Int)) rfl rfl (by omega) (by omega) ?_; intro A2 c2 w2 hown2 hg2 hb2)
        go_roundw
        case rel => exact ⟨k + 1, m + 1, A2, c2, by omega, by go_num, rfl, by rw [HS.out]; simpa using HMM.out, by rw [HS.out]; simpa [ints] using hown2, hTr.trans hb2⟩
        case measure => simp [intOf]; try omega
    · have hk1 : ¬ (k : Int) < (n : Int) := by omega
      obtain rfl : k = n := by omega
      have HMM := Lib.hid hm
      clear hm
      go_wp2_with fail
      go_ret
      exact ⟨A1, c1, by rw [HMM.out]; rfl, by rw [← HMM.out]; exact hown, hTr⟩
end Go.Proofs.YtkmgbdljiajlaaaGreat
namespace Go.Proofs.YtkmgbdljiajlaaaGreat
open Go.RowKit
set_option linter.unusedVariables false

set_option maxRecDepth 20000 in
set_option maxHeartbeats 8000000 in
theorem l5Step_any (cs : List Value) (x : AlgebraM) (A : Option Addr) (n c : Nat) (L : List Bool) (w : World) (h : shAlgebra.rd w cs x) (hx : AlgP x) (hn : x.1 = (n : Int)) (hr : RdL RB w A n L) :
    Calls Tryz.prog 81 #[.agg cs.toArray, .slice A n c] w fun e w' => ∃ A' c', e = .returned (.slice A' n c') ∧ w'.ownsRow w.heap.size 4 1 (.slice A' n c') n (bls (stL n x.2 L)) ∧ Below w.heap.size w w' := by
  obtain ⟨a, ops⟩ := x
  obtain ⟨hx1, hx2, hx3, hx4⟩ := hx
  simp only at hx1 hx2 hx3 hx4 hn
  subst hn
  rw [Int.toNat_natCast] at hx4
  have hn0 : 0 < n := by omega
  have hn8 : n ≤ 8 := by omega
  obtain ⟨B, m, d, rfl, -, qo⟩ := rdAlgebra h
  have HML := Lib.hid qo.len
  have HOPS := Lib.hid hx4
  have hm4 : m ≤ 4 := by rw [← qo.len]; exact hx3
  have HLL := Lib.hid hr.len
  obtain ⟨w0, hw0, T0, hsz0, BP⟩ := boxes1 w #[.int .i64 (n : Int), .slice B m d] 26
  have HW0 := Lib.hid hw0
  replace qo := qo.next T0
  have r0 := hr.next stab_RB T0
  have cP0 := BP.cell 0
  have cP1 := BP.cell 1
  simp at cP0 cP1
  have hb1 := below_box w0 (.cells #[] 4)
  have r1 := r0.next stab_RB hb1
  have hO : (w0.alloc (.cells #[] 4)).ownsRow w0.heap.size 4 1 (.slice (some ⟨w0.heap.size, 0, none⟩) 0 0) 0 [] := World.ownsRow_lit w0 #[] 0 (Nat.le_refl _) (Nat.zero_le _) rfl
  clear hw0 hsz0 hx3 hx4 h hr
  go_enter Tryz.func81, Tryz.ntmps81
  go_upto_region 1 with fail
  rw [← HW0.out]
  go_wp2_with (at_builtin; refine appAny (R := RB) _ rfl _ _ 47 4 rfl (.bool false) 1 Tryz.underlying47 info_bl rfl (by decide) w0.heap.size 0 0 _ [] rfl hO A n c L (fun b => .bool b) (fun _ => rfl) rfl r1 (fun _ _ _ hr => hr) (by omega) (by simp) ?_; intro A5 c5 w5 hown5 hg5 hb5)
  rw [show 0 + n = n from Nat.zero_add n, List.nil_append] at hown5
  obtain ⟨g5, rfl, -, -⟩ := own_form hown5 hn0
  have T5 := hb1.trans hb5
  clear hO r1 hb1 hb5 hg5
  go_wp2_with fail
  go_loopw [6] (fun i wr => ∃ (k : Nat) (M : List Bool), k ≤ m ∧ i = .int .i64 k ∧ Hid (StI n ops L M k 0) ∧ wr.ownsRow w0.heap.size 4 1 (.slice (some ⟨g5, 0, none⟩) n c5) n (bls M) ∧ Below w0.heap.size w0 wr) (fun i _ => m - (intOf i).toNat)
  case atStart => exact ⟨0, L, Nat.zero_le _, rfl, StI.start HLL.out, hown5, T5⟩
  case round =>
    clear hown5 T5
    obtain ⟨k, M, hk, rfl, HI, hown, hTr⟩ := hrel
    have kP1 := keepc hTr cP1
    by_cases hlt : k < m
    · have hk0 : (0 : Int) ≤ (k : Int) := by omega
      have hk1 : (k : Int) < (m : Int) := by omega
      obtain ⟨b, o, vs, op, rfl, -, hc, hrr, -, hxo⟩ := qo.at hlt
      obtain ⟨B', m', d', rfl, -, qt⟩ := rdOp hrr
      have hoP := HOPS.out op (List.mem_of_getElem? hxo)
      obtain ⟨ar, tb, rfl, har⟩ := op_nat hoP
      have HXO := Lib.hid hxo
      have HTL : Hid (m' = n ^ ar) := by show _ = _; rw [← qt.len]; have := hoP.2.2.1; simpa using this
      have HTB : Hid (tb.length = m') := qt.len
      have HTV := Lib.hid hoP.2.2.2
      have hm512 : m' ≤ 4096 := by rw [HTL.out]; exact pow_bd hn8 (by omega)
      have cc0 : w0.cell? ⟨b, o + k * 2, none⟩ = some (.int .i64 (ar : Int)) := hc 0 _ rfl
      have cc1 : w0.cell? ⟨b, o + k * 2 + 1, none⟩ = some (.slice B' m' d') := hc 1 _ rfl
      clear hc hrr hxo hoP
      go_wp2_with fail
      clear kP1
      go_loopw [7] (fun i wr => ∃ (q : Nat) (M : List Bool), q ≤ m' ∧ i = .int .i64 q ∧ Hid (StI n ops L M k q) ∧ wr.ownsRow w0.heap.size 4 1 (.slice (some ⟨g5, 0, none⟩) n c5) n (bls M) ∧ Below w0.heap.size w0 wr) (fun i _ => m' - (intOf i).toNat)
      case atStart => exact ⟨0, M, Nat.zero_le _, rfl, HI, hown, hTr⟩
      case round =>
        clear hown HI hTr
        obtain ⟨q, M, hq, rfl, HI, hown, hTr⟩ := hrel
        have kP0 := keepc hTr cP0
        have kP1 := keepc hTr cP1
        have kc0 := keepc hTr cc0
        have kc1 := keepc hTr cc1
        by_cases hlq : q < m'
        · have hq0 : (0 : Int) ≤ (q : Int) := by omega
          have hq1 : (q : Int) < (m' : Int) := by omega
          have HA : Hid (∀ wz, Below wr.heap.size wr wz → Calls Tryz.prog 108 #[.int .i64 (n : Int), .int .i64 (ar : Int), .int .i64 (q : Int)] wz fun e w' => ∃ g, e = .returned (.slice (some ⟨g, 0, none⟩) ar ar) ∧ w'.ownsRow wz.heap.size 3 1 (.slice (some ⟨g, 0, none⟩) ar ar) ar (ints (nats (digs n ar q))) ∧ Below wz.heap.size wz w') := fun wz hz => l2Args_any q ar n wz hn0 (by omega) (by omega) (by omega)
          have Tk : Below wr.heap.size wr wr := Below.refl _ _
          go_upto_region 8 with fail
          go_cut [8] from 32 to 69 (fun u8 wx => ∃ g, u8 = .slice (some ⟨g, 0, none⟩) ar ar ∧ wx.ownsRow wr.heap.size 3 1 (.slice (some ⟨g, 0, none⟩) ar ar) ar (ints (nats (digs n ar q))) ∧ Below wr.heap.size wr wx)
          case first =>
            go_region_held3 (fun w' => w'.cell? ⟨w.heap.size, 0, none⟩ = some (.int .i64 (n : Int)) ∧ w'.cell? ⟨w.heap.size, 1, none⟩ = some (.slice (some ⟨b, o, none⟩) m d) ∧ w'.cell? ⟨b, o + k * 2, none⟩ = some (.int .i64 (ar : Int))) (first | go_keep | exact ⟨keepc Tk kP0, keepc Tk kP1, keepc Tk kc0⟩) (first
              | (go_at_call 108; (with_reducible refine (HA.out _ ?_).mono ?_); (first | exact Tk | exact Below.drew Tk); rintro e wn ⟨g, rfl, hon, hbn⟩; replace Tk := below_next (by first | exact Tk | exact Below.drew Tk) hbn rfl))
            all_goals
              have HON := Lib.hid hon
              clear hon
              go_wp2_with fail
              go_meet
              exact ⟨g, rfl, HON.out, by first | exact Tk | exact Below.drew Tk⟩
          case rest =>
            obtain ⟨g, rfl, hoA, hTc⟩ := hcut
            obtain ⟨w9, HWC⟩ : ∃ wq : World, wq = wc := ⟨_, rfl⟩
            subst HWC
            have hown9 := own_next hown hTc
            have T9 := below_next hTr hTc rfl
            have rL := r0.next stab_RB T9
            obtain ⟨ds, HDS⟩ : ∃ l, Hid (digs n ar q = l) := ⟨_, rfl⟩
            have HDN : Hid (∀ dd ∈ ds, dd < n) := fun dd hdd => by rw [← HDS.out] at hdd; exact digs_lt hn0 hdd
            have HDL : Hid (ds.length = ar) := by show _ = _; rw [← HDS.out, digs_len]
            rw [HDS.out] at hoA
            clear kP0 kP1 kc0 kc1 hown
            go_wp2_with fail
            go_loop [9, 10] (fun al kk => ∃ p : Nat, p ≤ ar ∧ kk = .int .i64 p ∧ al = .bool ((ds.take p).all (gB L))) (fun _ kk => ar - (intOf kk).toNat)
            case atStart => exact ⟨0, Nat.zero_le _, rfl, rfl⟩
            case round =>
              obtain ⟨p, hp, rfl, rfl⟩ := hrel
              obtain ⟨al, HAL⟩ : ∃ z, Hid ((ds.take p).all (gB L) = z) := ⟨_, rfl⟩
              rw [HAL.out]
              by_cases hlp : p < ar
              · have hp0 : (0 : Int) ≤ (p : Int) := by omega
                have hp1 : (p : Int) < (ar : Int) := by omega
                have hpl : p < ds.length := by rw [HDL.out]; exact hlp
                have hdp : ds[p]? = some ds[p] := List.getElem?_eq_getElem hpl
                have hdn := HDN.out _ (List.getElem_mem hpl)
                generalize ds[p] = dd at hdp hdn
                have hcd : w9.cell? ⟨g, p, none⟩ = some (.int .i64 (dd : Int)) := by
                  rw [hoA.cellAt p (by omega)]
                  unfold ints nats
                  rw [List.getElem?_map, List.getElem?_map, hdp]
                  rfl
                obtain ⟨bb, bo, uu, bv, rfl, hcb, rfl, -, hxb⟩ := rL.at hdn
                have HTK : Hid ((ds.take (p + 1)).all (gB L) = (al && bv)) := by
                  show _ = _
                  rw [List.take_add_one, hdp, List.all_append, HAL.out, ← gB_get hxb]
                  simp
                have hd0 : (0 : Int) ≤ (dd : Int) := by omega
                have hd1 : (dd : Int) < (n : Int) := by omega
                clear hdp hxb
                rcases al with _ | _
                all_goals
                  go_wp2_with fail
                  go_round
                  case rel => exact ⟨p + 1, by omega, by go_num, by rw [HTK.out]; rfl⟩
                  case measure => simp [intOf]; try omega
              · obtain rfl : p = ar := by omega
                have hp1 : ¬ (p : Int) < (p : Int) := by omega
                have HAM : Hid (AllM n p q L = al) := by
                  show _ = _
                  unfold AllM
                  rw [HDS.out, ← HAL.out, List.take_of_length_le (by rw [HDL.out]; exact Nat.le_refl _)]
                obtain ⟨b3, o3, u3, v, rfl, hc3, ⟨rfl, -, -⟩, -, hxv⟩ := (qt.next stab_RI T9).at hlq
                have hvi := HTV.out v (List.mem_of_getElem? hxv)
                obtain ⟨y, rfl⟩ := Int.eq_ofNat_of_zero_le hvi.1
                have hyn : y < n := by omega
                have HXV := Lib.hid hxv
                have hll := HI.out.len
                have hcell : w9.cell? ⟨g5, y, none⟩ = some (.bool (gB M y)) := by rw [hown9.cellAt y (by omega), bls_get (by omega)]
                have hy0 : (0 : Int) ≤ (y : Int) := by omega
                have hy1 : (y : Int) < (n : Int) := by omega
                have hfz := hown9.frozenAt y
                have hst := (hown9.stored y (.bool true)).1
                rw [bls_set] at hst
                have HST := Lib.hid hst
                have hg5 := (hown9.lt g5 rfl).1
                have kP1 := keepc T9 cP1
                have kc1 := keepc T9 cc1
                clear hst hxv
                rcases al with _ | _
                · have HI2 : Hid (StI n ops L M k (q + 1)) := HI.out.skip HXO.out (by simpa using HAM.out)
                  go_wp2_with fail
                  go_roundw
                  case rel => exact ⟨q + 1, M, by omega, by go_num, HI2, hown9, T9⟩
                  case measure => simp [intOf]; try omega
                · have HI2 : Hid (StI n ops L (M.set y true) k (q + 1)) := HI.out.mark HXO.out HXV.out hyn (by simpa using HAM.out)
                  go_wp2_with fail
                  go_roundw
                  case rel => exact ⟨q + 1, M.set y true, by omega, by go_num, HI2, HST.out, T9.setCell hg5 _⟩
                  case measure => simp [intOf]; try omega
        · have hq1 : ¬ (q : Int) < (m' : Int) := by omega
          have HI2 : Hid (StI n ops L M (k + 1) 0) := HI.out.next HXO.out (by have := HTB.out; simp only; omega)
          go_wp2_with fail
          go_roundw
          case rel => exact ⟨k + 1, M, by omega, by go_num, HI2, hown, hTr⟩
          case measure => simp [intOf]; try omega
    · have hk1 : ¬ (k : Int) < (m : Int) := by omega
      have HD : Hid (M = stL n ops L) := HI.out.done (by rw [HML.out]; exact hlt)
      have hz0 := T0.size
      go_wp2_with fail
      go_ret
      exact ⟨_, c5, rfl, by rw [← HD.out]; exact own_mono hown hz0, below_next T0 hTr rfl⟩
end Go.Proofs.YtkmgbdljiajlaaaGreat
namespace Go.Proofs.YtkmgbdljiajlaaaGreat
open Go.RowKit
set_option linter.unusedVariables false

set_option maxRecDepth 20000 in
set_option maxHeartbeats 4000000 in
theorem l5Close_any (cs : List Value) (x : AlgebraM) (A : Option Addr) (m c : Nat) (S : List Int) (w : World) (h : shAlgebra.rd w cs x) (hx : AlgP x) (hr : RdL RI w A m S) (hS : ∀ v ∈ S, 0 ≤ v ∧ v ≤ x.1 - 1) :
    Calls Tryz.prog 37 #[.agg cs.toArray, .slice A m c] w (OwI w (genL x.1.toNat x.2 S)) := by
  have hrd := h
  obtain ⟨B, k, d, rfl, -, qo⟩ := rdAlgebra h
  obtain ⟨n, hN⟩ : ∃ n : Nat, x.1 = (n : Int) := ⟨x.1.toNat, by have := hx.1; omega⟩
  have HNN := Lib.hid hN
  have hn8 : n ≤ 8 := by have := hx.2.1; omega
  have hn0 : 0 < n := by have := hx.1; omega
  have HNT : Hid (x.1.toNat = n) := by show _ = _; omega
  obtain ⟨w0, hw0, T0, hsz0, BP⟩ := boxes1 w #[.int .i64 x.1, .slice B k d] 26
  have HW0 := Lib.hid hw0
  have HRD : Hid (∀ wz, Below w0.heap.size w0 wz → shAlgebra.rd wz [.int .i64 x.1, .slice B k d] x) := fun wz hz => shAlgebra.stab (shAlgebra.stab hrd T0.block) hz.block
  rw [hN] at HW0 BP hS HRD
  have cP0 := BP.cell 0
  have cP1 := BP.cell 1
  simp at cP0 cP1
  have HX := Lib.hid hx
  have HS := Lib.hid hS
  have HI := Lib.hid (l5In_any A m c n S w0 (hr.next stab_RI T0) HS.out (by omega))
  have HV : Hid (∀ o ∈ x.2, ∀ v ∈ o.2, 0 ≤ v ∧ v ≤ (n : Int) - 1) := fun o ho => by have := (hx.2.2.2 o ho).2.2.2; rw [HNT.out] at this; exact this
  rw [HNT.out]
  rw [hN]
  clear hw0 hsz0 hrd qo h hx hr hS hN
  go_enter Tryz.func37, Tryz.ntmps37
  go_upto_region 1 with fail
  rw [← HW0.out]
  go_wp2_with fail
  refine HI.out.mono ?_
  rintro e w1 ⟨rfl, ho1, hb1⟩
  have r1 := rd_of_own (R := RB) ho1 (fun z _ => rfl)
  clear ho1
  go_wp2_with fail
  go_loopw [5, 6] (fun s i wr => ∃ (j : Nat) (A5 : Option Addr) (c5 : Nat), j ≤ n + 1 ∧ i = .int .i64 j ∧ s = .slice A5 n c5 ∧ RdL RB wr A5 n (stN n x.2 j (inL n S)) ∧ Below w0.heap.size w0 wr) (fun _ i _ => n + 1 - (intOf i).toNat)
  case atStart => exact ⟨0, _, _, Nat.zero_le _, rfl, rfl, r1, hb1⟩
  case round =>
    clear r1 hb1
    obtain ⟨j, A5, c5, hj, rfl, rfl, hr5, hTr⟩ := hrel
    have kP0 := keepc hTr cP0
    have kP1 := keepc hTr cP1
    by_cases hlt : j < n + 1
    · have hj1 : (j : Int) ≤ (n : Int) := by omega
      have HC := Lib.hid (l5Step_any _ x A5 n c5 _ wr (HRD.out _ hTr) HX.out HNN.out hr5)
      clear hr5
      go_wp2_with fail
      refine HC.out.mono ?_
      rintro e w2 ⟨A6, c6, rfl, ho6, hb6⟩
      have r6 := rd_of_own (R := RB) ho6 (fun z _ => rfl)
      clear ho6
      go_wp2_with fail
      go_roundw
      case rel => exact ⟨j + 1, A6, c6, by omega, by go_num, rfl, r6, below_next hTr hb6 rfl⟩
      case measure => simp [intOf]; try omega
    · obtain rfl : j = n + 1 := by omega
      have hj1 : ¬ ((n + 1 : Nat) : Int) ≤ (n : Int) := by omega
      have HE : Hid (markL n (gB (stN n x.2 (n + 1) (inL n S))) = genL n x.2 S) := markL_congr fun y hy => stN_cl hn0 (inL_len _ _) HV.out hy
      have HC := Lib.hid (l5List_any A5 n c5 _ wr hr5 (by omega))
      rw [HE.out] at HC
      clear hr5 kP1
      go_wp2_with fail
      refine HC.out.mono ?_
      rintro e w2 ⟨A6, c6, rfl, ho6, hb6⟩
      go_wp2_with fail
      go_ret
      exact ⟨A6, c6, rfl, own_mono ho6 (Nat.le_trans T0.size hTr.size), below_next T0 (below_next hTr hb6 rfl) rfl⟩
set_option maxHeartbeats 4000000 in
theorem l5Is_any (cs : List Value) (x : AlgebraM) (A : Option Addr) (m c : Nat) (S : List Int) (w : World) (h : shAlgebra.rd w cs x) (hx : AlgP x) (hr : RdL RI w A m S) :
    Calls Tryz.prog 86 #[.agg cs.toArray, .slice A m c] w (Bl w (.bool (subB x.1.toNat x.2 S))) := by
  have hrd := h
  obtain ⟨B, k, d, rfl, -, qo⟩ := rdAlgebra h
  obtain ⟨n, hN⟩ : ∃ n : Nat, x.1 = (n : Int) := ⟨x.1.toNat, by have := hx.1; omega⟩
  have HNN := Lib.hid hN
  have hn8 : n ≤ 8 := by have := hx.2.1; omega
  have hn0 : 0 < n := by have := hx.1; omega
  have HNT : Hid (x.1.toNat = n) := by show _ = _; omega
  obtain ⟨w0, hw0, T0, hsz0, BP⟩ := boxes1 w #[.int .i64 x.1, .slice B k d] 26
  have HW0 := Lib.hid hw0
  have HRD : Hid (∀ wz, Below w0.heap.size w0 wz → shAlgebra.rd wz [.int .i64 x.1, .slice B k d] x) := fun wz hz => shAlgebra.stab (shAlgebra.stab hrd T0.block) hz.block
  rw [hN] at HW0 BP HRD
  have cP0 := BP.cell 0
  have cP1 := BP.cell 1
  simp at cP0 cP1
  have HX := Lib.hid hx
  have r0 := hr.next stab_RI T0
  have HI := Lib.hid (l1Rising_any A m c S 0 ((n : Int) - 1) w0 r0)
  obtain ⟨b1, HB1⟩ : ∃ b, Hid ((allIn 0 ((n : Int) - 1) S && risesL S) = b) := ⟨_, rfl⟩
  rw [HB1.out] at HI
  have HR : Hid (subB n x.2 S = (b1 && decide ((genL n x.2 S).length = S.length))) := by show _ = _; unfold subB; rw [HB1.out]
  rw [HNT.out]
  rw [hN]
  clear hw0 hsz0 hrd qo h hx hr hN
  go_enter Tryz.func86, Tryz.ntmps86
  go_upto_region 1 with fail
  rw [← HW0.out]
  go_wp2_with fail
  refine HI.out.mono ?_
  rintro e w1 ⟨rfl, z, rfl⟩
  rcases b1 with _ | _
  · go_wp2_with fail
    go_ret
    exact ⟨ret_bool (by rw [HR.out]; rfl), below_drewN T0 z⟩
  have hb := HB1.out
  rw [Bool.and_eq_true] at hb
  have hin : ∀ v ∈ S, 0 ≤ v ∧ v ≤ x.1 - 1 := fun v hv => by rw [HNN.out]; exact allIn_m.1 hb.1 v hv
  have HEQ := Lib.hid (gen_eq (n := n) (ops := x.2) (fun v hv => allIn_m.1 hb.1 v hv) hb.2)
  have HG := Lib.hid (l5Close_any _ x A m c S (w0.drewN z) (HRD.out _ (below_drewN (Below.refl _ _) z)) HX.out (r0.drewN stab_RI z) hin)
  rw [HNT.out] at HG
  have HGB := Lib.hid (genL_bd (n := n) (ops := x.2) (S := S) (by omega))
  obtain ⟨gl, HGL⟩ : ∃ l, Hid (genL n x.2 S = l) := ⟨_, rfl⟩
  rw [HGL.out] at HG HR HGB HEQ
  clear hin hb
  go_wp2_with fail
  refine HG.out.mono ?_
  rintro e w2 ⟨A2, c2, rfl, ho2, hb2⟩
  have r2 := rd_of_own (R := RI) ho2 (RI_ints HGB.out)
  have T2 := below_next T0 ((below_drewN (Below.refl _ _) z).trans hb2) rfl
  have HSM := Lib.hid (l1Same_any A2 A gl.length m c2 c gl S w2 r2 (r0.next stab_RI ((below_drewN (Below.refl _ _) z).trans hb2)))
  clear ho2
  go_wp2_with fail
  refine HSM.out.mono ?_
  rintro e w3 h3
  have h3' : e = .returned (.bool (eqL gl S)) ∧ Below w2.heap.size w2 w3 := by
    first
      | (obtain ⟨rfl, rfl⟩ := h3; exact ⟨rfl, Below.refl _ _⟩)
      | (obtain ⟨rfl, z3, rfl⟩ := h3; exact ⟨rfl, below_drewN (Below.refl _ _) z3⟩)
  obtain ⟨rfl, hb3⟩ := h3'
  have HEL : Hid (eqL gl S = decide (gl.length = S.length)) := by
    show _ = _
    rw [Bool.eq_iff_iff, decide_eq_true_iff, HEQ.out]
    exact eqL_iff
  clear h3
  go_wp2_with fail
  go_ret
  exact ⟨ret_bool (by rw [HR.out, HEL.out]; rfl), below_next T2 hb3 rfl⟩
end Go.Proofs.YtkmgbdljiajlaaaGreat
namespace Go.Proofs.YtkmgbdljiajlaaaGreat
open Go.RowKit
set_option linter.unusedVariables false
set_option linter.unusedSimpArgs false

/-- All subuniverses in order. -/
noncomputable def subsL (x : AlgebraM) : List (List Int) := insA (subB x.1.toNat x.2) (2 ^ x.1.toNat)
theorem pow8 {n : Nat} (h : n ≤ 8) : 2 ^ n ≤ 256 := Nat.le_trans (Nat.pow_le_pow_right (by decide) h) (by decide)
set_option maxRecDepth 20000 in
set_option maxHeartbeats 8000000 in
theorem allSubs_any (cs : List Value) (x : AlgebraM) (w : World) (h : shAlgebra.rd w cs x) (hx : AlgP x) :
    Calls Tryz.prog 40 #[.agg cs.toArray] w (fun e w' => ∃ A q c, e = .returned (.slice A q c) ∧ OwM 27 3 (.int .i64) w.heap.size w' (.slice A q c) q (subsL x) ∧ Below w.heap.size w w') := by
  have hrd := h
  obtain ⟨B, m, d, rfl, -, -⟩ := rdAlgebra h
  obtain ⟨z, ops⟩ := x
  obtain ⟨n, rfl⟩ : ∃ n : Nat, z = (n : Int) := ⟨z.toNat, by have h1 : 1 ≤ z := hx.1; omega⟩
  have hn8 : n ≤ 8 := by have h1 : (n : Int) ≤ 8 := hx.2.1; omega
  obtain ⟨P, HP⟩ : ∃ P, Hid (subB n ops = P) := ⟨_, Lib.hid rfl⟩
  have HSL : Hid (subsL ((n : Int), ops) = insA P (2 ^ n)) := by show _ = _; unfold subsL; rw [← HP.out]; simp
  obtain ⟨N, HN⟩ : ∃ N : Nat, Hid (2 ^ n = N) := ⟨_, Lib.hid rfl⟩
  have hN : N ≤ 256 := by rw [← HN.out]; exact pow8 hn8
  rw [HN.out] at HSL
  obtain ⟨w0, hw0, T0, hsz0, BP⟩ := boxes1 w #[.int .i64 (n : Int), .slice B m d] 26
  have HW0 := Lib.hid hw0
  have HRD : Hid (∀ wz, Below w0.heap.size w0 wz → shAlgebra.rd wz [.int .i64 (n : Int), .slice B m d] ((n : Int), ops)) := fun wz hz => shAlgebra.stab (shAlgebra.stab hrd T0.block) hz.block
  have hT1 : Below w0.heap.size w0 (w0.alloc (.cells #[] 27)) := below_box _ _
  have hML := mat_lit T0
  rw [hsz0] at hML
  clear hw0 hrd h
  go_enter Tryz.func40, Tryz.ntmps40
  go_upto_region 1 with fail
  rw [← HW0.out]
  go_wp2_with fail
  go_loopw [3, 4] (fun v j wr => ∃ k : Nat, k ≤ N ∧ j = .int .i64 k ∧ (∃ A' c', v = .slice A' (selA P k).length c' ∧ OwM 27 3 (.int .i64) w.heap.size wr (.slice A' (selA P k).length c') (selA P k).length (selA P k)) ∧ Below w0.heap.size w0 wr) (fun _ j _ => N - (intOf j).toNat)
  case atStart => exact ⟨0, Nat.zero_le _, rfl, ⟨_, 0, rfl, hML⟩, hT1⟩
  case round =>
    clear hT1 hML
    obtain ⟨k, hk, rfl, ⟨A', c', rfl, hown⟩, hT⟩ := hrel
    have hpw : (1 : Int) * 2 ^ n = (N : Int) := by rw [← HN.out]; simp
    have hpw2 : (2 : Int) ^ n = (N : Int) := by rw [← HN.out]; simp
    have hfl := selA_len P k
    have cP0 := (BP.next hT).cell 0
    simp at cP0
    have hT0r := below_next T0 hT rfl
    by_cases hlt : k < N
    · have hk1 : (k : Int) < (N : Int) := by omega
      have HST : Hid (selA P (k + 1) = selA P k ++ (if P (bitsTo k 8) then [bitsTo k 8] else [])) := rfl
      have hbl := bits8_len k (by omega) 8 (by omega)
      have HBB : Hid (∀ x ∈ bitsTo k 8, -9223372036854775808 ≤ x ∧ x ≤ 9223372036854775807) := fun x hx => by
        have := bits8_bd k (by omega) x hx
        omega
      obtain ⟨acc, HA⟩ : ∃ acc, Hid (selA P k = acc) := ⟨_, rfl⟩
      obtain ⟨xs, HX⟩ : ∃ xs, Hid (bitsTo k 8 = xs) := ⟨_, rfl⟩
      rw [HA.out] at hown hfl HST ⊢
      rw [HX.out] at hbl HBB HST
      have HB1 := bitsOf8_any k wr (by omega)
      rw [HX.out] at HB1
      have HB := Lib.hid HB1
      clear HB1
      have hT2 := hT0r.size
      go_upto_region 6 with (go_at_call 48; refine HB.out.mono ?_; rintro e w4 ⟨A4, c4, rfl, how4, hb4⟩)
      have hT4 := below_next hT hb4 rfl
      have hT04 := below_next T0 hT4 rfl
      have hsz4 := hT04.size
      obtain ⟨r, HR⟩ : ∃ r, Hid (P xs = r) := ⟨_, rfl⟩
      have HF := isSub_any [.int .i64 (n : Int), .slice B m d] ((n : Int), ops) A4 xs.length c4 xs w4 (HRD.out w4 hT4) hx (rd_of_own (R := RI) how4 (RI_ints HBB.out))
      rw [show ((n : Int), ops).1.toNat = n from by simp, show subB n ((n : Int), ops).2 xs = P xs from by rw [← HP.out], HR.out] at HF
      have HF := Lib.hid HF
      rw [HR.out] at HST
      clear cP0
      have cP0 := (BP.next hT4).cell 0
      have cP1 := (BP.next hT4).cell 1
      simp at cP0 cP1
      rcases r with _ | _
      · have HS2 : Hid (selA P (k + 1) = acc) := by show _ = _; rw [HST.out]; simp
        have hown4 := hown.next hb4
        go_wp2_with (go_at_call 64; refine HF.out.mono ?_; rintro e w5 ⟨rfl, hb5⟩)
        go_roundw
        case rel => exact ⟨k + 1, by omega, by go_num, ⟨A', c', by rw [HS2.out], by rw [HS2.out]; exact hown4.next hb5⟩, below_next hT4 hb5 rfl⟩
        case measure => simp [intOf]; omega
      · have HS2 : Hid (selA P (k + 1) = acc ++ [xs]) := by show _ = _; rw [HST.out]; simp
        go_upto_region 7 with (go_at_call 64; refine HF.out.mono ?_; rintro e w5 ⟨rfl, hb5⟩)
        have hb45 := below_next hb4 hb5 rfl
        obtain ⟨vs, hvs, HPU⟩ := hown.push (by decide) hb45 hT2 (own_next how4 hb5)
        have hT5 := below_next hT4 hb5 rfl
        have hsz5 : w.heap.size ≤ w5.heap.size := (below_next T0 hT5 rfl).size
        have hsz50 := hT5.size
        go_wp2_with (at_builtin; refine app1 w5 rfl _ _ 32 27 rfl (.slice none 0 0) 24 Tryz.underlying32 info_ints rfl (by decide) w.heap.size acc.length c' A' vs rfl hvs (.slice A4 xs.length c4) rfl rfl (by omega) hsz5 ?_; intro A2 c2 w6 hown6 hg6 hb6)
        have hT6 : Below w0.heap.size w0 w6 := hT5.grown hg6 hsz50 (fun r e => by
          have h9 := hvs.lt r e
          have h8 := own_off hvs (BP.next hT5) (by decide)
          have h7 : r ≠ w.heap.size := fun e2 => h8 (by rw [e, e2])
          omega)
        go_roundw
        case rel => exact ⟨k + 1, by omega, by go_num, ⟨A2, c2, by rw [HS2.out, List.length_append]; rfl, by rw [HS2.out, List.length_append]; exact HPU hown6 hg6⟩, hT6⟩
        case measure => simp [intOf]; omega
    · obtain rfl : k = N := by omega
      have hk1 : ¬ (k : Int) < (k : Int) := by omega
      have HBD := Lib.hid (selA_bd P hN)
      go_wp2_with (go_at_call 50; refine (sortRows_any w.heap.size A' c' (selA P k).length (selA P k) wr hown hT0r.size HBD.out (by omega)).mono ?_; rintro e w5 ⟨rfl, yss, hM, hP, hW, hb5⟩)
      go_ret
      refine ⟨_, _, _, rfl, ?_, hT0r.trans hb5⟩
      rw [HSL.out, ← sel_fin hN hP hW]
      exact hM
set_option maxRecDepth 20000 in
set_option maxHeartbeats 8000000 in
theorem l5All_any (cs : List Value) (x : AlgebraM) (w : World) (h : shAlgebra.rd w cs x) (hx : AlgP x) :
    Calls Tryz.prog 42 #[.agg cs.toArray] w (fun e w' => ∃ A q c, e = .returned (.slice A q c) ∧ RdL (RV RI) w' A q (subsL x) ∧ Below w.heap.size w w') := by
  have hrd := h
  obtain ⟨B, m, d, rfl, -, -⟩ := rdAlgebra h
  obtain ⟨z, ops⟩ := x
  obtain ⟨n, rfl⟩ : ∃ n : Nat, z = (n : Int) := ⟨z.toNat, by have h1 : 1 ≤ z := hx.1; omega⟩
  have hn8 : n ≤ 8 := by have h1 : (n : Int) ≤ 8 := hx.2.1; omega
  obtain ⟨P, HP⟩ : ∃ P, Hid (subB n ops = P) := ⟨_, Lib.hid rfl⟩
  have HSL : Hid (subsL ((n : Int), ops) = insA P (2 ^ n)) := by show _ = _; unfold subsL; rw [← HP.out]; simp
  obtain ⟨N, HN⟩ : ∃ N : Nat, Hid (2 ^ n = N) := ⟨_, Lib.hid rfl⟩
  have hN : N ≤ 256 := by rw [← HN.out]; exact pow8 hn8
  rw [HN.out] at HSL
  obtain ⟨w0, hw0, T0, hsz0, BP⟩ := boxes1 w #[.int .i64 (n : Int), .slice B m d] 26
  have HW0 := Lib.hid hw0
  have HRD : Hid (∀ wz, Below w0.heap.size w0 wz → shAlgebra.rd wz [.int .i64 (n : Int), .slice B m d] ((n : Int), ops)) := fun wz hz => shAlgebra.stab (shAlgebra.stab hrd T0.block) hz.block
  have hT1 : Below w0.heap.size w0 (w0.alloc (.cells #[] 27)) := below_box _ _
  clear hw0 hrd h
  go_enter Tryz.func42, Tryz.ntmps42
  go_upto_region 1 with fail
  rw [← HW0.out]
  go_wp2_with fail
  go_loopw [3, 4] (fun v j wr => ∃ k : Nat, k ≤ N ∧ j = .int .i64 k ∧ OutM wr v (insA P k) ∧ Below w0.heap.size w0 wr) (fun _ j _ => N - (intOf j).toNat)
  case atStart => exact ⟨0, Nat.zero_le _, rfl, ⟨_, _, _, _, rfl, Nat.le_refl _, RdL.nil _ _ _⟩, hT1⟩
  case round =>
    clear hT1
    obtain ⟨k, hk, rfl, ⟨ob, oo, on, oc, rfl, hoc, ho⟩, hT⟩ := hrel
    have hpw : (1 : Int) * 2 ^ n = (N : Int) := by rw [← HN.out]; simp
    have hpw2 : (2 : Int) ^ n = (N : Int) := by rw [← HN.out]; simp
    have hol := insA_len P k
    rw [ho.len] at hol
    have cP0 := (BP.next hT).cell 0
    simp at cP0
    have hT0r := below_next T0 hT rfl
    by_cases hlt : k < N
    · have hk1 : (k : Int) < (N : Int) := by omega
      have HST : Hid (insA P (k + 1) = if P (bitsTo k 8) then insT (bitsTo k 8) (insA P k) else insA P k) := rfl
      have hbl := bits8_len k (by omega) 8 (by omega)
      have HBB : Hid (∀ x ∈ bitsTo k 8, -9223372036854775808 ≤ x ∧ x ≤ 9223372036854775807) := fun x hx => by
        have := bits8_bd k (by omega) x hx
        omega
      obtain ⟨acc, HA⟩ : ∃ acc, Hid (insA P k = acc) := ⟨_, rfl⟩
      obtain ⟨xs, HX⟩ : ∃ xs, Hid (bitsTo k 8 = xs) := ⟨_, rfl⟩
      rw [HA.out] at ho HST
      rw [HX.out] at hbl HBB HST
      have HB1 := l5Bits8_any k wr (by omega)
      rw [HX.out] at HB1
      have HB := Lib.hid HB1
      clear HB1
      go_upto_region 6 with (go_at_call 53; refine HB.out.mono ?_; rintro e w4 ⟨A4, c4, rfl, how4, hb4⟩)
      have hT4 := below_next hT hb4 rfl
      have hrx := rd_of_own (R := RI) how4 (RI_ints HBB.out)
      replace ho := ho.next stab_RVI hb4
      obtain ⟨r, HR⟩ : ∃ r, Hid (P xs = r) := ⟨_, rfl⟩
      have HF := l5Is_any [.int .i64 (n : Int), .slice B m d] ((n : Int), ops) A4 xs.length c4 xs w4 (HRD.out w4 hT4) hx hrx
      rw [show ((n : Int), ops).1.toNat = n from by simp, show subB n ((n : Int), ops).2 xs = P xs from by rw [← HP.out], HR.out] at HF
      have HF := Lib.hid HF
      rw [HR.out] at HST
      clear cP0
      have cP0 := (BP.next hT4).cell 0
      have cP1 := (BP.next hT4).cell 1
      simp at cP0 cP1
      clear how4 hb4
      rcases r with _ | _
      · have HS2 : Hid (insA P (k + 1) = acc) := by show _ = _; rw [HST.out]; simp
        go_wp2_with (go_at_call 86; refine HF.out.mono ?_; rintro e w5 ⟨rfl, hb5⟩)
        go_roundw
        case rel => exact ⟨k + 1, by omega, by go_num, ⟨ob, oo, on, oc, rfl, hoc, by rw [HS2.out]; exact ho.next stab_RVI hb5⟩, below_next hT4 hb5 rfl⟩
        case measure => simp [intOf]; omega
      · have HS2 : Hid (insA P (k + 1) = insT xs acc) := by show _ = _; rw [HST.out]; simp
        go_upto_region 7 with (go_at_call 86; refine HF.out.mono ?_; rintro e w5 ⟨rfl, hb5⟩)
        have hT5 := below_next hT4 hb5 rfl
        have HSO := Lib.hid (l5Sort_any ob oo on oc A4 xs.length c4 acc xs w5 (ho.next stab_RVI hb5) (hrx.next stab_RI hb5) hoc (by omega))
        go_wp2_with (go_at_call 55; refine HSO.out.mono ?_; rintro e w6 ⟨g6, c6, rfl, hc6, hr6, hb6⟩)
        have hT6 := below_next hT5 hb6 rfl
        go_roundw
        case rel => exact ⟨k + 1, by omega, by go_num, ⟨g6, 0, on + 1, c6, rfl, hc6, by rw [HS2.out]; exact hr6⟩, hT6⟩
        case measure => simp [intOf]; omega
    · obtain rfl : k = N := by omega
      have hk1 : ¬ (k : Int) < (k : Int) := by omega
      go_wp2_with fail
      go_ret
      exact ⟨some ⟨ob, oo, none⟩, on, ⟨oc, rfl⟩, by rw [HSL.out]; exact ho, hT0r⟩
/-- AllSubuniverses' answer. -/
noncomputable def asRes (x : AlgebraM) : List (List Int) := if algB x then subsL x else []
set_option maxHeartbeats 4000000 in
theorem implAS_any (cs : List Value) (x : AlgebraM) (w : World) (h : shAlgebra.rd w cs x) : Calls Tryz.prog 9 #[.agg cs.toArray] w (OwnMB w (asRes x) (algB x)) := by
  have hrd := h
  obtain ⟨B, m, d, rfl, -, -⟩ := rdAlgebra h
  obtain ⟨w0, hw0, T0, hsz0, BP⟩ := boxes1 w #[.int .i64 x.1, .slice B m d] 26
  have HW0 := Lib.hid hw0
  have hr0 := stab_same hrd T0
  have cP0 := BP.cell 0
  have cP1 := BP.cell 1
  simp at cP0 cP1
  have HG := Lib.hid (isAlgebra_any [.int .i64 x.1, .slice B m d] x w0 hr0)
  obtain ⟨r, HR⟩ : ∃ r, Hid (algB x = r) := ⟨_, rfl⟩
  rw [HR.out] at HG ⊢
  clear hw0 hrd h
  go_enter Tryz.func9, Tryz.ntmps9
  go_upto_region 1 with fail
  rw [← HW0.out]
  go_wp2_with fail
  refine HG.out.mono ?_
  rintro e w1 ⟨rfl, hb1⟩
  have T1 := below_next T0 hb1 rfl
  have hr1 := stab_same hr0 hb1
  clear cP0 cP1 HG hr0
  have cP0 := (BP.next hb1).cell 0
  have cP1 := (BP.next hb1).cell 1
  simp at cP0 cP1
  rcases r with _ | _
  · have HF : Hid (asRes x = []) := by show _ = _; unfold asRes; rw [HR.out]; rfl
    go_wp2_with fail
    go_ret2
    exact ⟨_, 0, 0, rfl, by rw [HF.out]; exact mat_lit T1, below_next T1 (below_box _ _) rfl⟩
  · have HF : Hid (asRes x = subsL x) := by show _ = _; unfold asRes; rw [HR.out]; rfl
    have HA := Lib.hid (allSubs_any [.int .i64 x.1, .slice B m d] x w1 hr1 (alg_iff.1 HR.out))
    go_wp2_with fail
    refine HA.out.mono ?_
    rintro e w2 ⟨A, q, c, rfl, hM, hb2⟩
    go_wp2_with fail
    go_ret2
    exact ⟨A, q, c, rfl, by rw [HF.out]; exact hM.mono T1.size, below_next T1 hb2 rfl⟩
set_option maxHeartbeats 4000000 in
theorem specAS_any (cs : List Value) (x : AlgebraM) (w : World) (h : shAlgebra.rd w cs x) : Calls Tryz.prog 10 #[.agg cs.toArray] w (RdMB w (asRes x) (algB x)) := by
  have hrd := h
  obtain ⟨B, m, d, rfl, -, -⟩ := rdAlgebra h
  obtain ⟨w0, hw0, T0, hsz0, BP⟩ := boxes1 w #[.int .i64 x.1, .slice B m d] 26
  have HW0 := Lib.hid hw0
  have hr0 := stab_same hrd T0
  have cP0 := BP.cell 0
  have cP1 := BP.cell 1
  simp at cP0 cP1
  have HG := Lib.hid (l2Good_any [.int .i64 x.1, .slice B m d] x w0 hr0)
  obtain ⟨r, HR⟩ : ∃ r, Hid (algB x = r) := ⟨_, rfl⟩
  rw [HR.out] at HG ⊢
  clear hw0 hrd h
  go_enter Tryz.func10, Tryz.ntmps10
  go_upto_region 1 with fail
  rw [← HW0.out]
  go_wp2_with fail
  refine HG.out.mono ?_
  rintro e w1 ⟨rfl, hb1⟩
  have T1 := below_next T0 hb1 rfl
  have hr1 := stab_same hr0 hb1
  clear cP0 cP1 HG hr0
  have cP0 := (BP.next hb1).cell 0
  have cP1 := (BP.next hb1).cell 1
  simp at cP0 cP1
  rcases r with _ | _
  · have HF : Hid (asRes x = []) := by show _ = _; unfold asRes; rw [HR.out]; rfl
    go_wp2_with fail
    go_ret2
    exact ⟨_, 0, 0, rfl, by rw [HF.out]; exact RdL.nil _ _ _, below_next T1 (below_box _ _) rfl⟩
  · have HF : Hid (asRes x = subsL x) := by show _ = _; unfold asRes; rw [HR.out]; rfl
    have HA := Lib.hid (l5All_any [.int .i64 x.1, .slice B m d] x w1 hr1 (alg_iff.1 HR.out))
    go_wp2_with fail
    refine HA.out.mono ?_
    rintro e w2 ⟨A, q, c, rfl, hM, hb2⟩
    go_wp2_with fail
    go_ret2
    exact ⟨A, q, c, rfl, by rw [HF.out]; exact hM, below_next T1 hb2 rfl⟩
/-- A valid algebra and at most 20 elements of it. -/
def elB (x : AlgebraM) (L : List Int) : Bool := algB x && (decide (L.length ≤ 20) && allIn 0 (x.1 - 1) L)
set_option maxHeartbeats 4000000 in
theorem areEl_any (cs : List Value) (x : AlgebraM) (A : Option Addr) (k c : Nat) (L : List Int) (w : World) (h : shAlgebra.rd w cs x) (hl : RdL RI w A k L) : Calls Tryz.prog 31 #[.agg cs.toArray, .slice A k c] w (Bl w (.bool (elB x L))) := by
  have hrd := h
  have hll := hl.len
  obtain ⟨B, m, d, rfl, -, -⟩ := rdAlgebra h
  obtain ⟨w0, hw0, T0, hsz0, BP⟩ := boxes1 w #[.int .i64 x.1, .slice B m d] 26
  have HW0 := Lib.hid hw0
  have hr0 := stab_same hrd T0
  have cP0 := BP.cell 0
  have cP1 := BP.cell 1
  simp at cP0 cP1
  have HG := Lib.hid (isAlgebra_any [.int .i64 x.1, .slice B m d] x w0 hr0)
  have HLL := Lib.hid hll
  clear hw0 hrd h hll
  go_enter Tryz.func31, Tryz.ntmps31
  go_upto_region 1 with fail
  rw [← HW0.out]
  obtain ⟨r, HR⟩ : ∃ r, Hid (algB x = r) := ⟨_, rfl⟩
  rw [HR.out] at HG
  rcases r with _ | _
  · have HF : Hid (elB x L = false) := by show _ = _; unfold elB; rw [HR.out]; rfl
    go_wp2_with fail
    refine HG.out.mono ?_
    rintro e w1 ⟨rfl, hb1⟩
    go_wp2_with fail
    go_ret
    exact ⟨by rw [HF.out]; rfl, below_next T0 hb1 rfl⟩
  · by_cases h20 : k ≤ 20
    · have h20i : (k : Int) ≤ 20 := by omega
      have HF : Hid (elB x L = allIn 0 (x.1 - 1) L) := by show _ = _; unfold elB; rw [HR.out, decide_eq_true (by rw [HLL.out]; exact h20)]; rfl
      go_wp2_with fail
      refine HG.out.mono ?_
      rintro e w1 ⟨rfl, hb1⟩
      have T1 := below_next T0 hb1 rfl
      clear cP0 cP1 HG
      have cP0 := (BP.next hb1).cell 0
      have cP1 := (BP.next hb1).cell 1
      simp at cP0 cP1
      have HI := Lib.hid (inSize_any A k c L x.1 w1 (hl.next stab_RI T1))
      go_wp2_with fail
      refine HI.out.mono ?_
      rintro e wq ⟨rfl, rfl⟩
      go_wp2_with fail
      go_ret
      exact ⟨by rw [HF.out]; rfl, T1⟩
    · have h20i : ¬ (k : Int) ≤ 20 := by omega
      have HF : Hid (elB x L = false) := by show _ = _; unfold elB; rw [HR.out, decide_eq_false (by rw [HLL.out]; exact h20)]; rfl
      have h20n : 20 < k := by omega
      go_wp2_with fail
      refine HG.out.mono ?_
      rintro e w1 ⟨rfl, hb1⟩
      clear cP0 cP1
      have cP0 := (BP.next hb1).cell 0
      have cP1 := (BP.next hb1).cell 1
      simp at cP0 cP1
      go_wp2_with fail
      all_goals (try (exfalso; omega))
      go_ret
      exact ⟨by rw [HF.out]; rfl, below_next T0 hb1 rfl⟩
set_option maxHeartbeats 4000000 in
theorem l5Some_any (cs : List Value) (x : AlgebraM) (A : Option Addr) (k c : Nat) (L : List Int) (w : World) (h : shAlgebra.rd w cs x) (hl : RdL RI w A k L) : Calls Tryz.prog 35 #[.agg cs.toArray, .slice A k c] w (Bl w (.bool (elB x L))) := by
  have hrd := h
  have hll := hl.len
  obtain ⟨B, m, d, rfl, -, -⟩ := rdAlgebra h
  obtain ⟨w0, hw0, T0, hsz0, BP⟩ := boxes1 w #[.int .i64 x.1, .slice B m d] 26
  have HW0 := Lib.hid hw0
  have hr0 := stab_same hrd T0
  have cP0 := BP.cell 0
  have cP1 := BP.cell 1
  simp at cP0 cP1
  have HG := Lib.hid (l2Good_any [.int .i64 x.1, .slice B m d] x w0 hr0)
  have HLL := Lib.hid hll
  clear hw0 hrd h hll
  go_enter Tryz.func35, Tryz.ntmps35
  go_upto_region 1 with fail
  rw [← HW0.out]
  obtain ⟨r, HR⟩ : ∃ r, Hid (algB x = r) := ⟨_, rfl⟩
  rw [HR.out] at HG
  rcases r with _ | _
  · have HF : Hid (elB x L = false) := by show _ = _; unfold elB; rw [HR.out]; rfl
    go_wp2_with fail
    refine HG.out.mono ?_
    rintro e w1 ⟨rfl, hb1⟩
    go_wp2_with fail
    go_ret
    exact ⟨by rw [HF.out]; rfl, below_next T0 hb1 rfl⟩
  · by_cases h20 : k ≤ 20
    · have h20i : (k : Int) ≤ 20 := by omega
      have HF : Hid (elB x L = allIn 0 (x.1 - 1) L) := by show _ = _; unfold elB; rw [HR.out, decide_eq_true (by rw [HLL.out]; exact h20)]; rfl
      go_wp2_with fail
      refine HG.out.mono ?_
      rintro e w1 ⟨rfl, hb1⟩
      have T1 := below_next T0 hb1 rfl
      clear cP0 cP1 HG
      have cP0 := (BP.next hb1).cell 0
      have cP1 := (BP.next hb1).cell 1
      simp at cP0 cP1
      have HI := Lib.hid (l2Elements_any A k c L x.1 w1 (hl.next stab_RI T1) (by have := (alg_iff.1 HR.out).1; omega) (by have := (alg_iff.1 HR.out).2.1; omega))
      go_wp2_with fail
      refine HI.out.mono ?_
      rintro e wq ⟨rfl, rfl⟩
      go_wp2_with fail
      go_ret
      exact ⟨by rw [HF.out]; rfl, T1⟩
    · have h20i : ¬ (k : Int) ≤ 20 := by omega
      have HF : Hid (elB x L = false) := by show _ = _; unfold elB; rw [HR.out, decide_eq_false (by rw [HLL.out]; exact h20)]; rfl
      have h20n : 20 < k := by omega
      go_wp2_with fail
      refine HG.out.mono ?_
      rintro e w1 ⟨rfl, hb1⟩
      clear cP0 cP1
      have cP0 := (BP.next hb1).cell 0
      have cP1 := (BP.next hb1).cell 1
      simp at cP0 cP1
      go_wp2_with fail
      all_goals (try (exfalso; omega))
      go_ret
      exact ⟨by rw [HF.out]; rfl, below_next T0 hb1 rfl⟩
theorem el_parts {x : AlgebraM} {L : List Int} (h : elB x L = true) : AlgP x ∧ L.length ≤ 20 ∧ ∀ v ∈ L, 0 ≤ v ∧ v ≤ x.1 - 1 := by
  unfold elB at h
  rw [Bool.and_eq_true, Bool.and_eq_true, decide_eq_true_eq, allIn_m] at h
  exact ⟨alg_iff.1 h.1, h.2.1, h.2.2⟩
/-- GenerateSub's answer. -/
noncomputable def gsRes (x : AlgebraM) (L : List Int) : List Int := if elB x L then genL x.1.toNat x.2 L else []
set_option maxHeartbeats 4000000 in
theorem implGS_any (cs : List Value) (x : AlgebraM) (A : Option Addr) (k c : Nat) (L : List Int) (w : World) (h : shAlgebra.rd w cs x) (hl : RdL RI w A k L) : Calls Tryz.prog 15 #[.agg cs.toArray, .slice A k c] w (OwnB w (gsRes x L) (elB x L)) := by
  have hrd := h
  obtain ⟨B, m, d, rfl, -, -⟩ := rdAlgebra h
  obtain ⟨w0, hw0, T0, hsz0, BP⟩ := boxes1 w #[.int .i64 x.1, .slice B m d] 26
  have HW0 := Lib.hid hw0
  have hr0 := stab_same hrd T0
  have hl0 := hl.next stab_RI T0
  have cP0 := BP.cell 0
  have cP1 := BP.cell 1
  simp at cP0 cP1
  have HG := Lib.hid (areEl_any [.int .i64 x.1, .slice B m d] x A k c L w0 hr0 hl0)
  obtain ⟨r, HR⟩ : ∃ r, Hid (elB x L = r) := ⟨_, rfl⟩
  rw [HR.out] at HG ⊢
  clear hw0 hrd h hl
  go_enter Tryz.func15, Tryz.ntmps15
  go_upto_region 1 with fail
  rw [← HW0.out]
  go_wp2_with fail
  refine HG.out.mono ?_
  rintro e w1 ⟨rfl, hb1⟩
  have T1 := below_next T0 hb1 rfl
  have hr1 := stab_same hr0 hb1
  have hl1 := hl0.next stab_RI hb1
  clear cP0 cP1 HG hr0 hl0
  have cP0 := (BP.next hb1).cell 0
  have cP1 := (BP.next hb1).cell 1
  simp at cP0 cP1
  rcases r with _ | _
  · have HF : Hid (gsRes x L = []) := by show _ = _; unfold gsRes; rw [HR.out]; rfl
    go_wp2_with fail
    go_ret2
    exact ⟨_, 0, 0, rfl, by rw [HF.out]; exact own_lit0 T1, below_next T1 (below_box _ _) rfl⟩
  · have HF : Hid (gsRes x L = genL x.1.toNat x.2 L) := by show _ = _; unfold gsRes; rw [HR.out]; rfl
    obtain ⟨hax, -, hin⟩ := el_parts HR.out
    have HA := Lib.hid (generate_any [.int .i64 x.1, .slice B m d] x A k c L w1 hr1 hax hl1 hin)
    go_wp2_with fail
    refine HA.out.mono ?_
    rintro e w2 ⟨A2, c2, rfl, hM, hb2⟩
    go_wp2_with fail
    go_ret2
    exact ⟨A2, _, c2, rfl, by rw [HF.out]; exact own_mono hM T1.size, below_next T1 hb2 rfl⟩
/-- The first k members are not generated by the others. -/
noncomputable def indTo (n : Nat) (ops : List OpM) (xs : List Int) : Nat → Bool
  | 0 => true
  | k + 1 => indTo n ops xs k && !(hasI (xs.getD k 0) (genL n ops (xs.take k ++ xs.drop (k + 1))))
noncomputable def indB (x : AlgebraM) (L : List Int) : Bool := indTo x.1.toNat x.2 L L.length
theorem indTo_no {n : Nat} {ops : List OpM} {xs : List Int} : ∀ {k j : Nat}, j ≤ k → indTo n ops xs j = false → indTo n ops xs k = false
  | 0, j, h, e => by
    obtain rfl : j = 0 := by omega
    exact e
  | k + 1, j, h, e => by
    by_cases h2 : j = k + 1
    · rw [← h2]; exact e
    · rw [indTo, indTo_no (show j ≤ k by omega) e]; rfl
end Go.Proofs.YtkmgbdljiajlaaaGreat
