
/- Walks: where a term ends, is a list a term; in the program and in the reference. -/
import Derived.Test.YtidjocikbmkjbaaGreatTermP
namespace Go.Proofs.YtidjocikbmkjbaaGreat
open Go.RowKit
set_option linter.unusedVariables false

theorem op_nat {n : Nat} {o : OpM} (h : OpP n o) : ∃ (a : Nat) (tb : List Int), o = ((a : Int), tb) ∧ a ≤ 3 := by
  obtain ⟨k, tb⟩ := o
  obtain ⟨a, ha⟩ := Int.eq_ofNat_of_zero_le h.1
  have h2 := h.2.1
  simp only at ha h2
  exact ⟨a, tb, by rw [ha], by omega⟩
set_option maxRecDepth 20000 in
set_option maxHeartbeats 4000000 in
theorem endOf_any (cs : List Value) (x : AlgebraM) (A : Option Addr) (n c : Nat) (t : List Int) (a0 : Nat) (w : World) (h : shAlgebra.rd w cs x) (ht : RdL RI w A n t) (N : Nat) (hops : ∀ o ∈ x.2, OpP N o) (hl : x.2.length ≤ 4) (hn : n ≤ 60) (ha : a0 ≤ n) :
    Calls Tryz.prog 113 #[.agg cs.toArray, .slice A n c, .int .i64 a0] w (Bl w (.int .i64 (endI x.2 t a0))) := by
  obtain ⟨a, ops⟩ := x
  obtain ⟨B, m, d, rfl, -, qo⟩ := rdAlgebra h
  have hml := qo.len
  have hm4 : m ≤ 4 := by simp only at hl hml; omega
  have HLN := Lib.hid ht.len
  obtain ⟨w0, hw0, T0, hsz0, BP⟩ := boxes1 w #[.int .i64 a, .slice B m d] 39
  have HW0 := Lib.hid hw0
  replace qo := qo.next T0
  replace ht := ht.next stab_RI T0
  have HM := Lib.hid hml
  have HOPS := Lib.hid hops
  clear hw0 hops hml hl h
  go_enter Tryz.func113, Tryz.ntmps113
  go_wp2_with fail
  rw [← HW0.out]
  go_loopw [2, 7, 8] (fun p q _ wr => ∃ k need : Nat, k ≤ n ∧ p = .int .i64 k ∧ q = .int .i64 need ∧ Hid (EnI ops t a0 k need) ∧ Below w0.heap.size w0 wr) (fun p _ _ _ => n - (intOf p).toNat)
  case atStart => exact ⟨a0, 1, ha, rfl, rfl, EnI.start _ _ _, Below.refl _ _⟩
  case round =>
    obtain ⟨k, need, hk, rfl, rfl, HE, hT⟩ := hrel
    have q' := qo.next hT
    have hneed : need ≤ 1000 := by have := HE.out.2.2; omega
    have cP := (BP.next hT).cell 1
    simp at cP
    rcases Nat.eq_zero_or_pos need with rfl | h0
    · have hn0 : ¬ (0 : Int) < ((0 : Nat) : Int) := by omega
      go_wp2_with fail
      go_ret
      exact ⟨ret_int HE.out.done.symm, below_next T0 hT rfl⟩
    · have hn0 : (0 : Int) < (need : Int) := by omega
      by_cases hlt : k < n
      · have hk0 : (0 : Int) ≤ (k : Int) := by omega
        have hk1 : (k : Int) < (n : Int) := by omega
        have hk2 : ¬ (n : Int) ≤ (k : Int) := by omega
        obtain ⟨b, o, u, v, rfl, hc, ⟨rfl, hv0, hv1⟩, -, hx⟩ := (ht.next stab_RI hT).at hlt
        have HX := Lib.hid hx
        clear hx
        by_cases h6 : 6 ≤ v
        · have HB : Hid (badV ops v = true) := by show _ = _; unfold badV; rw [decide_eq_true h6]; rfl
          go_wp2_with fail
          go_ret
          exact ⟨ret_int (HE.out.bad h0 HX.out HB.out).symm, below_next T0 hT rfl⟩
        · by_cases hlo : v < -(m : Int)
          · have HB : Hid (badV ops v = true) := by show _ = _; unfold badV; rw [HM.out, decide_eq_true hlo, Bool.or_true]
            go_wp2_with fail
            go_ret
            exact ⟨ret_int (HE.out.bad h0 HX.out HB.out).symm, below_next T0 hT rfl⟩
          · have HB : Hid (badV ops v = false) := by show _ = _; unfold badV; rw [HM.out, decide_eq_false hlo, decide_eq_false h6]; rfl
            by_cases hv : 0 ≤ v
            · have HN : Hid (EnI ops t a0 (k + 1) (need - 1)) := by
                have e : adV ops v = 0 := by unfold adV; rw [if_pos hv]
                have := HE.out.next h0 HX.out HB.out (by omega)
                rw [e] at this
                exact this
              go_wp2_with fail
              go_roundw
              case rel => exact ⟨k + 1, need - 1, by omega, by go_num, by go_num, HN, hT⟩
              case measure => simp [intOf]; omega
            · obtain ⟨ob, hob, hobP, ha1, -, hjl⟩ := op_at HOPS.out HB.out hv
              have h3 := adV_le HOPS.out HB.out
              have e : adV ops v = arF ops v := by unfold adV; rw [if_neg hv]
              rw [e] at h3
              have HN := Lib.hid (HE.out.next h0 HX.out HB.out (by omega))
              rw [e] at HN
              obtain ⟨ar, tb, rfl, har⟩ := op_nat hobP
              have ha2 : arF ops v = ar := by rw [ha1]; simp
              rw [ha2] at HN
              obtain ⟨j, hj⟩ : ∃ j, j = (-1 - v).toNat := ⟨_, rfl⟩
              rw [← hj] at hob hjl
              have hjm : j < m := by rw [← HM.out]; exact hjl
              obtain ⟨b2, o2, vs, y, rfl, -, hc2, hr2, -, hy⟩ := q'.at hjm
              rw [hob] at hy
              injection hy with hy
              subst hy
              obtain ⟨B', m', d', rfl, -, qt⟩ := rdOp hr2
              have cc0 : wr.cell? ⟨b2, o2 + j * 2, none⟩ = some (.int .i64 (ar : Int)) := hc2 0 _ rfl
              have ej : (-1 : Int) - v = (j : Int) := by omega
              have hj0 : (0 : Int) ≤ (j : Int) := by omega
              have hj1 : (j : Int) < (m : Int) := by omega
              clear hc2 hr2 hob hjl hj e ha1 ha2 hobP qt q'
              go_wp2_with fail
              go_roundw
              case rel => exact ⟨k + 1, need - 1 + ar, by omega, by go_num, by go_num, HN, hT⟩
              case measure => simp [intOf]; omega
      · have hk2 : (n : Int) ≤ (k : Int) := by omega
        go_wp2_with fail
        go_ret
        exact ⟨ret_int (HE.out.over h0 (by rw [HLN.out]; exact hlt)).symm, below_next T0 hT rfl⟩
set_option maxHeartbeats 1000000 in
theorem isTerm_any (cs : List Value) (x : AlgebraM) (A : Option Addr) (n c : Nat) (t : List Int) (w : World) (h : shAlgebra.rd w cs x) (ht : RdL RI w A n t) (N : Nat) (hops : ∀ o ∈ x.2, OpP N o) (hl : x.2.length ≤ 4) :
    Calls Tryz.prog 104 #[.agg cs.toArray, .slice A n c] w (Bl w (.bool (termB x.2 t))) := by
  have hle := ht.le
  have HLN := Lib.hid ht.len
  have hrd := h
  obtain ⟨B, m, d, rfl, -, qo⟩ := rdAlgebra h
  obtain ⟨w0, hw0, T0, hsz0, BP⟩ := boxes1 w #[.int .i64 x.1, .slice B m d] 39
  have HW0 := Lib.hid hw0
  replace hrd := shAlgebra.stab hrd T0.block
  replace ht := ht.next stab_RI T0
  have cP0 := BP.cell 0
  have cP1 := BP.cell 1
  simp at cP0 cP1
  rw [HW0.out] at cP0 cP1
  clear hw0 qo
  by_cases h60 : n ≤ 60
  · have h6 : (n : Int) ≤ 60 := by omega
    have HC := Lib.hid (endOf_any _ x A n c t 0 w0 hrd ht N hops hl h60 (by omega))
    have HR : Hid (termB x.2 t = decide (endI x.2 t 0 = (n : Int))) := by
      show _ = _
      unfold termB
      rw [HLN.out, decide_eq_true h60]
      rfl
    clear hops hl
    go_enter Tryz.func104, Tryz.ntmps104
    go_wp2_with fail
    rw [← HW0.out]
    refine HC.out.mono ?_
    rintro e w1 ⟨rfl, hb⟩
    go_wp2_with fail
    go_ret
    exact ⟨ret_bool (by rw [HR.out, Bool.eq_iff_iff]; simp), below_next T0 hb rfl⟩
  · have h6 : ¬ (n : Int) ≤ 60 := by omega
    have HR : Hid (termB x.2 t = false) := by show _ = _; unfold termB; rw [HLN.out, decide_eq_false h60]; rfl
    clear hops hl
    go_enter Tryz.func104, Tryz.ntmps104
    go_wp2_with fail
    go_ret
    exact ⟨ret_bool HR.out.symm, by first | exact below_box _ _ | (rw [← HW0.out]; exact T0)⟩
end Go.Proofs.YtidjocikbmkjbaaGreat
namespace Go.Proofs.YtidjocikbmkjbaaGreat
open Go.RowKit
set_option linter.unusedVariables false

set_option maxRecDepth 20000 in
set_option maxHeartbeats 4000000 in
theorem l3End_any (cs : List Value) (x : AlgebraM) (A : Option Addr) (n c : Nat) (t : List Int) (a0 : Nat) (w : World) (h : shAlgebra.rd w cs x) (ht : RdL RI w A n t) (N : Nat) (hops : ∀ o ∈ x.2, OpP N o) (hl : x.2.length ≤ 4) (hn : n ≤ 60) (ha : a0 ≤ n) :
    Calls Tryz.prog 100 #[.agg cs.toArray, .slice A n c, .int .i64 a0] w (Bl w (.int .i64 (endI x.2 t a0))) := by
  obtain ⟨a, ops⟩ := x
  obtain ⟨B, m, d, rfl, -, qo⟩ := rdAlgebra h
  have hml := qo.len
  have hm4 : m ≤ 4 := by simp only at hl hml; omega
  have HLN := Lib.hid ht.len
  obtain ⟨w0, hw0, T0, hsz0, BP⟩ := boxes1 w #[.int .i64 a, .slice B m d] 39
  have HW0 := Lib.hid hw0
  replace qo := qo.next T0
  replace ht := ht.next stab_RI T0
  have HM := Lib.hid hml
  have HOPS := Lib.hid hops
  clear hw0 hops hml hl h
  go_enter Tryz.func100, Tryz.ntmps100
  go_wp2_with fail
  rw [← HW0.out]
  go_loopw [7, 8] (fun q p wr => ∃ k need : Nat, k ≤ n ∧ p = .int .i64 k ∧ q = .int .i64 need ∧ 0 < need ∧ Hid (EnI ops t a0 k need) ∧ Below w0.heap.size w0 wr) (fun _ p _ => n - (intOf p).toNat)
  case atStart => exact ⟨a0, 1, ha, rfl, rfl, Nat.one_pos, EnI.start _ _ _, Below.refl _ _⟩
  case round =>
    obtain ⟨k, need, hk, rfl, rfl, h0, HE, hT⟩ := hrel
    have q' := qo.next hT
    have hneed : need ≤ 1000 := by have := HE.out.2.2; omega
    have cP := (BP.next hT).cell 1
    simp at cP
    by_cases hlt : k < n
    · have hk0 : (0 : Int) ≤ (k : Int) := by omega
      have hk1 : (k : Int) < (n : Int) := by omega
      obtain ⟨b, o, u, v, rfl, hc, ⟨rfl, hv0, hv1⟩, -, hx⟩ := (ht.next stab_RI hT).at hlt
      have HX := Lib.hid hx
      clear hx
      by_cases hv : 0 ≤ v
      · have hvn : ¬ v < 0 := by omega
        by_cases h6 : 6 ≤ v
        · have HB : Hid (badV ops v = true) := by show _ = _; unfold badV; rw [decide_eq_true h6]; rfl
          go_wp2_with fail
          go_ret
          exact ⟨ret_int (HE.out.bad h0 HX.out HB.out).symm, (by first | exact below_next T0 hT rfl | exact below_drewN (below_next T0 hT rfl) _ | exact below_drewN (below_drewN (below_next T0 hT rfl) _) _ | exact below_drewN (below_drewN (below_drewN (below_next T0 hT rfl) _) _) _)⟩
        · have hlo : ¬ v < -(m : Int) := by omega
          have HB : Hid (badV ops v = false) := by show _ = _; unfold badV; rw [HM.out, decide_eq_false hlo, decide_eq_false h6]; rfl
          have HN : Hid (EnI ops t a0 (k + 1) (need - 1)) := by
            have e : adV ops v = 0 := by unfold adV; rw [if_pos hv]
            have := HE.out.next h0 HX.out HB.out (by omega)
            rw [e] at this
            exact this
          obtain ⟨nd, HND⟩ : ∃ nd, Hid (need = nd + 1) := ⟨need - 1, by show _ = _; omega⟩
          have hnd := HND.out
          subst hnd
          rcases Nat.eq_zero_or_pos nd with rfl | h1
          · have e0 : (((0 + 1 : Nat) : Int) - 1 == 0) = true := by rfl
            go_wp2_with fail
            go_ret
            exact ⟨ret_int (by have := HN.out.done; rw [this]; omega), (by first | exact below_next T0 hT rfl | exact below_drewN (below_next T0 hT rfl) _ | exact below_drewN (below_drewN (below_next T0 hT rfl) _) _ | exact below_drewN (below_drewN (below_drewN (below_next T0 hT rfl) _) _) _)⟩
          · have e0 : (((nd + 1 : Nat) : Int) - 1 == 0) = false := by rw [beq_eq_false_iff_ne]; omega
            go_wp2_with fail
            go_roundw
            case rel => exact ⟨k + 1, nd, by omega, by go_num, by go_num, h1, HN, (by first | exact hT | exact below_drewN (hT) _ | exact below_drewN (below_drewN (hT) _) _ | exact below_drewN (below_drewN (below_drewN (hT) _) _) _)⟩
            case measure => simp [intOf]; omega
      · have hvn : v < 0 := by omega
        by_cases hlo : v < -(m : Int)
        · have HB : Hid (badV ops v = true) := by show _ = _; unfold badV; rw [HM.out, decide_eq_true hlo, Bool.or_true]
          have HI : Hid (inB v (-(m : Int)) (-1) = false) := by show _ = _; unfold inB; rw [decide_eq_false (by omega)]; rfl
          go_wp2_with fail
          go_quiet ((go_at_call 38; first | exact quiet_one (l1In_is HI.out) | exact quiet_add (l1In_is HI.out)))
          go_wp2_with fail
          go_ret
          exact ⟨ret_int (HE.out.bad h0 HX.out HB.out).symm, (by first | exact below_next T0 hT rfl | exact below_drewN (below_next T0 hT rfl) _ | exact below_drewN (below_drewN (below_next T0 hT rfl) _) _ | exact below_drewN (below_drewN (below_drewN (below_next T0 hT rfl) _) _) _)⟩
        · have h6 : ¬ 6 ≤ v := by omega
          have HB : Hid (badV ops v = false) := by show _ = _; unfold badV; rw [HM.out, decide_eq_false hlo, decide_eq_false h6]; rfl
          have HI : Hid (inB v (-(m : Int)) (-1) = true) := by show _ = _; unfold inB; rw [decide_eq_true (by omega), decide_eq_true (by omega)]; rfl
          obtain ⟨ob, hob, hobP, ha1, -, hjl⟩ := op_at HOPS.out HB.out hv
          have h3 := adV_le HOPS.out HB.out
          have e : adV ops v = arF ops v := by unfold adV; rw [if_neg hv]
          rw [e] at h3
          have HN := Lib.hid (HE.out.next h0 HX.out HB.out (by omega))
          rw [e] at HN
          obtain ⟨ar, tb, rfl, har⟩ := op_nat hobP
          have ha2 : arF ops v = ar := by rw [ha1]; simp
          rw [ha2] at HN
          obtain ⟨j, hj⟩ : ∃ j, j = (-1 - v).toNat := ⟨_, rfl⟩
          rw [← hj] at hob hjl
          have hjm : j < m := by rw [← HM.out]; exact hjl
          obtain ⟨b2, o2, vs, y, rfl, -, hc2, hr2, -, hy⟩ := q'.at hjm
          rw [hob] at hy
          injection hy with hy
          subst hy
          obtain ⟨B', m', d', rfl, -, qt⟩ := rdOp hr2
          have cc0 : wr.cell? ⟨b2, o2 + j * 2, none⟩ = some (.int .i64 (ar : Int)) := hc2 0 _ rfl
          have ej : (-1 : Int) - v = (j : Int) := by omega
          have hj0 : (0 : Int) ≤ (j : Int) := by omega
          have hj1 : (j : Int) < (m : Int) := by omega
          obtain ⟨nd, HND⟩ : ∃ nd, Hid (need = nd + 1) := ⟨need - 1, by show _ = _; omega⟩
          have hnd := HND.out
          subst hnd
          have HN2 : Hid (EnI ops t a0 (k + 1) (nd + ar)) := by have := HN.out; rwa [Nat.add_sub_cancel] at this
          clear hc2 hr2 hob hjl hj e ha1 ha2 hobP qt q' HN
          rcases Nat.eq_zero_or_pos (nd + ar) with h1 | h1
          · obtain ⟨rfl, rfl⟩ : nd = 0 ∧ ar = 0 := by omega
            go_wp2_with fail
            go_quiet ((go_at_call 38; first | exact quiet_one (l1In_is HI.out) | exact quiet_add (l1In_is HI.out)))
            go_wp2_with fail
            go_quiet (fail)
            go_wp2_with fail
            go_ret
            exact ⟨ret_int (by have := HN2.out.done; rw [this]; omega), (by first | exact below_next T0 hT rfl | exact below_drewN (below_next T0 hT rfl) _ | exact below_drewN (below_drewN (below_next T0 hT rfl) _) _ | exact below_drewN (below_drewN (below_drewN (below_next T0 hT rfl) _) _) _)⟩
          · have e0 : (((nd + 1 : Nat) : Int) - 1 + (ar : Int) == 0) = false := by rw [beq_eq_false_iff_ne]; omega
            go_wp2_with fail
            go_quiet ((go_at_call 38; first | exact quiet_one (l1In_is HI.out) | exact quiet_add (l1In_is HI.out)))
            go_wp2_with fail
            go_quiet (fail)
            go_wp2_with fail
            go_roundw
            case rel => exact ⟨k + 1, nd + ar, by omega, by go_num, by go_num, h1, HN2, (by first | exact hT | exact below_drewN (hT) _ | exact below_drewN (below_drewN (hT) _) _ | exact below_drewN (below_drewN (below_drewN (hT) _) _) _)⟩
            case measure => simp [intOf]; omega
    · have hk2 : ¬ (k : Int) < (n : Int) := by omega
      go_wp2_with fail
      go_ret
      exact ⟨ret_int (HE.out.over h0 (by rw [HLN.out]; exact hlt)).symm, below_next T0 hT rfl⟩
set_option maxHeartbeats 1000000 in
theorem l3Good_any (cs : List Value) (x : AlgebraM) (A : Option Addr) (n c : Nat) (t : List Int) (w : World) (h : shAlgebra.rd w cs x) (ht : RdL RI w A n t) (N : Nat) (hops : ∀ o ∈ x.2, OpP N o) (hl : x.2.length ≤ 4) :
    Calls Tryz.prog 72 #[.agg cs.toArray, .slice A n c] w (Bl w (.bool (termB x.2 t))) := by
  have hle := ht.le
  have HLN := Lib.hid ht.len
  have hrd := h
  obtain ⟨B, m, d, rfl, -, qo⟩ := rdAlgebra h
  obtain ⟨w0, hw0, T0, hsz0, BP⟩ := boxes1 w #[.int .i64 x.1, .slice B m d] 39
  have HW0 := Lib.hid hw0
  replace hrd := shAlgebra.stab hrd T0.block
  replace ht := ht.next stab_RI T0
  have cP0 := BP.cell 0
  have cP1 := BP.cell 1
  simp at cP0 cP1
  rw [HW0.out] at cP0 cP1
  clear hw0 qo
  rcases Nat.eq_zero_or_pos n with rfl | hp
  · have HR : Hid (termB x.2 t = false) := by
      rcases e : termB x.2 t with _ | _
      · rfl
      · have := term_pos e; have := HLN.out; omega
    clear hops hl
    go_enter Tryz.func72, Tryz.ntmps72
    go_wp2_with fail
    go_ret
    exact ⟨ret_bool HR.out.symm, by first | exact below_box _ _ | (rw [← HW0.out]; exact T0)⟩
  have hp0 : (0 : Int) < (n : Int) := by omega
  by_cases h60 : n ≤ 60
  · have h6 : (n : Int) ≤ 60 := by omega
    have HC := Lib.hid (l3End_any _ x A n c t 0 w0 hrd ht N hops hl h60 (by omega))
    have HR : Hid (termB x.2 t = decide (endI x.2 t 0 = (n : Int))) := by
      show _ = _
      unfold termB
      rw [HLN.out, decide_eq_true h60]
      rfl
    clear hops hl
    go_enter Tryz.func72, Tryz.ntmps72
    go_wp2_with fail
    rw [← HW0.out]
    refine HC.out.mono ?_
    rintro e w1 ⟨rfl, hb⟩
    go_wp2_with fail
    go_ret
    exact ⟨ret_bool (by rw [HR.out, Bool.eq_iff_iff]; simp), below_next T0 hb rfl⟩
  · have h6 : ¬ (n : Int) ≤ 60 := by omega
    have HR : Hid (termB x.2 t = false) := by show _ = _; unfold termB; rw [HLN.out, decide_eq_false h60]; rfl
    clear hops hl
    go_enter Tryz.func72, Tryz.ntmps72
    go_wp2_with fail
    go_ret
    exact ⟨ret_bool HR.out.symm, by first | exact below_box _ _ | (rw [← HW0.out]; exact T0)⟩
end Go.Proofs.YtidjocikbmkjbaaGreat
