
/- Walks: FactsOfKind, in the program and in the reference. -/
import Derived.Test.YtkmcdocbdhhfhaaGreatLabW
import Derived.Test.YtkmcdocbdhhfhaaGreatCode
import Derived.Test.YtkmcdocbdhhfhaaGreatKFact
namespace Go.Proofs.YtkmcdocbdhhfhaaGreat
open Go.RowKit
set_option linter.unusedVariables false

theorem lab12 {x : LabM} (h : labB x = true) : x.2.2.1.length ≤ 12 := by
  by_cases hc : x.2.2.1.length ≤ 12
  · exact hc
  · rw [labB_many hc] at h; cases h
def fkR (kd : Int) : List FactM → Int → List Int
  | [], _ => []
  | f :: l, i => if f.1 = kd then i :: fkR kd l (i + 1) else fkR kd l (i + 1)
theorem fkR_bd (kd : Int) : ∀ (l : List FactM) (i : Int), ∀ y ∈ fkR kd l i, i ≤ y ∧ y < i + l.length
  | [], i, y, hy => by simp [fkR] at hy
  | f :: l, i, y, hy => by
    rw [List.length_cons]
    rw [fkR] at hy
    split at hy
    · rcases List.mem_cons.1 hy with rfl | hy
      · exact ⟨Int.le_refl _, by push_cast; omega⟩
      · have := fkR_bd kd l (i + 1) y hy
        exact ⟨by omega, by push_cast; omega⟩
    · have := fkR_bd kd l (i + 1) y hy
      exact ⟨by omega, by push_cast; omega⟩
noncomputable def fkOk (x : LabM) (kd : Int) : Bool := labB x && inB kd 1 6
noncomputable def fkM (x : LabM) (kd : Int) : List Int := if fkOk x kd then fkR kd x.2.2.1 0 else []
def FkAt (xs : List FactM) (kd : Int) (k : Nat) (acc : List Int) : Prop := acc ++ fkR kd (xs.drop k) k = fkR kd xs 0
theorem FkAt.zero (xs : List FactM) (kd : Int) : FkAt xs kd 0 [] := rfl
theorem FkAt.hit {xs : List FactM} {kd : Int} {k : Nat} {acc : List Int} {g : FactM} (h : FkAt xs kd k acc) (hd : xs.drop k = g :: xs.drop (k + 1)) (he : g.1 = kd) : FkAt xs kd (k + 1) (acc ++ [(k : Int)]) := by
  unfold FkAt at *
  rw [← h, hd, fkR, if_pos he, List.append_assoc]
  rfl
theorem FkAt.miss {xs : List FactM} {kd : Int} {k : Nat} {acc : List Int} {g : FactM} (h : FkAt xs kd k acc) (hd : xs.drop k = g :: xs.drop (k + 1)) (he : ¬ g.1 = kd) : FkAt xs kd (k + 1) acc := by
  unfold FkAt at *
  rw [← h, hd, fkR, if_neg he]
  rfl
theorem FkAt.done {xs : List FactM} {kd : Int} {k : Nat} {acc : List Int} (h : FkAt xs kd k acc) (hd : xs.drop k = []) : acc = fkR kd xs 0 := by
  unfold FkAt at h
  rwa [hd, fkR, List.append_nil] at h
theorem fk_ret {w w' : World} {x : LabM} {kd : Int} {L : List Int} {A : Option Addr} {c : Nat} {b : Bool} (hL : fkM x kd = L) (hb : fkOk x kd = b) (ho : w'.ownsRow w.heap.size 3 1 (.slice A L.length c) L.length (ints L)) (hx : x.2.2.1.length ≤ maxLen) (hT : Below w.heap.size w w') :
    OwV (Sh.il 3) w (fkM x kd) (fkOk x kd) (.returned (.tuple #[.slice A L.length c, .bool b])) w' := by
  refine ⟨_, _, by rw [hb], own_shape (xs := fkM x kd) (by rw [hL]; exact ho) (fun y hy => ?_), obl_iv ho, hT⟩
  unfold fkM at hy
  split at hy
  · have := fkR_bd kd x.2.2.1 0 y hy
    unfold maxLen at hx
    exact ⟨by omega, by omega⟩
  · simp at hy
theorem fkM_bad {x : LabM} {kd : Int} (h : fkOk x kd = false) : fkM x kd = [] := by unfold fkM; rw [h]; rfl
theorem fkM_ok {x : LabM} {kd : Int} (h : fkOk x kd = true) : fkM x kd = fkR kd x.2.2.1 0 := by unfold fkM; rw [h]; rfl
set_option maxRecDepth 20000 in
set_option maxHeartbeats 8000000 in
theorem specFK_any (cs : List Value) (x : LabM) (kd : Int) (w : World) (h : shLab.rd w cs x) :
    Calls Tryz.prog 17 #[.agg cs.toArray, .int .i64 kd] w (OwV (Sh.il 3) w (fkM x kd) (fkOk x kd)) := by
  have hrd := h
  obtain ⟨B, k, d, F, n, c, rfl, -, -, qF, -⟩ := rdLab h
  have hle := qF.le
  have hml : x.2.2.1.length ≤ maxLen := by rw [qF.len]; exact qF.2.1
  have HML := Lib.hid hml
  obtain ⟨w0, hw0, T0, hsz0, BP⟩ := boxes1 w #[.bool x.1, .int .i64 x.2.1.1, .slice B k d, .slice F n c, .int .i64 x.2.2.2] 35
  have hown0 := lit_below T0
  have T1 := below_next T0 (below_box w0 (.cells #[] 3)) rfl
  obtain ⟨w1, hw1⟩ : ∃ wb, wb = w0.alloc (.cells #[] 3) := ⟨_, rfl⟩
  replace BP : Blk w1 w.heap.size 35 #[.bool x.1, .int .i64 x.2.1.1, .slice B k d, .slice F n c, .int .i64 x.2.2.2] := by rw [hw1]; exact BP.alloc _
  rw [← hw1] at hown0 T1
  rw [hsz0] at hown0
  have HW : Hid (w1 = (w.alloc (.cells #[.bool x.1, .int .i64 x.2.1.1, .slice B k d, .slice F n c, .int .i64 x.2.2.2] 35)).alloc (.cells #[] 3)) := by show _ = _; rw [hw1, hw0]
  have HG := Lib.hid (l32Good_any _ x w1 (shLab.stab hrd T1.block))
  obtain ⟨lb, HLB⟩ : ∃ b, Hid (labB x = b) := ⟨_, rfl⟩
  obtain ⟨ib, HIB⟩ : ∃ b, Hid (inB kd 1 6 = b) := ⟨_, rfl⟩
  rw [HLB.out] at HG
  have HOK : Hid (fkOk x kd = (lb && ib)) := by show _ = _; unfold fkOk; rw [HLB.out, HIB.out]
  have HOWN := Lib.hid hown0
  clear hw0 hw1 T0 hrd h hsz0 hml hown0
  have cP0 := BP.cell 0
  have cP1 := BP.cell 1
  have cP2 := BP.cell 2
  have cP3 := BP.cell 3
  have cP4 := BP.cell 4
  simp at cP0 cP1 cP2 cP3 cP4
  go_enter Tryz.func17, Tryz.ntmps17
  go_upto_region 2 with fail
  rw [← HW.out]
  go_wp2_with fail
  refine HG.out.mono ?_
  rintro e w2 ⟨rfl, hb2⟩
  have T2 := below_next T1 hb2 rfl
  have HOWN2 := Lib.hid (own_next HOWN.out hb2)
  have B2 := BP.next hb2
  clear cP0 cP1 cP2 cP3 cP4
  rcases lb with _ | _
  · have HR := Lib.hid (fk_ret (L := []) (fkM_bad HOK.out) HOK.out HOWN2.out HML.out T2)
    go_wp2_with fail
    go_ret2
    exact HR.out
  have hn12 : n ≤ 12 := by have := lab12 HLB.out; rw [qF.len] at this; exact this
  rcases ib with _ | _
  · have HR := Lib.hid (fk_ret (L := []) (fkM_bad HOK.out) HOK.out HOWN2.out HML.out T2)
    go_wp2_with (go_at_call 44; refine (l1In_any _ _ _ _).mono ?_; rintro e w' ⟨rfl, rfl⟩; rw [HIB.out])
    go_ret2
    exact HR.out
  have cP3 := B2.cell 3
  simp at cP3
  go_wp2_with (go_at_call 44; refine (l1In_any _ _ _ _).mono ?_; rintro e w' ⟨rfl, rfl⟩; rw [HIB.out])
  go_loopw [6, 7] (fun v i wr => ∃ (j : Nat) (acc : List Int) (A : Option Addr) (cc : Nat), j ≤ n ∧ acc.length ≤ j ∧ i = .int .i64 j ∧ v = .slice A acc.length cc ∧ Hid (FkAt x.2.2.1 kd j acc) ∧ wr.ownsRow w.heap.size 3 1 (.slice A acc.length cc) acc.length (ints acc) ∧ Blk wr w.heap.size 35 #[.bool x.1, .int .i64 x.2.1.1, .slice B k d, .slice F n c, .int .i64 x.2.2.2] ∧ Below w.heap.size w wr) (fun _ i _ => n - (intOf i).toNat)
  case atStart => exact ⟨0, [], _, _, Nat.zero_le _, Nat.le_refl _, rfl, rfl, FkAt.zero _ _, HOWN2.out, B2, T2⟩
  case round =>
    clear T1 T2 B2 cP3 BP
    obtain ⟨j, acc, A, cc, hj, haj, rfl, rfl, HA, hown, BP, hTw⟩ := hrel
    have q' := qF.next hTw
    have cP := BP.cell 3
    simp at cP
    by_cases hlt : j < n
    · obtain ⟨b, o, vs, g, rfl, -, hc, hr, hd, -⟩ := q'.at hlt
      obtain ⟨BL, mL, eL, BR, mR, eR, BV, mV, eV, rfl, -, -, -, -⟩ := rdFact hr
      have cc0 : wr.cell? ⟨b, o + j * 4, none⟩ = some (.int .i64 g.1) := hc 0 _ rfl
      have hbase := hTw.size
      have hk0 : (0 : Int) ≤ (j : Int) := by omega
      have hk1 : (j : Int) < (n : Int) := by omega
      have HD := Lib.hid hd
      have hmx := q'.2.1
      have hlim : acc.length ≤ 1099511627776 := by omega
      clear hd hc hr hmx q'
      by_cases he : g.1 = kd
      · have HS := Lib.hid (HA.out.hit HD.out he)
        have hee : (g.1 == kd) = true := by simp [he]
        have HE := Lib.hid he
        clear he
        go_wp2_with (at_builtin; refine app1 wr rfl _ _ 39 3 rfl (.int .i64 0) 8 Tryz.underlying39 info_int rfl (by decide) w.heap.size acc.length cc A (ints acc) rfl hown (.int .i64 j) rfl rfl (by omega) hbase ?_; intro A2 c2 w2 hown2 hg2 hb2)
        go_roundw
        case rel => exact ⟨j + 1, acc ++ [(j : Int)], A2, c2, by omega, by rw [List.length_append]; simp; omega, by go_num, by rw [List.length_append]; rfl, HS, by rw [List.length_append]; simpa [ints] using hown2, BP.grown hg2 (fun e => own_off hown BP (by decide) e.symm), hTw.trans hb2⟩
        case measure => simp [intOf]; omega
      · have HS := Lib.hid (HA.out.miss HD.out he)
        have hee : (g.1 == kd) = false := by simp [he]
        have HE := Lib.hid he
        clear he
        go_wp2_with fail
        go_roundw
        case rel => exact ⟨j + 1, acc, A, cc, by omega, by omega, by go_num, rfl, HS, hown, BP, hTw⟩
        case measure => simp [intOf]; omega
    · have hlt' : ¬ (j : Int) < (n : Int) := by omega
      obtain rfl := HA.out.done (qF.drop_end hlt)
      have HR := Lib.hid (fk_ret (fkM_ok HOK.out) HOK.out hown HML.out hTw)
      clear hown
      go_wp2_with fail
      go_ret2
      exact HR.out
set_option maxRecDepth 20000 in
set_option maxHeartbeats 8000000 in
theorem implFK_any (cs : List Value) (x : LabM) (kd : Int) (w : World) (h : shLab.rd w cs x) (hcap : LabCap cs) :
    Calls Tryz.prog 18 #[.agg cs.toArray, .int .i64 kd] w (OwV (Sh.il 3) w (fkM x kd) (fkOk x kd)) := by
  have hrd := h
  obtain ⟨B, k, d, F, n, c, rfl, -, -, qF, -⟩ := rdLab h
  have hle := qF.le
  have hml : x.2.2.1.length ≤ maxLen := by rw [qF.len]; exact qF.2.1
  have HML := Lib.hid hml
  obtain ⟨w0, hw0, T0, hsz0, BP⟩ := boxes1 w #[.bool x.1, .int .i64 x.2.1.1, .slice B k d, .slice F n c, .int .i64 x.2.2.2] 35
  have HW := Lib.hid hw0
  have HG := Lib.hid (implIsLabv_any _ x w0 (shLab.stab hrd T0.block) hcap)
  obtain ⟨lb, HLB⟩ : ∃ b, Hid (labB x = b) := ⟨_, rfl⟩
  rw [HLB.out] at HG
  have HOK : Hid (fkOk x kd = (lb && (decide (1 ≤ kd) && decide (kd ≤ 6)))) := by show _ = _; unfold fkOk inB; rw [HLB.out]
  clear hw0 hrd h hsz0 hml hcap
  have cP0 := BP.cell 0
  have cP1 := BP.cell 1
  have cP2 := BP.cell 2
  have cP3 := BP.cell 3
  have cP4 := BP.cell 4
  simp at cP0 cP1 cP2 cP3 cP4
  go_enter Tryz.func18, Tryz.ntmps18
  go_upto_region 1 with fail
  rw [← HW.out]
  go_wp2_with fail
  refine HG.out.mono ?_
  rintro e w2 ⟨rfl, hb2⟩
  have T2 := below_next T0 hb2 rfl
  have B2 := BP.next hb2
  have T3 := below_next T2 (below_box w2 (.cells #[] 3)) rfl
  have HLIT := Lib.hid (lit_below T2)
  clear cP0 cP1 cP2 cP3 cP4
  rcases lb with _ | _
  · have HR := Lib.hid (fk_ret (L := []) (fkM_bad HOK.out) HOK.out HLIT.out HML.out T3)
    go_wp2_with fail
    go_ret2
    exact HR.out
  have hn12 : n ≤ 12 := by have := lab12 HLB.out; rw [qF.len] at this; exact this
  by_cases h1 : kd < 1
  · have HO2 : Hid (fkOk x kd = false) := by show _ = _; rw [HOK.out, decide_eq_false (show ¬ 1 ≤ kd by omega)]; rfl
    have HR := Lib.hid (fk_ret (L := []) (fkM_bad HO2.out) HO2.out HLIT.out HML.out T3)
    go_wp2_with fail
    go_ret2
    exact HR.out
  by_cases h6 : 6 < kd
  · have HO2 : Hid (fkOk x kd = false) := by show _ = _; rw [HOK.out, decide_eq_false (show ¬ kd ≤ 6 by omega), Bool.and_false, Bool.and_false]
    have HR := Lib.hid (fk_ret (L := []) (fkM_bad HO2.out) HO2.out HLIT.out HML.out T3)
    go_wp2_with fail
    go_ret2
    exact HR.out
  have HO2 : Hid (fkOk x kd = true) := by show _ = _; rw [HOK.out, decide_eq_true (show 1 ≤ kd by omega), decide_eq_true (show kd ≤ 6 by omega)]; rfl
  obtain ⟨w3, hw3⟩ : ∃ wb, wb = w2.alloc (.cells #[] 3) := ⟨_, rfl⟩
  have hz2 := T2.size
  have B3 : Blk w3 w.heap.size 35 #[.bool x.1, .int .i64 x.2.1.1, .slice B k d, .slice F n c, .int .i64 x.2.2.2] := by rw [hw3]; exact B2.alloc _
  rw [← hw3] at HLIT T3
  have HW3 := Lib.hid hw3
  clear hw3
  have cP3 := B3.cell 3
  simp at cP3
  go_upto_region 4 with fail
  rw [← HW3.out]
  go_wp2_with fail
  go_loopw [6, 25] (fun v i wr => ∃ (j : Nat) (acc : List Int) (A : Option Addr) (cc : Nat), j ≤ n ∧ acc.length ≤ j ∧ i = .int .i64 j ∧ v = .slice A acc.length cc ∧ Hid (FkAt x.2.2.1 kd j acc) ∧ wr.ownsRow w.heap.size 3 1 (.slice A acc.length cc) acc.length (ints acc) ∧ Below w.heap.size w wr) (fun _ i _ => n - (intOf i).toNat)
  case atStart => exact ⟨0, [], _, _, Nat.zero_le _, Nat.le_refl _, rfl, rfl, FkAt.zero _ _, HLIT.out, T3⟩
  case round =>
    clear T2 T3 B2 B3 cP3 BP
    obtain ⟨j, acc, A, cc, hj, haj, rfl, rfl, HA, hown, hTw⟩ := hrel
    have q' := qF.next hTw
    by_cases hlt : j < n
    · obtain ⟨b, o, vs, g, rfl, -, hc, hr, hd, -⟩ := q'.at hlt
      obtain ⟨BL, mL, eL, BR, mR, eR, BV, mV, eV, rfl, -, -, -, -⟩ := rdFact hr
      have cc0 : wr.cell? ⟨b, o + j * 4, none⟩ = some (.int .i64 g.1) := hc 0 _ rfl
      have cc1 : wr.cell? ⟨b, o + j * 4 + 1, none⟩ = some (.slice BL mL eL) := hc 1 _ rfl
      have cc2 : wr.cell? ⟨b, o + j * 4 + 2, none⟩ = some (.slice BR mR eR) := hc 2 _ rfl
      have cc3 : wr.cell? ⟨b, o + j * 4 + 3, none⟩ = some (.slice BV mV eV) := hc 3 _ rfl
      have hk0 : (0 : Int) ≤ (j : Int) := by omega
      have hk1 : (j : Int) < (n : Int) := by omega
      have HD := Lib.hid hd
      have hmx := q'.2.1
      have hlim : acc.length ≤ 1099511627776 := by omega
      obtain ⟨w4, hw4, T4, hsz4, BX⟩ := boxes1 wr #[.int .i64 g.1, .slice BL mL eL, .slice BR mR eR, .slice BV mV eV] 49
      have HW4 := Lib.hid hw4
      have T14 := below_next hTw T4 rfl
      have hown4 := own_next hown T4
      have hbase := T14.size
      have cX0 := BX.cell 0
      simp at cX0
      clear hd hc hr hmx q' hw4 hsz4
      by_cases he : g.1 = kd
      · have HS := Lib.hid (HA.out.hit HD.out he)
        have hee : (g.1 == kd) = true := by simp [he]
        have HE := Lib.hid he
        clear he
        go_upto_region 7 with fail
        rw [← HW4.out]
        go_wp2_with (at_builtin; refine app1 w4 rfl _ _ 39 3 rfl (.int .i64 0) 8 Tryz.underlying39 info_int rfl (by decide) w.heap.size acc.length cc A (ints acc) rfl hown4 (.int .i64 j) rfl rfl (by omega) hbase ?_; intro A2 c2 w5 hown2 hg2 hb2)
        go_roundw
        case rel => exact ⟨j + 1, acc ++ [(j : Int)], A2, c2, by omega, by rw [List.length_append]; simp; omega, by go_num, by rw [List.length_append]; rfl, HS, by rw [List.length_append]; simpa [ints] using hown2, T14.trans hb2⟩
        case measure => simp [intOf]; omega
      · have HS := Lib.hid (HA.out.miss HD.out he)
        have hee : (g.1 == kd) = false := by simp [he]
        have HE := Lib.hid he
        clear he
        go_upto_region 7 with fail
        rw [← HW4.out]
        go_wp2_with fail
        go_roundw
        case rel => exact ⟨j + 1, acc, A, cc, by omega, by omega, by go_num, rfl, HS, hown4, T14⟩
        case measure => simp [intOf]; omega
    · have hlt' : ¬ (j : Int) < (n : Int) := by omega
      obtain rfl := HA.out.done (qF.drop_end hlt)
      have HR := Lib.hid (fk_ret (fkM_ok HO2.out) HO2.out hown HML.out hTw)
      clear hown
      go_wp2_with fail
      go_ret2
      exact HR.out
theorem fkR_len (kd : Int) : ∀ (l : List FactM) (i : Int), (fkR kd l i).length ≤ l.length
  | [], i => by simp [fkR]
  | f :: l, i => by
    rw [fkR]
    have := fkR_len kd l (i + 1)
    split
    · simp only [List.length_cons]; omega
    · simp only [List.length_cons]; omega
theorem lab_cnt {x : LabM} (h : shLab.cnt x ≤ 1048576) : shAlgebra.cnt x.2.1 ≤ 1048576 ∧ shAlgebra.cnt x.2.1 + (x.2.2.1.length + cntS shFact.cnt x.2.2.1) ≤ 1048576 := by
  have hcn : (0 + ((shAlgebra.cnt x.2.1) + ((x.2.2.1.length + cntS shFact.cnt x.2.2.1) + 0))) ≤ 1048576 := h
  omega
theorem fkM_len {x : LabM} {kd : Int} (h : shLab.cnt x ≤ 1048576) : (fkM x kd).length ≤ 4194304 := by
  have := lab_cnt h
  unfold fkM
  split
  · have := fkR_len kd x.2.2.1 0; omega
  · exact Nat.zero_le _
theorem mcle_stLab {x : LabM} (h : shLab.cnt x ≤ 1048576) : msLab x ≤ 4194304 := by
  have hc := lab_cnt h
  have : ∀ l : List FactM, cntS mcFact l = l.length + cntS shFact.cnt l := fun l => by
    induction l with
    | nil => rfl
    | cons y l ih =>
      rw [cntS_cons, cntS_cons, ih, List.length_cons]
      show (1 + y.2.1.1.length + y.2.1.2.length + y.2.2.length) + _ = _ + ((0 + ((y.2.1.1.length + y.2.1.2.length) + y.2.2.length)) + _)
      omega
  have ha := mcle_stAlgebra hc.1
  have ha' : msAlgebra x.2.1 ≤ shAlgebra.cnt x.2.1 := by
    have : ∀ l : List OpM, cntS mcOp l = l.length + cntS shOp.cnt l := fun l => by
      induction l with
      | nil => rfl
      | cons y l ih =>
        rw [cntS_cons, cntS_cons, ih, List.length_cons]
        show 1 + y.2.length + _ = _ + ((0 + y.2.length) + _)
        omega
    unfold msAlgebra
    rw [this]
    show _ ≤ 0 + (x.2.1.2.length + cntS shOp.cnt x.2.1.2)
    omega
  unfold msLab
  rw [this]
  omega
end Go.Proofs.YtkmcdocbdhhfhaaGreat
