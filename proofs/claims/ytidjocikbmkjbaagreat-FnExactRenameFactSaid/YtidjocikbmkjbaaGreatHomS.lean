
/- Walks: is a map an endomorphism, is a partition a congruence (the reference). -/
import Derived.Test.YtidjocikbmkjbaaGreatHom
import Derived.Test.YtidjocikbmkjbaaGreatPush
namespace Go.Proofs.YtidjocikbmkjbaaGreat
open Go.RowKit
set_option linter.unusedVariables false

set_option maxHeartbeats 2000000 in
theorem l7Images_any (A C : Option Addr) (n c m d : Nat) (f : List Int) (l : List Nat) (w : World) (hr : RdL RI w A n f) (hf : MpL n f) (hl : RdL RI w C m (nats l)) (hd : ∀ z ∈ l, z < n) (hm : m ≤ 1000) (hn : n ≤ 1000) :
    Calls Tryz.prog 52 #[.slice A n c, .slice C m d] w (OwI w (nats (l.map (nmAt f)))) := by
  have hT := below_box w (.cells #[] 3)
  have hO := World.ownsRow_lit (base := w.heap.size) (e := 3) (size := 1) w #[] 0 (Nat.le_refl _) (Nat.zero_le _) rfl
  have HLL : Hid (l.length = m) := by show _ = _; rw [← hl.len, nats_len]
  have HD := Lib.hid hd
  have HF := Lib.hid hf
  clear hd hf
  go_enter Tryz.func52, Tryz.ntmps52
  go_wp2_with fail
  go_loopw [5, 6] (fun s i wr => ∃ (k : Nat) (A1 : Option Addr) (c1 : Nat), k ≤ m ∧ i = .int .i64 k ∧ s = .slice A1 k c1 ∧ wr.ownsRow w.heap.size 3 1 (.slice A1 k c1) k (ints (nats ((l.take k).map (nmAt f)))) ∧ Below w.heap.size w wr) (fun _ i _ => m - (intOf i).toNat)
  case atStart => exact ⟨0, _, _, Nat.zero_le _, rfl, rfl, hO, hT⟩
  case round =>
    clear hO hT
    obtain ⟨k, A1, c1, hk, rfl, rfl, hown, hTr⟩ := hrel
    by_cases hlt : k < m
    · have hk0 : (0 : Int) ≤ (k : Int) := by omega
      have hk1 : (k : Int) < (m : Int) := by omega
      have hpl : k < l.length := by rw [HLL.out]; exact hlt
      have hdp : l[k]? = some l[k] := List.getElem?_eq_getElem hpl
      have hdn := HD.out _ (List.getElem_mem hpl)
      generalize l[k] = dd at hdp hdn
      obtain ⟨b, o, u, v, rfl, hc, ⟨rfl, -, -⟩, -, hxv⟩ := (hl.next stab_RI hTr).at hlt
      rw [nats_atX hdp] at hxv
      injection hxv with hxv
      subst hxv
      have hfd := HF.out.at hdn
      obtain ⟨b4, o4, u4, v4, rfl, hc4, ⟨rfl, -, -⟩, -, hx4⟩ := (hr.next stab_RI hTr).at hdn
      rw [hfd.1] at hx4
      injection hx4 with hx4
      subst hx4
      obtain ⟨fd, HFD⟩ : ∃ z, Hid (nmAt f dd = z) := ⟨_, rfl⟩
      rw [HFD.out] at hc4
      have HS : Hid (nats ((l.take (k + 1)).map (nmAt f)) = nats ((l.take k).map (nmAt f)) ++ [(fd : Int)]) := by
        show _ = _
        rw [List.take_add_one, hdp, List.map_append, nats_app, ← HFD.out]
        rfl
      have hz := hTr.size
      have hd0 : (0 : Int) ≤ (dd : Int) := by omega
      have hd1 : (dd : Int) < (n : Int) := by omega
      clear hdp hfd
      go_wp2_with (at_builtin; refine app1 wr rfl _ _ 25 3 rfl (.int .i64 0) 8 Tryz.underlying25 info_int rfl (by decide) w.heap.size k c1 A1 _ rfl hown (.int .i64 (fd : Int)) rfl rfl (by omega) hz ?_; intro A2 c2 w2 hown2 hg2 hb2)
      go_roundw
      case rel => exact ⟨k + 1, A2, c2, by omega, by go_num, rfl, by rw [HS.out, ints_app]; exact hown2, hTr.trans hb2⟩
      case measure => simp [intOf]; try omega
    · obtain rfl : k = m := by omega
      have hk1 : ¬ (k : Int) < (k : Int) := by omega
      have HE : Hid ((nats (l.map (nmAt f))).length = k) := by show _ = _; rw [nats_len, List.length_map, HLL.out]
      rw [List.take_of_length_le (by rw [HLL.out]; exact Nat.le_refl _)] at hown
      go_wp2_with fail
      go_ret
      exact ⟨A1, c1, by rw [HE.out]; rfl, by rw [HE.out]; exact hown, hTr⟩
set_option maxHeartbeats 2000000 in
theorem l7Map_any (cs : List Value) (x : AlgebraM) (A : Option Addr) (m c : Nat) (f : List Int) (w : World) (h : shAlgebra.rd w cs x) (hx : AlgP x) (hr : RdL RI w A m f) :
    Calls Tryz.prog 83 #[.agg cs.toArray, .agg cs.toArray, .slice A m c] w (Bl w (.bool (mpB x.1.toNat f))) := by
  obtain ⟨B, k, d, rfl, -, qo⟩ := rdAlgebra h
  obtain ⟨n, hN⟩ : ∃ n : Nat, x.1 = (n : Int) := ⟨x.1.toNat, by have := hx.1; omega⟩
  have HNT : Hid (x.1.toNat = n) := by show _ = _; omega
  have hn8 : n ≤ 8 := by have := hx.2.1; omega
  rw [HNT.out, hN]
  obtain ⟨w0, hw0, T0, hsz0, BP, BQ⟩ := boxes2 w #[.int .i64 (n : Int), .slice B k d] #[.int .i64 (n : Int), .slice B k d] 39 39
  have HW0 := Lib.hid hw0
  have cP0 := BP.cell 0
  have cQ0 := BQ.cell 0
  simp at cP0 cQ0
  have r0 := hr.next stab_RI T0
  have HL := Lib.hid hr.len
  have hmle := hr.le
  have HI := Lib.hid (l2Elements_any A m c f (n : Int) w0 r0 (by omega) (by omega))
  obtain ⟨b1, HB1⟩ : ∃ z, Hid (allIn 0 ((n : Int) - 1) f = z) := ⟨_, rfl⟩
  rw [HB1.out] at HI
  have HR : Hid (mpB n f = (decide (m = n) && b1)) := by show _ = _; unfold mpB; rw [HB1.out, HL.out]
  clear hw0 hsz0 qo h hx hr hN
  by_cases hmn : m = n
  · subst hmn
    have hd : ((m : Int) == (m : Int)) = true := by simp
    go_enter Tryz.func83, Tryz.ntmps83
    go_upto_region 1 with fail
    rw [← HW0.out]
    go_wp2_with fail
    refine HI.out.mono ?_
    rintro e w1 ⟨rfl, rfl⟩
    go_wp2_with fail
    go_ret
    exact ⟨ret_bool (by rw [HR.out]; simp), T0⟩
  · have hd : ((m : Int) == (n : Int)) = false := by rw [beq_eq_false_iff_ne]; omega
    go_enter Tryz.func83, Tryz.ntmps83
    go_upto_region 1 with fail
    rw [← HW0.out]
    go_wp2_with fail
    go_ret
    exact ⟨ret_bool (by rw [HR.out, decide_eq_false hmn]; rfl), T0⟩
/-- What l7Fault answers. -/
def FsE (w : World) (P : Prop) (e : Ending) (w' : World) : Prop := ∃ v1 v2 b, e = .returned (.tuple #[v1, v2, .bool b]) ∧ (b = false ↔ P) ∧ Below w.heap.size w w'
set_option maxRecDepth 20000 in
set_option maxHeartbeats 8000000 in
theorem l7Fault_any (cs : List Value) (x : AlgebraM) (A : Option Addr) (n c : Nat) (f : List Int) (w : World) (h : shAlgebra.rd w cs x) (hx : AlgP x) (hn : x.1 = (n : Int)) (hr : RdL RI w A n f) (hf : MpL n f) :
    Calls Tryz.prog 84 #[.agg cs.toArray, .agg cs.toArray, .slice A n c] w (FsE w (HomP n x.2 f)) := by
  have hrd := h
  obtain ⟨a, ops⟩ := x
  obtain ⟨hx1, hx2, hx3, hx4⟩ := hx
  simp only at hx1 hx2 hx3 hx4 hn
  subst hn
  rw [Int.toNat_natCast] at hx4
  have hn0 : 0 < n := by omega
  have hn8 : n ≤ 8 := by omega
  obtain ⟨B, m, d, rfl, -, qo⟩ := rdAlgebra h
  have HML := Lib.hid qo.len
  have HOPS := Lib.hid hx4
  have hm4 : m ≤ 4 := by rw [← qo.len]; exact hx3
  obtain ⟨w0, hw0, T0, hsz0, BP, BQ⟩ := boxes2 w #[.int .i64 (n : Int), .slice B m d] #[.int .i64 (n : Int), .slice B m d] 39 39
  have HW0 := Lib.hid hw0
  have HRD : Hid (∀ wz, Below w0.heap.size w0 wz → shAlgebra.rd wz [.int .i64 (n : Int), .slice B m d] ((n : Int), ops)) := fun wz hz => shAlgebra.stab (shAlgebra.stab hrd T0.block) hz.block
  replace qo := qo.next T0
  have r0 := hr.next stab_RI T0
  have cP0 := BP.cell 0
  have cP1 := BP.cell 1
  have cQ0 := BQ.cell 0
  have cQ1 := BQ.cell 1
  simp at cP0 cP1 cQ0 cQ1
  have HF := Lib.hid hf
  clear hw0 hsz0 hx3 hx4 h hr hrd hf
  go_enter Tryz.func84, Tryz.ntmps84
  go_upto_region 1 with fail
  rw [← HW0.out]
  go_wp2_with fail
  go_loopw [9] (fun i wr => ∃ k : Nat, k ≤ m ∧ i = .int .i64 k ∧ Hid (HomTo n ops f k 0) ∧ Below w0.heap.size w0 wr) (fun i _ => m - (intOf i).toNat)
  case atStart => exact ⟨0, Nat.zero_le _, rfl, HomTo.start _ _ _, Below.refl _ _⟩
  case round =>
    obtain ⟨k, hk, rfl, HI, hTr⟩ := hrel
    have kP1 := keepc hTr cP1
    by_cases hlt : k < m
    · have hk0 : (0 : Int) ≤ (k : Int) := by omega
      have hk1 : (k : Int) < (m : Int) := by omega
      obtain ⟨b, o, vs, op, rfl, -, hc, hrr, -, hxo⟩ := qo.at hlt
      obtain ⟨B', m', d', rfl, -, qt⟩ := rdOp hrr
      have hoP := HOPS.out op (List.mem_of_getElem? hxo)
      obtain ⟨ar, tb, rfl, har⟩ := op_nat hoP
      have HXO := Lib.hid hxo
      have HTL : Hid (m' = n ^ ar) := by show _ = _; rw [← qt.len]; have := hoP.2.2.1; simpa using this
      have HTB : Hid (tb.length = m') := qt.len
      have HTV := Lib.hid hoP.2.2.2
      have hm512 : m' ≤ 4096 := by rw [HTL.out]; exact pow_bd hn8 (by omega)
      have cc0 : w0.cell? ⟨b, o + k * 2, none⟩ = some (.int .i64 (ar : Int)) := hc 0 _ rfl
      have cc1 : w0.cell? ⟨b, o + k * 2 + 1, none⟩ = some (.slice B' m' d') := hc 1 _ rfl
      clear hc hrr hxo hoP
      go_wp2_with fail
      clear kP1
      go_loopw [10] (fun i wi => ∃ q : Nat, q ≤ m' ∧ i = .int .i64 q ∧ Hid (HomTo n ops f k q) ∧ Below w0.heap.size w0 wi) (fun i _ => m' - (intOf i).toNat)
      case atStart => exact ⟨0, Nat.zero_le _, rfl, HI, hTr⟩
      case round =>
        clear HI hTr
        obtain ⟨q, hq, rfl, HI, hTr⟩ := hrel
        have kP0 := keepc hTr cP0
        have kP1 := keepc hTr cP1
        have kc0 := keepc hTr cc0
        have kc1 := keepc hTr cc1
        by_cases hlq : q < m'
        · have hq0 : (0 : Int) ≤ (q : Int) := by omega
          have hq1 : (q : Int) < (m' : Int) := by omega
          have HA : Hid (∀ wz, Below wr.heap.size wr wz → Calls Tryz.prog 101 #[.int .i64 (n : Int), .int .i64 (ar : Int), .int .i64 (q : Int)] wz fun e w' => ∃ g, e = .returned (.slice (some ⟨g, 0, none⟩) ar ar) ∧ w'.ownsRow wz.heap.size 3 1 (.slice (some ⟨g, 0, none⟩) ar ar) ar (ints (nats (digs n ar q))) ∧ Below wz.heap.size wz w') := fun wz hz => l2Args_any q ar n wz hn0 (by omega) (by omega) (by omega)
          have Tk : Below wr.heap.size wr wr := Below.refl _ _
          go_upto_region 7 with fail
          go_cut [11] from 30 to 60 (fun u8 wx => ∃ g, u8 = .slice (some ⟨g, 0, none⟩) ar ar ∧ wx.ownsRow wr.heap.size 3 1 (.slice (some ⟨g, 0, none⟩) ar ar) ar (ints (nats (digs n ar q))) ∧ Below wr.heap.size wr wx)
          case first =>
            go_region_held3 (fun w' => w'.cell? ⟨w.heap.size, 0, none⟩ = some (.int .i64 (n : Int)) ∧ w'.cell? ⟨w.heap.size, 1, none⟩ = some (.slice (some ⟨b, o, none⟩) m d) ∧ w'.cell? ⟨b, o + k * 2, none⟩ = some (.int .i64 (ar : Int))) (first | go_keep | exact ⟨keepc Tk kP0, keepc Tk kP1, keepc Tk kc0⟩) (first
              | (go_at_call 101; (with_reducible refine (HA.out _ ?_).mono ?_); (first | exact Tk | exact Below.drew Tk); rintro e wn ⟨g, rfl, hon, hbn⟩; replace Tk := below_next (by first | exact Tk | exact Below.drew Tk) hbn rfl))
            all_goals
              have HON := Lib.hid hon
              clear hon
              go_wp2_with fail
              go_meet
              exact ⟨g, rfl, HON.out, by first | exact Tk | exact Below.drew Tk⟩
          case rest =>
            obtain ⟨g, rfl, hoA, hTc⟩ := hcut
            obtain ⟨w4, HWC⟩ : ∃ wq : World, wq = wc := ⟨_, rfl⟩
            subst HWC
            have T4 := below_next hTr hTc rfl
            obtain ⟨ds, HDS⟩ : ∃ l, Hid (digs n ar q = l) := ⟨_, rfl⟩
            have HDN : Hid (∀ dd ∈ ds, dd < n) := fun dd hdd => by rw [← HDS.out] at hdd; exact digs_lt hn0 hdd
            have HDL : Hid (ds.length = ar) := by show _ = _; rw [← HDS.out, digs_len]
            rw [HDS.out] at hoA
            have rA := rd_of_own (R := RI) hoA (RI_ints fun v hv => by
              obtain ⟨dd, hdd, rfl⟩ := List.mem_map.1 hv
              have := HDN.out dd hdd
              omega)
            obtain ⟨l8, HL8⟩ : ∃ l, Hid (ds.map (nmAt f) = l) := ⟨_, rfl⟩
            have HL8N : Hid (∀ z ∈ l8, z < n) := fun z hz => by
              rw [← HL8.out] at hz
              obtain ⟨y, hy, rfl⟩ := List.mem_map.1 hz
              exact (HF.out.at (HDN.out y hy)).2
            have HL8L : Hid ((nats l8).length = ar) := by show _ = _; rw [nats_len, ← HL8.out, List.length_map, HDL.out]
            have HIX : Hid (idx n l8 = toI n ar f q) := by show _ = _; unfold toI; rw [HDS.out, HL8.out]
            obtain ⟨b3, o3, u3, v, rfl, hc3, ⟨rfl, -, -⟩, -, hxv⟩ := (qt.next stab_RI T4).at hlq
            have hvi := HTV.out v (List.mem_of_getElem? hxv)
            obtain ⟨y, rfl⟩ := Int.eq_ofNat_of_zero_le hvi.1
            have hyn : y < n := by omega
            have HY : Hid (nmAt tb q = y) := by show _ = _; rw [nmAt_get hxv]; simp
            have hfy := HF.out.at hyn
            obtain ⟨fy, HFY⟩ : ∃ z, Hid (nmAt f y = z) := ⟨_, rfl⟩
            rw [HFY.out] at hfy
            obtain ⟨b4, o4, u4, v4, rfl, hc4, ⟨rfl, -, -⟩, -, hx4⟩ := (r0.next stab_RI T4).at hyn
            rw [hfy.1] at hx4
            injection hx4 with hx4
            subst hx4
            have hIMl : toI n ar f q < m' := by rw [HTL.out]; exact HF.out.im hn0 _ _
            obtain ⟨u5, v5, hc5, ⟨rfl, -, -⟩, -, hx5⟩ := (qt.next stab_RI T4).at' hIMl
            have hvi5 := HTV.out v5 (List.mem_of_getElem? hx5)
            obtain ⟨z, rfl⟩ := Int.eq_ofNat_of_zero_le hvi5.1
            have HZ : Hid (nmAt tb (toI n ar f q) = z) := by show _ = _; rw [nmAt_get hx5]; simp
            have HX5 := Lib.hid hx5
            have HIM : Hid (∀ wz, Below w4.heap.size w4 wz → Calls Tryz.prog 52 #[.slice (some ⟨b4, o4, none⟩) n c, .slice (some ⟨g, 0, none⟩) ar ar] wz (OwI wz (nats l8))) := fun wz hz => by
              have := l7Images_any (some ⟨b4, o4, none⟩) (some ⟨g, 0, none⟩) n c ar ar f ds wz ((r0.next stab_RI T4).next stab_RI hz) HF.out (rA.next stab_RI hz) HDN.out (by omega) (by omega)
              rwa [HL8.out] at this
            have HVA : Hid (∀ (A : Option Addr) (c8 : Nat) (wz : World), Below w4.heap.size w4 wz → RdL RI wz A ar (nats l8) → Calls Tryz.prog 102 #[.agg #[.int .i64 (n : Int), .slice (some ⟨b, o, none⟩) m d], .int .i64 (k : Int), .slice A ar c8] wz (Bl wz (.int .i64 (z : Int)))) := fun A c8 wz hz hra => l2Value_any _ ((n : Int), ops) A ar c8 k n ar z l8 tb wz (HRD.out wz (below_next T4 hz rfl)) rfl hn8 hra HL8N.out (by omega) HXO.out (by rw [HIX.out]; exact HX5.out)
            obtain ⟨bb, HBB⟩ : ∃ z', Hid (((fy : Int) != (z : Int)) = z') := ⟨_, rfl⟩
            have hy0 : (0 : Int) ≤ (y : Int) := by omega
            have hy1 : (y : Int) < (n : Int) := by omega
            have jP1 := keepc T4 cP1
            have jQ0 := keepc T4 cQ0
            have jQ1 := keepc T4 cQ1
            have jc1 := keepc T4 cc1
            have Tk : Below w4.heap.size w4 w4 := Below.refl _ _
            clear hxv hvi hx5 hvi5 hfy kP0 kP1 kc0 kc1 hoA
            go_upto_region 8 with fail
            go_cut [58] from 40 to 60 (fun u58 wx => u58 = .bool bb ∧ Below w4.heap.size w4 wx)
            case first =>
              go_region_held3 (fun w' => w'.cell? ⟨w.heap.size, 1, none⟩ = some (.slice (some ⟨b, o, none⟩) m d) ∧ w'.cell? ⟨w.heap.size + 1, 0, none⟩ = some (.int .i64 (n : Int)) ∧ w'.cell? ⟨w.heap.size + 1, 1, none⟩ = some (.slice (some ⟨b, o, none⟩) m d) ∧ w'.cell? ⟨b, o + k * 2 + 1, none⟩ = some (.slice (some ⟨b3, o3, none⟩) m' d') ∧ w'.cell? ⟨b3, o3 + q, none⟩ = some (.int .i64 (y : Int)) ∧ w'.cell? ⟨b4, o4 + y, none⟩ = some (.int .i64 (fy : Int))) (first | go_keep | exact ⟨keepc Tk jP1, keepc Tk jQ0, keepc Tk jQ1, keepc Tk jc1, keepc Tk hc3, keepc Tk hc4⟩) (first
                | (go_at_call 52; (with_reducible refine (HIM.out _ ?_).mono ?_); (first | exact Tk | exact Below.drew Tk); rintro e wn ⟨A8, c8, rfl, hon, hbn⟩; rw [HL8L.out] at hon; rw [HL8L.out]; have r8 := rd_of_own (R := RI) hon (RI_ints fun v hv => (by obtain ⟨zz, hzz, rfl⟩ := List.mem_map.1 hv; have := HL8N.out zz hzz; omega)); replace Tk := below_next (by first | exact Tk | exact Below.drew Tk) hbn rfl)
                | (go_at_call 102; (with_reducible refine (HVA.out _ _ _ ?_ ?_).mono ?_); (first | exact Tk | exact Below.drew Tk); (first | exact r8 | exact r8.drew stab_RI); rintro e wn ⟨rfl, hbn⟩; replace Tk := below_next (by first | exact Tk | exact Below.drew Tk) hbn rfl))
              all_goals
                go_wp2_with fail
                go_meet
                exact ⟨by rw [← HBB.out], by first | exact Tk | exact Below.drew Tk⟩
            case rest =>
              obtain ⟨rfl, hTc2⟩ := hcut
              have TN := below_next T4 hTc2 rfl
              rcases bb with _ | _
              · have HI2 : Hid (HomTo n ops f k (q + 1)) := HI.out.entry HXO.out (by
                  simp only [Int.toNat_natCast]
                  rw [HY.out, HFY.out, HZ.out]
                  have := HBB.out
                  have h2 : (fy : Int) = (z : Int) := by simpa using this
                  omega)
                go_wp2_with fail
                go_roundw
                case rel => exact ⟨q + 1, by omega, by go_num, HI2, TN⟩
                case measure => simp [intOf]; try omega
              · have HNO : Hid (¬ HomP n ops f) := fun hh => by
                  have h1 := hh _ (List.mem_of_getElem? HXO.out) q (by have := HTB.out; simp only; omega)
                  simp only [Int.toNat_natCast] at h1
                  rw [HY.out, HFY.out, HZ.out] at h1
                  have := HBB.out
                  rw [h1] at this
                  simp at this
                go_wp2_with fail
                go_ret3
                exact ⟨_, _, true, rfl, ⟨fun h => (by cases h), fun h => absurd h HNO.out⟩, below_next T0 TN rfl⟩
        · have hq1 : ¬ (q : Int) < (m' : Int) := by omega
          have HI2 : Hid (HomTo n ops f (k + 1) 0) := HI.out.op HXO.out (by have := HTB.out; simp only; omega)
          go_wp2_with fail
          go_roundw
          case rel => exact ⟨k + 1, by omega, by go_num, HI2, hTr⟩
          case measure => simp [intOf]; try omega
    · have hk1 : ¬ (k : Int) < (m : Int) := by omega
      have HD : Hid (HomP n ops f) := HI.out.done (by rw [HML.out]; exact hlt)
      have hz := hTr.size
      go_wp2_with fail
      go_ret3
      exact ⟨_, _, false, rfl, ⟨fun _ => HD.out, fun _ => rfl⟩, below_next T0 (hTr.alloc hz _) rfl⟩
end Go.Proofs.YtidjocikbmkjbaaGreat
