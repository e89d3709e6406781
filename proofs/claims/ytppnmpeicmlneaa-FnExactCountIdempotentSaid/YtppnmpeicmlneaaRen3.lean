
/- Walks: an algebra by other names (the reference's l2Rename). -/
import Derived.Test.YtppnmpeicmlneaaRen2
import Derived.Laws.OwnMore
namespace Go.Proofs.Ytppnmpeicmlneaa
open Go.RowKit

theorem run_mk (L : Nat) (b : L ≤ 1048576) : ∃ M : Array Value, M.toList = ints (List.replicate L 0) ∧ ∀ w : World, (Instr.makeSlice 22 (.int .i64 (L : Int)) (.int .i64 (L : Int))).run Try.prog w = .ok (.slice (some ⟨w.heap.size, 0, none⟩) L L) (w.alloc (.cells M 3)) := by
  obtain ⟨i0, hi, hz0, hz1, hz2⟩ := info_parts info_int
  refine ⟨madeCells (Value.int .i64 0).cells (L * 1), ?_, fun w => ?_⟩
  · rw [Nat.mul_one, ints_rep]
    exact toList_madeCells_one (.int .i64 0) L
  · have hr := run_make (P := Try.prog) w 22 3 i0 (.int .i64 0) Try.underlying22 hi hz0 .i64 .i64 L L (by omega) (Int.le_refl _) (by rw [hz2]; omega) (by omega)
    simp only [Int.toNat_natCast] at hr
    rw [hz1] at hr
    exact hr
theorem mk_own {w : World} {M : Array Value} {L : Nat} (hM : M.toList = ints (List.replicate L 0)) (hL : L ≤ 1048576) {lo : Nat} (hlo : lo ≤ w.heap.size) : (w.alloc (.cells M 3)).ownsRow lo 3 1 (.slice (some ⟨w.heap.size, 0, none⟩) L L) L (ints (List.replicate L 0)) := by
  have hs : M.size = L * 1 := by rw [← Array.length_toList, hM]; simp [ints]
  have := World.ownsRow_lit (e := 3) (size := 1) w M L hlo (by unfold maxLen; omega) hs
  rw [hM] at this
  exact this

set_option maxRecDepth 20000 in
set_option maxHeartbeats 8000000 in
theorem l2Rename_any (cs : List Value) (x : AlgebraM) (N : Option Addr) (n cN : Nat) (s : List Int) (w : World) (h : shAlgebra.rd w cs x) (hs : RdL RI w N n s) (hx : SmallP x) (hp : PermL x.1.toNat s) :
    Calls Try.prog 89 #[.agg cs.toArray, .slice N n cN] w (AlgE w (ren x s)) := by
  obtain ⟨a, ops⟩ := x
  obtain ⟨z, rfl⟩ : ∃ z : Nat, a = (z : Int) := ⟨a.toNat, by have h1 : 1 ≤ a := hx.1; omega⟩
  have hz1 : 1 ≤ z := by have h1 : (1 : Int) ≤ (z : Int) := hx.1; omega
  have hz5 : z ≤ 5 := by have h1 : (z : Int) ≤ 5 := hx.2.1; omega
  have hm4 : ops.length ≤ 4 := hx.2.2.1
  have HOP : Hid (∀ o ∈ ops, OpP z o) := fun o ho => by have := hx.2.2.2 o ho; simpa using this
  have HPM : Hid (PermL z s) := by show PermL z s; simpa using hp
  have hnz : n = z := by rw [← hs.len]; exact HPM.out.1
  subst hnz
  have HREN : Hid (ren ((n : Int), ops) s = ((n : Int), ops.map (renOp n s))) := by show _ = _; unfold ren; simp
  obtain ⟨B, m, d, rfl, qs, qo⟩ := rdAlgebra h
  obtain rfl : ops.length = m := qo.len
  obtain ⟨w0, hw0, T0, hs0, BP, BR, BO⟩ := boxes3 w #[.int .i64 (n : Int), .slice B ops.length d] #[.int .i64 0, .slice none 0 0] #[.int .i64 (n : Int), .slice none 0 0] 41 41
  have HW0 : Hid (_ = w0) := hw0.symm
  have HZ0 := Lib.hid hs0
  have hPO0 : PO w0.heap.size w0 (.slice none 0 0) ((ops.take 0).map (renOp n s)) [] [] := PO.nil _ _
  have cP0 := BP.cell 0
  have cP1 := BP.cell 1
  simp at cP0 cP1
  rw [hw0] at cP0 cP1
  have cP0' := ((Blk.new w 41 #[.int .i64 (n : Int), .slice B ops.length d]).alloc (.cells #[.int .i64 0, .slice none 0 0] 41)).cell 0
  simp at cP0'
  rw [HREN.out]
  clear hw0 hs0 hp hx h
  go_enter Try.func89, Try.ntmps89
  go_wp2_with fail
  clear cP0 cP1 cP0'
  go_loopw [6] (fun i wr => ∃ (k : Nat) (v : Value) (css : List (List Value)) (bls : List (List Nat)), k ≤ ops.length ∧ i = .int .i64 k ∧ Blk wr w.heap.size 41 #[.int .i64 (n : Int), .slice B ops.length d] ∧ Blk wr (w.heap.size + 1) 41 #[.int .i64 0, .slice none 0 0] ∧ Blk wr (w.heap.size + 1 + 1) 41 #[.int .i64 (n : Int), v] ∧ PO w0.heap.size wr v ((ops.take k).map (renOp n s)) css bls ∧ Below w.heap.size w wr) (fun i _ => ops.length - (intOf i).toNat)
  case atStart =>
    rw [HW0.out]
    exact ⟨0, _, _, _, Nat.zero_le _, rfl, BP, BR, BO, hPO0, T0⟩
  case round =>
    clear hPO0 BP BR BO T0
    obtain ⟨k, v, css, bls, hk, rfl, BP, BR, BO, hPO, hT⟩ := hrel
    have cP1 := BP.cell 1
    simp at cP1
    by_cases hlt : k < ops.length
    · obtain ⟨wo, hwo⟩ : ∃ wo : World, wo = wr := ⟨_, rfl⟩
      subst hwo
      have hk0 : (0 : Int) ≤ (k : Int) := by omega
      have hk1 : (k : Int) < (ops.length : Int) := by omega
      obtain ⟨b, o, vs, y, rfl, -, hc, hr, -, hyk⟩ := qo.at hlt
      obtain ⟨ya, ty⟩ := y
      have hyp := HOP.out (ya, ty) (List.mem_of_getElem? hyk)
      obtain ⟨kk, rfl⟩ : ∃ kk : Nat, ya = (kk : Int) := ⟨ya.toNat, by have h1 : 0 ≤ ya := hyp.1; omega⟩
      obtain ⟨B', m', d', rfl, qa, qt⟩ := rdOp hr
      obtain rfl : ty.length = m' := qt.len
      have hkk3 : kk ≤ 3 := by have h1 : (kk : Int) ≤ 3 := hyp.2.1; omega
      have HYL : Hid (ty.length = n ^ kk) := by show _ = _; have := hyp.2.2.1; simpa using this
      have HYB : Hid (∀ v ∈ ty, 0 ≤ v ∧ v ≤ (n : Int) - 1) := hyp.2.2.2
      obtain ⟨L, hL⟩ : ∃ L, ty.length = L := ⟨_, rfl⟩
      have HLT := Lib.hid hL
      have hyl8 : L ≤ 4096 := by rw [← hL, HYL.out]; exact pow_bd (by omega) (by omega)
      have HLP : Hid (L = n ^ kk) := by show _ = _; rw [← hL]; exact HYL.out
      have HRO : Hid (renOp n s ((kk : Int), ty) = ((kk : Int), renTo n kk s ty (List.replicate L 0) L)) := by
        show _ = _
        unfold renOp
        simp only [Int.toNat_natCast]
        rw [HYL.out, HLP.out, renTo_any (T := ty) (T' := List.replicate (n ^ kk) 0) (by omega) HPM.out HYL.out (by simp)]
      rw [hL] at hc qt
      have cc0w : w.cell? ⟨b, o + k * 2, none⟩ = some (.int .i64 (kk : Int)) := hc 0 _ rfl
      have cc1w : w.cell? ⟨b, o + k * 2 + 1, none⟩ = some (.slice B' L d') := hc 1 _ rfl
      have cc0 := keepc hT cc0w
      have cc1 := keepc hT cc1w
      have HYK := Lib.hid hyk
      clear hc hr hyk hyp hL
      go_upto_region 5 with fail
      go_cut [7] (fun v7 wx => ∃ g gq, v7 = .pointer (some ⟨gq, 0, none⟩) ∧ Blk wx gq 102 #[.int .i64 (kk : Int), .slice (some ⟨g, 0, none⟩) L L] ∧ wx.ownsRow wo.heap.size 3 1 (.slice (some ⟨g, 0, none⟩) L L) L (ints (List.replicate L 0)) ∧ wo.heap.size ≤ gq ∧ Below wo.heap.size wo wx)
      case first =>
        obtain ⟨M, hM, HMK⟩ := run_mk L (by omega)
        have HM := Lib.hid hM
        clear hM
        have cP1a := keepc (below_box wo (.cells #[.int .i64 0, .slice none 0 0] 102)) (cP1)
        have cc0a := keepc (below_box wo (.cells #[.int .i64 0, .slice none 0 0] 102)) (cc0)
        have cc1a := keepc (below_box wo (.cells #[.int .i64 0, .slice none 0 0] 102)) (cc1)
        have cP1b := keepc (below_box wo (.cells M 3)) (cP1)
        have cc0b := keepc (below_box wo (.cells M 3)) (cc0)
        have cc1b := keepc (below_box wo (.cells M 3)) (cc1)
        have cP1c := keepc (below_box (wo.alloc (.cells #[.int .i64 0, .slice none 0 0] 102)) (.cells M 3)) (keepc (below_box wo (.cells #[.int .i64 0, .slice none 0 0] 102)) (cP1))
        have cc0c := keepc (below_box (wo.alloc (.cells #[.int .i64 0, .slice none 0 0] 102)) (.cells M 3)) (keepc (below_box wo (.cells #[.int .i64 0, .slice none 0 0] 102)) (cc0))
        have cc1c := keepc (below_box (wo.alloc (.cells #[.int .i64 0, .slice none 0 0] 102)) (.cells M 3)) (keepc (below_box wo (.cells #[.int .i64 0, .slice none 0 0] 102)) (cc1))
        have cP1d := keepc (below_box (wo.alloc (.cells M 3)) (.cells #[.int .i64 0, .slice none 0 0] 102)) (keepc (below_box wo (.cells M 3)) (cP1))
        have cc0d := keepc (below_box (wo.alloc (.cells M 3)) (.cells #[.int .i64 0, .slice none 0 0] 102)) (keepc (below_box wo (.cells M 3)) (cc0))
        have cc1d := keepc (below_box (wo.alloc (.cells M 3)) (.cells #[.int .i64 0, .slice none 0 0] 102)) (keepc (below_box wo (.cells M 3)) (cc1))
        go_region
        all_goals
          go_wp2_with fail
          go_meet
        · refine ⟨wo.heap.size, wo.heap.size + 1, rfl, ?_, ?_, by omega, Below.drew (below_box2 _ _ _)⟩
          · have := Blk.new (wo.alloc (.cells M 3)) 102 #[.int .i64 (kk : Int), .slice (some ⟨wo.heap.size, 0, none⟩) L L]
            rw [World.size_alloc] at this
            exact this.drew
          · exact own_same ((mk_own HM.out (by omega) (Nat.le_refl _)).alloc _) fun _ _ => rfl
        · refine ⟨wo.heap.size + 1, wo.heap.size, rfl, ?_, ?_, Nat.le_refl _, Below.drew (below_box2 _ _ _)⟩
          · exact ((Blk.new wo 102 #[.int .i64 (kk : Int), .slice (some ⟨wo.heap.size + 1, 0, none⟩) L L]).alloc _).drew
          · have := mk_own (w := wo.alloc (.cells #[.int .i64 (kk : Int), .slice (some ⟨wo.heap.size + 1, 0, none⟩) L L] 102)) HM.out (by omega) (lo := wo.heap.size) (by simp)
            rw [World.size_alloc] at this
            exact own_same this fun _ _ => rfl
      case rest =>
        obtain ⟨g, gq, rfl, BQ, hown, hgq, hTc⟩ := hcut
        obtain ⟨w5, HWC⟩ : ∃ wq : World, wq = wc := ⟨_, rfl⟩
        subst HWC
        have hdt := hT.size
        have hbw : b < w.heap.size := cell_lt cc0w
        clear cc0 cc1 cP1
        have cQ1 := BQ.cell 1
        simp at cQ1
        go_wp2_with fail
        clear cQ1
        go_loopw [8] (fun i wi => ∃ q : Nat, q ≤ L ∧ i = .int .i64 q ∧ Blk wi gq 102 #[.int .i64 (kk : Int), .slice (some ⟨g, 0, none⟩) L L] ∧ wi.ownsRow wo.heap.size 3 1 (.slice (some ⟨g, 0, none⟩) L L) L (ints (renTo n kk s ty (List.replicate L 0) q)) ∧ Below wo.heap.size wo wi) (fun i _ => L - (intOf i).toNat)
        case atStart => exact ⟨0, Nat.zero_le _, rfl, BQ, hown, hTc⟩
        case round =>
          clear BQ hown hTc
          obtain ⟨q, hq, rfl, BQ, hown, hTi⟩ := hrel
          have hTwi := below_next hT hTi rfl
          have cQ0 := BQ.cell 0
          have cQ1 := BQ.cell 1
          simp at cQ0 cQ1
          by_cases hltq : q < L
          · obtain ⟨wi, hwi⟩ : ∃ wi : World, wi = wr := ⟨_, rfl⟩
            subst hwi
            have hq0 : (0 : Int) ≤ (q : Int) := by omega
            have hq1 : (q : Int) < (L : Int) := by omega
            obtain ⟨b', o', u0, u, rfl, hcu, ⟨rfl, -⟩, -, hxu⟩ := qt.at hltq
            have hub := HYB.out u (List.mem_of_getElem? hxu)
            obtain ⟨u, rfl⟩ := Int.eq_ofNat_of_zero_le hub.1
            have hun : u < n := by omega
            obtain ⟨J, HJ⟩ : ∃ J, Hid (toI n kk s q = J) := ⟨_, rfl⟩
            have hJ : J < L := by rw [← HJ.out, HLP.out]; exact toI_lt (by omega) HPM.out q
            obtain ⟨nm, hnm1, hnmn, hnm2⟩ := HPM.out.at hun
            have HSTEP : Hid (renTo n kk s ty (List.replicate L 0) (q + 1) = (renTo n kk s ty (List.replicate L 0) q).set J (nm : Int)) := by
              show _ = _
              rw [renTo, HJ.out, List.getD_eq_getElem?_getD, hxu]
              show (renTo n kk s ty (List.replicate L 0) q).set J (nmI s (u : Int)) = _
              have := nmI_get hnm1
              rw [this]
            obtain ⟨nb, no, nv, nx, rfl, hcn, ⟨rfl, -⟩, -, hxn⟩ := hs.at (k := u) hun
            rw [hnm1] at hxn
            injection hxn with hxn
            subst hxn
            have hbw2 : b' < w.heap.size := cell_lt hcu
            have hbw3 : nb < w.heap.size := cell_lt hcn
            have BPi := BP.next hTi
            have cP0 := BPi.cell 0
            simp at cP0
            clear hxu hub hnm1 hnm2
            go_wp2_with fail
            refine (l2Args_any q kk n _ (by omega) (by omega) (by omega) (by omega)).mono ?_
            rintro e w6 ⟨ga, rfl, hA, hb6⟩
            obtain ⟨D, HD⟩ : ∃ D, Hid (digs n kk q = D) := ⟨_, rfl⟩
            have HDL : Hid (D.length = kk) := by show _ = _; rw [← HD.out, digs_len]
            have HDB : Hid (∀ x ∈ D, x < n) := by show ∀ x ∈ D, _; rw [← HD.out]; exact fun x hx => digs_lt (by omega) hx
            rw [HD.out] at hA
            have HJ2 : Hid (idx n (D.map (nmAt s)) = J) := by show _ = _; rw [← HD.out]; exact HJ.out
            have HMB : Hid (∀ d ∈ D.map (nmAt s), d < n) := by
              intro d hd
              rw [List.mem_map] at hd
              obtain ⟨x, hx, rfl⟩ := hd
              obtain ⟨v', -, hv, e⟩ := HPM.out.at (HDB.out x hx)
              omega
            have hT6 := below_next hTwi hb6 rfl
            have BP6 := BPi.next hb6
            have RA : RdL RI w6 (some ⟨ga, 0, none⟩) kk (nats D) := rd_of_own (R := RI) hA (nats_R (b := n) (fun d hd => Nat.le_of_lt (HDB.out d hd)) (by omega))
            clear cQ0 cQ1 cP0 hA
            go_wp2_with fail
            go_loopw [10, 11] (fun v i wj => ∃ j : Nat, j ≤ kk ∧ i = .int .i64 j ∧ v = .int .i64 (idx n ((D.map (nmAt s)).take j) : Nat) ∧ Below w6.heap.size w6 wj) (fun _ i _ => kk - (intOf i).toNat)
            case atStart => exact ⟨0, Nat.zero_le _, rfl, rfl, Below.refl _ _⟩
            case round =>
              obtain ⟨j, hj, rfl, rfl, hTj⟩ := hrel
              obtain ⟨P, HP⟩ : ∃ P, Hid (idx n ((D.map (nmAt s)).take j) = P) := ⟨_, rfl⟩
              have hP : P ≤ 4096 := by
                rw [← HP.out]
                have := idx_small (n := n) (by omega) (l := (D.map (nmAt s)).take j) (by rw [List.length_take, List.length_map, HDL.out]; omega) fun d hd => HMB.out d (List.mem_of_mem_take hd)
                omega
              rw [HP.out]
              have hTjw := below_next hT6 hTj rfl
              by_cases hltj : j < kk
              · have hj0 : (0 : Int) ≤ (j : Int) := by omega
                have hj1 : (j : Int) < (kk : Int) := by omega
                obtain ⟨dj, hdj⟩ : ∃ dj, D[j]? = some dj := ⟨_, List.getElem?_eq_getElem (by rw [HDL.out]; exact hltj)⟩
                have hdn := HDB.out dj (List.mem_of_getElem? hdj)
                obtain ⟨v', hv', hvn, hnm'⟩ := HPM.out.at hdn
                obtain ⟨nv, nx, hcn', ⟨rfl, -⟩, -, hxn⟩ := (hs.next stab_RI hTjw).at' (k := dj) hdn
                rw [hv'] at hxn
                injection hxn with hxn
                subst hxn
                obtain ⟨av, ax, hca, ⟨rfl, -⟩, -, hxa⟩ := (RA.next stab_RI hTj).at' hltj
                rw [Nat.zero_add] at hca
                rw [nats_at hdj] at hxa
                injection hxa with hxa
                subst hxa
                have cP0 := (BP6.next hTj).cell 0
                simp at cP0
                have HT : Hid (idx n ((D.map (nmAt s)).take (j + 1)) = P * n + v') := by
                  show _ = _
                  rw [idx_take (d := v') (by rw [List.getElem?_map, hdj]; simp [hnm']), HP.out]
                have hM : P * n ≤ 4096 * 8 := Nat.mul_le_mul hP (by omega)
                have hm0 : (0 : Int) ≤ (P : Int) * (n : Int) := by rw [← Int.natCast_mul]; omega
                have hm1 : (P : Int) * (n : Int) ≤ 32768 := by rw [← Int.natCast_mul]; omega
                have HE : Hid ((P : Int) * (n : Int) = ((P * n : Nat) : Int)) := (Int.natCast_mul _ _).symm
                have hd0 : (0 : Int) ≤ (dj : Int) := by omega
                have hd1 : (dj : Int) < (n : Int) := by omega
                have HVN := Lib.hid hvn
                have hvm : (v' : Int) ≤ 8 := by omega
                clear hM hdj hv' hnm' hvn
                go_upto_region 14 with fail
                go_quiet (fail)
                go_wp2_with fail
                go_roundw
                case rel => exact ⟨j + 1, by omega, by go_num, by rw [HT.out, HE.out]; simp, by first | exact hTj | exact below_drewN hTj _⟩
                case measure => simp [intOf]; omega
              · have hlt' : ¬ (j : Int) < (kk : Int) := by omega
                have hPJ : P = J := by rw [← HP.out, ← HJ2.out, List.take_of_length_le (by rw [List.length_map, HDL.out]; omega)]
                subst hPJ
                have hTir := below_next hb6 hTj rfl
                have hownr := own_next hown hTir
                have BQr := BQ.next hTir
                have BPr := BP6.next hTj
                have cQ1 := BQr.cell 1
                have cP1 := BPr.cell 1
                simp at cQ1 cP1
                have cc1 := keepc hTjw cc1w
                have hcu2 := keepc hTjw hcu
                have hcn2 := keepc hTjw hcn
                obtain ⟨x0, hx0⟩ : ∃ x0, (ints (renTo n kk s ty (List.replicate L 0) q))[P]? = some x0 := ⟨_, List.getElem?_eq_getElem (by rw [ints_len, renTo_len]; simp; exact hJ)⟩
                have cJ : wr.cell? ⟨g, P, none⟩ = some x0 := (hownr.cellAt P (by omega)).trans hx0
                have fJ := hownr.frozenAt P
                have hgo := (hownr.lt g rfl).1
                have hst := (hownr.stored P (.int .i64 (nm : Int))).1
                rw [ints_set, ← HSTEP.out] at hst
                have hwl := BP.lt
                have n1 : w.heap.size ≠ g := by omega
                have n2 : gq ≠ g := fun e => own_off hownr BQr (by decide) (by rw [e]; rfl)
                have n3 : b ≠ g := by omega
                have n4 : b' ≠ g := by omega
                have n5 : nb ≠ g := by omega
                have HFIN := Lib.hid (And.intro (BQr.far (p := ⟨g, P, none⟩) n2 (.int .i64 (nm : Int))) (And.intro hst ((below_next hTi hTir rfl).setCell (p := ⟨g, P, none⟩) hgo (.int .i64 (nm : Int)))))
                have hP0 : (0 : Int) ≤ (P : Int) := by omega
                have hP1 : (P : Int) < (L : Int) := by omega
                have hu0 : (0 : Int) ≤ (u : Int) := by omega
                have hu1 : (u : Int) < (n : Int) := by omega
                clear hst hownr hx0 hown hcu hcn cc1w cc0w BQr BPr
                go_upto_region 15 with fail
                have Tk : Below wr.heap.size wr wr := Below.refl _ _
                have HKD : (wr.setCell ⟨g, P, none⟩ (.int .i64 (nm : Int))).drew.cell? ⟨gq, 1, none⟩ = some (.slice (some ⟨g, 0, none⟩) L L) ∧ (wr.setCell ⟨g, P, none⟩ (.int .i64 (nm : Int))).drew.cell? ⟨w.heap.size, 1, none⟩ = some (.slice (some ⟨b, o, none⟩) ops.length d) ∧ (wr.setCell ⟨g, P, none⟩ (.int .i64 (nm : Int))).drew.cell? ⟨b, o + k * 2 + 1, none⟩ = some (.slice (some ⟨b', o', none⟩) L d') ∧ (wr.setCell ⟨g, P, none⟩ (.int .i64 (nm : Int))).drew.cell? ⟨b', o' + q, none⟩ = some (.int .i64 (u : Int)) ∧ (wr.setCell ⟨g, P, none⟩ (.int .i64 (nm : Int))).drew.cell? ⟨nb, no + u, none⟩ = some (.int .i64 (nm : Int)) := ⟨cell_farD n2 cQ1, cell_farD n1 cP1, cell_farD n3 cc1, cell_farD n4 hcu2, cell_farD n5 hcn2⟩
                go_region_held3 (fun w' => w'.cell? ⟨gq, 1, none⟩ = some (.slice (some ⟨g, 0, none⟩) L L) ∧ w'.cell? ⟨w.heap.size, 1, none⟩ = some (.slice (some ⟨b, o, none⟩) ops.length d) ∧ w'.cell? ⟨b, o + k * 2 + 1, none⟩ = some (.slice (some ⟨b', o', none⟩) L d') ∧ w'.cell? ⟨b', o' + q, none⟩ = some (.int .i64 (u : Int)) ∧ w'.cell? ⟨nb, no + u, none⟩ = some (.int .i64 (nm : Int))) (first | go_keep | exact ⟨keepc Tk cQ1, keepc Tk cP1, keepc Tk cc1, keepc Tk hcu2, keepc Tk hcn2⟩ | exact HKD) (fail)
                all_goals
                  go_wp2_with fail
                  go_roundw
                  case rel => exact ⟨q + 1, by omega, by go_num, HFIN.out.1.drew, own_same HFIN.out.2.1 (fun _ _ => rfl), Below.drew HFIN.out.2.2⟩
                  case measure => simp [intOf]; omega
          · have hqe : q = L := by omega
            subst hqe
            have hlt' : ¬ (q : Int) < (q : Int) := by omega
            obtain ⟨LL, HLL⟩ : ∃ LL, Hid ((ops.take k).map (renOp n s) = LL) := ⟨_, rfl⟩
            have HLK : Hid (LL.length = k) := by show _ = _; rw [← HLL.out, List.length_map, List.length_take]; omega
            rw [HLL.out] at hPO
            have HNX : Hid ((ops.take (k + 1)).map (renOp n s) = LL ++ [((kk : Int), renTo n kk s ty (List.replicate q 0) q)]) := by
              show _ = _
              rw [take_snoc HYK.out, List.map_append, HLL.out, ← HRO.out]
              rfl
            obtain ⟨VA, vc, rfl⟩ := own_slice hPO.2.1
            have hTl : (renTo n kk s ty (List.replicate q 0) q).length = q := by rw [renTo_len, List.length_replicate]
            have hTb : ∀ y ∈ renTo n kk s ty (List.replicate q 0) q, InR y := fun y hy => by
              have := renTo_in HPM.out (fun v hv => by rw [List.mem_replicate] at hv; omega) HYB.out q (by rw [HLT.out]; exact Nat.le_refl _) y hy
              exact ⟨by omega, by omega⟩
            have hO0 : wr.ownsRow 0 3 1 (.slice (some ⟨g, 0, none⟩) q q) (renTo n kk s ty (List.replicate q 0) q).length (ints (renTo n kk s ty (List.replicate q 0) q)) := by rw [hTl]; exact own_mono hown (Nat.zero_le _)
            have how : shOp.own wr [.int .i64 (kk : Int), .slice (some ⟨g, 0, none⟩) q q] ((kk : Int), renTo n kk s ty (List.replicate q 0) q) [g] := ⟨[.int .i64 (kk : Int)], [.slice (some ⟨g, 0, none⟩) q q], [], [g], rfl, rfl, ⟨_, rfl, ⟨rfl, by omega, by omega⟩, rfl⟩, ⟨_, rfl, hO0, hTb, rfl⟩⟩
            have hgl := hown.lt g rfl
            have hwz0 : w0.heap.size ≤ wo.heap.size := by have h1 := BO.lt; have h2 := HZ0.out; omega
            obtain ⟨hvs, HPU⟩ := hPO.push hTi hwz0 how ⟨by simp, fun b hb => by simp at hb; subst hb; exact hgl⟩
            have BOr := BO.next hTi
            have BPr := BP.next hTi
            have BRr := BR.next hTi
            have cO1 := BOr.cell 1
            simp at cO1
            have hsz := hTi.size
            clear how hO0 hTb hTl hPO
            go_wp2_with (at_builtin; refine app2 wr rfl _ _ 39 102 rfl (.agg #[.int .i64 0, .slice none 0 0]) 32 Try.underlying39 info_op2 rfl (by decide) w0.heap.size LL.length vc VA css.flatten rfl hvs (.int .i64 (kk : Int)) (.slice (some ⟨g, 0, none⟩) q q) rfl rfl rfl (by have := HLK.out; omega) (by omega) ?_; intro A8 c8 w8 hown8 hg8 hb8; have BO8 := BOr.grown hg8 (fun e => own_off hvs BOr (by decide) e.symm); have BR8 := BRr.grown hg8 (fun e => own_off hvs BRr (by decide) e.symm); have BP8 := BPr.grown hg8 (fun e => own_off hvs BPr (by decide) e.symm); have cO8 := BO8.cell 1; have fO8 := BO8.frozen 1; simp at cO8)
            have PN2 := (HPU hown8 hg8).far (p := ⟨w.heap.size + 1 + 1, 1, none⟩) (by have := HZ0.out; show w.heap.size + 1 + 1 < w0.heap.size; omega) (.slice A8 (LL.length + 1) c8)
            have hT8 := (hTwi.trans (hb8.mono (by have := HZ0.out; omega))).setCell (p := ⟨w.heap.size + 1 + 1, 1, none⟩) (by show _ ≤ _; simp; try omega) (.slice A8 (LL.length + 1) c8)
            have BO9 : Blk (w8.setCell ⟨w.heap.size + 1 + 1, 1, none⟩ (.slice A8 (LL.length + 1) c8)) (w.heap.size + 1 + 1) 41 #[.int .i64 (n : Int), .slice A8 (LL.length + 1) c8] := by simpa using BO8.set_ 1 (.slice A8 (LL.length + 1) c8)
            have BR9 := BR8.far (p := ⟨w.heap.size + 1 + 1, 1, none⟩) (by simp) (.slice A8 (LL.length + 1) c8)
            have BP9 := BP8.far (p := ⟨w.heap.size + 1 + 1, 1, none⟩) (by simp; try omega) (.slice A8 (LL.length + 1) c8)
            have HFIN := Lib.hid (And.intro BP9 (And.intro BR9 (And.intro BO9 (And.intro PN2 hT8))))
            clear BO9 BR9 BP9 PN2 hT8
            go_roundw
            case rel => exact ⟨k + 1, _, _, _, by omega, by go_num, HFIN.out.1, HFIN.out.2.1, HFIN.out.2.2.1, by rw [HNX.out]; exact HFIN.out.2.2.2.1, HFIN.out.2.2.2.2⟩
            case measure => simp [intOf]; omega
    · have hke : k = ops.length := by omega
      have hlt' : ¬ (k : Int) < (ops.length : Int) := by omega
      rw [List.take_of_length_le (by omega)] at hPO
      obtain ⟨VA, vc, hv⟩ := own_slice hPO.2.1
      rw [List.length_map] at hv
      subst hv
      have hlow : w.heap.size ≤ w0.heap.size := by have := HZ0.out; omega
      have hPF := ((hPO.far (p := ⟨w.heap.size + 1, 0, none⟩) (by have := HZ0.out; show w.heap.size + 1 < w0.heap.size; omega) (.int .i64 (n : Int))).far (p := ⟨w.heap.size + 1, 1, none⟩) (by have := HZ0.out; show w.heap.size + 1 < w0.heap.size; omega) (.slice VA ops.length vc)).mono hlow
      have hTF := (hT.setCell (p := ⟨w.heap.size + 1, 0, none⟩) (by show _ ≤ _; simp) (.int .i64 (n : Int))).setCell (p := ⟨w.heap.size + 1, 1, none⟩) (by show _ ≤ _; simp) (.slice VA ops.length vc)
      have cO0 := BO.cell 0
      have cO1 := BO.cell 1
      have cR0 := BR.cell 0
      have cR1 := BR.cell 1
      have fR0 := BR.frozen 0
      have fR1 := BR.frozen 1
      have BRR : Blk ((wr.setCell ⟨w.heap.size + 1, 0, none⟩ (.int .i64 (n : Int))).setCell ⟨w.heap.size + 1, 1, none⟩ (.slice VA ops.length vc)) (w.heap.size + 1) 41 #[.int .i64 (n : Int), .slice VA ops.length vc] := by simpa using ((BR.set_ 0 (.int .i64 (n : Int))).set_ 1 (.slice VA ops.length vc))
      have HPF := Lib.hid hPF
      simp at cO0 cO1 cR0 cR1
      clear hPF hPO hke
      go_wp2_with fail
      (try simp only [Exit.inBlock, Exit.then])
      refine bodyPost_ret (v := .agg #[.int .i64 (n : Int), .slice VA ops.length vc]) (results_cell_row rfl _ _ (w.heap.size + 1) 41 #[.int .i64 (n : Int), .slice VA ops.length vc] (0, 0) _ (by simp) BRR Try.underlying41 rfl (by kernel_rfl)) rfl ?_
      exact ⟨_, css, bls, rfl, HPF.out, hTF⟩
end Go.Proofs.Ytppnmpeicmlneaa
