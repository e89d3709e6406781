
/- The harness's functions on Op and []Op: size, copy, equality. Printed by genshape.py. -/
import Derived.Test.YtidjocikbmkjbaaGreatShape
import Derived.Deep.RegionHeld3
import Derived.Deep.DeepCutAuto
namespace Go.Proofs.YtidjocikbmkjbaaGreat
open Go.RowKit

abbrev OpM : Type := (Int × List Int)
def shOp : Sh OpM := (Sh.pair Sh.int (Sh.il 3))
theorem rdOp {w : World} {cs : List Value} {x : OpM} (h : shOp.rd w cs x) : ∃ (ATable : Option Addr) (nTable cTable : Nat), cs = [.int .i64 x.1, .slice ATable nTable cTable] ∧ InR x.1 ∧ RdL RI w ATable nTable x.2 := by
  obtain ⟨_, _, rfl, ⟨_, rfl, rfl, loArity, hiArity⟩, ⟨_, rfl, ATable, nTable, cTable, rfl, rTable⟩⟩ := h
  exact ⟨ATable, nTable, cTable, rfl, ⟨loArity, hiArity⟩, rTable⟩
theorem mkOp {w : World} {x : OpM} {ATable : Option Addr} {nTable cTable : Nat} (hArity : InR x.1) (hTable : RdL RI w ATable nTable x.2) : shOp.rd w [.int .i64 x.1, .slice ATable nTable cTable] x :=
  ⟨[.int .i64 x.1], [.slice ATable nTable cTable], rfl, ⟨_, rfl, rfl, hArity.1, hArity.2⟩, ⟨_, rfl, _, _, _, rfl, hTable⟩⟩
set_option linter.unusedVariables false in
set_option maxHeartbeats 2000000 in
theorem szOp_any (cs : List Value) (x : OpM) (left : Int) (w : World) (h : shOp.rd w cs x) (h0 : 0 ≤ left) (h1 : left ≤ 1048576) :
    Calls Tryz.prog 37 #[.agg cs.toArray, .int .i64 left] w (Bl w (.int .i64 (szR (shOp.cnt x) left))) := by
  obtain ⟨ATable, nTable, cTable, rfl, qArity, qTable⟩ := rdOp h
  obtain ⟨w0, hw0, T0, hsz0, BP⟩ := boxes1 w #[.int .i64 x.1, .slice ATable nTable cTable] 64
  have lTable := qTable.le
  have HC0 : Hid (szR 0 left = left) := szR_zero h0
  have HCN : Hid (shOp.cnt x = (0 + x.2.length)) := rfl
  replace qTable := qTable.next stab_RI T0
  go_enter Tryz.func37, Tryz.ntmps37
  have cP := BP.cell 1
  simp at cP
  rw [hw0] at cP
  go_wp2_with fail
  rw [← hw0]
  refine (bl_same (szIntS_any _ _ _ _ left _ qTable (by omega) (by omega))).mono ?_
  rintro e w1 ⟨rfl, hb1⟩
  rw [szInts_szR]
  have T1 := below_next T0 hb1 rfl
  replace BP := BP.next hb1
  replace qTable := qTable.next stab_RI hb1
  clear cP
  have HC1 : Hid (szR (0 + x.2.length) left = szR x.2.length left) := by show _ = _; rw [← szR_add (by rw [HC0.out]; omega), HC0.out]
  have hbd0 := szR_bd x.2.length (left := left) (by omega)
  obtain ⟨L0, HL0⟩ : ∃ L, Hid (szR x.2.length left = L) := ⟨_, rfl⟩
  rw [HL0.out] at HC1 hbd0 ⊢
  by_cases z0 : L0 < 0
  · go_wp2_with fail
    go_ret
    exact ⟨ret_int (szR_le (by rw [HC1.out]; omega) (by rw [HCN.out]; omega) h0), T1⟩
  go_wp2_with fail
  go_ret
  exact ⟨ret_int (by simp only [HCN.out, ← HC1.out]; first | done | (congr 1; omega)), T1⟩
set_option linter.unusedVariables false in
set_option maxHeartbeats 4000000 in
theorem toOp_any (cs : List Value) (x : OpM) (w : World) (h : shOp.rd w cs x) (hn : shOp.cnt x ≤ 1048576) :
    Calls Tryz.prog 55 #[.agg cs.toArray] w (ToE shOp w x) := by
  obtain ⟨ATable, nTable, cTable, rfl, qArity, qTable⟩ := rdOp h
  have hcn : (0 + x.2.length) ≤ 1048576 := hn
  obtain ⟨w0, hw0, T0, hsz0, BP, BR, BO⟩ := boxes3 w #[.int .i64 x.1, .slice ATable nTable cTable] #[.int .i64 0, .slice none 0 0] #[.int .i64 x.1, .slice none 0 0] 64 67
  have eTable := qTable.len
  go_enter Tryz.func55, Tryz.ntmps55
  go_wp2_with fail
  rw [← hw0]
  refine (toIntS_any _ _ _ _ _ (qTable.next stab_RI T0) (by omega)).mono ?_
  rintro e w1 ⟨gTable, rfl, hgTable, hoTable, hb1⟩
  have OTable : (Sh.il 3).own w1 [.slice (some ⟨gTable, 0, none⟩) nTable nTable] x.2 [gTable] := ⟨_, rfl, by rw [eTable]; exact own_mono hoTable (Nat.zero_le _), qTable.bounds, rfl⟩
  have ITable : Iv w0.heap.size w1.heap.size [gTable] := ⟨by simp, fun b hb => by simp at hb; subst hb; exact hoTable.lt _ rfl⟩
  clear hoTable
  have hz1 := hb1.size
  have T1 := below_next T0 hb1 rfl
  replace BP := BP.next hb1
  replace BR := BR.next hb1
  replace BO := BO.next hb1
  clear hb1
  have cR0 := BR.cell 0
  have fR0 := BR.frozen 0
  have cR1 := BR.cell 1
  have fR1 := BR.frozen 1
  simp at cR0 cR1
  have cP0 := BP.cell 0
  have cP1 := BP.cell 1
  have cO0 := BO.cell 0
  have fO0 := BO.frozen 0
  have cO1 := BO.cell 1
  have fO1 := BO.frozen 1
  simp at cP0 cO0 cP1 cO1
  go_wp2_with fail
  clear cP0 cO0 fO0 cP1 cO1 fO1
  clear cR0 fR0 cR1 fR1
  obtain ⟨w2, hw2⟩ : ∃ wb, wb = (w1.setCell ⟨w.heap.size + 1 + 1, 1, none⟩ (.slice (some ⟨gTable, 0, none⟩) nTable nTable)) := ⟨_, rfl⟩
  have BO' : Blk w2 (w.heap.size + 1 + 1) 67 #[.int .i64 x.1, .slice (some ⟨gTable, 0, none⟩) nTable nTable] := by rw [hw2]; simpa using (BO.set_ 1 (.slice (some ⟨gTable, 0, none⟩) nTable nTable))
  replace BP : Blk w2 w.heap.size 64 #[.int .i64 x.1, .slice ATable nTable cTable] := by rw [hw2]; exact (BP.far (p := ⟨w.heap.size + 1 + 1, 1, none⟩) (by simp; try omega) (.slice (some ⟨gTable, 0, none⟩) nTable nTable))
  replace BR : Blk w2 (w.heap.size + 1) 67 #[.int .i64 0, .slice none 0 0] := by rw [hw2]; exact (BR.far (p := ⟨w.heap.size + 1 + 1, 1, none⟩) (by simp; try omega) (.slice (some ⟨gTable, 0, none⟩) nTable nTable))
  replace BO := BO'
  clear BO'
  have T2 : Below w.heap.size w w2 := by rw [hw2]; exact (T1.setCell (by simp; try omega) (.slice (some ⟨gTable, 0, none⟩) nTable nTable))
  have hz2 : w2.heap.size = w1.heap.size := by rw [hw2]; simp
  replace OTable : (Sh.il 3).own w2 [.slice (some ⟨gTable, 0, none⟩) nTable nTable] x.2 [gTable] := by rw [hw2]; exact Sh.oset (p := ⟨w.heap.size + 1 + 1, 1, none⟩) (OTable) ITable (by show w.heap.size + 1 + 1 < _; omega) (.slice (some ⟨gTable, 0, none⟩) nTable nTable)
  
  rw [← hw2]
  have BRR : Blk ((w2.setCell ⟨w.heap.size + 1, 0, none⟩ (.int .i64 x.1)).setCell ⟨w.heap.size + 1, 1, none⟩ (.slice (some ⟨gTable, 0, none⟩) nTable nTable)) (w.heap.size + 1) 67 #[.int .i64 x.1, .slice (some ⟨gTable, 0, none⟩) nTable nTable] := by simpa using ((BR).set_ 0 (.int .i64 x.1)).set_ 1 (.slice (some ⟨gTable, 0, none⟩) nTable nTable)
  (try simp only [Exit.inBlock, Exit.then])
  refine bodyPost_ret (v := .agg #[.int .i64 x.1, .slice (some ⟨gTable, 0, none⟩) nTable nTable]) (results_cell_row rfl _ _ (w.heap.size + 1) 67 #[.int .i64 x.1, .slice (some ⟨gTable, 0, none⟩) nTable nTable] (0, 0) _ (by simp) BRR Tryz.underlying67 rfl (by kernel_rfl)) rfl ?_
  have hsz : ((w2.setCell ⟨w.heap.size + 1, 0, none⟩ (.int .i64 x.1)).setCell ⟨w.heap.size + 1, 1, none⟩ (.slice (some ⟨gTable, 0, none⟩) nTable nTable)).heap.size = w2.heap.size := by simp
  refine ⟨_, [gTable], rfl, ⟨[.int .i64 x.1], [.slice (some ⟨gTable, 0, none⟩) nTable nTable], [], [gTable], rfl, rfl, ⟨_, rfl, ⟨rfl, qArity.1, qArity.2⟩, rfl⟩, (Sh.oset (p := ⟨w.heap.size + 1, 1, none⟩) (Sh.oset (p := ⟨w.heap.size + 1, 0, none⟩) (OTable) ITable (by show w.heap.size + 1 < _; omega) (.int .i64 x.1)) ITable (by show w.heap.size + 1 < _; omega) (.slice (some ⟨gTable, 0, none⟩) nTable nTable))⟩, ?_, ((T2).setCell (by simp; try omega) (.int .i64 x.1)).setCell (by simp; try omega) (.slice (some ⟨gTable, 0, none⟩) nTable nTable)⟩
  rw [hsz]
  exact Iv.mono ITable (by omega) (by omega)
theorem eqPOp (x y : OpM) : eqC x y = (eqC (x.1) (y.1) && eqC (x.2) (y.2)) := by
  obtain ⟨x0, x1⟩ := x
  obtain ⟨y0, y1⟩ := y
  simp only [dec_pair]
set_option linter.unusedVariables false in
set_option maxHeartbeats 4000000 in
theorem eqOp_any (cs ds : List Value) (x y : OpM) (w : World) (h : shOp.rd w cs x) (h' : shOp.rd w ds y) :
    Calls Tryz.prog 70 #[.agg cs.toArray, .agg ds.toArray] w (Bl w (.bool (eqC x y))) := by
  obtain ⟨ATable, nTable, cTable, rfl, qArity, qTable⟩ := rdOp h
  obtain ⟨AyTable, nyTable, cyTable, rfl, qyArity, qyTable⟩ := rdOp h'
  obtain ⟨w0, hw0, T0, hsz0, BP, BQ⟩ := boxes2 w #[.int .i64 x.1, .slice ATable nTable cTable] #[.int .i64 y.1, .slice AyTable nyTable cyTable] 67 67
  replace qTable := qTable.next stab_RI T0
  replace qyTable := qyTable.next stab_RI T0
  have HD := Lib.hid (eqPOp x y)
  go_enter Tryz.func70, Tryz.ntmps70
  rcases hd0 : eqC (x.1) (y.1) with _ | _
  · have ht : (x.1 != y.1) = true := neq_int hd0
    have HH0 := Lib.hid hd0
    clear hd0
    have cP0 := BP.cell 0
    have cQ0 := BQ.cell 0
    simp at cP0 cQ0
    rw [hw0] at cP0 cQ0
    go_wp2_with fail
    go_ret
    exact ⟨ret_bool (by rw [HD.out, HH0.out]; first | rfl | simp), by first | exact T0 | (rw [← hw0]; exact T0)⟩
  have ht0 : (x.1 != y.1) = false := neq_int hd0
  have HH0 := Lib.hid hd0
  clear hd0
  have cP0 := BP.cell 0
  have cQ0 := BQ.cell 0
  simp at cP0 cQ0
  rw [hw0] at cP0 cQ0
  rcases hd1 : eqC (x.2) (y.2) with _ | _
  · have HH1 := Lib.hid hd1
    clear hd1
    have cP1 := BP.cell 1
    have cQ1 := BQ.cell 1
    simp at cP1 cQ1
    rw [hw0] at cP1 cQ1
    go_wp2_with fail
    rw [← hw0]
    refine (bl_of_quiet (eqIntS_any _ _ _ _ _ _ _ _ _ qTable qyTable)).mono ?_
    rintro e w1 ⟨rfl, hb1⟩
    rw [eqL_dec]
    rw [HH1.out]
    have T1 := below_next T0 hb1 rfl
    go_wp2_with fail
    go_ret
    exact ⟨ret_bool (by rw [HD.out, HH0.out, HH1.out]; first | rfl | simp), T1⟩
  have HH1 := Lib.hid hd1
  clear hd1
  have cP1 := BP.cell 1
  have cQ1 := BQ.cell 1
  simp at cP1 cQ1
  rw [hw0] at cP1 cQ1
  go_wp2_with fail
  rw [← hw0]
  refine (bl_of_quiet (eqIntS_any _ _ _ _ _ _ _ _ _ qTable qyTable)).mono ?_
  rintro e w1 ⟨rfl, hb1⟩
  rw [eqL_dec]
  rw [HH1.out]
  have T1 := below_next T0 hb1 rfl
  clear cP1 cQ1 cP0 cQ0 ht0
  replace BP := BP.next hb1
  replace BQ := BQ.next hb1
  replace qTable := qTable.next stab_RI hb1
  replace qyTable := qyTable.next stab_RI hb1
  go_wp2_with fail
  go_ret
  exact ⟨ret_bool (by rw [HD.out, HH0.out, HH1.out]; first | rfl | simp), T1⟩
set_option linter.unusedVariables false in
set_option maxHeartbeats 2000000 in
theorem szOpS_any (A : Option Addr) (n c : Nat) (xs : List OpM) (left : Int) (w : World) (h : RdN shOp.m shOp.rd w A n xs) (h0 : 0 ≤ left) (h1 : left ≤ 1048576) :
    Calls Tryz.prog 18 #[.slice A n c, .int .i64 left] w (Bl w (.int .i64 (szR (xs.length + cntS shOp.cnt xs) left))) := by
  have hle := h.le
  have hl := Lib.hid h.len
  by_cases h2 : left - n < 0
  · go_enter Tryz.func18, Tryz.ntmps18
    go_wp2
    go_ret
    exact ⟨ret_int (szR_sub_neg (by rw [hl.out]; exact h2) _), Below.refl _ _⟩
  · have HS := Lib.hid (szR_sub (a := xs.length) (by rw [hl.out]; exact h2) (cntS shOp.cnt xs))
    go_enter Tryz.func18, Tryz.ntmps18
    go_wp2
    go_loopw [1, 5] (fun l i wr => ∃ (k : Nat) (left' : Int), k ≤ n ∧ i = .int .i64 k ∧ l = .int .i64 left' ∧ 0 ≤ left' ∧ left' ≤ 1048576 ∧ SumAt shOp.cnt xs (left - n) left' k ∧ Below w.heap.size w wr) (fun _ i _ => n - (intOf i).toNat)
    case atStart => exact ⟨0, _, Nat.zero_le _, rfl, rfl, by omega, by omega, SumAt.start _ _ _, Below.refl _ _⟩
    case round =>
      obtain ⟨k, left', hk, rfl, rfl, hl0, hl1, H, hT⟩ := hrel
      replace h := h.next hT
      by_cases hlt : k < n
      · obtain ⟨b, o, vs, x, rfl, -, hc, hr, hd, -⟩ := h.at hlt
        obtain ⟨ATable, nTable, cTable, rfl, qArity, qTable⟩ := rdOp hr
        have cc0 : wr.cell? ⟨b, o + k * 2, none⟩ = some (.int .i64 x.1) := hc 0 _ rfl
        have cc1 : wr.cell? ⟨b, o + k * 2 + 1, none⟩ = some (.slice ATable nTable cTable) := hc 1 _ rfl
        clear hc
        have H1 := Lib.hid hd
        clear hd
        have hb := szR_bd (shOp.cnt x) (left := left') hl0
        have hk0 : (0 : Int) ≤ (k : Int) := by omega
        have hk1 : (k : Int) < (n : Int) := by omega
        go_wp2_with fail
        refine (szOp_any [.int .i64 x.1, .slice ATable nTable cTable] x left' _ hr hl0 hl1).mono ?_
        rintro e w1 ⟨rfl, hb1⟩
        have hT1 := below_next hT hb1 rfl
        obtain ⟨L, HL⟩ : ∃ L, Hid (szR (shOp.cnt x) left' = L) := ⟨_, rfl⟩
        rw [HL.out] at hb ⊢
        by_cases hz : L < 0
        · have HZ : Hid ((-1 : Int) = szR (xs.length + cntS shOp.cnt xs) left) := (H.stop H1.out (by rw [HL.out]; exact hz) hl0).trans (by rw [← hl.out]; exact HS.out)
          go_wp2_with fail
          go_ret
          exact ⟨ret_int HZ.out, hT1⟩
        · have HN : Hid (SumAt shOp.cnt xs (left - n) L (k + 1)) := by have := H.step H1.out (by rw [HL.out]; exact hz); rw [HL.out] at this; exact this
          go_wp2_with fail
          go_roundw
          case rel => exact ⟨k + 1, _, by omega, by go_num, rfl, by omega, by omega, HN.out, hT1⟩
          case measure => simp [intOf]; omega
      · have HZ : Hid (left' = szR (xs.length + cntS shOp.cnt xs) left) := (H.done (h.drop_end hlt) hl0).trans (by rw [← hl.out]; exact HS.out)
        have hlt' : ¬ (k : Int) < (n : Int) := by omega
        go_wp2_with fail
        go_ret
        exact ⟨ret_int HZ.out, hT⟩
theorem info_Op : (Tryz.prog.info? 67).map (fun i => (i.zero, i.size)) = some (some (.agg #[.int .i64 0, .slice none 0 0]), 2) := by kernel_rfl
theorem infob_Op : (Tryz.prog.info? 67).all (fun i => decide (i.bytes ≤ 256)) = true := by kernel_rfl
theorem make_Op (w : World) {ops : Array Oper} {rest : List Oper} {o : Oper} {a : Act} {Q : Exit → Act → World → Prop} (hg : o.guard = none) (l c : Operand) (hop : o.op = Op.makeSlice 37 l c)
    (n : Nat) (hl : a.eval l = .int .i64 n) (hc : a.eval c = .int .i64 n) (b : n ≤ 1048576)
    (hK : ∀ w', w'.ownsRow w.heap.size 67 shOp.m (.slice (some ⟨w.heap.size, 0, none⟩) n n) n (List.replicate n [.int .i64 0, .slice none 0 0]).flatten → w.grownBy w' none → wpList Tryz.prog ops Q rest (a.put o.dst (.slice (some ⟨w.heap.size, 0, none⟩) n n)) w') :
    wpList Tryz.prog ops Q (o :: rest) a w := by
  rcases hi : Tryz.prog.info? 67 with _ | i0
  · exfalso
    have := info_Op
    rw [hi] at this
    simp at this
  have h0 := info_Op
  have hb := infob_Op
  rw [hi] at h0 hb
  simp only [Option.map_some, Option.some.injEq, Prod.mk.injEq] at h0
  simp only [Option.all_some, decide_eq_true_eq] at hb
  have hbn : i0.bytes * n ≤ 256 * 1048576 := Nat.mul_le_mul hb b
  refine wpList_make_full w hg l c 37 hop w.heap.size 67 i0 (.agg #[.int .i64 0, .slice none 0 0]) 2 Tryz.underlying37 hi h0.1 h0.2 .i64 .i64 n n n hl hc rfl rfl (by first | omega | (have := Int.ofNat_le.2 hbn; simp at this ⊢; omega)) (by unfold maxLen; omega) (Nat.le_refl _) ?_
  intro w' h1 h2
  refine hK w' ?_ h2
  rw [← made_flat [.int .i64 0, .slice none 0 0] n (by decide)]
  exact h1
set_option linter.unusedVariables false in
set_option maxHeartbeats 4000000 in
theorem toOpS_any (A : Option Addr) (n c : Nat) (xs : List OpM) (w : World) (h : RdN shOp.m shOp.rd w A n xs) (hn : xs.length + cntS shOp.cnt xs ≤ 1048576) :
    Calls Tryz.prog 25 #[.slice A n c] w (ToV (Sh.rows shOp 67) w xs) := by
  have hlen := Lib.hid h.len
  have hnn : n ≤ 1048576 := by have := h.len; omega
  have HN := Lib.hid hn
  clear hn
  go_enter Tryz.func25, Tryz.ntmps25
  go_wp2_with (at_make; refine make_Op _ rfl _ _ rfl n rfl rfl (by omega) ?_; intro w1 hown hg1)
  have hT := (Below.refl w.heap.size w).grown hg1 (Nat.le_refl _) (by simp)
  clear hg1
  go_loopw [4] (fun i wr => ∃ (k : Nat) (css : List (List Value)) (bls : List (List Nat)), k ≤ n ∧ i = .int .i64 k ∧ FillN shOp 67 [.int .i64 0, .slice none 0 0] w.heap.size w.heap.size n wr xs css bls k ∧ Below w.heap.size w wr) (fun i _ => n - (intOf i).toNat)
  case atStart => exact ⟨0, _, _, Nat.zero_le _, rfl, FillN.start hown, hT⟩
  case round =>
    clear hown hT
    obtain ⟨k, css, bls, hk, rfl, hown, hT⟩ := hrel
    replace h := h.next hT
    by_cases hlt : k < n
    · obtain ⟨b, o, vs, x, rfl, -, hc, hr, -, hx⟩ := h.at hlt
      obtain ⟨ATable, nTable, cTable, rfl, qArity, qTable⟩ := rdOp hr
      have cc0 : wr.cell? ⟨b, o + k * 2, none⟩ = some (.int .i64 x.1) := hc 0 _ rfl
      have cc1 : wr.cell? ⟨b, o + k * 2 + 1, none⟩ = some (.slice ATable nTable cTable) := hc 1 _ rfl
      clear hc
      have hX := Lib.hid hx
      have hcx : shOp.cnt x ≤ 1048576 := by have := cntS_mem (f := shOp.cnt) (List.mem_of_getElem? hx); have := HN.out; omega
      clear hx
      have hk0 : (0 : Int) ≤ (k : Int) := by omega
      have hk1 : (k : Int) < (n : Int) := by omega
      go_wp2_with fail
      refine (toOp_any [.int .i64 x.1, .slice ATable nTable cTable] x _ hr hcx).mono ?_
      rintro e w2 ⟨ds, bk, rfl, how, hiv, hb1⟩
      obtain ⟨AyTable, nyTable, cyTable, rfl, -, -⟩ := rdOp (shOp.ord how)
      have hT2 := below_next hT hb1 rfl
      have hown2 := hown.next hb1
      have hlo : w.heap.size ≤ wr.heap.size := hT.size
      have hst := hown.set_ rfl hb1 hlt hX.out how hiv.1 (fun b hb => (hiv.2 b hb).1) hlo
      have dd0 : w2.cell? ⟨w.heap.size, k * 2, none⟩ = some (.int .i64 0) := hown2.cell rfl hlt (i := 0) rfl
      have ff0 := hown2.frozen (k * 2)
      have dd1 : w2.cell? ⟨w.heap.size, k * 2 + 1, none⟩ = some (.slice none 0 0) := hown2.cell rfl hlt (i := 1) rfl
      have ff1 := hown2.frozen (k * 2 + 1)
      replace hst : FillN shOp 67 [.int .i64 0, .slice none 0 0] w.heap.size w.heap.size n ((w2.setCell ⟨w.heap.size, k * 2, none⟩ (.int .i64 x.1)).setCell ⟨w.heap.size, k * 2 + 1, none⟩ (.slice AyTable nyTable cyTable)) xs _ _ (k + 1) := hst
      clear hown hown2 how
      go_wp2_with fail
      go_roundw
      case rel => exact ⟨k + 1, _, _, by omega, by go_num, hst, ((hT2).setCell (Nat.le_refl _) _).setCell (Nat.le_refl _) _⟩
      case measure => simp [intOf]; omega
    · have hd := hown.done hlen.out hlt hk
      have hiv : Iv w.heap.size wr.heap.size (w.heap.size :: bls.flatten) := ⟨hown.nd, hown.lo_⟩
      have hlt' : ¬ (k : Int) < (n : Int) := by omega
      clear hown
      go_wp2_with fail
      go_ret
      exact ⟨_, _, rfl, hd, hiv, hT⟩
set_option linter.unusedVariables false in
set_option maxHeartbeats 4000000 in
theorem eqOpS_any (A B : Option Addr) (n m c d : Nat) (xs ys : List OpM) (w : World) (h : RdN shOp.m shOp.rd w A n xs) (h' : RdN shOp.m shOp.rd w B m ys) :
    Calls Tryz.prog 32 #[.slice A n c, .slice B m d] w (Bl w (.bool (eqC xs ys))) := by
  have hle := h.le
  have hle' := h'.le
  by_cases hnm : n = m
  · subst hnm
    go_enter Tryz.func32, Tryz.ntmps32
    go_wp2
    go_loopw [5] (fun i wr => ∃ k : Nat, k ≤ n ∧ i = .int .i64 k ∧ EqdAt xs ys k ∧ Below w.heap.size w wr) (fun i _ => n - (intOf i).toNat)
    case atStart => exact ⟨0, Nat.zero_le _, rfl, EqdAt.start _ _, Below.refl _ _⟩
    case round =>
      obtain ⟨k, hk, rfl, H, hT⟩ := hrel
      replace h := h.next hT
      replace h' := h'.next hT
      by_cases hlt : k < n
      · obtain ⟨b, o, vs, x, rfl, -, hc, hr, hd, -⟩ := h.at hlt
        obtain ⟨b', o', vs', y, rfl, -, hc', hr', hd', -⟩ := h'.at hlt
        obtain ⟨ATable, nTable, cTable, rfl, qArity, qTable⟩ := rdOp hr
        obtain ⟨AyTable, nyTable, cyTable, rfl, qyArity, qyTable⟩ := rdOp hr'
        have cc0 : wr.cell? ⟨b, o + k * 2, none⟩ = some (.int .i64 x.1) := hc 0 _ rfl
        have dd0 : wr.cell? ⟨b', o' + k * 2, none⟩ = some (.int .i64 y.1) := hc' 0 _ rfl
        have cc1 : wr.cell? ⟨b, o + k * 2 + 1, none⟩ = some (.slice ATable nTable cTable) := hc 1 _ rfl
        have dd1 : wr.cell? ⟨b', o' + k * 2 + 1, none⟩ = some (.slice AyTable nyTable cyTable) := hc' 1 _ rfl
        clear hc hc'
        have H1 := Lib.hid hd
        have H2 := Lib.hid hd'
        clear hd hd'
        have hk0 : (0 : Int) ≤ (k : Int) := by omega
        have hk1 : (k : Int) < (n : Int) := by omega
        obtain ⟨e0, HE⟩ : ∃ e0, Hid (eqC x y = e0) := ⟨_, rfl⟩
        have Tk : Below wr.heap.size wr wr := Below.refl _ _
        go_upto_region 6 with fail
        go_cut [26] (fun v wx => v = .bool (!e0) ∧ Below wr.heap.size wr wx)
        case first =>
          go_region_held3 (fun w' => w'.cell? ⟨b, o + k * 2, none⟩ = some (.int .i64 x.1) ∧ w'.cell? ⟨b', o' + k * 2, none⟩ = some (.int .i64 y.1) ∧ w'.cell? ⟨b, o + k * 2 + 1, none⟩ = some (.slice ATable nTable cTable) ∧ w'.cell? ⟨b', o' + k * 2 + 1, none⟩ = some (.slice AyTable nyTable cyTable)) (first | go_keep | exact ⟨keepc Tk cc0, keepc Tk dd0, keepc Tk cc1, keepc Tk dd1⟩) ((go_at_call 70; refine (eqOp_any [.int .i64 x.1, .slice ATable nTable cTable] [.int .i64 y.1, .slice AyTable nyTable cyTable] x y _ (shOp.stab hr (by first | exact Tk.block | exact (Below.drew Tk).block)) (shOp.stab hr' (by first | exact Tk.block | exact (Below.drew Tk).block))).mono ?_; rintro e wn ⟨rfl, hbn⟩; replace Tk := below_next (by first | exact Tk | exact Below.drew Tk) hbn rfl; rw [HE.out]))
          all_goals (go_wp2_with fail; go_meet; exact ⟨rfl, Tk⟩)
        case rest =>
          obtain ⟨rfl, hb4⟩ := hcut
          have hT4 := below_next hT hb4 rfl
          clear hb4 Tk cc0 dd0 cc1 dd1
          rcases e0 with _ | _
          · go_wp2_with fail
            go_ret
            exact ⟨ret_bool (H.stop H1.out H2.out HE.out), hT4⟩
          · go_wp2_with fail
            go_roundw
            case rel => exact ⟨k + 1, by omega, by go_num, H.step H1.out H2.out HE.out, hT4⟩
            case measure => simp [intOf]; omega
      · have hlt' : ¬ (k : Int) < (n : Int) := by omega
        go_wp2_with fail
        go_ret
        exact ⟨ret_bool (H.done (h.drop_end hlt) (h'.drop_end hlt)), hT⟩
  · have hne : ((n : Int) != (m : Int)) = true := by rw [bne_iff_ne]; omega
    have HL := Lib.hid (eqd_len h.len h'.len hnm)
    go_enter Tryz.func32, Tryz.ntmps32
    go_wp2_with fail
    go_ret
    exact ⟨ret_bool HL.out, Below.refl _ _⟩
theorem szOpSv_any (v : Value) (xs : List OpM) (left : Int) (w : World) (h : (Sh.rows shOp 67).rd w [v] xs) (h0 : 0 ≤ left) (h1 : left ≤ 1048576) :
    Calls Tryz.prog 18 #[v, .int .i64 left] w (Bl w (.int .i64 (szR ((Sh.rows shOp 67).cnt xs) left))) := by
  obtain ⟨A, n, c, e, r⟩ := h
  injection e with e _
  subst e
  exact szOpS_any A n c xs left w r h0 h1
theorem toOpSv_any (v : Value) (xs : List OpM) (w : World) (h : (Sh.rows shOp 67).rd w [v] xs) (hn : (Sh.rows shOp 67).cnt xs ≤ 1048576) :
    Calls Tryz.prog 25 #[v] w (ToV (Sh.rows shOp 67) w xs) := by
  obtain ⟨A, n, c, e, r⟩ := h
  injection e with e _
  subst e
  exact toOpS_any A n c xs w r hn
theorem eqOpSv_any (v u : Value) (xs ys : List OpM) (w : World) (h : (Sh.rows shOp 67).rd w [v] xs) (h' : (Sh.rows shOp 67).rd w [u] ys) :
    Calls Tryz.prog 32 #[v, u] w (Bl w (.bool (eqC xs ys))) := by
  obtain ⟨A, n, c, e, r⟩ := h
  injection e with e _
  subst e
  obtain ⟨B, m, d, e, r'⟩ := h'
  injection e with e _
  subst e
  exact eqOpS_any A B n m c d xs ys w r r'
end Go.Proofs.YtidjocikbmkjbaaGreat
namespace Go.Proofs.YtidjocikbmkjbaaGreat
open Go.RowKit

abbrev AlgebraM : Type := (Int × List OpM)
def shAlgebra : Sh AlgebraM := (Sh.pair Sh.int (Sh.rows shOp 67))
theorem rdAlgebra {w : World} {cs : List Value} {x : AlgebraM} (h : shAlgebra.rd w cs x) : ∃ (AOps : Option Addr) (nOps cOps : Nat), cs = [.int .i64 x.1, .slice AOps nOps cOps] ∧ InR x.1 ∧ RdN shOp.m shOp.rd w AOps nOps x.2 := by
  obtain ⟨_, _, rfl, ⟨_, rfl, rfl, loSize, hiSize⟩, ⟨AOps, nOps, cOps, rfl, rOps⟩⟩ := h
  exact ⟨AOps, nOps, cOps, rfl, ⟨loSize, hiSize⟩, rOps⟩
theorem mkAlgebra {w : World} {x : AlgebraM} {AOps : Option Addr} {nOps cOps : Nat} (hSize : InR x.1) (hOps : RdN shOp.m shOp.rd w AOps nOps x.2) : shAlgebra.rd w [.int .i64 x.1, .slice AOps nOps cOps] x :=
  ⟨[.int .i64 x.1], [.slice AOps nOps cOps], rfl, ⟨_, rfl, rfl, hSize.1, hSize.2⟩, ⟨_, _, _, rfl, hOps⟩⟩
set_option linter.unusedVariables false in
set_option maxHeartbeats 2000000 in
theorem szAlgebra_any (cs : List Value) (x : AlgebraM) (left : Int) (w : World) (h : shAlgebra.rd w cs x) (h0 : 0 ≤ left) (h1 : left ≤ 1048576) :
    Calls Tryz.prog 4 #[.agg cs.toArray, .int .i64 left] w (Bl w (.int .i64 (szR (shAlgebra.cnt x) left))) := by
  obtain ⟨AOps, nOps, cOps, rfl, qSize, qOps⟩ := rdAlgebra h
  obtain ⟨w0, hw0, T0, hsz0, BP⟩ := boxes1 w #[.int .i64 x.1, .slice AOps nOps cOps] 24
  have lOps := qOps.le
  have HC0 : Hid (szR 0 left = left) := szR_zero h0
  have HCN : Hid (shAlgebra.cnt x = (0 + (x.2.length + cntS shOp.cnt x.2))) := rfl
  replace qOps := qOps.next T0
  go_enter Tryz.func4, Tryz.ntmps4
  have cP := BP.cell 1
  simp at cP
  rw [hw0] at cP
  go_wp2_with fail
  rw [← hw0]
  refine (szOpS_any _ _ _ _ left _ qOps (by omega) (by omega)).mono ?_
  rintro e w1 ⟨rfl, hb1⟩
  have T1 := below_next T0 hb1 rfl
  replace BP := BP.next hb1
  replace qOps := qOps.next hb1
  clear cP
  have HC1 : Hid (szR (0 + (x.2.length + cntS shOp.cnt x.2)) left = szR (x.2.length + cntS shOp.cnt x.2) left) := by show _ = _; rw [← szR_add (by rw [HC0.out]; omega), HC0.out]
  have hbd0 := szR_bd (x.2.length + cntS shOp.cnt x.2) (left := left) (by omega)
  obtain ⟨L0, HL0⟩ : ∃ L, Hid (szR (x.2.length + cntS shOp.cnt x.2) left = L) := ⟨_, rfl⟩
  rw [HL0.out] at HC1 hbd0 ⊢
  by_cases z0 : L0 < 0
  · go_wp2_with fail
    go_ret
    exact ⟨ret_int (szR_le (by rw [HC1.out]; omega) (by rw [HCN.out]; omega) h0), T1⟩
  go_wp2_with fail
  go_ret
  exact ⟨ret_int (by simp only [HCN.out, ← HC1.out]; first | done | (congr 1; omega)), T1⟩
set_option linter.unusedVariables false in
set_option maxHeartbeats 4000000 in
theorem toAlgebra_any (cs : List Value) (x : AlgebraM) (w : World) (h : shAlgebra.rd w cs x) (hn : shAlgebra.cnt x ≤ 1048576) :
    Calls Tryz.prog 7 #[.agg cs.toArray] w (ToE shAlgebra w x) := by
  obtain ⟨AOps, nOps, cOps, rfl, qSize, qOps⟩ := rdAlgebra h
  have hcn : (0 + (x.2.length + cntS shOp.cnt x.2)) ≤ 1048576 := hn
  obtain ⟨w0, hw0, T0, hsz0, BP, BR, BO⟩ := boxes3 w #[.int .i64 x.1, .slice AOps nOps cOps] #[.int .i64 0, .slice none 0 0] #[.int .i64 x.1, .slice none 0 0] 24 39
  have eOps := qOps.len
  go_enter Tryz.func7, Tryz.ntmps7
  go_wp2_with fail
  rw [← hw0]
  refine (toOpS_any _ _ _ _ _ (qOps.next T0) (by omega)).mono ?_
  rintro e w1 ⟨vOps, blOps, rfl, OOps, IOps, hb1⟩
  obtain ⟨AyOps, nyOps, cyOps, hv, -⟩ := (Sh.rows shOp 67).ord OOps
  obtain rfl : vOps = .slice AyOps nyOps cyOps := by simpa using hv
  clear hv
  have hz1 := hb1.size
  have T1 := below_next T0 hb1 rfl
  replace BP := BP.next hb1
  replace BR := BR.next hb1
  replace BO := BO.next hb1
  clear hb1
  have cR0 := BR.cell 0
  have fR0 := BR.frozen 0
  have cR1 := BR.cell 1
  have fR1 := BR.frozen 1
  simp at cR0 cR1
  have cP0 := BP.cell 0
  have cP1 := BP.cell 1
  have cO0 := BO.cell 0
  have fO0 := BO.frozen 0
  have cO1 := BO.cell 1
  have fO1 := BO.frozen 1
  simp at cP0 cO0 cP1 cO1
  go_wp2_with fail
  clear cP0 cO0 fO0 cP1 cO1 fO1
  clear cR0 fR0 cR1 fR1
  obtain ⟨w2, hw2⟩ : ∃ wb, wb = (w1.setCell ⟨w.heap.size + 1 + 1, 1, none⟩ (.slice AyOps nyOps cyOps)) := ⟨_, rfl⟩
  have BO' : Blk w2 (w.heap.size + 1 + 1) 39 #[.int .i64 x.1, .slice AyOps nyOps cyOps] := by rw [hw2]; simpa using (BO.set_ 1 (.slice AyOps nyOps cyOps))
  replace BP : Blk w2 w.heap.size 24 #[.int .i64 x.1, .slice AOps nOps cOps] := by rw [hw2]; exact (BP.far (p := ⟨w.heap.size + 1 + 1, 1, none⟩) (by simp; try omega) (.slice AyOps nyOps cyOps))
  replace BR : Blk w2 (w.heap.size + 1) 39 #[.int .i64 0, .slice none 0 0] := by rw [hw2]; exact (BR.far (p := ⟨w.heap.size + 1 + 1, 1, none⟩) (by simp; try omega) (.slice AyOps nyOps cyOps))
  replace BO := BO'
  clear BO'
  have T2 : Below w.heap.size w w2 := by rw [hw2]; exact (T1.setCell (by simp; try omega) (.slice AyOps nyOps cyOps))
  have hz2 : w2.heap.size = w1.heap.size := by rw [hw2]; simp
  replace OOps : (Sh.rows shOp 67).own w2 [.slice AyOps nyOps cyOps] x.2 blOps := by rw [hw2]; exact Sh.oset (p := ⟨w.heap.size + 1 + 1, 1, none⟩) (OOps) IOps (by show w.heap.size + 1 + 1 < _; omega) (.slice AyOps nyOps cyOps)
  
  rw [← hw2]
  have BRR : Blk ((w2.setCell ⟨w.heap.size + 1, 0, none⟩ (.int .i64 x.1)).setCell ⟨w.heap.size + 1, 1, none⟩ (.slice AyOps nyOps cyOps)) (w.heap.size + 1) 39 #[.int .i64 x.1, .slice AyOps nyOps cyOps] := by simpa using ((BR).set_ 0 (.int .i64 x.1)).set_ 1 (.slice AyOps nyOps cyOps)
  (try simp only [Exit.inBlock, Exit.then])
  refine bodyPost_ret (v := .agg #[.int .i64 x.1, .slice AyOps nyOps cyOps]) (results_cell_row rfl _ _ (w.heap.size + 1) 39 #[.int .i64 x.1, .slice AyOps nyOps cyOps] (0, 0) _ (by simp) BRR Tryz.underlying39 rfl (by kernel_rfl)) rfl ?_
  have hsz : ((w2.setCell ⟨w.heap.size + 1, 0, none⟩ (.int .i64 x.1)).setCell ⟨w.heap.size + 1, 1, none⟩ (.slice AyOps nyOps cyOps)).heap.size = w2.heap.size := by simp
  refine ⟨_, blOps, rfl, ⟨[.int .i64 x.1], [.slice AyOps nyOps cyOps], [], blOps, rfl, rfl, ⟨_, rfl, ⟨rfl, qSize.1, qSize.2⟩, rfl⟩, (Sh.oset (p := ⟨w.heap.size + 1, 1, none⟩) (Sh.oset (p := ⟨w.heap.size + 1, 0, none⟩) (OOps) IOps (by show w.heap.size + 1 < _; omega) (.int .i64 x.1)) IOps (by show w.heap.size + 1 < _; omega) (.slice AyOps nyOps cyOps))⟩, ?_, ((T2).setCell (by simp; try omega) (.int .i64 x.1)).setCell (by simp; try omega) (.slice AyOps nyOps cyOps)⟩
  rw [hsz]
  exact Iv.mono IOps (by omega) (by omega)
theorem eqPAlgebra (x y : AlgebraM) : eqC x y = (eqC (x.1) (y.1) && eqC (x.2) (y.2)) := by
  obtain ⟨x0, x1⟩ := x
  obtain ⟨y0, y1⟩ := y
  simp only [dec_pair]
set_option linter.unusedVariables false in
set_option maxHeartbeats 4000000 in
theorem eqAlgebra_any (cs ds : List Value) (x y : AlgebraM) (w : World) (h : shAlgebra.rd w cs x) (h' : shAlgebra.rd w ds y) :
    Calls Tryz.prog 12 #[.agg cs.toArray, .agg ds.toArray] w (Bl w (.bool (eqC x y))) := by
  obtain ⟨AOps, nOps, cOps, rfl, qSize, qOps⟩ := rdAlgebra h
  obtain ⟨AyOps, nyOps, cyOps, rfl, qySize, qyOps⟩ := rdAlgebra h'
  obtain ⟨w0, hw0, T0, hsz0, BP, BQ⟩ := boxes2 w #[.int .i64 x.1, .slice AOps nOps cOps] #[.int .i64 y.1, .slice AyOps nyOps cyOps] 39 39
  replace qOps := qOps.next T0
  replace qyOps := qyOps.next T0
  have HD := Lib.hid (eqPAlgebra x y)
  go_enter Tryz.func12, Tryz.ntmps12
  rcases hd0 : eqC (x.1) (y.1) with _ | _
  · have ht : (x.1 != y.1) = true := neq_int hd0
    have HH0 := Lib.hid hd0
    clear hd0
    have cP0 := BP.cell 0
    have cQ0 := BQ.cell 0
    simp at cP0 cQ0
    rw [hw0] at cP0 cQ0
    go_wp2_with fail
    go_ret
    exact ⟨ret_bool (by rw [HD.out, HH0.out]; first | rfl | simp), by first | exact T0 | (rw [← hw0]; exact T0)⟩
  have ht0 : (x.1 != y.1) = false := neq_int hd0
  have HH0 := Lib.hid hd0
  clear hd0
  have cP0 := BP.cell 0
  have cQ0 := BQ.cell 0
  simp at cP0 cQ0
  rw [hw0] at cP0 cQ0
  rcases hd1 : eqC (x.2) (y.2) with _ | _
  · have HH1 := Lib.hid hd1
    clear hd1
    have cP1 := BP.cell 1
    have cQ1 := BQ.cell 1
    simp at cP1 cQ1
    rw [hw0] at cP1 cQ1
    go_wp2_with fail
    rw [← hw0]
    refine (eqOpS_any _ _ _ _ _ _ _ _ _ qOps qyOps).mono ?_
    rintro e w1 ⟨rfl, hb1⟩
    rw [HH1.out]
    have T1 := below_next T0 hb1 rfl
    go_wp2_with fail
    go_ret
    exact ⟨ret_bool (by rw [HD.out, HH0.out, HH1.out]; first | rfl | simp), T1⟩
  have HH1 := Lib.hid hd1
  clear hd1
  have cP1 := BP.cell 1
  have cQ1 := BQ.cell 1
  simp at cP1 cQ1
  rw [hw0] at cP1 cQ1
  go_wp2_with fail
  rw [← hw0]
  refine (eqOpS_any _ _ _ _ _ _ _ _ _ qOps qyOps).mono ?_
  rintro e w1 ⟨rfl, hb1⟩
  rw [HH1.out]
  have T1 := below_next T0 hb1 rfl
  clear cP1 cQ1 cP0 cQ0 ht0
  replace BP := BP.next hb1
  replace BQ := BQ.next hb1
  replace qOps := qOps.next hb1
  replace qyOps := qyOps.next hb1
  go_wp2_with fail
  go_ret
  exact ⟨ret_bool (by rw [HD.out, HH0.out, HH1.out]; first | rfl | simp), T1⟩
end Go.Proofs.YtidjocikbmkjbaaGreat
namespace Go.Proofs.YtidjocikbmkjbaaGreat
open Go.RowKit

def mcOp (x : OpM) : Nat := 1 + x.2.length
def mqOp (k : Int) (x : OpM) : OpM := (k, nums (k + 1) x.2.length)
def msAlgebra (x : AlgebraM) : Nat := cntS mcOp x.2
def mqAlgebra (k : Int) (x : AlgebraM) : AlgebraM := (x.1, mkL mqOp mcOp k x.2)

set_option linter.unusedVariables false in
set_option maxHeartbeats 8000000 in
theorem markOpS_any (v : Value) (xs : List OpM) (bl : List Nat) (k0 : Int) (w : World) (h : (Sh.rows shOp 67).own w [v] xs bl) (hnd : bl.Nodup) (h0 : 0 ≤ k0) (h1 : k0 + cntS mcOp xs ≤ 4611686018427387904) :
    Calls Tryz.prog 33 #[v, .int .i64 k0] w (MkE (Sh.rows shOp 67) w [v] (mkL mqOp mcOp k0 xs) bl (k0 + cntS mcOp xs)) := by
  obtain ⟨v', css0, bls, e, hP0, rfl⟩ := h
  injection e with e _
  subst e
  obtain ⟨A, c, rfl⟩ := own_slice hP0.row
  have hnl := own_len_le hP0.row
  unfold maxLen at hnl
  have HND := Lib.hid hnd
  clear hnd
  go_enter Tryz.func33, Tryz.ntmps33
  go_wp2
  go_loopw [1, 5] (fun q i wr => ∃ (j : Nat) (k : Int) (ys : List OpM) (css : List (List Value)), j ≤ xs.length ∧ i = .int .i64 j ∧ q = .int .i64 k ∧ MkAt mqOp mcOp k0 xs ys j k ∧ Parts shOp 67 wr (.slice A xs.length c) ys css bls ∧ ChgB (obl (.slice A xs.length c) ++ bls.flatten) w wr) (fun _ i _ => xs.length - (intOf i).toNat)
  case atStart => exact ⟨0, k0, xs, css0, Nat.zero_le _, rfl, rfl, MkAt.start _ _, hP0, ChgB.refl _ _⟩
  case round =>
    clear hP0
    obtain ⟨j, k, ys, css, hj, rfl, rfl, HM, hP, CH⟩ := hrel
    have hyl : ys.length = xs.length := HM.2.2.1
    by_cases hlt : j < xs.length
    · have hd : xs.drop j = xs[j] :: xs.drop (j + 1) := List.drop_eq_getElem_cons hlt
      generalize xs[j] = x at hd
      obtain ⟨hyj, hk0, hk1⟩ := HM.left hd
      have HS := Lib.hid (HM.step hd)
      obtain ⟨g, cap, hv⟩ := hP.slice (by omega : j < ys.length)
      injection hv with hA hn2 hc2
      subst hA
      clear hn2 hc2
      have hl1 := hP.l1
      have hl2 := hP.l2
      have hcj : css[j]? = some (css[j]'(by omega)) := List.getElem?_eq_getElem (by omega)
      have hbj : bls[j]? = some (bls[j]'(by omega)) := List.getElem?_eq_getElem (by omega)
      generalize css[j]'(by omega) = cj at hcj
      generalize bls[j]'(by omega) = bk at hbj
      have ho := hP.el j cj x bk hcj hyj hbj
      obtain ⟨c0, c1, b0, b1, rfl, rfl, O0, O1⟩ := ho
      obtain ⟨_, rfl, ⟨rfl, lo0, hi0⟩, rfl⟩ := O0
      obtain ⟨_, rfl, B, m, d, rfl, -⟩ := (Sh.il 3).ord O1
      have hgb := nd_head HND.out (g := g) rfl
      have hbk : ∀ b ∈ b1, b ∈ bls.flatten := fun b hb => List.mem_flatten.2 ⟨_, List.mem_of_getElem? hbj, by simpa using hb⟩
      have hgk : g ∉ b1 := fun hh => hgb (hbk g hh)
      have hmb : j * 2 + 2 ≤ xs.length * 2 := by omega
      have ROW := hP.row
      rw [hyl] at ROW
      have hall := hP.all
      have q0 : j * 2 < xs.length * shOp.m := by show _ < _ * 2; omega
      have q1 : j * 2 + 1 < xs.length * shOp.m := by show _ < _ * 2; omega
      have F0 : css.flatten[j * 2]? = some (.int .i64 x.1) := by have := flat_get hall j 0 (by decide); rw [hcj] at this; exact this
      have F1 : css.flatten[j * 2 + 1]? = some (.slice B m d) := by have := flat_get hall j 1 (by decide); rw [hcj] at this; exact this
      have cc0 : wr.cell? ⟨g, j * 2, none⟩ = some (.int .i64 x.1) := (ROW.cellAt _ q0).trans F0
      have cc1 : wr.cell? ⟨g, j * 2 + 1, none⟩ = some (.slice B m d) := (ROW.cellAt _ q1).trans F1
      have ff0 : wr.frozen? ⟨g, j * 2, none⟩ = false := ROW.frozenAt _
      obtain ⟨w1, hw1⟩ : ∃ wb, wb = wr.setCell ⟨g, j * 2, none⟩ (.int .i64 k) := ⟨_, rfl⟩
      have ROW1 : w1.ownsRow 0 67 shOp.m (.slice (some ⟨g, 0, none⟩) xs.length c) xs.length (css.flatten.set (j * 2) (.int .i64 k)) := by rw [hw1]; exact (ROW.stored (j * 2) (.int .i64 k)).1
      have O2 : (Sh.il 3).own w1 [.slice B m d] x.2 b1 := by rw [hw1]; exact Sh.oset' (p := ⟨g, j * 2, none⟩) O1 hgk _
      have C1 : ChgB (g :: b1) wr w1 := by rw [hw1]; exact ChgB.set (p := ⟨g, j * 2, none⟩) (List.mem_cons_self ..) _
      have HCJ := Lib.hid hcj
      have HBJ := Lib.hid hbj
      have HP := Lib.hid hP
      have HD := Lib.hid hd
      have HYL := Lib.hid hyl
      have HF1 := Lib.hid F1
      have hj0 : (0 : Int) ≤ (j : Int) := by omega
      have hj1 : (j : Int) < (xs.length : Int) := by omega
      have hmc : mcOp x = 1 + x.2.length := rfl
      clear hd HM hP hyl hcj hbj hyj ROW O1 F0 F1
      go_wp2_with fail
      rw [← hw1]
      clear hw1 cc0 cc1 ff0
      refine (markIl_any _ x.2 b1 (k + 1) w1 O2 (by omega) (by omega)).mono ?_
      rintro e w2 ⟨rfl, O3, hc2⟩
      have ROW2 := row_chg ROW1 hc2 (fun b hb => by injection hb with hb; subst hb; exact hgk)
      have C2 := C1.trans (hc2.mono fun b hb => List.mem_cons_of_mem _ hb)
      have hset : css.flatten.set (j * 2) (.int .i64 k) = setAll css.flatten (j * shOp.m) [.int .i64 k, .slice B m d] := by
        show _ = (css.flatten.set (j * 2) (.int .i64 k)).set (j * 2 + 1) (.slice B m d)
        rw [set_same (set_get_ne HF1.out (by omega))]
      rw [hset] at ROW2
      have ROW3 : w2.ownsRow 0 67 shOp.m (.slice (some ⟨g, 0, none⟩) xs.length c) ys.length (setAll css.flatten (j * shOp.m) [.int .i64 k, .slice B m d]) := by rw [HYL.out]; exact ROW2
      have hkr : InR k := ⟨by omega, by omega⟩
      have HPP := HP.out.put HND.out HBJ.out (c' := [.int .i64 k, .slice B m d]) (x' := mqOp k x) ROW3 ⟨[.int .i64 k], [.slice B m d], [], b1, rfl, rfl, ⟨_, rfl, ⟨rfl, hkr.1, hkr.2⟩, rfl⟩, O3⟩
        (fun b hb hn => C2.block b (HP.out.lt b (List.mem_append_right _ hb)) (by simp; exact ⟨fun e => hgb (e ▸ hb), by simpa using hn⟩))
      have CH2 := CH.trans (C2.mono fun b hb => by
        rcases List.mem_cons.1 hb with rfl | hb
        · exact List.mem_append_left _ (mem_obl.2 rfl)
        · exact List.mem_append_right _ (hbk b hb))
      clear hset ROW2 ROW3 C2 O3 C1 O2 ROW1
      have HPP' := Lib.hid HPP
      clear HPP
      go_wp2_with fail
      go_roundw
      case rel => exact ⟨j + 1, _, _, _, by omega, by go_num, rfl, by rw [show k + 1 + ((x.2.length : Nat) : Int) = k + mcOp x from by rw [hmc]; omega]; exact HS.out, HPP'.out, CH2⟩
      case measure => simp [intOf]; omega
    · have hj' : j = xs.length := by omega
      obtain ⟨rfl, hk⟩ := HM.done (List.drop_eq_nil_of_le (by omega))
      have HK := Lib.hid hk
      have HPP := Lib.hid hP
      clear hP hk hyl
      have hlt' : ¬ (j : Int) < (xs.length : Int) := by omega
      have hl := mkL_len mqOp mcOp k0 xs
      have HL := Lib.hid hl
      clear hl hj'
      go_wp2_with fail
      go_ret
      exact ⟨ret_int HK.out, ⟨_, css, bls, rfl, HPP.out, rfl⟩, CH⟩
set_option linter.unusedVariables false in
set_option maxHeartbeats 2000000 in
theorem markAlgebra_any (cs : List Value) (x : AlgebraM) (bl : List Nat) (k0 : Int) (w : World) (h : shAlgebra.own w cs x bl) (hnd : bl.Nodup) (h0 : 0 ≤ k0) (h1 : k0 + msAlgebra x ≤ 4611686018427387904) :
    Calls Tryz.prog 14 #[.agg cs.toArray, .int .i64 k0] w (MkE shAlgebra w cs (mqAlgebra k0 x) bl (k0 + msAlgebra x)) := by
  obtain ⟨c0, c1, b0, b1, rfl, rfl, O0, O1⟩ := h
  obtain ⟨_, rfl, ⟨rfl, lo0, hi0⟩, rfl⟩ := O0
  obtain ⟨B, m, d, rfl, -⟩ := (Sh.rows shOp 67).ord O1
  obtain ⟨w0, hw0, T0, hsz0, BP⟩ := boxes1 w #[.int .i64 x.1, .slice B m d] 39
  have O2 := Sh.onext O1 T0
  go_enter Tryz.func14, Tryz.ntmps14
  go_wp2_with fail
  rw [← hw0]
  clear hw0
  refine (markOpS_any _ x.2 b1 k0 w0 O2 (by simpa using hnd) h0 h1).mono ?_
  rintro e w1 ⟨rfl, O3, hc⟩
  go_wp2_with fail
  go_ret
  exact ⟨rfl, ⟨[.int .i64 x.1], [.slice B m d], [], b1, rfl, rfl, ⟨_, rfl, ⟨rfl, lo0, hi0⟩, rfl⟩, O3⟩, (ChgB.ofBelow T0).trans (hc.mono fun b hb => by simpa using hb)⟩
end Go.Proofs.YtidjocikbmkjbaaGreat
