
/- The harness's functions on Entry and []Entry: size, copy, equality. Printed by genshape.py. -/
import Derived.Test.YtbpdbimdefdefaaHAlgebra
import Derived.Deep.RegionHeld3
import Derived.Deep.DeepCutAuto
namespace Go.Proofs.Ytbpdbimdefdefaa
open Go.RowKit

abbrev EntryM : Type := (ByteArray × AlgebraM)
def shEntry : Sh EntryM := (Sh.pair Sh.str shAlgebra)
theorem rdEntry {w : World} {cs : List Value} {x : EntryM} (h : shEntry.rd w cs x) : ∃ (AModelOps : Option Addr) (nModelOps cModelOps : Nat), cs = [.string x.1, .int .i64 x.2.1, .slice AModelOps nModelOps cModelOps] ∧ x.1.size ≤ maxLen ∧ InR x.2.1 ∧ RdN shOp.m shOp.rd w AModelOps nModelOps x.2.2 := by
  obtain ⟨_, _, rfl, ⟨_, rfl, rfl, hsName⟩, ⟨_, _, rfl, ⟨_, rfl, rfl, loModelSize, hiModelSize⟩, ⟨AModelOps, nModelOps, cModelOps, rfl, rModelOps⟩⟩⟩ := h
  exact ⟨AModelOps, nModelOps, cModelOps, rfl, hsName, ⟨loModelSize, hiModelSize⟩, rModelOps⟩
theorem mkEntry {w : World} {x : EntryM} {AModelOps : Option Addr} {nModelOps cModelOps : Nat} (hName : x.1.size ≤ maxLen) (hModelSize : InR x.2.1) (hModelOps : RdN shOp.m shOp.rd w AModelOps nModelOps x.2.2) : shEntry.rd w [.string x.1, .int .i64 x.2.1, .slice AModelOps nModelOps cModelOps] x :=
  ⟨[.string x.1], [.int .i64 x.2.1, .slice AModelOps nModelOps cModelOps], rfl, ⟨_, rfl, rfl, hName⟩, ⟨[.int .i64 x.2.1], [.slice AModelOps nModelOps cModelOps], rfl, ⟨_, rfl, rfl, hModelSize.1, hModelSize.2⟩, ⟨_, _, _, rfl, hModelOps⟩⟩⟩
set_option linter.unusedVariables false in
set_option maxHeartbeats 2000000 in
theorem szEntry_any (cs : List Value) (x : EntryM) (left : Int) (w : World) (h : shEntry.rd w cs x) (h0 : 0 ≤ left) (h1 : left ≤ 1048576) :
    Calls Try.prog 39 #[.agg cs.toArray, .int .i64 left] w (Bl w (.int .i64 (szR (shEntry.cnt x) left))) := by
  obtain ⟨AModelOps, nModelOps, cModelOps, rfl, qName, qModelSize, qModelOps⟩ := rdEntry h
  obtain ⟨w0, hw0, T0, hsz0, BP⟩ := boxes1 w #[.string x.1, .int .i64 x.2.1, .slice AModelOps nModelOps cModelOps] 60
  have lModelOps := qModelOps.le
  unfold maxLen at qName
  have HC0 : Hid (szR 0 left = left) := szR_zero h0
  have HCN : Hid (shEntry.cnt x = (x.1.size + (shAlgebra.cnt x.2))) := rfl
  replace qModelOps := qModelOps.next T0
  go_enter Try.func39, Try.ntmps39
  have cP := BP.cell 0
  simp at cP
  rw [hw0] at cP
  by_cases z0 : left - (x.1.size : Int) < 0
  · have HZ := Lib.hid (szR_lt (s := x.1.size) HC0.out (by omega) z0 (c := shEntry.cnt x) (by rw [HCN.out]; omega) h0)
    go_wp2_with fail
    go_ret
    exact ⟨ret_int HZ.out, by first | exact T0 | (rw [← hw0]; exact T0)⟩
  have HC1 : Hid (szR (0 + x.1.size) left = left - (x.1.size : Int)) := szR_ge HC0.out (by omega) z0
  have cP := BP.cell 1
  clear cP
  have cP0 := BP.cell 1
  have cP1 := BP.cell 2
  simp at cP0 cP1
  rw [hw0] at cP0 cP1
  go_wp2_with fail
  obtain ⟨L0, HL0⟩ : ∃ L, Hid ((left - (x.1.size : Int)) = L) := ⟨_, rfl⟩
  have hL0 : 0 ≤ L0 ∧ L0 ≤ 1048576 := by have := HL0.out; omega
  rw [HL0.out] at HC1 ⊢
  clear z0
  rw [← hw0]
  refine (szAlgebra_any [.int .i64 x.2.1, .slice AModelOps nModelOps cModelOps] x.2 L0 _ (mkAlgebra qModelSize qModelOps) (by omega) (by omega)).mono ?_
  rintro e w1 ⟨rfl, hb1⟩
  have T1 := below_next T0 hb1 rfl
  replace BP := BP.next hb1
  replace qModelOps := qModelOps.next hb1
  clear cP0 cP1
  have HC2 : Hid (szR ((0 + x.1.size) + (shAlgebra.cnt x.2)) left = szR (shAlgebra.cnt x.2) L0) := by show _ = _; rw [← szR_add (by rw [HC1.out]; omega), HC1.out]
  have hbd1 := szR_bd (shAlgebra.cnt x.2) (left := L0) (by omega)
  obtain ⟨L1, HL1⟩ : ∃ L, Hid (szR (shAlgebra.cnt x.2) L0 = L) := ⟨_, rfl⟩
  rw [HL1.out] at HC2 hbd1 ⊢
  by_cases z1 : L1 < 0
  · go_wp2_with fail
    go_ret
    exact ⟨ret_int (szR_le (by rw [HC2.out]; omega) (by rw [HCN.out]; omega) h0), T1⟩
  go_wp2_with fail
  go_ret
  exact ⟨ret_int (by simp only [HCN.out, ← HC2.out]; first | done | (congr 1; omega)), T1⟩
set_option linter.unusedVariables false in
set_option maxHeartbeats 4000000 in
theorem toEntry_any (cs : List Value) (x : EntryM) (w : World) (h : shEntry.rd w cs x) (hn : shEntry.cnt x ≤ 1048576) :
    Calls Try.prog 43 #[.agg cs.toArray] w (ToE shEntry w x) := by
  obtain ⟨AModelOps, nModelOps, cModelOps, rfl, qName, qModelSize, qModelOps⟩ := rdEntry h
  have hcn : (x.1.size + (shAlgebra.cnt x.2)) ≤ 1048576 := hn
  obtain ⟨w0, hw0, T0, hsz0, BP, BR, BO⟩ := boxes3 w #[.string x.1, .int .i64 x.2.1, .slice AModelOps nModelOps cModelOps] #[.string ⟨#[]⟩, .int .i64 0, .slice none 0 0] #[.string x.1, .int .i64 0, .slice none 0 0] 60 64
  have eModelOps := qModelOps.len
  go_enter Try.func43, Try.ntmps43
  go_wp2_with fail
  rw [← hw0]
  refine (toAlgebra_any [.int .i64 x.2.1, .slice AModelOps nModelOps cModelOps] x.2 _ (mkAlgebra qModelSize (qModelOps.next T0)) (by omega)).mono ?_
  rintro e w1 ⟨csModel, blModel, rfl, OModel, IModel, hb1⟩
  obtain ⟨AyModelOps, nyModelOps, cyModelOps, rfl, -, -⟩ := rdAlgebra (shAlgebra.ord OModel)
  have hz1 := hb1.size
  have T1 := below_next T0 hb1 rfl
  replace BP := BP.next hb1
  replace BR := BR.next hb1
  replace BO := BO.next hb1
  clear hb1
  have cR0 := BR.cell 0
  have fR0 := BR.frozen 0
  have cR1 := BR.cell 1
  have fR1 := BR.frozen 1
  have cR2 := BR.cell 2
  have fR2 := BR.frozen 2
  simp at cR0 cR1 cR2
  have cP0 := BP.cell 0
  have cP1 := BP.cell 1
  have cP2 := BP.cell 2
  have cO0 := BO.cell 0
  have fO0 := BO.frozen 0
  have cO1 := BO.cell 1
  have fO1 := BO.frozen 1
  have cO2 := BO.cell 2
  have fO2 := BO.frozen 2
  simp at cP0 cO0 cP1 cO1 cP2 cO2
  go_wp2_with fail
  clear cP0 cO0 fO0 cP1 cO1 fO1 cP2 cO2 fO2
  clear cR0 fR0 cR1 fR1 cR2 fR2
  obtain ⟨w2, hw2⟩ : ∃ wb, wb = ((w1.setCell ⟨w.heap.size + 1 + 1, 1, none⟩ (.int .i64 x.2.1)).setCell ⟨w.heap.size + 1 + 1, 2, none⟩ (.slice AyModelOps nyModelOps cyModelOps)) := ⟨_, rfl⟩
  have BO' : Blk w2 (w.heap.size + 1 + 1) 64 #[.string x.1, .int .i64 x.2.1, .slice AyModelOps nyModelOps cyModelOps] := by rw [hw2]; simpa using ((BO.set_ 1 (.int .i64 x.2.1)).set_ 2 (.slice AyModelOps nyModelOps cyModelOps))
  replace BP : Blk w2 w.heap.size 60 #[.string x.1, .int .i64 x.2.1, .slice AModelOps nModelOps cModelOps] := by rw [hw2]; exact ((BP.far (p := ⟨w.heap.size + 1 + 1, 1, none⟩) (by simp; try omega) (.int .i64 x.2.1)).far (p := ⟨w.heap.size + 1 + 1, 2, none⟩) (by simp; try omega) (.slice AyModelOps nyModelOps cyModelOps))
  replace BR : Blk w2 (w.heap.size + 1) 64 #[.string ⟨#[]⟩, .int .i64 0, .slice none 0 0] := by rw [hw2]; exact ((BR.far (p := ⟨w.heap.size + 1 + 1, 1, none⟩) (by simp; try omega) (.int .i64 x.2.1)).far (p := ⟨w.heap.size + 1 + 1, 2, none⟩) (by simp; try omega) (.slice AyModelOps nyModelOps cyModelOps))
  replace BO := BO'
  clear BO'
  have T2 : Below w.heap.size w w2 := by rw [hw2]; exact ((T1.setCell (by simp; try omega) (.int .i64 x.2.1)).setCell (by simp; try omega) (.slice AyModelOps nyModelOps cyModelOps))
  have hz2 : w2.heap.size = w1.heap.size := by rw [hw2]; simp
  replace OModel : shAlgebra.own w2 [.int .i64 x.2.1, .slice AyModelOps nyModelOps cyModelOps] x.2 blModel := by rw [hw2]; exact Sh.oset (p := ⟨w.heap.size + 1 + 1, 2, none⟩) (Sh.oset (p := ⟨w.heap.size + 1 + 1, 1, none⟩) (OModel) IModel (by show w.heap.size + 1 + 1 < _; omega) (.int .i64 x.2.1)) IModel (by show w.heap.size + 1 + 1 < _; omega) (.slice AyModelOps nyModelOps cyModelOps)
  
  rw [← hw2]
  have BRR : Blk (((w2.setCell ⟨w.heap.size + 1, 0, none⟩ (.string x.1)).setCell ⟨w.heap.size + 1, 1, none⟩ (.int .i64 x.2.1)).setCell ⟨w.heap.size + 1, 2, none⟩ (.slice AyModelOps nyModelOps cyModelOps)) (w.heap.size + 1) 64 #[.string x.1, .int .i64 x.2.1, .slice AyModelOps nyModelOps cyModelOps] := by simpa using (((BR).set_ 0 (.string x.1)).set_ 1 (.int .i64 x.2.1)).set_ 2 (.slice AyModelOps nyModelOps cyModelOps)
  (try simp only [Exit.inBlock, Exit.then])
  refine bodyPost_ret (v := .agg #[.string x.1, .int .i64 x.2.1, .slice AyModelOps nyModelOps cyModelOps]) (results_cell_row rfl _ _ (w.heap.size + 1) 64 #[.string x.1, .int .i64 x.2.1, .slice AyModelOps nyModelOps cyModelOps] (0, 0) _ (by simp) BRR Try.underlying64 rfl (by kernel_rfl)) rfl ?_
  have hsz : (((w2.setCell ⟨w.heap.size + 1, 0, none⟩ (.string x.1)).setCell ⟨w.heap.size + 1, 1, none⟩ (.int .i64 x.2.1)).setCell ⟨w.heap.size + 1, 2, none⟩ (.slice AyModelOps nyModelOps cyModelOps)).heap.size = w2.heap.size := by simp
  refine ⟨_, blModel, rfl, ⟨[.string x.1], [.int .i64 x.2.1, .slice AyModelOps nyModelOps cyModelOps], [], blModel, rfl, rfl, ⟨_, rfl, ⟨rfl, qName⟩, rfl⟩, (Sh.oset (p := ⟨w.heap.size + 1, 2, none⟩) (Sh.oset (p := ⟨w.heap.size + 1, 1, none⟩) (Sh.oset (p := ⟨w.heap.size + 1, 0, none⟩) (OModel) IModel (by show w.heap.size + 1 < _; omega) (.string x.1)) IModel (by show w.heap.size + 1 < _; omega) (.int .i64 x.2.1)) IModel (by show w.heap.size + 1 < _; omega) (.slice AyModelOps nyModelOps cyModelOps))⟩, ?_, (((T2).setCell (by simp; try omega) (.string x.1)).setCell (by simp; try omega) (.int .i64 x.2.1)).setCell (by simp; try omega) (.slice AyModelOps nyModelOps cyModelOps)⟩
  rw [hsz]
  exact Iv.mono IModel (by omega) (by omega)
theorem eqPEntry (x y : EntryM) : eqC x y = (eqC (x.1) (y.1) && eqC (x.2) (y.2)) := by
  obtain ⟨x0, x1⟩ := x
  obtain ⟨y0, y1⟩ := y
  simp only [dec_pair]
set_option linter.unusedVariables false in
set_option maxHeartbeats 4000000 in
theorem eqEntry_any (cs ds : List Value) (x y : EntryM) (w : World) (h : shEntry.rd w cs x) (h' : shEntry.rd w ds y) :
    Calls Try.prog 46 #[.agg cs.toArray, .agg ds.toArray] w (Bl w (.bool (eqC x y))) := by
  obtain ⟨AModelOps, nModelOps, cModelOps, rfl, qName, qModelSize, qModelOps⟩ := rdEntry h
  obtain ⟨AyModelOps, nyModelOps, cyModelOps, rfl, qyName, qyModelSize, qyModelOps⟩ := rdEntry h'
  obtain ⟨w0, hw0, T0, hsz0, BP, BQ⟩ := boxes2 w #[.string x.1, .int .i64 x.2.1, .slice AModelOps nModelOps cModelOps] #[.string y.1, .int .i64 y.2.1, .slice AyModelOps nyModelOps cyModelOps] 64 64
  replace qModelOps := qModelOps.next T0
  replace qyModelOps := qyModelOps.next T0
  have HD := Lib.hid (eqPEntry x y)
  go_enter Try.func46, Try.ntmps46
  rcases hd0 : eqC (x.1) (y.1) with _ | _
  · have ht : (x.1.toList == y.1.toList) = false := eqq_str hd0
    have HH0 := Lib.hid hd0
    clear hd0
    have cP0 := BP.cell 0
    have cQ0 := BQ.cell 0
    simp at cP0 cQ0
    rw [hw0] at cP0 cQ0
    go_wp2_with fail
    go_ret
    exact ⟨ret_bool (by rw [HD.out, HH0.out]; first | rfl | simp), by first | exact T0 | (rw [← hw0]; exact T0)⟩
  have ht0 : (x.1.toList == y.1.toList) = true := eqq_str hd0
  have HH0 := Lib.hid hd0
  clear hd0
  have cP0 := BP.cell 0
  have cQ0 := BQ.cell 0
  simp at cP0 cQ0
  rw [hw0] at cP0 cQ0
  rcases hd1 : eqC (x.2) (y.2) with _ | _
  · have HH1 := Lib.hid hd1
    clear hd1
    have cP1 := BP.cell 1
    have cQ1 := BQ.cell 1
    have cP2 := BP.cell 2
    have cQ2 := BQ.cell 2
    simp at cP1 cQ1 cP2 cQ2
    rw [hw0] at cP1 cQ1 cP2 cQ2
    go_wp2_with fail
    rw [← hw0]
    refine (eqAlgebra_any [.int .i64 x.2.1, .slice AModelOps nModelOps cModelOps] [.int .i64 y.2.1, .slice AyModelOps nyModelOps cyModelOps] x.2 y.2 _ (mkAlgebra qModelSize qModelOps) (mkAlgebra qyModelSize qyModelOps)).mono ?_
    rintro e w1 ⟨rfl, hb1⟩
    rw [HH1.out]
    have T1 := below_next T0 hb1 rfl
    go_wp2_with fail
    go_ret
    exact ⟨ret_bool (by rw [HD.out, HH0.out, HH1.out]; first | rfl | simp), T1⟩
  have HH1 := Lib.hid hd1
  clear hd1
  have cP1 := BP.cell 1
  have cQ1 := BQ.cell 1
  have cP2 := BP.cell 2
  have cQ2 := BQ.cell 2
  simp at cP1 cQ1 cP2 cQ2
  rw [hw0] at cP1 cQ1 cP2 cQ2
  go_wp2_with fail
  rw [← hw0]
  refine (eqAlgebra_any [.int .i64 x.2.1, .slice AModelOps nModelOps cModelOps] [.int .i64 y.2.1, .slice AyModelOps nyModelOps cyModelOps] x.2 y.2 _ (mkAlgebra qModelSize qModelOps) (mkAlgebra qyModelSize qyModelOps)).mono ?_
  rintro e w1 ⟨rfl, hb1⟩
  rw [HH1.out]
  have T1 := below_next T0 hb1 rfl
  clear cP1 cQ1 cP2 cQ2 cP0 cQ0 ht0
  replace BP := BP.next hb1
  replace BQ := BQ.next hb1
  replace qModelOps := qModelOps.next hb1
  replace qyModelOps := qyModelOps.next hb1
  go_wp2_with fail
  go_ret
  exact ⟨ret_bool (by rw [HD.out, HH0.out, HH1.out]; first | rfl | simp), T1⟩
set_option linter.unusedVariables false in
set_option maxHeartbeats 2000000 in
theorem szEntryS_any (A : Option Addr) (n c : Nat) (xs : List EntryM) (left : Int) (w : World) (h : RdN shEntry.m shEntry.rd w A n xs) (h0 : 0 ≤ left) (h1 : left ≤ 1048576) :
    Calls Try.prog 9 #[.slice A n c, .int .i64 left] w (Bl w (.int .i64 (szR (xs.length + cntS shEntry.cnt xs) left))) := by
  have hle := h.le
  have hl := Lib.hid h.len
  by_cases h2 : left - n < 0
  · go_enter Try.func9, Try.ntmps9
    go_wp2
    go_ret
    exact ⟨ret_int (szR_sub_neg (by rw [hl.out]; exact h2) _), Below.refl _ _⟩
  · have HS := Lib.hid (szR_sub (a := xs.length) (by rw [hl.out]; exact h2) (cntS shEntry.cnt xs))
    go_enter Try.func9, Try.ntmps9
    go_wp2
    go_loopw [1, 5] (fun l i wr => ∃ (k : Nat) (left' : Int), k ≤ n ∧ i = .int .i64 k ∧ l = .int .i64 left' ∧ 0 ≤ left' ∧ left' ≤ 1048576 ∧ SumAt shEntry.cnt xs (left - n) left' k ∧ Below w.heap.size w wr) (fun _ i _ => n - (intOf i).toNat)
    case atStart => exact ⟨0, _, Nat.zero_le _, rfl, rfl, by omega, by omega, SumAt.start _ _ _, Below.refl _ _⟩
    case round =>
      obtain ⟨k, left', hk, rfl, rfl, hl0, hl1, H, hT⟩ := hrel
      replace h := h.next hT
      by_cases hlt : k < n
      · obtain ⟨b, o, vs, x, rfl, -, hc, hr, hd, -⟩ := h.at hlt
        obtain ⟨AModelOps, nModelOps, cModelOps, rfl, qName, qModelSize, qModelOps⟩ := rdEntry hr
        have cc0 : wr.cell? ⟨b, o + k * 3, none⟩ = some (.string x.1) := hc 0 _ rfl
        have cc1 : wr.cell? ⟨b, o + k * 3 + 1, none⟩ = some (.int .i64 x.2.1) := hc 1 _ rfl
        have cc2 : wr.cell? ⟨b, o + k * 3 + 2, none⟩ = some (.slice AModelOps nModelOps cModelOps) := hc 2 _ rfl
        clear hc
        have H1 := Lib.hid hd
        clear hd
        have hb := szR_bd (shEntry.cnt x) (left := left') hl0
        have hk0 : (0 : Int) ≤ (k : Int) := by omega
        have hk1 : (k : Int) < (n : Int) := by omega
        go_wp2_with fail
        refine (szEntry_any [.string x.1, .int .i64 x.2.1, .slice AModelOps nModelOps cModelOps] x left' _ hr hl0 hl1).mono ?_
        rintro e w1 ⟨rfl, hb1⟩
        have hT1 := below_next hT hb1 rfl
        obtain ⟨L, HL⟩ : ∃ L, Hid (szR (shEntry.cnt x) left' = L) := ⟨_, rfl⟩
        rw [HL.out] at hb ⊢
        by_cases hz : L < 0
        · have HZ : Hid ((-1 : Int) = szR (xs.length + cntS shEntry.cnt xs) left) := (H.stop H1.out (by rw [HL.out]; exact hz) hl0).trans (by rw [← hl.out]; exact HS.out)
          go_wp2_with fail
          go_ret
          exact ⟨ret_int HZ.out, hT1⟩
        · have HN : Hid (SumAt shEntry.cnt xs (left - n) L (k + 1)) := by have := H.step H1.out (by rw [HL.out]; exact hz); rw [HL.out] at this; exact this
          go_wp2_with fail
          go_roundw
          case rel => exact ⟨k + 1, _, by omega, by go_num, rfl, by omega, by omega, HN.out, hT1⟩
          case measure => simp [intOf]; omega
      · have HZ : Hid (left' = szR (xs.length + cntS shEntry.cnt xs) left) := (H.done (h.drop_end hlt) hl0).trans (by rw [← hl.out]; exact HS.out)
        have hlt' : ¬ (k : Int) < (n : Int) := by omega
        go_wp2_with fail
        go_ret
        exact ⟨ret_int HZ.out, hT⟩
theorem info_Entry : (Try.prog.info? 64).map (fun i => (i.zero, i.size)) = some (some (.agg #[.string ⟨#[]⟩, .int .i64 0, .slice none 0 0]), 3) := by kernel_rfl
theorem infob_Entry : (Try.prog.info? 64).all (fun i => decide (i.bytes ≤ 256)) = true := by kernel_rfl
theorem make_Entry (w : World) {ops : Array Oper} {rest : List Oper} {o : Oper} {a : Act} {Q : Exit → Act → World → Prop} (hg : o.guard = none) (l c : Operand) (hop : o.op = Op.makeSlice 24 l c)
    (n : Nat) (hl : a.eval l = .int .i64 n) (hc : a.eval c = .int .i64 n) (b : n ≤ 1048576)
    (hK : ∀ w', w'.ownsRow w.heap.size 64 shEntry.m (.slice (some ⟨w.heap.size, 0, none⟩) n n) n (List.replicate n [.string ⟨#[]⟩, .int .i64 0, .slice none 0 0]).flatten → w.grownBy w' none → wpList Try.prog ops Q rest (a.put o.dst (.slice (some ⟨w.heap.size, 0, none⟩) n n)) w') :
    wpList Try.prog ops Q (o :: rest) a w := by
  rcases hi : Try.prog.info? 64 with _ | i0
  · exfalso
    have := info_Entry
    rw [hi] at this
    simp at this
  have h0 := info_Entry
  have hb := infob_Entry
  rw [hi] at h0 hb
  simp only [Option.map_some, Option.some.injEq, Prod.mk.injEq] at h0
  simp only [Option.all_some, decide_eq_true_eq] at hb
  have hbn : i0.bytes * n ≤ 256 * 1048576 := Nat.mul_le_mul hb b
  refine wpList_make_full w hg l c 24 hop w.heap.size 64 i0 (.agg #[.string ⟨#[]⟩, .int .i64 0, .slice none 0 0]) 3 Try.underlying24 hi h0.1 h0.2 .i64 .i64 n n n hl hc rfl rfl (by first | omega | (have := Int.ofNat_le.2 hbn; simp at this ⊢; omega)) (by unfold maxLen; omega) (Nat.le_refl _) ?_
  intro w' h1 h2
  refine hK w' ?_ h2
  rw [← made_flat [.string ⟨#[]⟩, .int .i64 0, .slice none 0 0] n (by decide)]
  exact h1
set_option linter.unusedVariables false in
set_option maxHeartbeats 4000000 in
theorem toEntryS_any (A : Option Addr) (n c : Nat) (xs : List EntryM) (w : World) (h : RdN shEntry.m shEntry.rd w A n xs) (hn : xs.length + cntS shEntry.cnt xs ≤ 1048576) :
    Calls Try.prog 11 #[.slice A n c] w (ToV (Sh.rows shEntry 64) w xs) := by
  have hlen := Lib.hid h.len
  have hnn : n ≤ 1048576 := by have := h.len; omega
  have HN := Lib.hid hn
  clear hn
  go_enter Try.func11, Try.ntmps11
  go_wp2_with (at_make; refine make_Entry _ rfl _ _ rfl n rfl rfl (by omega) ?_; intro w1 hown hg1)
  have hT := (Below.refl w.heap.size w).grown hg1 (Nat.le_refl _) (by simp)
  clear hg1
  go_loopw [4] (fun i wr => ∃ (k : Nat) (css : List (List Value)) (bls : List (List Nat)), k ≤ n ∧ i = .int .i64 k ∧ FillN shEntry 64 [.string ⟨#[]⟩, .int .i64 0, .slice none 0 0] w.heap.size w.heap.size n wr xs css bls k ∧ Below w.heap.size w wr) (fun i _ => n - (intOf i).toNat)
  case atStart => exact ⟨0, _, _, Nat.zero_le _, rfl, FillN.start hown, hT⟩
  case round =>
    clear hown hT
    obtain ⟨k, css, bls, hk, rfl, hown, hT⟩ := hrel
    replace h := h.next hT
    by_cases hlt : k < n
    · obtain ⟨b, o, vs, x, rfl, -, hc, hr, -, hx⟩ := h.at hlt
      obtain ⟨AModelOps, nModelOps, cModelOps, rfl, qName, qModelSize, qModelOps⟩ := rdEntry hr
      have cc0 : wr.cell? ⟨b, o + k * 3, none⟩ = some (.string x.1) := hc 0 _ rfl
      have cc1 : wr.cell? ⟨b, o + k * 3 + 1, none⟩ = some (.int .i64 x.2.1) := hc 1 _ rfl
      have cc2 : wr.cell? ⟨b, o + k * 3 + 2, none⟩ = some (.slice AModelOps nModelOps cModelOps) := hc 2 _ rfl
      clear hc
      have hX := Lib.hid hx
      have hcx : shEntry.cnt x ≤ 1048576 := by have := cntS_mem (f := shEntry.cnt) (List.mem_of_getElem? hx); have := HN.out; omega
      clear hx
      have hk0 : (0 : Int) ≤ (k : Int) := by omega
      have hk1 : (k : Int) < (n : Int) := by omega
      go_wp2_with fail
      refine (toEntry_any [.string x.1, .int .i64 x.2.1, .slice AModelOps nModelOps cModelOps] x _ hr hcx).mono ?_
      rintro e w2 ⟨ds, bk, rfl, how, hiv, hb1⟩
      obtain ⟨AyModelOps, nyModelOps, cyModelOps, rfl, -, -, -⟩ := rdEntry (shEntry.ord how)
      have hT2 := below_next hT hb1 rfl
      have hown2 := hown.next hb1
      have hlo : w.heap.size ≤ wr.heap.size := hT.size
      have hst := hown.set_ rfl hb1 hlt hX.out how hiv.1 (fun b hb => (hiv.2 b hb).1) hlo
      have dd0 : w2.cell? ⟨w.heap.size, k * 3, none⟩ = some (.string ⟨#[]⟩) := hown2.cell rfl hlt (i := 0) rfl
      have ff0 := hown2.frozen (k * 3)
      have dd1 : w2.cell? ⟨w.heap.size, k * 3 + 1, none⟩ = some (.int .i64 0) := hown2.cell rfl hlt (i := 1) rfl
      have ff1 := hown2.frozen (k * 3 + 1)
      have dd2 : w2.cell? ⟨w.heap.size, k * 3 + 2, none⟩ = some (.slice none 0 0) := hown2.cell rfl hlt (i := 2) rfl
      have ff2 := hown2.frozen (k * 3 + 2)
      replace hst : FillN shEntry 64 [.string ⟨#[]⟩, .int .i64 0, .slice none 0 0] w.heap.size w.heap.size n (((w2.setCell ⟨w.heap.size, k * 3, none⟩ (.string x.1)).setCell ⟨w.heap.size, k * 3 + 1, none⟩ (.int .i64 x.2.1)).setCell ⟨w.heap.size, k * 3 + 2, none⟩ (.slice AyModelOps nyModelOps cyModelOps)) xs _ _ (k + 1) := hst
      clear hown hown2 how
      go_wp2_with fail
      go_roundw
      case rel => exact ⟨k + 1, _, _, by omega, by go_num, hst, (((hT2).setCell (Nat.le_refl _) _).setCell (Nat.le_refl _) _).setCell (Nat.le_refl _) _⟩
      case measure => simp [intOf]; omega
    · have hd := hown.done hlen.out hlt hk
      have hiv : Iv w.heap.size wr.heap.size (w.heap.size :: bls.flatten) := ⟨hown.nd, hown.lo_⟩
      have hlt' : ¬ (k : Int) < (n : Int) := by omega
      clear hown
      go_wp2_with fail
      go_ret
      exact ⟨_, _, rfl, hd, hiv, hT⟩
set_option linter.unusedVariables false in
set_option maxHeartbeats 4000000 in
theorem eqEntryS_any (A B : Option Addr) (n m c d : Nat) (xs ys : List EntryM) (w : World) (h : RdN shEntry.m shEntry.rd w A n xs) (h' : RdN shEntry.m shEntry.rd w B m ys) :
    Calls Try.prog 13 #[.slice A n c, .slice B m d] w (Bl w (.bool (eqC xs ys))) := by
  have hle := h.le
  have hle' := h'.le
  by_cases hnm : n = m
  · subst hnm
    go_enter Try.func13, Try.ntmps13
    go_wp2
    go_loopw [5] (fun i wr => ∃ k : Nat, k ≤ n ∧ i = .int .i64 k ∧ EqdAt xs ys k ∧ Below w.heap.size w wr) (fun i _ => n - (intOf i).toNat)
    case atStart => exact ⟨0, Nat.zero_le _, rfl, EqdAt.start _ _, Below.refl _ _⟩
    case round =>
      obtain ⟨k, hk, rfl, H, hT⟩ := hrel
      replace h := h.next hT
      replace h' := h'.next hT
      by_cases hlt : k < n
      · obtain ⟨b, o, vs, x, rfl, -, hc, hr, hd, -⟩ := h.at hlt
        obtain ⟨b', o', vs', y, rfl, -, hc', hr', hd', -⟩ := h'.at hlt
        obtain ⟨AModelOps, nModelOps, cModelOps, rfl, qName, qModelSize, qModelOps⟩ := rdEntry hr
        obtain ⟨AyModelOps, nyModelOps, cyModelOps, rfl, qyName, qyModelSize, qyModelOps⟩ := rdEntry hr'
        have cc0 : wr.cell? ⟨b, o + k * 3, none⟩ = some (.string x.1) := hc 0 _ rfl
        have dd0 : wr.cell? ⟨b', o' + k * 3, none⟩ = some (.string y.1) := hc' 0 _ rfl
        have cc1 : wr.cell? ⟨b, o + k * 3 + 1, none⟩ = some (.int .i64 x.2.1) := hc 1 _ rfl
        have dd1 : wr.cell? ⟨b', o' + k * 3 + 1, none⟩ = some (.int .i64 y.2.1) := hc' 1 _ rfl
        have cc2 : wr.cell? ⟨b, o + k * 3 + 2, none⟩ = some (.slice AModelOps nModelOps cModelOps) := hc 2 _ rfl
        have dd2 : wr.cell? ⟨b', o' + k * 3 + 2, none⟩ = some (.slice AyModelOps nyModelOps cyModelOps) := hc' 2 _ rfl
        clear hc hc'
        have H1 := Lib.hid hd
        have H2 := Lib.hid hd'
        clear hd hd'
        have hk0 : (0 : Int) ≤ (k : Int) := by omega
        have hk1 : (k : Int) < (n : Int) := by omega
        obtain ⟨e0, HE⟩ : ∃ e0, Hid (eqC x y = e0) := ⟨_, rfl⟩
        have Tk : Below wr.heap.size wr wr := Below.refl _ _
        go_upto_region 6 with fail
        go_cut [26] (fun v wx => v = .bool (!e0) ∧ Below wr.heap.size wr wx)
        case first =>
          go_region_held3 (fun w' => w'.cell? ⟨b, o + k * 3, none⟩ = some (.string x.1) ∧ w'.cell? ⟨b', o' + k * 3, none⟩ = some (.string y.1) ∧ w'.cell? ⟨b, o + k * 3 + 1, none⟩ = some (.int .i64 x.2.1) ∧ w'.cell? ⟨b', o' + k * 3 + 1, none⟩ = some (.int .i64 y.2.1) ∧ w'.cell? ⟨b, o + k * 3 + 2, none⟩ = some (.slice AModelOps nModelOps cModelOps) ∧ w'.cell? ⟨b', o' + k * 3 + 2, none⟩ = some (.slice AyModelOps nyModelOps cyModelOps)) (first | go_keep | exact ⟨keepc Tk cc0, keepc Tk dd0, keepc Tk cc1, keepc Tk dd1, keepc Tk cc2, keepc Tk dd2⟩) ((go_at_call 46; refine (eqEntry_any [.string x.1, .int .i64 x.2.1, .slice AModelOps nModelOps cModelOps] [.string y.1, .int .i64 y.2.1, .slice AyModelOps nyModelOps cyModelOps] x y _ (shEntry.stab hr (by first | exact Tk.block | exact (Below.drew Tk).block)) (shEntry.stab hr' (by first | exact Tk.block | exact (Below.drew Tk).block))).mono ?_; rintro e wn ⟨rfl, hbn⟩; replace Tk := below_next (by first | exact Tk | exact Below.drew Tk) hbn rfl; rw [HE.out]))
          all_goals (go_wp2_with fail; go_meet; exact ⟨rfl, Tk⟩)
        case rest =>
          obtain ⟨rfl, hb4⟩ := hcut
          have hT4 := below_next hT hb4 rfl
          clear hb4 Tk cc0 dd0 cc1 dd1 cc2 dd2
          rcases e0 with _ | _
          · go_wp2_with fail
            go_ret
            exact ⟨ret_bool (H.stop H1.out H2.out HE.out), hT4⟩
          · go_wp2_with fail
            go_roundw
            case rel => exact ⟨k + 1, by omega, by go_num, H.step H1.out H2.out HE.out, hT4⟩
            case measure => simp [intOf]; omega
      · have hlt' : ¬ (k : Int) < (n : Int) := by omega
        go_wp2_with fail
        go_ret
        exact ⟨ret_bool (H.done (h.drop_end hlt) (h'.drop_end hlt)), hT⟩
  · have hne : ((n : Int) != (m : Int)) = true := by rw [bne_iff_ne]; omega
    have HL := Lib.hid (eqd_len h.len h'.len hnm)
    go_enter Try.func13, Try.ntmps13
    go_wp2_with fail
    go_ret
    exact ⟨ret_bool HL.out, Below.refl _ _⟩
theorem szEntrySv_any (v : Value) (xs : List EntryM) (left : Int) (w : World) (h : (Sh.rows shEntry 64).rd w [v] xs) (h0 : 0 ≤ left) (h1 : left ≤ 1048576) :
    Calls Try.prog 9 #[v, .int .i64 left] w (Bl w (.int .i64 (szR ((Sh.rows shEntry 64).cnt xs) left))) := by
  obtain ⟨A, n, c, e, r⟩ := h
  injection e with e _
  subst e
  exact szEntryS_any A n c xs left w r h0 h1
theorem toEntrySv_any (v : Value) (xs : List EntryM) (w : World) (h : (Sh.rows shEntry 64).rd w [v] xs) (hn : (Sh.rows shEntry 64).cnt xs ≤ 1048576) :
    Calls Try.prog 11 #[v] w (ToV (Sh.rows shEntry 64) w xs) := by
  obtain ⟨A, n, c, e, r⟩ := h
  injection e with e _
  subst e
  exact toEntryS_any A n c xs w r hn
theorem eqEntrySv_any (v u : Value) (xs ys : List EntryM) (w : World) (h : (Sh.rows shEntry 64).rd w [v] xs) (h' : (Sh.rows shEntry 64).rd w [u] ys) :
    Calls Try.prog 13 #[v, u] w (Bl w (.bool (eqC xs ys))) := by
  obtain ⟨A, n, c, e, r⟩ := h
  injection e with e _
  subst e
  obtain ⟨B, m, d, e, r'⟩ := h'
  injection e with e _
  subst e
  exact eqEntryS_any A B n m c d xs ys w r r'
end Go.Proofs.Ytbpdbimdefdefaa
