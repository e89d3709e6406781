
/- Walks: copies of operations and algebras (the reference's l2Copy, l2Own). Printed out of the text on the program's copies. -/
import Derived.Test.YtbpdbimdefdefaaRen
import Derived.Test.YtbpdbimdefdefaaArgs
namespace Go.Proofs.Ytbpdbimdefdefaa
open Go.RowKit

set_option maxRecDepth 20000 in
set_option maxHeartbeats 2000000 in
theorem l2Copy_any (cs : List Value) (x : OpM) (w : World) (h : shOp.rd w cs x) (hn : x.2.length ≤ 1048576) :
    Calls Try.prog 115 #[.agg cs.toArray] w (ToE shOp w x) := by
  obtain ⟨B, m, d, rfl, qa, qt⟩ := rdOp h
  have hm := qt.len
  obtain ⟨w0, hw0, T0, hs0, BP, BR⟩ := boxes2 w #[.int .i64 x.1, .slice B m d] #[.int .i64 0, .slice none 0 0] 103 103
  have HW0 := Lib.hid hw0
  have HR := Lib.hid qt.bounds
  have qt0 := qt.next stab_RI T0
  have hz0 : w0.heap.size = w.heap.size + 2 := hs0
  have HZ0 := Lib.hid hz0
  clear hw0 hs0 hz0
  have cP0 := BP.cell 0
  have cP1 := BP.cell 1
  have cR0 := BR.cell 0
  have cR1 := BR.cell 1
  have fR0 := BR.frozen 0
  have fR1 := BR.frozen 1
  simp at cP0 cP1 cR0 cR1
  go_enter Try.func115, Try.ntmps115
  go_upto_region 1 with fail
  rw [← HW0.out]
  go_region_with (go_at_call 147; refine (l1Own_any _ _ _ x.2 _ (by first | exact qt0 | exact qt0.drew stab_RI) (by omega)).mono ?_; rintro e w2 ⟨A', c', rfl, ho, hbn⟩; have hb := below_next (Below.drew (Below.refl w0.heap.size w0)) hbn rfl; have BP2 := BP.next hb; have BR2 := BR.next hb; have dP0 := BP2.cell 0; have dP1 := BP2.cell 1; have dR0 := BR2.cell 0; have dR1 := BR2.cell 1; have gR0 := BR2.frozen 0; have gR1 := BR2.frozen 1; simp at dP0 dP1 dR0 dR1)
  all_goals
    have T2 := below_next T0 hb rfl
    have hz2 := hb.size
    have hne := own_off ho BR2 (by decide)
    have hO := own_set (own_set ho (p := ⟨w.heap.size + 1, 0, none⟩) hne (.int .i64 x.1)) (p := ⟨w.heap.size + 1, 1, none⟩) hne (.slice A' m c')
    have BRR : Blk ((w2.setCell ⟨w.heap.size + 1, 0, none⟩ (.int .i64 x.1)).setCell ⟨w.heap.size + 1, 1, none⟩ (.slice A' m c')) (w.heap.size + 1) 103 #[.int .i64 x.1, .slice A' m c'] := by simpa using ((BR2.set_ 0 (.int .i64 x.1)).set_ 1 (.slice A' m c'))
    have hiv := obl_iv hO
    have hO2 : ((w2.setCell ⟨w.heap.size + 1, 0, none⟩ (.int .i64 x.1)).setCell ⟨w.heap.size + 1, 1, none⟩ (.slice A' m c')).ownsRow 0 3 1 (.slice A' m c') x.2.length (ints x.2) := by rw [hm]; exact own_mono hO (Nat.zero_le _)
    have hT : Below w.heap.size w ((w2.setCell ⟨w.heap.size + 1, 0, none⟩ (.int .i64 x.1)).setCell ⟨w.heap.size + 1, 1, none⟩ (.slice A' m c')) := (T2.setCell (by show _ ≤ _; simp) _).setCell (by show _ ≤ _; simp) _
    have hlow : w.heap.size ≤ w0.drew.heap.size := T0.size
    go_wp2
    (try simp only [Exit.inBlock, Exit.then])
    refine bodyPost_ret (v := .agg #[.int .i64 x.1, .slice A' m c']) (results_cell_row rfl _ _ (w.heap.size + 1) 103 #[.int .i64 x.1, .slice A' m c'] (0, 0) _ (by simp) BRR Try.underlying103 rfl (by kernel_rfl)) rfl ?_
    exact ⟨[.int .i64 x.1, .slice A' m c'], obl (.slice A' m c'), rfl, ⟨[.int .i64 x.1], [.slice A' m c'], [], obl (.slice A' m c'), rfl, rfl, ⟨_, rfl, ⟨rfl, qa.1, qa.2⟩, rfl⟩, ⟨_, rfl, hO2, HR.out, rfl⟩⟩, hiv.mono hlow (Nat.le_refl _), hT⟩

set_option maxRecDepth 20000 in
set_option maxHeartbeats 4000000 in
theorem l2Own_any (cs : List Value) (x : AlgebraM) (w : World) (h : shAlgebra.rd w cs x) (hn : shAlgebra.cnt x ≤ 1048576) :
    Calls Try.prog 61 #[.agg cs.toArray] w (AlgE w x) := by
  obtain ⟨B, m, d, rfl, qs, qo⟩ := rdAlgebra h
  have hm := qo.len
  have hcn : 0 + (x.2.length + cntS shOp.cnt x.2) ≤ 1048576 := hn
  have HCN := Lib.hid hcn
  have hle : m ≤ 1048576 := by omega
  obtain ⟨w0, hw0, T0, hs0, BP, BR, BO⟩ := boxes3 w #[.int .i64 x.1, .slice B m d] #[.int .i64 0, .slice none 0 0] #[.int .i64 x.1, .slice none 0 0] 38 38
  have HW0 : Hid (_ = w0) := hw0.symm
  have HZ0 := Lib.hid hs0
  have cP0 := ((Blk.new w 38 #[.int .i64 x.1, .slice B m d]).alloc (.cells #[.int .i64 0, .slice none 0 0] 38)).cell 0
  have cP1 := BP.cell 1
  simp at cP0 cP1
  rw [hw0] at cP1
  have hP0 : PO w0.heap.size w0 (.slice none 0 0) (x.2.take 0) [] [] := PO.nil _ _
  clear hw0 hs0 hcn
  go_enter Try.func61, Try.ntmps61
  go_wp2_with fail
  clear cP0 cP1
  go_loopw [4] (fun i wr => ∃ (k : Nat) (v : Value) (css : List (List Value)) (bls : List (List Nat)), k ≤ m ∧ i = .int .i64 k ∧ Blk wr w.heap.size 38 #[.int .i64 x.1, .slice B m d] ∧ Blk wr (w.heap.size + 1 + 1) 38 #[.int .i64 x.1, v] ∧ Blk wr (w.heap.size + 1) 38 #[.int .i64 0, .slice none 0 0] ∧ PO w0.heap.size wr v (x.2.take k) css bls ∧ Below w.heap.size w wr) (fun i _ => m - (intOf i).toNat)
  case atStart =>
    rw [HW0.out]
    exact ⟨0, _, _, _, Nat.zero_le _, rfl, BP, BO, BR, hP0, T0⟩
  case round =>
    clear hP0 BO BR BP
    obtain ⟨k, v, css, bls, hk, rfl, BPr, BO, BR, hPO, hT⟩ := hrel
    have cP1 := BPr.cell 1
    simp at cP1
    by_cases hlt : k < m
    · have hk0 : (0 : Int) ≤ (k : Int) := by omega
      have hk1 : (k : Int) < (m : Int) := by omega
      obtain ⟨b, o, vs, y, rfl, -, hc, hr, -, hx⟩ := (qo.next hT).at hlt
      obtain ⟨B', m', d', rfl, qa, qt⟩ := rdOp hr
      have cc0 : wr.cell? ⟨b, o + k * 2, none⟩ = some (.int .i64 y.1) := hc 0 _ rfl
      have cc1 : wr.cell? ⟨b, o + k * 2 + 1, none⟩ = some (.slice B' m' d') := hc 1 _ rfl
      have HTS : Hid (x.2.take (k + 1) = x.2.take k ++ [y]) := take_snoc hx
      have hcy : y.2.length ≤ 1048576 := by
        have h1 := cntS_mem (f := shOp.cnt) (List.mem_of_getElem? hx)
        have h2 := HCN.out
        have h3 : shOp.cnt y = 0 + y.2.length := rfl
        omega
      obtain ⟨L, HL⟩ : ∃ L, Hid (x.2.take k = L) := ⟨_, rfl⟩
      have HLK : Hid (L.length = k) := by show _ = _; rw [← HL.out, List.length_take]; omega
      rw [HL.out] at hPO
      have HTS2 : Hid (x.2.take (k + 1) = L ++ [y]) := by show _ = _; rw [HTS.out, HL.out]
      obtain ⟨A, c, rfl⟩ := own_slice hPO.2.1
      obtain ⟨w5, hw5⟩ : ∃ w5 : World, w5 = wr := ⟨_, rfl⟩
      subst hw5
      have hP5 := hPO
      have hr5 := hr
      have BO5 := BO
      have BR5 := BR
      have hT5 := hT
      have cO5 := BO5.cell 1
      have fO5 := BO5.frozen 1
      simp at cO5
      have hwz0 : w0.heap.size ≤ w5.heap.size := by
        rcases hP5.2.1.2 with ⟨h1, h2⟩ | ⟨g9, _, _, h1, h2, _⟩
        · have := hT5.size
          have h9 := BO5.lt
          have h8 := HZ0.out
          omega
        · injection h1 with h1
          have := hP5.2.2.2 g9 (List.mem_append_left _ (by rw [h1]; simp [obl, Value.ownBlock]))
          omega
      clear hc hx hr hPO
      go_upto_region 5 with fail
      go_region_law (first
        | (refine step_app2 w6 rfl (.tmp 16) (.tmp 23) 36 103 rfl (.agg #[.int .i64 0, .slice none 0 0]) 32 Try.underlying36 info_op2 rfl (by decide) w0.heap.size L.length c A css.flatten (by rfl) hvs (.int .i64 y.1) (.slice B6 m6 d6) rfl rfl (by rfl) (by have := HLK.out; omega) (by omega) ?_; intro A8 c8 w8 hown8 hg8 hb8; have BO8 := BO6.grown hg8 (fun e => own_off hvs BO6 (by decide) e.symm); have BR8 := BR6.grown hg8 (fun e => own_off hvs BR6 (by decide) e.symm); have BP8 := BP6.grown hg8 (fun e => own_off hvs BP6 (by decide) e.symm); have cO8 := BO8.cell 1; have fO8 := BO8.frozen 1; simp at cO8)
        | (go_simp; go_at_call 115; refine (l2Copy_any [.int .i64 y.1, .slice B' m' d'] y _ (by first | exact hr5 | exact shOp.stab hr5 (fun _ _ => rfl)) hcy).mono ?_; rintro e w6 ⟨ds, bk, rfl, how, hiv, hbn⟩; obtain ⟨B6, m6, d6, rfl, -, -⟩ := rdOp (shOp.ord how); have hb := below_next (Below.drew (Below.refl w5.heap.size w5)) hbn rfl; have hiv6 : Iv w5.heap.size w6.heap.size bk := hiv; obtain ⟨hvs, HPU⟩ := hP5.push hb hwz0 how hiv6; have hsz6 := hb.size; have BO6 := BO5.next hb; have BR6 := BR5.next hb; have BP6 := BPr.next hb; have cO6 := BO6.cell 1; have fO6 := BO6.frozen 1; have cO6a := (BO6.alloc (.cells #[.int .i64 y.1, .slice B6 m6 d6] 103)).cell 1; simp at cO6 cO6a))
      all_goals
        have PN2 := (HPU hown8 hg8).far (p := ⟨w.heap.size + 1 + 1, 1, none⟩) (by have := HZ0.out; show w.heap.size + 1 + 1 < w0.heap.size; omega) (.slice A8 (L.length + 1) c8)
        have hT8 := ((below_next hT5 hb rfl).trans (hb8.mono (by have := HZ0.out; omega))).setCell (p := ⟨w.heap.size + 1 + 1, 1, none⟩) (by show _ ≤ _; simp; try omega) (.slice A8 (L.length + 1) c8)
        have BO9 : Blk (w8.setCell ⟨w.heap.size + 1 + 1, 1, none⟩ (.slice A8 (L.length + 1) c8)) (w.heap.size + 1 + 1) 38 #[.int .i64 x.1, .slice A8 (L.length + 1) c8] := by simpa using BO8.set_ 1 (.slice A8 (L.length + 1) c8)
        have BR9 := BR8.far (p := ⟨w.heap.size + 1 + 1, 1, none⟩) (by simp) (.slice A8 (L.length + 1) c8)
        have BP9 := BP8.far (p := ⟨w.heap.size + 1 + 1, 1, none⟩) (by show w.heap.size ≠ w.heap.size + 1 + 1; omega) (.slice A8 (L.length + 1) c8)
        have HFP := Lib.hid BP9
        have HFIN := Lib.hid (And.intro BO9 (And.intro BR9 (And.intro PN2 hT8)))
        clear BP9 BP8 BP6 BO9 BR9 PN2 hT8 cO6 fO6 cO6a cO8 fO8 hown8 hg8 hb8 BO8 BR8 BO6 BR6 hvs HPU how hbn hb
        go_wp2_with fail
        go_roundw
        case rel => exact ⟨k + 1, _, _, _, by omega, by go_num, HFP.out, HFIN.out.1, HFIN.out.2.1, by rw [HTS2.out]; exact HFIN.out.2.2.1, HFIN.out.2.2.2⟩
        case measure => simp [intOf]; omega
    · obtain rfl : k = m := by omega
      have hlt' : ¬ (k : Int) < (k : Int) := by omega
      have hP : PO w0.heap.size wr v x.2 css bls := by rw [List.take_of_length_le (by omega)] at hPO; exact hPO
      obtain ⟨A, c, hv⟩ := own_slice hP.2.1
      rw [hm] at hv
      subst hv
      have hlow : w.heap.size ≤ w0.heap.size := by have := HZ0.out; omega
      have hPF := ((hP.far (p := ⟨w.heap.size + 1, 0, none⟩) (by have := HZ0.out; show w.heap.size + 1 < w0.heap.size; omega) (.int .i64 x.1)).far (p := ⟨w.heap.size + 1, 1, none⟩) (by have := HZ0.out; show w.heap.size + 1 < w0.heap.size; omega) (.slice A k c)).mono hlow
      have hTF := (hT.setCell (p := ⟨w.heap.size + 1, 0, none⟩) (by show _ ≤ _; simp) (.int .i64 x.1)).setCell (p := ⟨w.heap.size + 1, 1, none⟩) (by show _ ≤ _; simp) (.slice A k c)
      have cO0 := BO.cell 0
      have cO1 := BO.cell 1
      have cR0 := BR.cell 0
      have cR1 := BR.cell 1
      have fR0 := BR.frozen 0
      have fR1 := BR.frozen 1
      have BRR : Blk ((wr.setCell ⟨w.heap.size + 1, 0, none⟩ (.int .i64 x.1)).setCell ⟨w.heap.size + 1, 1, none⟩ (.slice A k c)) (w.heap.size + 1) 38 #[.int .i64 x.1, .slice A k c] := by simpa using ((BR.set_ 0 (.int .i64 x.1)).set_ 1 (.slice A k c))
      have HPF := Lib.hid hPF
      simp at cO0 cO1 cR0 cR1
      clear hP hPF hPO
      go_wp2_with fail
      (try simp only [Exit.inBlock, Exit.then])
      refine bodyPost_ret (v := .agg #[.int .i64 x.1, .slice A k c]) (results_cell_row rfl _ _ (w.heap.size + 1) 38 #[.int .i64 x.1, .slice A k c] (0, 0) _ (by simp) BRR Try.underlying38 rfl (by kernel_rfl)) rfl ?_
      exact ⟨_, css, bls, rfl, HPF.out, hTF⟩
end Go.Proofs.Ytbpdbimdefdefaa
