
/- Walk: a drawn log. -/
import Derived.Test.YteogfjddkaodkaaDoorCur3
import Derived.Test.YteogfjddkaodkaaDoorAppL
import Derived.Deep.RegionWith
namespace Go.Proofs.YteogfjddkaodkaaDoor
open Go.RowKit

theorem apP_size {d p c r : ByteArray} {n : Int} (hc : c.size ≤ 20) (hr : r.size ≤ 20) (hn : 0 ≤ n ∧ n ≤ 100) : (apP d p n c r).size ≤ p.size + 60 := by
  unfold apP
  split
  · rw [size_app, size_mk]
    have h1 : (bs c).length ≤ 20 := hc
    have h2 : (bs r).length ≤ 20 := hr
    have h3 : (lineL n.toNat (bs c) (bs r)).length ≤ 57 := by
      have hd := dec_len2 (u := n.toNat) 
      unfold lineL
      rw [List.length_append]
      have hs := seal_len (l := bodyL n.toNat (bs c) (bs r))
      have hb : (bodyL n.toNat (bs c) (bs r)).length ≤ 6 + 42 := by
        have := dec_len (u := n.toNat) (by omega)
        simp only [bodyL, List.length_append, List.length_cons]
        omega
      simp
      omega
    omega
  · omega
theorem apN_range {d p c r : ByteArray} {n : Int} : apN d p n c r = n ∨ apN d p n c r = n + 1 := by
  unfold apN
  split
  · exact .inr rfl
  · exact .inl rfl
theorem sync_size {d p : ByteArray} {n : Int} : (syncD d p n).size ≤ d.size + p.size := by
  unfold syncD
  split
  · rw [size_app]; exact Nat.le_refl _
  · exact Nat.zero_le _
theorem syncN_range {d p : ByteArray} {n : Int} : syncN d p n = n ∨ syncN d p n = 0 := by
  unfold syncN
  split
  · exact .inl rfl
  · exact .inr rfl

theorem CurOk.setBlk {w : World} {g t e i : Nat} {ty : TypeId} {cs : Array Value} (h : CurOk w g t) (hB : Blk w e ty cs) (hcs : ∀ (i : Nat) (x : Int), cs[i]? ≠ some (Value.int .u8 x)) (hne : e ≠ g) (v : Value) : CurOk (w.setCell ⟨e, i, none⟩ v) g t := by
  obtain ⟨A, n, c', a, s, h1, h2, h3, h4, h5, h6⟩ := h
  refine ⟨A, n, c', a, s, h1.far (fun he => hne he.symm) _, h2, h3, h4, h5, fun hn => ?_⟩
  obtain ⟨b, o, e1, hbg, hc⟩ := h6 hn
  refine ⟨b, o, e1, hbg, fun i hi => ?_⟩
  obtain ⟨x, hx, hcx⟩ := hc i hi
  refine ⟨x, hx, ?_⟩
  rw [World.cell?_setCell_far _ _ _ _ (by
    intro he
    have he' : e = b := he
    subst he'
    rw [hB.cell] at hcx
    exact hcs _ _ hcx)]
  exact hcx
theorem log_no8 (d p : ByteArray) (n : Int) : ∀ (i : Nat) (x : Int), (#[.string d, .string p, .int .i64 n] : Array Value)[i]? ≠ some (Value.int .u8 x) := by
  intro i x
  rcases i with _ | _ | _ | i
  · simp
  · simp
  · simp
  · simp
theorem set_log {w wk : World} {g t e : Nat} {ty : TypeId} {a b d p : ByteArray} {m n : Int} (hB : Blk wk e ty #[.string a, .string b, .int .i64 m]) (H : CurOk wk g t) (G : w.grownBy wk (some g)) (hw : w.heap.size ≤ e) (hne : e ≠ g) :
    Blk (((wk.setCell ⟨e, 0, none⟩ (.string d)).setCell ⟨e, 1, none⟩ (.string p)).setCell ⟨e, 2, none⟩ (.int .i64 n)) e ty #[.string d, .string p, .int .i64 n] ∧ CurOk (((wk.setCell ⟨e, 0, none⟩ (.string d)).setCell ⟨e, 1, none⟩ (.string p)).setCell ⟨e, 2, none⟩ (.int .i64 n)) g t ∧ w.grownBy (((wk.setCell ⟨e, 0, none⟩ (.string d)).setCell ⟨e, 1, none⟩ (.string p)).setCell ⟨e, 2, none⟩ (.int .i64 n)) (some g) := by
  have B1 : Blk (wk.setCell ⟨e, 0, none⟩ (.string d)) e ty #[.string d, .string b, .int .i64 m] := by simpa using hB.set_ 0 (.string d)
  have B2 : Blk ((wk.setCell ⟨e, 0, none⟩ (.string d)).setCell ⟨e, 1, none⟩ (.string p)) e ty #[.string d, .string p, .int .i64 m] := by simpa using B1.set_ 1 (.string p)
  exact ⟨hB.set3', ((H.setBlk hB (log_no8 _ _ _) hne _).setBlk B1 (log_no8 _ _ _) hne _).setBlk B2 (log_no8 _ _ _) hne _, grown_new (grown_new (grown_new G (p := ⟨e, 0, none⟩) hw _) (p := ⟨e, 1, none⟩) hw _) (p := ⟨e, 2, none⟩) hw _⟩
def LogDrawn (w : World) (g t : Nat) (e : Ending) (w' : World) : Prop := ∃ (d p : ByteArray) (n : Int), d.size + p.size ≤ 420 ∧ 0 ≤ n ∧ n ≤ 7 ∧ e = .returned (logV d p n) ∧ CurOk w' g t ∧ w.grownBy w' (some g)
theorem W2log (w : World) : ∃ w2, w2 = (w.alloc (.cells #[.string ⟨#[]⟩, .string ⟨#[]⟩, .int .i64 0] 31)).alloc (.cells #[.string ⟨#[]⟩, .string ⟨#[]⟩, .int .i64 0] 31) ∧ Below w.heap.size w w2 ∧ Blk w2 w.heap.size 31 #[.string ⟨#[]⟩, .string ⟨#[]⟩, .int .i64 0] ∧ Blk w2 (w.heap.size + 1) 31 #[.string ⟨#[]⟩, .string ⟨#[]⟩, .int .i64 0] ∧ ∀ r, w.grownBy w2 r := by
  refine ⟨_, rfl, below_box2 _ _ _, (Blk.new w _ _).next (below_box _ _), ?_, fun r => grown_trans (grown_box _ _ _) (grown_box _ _ _)⟩
  have := Blk.new (w.alloc (.cells #[.string ⟨#[]⟩, .string ⟨#[]⟩, .int .i64 0] 31)) 31 #[.string ⟨#[]⟩, .string ⟨#[]⟩, .int .i64 0]
  rwa [World.size_alloc] at this

set_option maxRecDepth 20000 in
set_option maxHeartbeats 8000000 in
theorem log_any (g t : Nat) (w : World) (h : CurOk w g t) (ht : t ≤ 999990000) :
    Calls Tryd.prog 55 #[.pointer (some ⟨g, 0, none⟩)] w (LogDrawn w g (t + 100)) := by
  obtain ⟨w2, hw2, hb2, BX, BL, G2⟩ := W2log w
  have H2 := h.next_ hb2
  have hgw := h.lt
  go_enter Tryd.func55, Tryd.ntmps55
  go_wp2_with fail
  rw [← hw2]
  refine (pick_any g t 7 _ H2 (by omega) (by decide)).mono ?_
  rintro e w3 ⟨x, hx, rfl, H3, g3⟩
  have hx6 : x ≤ 6 := by omega
  have G3 := grown_trans (G2 (some g)) g3
  replace BX := BX.grown g3 (by simp; omega)
  replace BL := BL.grown g3 (by simp; omega)
  clear hw2 hb2 H2 G2 hx g3
  go_wp2
  go_loopw [4] (fun i wr => ∃ (k : Nat) (d p : ByteArray) (n : Int), i = .int .i64 k ∧ k ≤ 6 ∧ d.size + p.size + 60 * k ≤ 360 ∧ 0 ≤ n ∧ n + k ≤ 6 ∧ CurOk wr g (t + 2 + 10 * (6 - k)) ∧ Blk wr w.heap.size 31 #[.string ⟨#[]⟩, .string ⟨#[]⟩, .int .i64 0] ∧ Blk wr (w.heap.size + 1) 31 #[.string d, .string p, .int .i64 n] ∧ w.grownBy wr (some g)) (fun i _ => (intOf i).toNat)
  case atStart => exact ⟨x, ⟨#[]⟩, ⟨#[]⟩, 0, rfl, hx6, by show 0 + 0 + _ ≤ _; omega, by decide, by omega, H3.mono (by omega), BX, BL, G3⟩
  case round =>
    obtain ⟨k, d, p, n, rfl, hk, hsz, hn0, hnk, H, BX, BL, G⟩ := hrel
    have hgX : g < wr.heap.size := H.lt
    have hgr := G.size
    by_cases hk0 : 0 < k
    · have hk0' : (0 : Int) < (k : Int) := by omega
      have cL0 := BL.cell 0
      have cL1 := BL.cell 1
      have cL2 := BL.cell 2
      simp at cL0 cL1 cL2
      have H' : CurOk wr.drew g (t + 2 + 10 * (6 - k)) := H.next_ (Below.drew (Below.refl _ _))
      have BL' : Blk wr.drew (w.heap.size + 1) 31 #[.string d, .string p, .int .i64 n] := BL.drew
      have BX' : Blk wr.drew w.heap.size 31 #[.string ⟨#[]⟩, .string ⟨#[]⟩, .int .i64 0] := BX.drew
      have G' : w.grownBy wr.drew (some g) := grown_trans G ⟨rfl, rfl, rfl, Nat.le_refl _, fun _ _ _ => rfl⟩
      go_upto_region 5 with fail
      go_cut [] (fun wx => ∃ (d' p' : ByteArray) (n' : Int), d'.size + p'.size + 60 * (k - 1) ≤ 360 ∧ 0 ≤ n' ∧ n' + (k - 1 : Nat) ≤ 6 ∧ CurOk wx g (t + 2 + 10 * (6 - k) + 8) ∧ Blk wx w.heap.size 31 #[.string ⟨#[]⟩, .string ⟨#[]⟩, .int .i64 0] ∧ Blk wx (w.heap.size + 1) 31 #[.string d', .string p', .int .i64 n'] ∧ w.grownBy wx (some g))
      case first =>
        go_region_with (first
          | (go_at_call 54; refine (logRecord_any g _ _ H' (by omega)).mono ?_; rintro e w4 ⟨x, y, hx, hy, rfl, H4, g4⟩; have BL4 := BL'.grown g4 (by simp; omega); have BX4 := BX'.grown g4 (by simp; omega); have G4 := grown_trans G' g4; have c40 := BL4.cell 0; have c41 := BL4.cell 1; have c42 := BL4.cell 2; simp at c40 c41 c42)
          | (go_at_call 28; refine (specApp_any d p n x y _ (by omega) (by unfold maxLen; omega) (by unfold maxLen; omega)).mono ?_; rintro e w5 ⟨rfl, hb5⟩; have BL5 := BL4.next hb5; have BX5 := BX4.next hb5; have H5 := H4.next_ hb5; have G5 := grown_trans G4 ⟨hb5.os, hb5.tape, hb5.output, hb5.size, fun b hb _ => hb5.block b hb⟩; have c50 := BL5.cell 0; have c51 := BL5.cell 1; have c52 := BL5.cell 2; have f50 := BL5.frozen 0; have f51 := BL5.frozen 1; have f52 := BL5.frozen 2; simp at c50 c51 c52)
          | fail)
        all_goals
          go_wp2_with fail
          go_meet
          have hap := apP_size (d := d) (p := p) (n := n) hx hy (by omega)
          have han : 0 ≤ apN d p n x y ∧ apN d p n x y ≤ n + 1 := by rcases apN_range (d := d) (p := p) (c := x) (r := y) (n := n) with h | h <;> omega
          obtain ⟨B6, H6, G6⟩ := set_log (d := d) (p := apP d p n x y) (n := apN d p n x y) BL5 H5 G5 (by omega) (by omega)
          exact ⟨d, apP d p n x y, apN d p n x y, by omega, han.1, by omega, H6, ((BX5.far (show w.heap.size ≠ w.heap.size + 1 by omega) _).far (show w.heap.size ≠ w.heap.size + 1 by omega) _).far (show w.heap.size ≠ w.heap.size + 1 by omega) _, B6, G6⟩
      case rest =>
        obtain ⟨d', p', n', hsz', hn0', hnk', H1, BX1, BL1, G1⟩ := hcut
        have hgX1 : g < wc.heap.size := H1.lt
        have hgr1 := G1.size
        clear cL0 cL1 cL2 H' BL' BX' G'
        go_wp2_with fail
        refine (one_any g _ 4 _ H1 (by omega) (by decide)).mono ?_
        rintro e w6 ⟨b, rfl, H6, g6⟩
        have G6 := grown_trans G1 g6
        have BL6 := BL1.grown g6 (by simp; omega)
        have BX6 := BX1.grown g6 (by simp; omega)
        rcases b with _ | _
        · go_wp2_with fail
          go_roundw
          case rel => exact ⟨k - 1, d', p', n', by rw [show ((k - 1 : Nat) : Int) = (k : Int) - 1 by omega], by omega, by omega, by omega, by omega, H6.mono (by omega), BX6, BL6, G6⟩
          case measure => simp [intOf]; omega
        · have c60 := BL6.cell 0
          have c61 := BL6.cell 1
          have c62 := BL6.cell 2
          simp at c60 c61 c62
          go_wp2_with fail
          refine (specSync_any d' p' n' _ (by omega)).mono ?_
          rintro e w7 ⟨rfl, hb7⟩
          have BL7 := BL6.next hb7
          have BX7 := BX6.next hb7
          have H7 := H6.next_ hb7
          have G7 := grown_trans G6 (⟨hb7.os, hb7.tape, hb7.output, hb7.size, fun b hb _ => hb7.block b hb⟩ : w6.grownBy w7 (some g))
          clear c60 c61 c62
          have c70 := BL7.cell 0
          have c71 := BL7.cell 1
          have c72 := BL7.cell 2
          have f70 := BL7.frozen 0
          have f71 := BL7.frozen 1
          have f72 := BL7.frozen 2
          simp at c70 c71 c72
          obtain ⟨B8, H8, G8⟩ := set_log (d := syncD d' p' n') (p := ⟨#[]⟩) (n := syncN d' p' n') BL7 H7 G7 (by omega) (by omega)
          have hs := sync_size (d := d') (p := p') (n := n')
          have hr := syncN_range (d := d') (p := p') (n := n')
          go_wp2_with fail
          go_roundw
          case rel => exact ⟨k - 1, syncD d' p' n', ⟨#[]⟩, syncN d' p' n', by rw [show ((k - 1 : Nat) : Int) = (k : Int) - 1 by omega], by omega, by show _ + 0 + _ ≤ _; omega, by omega, by omega, H8.mono (by omega), ((BX7.far (show w.heap.size ≠ w.heap.size + 1 by omega) _).far (show w.heap.size ≠ w.heap.size + 1 by omega) _).far (show w.heap.size ≠ w.heap.size + 1 by omega) _, B8, G8⟩
          case measure => simp [intOf]; omega
    · obtain rfl : k = 0 := by omega
      have cL0 := BL.cell 0
      have cL1 := BL.cell 1
      have cL2 := BL.cell 2
      have cX0 := BX.cell 0
      have cX1 := BX.cell 1
      have cX2 := BX.cell 2
      have fX0 := BX.frozen 0
      have fX1 := BX.frozen 1
      have fX2 := BX.frozen 2
      simp at cL0 cL1 cL2 cX0 cX1 cX2
      obtain ⟨B9, H9, G9⟩ := set_log (d := d) (p := p) (n := n) BX H G (Nat.le_refl _) (by omega)
      go_wp2_with fail
      (try simp only [Exit.inBlock, Exit.then])
      refine bodyPost_ret (v := logV d p n) (results_cell_row rfl _ _ w.heap.size 31 #[.string d, .string p, .int .i64 n] (0, 0) _ (by simp) B9 Tryd.underlying31 rfl (by kernel_rfl)) rfl ?_
      exact ⟨d, p, n, by omega, hn0, by omega, rfl, H9.mono (by omega), G9⟩
end Go.Proofs.YteogfjddkaodkaaDoor
