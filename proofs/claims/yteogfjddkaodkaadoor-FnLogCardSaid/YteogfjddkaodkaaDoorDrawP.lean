
/- Walk: DrawAppendRecord. -/
import Derived.Test.YteogfjddkaodkaaDoorDrawA
namespace Go.Proofs.YteogfjddkaodkaaDoor
open Go.RowKit

theorem res_row_row {P : Program} {fn : Func} {p q : Tmp} {ty uy : TypeId} (h : fn.results = #[.cell p ty, .cell q uy]) (tmps : Array Value) (w : World) (g k : Nat) (t u : TypeId) (cs es : Array Value) (fr gr : Nat × Nat) (d e : TypeDesc)
    (hp : tmps.getD p undef = .pointer (some ⟨g, 0, none⟩)) (hq : tmps.getD q undef = .pointer (some ⟨k, 0, none⟩)) (hg : w.heap[g]? = some (.cells cs t fr)) (hk : w.heap[k]? = some (.cells es u gr))
    (hu : P.underlying ty = some d) (hv : P.underlying uy = some e) (hd : (match d with | .struct _ | .array _ _ => true | _ => false) = true) (he : (match e with | .struct _ | .array _ _ => true | _ => false) = true) (hi : (P.info? ty).map (·.size) = some cs.size) (hj : (P.info? uy).map (·.size) = some es.size) :
    (results fn tmps).run P w = .ok (.tuple #[.agg cs, .agg es]) w := by
  have : (results fn tmps).run P w = ((asAddr (tmps.getD p undef)).run P w).andThen fun a w₁ => ((loadVar ty a).run P w₁).andThen fun v w₂ => ((asAddr (tmps.getD q undef)).run P w₂).andThen fun b w₃ => ((loadVar uy b).run P w₃).andThen fun v' w₄ => .ok (.tuple #[v, v']) w₄ := by
    simp only [results, h]
    simp [Sem.run_bind, Result.andThen]
  rw [this, hp, hq]
  simp [asAddr, Result.andThen, run_loadVar_row w g t ty cs fr d hg hu hd hi, run_loadVar_row w k u uy es gr e hk hv he hj]

def DrawnA (w : World) (e : Ending) (w' : World) : Prop := ∃ (d p : ByteArray) (n : Int) (c r : ByteArray), d.size + p.size ≤ 3600 ∧ c.size ≤ 20 ∧ r.size ≤ 20 ∧ e = .returned (.tuple #[logV d p n, .agg #[.string c, .string r]]) ∧ Below w.heap.size w w'
theorem boxLR (w : World) : ∃ w3, w3 = (w.alloc (.cells #[.string ⟨#[]⟩, .string ⟨#[]⟩, .int .i64 0] 31)).alloc (.cells #[.string ⟨#[]⟩, .string ⟨#[]⟩] 27) ∧ Below w.heap.size w w3 ∧ w3.heap.size = w.heap.size + 2 ∧ Blk w3 w.heap.size 31 #[.string ⟨#[]⟩, .string ⟨#[]⟩, .int .i64 0] ∧ Blk w3 (w.heap.size + 1) 27 #[.string ⟨#[]⟩, .string ⟨#[]⟩] := by
  refine ⟨_, rfl, below_box2 _ _ _, by simp, (Blk.new w _ _).next (below_box _ _), ?_⟩
  have := Blk.new (w.alloc (.cells #[.string ⟨#[]⟩, .string ⟨#[]⟩, .int .i64 0] 31)) 27 #[.string ⟨#[]⟩, .string ⟨#[]⟩]
  rwa [World.size_alloc] at this

set_option maxRecDepth 20000 in
set_option maxHeartbeats 16000000 in
theorem drawAppend_any (A : Option Addr) (n c : Nat) (w : World) (h : CodeIn w A n) :
    Calls Tryd.prog 38 #[.slice A n c] w (DrawnA w) := by
  obtain ⟨w0, hw0, T0, hsz0, BX, BR⟩ := boxLR w
  have H0 : CurOk (w0.alloc (.cells #[.slice A n c, .int .i64 0, .int .u64 0] 75)) (w.heap.size + 2) 0 := CurOk.made (h.next T0) hsz0.symm
  obtain ⟨w1, hw1⟩ : ∃ w1, w1 = w0.alloc (.cells #[.slice A n c, .int .i64 0, .int .u64 0] 75) := ⟨_, rfl⟩
  have T1' : Below w0.heap.size w0 w1 := by rw [hw1]; exact below_box _ _
  have T1 := below_next T0 T1' rfl
  replace BX := BX.next T1'
  replace BR := BR.next T1'
  rw [← hw1] at H0
  have HW1 : Hid (w1 = ((w.alloc (.cells #[.string ⟨#[]⟩, .string ⟨#[]⟩, .int .i64 0] 31)).alloc (.cells #[.string ⟨#[]⟩, .string ⟨#[]⟩] 27)).alloc (.cells #[.slice A n c, .int .i64 0, .int .u64 0] 75)) := by show _ = _; rw [hw1, hw0]
  clear hw0 hw1 T1' T0
  go_enter Tryd.func38, Tryd.ntmps38
  go_wp2_with fail
  rw [← HW1.out]
  refine (anyLog_any (w.heap.size + 2) 0 _ H0 (by omega)).mono ?_
  rintro e w2 ⟨d, p, m, hdp, hm0, hm8, rfl, H2, g2⟩
  have T2 := below_grown T1 g2 (by omega) T1.size
  replace BX := BX.grown g2 (by simp)
  replace BR := BR.grown g2 (by simp)
  clear HW1
  obtain ⟨w3, hw3, T3', hsz3, BL⟩ := boxL w2 d p m
  have T3 := below_next T2 T3' rfl
  have H3 := H2.next_ T3'
  replace BX := BX.next T3'
  replace BR := BR.next T3'
  have HW3 := Lib.hid hw3
  have hgL : w.heap.size + 2 < w2.heap.size := H2.lt
  clear hw3
  go_wp2_with fail
  rw [← HW3.out]
  refine (one_any (w.heap.size + 2) (0 + 108) 40 _ H3 (by omega) (by decide)).mono ?_
  rintro e wk ⟨b, rfl, H4, g4⟩
  have T4 := below_grown T3 g4 (by omega) T3.size
  replace BX := BX.grown g4 (by simp)
  replace BR := BR.grown g4 (by simp)
  replace BL := BL.grown g4 (by simp; omega)
  obtain ⟨L, hL⟩ : ∃ L, w2.heap.size = L := ⟨_, rfl⟩
  rw [hL] at BL hgL hsz3 ⊢
  rcases b with _ | _
  · have BXK := BX
    have BRK := BR
    have BLK := BL
    have HK := H4
    have TK := T4
    have hXR : w.heap.size ≠ w.heap.size + 1 := by omega
    have hRX : w.heap.size + 1 ≠ w.heap.size := by omega
    have hgX : w.heap.size + 2 < wk.heap.size := HK.lt
    have cL0 := BLK.cell 0
    have cL1 := BLK.cell 1
    have cL2 := BLK.cell 2
    simp at cL0 cL1 cL2
    have H' : CurOk wk.drew (w.heap.size + 2) (0 + 108 + 2) := HK.next_ (Below.drew (Below.refl _ _))
    have BL' : Blk wk.drew L 31 #[.string d, .string p, .int .i64 m] := BLK.drew
    have BX' : Blk wk.drew w.heap.size 31 #[.string ⟨#[]⟩, .string ⟨#[]⟩, .int .i64 0] := BXK.drew
    have BR' : Blk wk.drew (w.heap.size + 1) 27 #[.string ⟨#[]⟩, .string ⟨#[]⟩] := BRK.drew
    have T' : Below w.heap.size w wk.drew := Below.drew TK
    go_upto_region 9 with fail
    go_cut [] (fun wx => ∃ (x y : ByteArray), x.size ≤ 20 ∧ y.size ≤ 20 ∧ Blk wx w.heap.size 31 #[.string d, .string p, .int .i64 m] ∧ Blk wx (w.heap.size + 1) 27 #[.string x, .string y] ∧ Below w.heap.size w wx)
    case first =>
      go_region_with (go_at_call 54; refine (logRecord_any (w.heap.size + 2) _ _ H' (by omega)).mono ?_; rintro e w5 ⟨x, y, hx, hy, rfl, H5, g5⟩; have BL5 := BL'.grown g5 (by simp; omega); have BX5 := BX'.grown g5 (by simp); have BR5 := BR'.grown g5 (by simp); have T5 := below_grown T' g5 (by omega) T'.size; have c50 := BL5.cell 0; have c51 := BL5.cell 1; have c52 := BL5.cell 2; have e50 := BX5.cell 0; have e51 := BX5.cell 1; have e52 := BX5.cell 2; have f50 := BX5.frozen 0; have f51 := BX5.frozen 1; have f52 := BX5.frozen 2; have r50 := BR5.cell 0; have r51 := BR5.cell 1; have fr0 := BR5.frozen 0; have fr1 := BR5.frozen 1; simp at c50 c51 c52 e50 e51 e52 r50 r51)
      all_goals
        go_wp2_with fail
        go_meet
        have BRe : Blk ((((w5.setCell ⟨w.heap.size, 0, none⟩ (.string d)).setCell ⟨w.heap.size, 1, none⟩ (.string p)).setCell ⟨w.heap.size, 2, none⟩ (.int .i64 m)).setCell ⟨w.heap.size + 1, 0, none⟩ (.string x) |>.setCell ⟨w.heap.size + 1, 1, none⟩ (.string y)) (w.heap.size + 1) 27 #[.string x, .string y] := by simpa using ((((BR5.far (p := ⟨w.heap.size, 0, none⟩) hRX (.string d)).far (p := ⟨w.heap.size, 1, none⟩) hRX (.string p)).far (p := ⟨w.heap.size, 2, none⟩) hRX (.int .i64 m)).set_ 0 (.string x)).set_ 1 (.string y)
        exact ⟨x, y, hx, hy, (BX5.set3'.far hXR _).far hXR _, BRe, ((((T5.setCell (Nat.le_refl _) _).setCell (Nat.le_refl _) _).setCell (Nat.le_refl _) _).setCell (Nat.le_succ _) _).setCell (Nat.le_succ _) _⟩
    case rest =>
      obtain ⟨x, y, hx, hy, BX6, BR6, T6⟩ := hcut
      go_wp2_with fail
      (try simp only [Exit.inBlock, Exit.then])
      refine bodyPost_ret (v := .tuple #[logV d p m, .agg #[.string x, .string y]]) (res_row_row rfl _ _ w.heap.size (w.heap.size + 1) 31 27 #[.string d, .string p, .int .i64 m] #[.string x, .string y] (0, 0) (0, 0) _ _ (by simp) (by simp) BX6 BR6 Tryd.underlying31 Tryd.underlying27 rfl rfl (by kernel_rfl) (by kernel_rfl)) rfl ?_
      exact ⟨d, p, m, x, y, by omega, hx, hy, rfl, T6⟩
  · have f0 := BL.frozen 0
    have f1 := BL.frozen 1
    have f2 := BL.frozen 2
    have cL0 := BL.cell 0
    have cL1 := BL.cell 1
    have cL2 := BL.cell 2
    simp at cL0 cL1 cL2
    have hk4 : w.heap.size + 2 < wk.heap.size := H4.lt
    have hXL : w.heap.size ≠ L := by omega
    have hRL : w.heap.size + 1 ≠ L := by omega
    obtain ⟨B5, H5, G5⟩ := set_log (d := ⟨#[]⟩) (p := ⟨#[]⟩) (n := 0) BL H4 (grown_below (grown_refl w (some (w.heap.size + 2))) T4) (by omega) (by omega)
    have BX5 := ((BX.far (p := ⟨L, 0, none⟩) hXL (.string ⟨#[]⟩)).far (p := ⟨L, 1, none⟩) hXL (.string ⟨#[]⟩)).far (p := ⟨L, 2, none⟩) hXL (.int .i64 0)
    have BR5 := ((BR.far (p := ⟨L, 0, none⟩) hRL (.string ⟨#[]⟩)).far (p := ⟨L, 1, none⟩) hRL (.string ⟨#[]⟩)).far (p := ⟨L, 2, none⟩) hRL (.int .i64 0)
    obtain ⟨w5, hw5⟩ : ∃ w5, w5 = ((wk.setCell ⟨L, 0, none⟩ (.string ⟨#[]⟩)).setCell ⟨L, 1, none⟩ (.string ⟨#[]⟩)).setCell ⟨L, 2, none⟩ (.int .i64 0) := ⟨_, rfl⟩
    have HW5 := Lib.hid hw5
    rw [← hw5] at B5 H5 G5 BX5 BR5
    clear hw5
    go_wp2_with fail
    rw [← HW5.out]
    refine (pick_any (w.heap.size + 2) (0 + 108 + 2) 2 _ H5 (by omega) (by decide)).mono ?_
    rintro e w6 ⟨x, hx, rfl, H6, g6⟩
    have G6 := grown_trans G5 g6
    have BX6 := BX5.grown g6 (by simp)
    have BR6 := BR5.grown g6 (by simp)
    have BL6 := B5.grown g6 (by simp; omega)
    have hx1 : x ≤ 1 := by omega
    have hwr : IntKind.i64.wrap (59 + (x : Int)) = ((59 + x : Nat) : Int) := by unfold IntKind.wrap; simp [IntKind.signed, IntKind.bits]; omega
    clear cL0 cL1 cL2 f0 f1 f2 HW5 B5 H5 G5 BX5 BR5 g6 hx BX BR BL H4 T4 g4
    go_wp2
    go_loopw [6] (fun i wr => ∃ (k : Nat) (p : ByteArray) (m : Int), i = .int .i64 k ∧ k ≤ 60 ∧ p.size + 60 * k ≤ 3600 ∧ 0 ≤ m ∧ m + k ≤ 60 ∧ CurOk wr (w.heap.size + 2) (0 + 108 + 2 + 2) ∧ Blk wr w.heap.size 31 #[.string ⟨#[]⟩, .string ⟨#[]⟩, .int .i64 0] ∧ Blk wr (w.heap.size + 1) 27 #[.string ⟨#[]⟩, .string ⟨#[]⟩] ∧ Blk wr L 31 #[.string ⟨#[]⟩, .string p, .int .i64 m] ∧ w.grownBy wr (some (w.heap.size + 2))) (fun i _ => (intOf i).toNat)
    case atStart => exact ⟨59 + x, ⟨#[]⟩, 0, by go_num, by omega, by show 0 + _ ≤ _; omega, by decide, by omega, H6, BX6, BR6, BL6, G6⟩
    case round =>
      obtain ⟨k, p1, m1, rfl, hk, hsz, hn0, hnk, HK, BXK, BRK, BLK, GK⟩ := hrel
      by_cases hk0 : 0 < k
      · have hk0' : (0 : Int) < (k : Int) := by omega
        have hgX : w.heap.size + 2 < wr.heap.size := HK.lt
        have hgr := GK.size
        have cL0 := BLK.cell 0
        have cL1 := BLK.cell 1
        have cL2 := BLK.cell 2
        simp at cL0 cL1 cL2
        have hx1s : (⟨#[120]⟩ : ByteArray).size ≤ 20 := by decide
        have hes : (⟨#[]⟩ : ByteArray).size ≤ 20 := by decide
        have h0s : (⟨#[]⟩ : ByteArray).size = 0 := rfl
        go_wp2_with fail
        refine (specApp_any ⟨#[]⟩ p1 m1 ⟨#[120]⟩ ⟨#[]⟩ _ (by omega) (by unfold maxLen; omega) (by unfold maxLen; omega)).mono ?_
        rintro e w7 ⟨rfl, hb7⟩
        have BX7 := BXK.next hb7
        have BR7 := BRK.next hb7
        have BL7 := BLK.next hb7
        have H7 := HK.next_ hb7
        have G7 := grown_below GK hb7
        clear cL0 cL1 cL2
        have cL0 := BL7.cell 0
        have cL1 := BL7.cell 1
        have cL2 := BL7.cell 2
        have f70 := BL7.frozen 0
        have f71 := BL7.frozen 1
        have f72 := BL7.frozen 2
        simp at cL0 cL1 cL2
        have hap := apP_size (d := ⟨#[]⟩) (p := p1) (n := m1) (c := ⟨#[120]⟩) (r := ⟨#[]⟩) hx1s hes (by omega)
        have han : 0 ≤ apN ⟨#[]⟩ p1 m1 ⟨#[120]⟩ ⟨#[]⟩ ∧ apN ⟨#[]⟩ p1 m1 ⟨#[120]⟩ ⟨#[]⟩ ≤ m1 + 1 := by rcases apN_range (d := ⟨#[]⟩) (p := p1) (c := ⟨#[120]⟩) (r := ⟨#[]⟩) (n := m1) with h | h <;> omega
        obtain ⟨P7, hP7⟩ : ∃ P, apP ⟨#[]⟩ p1 m1 ⟨#[120]⟩ ⟨#[]⟩ = P := ⟨_, rfl⟩
        obtain ⟨N7, hN7⟩ : ∃ P, apN ⟨#[]⟩ p1 m1 ⟨#[120]⟩ ⟨#[]⟩ = P := ⟨_, rfl⟩
        obtain ⟨C7, hC7⟩ : ∃ P, apC ⟨#[]⟩ p1 m1 ⟨#[120]⟩ ⟨#[]⟩ = P := ⟨_, rfl⟩
        rw [hP7] at hap ⊢
        rw [hN7] at han ⊢
        rw [hC7]
        clear hP7 hN7 hC7
        obtain ⟨B8, H8, G8⟩ := set_log (d := ⟨#[]⟩) (p := P7) (n := N7) BL7 H7 G7 (by omega) (by omega)
        go_wp2_with fail
        go_roundw
        case rel => exact ⟨k - 1, P7, N7, by rw [show ((k - 1 : Nat) : Int) = (k : Int) - 1 by omega], by omega, by omega, by omega, by omega, H8, ((BX7.far hXL _).far hXL _).far hXL _, ((BR7.far hRL _).far hRL _).far hRL _, B8, G8⟩
        case measure => simp [intOf]; omega
      · obtain rfl : k = 0 := by omega
        have h0s : (⟨#[]⟩ : ByteArray).size = 0 := rfl
        obtain ⟨wk9, hwk⟩ : ∃ w', wr = w' := ⟨_, rfl⟩
        subst hwk
        have TK : Below w.heap.size w wr := below_grown (Below.refl _ _) GK (by omega) (Nat.le_refl _)
        have hXR : w.heap.size ≠ w.heap.size + 1 := by omega
        have hRX : w.heap.size + 1 ≠ w.heap.size := by omega
        have hgX : w.heap.size + 2 < wr.heap.size := HK.lt
        have cL0 := BLK.cell 0
        have cL1 := BLK.cell 1
        have cL2 := BLK.cell 2
        simp at cL0 cL1 cL2
        have H' : CurOk wr.drew (w.heap.size + 2) (0 + 108 + 2 + 2) := HK.next_ (Below.drew (Below.refl _ _))
        have BL' : Blk wr.drew L 31 #[.string ⟨#[]⟩, .string p1, .int .i64 m1] := BLK.drew
        have BX' : Blk wr.drew w.heap.size 31 #[.string ⟨#[]⟩, .string ⟨#[]⟩, .int .i64 0] := BXK.drew
        have BR' : Blk wr.drew (w.heap.size + 1) 27 #[.string ⟨#[]⟩, .string ⟨#[]⟩] := BRK.drew
        have T' : Below w.heap.size w wr.drew := Below.drew TK
        go_upto_region 9 with fail
        go_cut [] (fun wx => ∃ (x y : ByteArray), x.size ≤ 20 ∧ y.size ≤ 20 ∧ Blk wx w.heap.size 31 #[.string ⟨#[]⟩, .string p1, .int .i64 m1] ∧ Blk wx (w.heap.size + 1) 27 #[.string x, .string y] ∧ Below w.heap.size w wx)
        case first =>
          go_region_with (go_at_call 54; refine (logRecord_any (w.heap.size + 2) _ _ H' (by omega)).mono ?_; rintro e w5 ⟨x, y, hx, hy, rfl, H5, g5⟩; have BL5 := BL'.grown g5 (by simp; omega); have BX5 := BX'.grown g5 (by simp); have BR5 := BR'.grown g5 (by simp); have T5 := below_grown T' g5 (by omega) T'.size; have c50 := BL5.cell 0; have c51 := BL5.cell 1; have c52 := BL5.cell 2; have e50 := BX5.cell 0; have e51 := BX5.cell 1; have e52 := BX5.cell 2; have f50 := BX5.frozen 0; have f51 := BX5.frozen 1; have f52 := BX5.frozen 2; have r50 := BR5.cell 0; have r51 := BR5.cell 1; have fr0 := BR5.frozen 0; have fr1 := BR5.frozen 1; simp at c50 c51 c52 e50 e51 e52 r50 r51)
          all_goals
            go_wp2_with fail
            go_meet
            have BRe : Blk ((((w5.setCell ⟨w.heap.size, 0, none⟩ (.string ⟨#[]⟩)).setCell ⟨w.heap.size, 1, none⟩ (.string p1)).setCell ⟨w.heap.size, 2, none⟩ (.int .i64 m1)).setCell ⟨w.heap.size + 1, 0, none⟩ (.string x) |>.setCell ⟨w.heap.size + 1, 1, none⟩ (.string y)) (w.heap.size + 1) 27 #[.string x, .string y] := by simpa using ((((BR5.far (p := ⟨w.heap.size, 0, none⟩) hRX (.string ⟨#[]⟩)).far (p := ⟨w.heap.size, 1, none⟩) hRX (.string p1)).far (p := ⟨w.heap.size, 2, none⟩) hRX (.int .i64 m1)).set_ 0 (.string x)).set_ 1 (.string y)
            exact ⟨x, y, hx, hy, (BX5.set3'.far hXR _).far hXR _, BRe, ((((T5.setCell (Nat.le_refl _) _).setCell (Nat.le_refl _) _).setCell (Nat.le_refl _) _).setCell (Nat.le_succ _) _).setCell (Nat.le_succ _) _⟩
        case rest =>
          obtain ⟨x, y, hx, hy, BX6, BR6, T6⟩ := hcut
          go_wp2_with fail
          (try simp only [Exit.inBlock, Exit.then])
          refine bodyPost_ret (v := .tuple #[logV ⟨#[]⟩ p1 m1, .agg #[.string x, .string y]]) (res_row_row rfl _ _ w.heap.size (w.heap.size + 1) 31 27 #[.string ⟨#[]⟩, .string p1, .int .i64 m1] #[.string x, .string y] (0, 0) (0, 0) _ _ (by simp) (by simp) BX6 BR6 Tryd.underlying31 Tryd.underlying27 rfl rfl (by kernel_rfl) (by kernel_rfl)) rfl ?_
          exact ⟨⟨#[]⟩, p1, m1, x, y, by omega, hx, hy, rfl, T6⟩
end Go.Proofs.YteogfjddkaodkaaDoor
