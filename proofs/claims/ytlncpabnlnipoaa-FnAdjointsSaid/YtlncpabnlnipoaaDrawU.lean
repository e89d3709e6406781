
/- Walks: l24Irreducibles, DrawUpperAdjoint. -/
import Derived.Test.YtlncpabnlnipoaaDraw30
namespace Go.Proofs.Ytlncpabnlnipoaa
open Go.RowKit

def IrD (n : Nat) (w : World) (e : Ending) (w' : World) : Prop := ∃ A m c L, e = .returned (.slice A m c) ∧ w'.ownsRow w.heap.size 3 1 (.slice A m c) m (ints L) ∧ (∀ x ∈ L, 0 ≤ x ∧ x < (n : Int)) ∧ m ≤ n ∧ Below w.heap.size w w'
set_option linter.unusedVariables false in
set_option maxHeartbeats 4000000 in
theorem l24Irr_any (A : Option Addr) (n c : Nat) (xss : List (List Int)) (w : World) (h : RdL (RV RI) w A n xss) (hn : n ≤ 1000) :
    Calls Try.prog 24 #[.agg #[.slice A n c]] w (IrD n w) := by
  have hle := h.le
  obtain ⟨w0, HW0⟩ : ∃ wb, Hid (wb = w.alloc (.cells #[.slice A n c] 26)) := ⟨_, rfl⟩
  have hb0 : Below w.heap.size w w0 := by rw [HW0.out]; exact below_box _ _
  have BX : Blk w0 w.heap.size 26 #[.slice A n c] := by rw [HW0.out]; exact Blk.new _ _ _
  obtain ⟨w1, HW1⟩ : ∃ wb, Hid (wb = w0.alloc (.cells #[] 3)) := ⟨_, rfl⟩
  have hb1 : Below w0.heap.size w0 w1 := by rw [HW1.out]; exact below_box _ _
  have hs0 : w0.heap.size = w.heap.size + 1 := by rw [HW0.out]; simp
  have hown1 : w1.ownsRow (w.heap.size + 1) 3 1 (.slice (some ⟨w.heap.size + 1, 0, none⟩) 0 0) 0 (ints []) := by rw [HW1.out, ← hs0]; exact World.ownsRow_lit w0 #[] 0 (Nat.le_refl _) (Nat.zero_le _) rfl
  have B1 := BX.next hb1
  have hT1 := below_next hb0 hb1 rfl
  have hz1 : w.heap.size + 1 ≤ w1.heap.size := by have := hb1.size; omega
  clear BX hb1
  go_enter Try.func24, Try.ntmps24
  go_wp2_with fail
  rw [← HW0.out, ← HW1.out]
  go_loopw [3, 4, 5, 6] (fun v i _ _ wr => ∃ (y : Nat) (A' : Option Addr) (m c' : Nat) (L : List Int), y ≤ n ∧ i = .int .i64 y ∧ v = .slice A' m c' ∧ m ≤ y ∧ wr.ownsRow (w.heap.size + 1) 3 1 (.slice A' m c') m (ints L) ∧ (∀ x ∈ L, 0 ≤ x ∧ x < (n : Int)) ∧ Below (w.heap.size + 1) w1 wr) (fun _ i _ _ _ => n - (intOf i).toNat)
  case atStart => exact ⟨0, _, 0, 0, [], Nat.zero_le _, rfl, rfl, Nat.le_refl _, hown1, fun x hx => by simp at hx, Below.refl _ _⟩
  case round =>
    clear hown1
    obtain ⟨y, A', m, c', L, hy, rfl, rfl, hm, hown, hL, hT⟩ := hrel
    have HL := Lib.hid hL
    clear hL
    have k1 := (B1.below hT (by omega)).cell 0
    simp at k1
    by_cases hly : y < n
    · have hy1 : (y : Int) < (n : Int) := by omega
      obtain ⟨wy, HWY⟩ : ∃ wy : World, wy = wr := ⟨_, rfl⟩
      subst HWY
      have hzy := Nat.le_trans hz1 hT.size
      have hTw := hT1.trans (hT.mono (by omega))
      go_wp2_with fail
      go_loopw [5, 6] (fun s i wr => ∃ (x q : Nat), x ≤ n ∧ q ≤ x ∧ i = .int .i64 x ∧ s = .int .i64 q ∧ Below wy.heap.size wy wr) (fun _ i _ => n - (intOf i).toNat)
      case atStart => exact ⟨0, 0, Nat.zero_le _, Nat.le_refl _, rfl, rfl, Below.refl _ _⟩
      case round =>
        obtain ⟨x, q, hx, hq, rfl, rfl, hTx⟩ := hrel
        have hT2 := hT.trans (hTx.mono hzy)
        have k2 := (B1.below hT2 (by omega)).cell 0
        simp at k2
        by_cases hlx : x < n
        · have hx1 : (x : Int) < (n : Int) := by omega
          have hr := h.next stab_RVI (below_next hTw hTx rfl)
          go_wp2_with fail
          refine (l23Covers_any A n c xss x y wr hr hly).mono ?_
          rintro e w2 ⟨b, rfl, hb2⟩
          have hTx2 := below_next hTx hb2 rfl
          rcases b with _ | _
          · go_wp2_with fail
            go_roundw
            case rel => exact ⟨x + 1, q, by omega, by omega, by go_num, rfl, hTx2⟩
            case measure => simp [intOf]; omega
          · go_wp2_with fail
            go_roundw
            case rel => exact ⟨x + 1, q + 1, by omega, by omega, by go_num, by go_num, hTx2⟩
            case measure => simp [intOf]; omega
        · obtain rfl : n = x := by omega
          have hx1 : ¬ (n : Int) < (n : Int) := by omega
          have hown2 := own_next hown hTx
          have hz2 := hT2.size
          have hz3 := Nat.le_trans hz1 hz2
          by_cases hq1 : q = 1
          · have hq2 : ((q : Int) == 1) = true := by simp; omega
            clear hown hq1
            go_wp2_with (at_builtin; refine app1 wr rfl _ _ 27 3 rfl (.int .i64 0) 8 Try.underlying27 info_int rfl (by decide) (w.heap.size + 1) m c' A' (ints L) rfl hown2 (.int .i64 y) rfl rfl (by omega) hz3 ?_; intro A3 c3 w3 hown3 hg3 hb3)
            go_roundw
            case rel => exact ⟨y + 1, A3, m + 1, c3, L ++ [(y : Int)], by omega, by go_num, rfl, by omega, by rw [← ints_snocG]; exact hown3, fun v hv => by
              rcases List.mem_append.1 hv with hv | hv
              · exact HL.out v hv
              · rw [List.mem_singleton.1 hv]; omega, hT2.trans hb3⟩
            case measure => simp [intOf]; omega
          · have hq2 : ((q : Int) == 1) = false := by simp; omega
            go_wp2_with fail
            go_roundw
            case rel => exact ⟨y + 1, A', m, c', L, by omega, by go_num, rfl, by omega, hown2, HL.out, hT2⟩
            case measure => simp [intOf]; omega
    · obtain rfl : n = y := by omega
      have hy1 : ¬ (n : Int) < (n : Int) := by omega
      have HO := Lib.hid hown
      clear hown
      go_wp2_with fail
      go_ret
      exact ⟨A', m, c', L, rfl, own_mono HO.out (by omega), HL.out, hm, hT1.trans (hT.mono (by omega))⟩
def UaD (w : World) (e : Ending) (w' : World) : Prop := ∃ A m c F B k d G C l e' L, e = .returned (.tuple #[.agg #[.slice A m c], .agg #[.slice B k d], .slice C l e']) ∧ RdL (RV RI) w' A m F ∧ RdL (RV RI) w' B k G ∧ m ≤ 12 ∧ k ≤ 12 ∧ RdL RI w' C l L ∧ l ≤ 13 ∧ Below w.heap.size w w'
theorem UaD.drew {w w' : World} {e : Ending} (h : UaD w e w') : UaD w e w'.drew := by
  obtain ⟨A, m, c, F, B, k, d, G, C, l, e', L, h1, h2, h3, h4, h5, h6, h7, h9⟩ := h
  have hb : Below w'.heap.size w' w'.drew := Below.drew (Below.refl _ _)
  exact ⟨A, m, c, F, B, k, d, G, C, l, e', L, h1, h2.next stab_RVI hb, h3.next stab_RVI hb, h4, h5, h6.next stab_RI hb, h7, h9.drew⟩
theorem ua_fin {w wx : World} {g q1 lo m c k d l e' : Nat} {A B C : Option Addr} {F G : List (List Int)} {L : List Int} (hr : RdL (RG2 g q1) wx A m F) (hA : Hi q1 A) (hs : RdL (RG2 g q1) wx B k G) (hB : Hi q1 B) (hq : w.heap.size + 1 ≤ q1) (hm : m ≤ 12) (hk : k ≤ 12)
    (hC : wx.ownsRow lo 3 1 (.slice C l e') l (ints L)) (hl : l ≤ 13) (hL : ∀ x ∈ L, -2000 ≤ x ∧ x ≤ 2000) (hlo : w.heap.size + 1 < lo) (hb : Below w.heap.size w wx) :
    UaD w (.returned (.tuple #[.agg #[.slice A m c], .agg #[.slice B k d], .slice C l e'])) ((wx.setCell ⟨w.heap.size, 0, none⟩ (.slice A m c)).setCell ⟨w.heap.size + 1, 0, none⟩ (.slice B k d)) := by
  obtain ⟨A', m', c', F', B', k', d', G', C', l', e1, L', D, j, f, M, h1, h2, h3, h4, h5, h6, h7, h8, h9⟩ := ap_fin (c := c) (d := d) hr hA hs hB hq hm hk hC hl hL hC (fun x hx => by have := hL x hx; omega) hlo hb
  injection h1 with h1
  injection h1 with h1
  simp only [Array.mk.injEq, List.cons.injEq, Value.agg.injEq, Value.slice.injEq, and_true] at h1
  obtain ⟨⟨rfl, rfl, rfl⟩, ⟨rfl, rfl, rfl⟩, ⟨rfl, rfl, rfl⟩, -⟩ := h1
  exact ⟨A, m, c, F', B, k, d, G', C, l, e', L', rfl, h2, h3, h4, h5, h6, h7, h9⟩
set_option linter.unusedVariables false in
set_option maxRecDepth 20000 in
set_option maxHeartbeats 8000000 in
theorem drawUA_any (A : Option Addr) (n c : Nat) (w : World) (h : CodeB w A n) : Calls Try.prog 5 #[.slice A n c] w (UaD w) := by
  obtain ⟨w0, HW0⟩ : ∃ wb, Hid (wb = (w.alloc (.cells #[.slice none 0 0] 26)).alloc (.cells #[.slice none 0 0] 26)) := ⟨_, rfl⟩
  have hb0 : Below w.heap.size w w0 := by rw [HW0.out]; exact below_box2 _ _ _
  have B0 : Blk w0 w.heap.size 26 #[.slice none 0 0] := by rw [HW0.out]; exact (Blk.new w 26 #[.slice none 0 0]).alloc _
  have C0 : Blk w0 (w.heap.size + 1) 26 #[.slice none 0 0] := by
    have h1 := Blk.new (w.alloc (.cells #[.slice none 0 0] 26)) 26 #[.slice none 0 0]
    rw [HW0.out]
    simpa using h1
  have hs0 : w0.heap.size = w.heap.size + 1 + 1 := by rw [HW0.out]; simp
  obtain ⟨w1, HW1⟩ : ∃ wb, Hid (wb = w0.alloc (.cells #[.slice A n c, .int .i64 0, .int .u64 0] 48)) := ⟨_, rfl⟩
  have hb1 : Below w0.heap.size w0 w1 := by rw [HW1.out]; exact below_box _ _
  have hc1 : CurB (w.heap.size + 1 + 1) w1 (w.heap.size + 1 + 1) 0 := by rw [HW1.out]; exact CurB.made (h.next hb0) hs0.symm
  have hz1 : w.heap.size + 1 + 1 < w1.heap.size := hc1.lt
  have B1 := B0.next hb1
  have C1 := C0.next hb1
  have HLA := Lib.hid (lattice_any (w.heap.size + 1 + 1) (w.heap.size + 1 + 1) 0 w1 hc1 (by omega) (by omega))
  have hT1 := below_next hb0 hb1 rfl
  have hz1' : w.heap.size ≤ w1.heap.size := by omega
  clear B0 C0 hc1 hb1
  go_enter Try.func5, Try.ntmps5
  go_wp2_with fail
  rw [← HW0.out, ← HW1.out]
  refine HLA.out.mono ?_
  rintro e w2 ⟨A2, m2, c2, F, rfl, hr, hog, hhi, hm12, hF, hc2, hg2⟩
  have HOG := Lib.hid hog
  have HHI := Lib.hid hhi
  have hz2 := hg2.size
  have HLB := Lib.hid (lattice_any (w.heap.size + 1 + 1) (w.heap.size + 1 + 1) (0 + 300) w2 hc2 (by omega) (by omega))
  clear hF hog hhi HLA
  go_wp2_with fail
  refine HLB.out.mono ?_
  rintro e w3 ⟨A3, m3, c3, G, rfl, hq, hog, hhi, hm13, hG, hc3, hg3⟩
  have HOH := Lib.hid hog
  have HHJ := Lib.hid hhi
  have hr3 := r2_grown hr HOG.out hg3
  have hg13 := growB_trans hg2 hg3
  have B3 := B1.grown hg13 (fun e => by injection e with e; omega)
  have C3 := C1.grown hg13 (fun e => by injection e with e; omega)
  have hz3 := hg13.size
  have hz23 := hg3.size
  clear hG hog hhi HLB hr hc2 hg2 hg3 B1 C1
  obtain ⟨w4, HW4⟩ : ∃ wb, Hid (wb = (w3.alloc (.cells #[.slice A2 m2 c2] 26)).alloc (.cells #[.slice A3 m3 c3] 26)) := ⟨_, rfl⟩
  have hb4 : Below w3.heap.size w3 w4 := by rw [HW4.out]; exact below_box2 _ _ _
  have BP4 : Blk w4 w3.heap.size 26 #[.slice A2 m2 c2] := by rw [HW4.out]; exact (Blk.new w3 26 #[.slice A2 m2 c2]).alloc _
  have BQ4 : Blk w4 (w3.heap.size + 1) 26 #[.slice A3 m3 c3] := by
    have h1 := Blk.new (w3.alloc (.cells #[.slice A2 m2 c2] 26)) 26 #[.slice A3 m3 c3]
    rw [HW4.out]
    simpa using h1
  have B4 := B3.next hb4
  have C4 := C3.next hb4
  have hr4 := hr3.next stab_R2 hb4
  have hq4 := hq.next stab_R2 hb4
  have hc4 := hc3.next_ hb4
  have hg14 := growB_trans hg13 (toGr (r := some (w.heap.size + 1 + 1)) hb4)
  have hz4 := hb4.size
  have k4 := BP4.cell 0
  have l4 := BQ4.cell 0
  simp at k4 l4
  rw [HW4.out] at k4 l4
  have HMP := Lib.hid (map30_any (w.heap.size + 1 + 1) (w.heap.size + 1 + 1) (0 + 300 + 300) m2 m3 c2 c3 A2 A3 F G w4 hc4 (by omega) (by omega) (r2_rg hr4) HOG.out (r2_rg hq4) HOH.out hm12 hm13)
  clear B3 C3 hr3 hq hc3 hg13 hb4
  go_wp2_with fail
  rw [← HW4.out]
  refine HMP.out.mono ?_
  rintro e w5 ⟨A5, m5, c5, L, rfl, ho5, hL5, hm5, hc5, hg5⟩
  have BP5 := BP4.grown hg5 (fun e => by injection e with e; omega)
  have BQ5 := BQ4.grown hg5 (fun e => by injection e with e; omega)
  have B5 := B4.grown hg5 (fun e => by injection e with e; omega)
  have C5 := C4.grown hg5 (fun e => by injection e with e; omega)
  have hr5 := r2_grown hr4 HOG.out hg5
  have hq5 := r2_grown hq4 HOH.out hg5
  have hg15 := growB_trans hg14 hg5
  have hz45 := hg5.size
  have hL5r := rd_of_own (R := RI) ho5 (RI_ints fun x hx => by have := hL5 x hx; omega)
  have HL5 := Lib.hid hL5
  have HL5R := Lib.hid hL5r
  have hz5 := hg15.size
  have hrv := (r2_rg hr5).toRV
  have hqv := (r2_rg hq5).toRV
  have HGP := Lib.hid (l24Good_any A2 m2 c2 F w5 hrv)
  obtain ⟨pb, HPB⟩ : ∃ b, Hid (tt (GoodP F ∧ LatP (leF F) m2) = b) := ⟨_, rfl⟩
  rw [HPB.out] at HGP
  clear k4 l4 BP4 BQ4 B4 C4 hr4 hq4 hc4 hg14 HMP hL5 hL5r hg5
  go_upto_region 4 with fail
  go_cut [40] from 25 to 39 (fun u40 wx => ∃ bb : Bool, u40 = .bool bb ∧ Hid (bb = true → m5 = m2 ∧ ∀ x ∈ L, 0 ≤ x ∧ x ≤ (m3 : Int) - 1) ∧ CurB (w.heap.size + 1 + 1) wx (w.heap.size + 1 + 1) 800 ∧ w5.grownBy wx (some (w.heap.size + 1 + 1)))
  case first =>
    have k5 := BP5.cell 0
    have l5 := BQ5.cell 0
    simp at k5 l5
    go_wp2_with fail
    refine HGP.out.mono ?_
    rintro e w6 ⟨rfl, hT6⟩
    have hc6 := hc5.next_ hT6
    have k6 := keepP hT6 k5
    have l6 := keepP hT6 l5
    rcases pb with _ | _
    · go_wp2_with fail
      go_meet
      exact ⟨false, rfl, (fun h => by cases h), hc6.mono (by omega), toGr hT6⟩
    · have HGQ := Lib.hid (l24Good_any A3 m3 c3 G w6 (hqv.next stab_RVI hT6))
      obtain ⟨qb, HQB⟩ : ∃ b, Hid (tt (GoodP G ∧ LatP (leF G) m3) = b) := ⟨_, rfl⟩
      rw [HQB.out] at HGQ
      go_wp2_with fail
      refine HGQ.out.mono ?_
      rintro e w7 ⟨rfl, hT7⟩
      have hT57 := below_next hT6 hT7 rfl
      have hc7 := hc6.next_ hT7
      have k7 := keepP hT7 k6
      have l7 := keepP hT7 l6
      rcases qb with _ | _
      · go_wp2_with fail
        go_meet
        exact ⟨false, rfl, (fun h => by cases h), hc7.mono (by omega), toGr hT57⟩
      · have HM := Lib.hid (l30Map_any A2 A3 A5 m2 m3 m5 c2 c3 c5 F G L w7 (hrv.next stab_RVI hT57) (hqv.next stab_RVI hT57) (HL5R.out.next stab_RI hT57))
        obtain ⟨mb, HMB⟩ : ∃ b, Hid (mapS m2 m3 m5 F G L = b) := ⟨_, rfl⟩
        rw [HMB.out] at HM
        go_wp2_with fail
        refine HM.out.mono ?_
        rintro e w8 ⟨rfl, hT8⟩
        have hT58 := below_next hT57 hT8 rfl
        have hc8 := hc7.next_ hT8
        rcases mb with _ | _
        · go_wp2_with fail
          go_meet
          exact ⟨false, rfl, (fun h => by cases h), hc8.mono (by omega), toGr hT58⟩
        · have HIN := Lib.hid (map_in HMB.out)
          go_wp2_with fail
          refine (oneB_any (w.heap.size + 1 + 1) (0 + 300 + 300 + 100) 2 w8 hc8 (by omega) (by omega)).mono ?_
          rintro e w9 ⟨bb, rfl, hc9, hg9⟩
          go_wp2_with fail
          go_meet
          exact ⟨bb, rfl, (fun _ => HIN.out.2), hc9.mono (by omega), growB_trans (toGr hT58) hg9⟩
  case rest =>
    obtain ⟨bb, rfl, HBB, hc7, hg7⟩ := hcut
    obtain ⟨w7, HWC⟩ : ∃ wq : World, wq = wc := ⟨_, rfl⟩
    subst HWC
    have BP7 := BP5.grown hg7 (fun e => by injection e with e; omega)
    have BQ7 := BQ5.grown hg7 (fun e => by injection e with e; omega)
    have B7 := B5.grown hg7 (fun e => by injection e with e; omega)
    have C7 := C5.grown hg7 (fun e => by injection e with e; omega)
    have hr7 := r2_low (r2_grown hr5 HOG.out hg7) (by omega : w.heap.size + 1 ≤ _)
    have hq7 := r2_low (r2_grown hq5 HOH.out hg7) (by omega : w.heap.size + 1 ≤ _)
    have ho57 := own_grownG ho5 hg7 (by omega)
    have hg17 := growB_trans hg15 hg7
    have hz7 := hg7.size
    have k7 := BP7.cell 0
    have l7 := BQ7.cell 0
    have kr := B7.cell 0
    have lr := C7.cell 0
    have fr := B7.frozen 0
    have fr2 := C7.frozen 0
    simp at k7 l7 kr lr
    clear BP5 BQ5 B5 C5 hr5 hq5 hc5 ho5 hg15 hrv hqv HGP HPB HL5R
    rcases bb with _ | _
    · have HFIN := Lib.hid (ua_fin (c := c2) (d := c3) hr7 (fun b o e => by have := HHI.out b o e; omega) hq7 (fun b o e => by have := HHJ.out b o e; omega) (Nat.le_refl _) hm12 hm13 ho57 (by omega) HL5.out (by omega) (hT1.grown hg17 hz1' (fun r hr => by injection hr with hr; omega)))
      clear hr7 hq7 ho57
      have B8 := (B7.set_ 0 (.slice A2 m2 c2)).far (p := ⟨w.heap.size + 1, 0, none⟩) (by show w.heap.size ≠ w.heap.size + 1; omega) (.slice A3 m3 c3)
      have C8 := (C7.far (p := ⟨w.heap.size, 0, none⟩) (by show w.heap.size + 1 ≠ w.heap.size; omega) (.slice A2 m2 c2)).set_ 0 (.slice A3 m3 c3)
      go_wp2_with fail
      go_region
      go_wp2
      (try simp only [Exit.inBlock, Exit.then])
      refine bodyPost_ret (v := .tuple #[.agg #[.slice A2 m2 c2], .agg #[.slice A3 m3 c3], .slice A5 m5 c5]) (results_row2_tmp rfl _ _ w.heap.size (w.heap.size + 1) 26 #[.slice A2 m2 c2] #[.slice A3 m3 c3] (0, 0) (0, 0) _ _ (by simp) B8 (by simp) C8 Try.underlying26 rfl (by kernel_rfl) (by kernel_rfl) (by simp)) rfl ?_
      exact HFIN.out.drew
    · obtain ⟨rfl, hLin⟩ := HBB.out (by first | rfl | trivial)
      have HLI := Lib.hid hLin
      have hrv := (r2_rg hr7).toRV
      have hqv := (r2_rg hq7).toRV
      have HIR := Lib.hid (l24Irr_any A2 m5 c2 F w7 hrv (by omega))
      clear hLin
      go_wp2_with fail
      refine HIR.out.mono ?_
      rintro e w8 ⟨A8, m8, c8, J, rfl, hJ8, hJ, hm8, hT8⟩
      have HJ := Lib.hid hJ
      have hb9 := below_box w8 (.cells #[] 3)
      have hown9 : (w8.alloc (.cells #[] 3)).ownsRow w8.heap.size 3 1 (.slice (some ⟨w8.heap.size, 0, none⟩) 0 0) 0 (ints []) := World.ownsRow_lit w8 #[] 0 (Nat.le_refl _) (Nat.zero_le _) rfl
      have hz8 := hT8.size
      clear hJ HIR k7 l7 kr lr fr fr2
      go_wp2_with fail
      go_loopw [10, 11, 12, 13] (fun v i _ _ wr => ∃ (x : Nat) (A9 : Option Addr) (c9 : Nat) (O : List Int), x ≤ m5 ∧ i = .int .i64 x ∧ v = .slice A9 x c9 ∧ wr.ownsRow w8.heap.size 3 1 (.slice A9 x c9) x (ints O) ∧ (∀ z ∈ O, -1 ≤ z ∧ z ≤ 1000) ∧ Below w8.heap.size w8 wr) (fun _ i _ _ _ => m5 - (intOf i).toNat)
      case atStart => exact ⟨0, _, 0, [], Nat.zero_le _, rfl, rfl, hown9, fun z hz => by simp at hz, hb9⟩
      case round =>
        clear hown9 hb9
        obtain ⟨x, A9, c9, O, hx, rfl, rfl, howO, hO, hT⟩ := hrel
        have HO := Lib.hid hO
        clear hO
        have hT7r := below_next hT8 hT rfl
        by_cases hlx : x < m5
        · have hx0 : (0 : Int) ≤ (x : Int) := by omega
          have hx1 : (x : Int) < (m5 : Int) := by omega
          obtain ⟨wy, HWY⟩ : ∃ wy : World, wy = wr := ⟨_, rfl⟩
          subst HWY
          have hbx := below_box wy (.cells #[] 3)
          have hownS : (wy.alloc (.cells #[] 3)).ownsRow wy.heap.size 3 1 (.slice (some ⟨wy.heap.size, 0, none⟩) 0 0) 0 (ints []) := World.ownsRow_lit wy #[] 0 (Nat.le_refl _) (Nat.zero_le _) rfl
          go_wp2_with fail
          go_loopw [12, 13] (fun v i wr => ∃ (k q : Nat) (A10 : Option Addr) (c10 : Nat) (S : List Int), k ≤ m8 ∧ q ≤ k ∧ i = .int .i64 k ∧ v = .slice A10 q c10 ∧ wr.ownsRow wy.heap.size 3 1 (.slice A10 q c10) q (ints S) ∧ (∀ z ∈ S, 0 ≤ z ∧ z ≤ (m3 : Int) - 1) ∧ Below wy.heap.size wy wr) (fun _ i _ => m8 - (intOf i).toNat)
          case atStart => exact ⟨0, 0, _, 0, [], Nat.zero_le _, Nat.le_refl _, rfl, rfl, hownS, fun z hz => by simp at hz, hbx⟩
          case round =>
            clear hownS hbx
            obtain ⟨k, q, A10, c10, S, hk, hqk, rfl, rfl, howS, hS, hTk⟩ := hrel
            have HS := Lib.hid hS
            clear hS
            have hT8k := below_next hT hTk rfl
            have hT7k := below_next hT7r hTk rfl
            by_cases hlk : k < m8
            · have hk0 : (0 : Int) ≤ (k : Int) := by omega
              have hk1 : (k : Int) < (m8 : Int) := by omega
              have hJr := own_next hJ8 hT8k
              obtain ⟨jb, rfl, -, -⟩ := own_form hJr (by omega)
              have hJl : J.length = m8 := by have := hJr.1; simpa [ints] using this
              have hu := HJ.out _ (List.getElem_mem (l := J) (n := k) (by omega))
              have hcj : wr.cell? ⟨jb, k, none⟩ = some (.int .i64 (J[k]'(by omega))) := by rw [hJr.cellAt k (by omega), ints, List.getElem?_map, List.getElem?_eq_getElem (by omega)]; rfl
              generalize J[k]'(by omega) = u at hu hcj
              obtain ⟨u', rfl⟩ := Int.eq_ofNat_of_zero_le hu.1
              have hu' : u' < m5 := by omega
              have kP := (BP7.next hT7k).cell 0
              simp at kP
              have hrk := hrv.next stab_RVI hT7k
              have hC : ∀ wz, Below wr.heap.size wr wz → Calls Try.prog 25 #[.agg #[.slice A2 m5 c2], .int .i64 (u' : Int), .int .i64 x] wz (Bl wz (.bool (hasI (u' : Int) (rowOf F x)))) := fun wz hz => l23Leq_any A2 m5 c2 F (u' : Int) x wz (hrk.next stab_RVI hz) hlx
              have Tk : Below wr.heap.size wr wr := Below.refl _ _
              go_upto_region 14 with fail
              go_cut [63] from 51 to 73 (fun u63 wx => ∃ bb : Bool, u63 = .bool bb ∧ Below wr.heap.size wr wx)
              case first =>
                go_region_held3 (fun w' => w'.cell? ⟨jb, k, none⟩ = some (.int .i64 (u' : Int)) ∧ w'.cell? ⟨w3.heap.size, 0, none⟩ = some (.slice A2 m5 c2)) (first | go_keep | exact ⟨keepP Tk hcj, keepP Tk kP⟩) (first
                  | (go_at_call 25; (with_reducible refine (hC _ ?_).mono ?_); (first | exact Tk | exact Below.drew Tk); rintro e wn ⟨rfl, hbn⟩; replace Tk := below_next (by first | exact Tk | exact Below.drew Tk) hbn rfl))
                all_goals
                  go_wp2_with fail
                  go_meet
                  exact ⟨_, rfl, by first | exact Tk | exact Below.drew Tk⟩
              case rest =>
                obtain ⟨bb, rfl, hTc⟩ := hcut
                obtain ⟨w10, HWC⟩ : ∃ wq : World, wq = wc := ⟨_, rfl⟩
                subst HWC
                have hcj2 := keepP hTc hcj
                have howS2 := own_next howS hTc
                have hTk2 := below_next hTk hTc rfl
                have hzk := hTk2.size
                have hownF := own_next ho57 (below_next hT7k hTc rfl)
                obtain ⟨fb, rfl, -, -⟩ := own_form hownF (by omega)
                have hLl : L.length = m5 := by have := hownF.1; simpa [ints] using this
                have hLu := HLI.out _ (List.getElem_mem (l := L) (n := u') (by omega))
                have hcf : w10.cell? ⟨fb, u', none⟩ = some (.int .i64 (L[u']'(by omega))) := by rw [hownF.cellAt u' (by omega), ints, List.getElem?_map, List.getElem?_eq_getElem (by omega)]; rfl
                generalize L[u']'(by omega) = z at hLu hcf
                have hu0 : (0 : Int) ≤ (u' : Int) := by omega
                have hu1 : (u' : Int) < (m5 : Int) := by omega
                clear hC Tk hrk kP howS hcj hJr hJl hownF hLl hu
                rcases bb with _ | _
                · go_wp2_with fail
                  go_roundw
                  case rel => exact ⟨k + 1, q, A10, c10, S, by omega, by omega, by go_num, rfl, howS2, HS.out, hTk2⟩
                  case measure => simp [intOf]; omega
                · go_wp2_with (at_builtin; refine app1 w10 rfl _ _ 27 3 rfl (.int .i64 0) 8 Try.underlying27 info_int rfl (by decide) wy.heap.size q c10 A10 (ints S) rfl howS2 (.int .i64 z) rfl rfl (by omega) hzk ?_; intro A11 c11 w11 hown11 hg11 hb11)
                  go_roundw
                  case rel => exact ⟨k + 1, q + 1, A11, c11, S ++ [z], by omega, by omega, by go_num, rfl, by rw [← ints_snocG]; exact hown11, fun v hv => by
                    rcases List.mem_append.1 hv with hv | hv
                    · exact HS.out v hv
                    · rw [List.mem_singleton.1 hv]; exact hLu, hTk2.trans hb11⟩
                  case measure => simp [intOf]; omega
            · obtain rfl : m8 = k := by omega
              have hk1 : ¬ (m8 : Int) < (m8 : Int) := by omega
              have kQ := (BQ7.next hT7k).cell 0
              simp at kQ
              have HD := Lib.hid (l23Dual_any A3 m3 c3 G wr (hqv.next stab_RVI hT7k) (by omega))
              have howO2 := own_next howO hTk
              clear howO
              go_wp2_with fail
              refine HD.out.mono ?_
              rintro e w10 ⟨A12, c12, rfl, hr10, hT10⟩
              have hS10 := rd_of_own (R := RI) (own_next howS hT10) (RI_ints fun y hy => by have := HS.out y hy; omega)
              have HBD := Lib.hid (l24Bound_any A12 A10 m3 c12 q c10 _ S w10 hr10 hS10 HS.out (by omega))
              have howO3 := own_next howO2 hT10
              clear hr10 hS10 howO2 HD
              go_wp2_with fail
              refine HBD.out.mono ?_
              rintro e w11 ⟨rfl, hT11⟩
              have howO4 := own_next howO3 hT11
              have hT811 := below_next (below_next hT8k hT10 rfl) hT11 rfl
              have hz11 := hT811.size
              obtain ⟨gv, HGV⟩ : ∃ gv, Hid (grI (leF (posTo m3 (duF (leF G)) m3)) (rowTo (alB (leF (posTo m3 (duF (leF G)) m3)) S) 0 m3) = gv) := ⟨_, rfl⟩
              have hgv : -1 ≤ gv ∧ gv ≤ 1000 := by rw [← HGV.out]; exact bound_bd (by omega) _ _ _
              rw [HGV.out]
              clear howO3 HBD
              go_wp2_with (at_builtin; refine app1 w11 rfl _ _ 27 3 rfl (.int .i64 0) 8 Try.underlying27 info_int rfl (by decide) w8.heap.size x c9 A9 (ints O) rfl howO4 (.int .i64 gv) rfl rfl (by omega) hz11 ?_; intro A13 c13 w13 hown13 hg13 hb13)
              go_roundw
              case rel => exact ⟨x + 1, A13, c13, O ++ [gv], by omega, by go_num, rfl, by rw [← ints_snocG]; exact hown13, fun v hv => by
                rcases List.mem_append.1 hv with hv | hv
                · exact HO.out v hv
                · rw [List.mem_singleton.1 hv]; exact hgv, hT811.trans hb13⟩
              case measure => simp [intOf]; omega
        · obtain rfl : m5 = x := by omega
          have hx1 : ¬ (m5 : Int) < (m5 : Int) := by omega
          have B8 := B7.next hT7r
          have C8 := C7.next hT7r
          have k8 := (BP7.next hT7r).cell 0
          have l8 := (BQ7.next hT7r).cell 0
          have kr := B8.cell 0
          have lr := C8.cell 0
          have fr := B8.frozen 0
          have fr2 := C8.frozen 0
          simp at k8 l8 kr lr
          have HFIN := Lib.hid (ua_fin (c := c2) (d := c3) (hr7.next stab_R2 hT7r) (fun b o e => by have := HHI.out b o e; omega) (hq7.next stab_R2 hT7r) (fun b o e => by have := HHJ.out b o e; omega) (Nat.le_refl _) hm12 hm13 howO (by omega) (fun z hz => by have := HO.out z hz; omega) (by omega) ((hT1.grown hg17 hz1' (fun r hr => by injection hr with hr; omega)).trans (hT7r.mono (by omega))))
          have B9 := (B8.set_ 0 (.slice A2 m5 c2)).far (p := ⟨w.heap.size + 1, 0, none⟩) (by show w.heap.size ≠ w.heap.size + 1; omega) (.slice A3 m3 c3)
          have C9 := (C8.far (p := ⟨w.heap.size, 0, none⟩) (by show w.heap.size + 1 ≠ w.heap.size; omega) (.slice A2 m5 c2)).set_ 0 (.slice A3 m3 c3)
          clear howO hr7 hq7 hrv hqv
          go_wp2_with fail
          go_region
          go_wp2
          (try simp only [Exit.inBlock, Exit.then])
          refine bodyPost_ret (v := .tuple #[.agg #[.slice A2 m5 c2], .agg #[.slice A3 m3 c3], .slice A9 m5 c9]) (results_row2_tmp rfl _ _ w.heap.size (w.heap.size + 1) 26 #[.slice A2 m5 c2] #[.slice A3 m3 c3] (0, 0) (0, 0) _ _ (by simp) B9 (by simp) C9 Try.underlying26 rfl (by kernel_rfl) (by kernel_rfl) (by simp)) rfl ?_
          exact HFIN.out.drew
end Go.Proofs.Ytlncpabnlnipoaa
