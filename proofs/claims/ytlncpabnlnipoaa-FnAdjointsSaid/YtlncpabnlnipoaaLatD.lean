
/- Walks: drawn lattices. -/
import Derived.Test.YtlncpabnlnipoaaDrawM
import Derived.Test.YtlncpabnlnipoaaKn24
namespace Go.Proofs.Ytlncpabnlnipoaa
open Go.RowKit

theorem RG2.low {g q q' : Nat} {w : World} {v : Value} {xs : List Int} (h : RG2 g q w v xs) (hq : q' ≤ q) : RG2 g q' w v xs := by
  obtain ⟨A, n, c, e, h1, h2, h3⟩ := h
  exact ⟨A, n, c, e, h1, h2, fun b o e => by have := h3 b o e; omega⟩
theorem r2_low {g q q' n : Nat} {w : World} {A : Option Addr} {F : List (List Int)} (h : RdL (RG2 g q) w A n F) (hq : q' ≤ q) : RdL (RG2 g q') w A n F :=
  ⟨h.1, h.2.1, fun k x hk => by
    obtain ⟨b, o, v, e, hc, hr⟩ := h.2.2 k x hk
    exact ⟨b, o, v, e, hc, hr.low hq⟩⟩
/-- The world while a drawn lattice is renamed. -/
def LatW (B g t q pb n lo : Nat) (w0 wx : World) : Prop := ∃ (A : Option Addr) (c : Nat) (F : List (List Int)), Blk wx pb 26 #[.slice A n c] ∧ Blk wx q 26 #[.slice none 0 0] ∧ OwM 27 3 (.int .i64) lo wx (.slice A n c) n F ∧ (∀ p ∈ F, p.length ≤ 9 ∧ ∀ x ∈ p, 0 ≤ x ∧ x ≤ 9) ∧ CurB B wx g t ∧ w0.grownBy wx (some g)
set_option linter.unusedVariables false in
set_option maxRecDepth 20000 in
set_option maxHeartbeats 8000000 in
theorem lattice_any (B g t : Nat) (w : World) (h : CurB B w g t) (hB : B ≤ w.heap.size) (ht : t ≤ 999970000) :
    Calls Try.prog 19 #[.pointer (some ⟨g, 0, none⟩)] w (PsD B w g (t + 300)) := by
  have hgl := h.lt
  obtain ⟨w0, HW0⟩ : ∃ wb, Hid (wb = w.alloc (.cells #[.slice none 0 0] 26)) := ⟨_, rfl⟩
  have hb0 : Below w.heap.size w w0 := by rw [HW0.out]; exact below_box _ _
  have B0 : Blk w0 w.heap.size 26 #[.slice none 0 0] := by rw [HW0.out]; exact Blk.new _ _ _
  have hs0 : w0.heap.size = w.heap.size + 1 := by rw [HW0.out]; simp
  have hc0 := h.next_ hb0
  have H1 := Lib.hid (oneB_any g t 10 w0 hc0 (by omega) (by omega))
  go_enter Try.func19, Try.ntmps19
  go_wp2_with fail
  rw [← HW0.out]
  refine H1.out.mono ?_
  rintro e w1 ⟨bb, rfl, hc1, hg1⟩
  have hz1 := hg1.size
  have B1 := B0.grown hg1 (fun e => by injection e with e; omega)
  clear H1 hc0
  rcases bb with _ | _
  · have HPK := Lib.hid (pickB_any g (t + 2) 12 w1 hc1 (by omega) (by omega))
    go_wp2_with fail
    refine HPK.out.mono ?_
    rintro e w2 ⟨k, hk, rfl, hc2, hg2⟩
    have hg02 := growB_trans hg1 hg2
    have HKN := Lib.hid (l24Known_any k w2)
    clear HPK hk hc1
    go_wp2_with fail
    refine HKN.out.mono ?_
    rintro e w3 ⟨A3, n, c3, F, rfl, hn9, hM3, hF, hT3⟩
    have HF := Lib.hid hF
    have hc3 := hc2.next_ hT3
    have hg03 := growB_trans hg02 (toGr (r := some g) hT3)
    have hz2 := hg02.size
    have hg2l := hc2.lt
    clear hF hc2 HKN
    obtain ⟨w4, HW4⟩ : ∃ wb, Hid (wb = w3.alloc (.cells #[.slice A3 n c3] 26)) := ⟨_, rfl⟩
    have hb4 : Below w3.heap.size w3 w4 := by rw [HW4.out]; exact below_box _ _
    have B4 : Blk w4 w3.heap.size 26 #[.slice A3 n c3] := by rw [HW4.out]; exact Blk.new _ _ _
    have hM4 := hM3.next hb4
    have hc4 := hc3.next_ hb4
    have hg04 := growB_trans hg03 (toGr (r := some g) hb4)
    have HG3 : Hid (g < w3.heap.size) := by show g < w3.heap.size; have := hT3.size; omega
    have hb24 : Below w2.heap.size w2 w4 := below_next hT3 hb4 rfl
    have k4 := B4.cell 0
    simp at k4
    rw [HW4.out] at k4
    have HNM := Lib.hid (names2_any B g (t + 2 + 2) n w4 hc4 (by have := hg04.size; omega) (by omega) (by omega))
    clear hM3 hc3 hg03 hb4
    go_wp2_with fail
    rw [← HW4.out]
    refine HNM.out.mono ?_
    rintro e w5 ⟨A5, m5, c5, L, rfl, hown5, hL, hm5, hc5, hg5⟩
    have hg05 := growB_trans hg04 hg5
    have hM5 := hM4.grownI hg5 (by omega)
    have hP5 := B4.grown hg5 (fun e => by injection e with e; have := hc4.lt; have := HG3.out; omega)
    have hR5 := (B1.grown (growB_trans hg2 (toGr (r := some g) hb24)) (fun e => by injection e with e; omega)).grown hg5 (fun e => by injection e with e; omega)
    have hrd5 := rd_of_own (R := RI) hown5 (RI_ints fun y hy => by have := hL y hy; omega)
    have HOWN := Lib.hid hown5
    have hgw4 := hc4.lt
    have hsz := hg05.size
    clear hM4 B4 hg04 hg5 hc4 HNM hL hown5 k4
    go_upto_region 6 with fail
    go_cut [27] from 21 to 26 (fun u27 wx => ∃ bb : Bool, u27 = .bool bb ∧ Hid (bb = true → m5 = n ∧ ∀ x ∈ L, 0 ≤ x ∧ x < (n : Int)) ∧ CurB B wx g (t + 40) ∧ w5.grownBy wx (some g))
    case first =>
      have HPM := Lib.hid (l2Perm_any A5 m5 c5 n L w5 hrd5 (by omega))
      go_wp2_with fail
      refine HPM.out.mono ?_
      rintro e w6 ⟨b, rfl, hb, hT6⟩
      have HB := Lib.hid hb
      have hc6 := hc5.next_ hT6
      clear hb HPM
      rcases b with _ | _
      · go_wp2_with fail
        go_meet
        exact ⟨false, rfl, (fun h => by cases h), hc6.mono (by omega), toGr hT6⟩
      · go_wp2_with fail
        refine (oneB_any g (t + 2 + 2 + 2 * n + 10) 2 w6 hc6 (by omega) (by omega)).mono ?_
        rintro e w7 ⟨bb, rfl, hc7, hg7⟩
        go_wp2_with fail
        go_meet
        exact ⟨bb, rfl, (fun _ => HB.out (by first | rfl | trivial)), hc7.mono (by omega), growB_trans (toGr hT6) hg7⟩
    case rest =>
      obtain ⟨bb, rfl, HBB, hc6, hg6⟩ := hcut
      obtain ⟨w6, HWC⟩ : ∃ wq : World, wq = wc := ⟨_, rfl⟩
      subst HWC
      have hM6 := hM5.grownI hg6 (by omega)
      have hP6 := hP5.grown hg6 (fun e => by injection e with e; have := HG3.out; omega)
      have hR6 := hR5.grown hg6 (fun e => by injection e with e; omega)
      have hown6 := own_grownG HOWN.out hg6 hgw4
      have hg06 := growB_trans hg05 hg6
      clear hM5 hP5 hR5 hg05 hc5 hrd5 HOWN hg6
      have HLW : Hid (LatW B g (t + 40) w.heap.size w3.heap.size n w2.heap.size w0 w6) := ⟨A3, c3, F, hP6, hR6, hM6, HF.out, hc6, hg06⟩
      go_upto_if 27 with fail
      go_cut [6, 7] from 27 to 58 (fun _ _ wx => LatW B g (t + 40) w.heap.size w3.heap.size n w2.heap.size w0 wx)
      case first =>
        rcases bb with _ | _
        · go_wp2_with fail
          go_meet
          exact HLW.out
        · obtain ⟨rfl, hLn⟩ := HBB.out (by first | rfl | trivial)
          have HLN := Lib.hid hLn
          have hMr := hM6.rd (R := RI) (fun p hp x hx => by have := (HF.out p hp).2 x hx; exact ⟨rfl, by omega, by omega⟩)
          have HPR := Lib.hid (l23Pairs_any A3 m5 c3 F w6 hMr (by omega))
          have k6 := hP6.cell 0
          simp at k6
          have hz36 : w3.heap.size < w6.heap.size := hP6.lt
          have hzw6 := hg06.size
          have hg6l : g < w6.heap.size := by have := HG3.out; omega
          clear hLn hMr HLW hM6
          go_wp2_with fail
          refine HPR.out.mono ?_
          rintro e w7 ⟨A7, m7, c7, rfl, hPr, hm7, hT7⟩
          have hm81 : m7 ≤ 81 := Nat.le_trans hm7 (Nat.mul_le_mul hn9 hn9)
          have hc7 := hc6.next_ hT7
          have hown7 := own_next hown6 hT7
          have hP7 := hP6.next hT7
          have hR7 := hR6.next hT7
          have hg07 := growB_trans hg06 (toGr (r := some g) hT7)
          have hz7 := hT7.size
          clear hc6 hown6 hP6 hR6 hg06 HPR k6
          go_wp2_with fail
          go_loopw [7] (fun i wr => ∃ q : Nat, q ≤ m7 ∧ i = .int .i64 q ∧ OwPr w6.heap.size m5 wr (.slice A7 m7 c7) m7 ∧ wr.ownsRow w4.heap.size 3 1 (.slice A5 m5 c5) m5 (ints L) ∧ Blk wr w3.heap.size 26 #[.slice A3 m5 c3] ∧ Blk wr w.heap.size 26 #[.slice none 0 0] ∧ CurB B wr g (t + 40) ∧ w0.grownBy wr (some g) ∧ w6.heap.size ≤ wr.heap.size) (fun i _ => m7 - (intOf i).toNat)
          case atStart => exact ⟨0, Nat.zero_le _, rfl, hPr, hown7, hP7, hR7, hc7, hg07, hz7⟩
          case round =>
            clear hPr hown7 hP7 hR7 hc7 hg07
            obtain ⟨q, hq, rfl, hP, hown, hPB, hRB, hc, hg, hz⟩ := hrel
            by_cases hlq : q < m7
            · have hq0 : (0 : Int) ≤ (q : Int) := by omega
              have hq1 : (q : Int) < (m7 : Int) := by omega
              obtain ⟨pb, x, y, rfl, hlo, hpl, hx, hy, hcx, hcy, hfx, hfy, hset⟩ := hP.get hlq
              obtain ⟨nb, rfl, hlon, -⟩ := own_form hown (by omega)
              have hLl : L.length = m5 := by have := hown.1; simpa [ints] using this
              have hx2 := HLN.out _ (List.getElem_mem (l := L) (n := x) (by omega))
              have hy2 := HLN.out _ (List.getElem_mem (l := L) (n := y) (by omega))
              obtain ⟨x', ex⟩ := Int.eq_ofNat_of_zero_le hx2.1
              obtain ⟨y', ey⟩ := Int.eq_ofNat_of_zero_le hy2.1
              have hnx : wr.cell? ⟨nb, x, none⟩ = some (.int .i64 (x' : Nat)) := by rw [hown.cellAt x (by omega), ints, List.getElem?_map, List.getElem?_eq_getElem (by omega), ex]; rfl
              have hny : wr.cell? ⟨nb, y, none⟩ = some (.int .i64 (y' : Nat)) := by rw [hown.cellAt y (by omega), ints, List.getElem?_map, List.getElem?_eq_getElem (by omega), ey]; rfl
              have hx0 : (0 : Int) ≤ (x : Int) := by omega
              have hx1 : (x : Int) < (m5 : Int) := by omega
              have hy0 : (0 : Int) ≤ (y : Int) := by omega
              have hy1 : (y : Int) < (m5 : Int) := by omega
              have HSET := Lib.hid (hset x' y' (by omega) (by omega))
              have hnp : nb ≠ pb := by
                obtain ⟨ps, hps, -⟩ := hP
                exact fun e => own_ne hown hps (by decide) rfl (by rw [e]; rfl)
              have hG : wr.grownBy (((wr.setCell ⟨pb, q * 2, none⟩ (.int .i64 x')).setCell ⟨pb, q * 2 + 1, none⟩ (.int .i64 y')).drew) (some pb) := growB_trans (grown_setB (g := pb) (p := ⟨pb, q * 2 + 1, none⟩) (grown_setB (g := pb) (p := ⟨pb, q * 2, none⟩) (grown_reflB wr _) rfl _) rfl _) (toGr (Below.drew (Below.refl _ _)))
              have hownN := own_same hown fun b hv => hG.block b (hown.lt b hv).2 (fun e => hnp (by injection hv with hv; injection e with e; exact hv.trans e))
              have hcN := hc.grown hG fun r hr => by injection hr with hr; omega
              have hgN := growB_own hg hG fun r hr => by injection hr with hr; omega
              have hPN := hPB.grown hG (fun e => by injection e with e; omega)
              have hRN := hRB.grown hG (fun e => by injection e with e; omega)
              have hzN := Nat.le_trans hz hG.size
              have HALL := Lib.hid (And.intro hownN (And.intro hPN (And.intro hRN (And.intro hcN (And.intro hgN hzN)))))
              clear hset hP ex ey hx2 hy2 hLl hG hownN hcN hgN hown hc hg hPN hRN hPB hRB hzN
              go_wp2_with fail
              go_region
              go_wp2_with fail
              go_roundw
              case rel => exact ⟨q + 1, by omega, by go_num, HSET.out.next (Below.drew (Below.refl _ _)), HALL.out.1, HALL.out.2.1, HALL.out.2.2.1, HALL.out.2.2.2.1, HALL.out.2.2.2.2.1, HALL.out.2.2.2.2.2⟩
              case measure => simp [intOf]; omega
            · obtain rfl : m7 = q := by omega
              have hq1 : ¬ (m7 : Int) < (m7 : Int) := by omega
              have HL23 := Lib.hid (l23From_any m5 m7 c7 A7 wr (hP.rd (by omega)) (by omega))
              clear hP hown
              go_wp2_with fail
              refine HL23.out.mono ?_
              rintro e w8 ⟨A8, c8, G, rfl, hM8, hG8, hT8⟩
              have hP8 := hPB.next hT8
              have hR8 := hRB.next hT8
              have k8 := hP8.cell 0
              have f8 := hP8.frozen 0
              simp at k8
              have hGs : w8.grownBy (w8.setCell ⟨w3.heap.size, 0, none⟩ (.slice A8 m5 c8)) (some w3.heap.size) := grown_setB (g := w3.heap.size) (p := ⟨w3.heap.size, 0, none⟩) (grown_reflB w8 _) rfl _
              have hz3w : w.heap.size < w3.heap.size := by have := hT3.size; omega
              have HLW : Hid (LatW B g (t + 40) w.heap.size w3.heap.size m5 w2.heap.size w0 (w8.setCell ⟨w3.heap.size, 0, none⟩ (.slice A8 m5 c8))) := ⟨A8, c8, G, hP8.set_ 0 _, hR8.far (p := ⟨w3.heap.size, 0, none⟩) (by show w.heap.size ≠ w3.heap.size; omega) _, (hM8.far hP8 (by decide) (by decide) 0 _).mono (by have := hT3.size; omega), fun p hp => ⟨by have := (hG8 p hp).1; omega, fun x hx => by have := (hG8 p hp).2 x hx; omega⟩, (hc.next_ hT8).grown hGs (fun r hr => by injection hr with hr; have := HG3.out; omega), growB_own (growB_trans hg (toGr hT8)) hGs (fun r hr => by injection hr with hr; have := hT3.size; omega)⟩
              clear hM8 hG8 hc hg hPB hRB hP8 hR8 hGs
              go_wp2_with fail
              go_meet
              exact HLW.out
      case rest =>
        obtain ⟨A7, c7, F7, hP7, hR7, hM7, hF7, hc7, hg7⟩ := hcut
        obtain ⟨w7, HWC⟩ : ∃ wq : World, wq = wc := ⟨_, rfl⟩
        subst HWC
        obtain ⟨A8, c8, e8, -, hog, hoq, hr⟩ := hM7.toR2 (g := g) (q := w.heap.size) (by omega) (by omega) (fun p hp x hx => by have := (hF7 p hp).2 x hx; omega)
        injection e8 with e1 _ e3
        subst e1
        subst e3
        have HFIN := Lib.hid (ps_fin (c := c7) hb0 hg7 hgl hB hr hog hoq (by omega) (fun p hp => by have := (hF7 p hp).1; omega) (hc7.mono (by omega : _ ≤ t + 300)))
        clear hr hM7 hF7 HLW hM6 hP6 hR6 hown6
        have kR := hR7.cell 0
        have fR := hR7.frozen 0
        have kP := hP7.cell 0
        simp at kR kP
        go_wp2
        (try simp only [Exit.inBlock, Exit.then])
        refine bodyPost_ret (v := .agg #[.slice A7 n c7]) (results_cell_row rfl _ _ w.heap.size 26 #[.slice A7 n c7] (0, 0) _ (by simp) (hR7.set_ 0 _) Try.underlying26 rfl (by kernel_rfl)) rfl ?_
        exact HFIN.out
  · have HPS := Lib.hid (poset_any B g (t + 2) w1 hc1 (by omega) (by omega))
    go_wp2_with fail
    refine HPS.out.mono ?_
    rintro e w2 ⟨A2, m2, c2, F, rfl, hr, hog, hhi, hm12, hF, hc2, hg2⟩
    have B2 := B1.grown hg2 (fun e => by injection e with e; omega)
    have HFIN := Lib.hid (ps_fin (c := c2) hb0 (growB_trans hg1 hg2) hgl hB (r2_low hr (by omega)) hog (fun b o e => by have := hhi b o e; omega) hm12 hF (hc2.mono (by omega : _ ≤ t + 300)))
    clear hr hF
    have kR := B2.cell 0
    have fR := B2.frozen 0
    simp at kR
    go_wp2
    (try simp only [Exit.inBlock, Exit.then])
    refine bodyPost_ret (v := .agg #[.slice A2 m2 c2]) (results_cell_row rfl _ _ w.heap.size 26 #[.slice A2 m2 c2] (0, 0) _ (by simp) (B2.set_ 0 _) Try.underlying26 rfl (by kernel_rfl)) rfl ?_
    exact HFIN.out
end Go.Proofs.Ytlncpabnlnipoaa
