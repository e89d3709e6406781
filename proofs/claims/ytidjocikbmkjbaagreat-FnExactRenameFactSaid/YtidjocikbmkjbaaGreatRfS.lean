
/- Walks: sort.Ints over a row of the call's own; renameFact in the program. -/
import Derived.Test.YtidjocikbmkjbaaGreatRfC
import Derived.Test.YtidjocikbmkjbaaGreatShelf
import Derived.Sort.OwnSortedInts
namespace Go.Proofs.YtidjocikbmkjbaaGreat
open Go.RowKit
set_option linter.unusedVariables false
set_option linter.unusedSimpArgs false

def srt (xs : List Int) : List Int := xs.mergeSort fun x y => decide (x ≤ y)
theorem srt_len (xs : List Int) : (srt xs).length = xs.length := List.length_mergeSort _
theorem sortInts_any (base n c : Nat) (A : Option Addr) (xs : List Int) (w : World) (h : w.ownsRow base 3 1 (.slice A n c) n (ints xs)) (hn : n ≤ 1000) :
    Calls Tryz.prog 68 #[.slice A n c] w fun e w' => e = .returned (.tuple #[]) ∧ w'.ownsRow base 3 1 (.slice A n c) n (ints (srt xs)) ∧ w.grownBy w' (Value.slice A n c).ownBlock := by
  have h0 := h
  obtain ⟨h1, h2⟩ := h
  rw [ints_len] at h1
  rcases h2 with ⟨h2, h3⟩ | ⟨g, cap, cur, hv, hb, hg, hnc, hcm, hcs, ht⟩
  · injection h2 with e1 e2 e3
    subst e1
    subst e2
    have hx : xs = [] := List.length_eq_zero_iff.1 (by omega)
    subst hx
    refine (Tryz.sort_Ints_none none c w).mono ?_
    rintro e w' ⟨rfl, rfl⟩
    exact ⟨rfl, by rw [show srt [] = [] by simp [srt]]; exact h0, ⟨rfl, rfl, rfl, Nat.le_refl _, fun _ _ _ => rfl⟩⟩
  · injection hv with e1 e2 e3
    subst e1
    subst e3
    have hl : xs.length = n := by omega
    subst hl
    refine (Tryz.sort_Ints g 0 c xs w (holds_of_blockI hg (by rw [Nat.mul_one] at ht; exact ht)) (Array.getElem?_eq_some_iff.1 hg).1 (by omega)).mono ?_
    rintro e w' ⟨rfl, m, os, rfl⟩
    exact ⟨rfl, ownsRow_sortedI (srt_len xs) hb hg hnc hcm hcs, grownBy_sortedI _⟩
set_option maxRecDepth 20000 in
set_option maxHeartbeats 16000000 in
theorem renameFact_any (k : Int) (AL : Option Addr) (nL cL : Nat) (AR : Option Addr) (nR cR : Nat) (AV : Option Addr) (nV cV : Nat) (AS : Option Addr) (n cS : Nat) (L R V s : List Int) (w : World) (hL : RdL RI w AL nL L) (hR : RdL RI w AR nR R) (hV : RdL RI w AV nV V) (hS : RdL RI w AS n s)
    (hp : PermL n s) (hn : n ≤ 1000) (h1 : nL ≤ 1048576) (h2 : nR ≤ 1048576) (h3 : nV ≤ 1000) (hVi : InL n V) (hk : 1 ≤ k ∧ k ≤ 6) (hk1 : k = 1 → V = []) (h35 : k = 3 ∨ k = 5 → V.Nodup) (h46 : k = 4 ∨ k = 6 → V.length = n) :
    Calls Tryz.prog 30 #[.agg #[.int .i64 k, .slice AL nL cL, .slice AR nR cR, .slice AV nV cV], .slice AS n cS] w (CfE w (k, (L, R), rfL k V s)) := by
  obtain rfl : L.length = nL := hL.len
  obtain rfl : R.length = nR := hR.len
  obtain ⟨nL, HNL⟩ : ∃ n, Hid (L.length = n) := ⟨_, rfl⟩
  obtain ⟨nR, HNR⟩ : ∃ n, Hid (R.length = n) := ⟨_, rfl⟩
  obtain ⟨X, HX⟩ : ∃ X, Hid (rfL k V s = X) := ⟨_, rfl⟩
  obtain ⟨nX, HNX⟩ : ∃ q, Hid (X.length = q) := ⟨_, rfl⟩
  rw [HX.out]
  unfold CfE
  simp only
  rw [HNX.out]
  rw [HNL.out] at hL h1 ⊢
  rw [HNR.out] at hR h2 ⊢
  have hsl : s.length = n := hp.1
  obtain ⟨w0, hw0, T0, hsz0, BP, BQ⟩ := boxes2 w #[.int .i64 k, .slice AL nL cL, .slice AR nR cR, .slice AV nV cV] #[.int .i64 0, .slice none 0 0, .slice none 0 0, .slice none 0 0] 34 34
  have HW0 := Lib.hid hw0
  have HCF : Hid (Calls Tryz.prog 65 #[.agg #[.int .i64 k, .slice AL nL cL, .slice AR nR cR, .slice AV nV cV]] w0 fun e w' => ∃ A1 c1 A2 c2 A3 c3, e = .returned (.agg #[.int .i64 k, .slice A1 nL c1, .slice A2 nR c2, .slice A3 nV c3]) ∧ w'.ownsRow w0.heap.size 3 1 (.slice A1 nL c1) nL (ints L) ∧ w'.ownsRow w0.heap.size 3 1 (.slice A2 nR c2) nR (ints R) ∧ w'.ownsRow w0.heap.size 3 1 (.slice A3 nV c3) nV (ints V) ∧ Apart (.slice A1 nL c1) (.slice A2 nR c2) ∧ Apart (.slice A1 nL c1) (.slice A3 nV c3) ∧ Apart (.slice A2 nR c2) (.slice A3 nV c3) ∧ Below w0.heap.size w0 w') := by
    have := cloneFact_any k AL nL cL AR nR cR AV nV cV L R V w0 (hL.next stab_RI T0) (hR.next stab_RI T0) (hV.next stab_RI T0) h1 h2 (by omega)
    unfold CfE at this
    simp only at this
    rw [HNL.out, HNR.out, hV.len] at this
    exact this
  have HVR : Hid (∀ wz, Below w0.heap.size w0 wz → RdL RI wz AV nV V) := fun wz hz => (hV.next stab_RI T0).next stab_RI hz
  have HSR : Hid (∀ wz, Below w0.heap.size w0 wz → RdL RI wz AS n s) := fun wz hz => (hS.next stab_RI T0).next stab_RI hz
  have HP := Lib.hid hp
  have HVI := Lib.hid hVi
  have HVL := Lib.hid hV.len
  have HK1 := Lib.hid hk1
  have H35 := Lib.hid h35
  have H46 := Lib.hid h46
  have HSL := Lib.hid hsl
  have cP0 := BP.cell 0
  have cP1 := BP.cell 1
  have cP2 := BP.cell 2
  have cP3 := BP.cell 3
  simp at cP0 cP1 cP2 cP3
  have hs0 : w.heap.size + 1 < w0.heap.size := by omega
  have HT0 := Lib.hid T0
  clear hw0 hsz0 hL hR hV hS hp hVi hk1 h35 h46 hsl T0
  go_enter Tryz.func30, Tryz.ntmps30
  go_upto_region 1 with fail
  rw [← HW0.out]
  go_wp2_with fail
  refine HCF.out.mono ?_
  rintro e w1 ⟨A1, c1, A2, c2, A3, c3, rfl, ho1, ho2, ho3, ha12, ha13, ha23, hb1⟩
  have HO := Lib.hid (And.intro ho1 (And.intro ho2 ha12))
  have HO3 := Lib.hid (And.intro ho3 (And.intro ha13 ha23))
  have hz1 := hb1.size
  obtain ⟨w2, hw2⟩ : ∃ wb, wb = w1.alloc (.cells #[.int .i64 k, .slice A1 nL c1, .slice A2 nR c2, .slice A3 nV c3] 34) := ⟨_, rfl⟩
  have hb12 : Below w1.heap.size w1 w2 := by rw [hw2]; exact below_box _ _
  have BG2 : Blk w2 w1.heap.size 34 #[.int .i64 k, .slice A1 nL c1, .slice A2 nR c2, .slice A3 nV c3] := by rw [hw2]; exact Blk.new _ _ _
  have HW2 := Lib.hid hw2
  have T2 := below_next hb1 hb12 rfl
  have HINV := Lib.hid (inverse_any AS n cS s w2 (HSR.out w2 T2) HP.out hn)
  clear hw2 ho1 ho2 ho3 ha12 ha13 ha23
  have hli : (inv n s).length = n := (inv_perm HP.out).1
  have HLI := Lib.hid hli
  go_upto_region 2 with fail
  rw [← HW2.out]
  go_wp2_with fail
  refine HINV.out.mono ?_
  rintro e w3 ⟨A4, c4, rfl, ho4, hb3⟩
  rw [HLI.out] at ho4 ⊢
  have T3 := below_next T2 hb3 rfl
  have Tg3 := below_next hb12 hb3 rfl
  have BG3 := BG2.next hb3
  have hz3 := T3.size
  have hz13 := Tg3.size
  have hg1 : w1.heap.size < w3.heap.size := BG3.lt
  replace cP0 := keepc T3 cP0
  replace cP1 := keepc T3 cP1
  replace cP2 := keepc T3 cP2
  replace cP3 := keepc T3 cP3
  have HR4 : Hid (∀ wz, Below w3.heap.size w3 wz → RdL RI wz A4 n (inv n s)) := fun wz hz => (rd_of_own (R := RI) ho4 (RI_ints fun v hv => by have := inv_in HP.out v hv; omega)).next stab_RI hz
  have gC0 := BG3.cell 0
  have gC1 := BG3.cell 1
  have gC2 := BG3.cell 2
  have gC3 := BG3.cell 3
  simp at gC0 gC1 gC2 gC3
  have gF3 := BG3.frozen 3
  clear hb12 BG2 ho4 hli
  obtain rfl | rfl | rfl | rfl | rfl | rfl : k = 1 ∨ k = 2 ∨ k = 3 ∨ k = 4 ∨ k = 5 ∨ k = 6 := by omega
  · -- kind 1
    have HXV : Hid (V = X) := by show _ = _; rw [← HX.out]; exact (by unfold rfL; simp)
    obtain ⟨wc, HWC⟩ : ∃ wc : World, wc = w3 := ⟨_, rfl⟩
    subst HWC
    have hnx : nX = nV := by rw [← HNX.out, ← HXV.out, HVL.out]
    subst hnx
    obtain ⟨A5, hA5⟩ : ∃ a, a = A3 := ⟨_, rfl⟩
    subst hA5
    obtain ⟨c5, hc5⟩ : ∃ a, a = c3 := ⟨_, rfl⟩
    subst hc5
    have Tk := T3
    have Tg := Tg3
    have BG := BG3
    have ho5 := own_next HO3.out.1 Tg3
    rw [HXV.out] at ho5
    have ha15 := HO3.out.2.1
    have ha25 := HO3.out.2.2
    have BR := BQ.next Tk
    have cG0 := BG.cell 0
    have cG1 := BG.cell 1
    have cG2 := BG.cell 2
    have cG3 := BG.cell 3
    have cR0 := BR.cell 0
    have cR1 := BR.cell 1
    have cR2 := BR.cell 2
    have cR3 := BR.cell 3
    simp at cG0 cG1 cG2 cG3 cR0 cR1 cR2 cR3
    have fR0 := BR.frozen 0
    have fR1 := BR.frozen 1
    have fR2 := BR.frozen 2
    have fR3 := BR.frozen 3
    obtain ⟨wf, HWF⟩ : ∃ wf, Hid (wf = (((wc.setCell ⟨w.heap.size + 1, 0, none⟩ (.int .i64 1)).setCell ⟨w.heap.size + 1, 1, none⟩ (.slice A1 nL c1)).setCell ⟨w.heap.size + 1, 2, none⟩ (.slice A2 nR c2)).setCell ⟨w.heap.size + 1, 3, none⟩ (.slice A5 nX c5)) := ⟨_, rfl⟩
    have BRR : Blk wf (w.heap.size + 1) 34 #[.int .i64 1, .slice A1 nL c1, .slice A2 nR c2, .slice A5 nX c5] := by rw [HWF.out]; simpa using (((BR.set_ 0 (.int .i64 1)).set_ 1 (.slice A1 nL c1)).set_ 2 (.slice A2 nR c2)).set_ 3 (.slice A5 nX c5)
    have far : ∀ {v : Value} {n : Nat} {xs : List Value}, wc.ownsRow w0.heap.size 3 1 v n xs → wf.ownsRow w0.heap.size 3 1 v n xs := fun h => by
      rw [HWF.out]
      exact own_setF (own_setF (own_setF (own_setF h (by exact hs0)) (by exact hs0)) (by exact hs0)) (by exact hs0)
    have HO1 := Lib.hid (far (own_next (HO.out).1 Tg))
    have HO2 := Lib.hid (far (own_next (HO.out).2.1 Tg))
    have HO3 := Lib.hid (far ho5)
    have HTT : Hid (Below w.heap.size w wf) := by
      show Below _ _ _
      rw [HWF.out]
      exact ((((below_next HT0.out Tk rfl).setCell (p := ⟨w.heap.size + 1, 0, none⟩) (show w.heap.size ≤ w.heap.size + 1 by omega) _).setCell (p := ⟨w.heap.size + 1, 1, none⟩) (show w.heap.size ≤ w.heap.size + 1 by omega) _).setCell (p := ⟨w.heap.size + 1, 2, none⟩) (show w.heap.size ≤ w.heap.size + 1 by omega) _).setCell (p := ⟨w.heap.size + 1, 3, none⟩) (show w.heap.size ≤ w.heap.size + 1 by omega) _
    have HAP := Lib.hid (And.intro ha15 ha25)
    clear ho5 BR far ha15 ha25
    go_wp2_with fail
    rw [← HWF.out]
    (try simp only [Exit.inBlock, Exit.then])
    refine bodyPost_ret (v := .agg #[.int .i64 1, .slice A1 nL c1, .slice A2 nR c2, .slice A5 nX c5]) (results_cell_row rfl _ _ (w.heap.size + 1) 34 #[.int .i64 1, .slice A1 nL c1, .slice A2 nR c2, .slice A5 nX c5] (0, 0) _ (by simp) BRR Tryz.underlying34 rfl (by kernel_rfl)) rfl ?_
    exact ⟨A1, c1, A2, c2, A5, c5, rfl, own_mono HO1.out HT0.out.size, own_mono HO2.out HT0.out.size, own_mono HO3.out HT0.out.size, (HO.out).2.2, HAP.out.1, HAP.out.2, HTT.out⟩
  · -- kind 2
    have HXV : Hid (comp V s = X) := by show _ = _; rw [← HX.out]; unfold rfL; simp
    go_wp2_with fail
    refine (compose_any AV AS nV cV n cS V s w3 (HVR.out w3 T3) (HSR.out w3 T3) HVI.out h3).mono ?_
    rintro e w5 ⟨A5, c5, rfl, hoX, hb5⟩
    rw [HXV.out, HNX.out] at hoX
    rw [HXV.out, HNX.out]
    have T5 := below_next T3 hb5 rfl
    have Tg5 := below_next Tg3 hb5 rfl
    have BG5 := BG3.next hb5
    obtain ⟨wc, hwc⟩ : ∃ wc, wc = w5.setCell ⟨w1.heap.size, 3, none⟩ (.slice A5 nX c5) := ⟨_, rfl⟩
    have HWC := Lib.hid hwc
    have Tk : Below w0.heap.size w0 wc := by rw [hwc]; exact T5.setCell (p := ⟨w1.heap.size, 3, none⟩) (by exact hz1) _
    have Tg : Below w1.heap.size w1 wc := by rw [hwc]; exact Tg5.setCell (p := ⟨w1.heap.size, 3, none⟩) (Nat.le_refl _) _
    have BG : Blk wc w1.heap.size 34 #[.int .i64 2, .slice A1 nL c1, .slice A2 nR c2, .slice A5 nX c5] := by rw [hwc]; simpa using BG5.set_ 3 (.slice A5 nX c5)
    have ho5 : wc.ownsRow w0.heap.size 3 1 (.slice A5 nX c5) nX (ints X) := by rw [hwc]; exact own_mono (own_setF (p := ⟨w1.heap.size, 3, none⟩) hoX (by exact hg1)) hz3
    have ha15 : Apart (.slice A1 nL c1) (.slice A5 nX c5) := apart_new HO.out.1 hoX hz13
    have ha25 : Apart (.slice A2 nR c2) (.slice A5 nX c5) := apart_new HO.out.2.1 hoX hz13
    have gG := BG5.cell 3
    simp at gG
    have gF := BG5.frozen 3
    clear hwc hoX
    go_upto_region 14 with fail
    rw [← HWC.out]
    have BR := BQ.next Tk
    have cG0 := BG.cell 0
    have cG1 := BG.cell 1
    have cG2 := BG.cell 2
    have cG3 := BG.cell 3
    have cR0 := BR.cell 0
    have cR1 := BR.cell 1
    have cR2 := BR.cell 2
    have cR3 := BR.cell 3
    simp at cG0 cG1 cG2 cG3 cR0 cR1 cR2 cR3
    have fR0 := BR.frozen 0
    have fR1 := BR.frozen 1
    have fR2 := BR.frozen 2
    have fR3 := BR.frozen 3
    obtain ⟨wf, HWF⟩ : ∃ wf, Hid (wf = (((wc.setCell ⟨w.heap.size + 1, 0, none⟩ (.int .i64 2)).setCell ⟨w.heap.size + 1, 1, none⟩ (.slice A1 nL c1)).setCell ⟨w.heap.size + 1, 2, none⟩ (.slice A2 nR c2)).setCell ⟨w.heap.size + 1, 3, none⟩ (.slice A5 nX c5)) := ⟨_, rfl⟩
    have BRR : Blk wf (w.heap.size + 1) 34 #[.int .i64 2, .slice A1 nL c1, .slice A2 nR c2, .slice A5 nX c5] := by rw [HWF.out]; simpa using (((BR.set_ 0 (.int .i64 2)).set_ 1 (.slice A1 nL c1)).set_ 2 (.slice A2 nR c2)).set_ 3 (.slice A5 nX c5)
    have far : ∀ {v : Value} {n : Nat} {xs : List Value}, wc.ownsRow w0.heap.size 3 1 v n xs → wf.ownsRow w0.heap.size 3 1 v n xs := fun h => by
      rw [HWF.out]
      exact own_setF (own_setF (own_setF (own_setF h (by exact hs0)) (by exact hs0)) (by exact hs0)) (by exact hs0)
    have HO1 := Lib.hid (far (own_next (HO.out).1 Tg))
    have HO2 := Lib.hid (far (own_next (HO.out).2.1 Tg))
    have HO3 := Lib.hid (far ho5)
    have HTT : Hid (Below w.heap.size w wf) := by
      show Below _ _ _
      rw [HWF.out]
      exact ((((below_next HT0.out Tk rfl).setCell (p := ⟨w.heap.size + 1, 0, none⟩) (show w.heap.size ≤ w.heap.size + 1 by omega) _).setCell (p := ⟨w.heap.size + 1, 1, none⟩) (show w.heap.size ≤ w.heap.size + 1 by omega) _).setCell (p := ⟨w.heap.size + 1, 2, none⟩) (show w.heap.size ≤ w.heap.size + 1 by omega) _).setCell (p := ⟨w.heap.size + 1, 3, none⟩) (show w.heap.size ≤ w.heap.size + 1 by omega) _
    have HAP := Lib.hid (And.intro ha15 ha25)
    clear ho5 BR far ha15 ha25
    go_wp2_with fail
    rw [← HWF.out]
    (try simp only [Exit.inBlock, Exit.then])
    refine bodyPost_ret (v := .agg #[.int .i64 2, .slice A1 nL c1, .slice A2 nR c2, .slice A5 nX c5]) (results_cell_row rfl _ _ (w.heap.size + 1) 34 #[.int .i64 2, .slice A1 nL c1, .slice A2 nR c2, .slice A5 nX c5] (0, 0) _ (by simp) BRR Tryz.underlying34 rfl (by kernel_rfl)) rfl ?_
    exact ⟨A1, c1, A2, c2, A5, c5, rfl, own_mono HO1.out HT0.out.size, own_mono HO2.out HT0.out.size, own_mono HO3.out HT0.out.size, (HO.out).2.2, HAP.out.1, HAP.out.2, HTT.out⟩
  · -- kind 3
    have hnx : nX = nV := by
      rw [← HNX.out, ← HX.out]
      unfold rfL
      rw [if_neg (by decide), if_pos (by decide), HSL.out, ← sort_mark (comp_nodup HP.out HVI.out (H35.out (by decide))) (comp_in HP.out HVI.out)]
      show (srt (comp V s)).length = nV
      rw [srt_len, comp_len, HVL.out]
    subst hnx
    have HXV : Hid (srt (comp V s) = X) := by
      show _ = _
      rw [← HX.out]
      unfold rfL
      rw [if_neg (by decide), if_pos (by decide), HSL.out]
      exact sort_mark (comp_nodup HP.out HVI.out (H35.out (by decide))) (comp_in HP.out HVI.out)
    have hcl : (comp V s).length = nX := by rw [comp_len, HVL.out]
    have HCL := Lib.hid hcl
    clear hcl
    go_wp2_with fail
    refine (compose_any AV AS nX cV n cS V s w3 (HVR.out w3 T3) (HSR.out w3 T3) HVI.out h3).mono ?_
    rintro e w5 ⟨A5, c5, rfl, hoX, hb5⟩
    rw [HCL.out] at hoX
    rw [HCL.out]
    have T5 := below_next T3 hb5 rfl
    have Tg5 := below_next Tg3 hb5 rfl
    have BG5 := BG3.next hb5
    have gG := BG5.cell 3
    simp at gG
    have gF := BG5.frozen 3
    obtain ⟨wq, hwq⟩ : ∃ wq, wq = w5.setCell ⟨w1.heap.size, 3, none⟩ (.slice A5 nX c5) := ⟨_, rfl⟩
    have HWQ := Lib.hid hwq
    have Tq : Below w0.heap.size w0 wq := by rw [hwq]; exact T5.setCell (p := ⟨w1.heap.size, 3, none⟩) (by exact hz1) _
    have Tgq : Below w1.heap.size w1 wq := by rw [hwq]; exact Tg5.setCell (p := ⟨w1.heap.size, 3, none⟩) (Nat.le_refl _) _
    have BGq : Blk wq w1.heap.size 34 #[.int .i64 3, .slice A1 nL c1, .slice A2 nR c2, .slice A5 nX c5] := by rw [hwq]; simpa using BG5.set_ 3 (.slice A5 nX c5)
    have hoq : wq.ownsRow w3.heap.size 3 1 (.slice A5 nX c5) nX (ints (comp V s)) := by rw [hwq]; exact own_setF (p := ⟨w1.heap.size, 3, none⟩) hoX (by exact hg1)
    have gQ3 := BGq.cell 3
    simp at gQ3
    have HSO := Lib.hid (sortInts_any w3.heap.size nX c5 A5 (comp V s) wq hoq h3)
    have hofs : ∀ b, (Value.slice A5 nX c5).ownBlock = some b → w3.heap.size ≤ b := fun b hb => (hoq.lt b hb).1
    have HOF := Lib.hid hofs
    clear hwq hoX hofs hoq
    go_upto_region 9 with fail
    rw [← HWQ.out]
    go_wp2_with fail
    refine HSO.out.mono ?_
    rintro e wc ⟨rfl, hoS, hgS⟩
    rw [HXV.out] at hoS
    have Tk := Tq.grown hgS (by have := Tq.size; omega) (fun r hr => by have := HOF.out r hr; omega)
    have Tg := Tgq.grown hgS (by have := Tgq.size; omega) (fun r hr => by have := HOF.out r hr; omega)
    have BG := BGq.grown hgS (fun e => by have := HOF.out _ e.symm; omega)
    have ho5 := own_mono (base' := w0.heap.size) hoS hz3
    have ha15 : Apart (.slice A1 nL c1) (.slice A5 nX c5) := apart_new HO.out.1 hoS hz13
    have ha25 : Apart (.slice A2 nR c2) (.slice A5 nX c5) := apart_new HO.out.2.1 hoS hz13
    clear hoS hgS
    go_upto_region 14 with fail
    have BR := BQ.next Tk
    have cG0 := BG.cell 0
    have cG1 := BG.cell 1
    have cG2 := BG.cell 2
    have cG3 := BG.cell 3
    have cR0 := BR.cell 0
    have cR1 := BR.cell 1
    have cR2 := BR.cell 2
    have cR3 := BR.cell 3
    simp at cG0 cG1 cG2 cG3 cR0 cR1 cR2 cR3
    have fR0 := BR.frozen 0
    have fR1 := BR.frozen 1
    have fR2 := BR.frozen 2
    have fR3 := BR.frozen 3
    obtain ⟨wf, HWF⟩ : ∃ wf, Hid (wf = (((wc.setCell ⟨w.heap.size + 1, 0, none⟩ (.int .i64 3)).setCell ⟨w.heap.size + 1, 1, none⟩ (.slice A1 nL c1)).setCell ⟨w.heap.size + 1, 2, none⟩ (.slice A2 nR c2)).setCell ⟨w.heap.size + 1, 3, none⟩ (.slice A5 nX c5)) := ⟨_, rfl⟩
    have BRR : Blk wf (w.heap.size + 1) 34 #[.int .i64 3, .slice A1 nL c1, .slice A2 nR c2, .slice A5 nX c5] := by rw [HWF.out]; simpa using (((BR.set_ 0 (.int .i64 3)).set_ 1 (.slice A1 nL c1)).set_ 2 (.slice A2 nR c2)).set_ 3 (.slice A5 nX c5)
    have far : ∀ {v : Value} {n : Nat} {xs : List Value}, wc.ownsRow w0.heap.size 3 1 v n xs → wf.ownsRow w0.heap.size 3 1 v n xs := fun h => by
      rw [HWF.out]
      exact own_setF (own_setF (own_setF (own_setF h (by exact hs0)) (by exact hs0)) (by exact hs0)) (by exact hs0)
    have HO1 := Lib.hid (far (own_next (HO.out).1 Tg))
    have HO2 := Lib.hid (far (own_next (HO.out).2.1 Tg))
    have HO3 := Lib.hid (far ho5)
    have HTT : Hid (Below w.heap.size w wf) := by
      show Below _ _ _
      rw [HWF.out]
      exact ((((below_next HT0.out Tk rfl).setCell (p := ⟨w.heap.size + 1, 0, none⟩) (show w.heap.size ≤ w.heap.size + 1 by omega) _).setCell (p := ⟨w.heap.size + 1, 1, none⟩) (show w.heap.size ≤ w.heap.size + 1 by omega) _).setCell (p := ⟨w.heap.size + 1, 2, none⟩) (show w.heap.size ≤ w.heap.size + 1 by omega) _).setCell (p := ⟨w.heap.size + 1, 3, none⟩) (show w.heap.size ≤ w.heap.size + 1 by omega) _
    have HAP := Lib.hid (And.intro ha15 ha25)
    clear ho5 BR far ha15 ha25
    go_wp2_with fail
    rw [← HWF.out]
    (try simp only [Exit.inBlock, Exit.then])
    refine bodyPost_ret (v := .agg #[.int .i64 3, .slice A1 nL c1, .slice A2 nR c2, .slice A5 nX c5]) (results_cell_row rfl _ _ (w.heap.size + 1) 34 #[.int .i64 3, .slice A1 nL c1, .slice A2 nR c2, .slice A5 nX c5] (0, 0) _ (by simp) BRR Tryz.underlying34 rfl (by kernel_rfl)) rfl ?_
    exact ⟨A1, c1, A2, c2, A5, c5, rfl, own_mono HO1.out HT0.out.size, own_mono HO2.out HT0.out.size, own_mono HO3.out HT0.out.size, (HO.out).2.2, HAP.out.1, HAP.out.2, HTT.out⟩
  · -- kind 4
    have HXV : Hid (kerL (comp (inv n s) V) = X) := by show _ = _; rw [← HX.out]; unfold rfL; simp [HSL.out]
    have hv4 : V.length = n := H46.out (by omega)
    obtain rfl : nV = n := by rw [← HVL.out]; exact hv4
    have HV4 := Lib.hid hv4
    clear hv4
    go_wp2_with fail
    refine (compose_any A4 AV nV c4 nV cV (inv nV s) V w3 (HR4.out w3 (Below.refl _ _)) (HVR.out w3 T3) (inv_in HP.out) hn).mono ?_
    rintro e w4 ⟨A6, c6, rfl, ho6, hb4⟩
    have T4 := below_next T3 hb4 rfl
    have Tg4 := below_next Tg3 hb4 rfl
    have BG4 := BG3.next hb4
    have hqi : InL nV (comp (inv nV s) V) := comp_inM HV4.out HVI.out (inv_in HP.out)
    have HQI := Lib.hid hqi
    have hq6 := rd_of_own (R := RI) ho6 (RI_ints fun v hv => by have := hqi v hv; omega)
    have hlq : (comp (inv nV s) V).length = nV := by rw [comp_len, HLI.out]
    have HLQ := Lib.hid hlq
    rw [HLQ.out] at hq6 ⊢
    clear ho6 hlq hqi
    go_wp2_with fail
    refine (kernelOf_any A6 nV c6 (comp (inv nV s) V) w4 hq6 hn).mono ?_
    rintro e w5 ⟨A5, c5, rfl, hoX, hb5⟩
    rw [HXV.out, HNX.out] at hoX
    rw [HXV.out, HNX.out]
    replace hoX := own_mono (base' := w3.heap.size) hoX hb4.size
    have T5 := below_next T4 hb5 rfl
    have Tg5 := below_next Tg4 hb5 rfl
    have BG5 := BG4.next hb5
    obtain ⟨wc, hwc⟩ : ∃ wc, wc = w5.setCell ⟨w1.heap.size, 3, none⟩ (.slice A5 nX c5) := ⟨_, rfl⟩
    have HWC := Lib.hid hwc
    have Tk : Below w0.heap.size w0 wc := by rw [hwc]; exact T5.setCell (p := ⟨w1.heap.size, 3, none⟩) (by exact hz1) _
    have Tg : Below w1.heap.size w1 wc := by rw [hwc]; exact Tg5.setCell (p := ⟨w1.heap.size, 3, none⟩) (Nat.le_refl _) _
    have BG : Blk wc w1.heap.size 34 #[.int .i64 4, .slice A1 nL c1, .slice A2 nR c2, .slice A5 nX c5] := by rw [hwc]; simpa using BG5.set_ 3 (.slice A5 nX c5)
    have ho5 : wc.ownsRow w0.heap.size 3 1 (.slice A5 nX c5) nX (ints X) := by rw [hwc]; exact own_mono (own_setF (p := ⟨w1.heap.size, 3, none⟩) hoX (by exact hg1)) hz3
    have ha15 : Apart (.slice A1 nL c1) (.slice A5 nX c5) := apart_new HO.out.1 hoX hz13
    have ha25 : Apart (.slice A2 nR c2) (.slice A5 nX c5) := apart_new HO.out.2.1 hoX hz13
    have gG := BG5.cell 3
    simp at gG
    have gF := BG5.frozen 3
    clear hwc hoX
    go_upto_region 14 with fail
    rw [← HWC.out]
    have BR := BQ.next Tk
    have cG0 := BG.cell 0
    have cG1 := BG.cell 1
    have cG2 := BG.cell 2
    have cG3 := BG.cell 3
    have cR0 := BR.cell 0
    have cR1 := BR.cell 1
    have cR2 := BR.cell 2
    have cR3 := BR.cell 3
    simp at cG0 cG1 cG2 cG3 cR0 cR1 cR2 cR3
    have fR0 := BR.frozen 0
    have fR1 := BR.frozen 1
    have fR2 := BR.frozen 2
    have fR3 := BR.frozen 3
    obtain ⟨wf, HWF⟩ : ∃ wf, Hid (wf = (((wc.setCell ⟨w.heap.size + 1, 0, none⟩ (.int .i64 4)).setCell ⟨w.heap.size + 1, 1, none⟩ (.slice A1 nL c1)).setCell ⟨w.heap.size + 1, 2, none⟩ (.slice A2 nR c2)).setCell ⟨w.heap.size + 1, 3, none⟩ (.slice A5 nX c5)) := ⟨_, rfl⟩
    have BRR : Blk wf (w.heap.size + 1) 34 #[.int .i64 4, .slice A1 nL c1, .slice A2 nR c2, .slice A5 nX c5] := by rw [HWF.out]; simpa using (((BR.set_ 0 (.int .i64 4)).set_ 1 (.slice A1 nL c1)).set_ 2 (.slice A2 nR c2)).set_ 3 (.slice A5 nX c5)
    have far : ∀ {v : Value} {n : Nat} {xs : List Value}, wc.ownsRow w0.heap.size 3 1 v n xs → wf.ownsRow w0.heap.size 3 1 v n xs := fun h => by
      rw [HWF.out]
      exact own_setF (own_setF (own_setF (own_setF h (by exact hs0)) (by exact hs0)) (by exact hs0)) (by exact hs0)
    have HO1 := Lib.hid (far (own_next (HO.out).1 Tg))
    have HO2 := Lib.hid (far (own_next (HO.out).2.1 Tg))
    have HO3 := Lib.hid (far ho5)
    have HTT : Hid (Below w.heap.size w wf) := by
      show Below _ _ _
      rw [HWF.out]
      exact ((((below_next HT0.out Tk rfl).setCell (p := ⟨w.heap.size + 1, 0, none⟩) (show w.heap.size ≤ w.heap.size + 1 by omega) _).setCell (p := ⟨w.heap.size + 1, 1, none⟩) (show w.heap.size ≤ w.heap.size + 1 by omega) _).setCell (p := ⟨w.heap.size + 1, 2, none⟩) (show w.heap.size ≤ w.heap.size + 1 by omega) _).setCell (p := ⟨w.heap.size + 1, 3, none⟩) (show w.heap.size ≤ w.heap.size + 1 by omega) _
    have HAP := Lib.hid (And.intro ha15 ha25)
    clear ho5 BR far ha15 ha25
    go_wp2_with fail
    rw [← HWF.out]
    (try simp only [Exit.inBlock, Exit.then])
    refine bodyPost_ret (v := .agg #[.int .i64 4, .slice A1 nL c1, .slice A2 nR c2, .slice A5 nX c5]) (results_cell_row rfl _ _ (w.heap.size + 1) 34 #[.int .i64 4, .slice A1 nL c1, .slice A2 nR c2, .slice A5 nX c5] (0, 0) _ (by simp) BRR Tryz.underlying34 rfl (by kernel_rfl)) rfl ?_
    exact ⟨A1, c1, A2, c2, A5, c5, rfl, own_mono HO1.out HT0.out.size, own_mono HO2.out HT0.out.size, own_mono HO3.out HT0.out.size, (HO.out).2.2, HAP.out.1, HAP.out.2, HTT.out⟩
  · -- kind 5
    have hnx : nX = nV := by
      rw [← HNX.out, ← HX.out]
      unfold rfL
      rw [if_neg (by decide), if_pos (by decide), HSL.out, ← sort_mark (comp_nodup HP.out HVI.out (H35.out (by decide))) (comp_in HP.out HVI.out)]
      show (srt (comp V s)).length = nV
      rw [srt_len, comp_len, HVL.out]
    subst hnx
    have HXV : Hid (srt (comp V s) = X) := by
      show _ = _
      rw [← HX.out]
      unfold rfL
      rw [if_neg (by decide), if_pos (by decide), HSL.out]
      exact sort_mark (comp_nodup HP.out HVI.out (H35.out (by decide))) (comp_in HP.out HVI.out)
    have hcl : (comp V s).length = nX := by rw [comp_len, HVL.out]
    have HCL := Lib.hid hcl
    clear hcl
    go_wp2_with fail
    refine (compose_any AV AS nX cV n cS V s w3 (HVR.out w3 T3) (HSR.out w3 T3) HVI.out h3).mono ?_
    rintro e w5 ⟨A5, c5, rfl, hoX, hb5⟩
    rw [HCL.out] at hoX
    rw [HCL.out]
    have T5 := below_next T3 hb5 rfl
    have Tg5 := below_next Tg3 hb5 rfl
    have BG5 := BG3.next hb5
    have gG := BG5.cell 3
    simp at gG
    have gF := BG5.frozen 3
    obtain ⟨wq, hwq⟩ : ∃ wq, wq = w5.setCell ⟨w1.heap.size, 3, none⟩ (.slice A5 nX c5) := ⟨_, rfl⟩
    have HWQ := Lib.hid hwq
    have Tq : Below w0.heap.size w0 wq := by rw [hwq]; exact T5.setCell (p := ⟨w1.heap.size, 3, none⟩) (by exact hz1) _
    have Tgq : Below w1.heap.size w1 wq := by rw [hwq]; exact Tg5.setCell (p := ⟨w1.heap.size, 3, none⟩) (Nat.le_refl _) _
    have BGq : Blk wq w1.heap.size 34 #[.int .i64 5, .slice A1 nL c1, .slice A2 nR c2, .slice A5 nX c5] := by rw [hwq]; simpa using BG5.set_ 3 (.slice A5 nX c5)
    have hoq : wq.ownsRow w3.heap.size 3 1 (.slice A5 nX c5) nX (ints (comp V s)) := by rw [hwq]; exact own_setF (p := ⟨w1.heap.size, 3, none⟩) hoX (by exact hg1)
    have gQ3 := BGq.cell 3
    simp at gQ3
    have HSO := Lib.hid (sortInts_any w3.heap.size nX c5 A5 (comp V s) wq hoq h3)
    have hofs : ∀ b, (Value.slice A5 nX c5).ownBlock = some b → w3.heap.size ≤ b := fun b hb => (hoq.lt b hb).1
    have HOF := Lib.hid hofs
    clear hwq hoX hofs hoq
    go_upto_region 9 with fail
    rw [← HWQ.out]
    go_wp2_with fail
    refine HSO.out.mono ?_
    rintro e wc ⟨rfl, hoS, hgS⟩
    rw [HXV.out] at hoS
    have Tk := Tq.grown hgS (by have := Tq.size; omega) (fun r hr => by have := HOF.out r hr; omega)
    have Tg := Tgq.grown hgS (by have := Tgq.size; omega) (fun r hr => by have := HOF.out r hr; omega)
    have BG := BGq.grown hgS (fun e => by have := HOF.out _ e.symm; omega)
    have ho5 := own_mono (base' := w0.heap.size) hoS hz3
    have ha15 : Apart (.slice A1 nL c1) (.slice A5 nX c5) := apart_new HO.out.1 hoS hz13
    have ha25 : Apart (.slice A2 nR c2) (.slice A5 nX c5) := apart_new HO.out.2.1 hoS hz13
    clear hoS hgS
    go_upto_region 14 with fail
    have BR := BQ.next Tk
    have cG0 := BG.cell 0
    have cG1 := BG.cell 1
    have cG2 := BG.cell 2
    have cG3 := BG.cell 3
    have cR0 := BR.cell 0
    have cR1 := BR.cell 1
    have cR2 := BR.cell 2
    have cR3 := BR.cell 3
    simp at cG0 cG1 cG2 cG3 cR0 cR1 cR2 cR3
    have fR0 := BR.frozen 0
    have fR1 := BR.frozen 1
    have fR2 := BR.frozen 2
    have fR3 := BR.frozen 3
    obtain ⟨wf, HWF⟩ : ∃ wf, Hid (wf = (((wc.setCell ⟨w.heap.size + 1, 0, none⟩ (.int .i64 5)).setCell ⟨w.heap.size + 1, 1, none⟩ (.slice A1 nL c1)).setCell ⟨w.heap.size + 1, 2, none⟩ (.slice A2 nR c2)).setCell ⟨w.heap.size + 1, 3, none⟩ (.slice A5 nX c5)) := ⟨_, rfl⟩
    have BRR : Blk wf (w.heap.size + 1) 34 #[.int .i64 5, .slice A1 nL c1, .slice A2 nR c2, .slice A5 nX c5] := by rw [HWF.out]; simpa using (((BR.set_ 0 (.int .i64 5)).set_ 1 (.slice A1 nL c1)).set_ 2 (.slice A2 nR c2)).set_ 3 (.slice A5 nX c5)
    have far : ∀ {v : Value} {n : Nat} {xs : List Value}, wc.ownsRow w0.heap.size 3 1 v n xs → wf.ownsRow w0.heap.size 3 1 v n xs := fun h => by
      rw [HWF.out]
      exact own_setF (own_setF (own_setF (own_setF h (by exact hs0)) (by exact hs0)) (by exact hs0)) (by exact hs0)
    have HO1 := Lib.hid (far (own_next (HO.out).1 Tg))
    have HO2 := Lib.hid (far (own_next (HO.out).2.1 Tg))
    have HO3 := Lib.hid (far ho5)
    have HTT : Hid (Below w.heap.size w wf) := by
      show Below _ _ _
      rw [HWF.out]
      exact ((((below_next HT0.out Tk rfl).setCell (p := ⟨w.heap.size + 1, 0, none⟩) (show w.heap.size ≤ w.heap.size + 1 by omega) _).setCell (p := ⟨w.heap.size + 1, 1, none⟩) (show w.heap.size ≤ w.heap.size + 1 by omega) _).setCell (p := ⟨w.heap.size + 1, 2, none⟩) (show w.heap.size ≤ w.heap.size + 1 by omega) _).setCell (p := ⟨w.heap.size + 1, 3, none⟩) (show w.heap.size ≤ w.heap.size + 1 by omega) _
    have HAP := Lib.hid (And.intro ha15 ha25)
    clear ho5 BR far ha15 ha25
    go_wp2_with fail
    rw [← HWF.out]
    (try simp only [Exit.inBlock, Exit.then])
    refine bodyPost_ret (v := .agg #[.int .i64 5, .slice A1 nL c1, .slice A2 nR c2, .slice A5 nX c5]) (results_cell_row rfl _ _ (w.heap.size + 1) 34 #[.int .i64 5, .slice A1 nL c1, .slice A2 nR c2, .slice A5 nX c5] (0, 0) _ (by simp) BRR Tryz.underlying34 rfl (by kernel_rfl)) rfl ?_
    exact ⟨A1, c1, A2, c2, A5, c5, rfl, own_mono HO1.out HT0.out.size, own_mono HO2.out HT0.out.size, own_mono HO3.out HT0.out.size, (HO.out).2.2, HAP.out.1, HAP.out.2, HTT.out⟩
  · -- kind 6
    have HXV : Hid (comp (comp (inv n s) V) s = X) := by show _ = _; rw [← HX.out]; unfold rfL; simp [HSL.out]
    have hv4 : V.length = n := H46.out (by omega)
    obtain rfl : nV = n := by rw [← HVL.out]; exact hv4
    have HV4 := Lib.hid hv4
    clear hv4
    go_wp2_with fail
    refine (compose_any A4 AV nV c4 nV cV (inv nV s) V w3 (HR4.out w3 (Below.refl _ _)) (HVR.out w3 T3) (inv_in HP.out) hn).mono ?_
    rintro e w4 ⟨A6, c6, rfl, ho6, hb4⟩
    have T4 := below_next T3 hb4 rfl
    have Tg4 := below_next Tg3 hb4 rfl
    have BG4 := BG3.next hb4
    have hqi : InL nV (comp (inv nV s) V) := comp_inM HV4.out HVI.out (inv_in HP.out)
    have HQI := Lib.hid hqi
    have hq6 := rd_of_own (R := RI) ho6 (RI_ints fun v hv => by have := hqi v hv; omega)
    have hlq : (comp (inv nV s) V).length = nV := by rw [comp_len, HLI.out]
    have HLQ := Lib.hid hlq
    rw [HLQ.out] at hq6 ⊢
    clear ho6 hlq hqi
    go_wp2_with fail
    refine (compose_any A6 AS nV c6 nV cS (comp (inv nV s) V) s w4 hq6 (HSR.out w4 T4) HQI.out hn).mono ?_
    rintro e w5 ⟨A5, c5, rfl, hoX, hb5⟩
    rw [HXV.out, HNX.out] at hoX
    rw [HXV.out, HNX.out]
    replace hoX := own_mono (base' := w3.heap.size) hoX hb4.size
    have T5 := below_next T4 hb5 rfl
    have Tg5 := below_next Tg4 hb5 rfl
    have BG5 := BG4.next hb5
    obtain ⟨wc, hwc⟩ : ∃ wc, wc = w5.setCell ⟨w1.heap.size, 3, none⟩ (.slice A5 nX c5) := ⟨_, rfl⟩
    have HWC := Lib.hid hwc
    have Tk : Below w0.heap.size w0 wc := by rw [hwc]; exact T5.setCell (p := ⟨w1.heap.size, 3, none⟩) (by exact hz1) _
    have Tg : Below w1.heap.size w1 wc := by rw [hwc]; exact Tg5.setCell (p := ⟨w1.heap.size, 3, none⟩) (Nat.le_refl _) _
    have BG : Blk wc w1.heap.size 34 #[.int .i64 6, .slice A1 nL c1, .slice A2 nR c2, .slice A5 nX c5] := by rw [hwc]; simpa using BG5.set_ 3 (.slice A5 nX c5)
    have ho5 : wc.ownsRow w0.heap.size 3 1 (.slice A5 nX c5) nX (ints X) := by rw [hwc]; exact own_mono (own_setF (p := ⟨w1.heap.size, 3, none⟩) hoX (by exact hg1)) hz3
    have ha15 : Apart (.slice A1 nL c1) (.slice A5 nX c5) := apart_new HO.out.1 hoX hz13
    have ha25 : Apart (.slice A2 nR c2) (.slice A5 nX c5) := apart_new HO.out.2.1 hoX hz13
    have gG := BG5.cell 3
    simp at gG
    have gF := BG5.frozen 3
    clear hwc hoX
    go_upto_region 14 with fail
    rw [← HWC.out]
    have BR := BQ.next Tk
    have cG0 := BG.cell 0
    have cG1 := BG.cell 1
    have cG2 := BG.cell 2
    have cG3 := BG.cell 3
    have cR0 := BR.cell 0
    have cR1 := BR.cell 1
    have cR2 := BR.cell 2
    have cR3 := BR.cell 3
    simp at cG0 cG1 cG2 cG3 cR0 cR1 cR2 cR3
    have fR0 := BR.frozen 0
    have fR1 := BR.frozen 1
    have fR2 := BR.frozen 2
    have fR3 := BR.frozen 3
    obtain ⟨wf, HWF⟩ : ∃ wf, Hid (wf = (((wc.setCell ⟨w.heap.size + 1, 0, none⟩ (.int .i64 6)).setCell ⟨w.heap.size + 1, 1, none⟩ (.slice A1 nL c1)).setCell ⟨w.heap.size + 1, 2, none⟩ (.slice A2 nR c2)).setCell ⟨w.heap.size + 1, 3, none⟩ (.slice A5 nX c5)) := ⟨_, rfl⟩
    have BRR : Blk wf (w.heap.size + 1) 34 #[.int .i64 6, .slice A1 nL c1, .slice A2 nR c2, .slice A5 nX c5] := by rw [HWF.out]; simpa using (((BR.set_ 0 (.int .i64 6)).set_ 1 (.slice A1 nL c1)).set_ 2 (.slice A2 nR c2)).set_ 3 (.slice A5 nX c5)
    have far : ∀ {v : Value} {n : Nat} {xs : List Value}, wc.ownsRow w0.heap.size 3 1 v n xs → wf.ownsRow w0.heap.size 3 1 v n xs := fun h => by
      rw [HWF.out]
      exact own_setF (own_setF (own_setF (own_setF h (by exact hs0)) (by exact hs0)) (by exact hs0)) (by exact hs0)
    have HO1 := Lib.hid (far (own_next (HO.out).1 Tg))
    have HO2 := Lib.hid (far (own_next (HO.out).2.1 Tg))
    have HO3 := Lib.hid (far ho5)
    have HTT : Hid (Below w.heap.size w wf) := by
      show Below _ _ _
      rw [HWF.out]
      exact ((((below_next HT0.out Tk rfl).setCell (p := ⟨w.heap.size + 1, 0, none⟩) (show w.heap.size ≤ w.heap.size + 1 by omega) _).setCell (p := ⟨w.heap.size + 1, 1, none⟩) (show w.heap.size ≤ w.heap.size + 1 by omega) _).setCell (p := ⟨w.heap.size + 1, 2, none⟩) (show w.heap.size ≤ w.heap.size + 1 by omega) _).setCell (p := ⟨w.heap.size + 1, 3, none⟩) (show w.heap.size ≤ w.heap.size + 1 by omega) _
    have HAP := Lib.hid (And.intro ha15 ha25)
    clear ho5 BR far ha15 ha25
    go_wp2_with fail
    rw [← HWF.out]
    (try simp only [Exit.inBlock, Exit.then])
    refine bodyPost_ret (v := .agg #[.int .i64 6, .slice A1 nL c1, .slice A2 nR c2, .slice A5 nX c5]) (results_cell_row rfl _ _ (w.heap.size + 1) 34 #[.int .i64 6, .slice A1 nL c1, .slice A2 nR c2, .slice A5 nX c5] (0, 0) _ (by simp) BRR Tryz.underlying34 rfl (by kernel_rfl)) rfl ?_
    exact ⟨A1, c1, A2, c2, A5, c5, rfl, own_mono HO1.out HT0.out.size, own_mono HO2.out HT0.out.size, own_mono HO3.out HT0.out.size, (HO.out).2.2, HAP.out.1, HAP.out.2, HTT.out⟩
end Go.Proofs.YtidjocikbmkjbaaGreat
