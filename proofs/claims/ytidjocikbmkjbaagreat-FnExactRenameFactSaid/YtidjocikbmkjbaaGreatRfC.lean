
/- Walks: copies of identities and facts, in the program and in the reference. -/
import Derived.Test.YtidjocikbmkjbaaGreatRfW
import Derived.Test.YtidjocikbmkjbaaGreatKFact
import Derived.Deep.RegionHeld3
namespace Go.Proofs.YtidjocikbmkjbaaGreat
open Go.RowKit
set_option linter.unusedVariables false
set_option linter.unusedSimpArgs false

/-- Two rows of a call's own lie apart. -/
def Apart (v u : Value) : Prop := ∀ b, v.ownBlock = some b → u.ownBlock ≠ some b
theorem Apart.symm {v u : Value} (h : Apart v u) : Apart u v := fun b h1 h2 => h b h2 h1
theorem apart_new {w w' : World} {b1 b2 e1 e2 s1 s2 n1 n2 : Nat} {v u : Value} {xs ys : List Value} (h : w.ownsRow b1 e1 s1 v n1 xs) (h' : w'.ownsRow b2 e2 s2 u n2 ys) (hb : w.heap.size ≤ b2) : Apart v u := fun b h1 h2 => by
  have := (h.lt b h1).2
  have := (h'.lt b h2).1
  omega
theorem own_setF {w : World} {base e size n : Nat} {v : Value} {xs : List Value} {p : Addr} {u : Value} (h : w.ownsRow base e size v n xs) (hp : p.block < base) : (w.setCell p u).ownsRow base e size v n xs :=
  own_same h fun b hb => Below.heap_setCell w p u b (by have := (h.lt b hb).1; omega)
/-- A copy of an identity. -/
def CeE (w : World) (L R : List Int) (e : Ending) (w' : World) : Prop := ∃ A1 c1 A2 c2, e = .returned (.agg #[.slice A1 L.length c1, .slice A2 R.length c2]) ∧ w'.ownsRow w.heap.size 3 1 (.slice A1 L.length c1) L.length (ints L) ∧ w'.ownsRow w.heap.size 3 1 (.slice A2 R.length c2) R.length (ints R) ∧ Apart (.slice A1 L.length c1) (.slice A2 R.length c2) ∧ Below w.heap.size w w'
set_option maxRecDepth 20000 in
set_option maxHeartbeats 8000000 in
theorem cloneEq_any (AL : Option Addr) (nL cL : Nat) (AR : Option Addr) (nR cR : Nat) (L R : List Int) (w : World) (hL : RdL RI w AL nL L) (hR : RdL RI w AR nR R) (h1 : nL ≤ 1048576) (h2 : nR ≤ 1048576) :
    Calls Tryz.prog 98 #[.agg #[.slice AL nL cL, .slice AR nR cR]] w (CeE w L R) := by
  obtain rfl : L.length = nL := hL.len
  obtain rfl : R.length = nR := hR.len
  obtain ⟨nL, HNL⟩ : ∃ n, Hid (L.length = n) := ⟨_, rfl⟩
  obtain ⟨nR, HNR⟩ : ∃ n, Hid (R.length = n) := ⟨_, rfl⟩
  unfold CeE
  rw [HNL.out] at hL h1 ⊢
  rw [HNR.out] at hR h2 ⊢
  obtain ⟨w0, hw0, T0, hsz0, BP, BQ⟩ := boxes2 w #[.slice AL nL cL, .slice AR nR cR] #[.slice none 0 0, .slice none 0 0] 32 32
  have HW0 := Lib.hid hw0
  have HC1 : Hid (∀ wz, Below w0.heap.size w0 wz → Calls Tryz.prog 92 #[.slice AL nL cL] wz fun e w' => ∃ A' c', e = .returned (.slice A' nL c') ∧ w'.ownsRow wz.heap.size 3 1 (.slice A' nL c') nL (ints L) ∧ Below wz.heap.size wz w') := fun wz hz => clone_any AL nL cL L wz ((hL.next stab_RI T0).next stab_RI hz) h1
  have HC2 : Hid (∀ wz, Below w0.heap.size w0 wz → Calls Tryz.prog 92 #[.slice AR nR cR] wz fun e w' => ∃ A' c', e = .returned (.slice A' nR c') ∧ w'.ownsRow wz.heap.size 3 1 (.slice A' nR c') nR (ints R) ∧ Below wz.heap.size wz w') := fun wz hz => clone_any AR nR cR R wz ((hR.next stab_RI T0).next stab_RI hz) h2
  have cP0 := BP.cell 0
  have cP1 := BP.cell 1
  simp at cP0 cP1
  have cR0 := BQ.cell 0
  have cR1 := BQ.cell 1
  simp at cR0 cR1
  have hne : w.heap.size + 1 ≠ w.heap.size := by omega
  have Tk : Below w0.heap.size w0 w0 := Below.refl _ _
  have hs0 : w.heap.size + 1 < w0.heap.size := by omega
  have HT0 := Lib.hid T0
  clear hw0 hsz0 hL hR
  go_enter Tryz.func98, Tryz.ntmps98
  go_upto_region 1 with fail
  rw [← HW0.out]
  first | (go_region_law (first | (go_simp; go_at_call 92; (with_reducible refine (HC1.out _ ?_).mono ?_); (first | exact Tk | exact Below.drew Tk | exact below_drewN (Below.refl _ _) _ | exact below_drewN Tk _); rintro e wn ⟨A1, c1, rfl, ho1, hbn⟩; (try (have hap := (apart_new ho2 ho1 (by first | exact Nat.le_refl _ | (simp; omega))).symm)); (try replace ho2 := own_next ho2 (by first | exact hbn | exact (below_drewN (Below.refl _ _) _).trans hbn)); replace ho1 := own_mono (base' := w0.heap.size) ho1 (by exact Tk.size); replace Tk := below_next (by first | exact Tk | exact Below.drew Tk | exact below_drewN (Below.refl _ _) _ | exact below_drewN Tk _) hbn rfl; have xP0 := keepc Tk cP0; have xP1 := keepc Tk cP1; have xR0 := keepc Tk cR0; have xR1 := keepc Tk cR1; have fR0 := (BQ.next Tk).frozen 0; have fR1 := (BQ.next Tk).frozen 1) | (go_simp; go_at_call 92; (with_reducible refine (HC2.out _ ?_).mono ?_); (first | exact Tk | exact Below.drew Tk | exact below_drewN (Below.refl _ _) _ | exact below_drewN Tk _); rintro e wn ⟨A2, c2, rfl, ho2, hbn⟩; (try (have hap := apart_new ho1 ho2 (by first | exact Nat.le_refl _ | (simp; omega)))); (try replace ho1 := own_next ho1 (by first | exact hbn | exact (below_drewN (Below.refl _ _) _).trans hbn)); replace ho2 := own_mono (base' := w0.heap.size) ho2 (by exact Tk.size); replace Tk := below_next (by first | exact Tk | exact Below.drew Tk | exact below_drewN (Below.refl _ _) _ | exact below_drewN Tk _) hbn rfl; have xP0 := keepc Tk cP0; have xP1 := keepc Tk cP1; have xR0 := keepc Tk cR0; have xR1 := keepc Tk cR1; have fR0 := (BQ.next Tk).frozen 0; have fR1 := (BQ.next Tk).frozen 1))) | fail
  all_goals
    have BR := BQ.next Tk
    have BRR : Blk ((wn.setCell ⟨w.heap.size + 1, 0, none⟩ (.slice A1 nL c1)).setCell ⟨w.heap.size + 1, 1, none⟩ (.slice A2 nR c2)) (w.heap.size + 1) 32 #[.slice A1 nL c1, .slice A2 nR c2] := by simpa using (BR.set_ 0 (.slice A1 nL c1)).set_ 1 (.slice A2 nR c2)
    have HO1 := Lib.hid (own_setF (own_setF (p := ⟨w.heap.size + 1, 0, none⟩) (u := .slice A1 nL c1) ho1 hs0) (p := ⟨w.heap.size + 1, 1, none⟩) (u := .slice A2 nR c2) hs0)
    have HO2 := Lib.hid (own_setF (own_setF (p := ⟨w.heap.size + 1, 0, none⟩) (u := .slice A1 nL c1) ho2 hs0) (p := ⟨w.heap.size + 1, 1, none⟩) (u := .slice A2 nR c2) hs0)
    have hTT := ((below_next HT0.out Tk rfl).setCell (p := ⟨w.heap.size + 1, 0, none⟩) (show w.heap.size ≤ w.heap.size + 1 by omega) (.slice A1 nL c1)).setCell (p := ⟨w.heap.size + 1, 1, none⟩) (show w.heap.size ≤ w.heap.size + 1 by omega) (.slice A2 nR c2)
    have HTT := Lib.hid hTT
    have HAP := Lib.hid hap
    clear hTT hap ho1 ho2 BR
    go_wp2_with fail
    (try simp only [Exit.inBlock, Exit.then])
    refine bodyPost_ret (v := .agg #[.slice A1 nL c1, .slice A2 nR c2]) (results_cell_row rfl _ _ (w.heap.size + 1) 32 #[.slice A1 nL c1, .slice A2 nR c2] (0, 0) _ (by simp) BRR Tryz.underlying32 rfl (by kernel_rfl)) rfl ?_
    exact ⟨A1, c1, A2, c2, rfl, own_mono HO1.out HT0.out.size, own_mono HO2.out HT0.out.size, HAP.out, HTT.out⟩
/- (printed) -/
/-- A copy of a fact, or what it has become: three rows of the call's own, apart from one another. -/
def CfE (w : World) (f : FactM) (e : Ending) (w' : World) : Prop := ∃ A1 c1 A2 c2 A3 c3, e = .returned (.agg #[.int .i64 f.1, .slice A1 f.2.1.1.length c1, .slice A2 f.2.1.2.length c2, .slice A3 f.2.2.length c3]) ∧ w'.ownsRow w.heap.size 3 1 (.slice A1 f.2.1.1.length c1) f.2.1.1.length (ints f.2.1.1) ∧ w'.ownsRow w.heap.size 3 1 (.slice A2 f.2.1.2.length c2) f.2.1.2.length (ints f.2.1.2) ∧ w'.ownsRow w.heap.size 3 1 (.slice A3 f.2.2.length c3) f.2.2.length (ints f.2.2) ∧
  Apart (.slice A1 f.2.1.1.length c1) (.slice A2 f.2.1.2.length c2) ∧ Apart (.slice A1 f.2.1.1.length c1) (.slice A3 f.2.2.length c3) ∧ Apart (.slice A2 f.2.1.2.length c2) (.slice A3 f.2.2.length c3) ∧ Below w.heap.size w w'
set_option maxRecDepth 20000 in
set_option maxHeartbeats 8000000 in
theorem l4Own_any (AL : Option Addr) (nL cL : Nat) (AR : Option Addr) (nR cR : Nat) (L R : List Int) (w : World) (hL : RdL RI w AL nL L) (hR : RdL RI w AR nR R) (h1 : nL ≤ 1048576) (h2 : nR ≤ 1048576) :
    Calls Tryz.prog 51 #[.agg #[.slice AL nL cL, .slice AR nR cR]] w (CeE w L R) := by
  obtain rfl : L.length = nL := hL.len
  obtain rfl : R.length = nR := hR.len
  obtain ⟨nL, HNL⟩ : ∃ n, Hid (L.length = n) := ⟨_, rfl⟩
  obtain ⟨nR, HNR⟩ : ∃ n, Hid (R.length = n) := ⟨_, rfl⟩
  unfold CeE
  rw [HNL.out] at hL h1 ⊢
  rw [HNR.out] at hR h2 ⊢
  obtain ⟨w0, hw0, T0, hsz0, BP, BQ⟩ := boxes2 w #[.slice AL nL cL, .slice AR nR cR] #[.slice none 0 0, .slice none 0 0] 32 32
  have HW0 := Lib.hid hw0
  have HC1 : Hid (∀ wz, Below w0.heap.size w0 wz → Calls Tryz.prog 74 #[.slice AL nL cL] wz fun e w' => ∃ A' c', e = .returned (.slice A' nL c') ∧ w'.ownsRow wz.heap.size 3 1 (.slice A' nL c') nL (ints L) ∧ Below wz.heap.size wz w') := fun wz hz => l1Own_any AL nL cL L wz ((hL.next stab_RI T0).next stab_RI hz) h1
  have HC2 : Hid (∀ wz, Below w0.heap.size w0 wz → Calls Tryz.prog 74 #[.slice AR nR cR] wz fun e w' => ∃ A' c', e = .returned (.slice A' nR c') ∧ w'.ownsRow wz.heap.size 3 1 (.slice A' nR c') nR (ints R) ∧ Below wz.heap.size wz w') := fun wz hz => l1Own_any AR nR cR R wz ((hR.next stab_RI T0).next stab_RI hz) h2
  have cP0 := BP.cell 0
  have cP1 := BP.cell 1
  simp at cP0 cP1
  have cR0 := BQ.cell 0
  have cR1 := BQ.cell 1
  simp at cR0 cR1
  have hne : w.heap.size + 1 ≠ w.heap.size := by omega
  have Tk : Below w0.heap.size w0 w0 := Below.refl _ _
  have hs0 : w.heap.size + 1 < w0.heap.size := by omega
  have HT0 := Lib.hid T0
  clear hw0 hsz0 hL hR
  go_enter Tryz.func51, Tryz.ntmps51
  go_upto_region 1 with fail
  rw [← HW0.out]
  first | (go_region_law (first | (go_simp; go_at_call 74; (with_reducible refine (HC1.out _ ?_).mono ?_); (first | exact Tk | exact Below.drew Tk | exact below_drewN (Below.refl _ _) _ | exact below_drewN Tk _); rintro e wn ⟨A1, c1, rfl, ho1, hbn⟩; (try (have hap := (apart_new ho2 ho1 (by first | exact Nat.le_refl _ | (simp; omega))).symm)); (try replace ho2 := own_next ho2 (by first | exact hbn | exact (below_drewN (Below.refl _ _) _).trans hbn)); replace ho1 := own_mono (base' := w0.heap.size) ho1 (by exact Tk.size); replace Tk := below_next (by first | exact Tk | exact Below.drew Tk | exact below_drewN (Below.refl _ _) _ | exact below_drewN Tk _) hbn rfl; have xP0 := keepc Tk cP0; have xP1 := keepc Tk cP1; have xR0 := keepc Tk cR0; have xR1 := keepc Tk cR1; have fR0 := (BQ.next Tk).frozen 0; have fR1 := (BQ.next Tk).frozen 1) | (go_simp; go_at_call 74; (with_reducible refine (HC2.out _ ?_).mono ?_); (first | exact Tk | exact Below.drew Tk | exact below_drewN (Below.refl _ _) _ | exact below_drewN Tk _); rintro e wn ⟨A2, c2, rfl, ho2, hbn⟩; (try (have hap := apart_new ho1 ho2 (by first | exact Nat.le_refl _ | (simp; omega)))); (try replace ho1 := own_next ho1 (by first | exact hbn | exact (below_drewN (Below.refl _ _) _).trans hbn)); replace ho2 := own_mono (base' := w0.heap.size) ho2 (by exact Tk.size); replace Tk := below_next (by first | exact Tk | exact Below.drew Tk | exact below_drewN (Below.refl _ _) _ | exact below_drewN Tk _) hbn rfl; have xP0 := keepc Tk cP0; have xP1 := keepc Tk cP1; have xR0 := keepc Tk cR0; have xR1 := keepc Tk cR1; have fR0 := (BQ.next Tk).frozen 0; have fR1 := (BQ.next Tk).frozen 1))) | fail
  all_goals
    have BR := BQ.next Tk
    have BRR : Blk ((wn.setCell ⟨w.heap.size + 1, 0, none⟩ (.slice A1 nL c1)).setCell ⟨w.heap.size + 1, 1, none⟩ (.slice A2 nR c2)) (w.heap.size + 1) 32 #[.slice A1 nL c1, .slice A2 nR c2] := by simpa using (BR.set_ 0 (.slice A1 nL c1)).set_ 1 (.slice A2 nR c2)
    have HO1 := Lib.hid (own_setF (own_setF (p := ⟨w.heap.size + 1, 0, none⟩) (u := .slice A1 nL c1) ho1 hs0) (p := ⟨w.heap.size + 1, 1, none⟩) (u := .slice A2 nR c2) hs0)
    have HO2 := Lib.hid (own_setF (own_setF (p := ⟨w.heap.size + 1, 0, none⟩) (u := .slice A1 nL c1) ho2 hs0) (p := ⟨w.heap.size + 1, 1, none⟩) (u := .slice A2 nR c2) hs0)
    have hTT := ((below_next HT0.out Tk rfl).setCell (p := ⟨w.heap.size + 1, 0, none⟩) (show w.heap.size ≤ w.heap.size + 1 by omega) (.slice A1 nL c1)).setCell (p := ⟨w.heap.size + 1, 1, none⟩) (show w.heap.size ≤ w.heap.size + 1 by omega) (.slice A2 nR c2)
    have HTT := Lib.hid hTT
    have HAP := Lib.hid hap
    clear hTT hap ho1 ho2 BR
    go_wp2_with fail
    (try simp only [Exit.inBlock, Exit.then])
    refine bodyPost_ret (v := .agg #[.slice A1 nL c1, .slice A2 nR c2]) (results_cell_row rfl _ _ (w.heap.size + 1) 32 #[.slice A1 nL c1, .slice A2 nR c2] (0, 0) _ (by simp) BRR Tryz.underlying32 rfl (by kernel_rfl)) rfl ?_
    exact ⟨A1, c1, A2, c2, rfl, own_mono HO1.out HT0.out.size, own_mono HO2.out HT0.out.size, HAP.out, HTT.out⟩
set_option maxRecDepth 20000 in
set_option maxHeartbeats 8000000 in
theorem cloneFact_any (k : Int) (AL : Option Addr) (nL cL : Nat) (AR : Option Addr) (nR cR : Nat) (AV : Option Addr) (nV cV : Nat) (L R V : List Int) (w : World) (hL : RdL RI w AL nL L) (hR : RdL RI w AR nR R) (hV : RdL RI w AV nV V) (h1 : nL ≤ 1048576) (h2 : nR ≤ 1048576) (h3 : nV ≤ 1048576) :
    Calls Tryz.prog 65 #[.agg #[.int .i64 k, .slice AL nL cL, .slice AR nR cR, .slice AV nV cV]] w (CfE w (k, (L, R), V)) := by
  obtain rfl : L.length = nL := hL.len
  obtain rfl : R.length = nR := hR.len
  obtain rfl : V.length = nV := hV.len
  obtain ⟨nL, HNL⟩ : ∃ n, Hid (L.length = n) := ⟨_, rfl⟩
  obtain ⟨nR, HNR⟩ : ∃ n, Hid (R.length = n) := ⟨_, rfl⟩
  obtain ⟨nV, HNV⟩ : ∃ n, Hid (V.length = n) := ⟨_, rfl⟩
  unfold CfE
  simp only
  rw [HNL.out] at hL h1 ⊢
  rw [HNR.out] at hR h2 ⊢
  rw [HNV.out] at hV h3 ⊢
  obtain ⟨w0, hw0, T0, hsz0, BP, BQ⟩ := boxes2 w #[.int .i64 k, .slice AL nL cL, .slice AR nR cR, .slice AV nV cV] #[.int .i64 0, .slice none 0 0, .slice none 0 0, .slice none 0 0] 34 34
  have HW0 := Lib.hid hw0
  have HC1 : Hid (∀ wz, Below w0.heap.size w0 wz → Calls Tryz.prog 98 #[.agg #[.slice AL nL cL, .slice AR nR cR]] wz fun e w' => ∃ A1 c1 A2 c2, e = .returned (.agg #[.slice A1 nL c1, .slice A2 nR c2]) ∧ w'.ownsRow wz.heap.size 3 1 (.slice A1 nL c1) nL (ints L) ∧ w'.ownsRow wz.heap.size 3 1 (.slice A2 nR c2) nR (ints R) ∧ Apart (.slice A1 nL c1) (.slice A2 nR c2) ∧ Below wz.heap.size wz w') := fun wz hz => by
    have := cloneEq_any AL nL cL AR nR cR L R wz ((hL.next stab_RI T0).next stab_RI hz) ((hR.next stab_RI T0).next stab_RI hz) h1 h2
    unfold CeE at this
    rw [HNL.out, HNR.out] at this
    exact this
  have HC2 : Hid (∀ wz, Below w0.heap.size w0 wz → Calls Tryz.prog 92 #[.slice AV nV cV] wz fun e w' => ∃ A' c', e = .returned (.slice A' nV c') ∧ w'.ownsRow wz.heap.size 3 1 (.slice A' nV c') nV (ints V) ∧ Below wz.heap.size wz w') := fun wz hz => clone_any AV nV cV V wz ((hV.next stab_RI T0).next stab_RI hz) h3
  have cP0 := BP.cell 0
  have cP1 := BP.cell 1
  have cP2 := BP.cell 2
  have cP3 := BP.cell 3
  have cR0 := BQ.cell 0
  have cR1 := BQ.cell 1
  have cR2 := BQ.cell 2
  have cR3 := BQ.cell 3
  simp at cP0 cP1 cP2 cP3 cR0 cR1 cR2 cR3
  have hne : w.heap.size + 1 ≠ w.heap.size := by omega
  have Tk : Below w0.heap.size w0 w0 := Below.refl _ _
  have hs0 : w.heap.size + 1 < w0.heap.size := by omega
  have HT0 := Lib.hid T0
  clear hw0 hsz0 hL hR hV
  go_enter Tryz.func65, Tryz.ntmps65
  go_upto_region 1 with fail
  rw [← HW0.out]
  first | (go_region_law (first | (go_simp; go_at_call 98; (with_reducible refine (HC1.out _ ?_).mono ?_); (first | exact Tk | exact Below.drew Tk | exact below_drewN (Below.refl _ _) _ | exact below_drewN Tk _); rintro e wn ⟨A1, c1, A2, c2, rfl, ho1, ho2, ha12, hbn⟩; (try (have ha13 := (apart_new ho3 ho1 (by first | exact Nat.le_refl _ | (simp; omega))).symm)); (try (have ha23 := (apart_new ho3 ho2 (by first | exact Nat.le_refl _ | (simp; omega))).symm)); (try replace ho3 := own_next ho3 (by first | exact hbn | exact (below_drewN (Below.refl _ _) _).trans hbn)); replace ho1 := own_mono (base' := w0.heap.size) ho1 (by exact Tk.size); replace ho2 := own_mono (base' := w0.heap.size) ho2 (by exact Tk.size); replace Tk := below_next (by first | exact Tk | exact Below.drew Tk | exact below_drewN (Below.refl _ _) _ | exact below_drewN Tk _) hbn rfl; have xP0 := keepc Tk cP0; have xP1 := keepc Tk cP1; have xP2 := keepc Tk cP2; have xP3 := keepc Tk cP3; have xR0 := keepc Tk cR0; have xR1 := keepc Tk cR1; have xR2 := keepc Tk cR2; have xR3 := keepc Tk cR3; have fR0 := (BQ.next Tk).frozen 0; have fR1 := (BQ.next Tk).frozen 1; have fR2 := (BQ.next Tk).frozen 2; have fR3 := (BQ.next Tk).frozen 3) | (go_simp; go_at_call 92; (with_reducible refine (HC2.out _ ?_).mono ?_); (first | exact Tk | exact Below.drew Tk | exact below_drewN (Below.refl _ _) _ | exact below_drewN Tk _); rintro e wn ⟨A3, c3, rfl, ho3, hbn⟩; (try (have ha13 := apart_new ho1 ho3 (by first | exact Nat.le_refl _ | (simp; omega)))); (try (have ha23 := apart_new ho2 ho3 (by first | exact Nat.le_refl _ | (simp; omega)))); (try replace ho1 := own_next ho1 (by first | exact hbn | exact (below_drewN (Below.refl _ _) _).trans hbn)); (try replace ho2 := own_next ho2 (by first | exact hbn | exact (below_drewN (Below.refl _ _) _).trans hbn)); replace ho3 := own_mono (base' := w0.heap.size) ho3 (by exact Tk.size); replace Tk := below_next (by first | exact Tk | exact Below.drew Tk | exact below_drewN (Below.refl _ _) _ | exact below_drewN Tk _) hbn rfl; have xP0 := keepc Tk cP0; have xP1 := keepc Tk cP1; have xP2 := keepc Tk cP2; have xP3 := keepc Tk cP3; have xR0 := keepc Tk cR0; have xR1 := keepc Tk cR1; have xR2 := keepc Tk cR2; have xR3 := keepc Tk cR3; have fR0 := (BQ.next Tk).frozen 0; have fR1 := (BQ.next Tk).frozen 1; have fR2 := (BQ.next Tk).frozen 2; have fR3 := (BQ.next Tk).frozen 3))) | fail
  all_goals
    have BR := BQ.next Tk
    obtain ⟨wf, HWF⟩ : ∃ wf, Hid (wf = (((wn.setCell ⟨w.heap.size + 1, 0, none⟩ (.int .i64 k)).setCell ⟨w.heap.size + 1, 1, none⟩ (.slice A1 nL c1)).setCell ⟨w.heap.size + 1, 2, none⟩ (.slice A2 nR c2)).setCell ⟨w.heap.size + 1, 3, none⟩ (.slice A3 nV c3)) := ⟨_, rfl⟩
    have BRR : Blk wf (w.heap.size + 1) 34 #[.int .i64 k, .slice A1 nL c1, .slice A2 nR c2, .slice A3 nV c3] := by rw [HWF.out]; simpa using (((BR.set_ 0 (.int .i64 k)).set_ 1 (.slice A1 nL c1)).set_ 2 (.slice A2 nR c2)).set_ 3 (.slice A3 nV c3)
    have far : ∀ {v : Value} {n : Nat} {xs : List Value}, wn.ownsRow w0.heap.size 3 1 v n xs → wf.ownsRow w0.heap.size 3 1 v n xs := fun h => by
      rw [HWF.out]
      exact own_setF (own_setF (own_setF (own_setF h (by exact hs0)) (by exact hs0)) (by exact hs0)) (by exact hs0)
    have HO1 := Lib.hid (far ho1)
    have HO2 := Lib.hid (far ho2)
    have HO3 := Lib.hid (far ho3)
    have HTT : Hid (Below w.heap.size w wf) := by
      show Below _ _ _
      rw [HWF.out]
      exact ((((below_next HT0.out Tk rfl).setCell (p := ⟨w.heap.size + 1, 0, none⟩) (show w.heap.size ≤ w.heap.size + 1 by omega) _).setCell (p := ⟨w.heap.size + 1, 1, none⟩) (show w.heap.size ≤ w.heap.size + 1 by omega) _).setCell (p := ⟨w.heap.size + 1, 2, none⟩) (show w.heap.size ≤ w.heap.size + 1 by omega) _).setCell (p := ⟨w.heap.size + 1, 3, none⟩) (show w.heap.size ≤ w.heap.size + 1 by omega) _
    have HAP := Lib.hid (And.intro ha12 (And.intro ha13 ha23))
    clear ho1 ho2 ho3 BR ha12 ha13 ha23 far
    go_wp2_with fail
    rw [← HWF.out]
    (try simp only [Exit.inBlock, Exit.then])
    refine bodyPost_ret (v := .agg #[.int .i64 k, .slice A1 nL c1, .slice A2 nR c2, .slice A3 nV c3]) (results_cell_row rfl _ _ (w.heap.size + 1) 34 #[.int .i64 k, .slice A1 nL c1, .slice A2 nR c2, .slice A3 nV c3] (0, 0) _ (by simp) BRR Tryz.underlying34 rfl (by kernel_rfl)) rfl ?_
    exact ⟨A1, c1, A2, c2, A3, c3, rfl, own_mono HO1.out HT0.out.size, own_mono HO2.out HT0.out.size, own_mono HO3.out HT0.out.size, HAP.out.1, HAP.out.2.1, HAP.out.2.2, HTT.out⟩
end Go.Proofs.YtidjocikbmkjbaaGreat
