
/- Walks: l32Rename in the reference. -/
import Derived.Test.YtidjocikbmkjbaaGreatRfS
import Derived.Test.YtidjocikbmkjbaaGreatHomS
import Derived.Deep.CutBlock
namespace Go.Proofs.YtidjocikbmkjbaaGreat
open Go.RowKit
set_option linter.unusedVariables false
set_option linter.unusedSimpArgs false
/-- A store into a block of another type leaves a row as it is. -/
theorem own_setT {w : World} {base size n g i : Nat} {e t : TypeId} {v u : Value} {xs : List Value} {cs : Array Value} (h : w.ownsRow base e size v n xs) (hB : Blk w g t cs) (hne : e ≠ t) : (w.setCell ⟨g, i, none⟩ u).ownsRow base e size v n xs := by
  refine own_same h fun b hb => Below.heap_setCell w _ u b ?_
  obtain ⟨h1, h2⟩ := h
  rcases h2 with ⟨h2, h3⟩ | ⟨g', cap, cur, hv, hb', hg, _⟩
  · subst h2
    simp [Value.ownBlock] at hb
  · subst hv
    simp [Value.ownBlock] at hb
    subst hb
    rintro rfl
    unfold Blk at hB
    rw [hg] at hB
    simp at hB
    first | exact hne hB.2 | exact hne hB.2.symm | exact hne hB.1
theorem Blk.new2 (w : World) (o : Obj) (t : TypeId) (cs : Array Value) : Blk ((w.alloc o).alloc (.cells cs t)) (w.heap.size + 1) t cs := by
  have := Blk.new (w.alloc o) t cs
  rwa [show (w.alloc o).heap.size = w.heap.size + 1 by simp] at this
/-- The box of a new fact, when it has been filled. -/
theorem fin_box {w0 W : World} {g nL nR : Nat} {k : Int} {v1 v2 v3 : Value} {xs ys : List Value} (hB : Blk W g 34 #[.int .i64 0, .slice none 0 0, .slice none 0 0, .slice none 0 0])
    (h1 : W.ownsRow w0.heap.size 3 1 v1 nL xs) (h2 : W.ownsRow w0.heap.size 3 1 v2 nR ys) (h3 : W.ownsRow w0.heap.size 3 1 v3 0 []) (hT : Below w0.heap.size w0 W) (hg : w0.heap.size ≤ g) :
    ∀ W', W' = (((W.setCell ⟨g, 0, none⟩ (.int .i64 k)).setCell ⟨g, 1, none⟩ v1).setCell ⟨g, 2, none⟩ v2).setCell ⟨g, 3, none⟩ v3 →
      Blk W' g 34 #[.int .i64 k, v1, v2, v3] ∧ W'.ownsRow w0.heap.size 3 1 v1 nL xs ∧ W'.ownsRow w0.heap.size 3 1 v2 nR ys ∧ W'.ownsRow w0.heap.size 3 1 v3 0 [] ∧ Below w0.heap.size w0 W' := by
  rintro W' rfl
  have B1 := hB.set_ 0 (.int .i64 k)
  have B2 := B1.set_ 1 v1
  have B3 := B2.set_ 2 v2
  have B4 := B3.set_ 3 v3
  have hne : 3 ≠ 34 := by decide
  refine ⟨by simpa using B4, own_setT (own_setT (own_setT (own_setT h1 hB hne) B1 hne) B2 hne) B3 hne, own_setT (own_setT (own_setT (own_setT h2 hB hne) B1 hne) B2 hne) B3 hne, own_setT (own_setT (own_setT (own_setT h3 hB hne) B1 hne) B2 hne) B3 hne, ?_⟩
  exact (((hT.setCell (p := ⟨g, 0, none⟩) hg _).setCell (p := ⟨g, 1, none⟩) hg _).setCell (p := ⟨g, 2, none⟩) hg _).setCell (p := ⟨g, 3, none⟩) hg _
-- printed
theorem own_setA {w : World} {base size n : Nat} {e : TypeId} {v u : Value} {xs : List Value} {p : Addr} (h : w.ownsRow base e size v n xs) (hne : ∀ q, v.ownBlock = some q → q ≠ p.block) : (w.setCell p u).ownsRow base e size v n xs := own_same h fun b hb => Below.heap_setCell w p u b (hne b hb)
theorem put_pos {xs L : List Int} {y : Int} (h : PutP xs y L) : 0 < L.length := by
  obtain ⟨k, hk, -, ⟨h1, rfl⟩ | ⟨-, rfl⟩⟩ := h
  · have := (List.getElem?_eq_some_iff.1 h1).1
    omega
  · simp
    omega
theorem nats_of {n : Nat} {V : List Int} (h : InL n V) : nats (V.map Int.toNat) = V ∧ ∀ z ∈ V.map Int.toNat, z < n := by
  constructor
  · unfold nats
    rw [List.map_map]
    conv => rhs; rw [← List.map_id V]
    refine List.map_congr_left fun v hv => ?_
    have := h v hv
    show ((v.toNat : Nat) : Int) = v
    omega
  · intro z hz
    obtain ⟨v, hv, rfl⟩ := List.mem_map.1 hz
    have := h v hv
    omega
theorem comp_nats {n : Nat} {V s : List Int} (hs : PermL n s) (h : InL n V) : nats ((V.map Int.toNat).map (nmAt s)) = comp V s := by
  unfold nats comp
  rw [List.map_map, List.map_map]
  refine List.map_congr_left fun v hv => ?_
  have hv2 := h v hv
  show ((nmAt s v.toNat : Nat) : Int) = nmI s v
  have := nmAt_nmI hs (x := v.toNat) (by omega)
  rw [this]
  congr 1
  omega
set_option maxRecDepth 20000 in
set_option maxHeartbeats 16000000 in
theorem l32Rename_any (k : Int) (AL : Option Addr) (nL cL : Nat) (AR : Option Addr) (nR cR : Nat) (AV : Option Addr) (nV cV : Nat) (AS : Option Addr) (n cS : Nat) (L R V s : List Int) (w : World) (hL : RdL RI w AL nL L) (hR : RdL RI w AR nR R) (hV : RdL RI w AV nV V) (hS : RdL RI w AS n s)
    (hp : PermL n s) (hn : n ≤ 1000) (h1 : nL ≤ 1048576) (h2 : nR ≤ 1048576) (h3 : nV ≤ 1000) (hVi : InL n V) (hk : 1 ≤ k ∧ k ≤ 6) (hk1 : k = 1 → V = []) (h35 : k = 3 ∨ k = 5 → V.Nodup) (h46 : k = 4 ∨ k = 6 → V.length = n) :
    Calls Tryz.prog 24 #[.agg #[.int .i64 k, .slice AL nL cL, .slice AR nR cR, .slice AV nV cV], .slice AS n cS] w (CfE w (k, (L, R), rfL k V s)) := by
  obtain rfl : L.length = nL := hL.len
  obtain rfl : R.length = nR := hR.len
  obtain ⟨nL, HNL⟩ : ∃ n, Hid (L.length = n) := ⟨_, rfl⟩
  obtain ⟨nR, HNR⟩ : ∃ n, Hid (R.length = n) := ⟨_, rfl⟩
  obtain ⟨X, HX⟩ : ∃ X, Hid (rfL k V s = X) := ⟨_, rfl⟩
  obtain ⟨nX, HNX⟩ : ∃ q, Hid (X.length = q) := ⟨_, rfl⟩
  rw [HX.out]
  unfold CfE
  simp only
  rw [HNX.out]
  rw [HNL.out] at hL h1 ⊢
  rw [HNR.out] at hR h2 ⊢
  have hsl : s.length = n := hp.1
  obtain ⟨w0, hw0, T0, hsz0, BP, BQ⟩ := boxes2 w #[.int .i64 k, .slice AL nL cL, .slice AR nR cR, .slice AV nV cV] #[.int .i64 0, .slice none 0 0, .slice none 0 0, .slice none 0 0] 34 34
  have HW0 := Lib.hid hw0
  have HC : Hid (∀ wz, Below w0.heap.size w0 wz → Calls Tryz.prog 51 #[.agg #[.slice AL nL cL, .slice AR nR cR]] wz fun e w' => ∃ A1 c1 A2 c2, e = .returned (.agg #[.slice A1 nL c1, .slice A2 nR c2]) ∧ w'.ownsRow wz.heap.size 3 1 (.slice A1 nL c1) nL (ints L) ∧ w'.ownsRow wz.heap.size 3 1 (.slice A2 nR c2) nR (ints R) ∧ Apart (.slice A1 nL c1) (.slice A2 nR c2) ∧ Below wz.heap.size wz w') := fun wz hz => by
    have := l4Own_any AL nL cL AR nR cR L R wz ((hL.next stab_RI T0).next stab_RI hz) ((hR.next stab_RI T0).next stab_RI hz) h1 h2
    unfold CeE at this
    rw [HNL.out, HNR.out] at this
    exact this
  have HVR : Hid (∀ wz, Below w0.heap.size w0 wz → RdL RI wz AV nV V) := fun wz hz => (hV.next stab_RI T0).next stab_RI hz
  have HSR : Hid (∀ wz, Below w0.heap.size w0 wz → RdL RI wz AS n s) := fun wz hz => (hS.next stab_RI T0).next stab_RI hz
  have HP := Lib.hid hp
  have HVI := Lib.hid hVi
  have HVL := Lib.hid hV.len
  have HK1 := Lib.hid hk1
  have H35 := Lib.hid h35
  have H46 := Lib.hid h46
  have HSL := Lib.hid hsl
  have cP0 := BP.cell 0
  have cP1 := BP.cell 1
  have cP2 := BP.cell 2
  have cP3 := BP.cell 3
  simp at cP0 cP1 cP2 cP3
  have HCP : Hid (w0.cell? ⟨w.heap.size, 0, none⟩ = some (.int .i64 k) ∧ w0.cell? ⟨w.heap.size, 1, none⟩ = some (.slice AL nL cL) ∧ w0.cell? ⟨w.heap.size, 2, none⟩ = some (.slice AR nR cR) ∧ w0.cell? ⟨w.heap.size, 3, none⟩ = some (.slice AV nV cV)) := ⟨cP0, cP1, cP2, cP3⟩
  have hs0 : w.heap.size + 1 < w0.heap.size := by omega
  have HT0 := Lib.hid T0
  have Tk : Below w0.heap.size w0 w0 := Below.refl _ _
  clear hw0 hsz0 hL hR hV hS hp hVi hk1 h35 h46 hsl T0
  go_enter Tryz.func24, Tryz.ntmps24
  go_upto_region 1 with fail
  rw [← HW0.out]
  have c00 := cP0
  have c01 := cP1
  have c02 := cP2
  have c03 := cP3
  have c00 := cP0
  have c01 := cP1
  have c02 := cP2
  have c03 := cP3
  have c00 := cP0
  have c01 := cP1
  have c02 := cP2
  have c03 := cP3
  have c00 := cP0
  have c01 := cP1
  have c02 := cP2
  have c03 := cP3
  have c00 := cP0
  have c01 := cP1
  have c02 := cP2
  have c03 := cP3
  have c00 := cP0
  have c01 := cP1
  have c02 := cP2
  have c03 := cP3
  have c00 := cP0
  have c01 := cP1
  have c02 := cP2
  have c03 := cP3
  go_cut [5] from 8 to 14 (fun u5 wx => ∃ g ge A1 c1 A2 c2, u5 = .pointer (some ⟨g, 0, none⟩) ∧ w0.heap.size ≤ g ∧ Blk wx g 34 #[.int .i64 k, .slice A1 nL c1, .slice A2 nR c2, .slice (some ⟨ge, 0, none⟩) 0 0] ∧ wx.ownsRow w0.heap.size 3 1 (.slice A1 nL c1) nL (ints L) ∧ wx.ownsRow w0.heap.size 3 1 (.slice A2 nR c2) nR (ints R) ∧ wx.ownsRow w0.heap.size 3 1 (.slice (some ⟨ge, 0, none⟩) 0 0) 0 [] ∧ Below w0.heap.size w0 wx ∧ Apart (.slice A1 nL c1) (.slice A2 nR c2) ∧ Apart (.slice A1 nL c1) (.slice (some ⟨ge, 0, none⟩) 0 0) ∧ Apart (.slice A2 nR c2) (.slice (some ⟨ge, 0, none⟩) 0 0))
  case first =>
    refine wp_region_held_drew (S := fun w' => w'.cell? ⟨w.heap.size, 0, none⟩ = some (.int .i64 k) ∧ w'.cell? ⟨w.heap.size, 1, none⟩ = some (.slice AL nL cL) ∧ w'.cell? ⟨w.heap.size, 2, none⟩ = some (.slice AR nR cR)) (by kernel_rfl) ⟨cP0, cP1, cP2⟩ (fun hHeld0 => ?_)
    obtain ⟨wt1, Hwt1⟩ : ∃ x, Hid (x = World.drew w0) := ⟨_, rfl⟩
    have hbwt1 : Below w0.heap.size w0 wt1 := by rw [Hwt1.out]; exact (Below.refl _ _).drew
    rw [← Hwt1.out] at hHeld0 ⊢
    have ywt1 := hbwt1.size
    replace Tk := below_next Tk hbwt1 rfl
    replace cP0 := keepc hbwt1 cP0
    replace cP1 := keepc hbwt1 cP1
    replace cP2 := keepc hbwt1 cP2
    refine wpAnyH_take (i := 0) (v := .pointer (some ⟨w.heap.size, 0, none⟩)) rfl (by kernel_rfl) (by kernel_rfl) (by kernel_rfl) (fun _ _ _ h => h) (Or.inl ⟨by kernel_rfl, fun _ _ => by go_simp⟩) (by assumption) ?_
    (try simp only [Act.put, List.getElem_toArray, List.getElem_cons_zero, List.getElem_cons_succ, List.setIfInBounds_toArray, List.set_cons_zero, List.set_cons_succ])
    refine wpAnyH_take (i := 1) (v := .int .i64 k) rfl (by kernel_rfl) (by kernel_rfl) (by kernel_rfl) (fun _ _ _ h => h) (Or.inl ⟨by kernel_rfl, fun wv hSw => by (obtain ⟨hS0, hS1, hS2⟩ := hSw); go_simp⟩) (by assumption) ?_
    (try simp only [Act.put, List.getElem_toArray, List.getElem_cons_zero, List.getElem_cons_succ, List.setIfInBounds_toArray, List.set_cons_zero, List.set_cons_succ])
    refine wpAnyH_take (i := 2) (v := .pointer (some ⟨w.heap.size, 1, none⟩)) rfl (by kernel_rfl) (by kernel_rfl) (by kernel_rfl) (fun _ _ _ h => h) (Or.inl ⟨by kernel_rfl, fun _ _ => by go_simp⟩) (by assumption) ?_
    (try simp only [Act.put, List.getElem_toArray, List.getElem_cons_zero, List.getElem_cons_succ, List.setIfInBounds_toArray, List.set_cons_zero, List.set_cons_succ])
    refine wpAnyH_take (i := 3) (v := .agg #[.slice AL nL cL, .slice AR nR cR]) rfl (by kernel_rfl) (by kernel_rfl) (by kernel_rfl) (fun _ _ _ h => h) (Or.inl ⟨by kernel_rfl, fun wv hSw => by (obtain ⟨hS0, hS1, hS2⟩ := hSw); go_simp⟩) (by assumption) ?_
    (try simp only [Act.put, List.getElem_toArray, List.getElem_cons_zero, List.getElem_cons_succ, List.setIfInBounds_toArray, List.set_cons_zero, List.set_cons_succ])
    refine wpAnyH_ready (rs := [4, 5, 7]) (by kernel_rfl) (by simp) ?_
    refine (AllReadyH.cons rfl (fun K hK => ?_) (AllReadyH.cons rfl (fun K hK => ?_) (AllReadyH.cons rfl (fun K hK => ?_) AllReadyH.nil)))
    · go_simp
      refine (HC.out _ Tk).mono ?_
      rintro e wt2 ⟨A1, c1, A2, c2, rfl, ho1, ho2, ha12, hbwt2⟩
      replace ho1 := own_mono (base' := w0.heap.size) ho1 Tk.size
      replace ho2 := own_mono (base' := w0.heap.size) ho2 Tk.size
      go_wp2_with fail
      have ywt2 := hbwt2.size
      replace Tk := below_next Tk hbwt2 rfl
      replace cP0 := keepc hbwt2 cP0
      replace cP1 := keepc hbwt2 cP1
      replace cP2 := keepc hbwt2 cP2
      refine hK.out _ _ ⟨cP0, cP1, cP2⟩ (fun hHeld1 => ?_)
      clear hK K hHeld0
      (try simp only [Act.put, List.getElem_toArray, List.getElem_cons_zero, List.getElem_cons_succ, List.setIfInBounds_toArray, List.set_cons_zero, List.set_cons_succ])
      refine wpAnyH_ready (rs := [5, 7]) (by kernel_rfl) (by simp) ?_
      refine (AllReadyH.cons rfl (fun K hK => ?_) (AllReadyH.cons rfl (fun K hK => ?_) AllReadyH.nil))
      · have hq1 := ho1
        have hq2 := ho2
        go_simp
        obtain ⟨wt3, Hwt3⟩ : ∃ x, Hid (x = wt2.alloc (.cells #[] 3)) := ⟨_, rfl⟩
        rw [← Hwt3.out]
        have hbwt3 : Below wt2.heap.size wt2 wt3 := by rw [Hwt3.out]; exact below_box _ _
        have Bwt3 : Blk wt3 wt2.heap.size 3 #[] := by rw [Hwt3.out]; exact Blk.new _ _ _
        have zwt3 : wt2.heap.size < wt3.heap.size := Bwt3.lt
        have ywt3 := hbwt3.size
        replace Tk := below_next Tk hbwt3 rfl
        replace ho1 := own_next ho1 hbwt3
        replace ho2 := own_next ho2 hbwt3
        replace cP0 := keepc hbwt3 cP0
        replace cP1 := keepc hbwt3 cP1
        replace cP2 := keepc hbwt3 cP2
        have Owt3 : wt3.ownsRow wt2.heap.size 3 1 (.slice (some ⟨wt2.heap.size, 0, none⟩) 0 0) 0 [] := by rw [Hwt3.out]; exact World.ownsRow_lit wt2 #[] 0 (Nat.le_refl _) (Nat.zero_le _) rfl
        refine hK.out _ _ ⟨cP0, cP1, cP2⟩ (fun hHeld2 => ?_)
        clear hK K hHeld1
        (try simp only [Act.put, List.getElem_toArray, List.getElem_cons_zero, List.getElem_cons_succ, List.setIfInBounds_toArray, List.set_cons_zero, List.set_cons_succ])
        have ha1e : Apart (.slice A1 nL c1) (.slice (some ⟨wt2.heap.size, 0, none⟩) 0 0) := apart_new hq1 Owt3 (Nat.le_refl _)
        have ha2e : Apart (.slice A2 nR c2) (.slice (some ⟨wt2.heap.size, 0, none⟩) 0 0) := apart_new hq2 Owt3 (Nat.le_refl _)
        refine wpAnyH_take (i := 6) (v := .agg #[.int .i64 k, .slice A1 nL c1, .slice A2 nR c2, .slice (some ⟨wt2.heap.size, 0, none⟩) 0 0]) rfl (by kernel_rfl) (by kernel_rfl) (by kernel_rfl) (fun _ _ _ h => h) (Or.inl ⟨by kernel_rfl, fun _ _ => by go_simp⟩) (by assumption) ?_
        (try simp only [Act.put, List.getElem_toArray, List.getElem_cons_zero, List.getElem_cons_succ, List.setIfInBounds_toArray, List.set_cons_zero, List.set_cons_succ])
        refine wpAnyH_ready (rs := [7]) (by kernel_rfl) (by simp) ?_
        refine (AllReadyH.cons rfl (fun K hK => ?_) AllReadyH.nil)
        go_simp
        obtain ⟨wt4, Hwt4⟩ : ∃ x, Hid (x = wt3.alloc (.cells #[.int .i64 0, .slice none 0 0, .slice none 0 0, .slice none 0 0] 34)) := ⟨_, rfl⟩
        rw [← Hwt4.out]
        have hbwt4 : Below wt3.heap.size wt3 wt4 := by rw [Hwt4.out]; exact below_box _ _
        have Bwt4 : Blk wt4 wt3.heap.size 34 #[.int .i64 0, .slice none 0 0, .slice none 0 0, .slice none 0 0] := by rw [Hwt4.out]; exact Blk.new _ _ _
        have zwt4 : wt3.heap.size < wt4.heap.size := Bwt4.lt
        have ywt4 := hbwt4.size
        replace Tk := below_next Tk hbwt4 rfl
        replace ho1 := own_next ho1 hbwt4
        replace ho2 := own_next ho2 hbwt4
        replace Bwt3 := Bwt3.next hbwt4
        replace Owt3 := own_next Owt3 hbwt4
        replace cP0 := keepc hbwt4 cP0
        replace cP1 := keepc hbwt4 cP1
        replace cP2 := keepc hbwt4 cP2
        refine hK.out _ _ ⟨cP0, cP1, cP2⟩ (fun hHeld3 => ?_)
        clear hK K hHeld2
        (try simp only [Act.put, List.getElem_toArray, List.getElem_cons_zero, List.getElem_cons_succ, List.setIfInBounds_toArray, List.set_cons_zero, List.set_cons_succ])
        refine wpAnyH_ready (rs := [8]) (by kernel_rfl) (by simp) ?_
        refine (AllReadyH.cons rfl (fun K hK => ?_) AllReadyH.nil)
        have gC0 := Bwt4.cell 0
        have gC1 := Bwt4.cell 1
        have gC2 := Bwt4.cell 2
        have gC3 := Bwt4.cell 3
        simp at gC0 gC1 gC2 gC3
        have gF0 := Bwt4.frozen 0
        have gF1 := Bwt4.frozen 1
        have gF2 := Bwt4.frozen 2
        have gF3 := Bwt4.frozen 3
        go_simp
        obtain ⟨wt5, Hwt5⟩ : ∃ x, Hid (x = (((wt4.setCell ⟨wt3.heap.size, 0, none⟩ (.int .i64 k)).setCell ⟨wt3.heap.size, 1, none⟩ (.slice A1 nL c1)).setCell ⟨wt3.heap.size, 2, none⟩ (.slice A2 nR c2)).setCell ⟨wt3.heap.size, 3, none⟩ (.slice (some ⟨wt2.heap.size, 0, none⟩) 0 0)) := ⟨_, rfl⟩
        rw [← Hwt5.out]
        have hge : w0.heap.size ≤ wt3.heap.size := by omega
        have hee : w0.heap.size ≤ wt2.heap.size := by omega
        have HF := fin_box (w0 := w0) (g := wt3.heap.size) (k := k) Bwt4 ho1 ho2 (own_mono Owt3 hee) Tk hge _ Hwt5.out
        obtain ⟨BGf, HOF⟩ := HF
        have HAP : Hid (Apart (.slice A1 nL c1) (.slice A2 nR c2) ∧ Apart (.slice A1 nL c1) (.slice (some ⟨wt2.heap.size, 0, none⟩) 0 0) ∧ Apart (.slice A2 nR c2) (.slice (some ⟨wt2.heap.size, 0, none⟩) 0 0)) := ⟨ha12, ha1e, ha2e⟩
        replace cP0 := keepc HOF.2.2.2 c00
        replace cP1 := keepc HOF.2.2.2 c01
        replace cP2 := keepc HOF.2.2.2 c02
        refine hK.out _ _ ⟨cP0, cP1, cP2⟩ (fun hHeld4 => ?_)
        clear hK K hHeld3
        (try simp only [Act.put, List.getElem_toArray, List.getElem_cons_zero, List.getElem_cons_succ, List.setIfInBounds_toArray, List.set_cons_zero, List.set_cons_succ])
        refine wpAnyH_done (by kernel_rfl) ?_ _
        go_wp2_with fail
        go_meet
        exact ⟨_, _, A1, c1, A2, c2, rfl, by omega, BGf, HOF.1, HOF.2.1, HOF.2.2.1, HOF.2.2.2, HAP.out.1, HAP.out.2.1, HAP.out.2.2⟩
      · go_simp
        obtain ⟨wt6, Hwt6⟩ : ∃ x, Hid (x = wt2.alloc (.cells #[.int .i64 0, .slice none 0 0, .slice none 0 0, .slice none 0 0] 34)) := ⟨_, rfl⟩
        rw [← Hwt6.out]
        have hbwt6 : Below wt2.heap.size wt2 wt6 := by rw [Hwt6.out]; exact below_box _ _
        have Bwt6 : Blk wt6 wt2.heap.size 34 #[.int .i64 0, .slice none 0 0, .slice none 0 0, .slice none 0 0] := by rw [Hwt6.out]; exact Blk.new _ _ _
        have zwt6 : wt2.heap.size < wt6.heap.size := Bwt6.lt
        have ywt6 := hbwt6.size
        replace Tk := below_next Tk hbwt6 rfl
        replace ho1 := own_next ho1 hbwt6
        replace ho2 := own_next ho2 hbwt6
        replace cP0 := keepc hbwt6 cP0
        replace cP1 := keepc hbwt6 cP1
        replace cP2 := keepc hbwt6 cP2
        refine hK.out _ _ ⟨cP0, cP1, cP2⟩ (fun hHeld2 => ?_)
        clear hK K hHeld1
        (try simp only [Act.put, List.getElem_toArray, List.getElem_cons_zero, List.getElem_cons_succ, List.setIfInBounds_toArray, List.set_cons_zero, List.set_cons_succ])
        refine wpAnyH_ready (rs := [5]) (by kernel_rfl) (by simp) ?_
        refine (AllReadyH.cons rfl (fun K hK => ?_) AllReadyH.nil)
        have hq1 := ho1
        have hq2 := ho2
        go_simp
        obtain ⟨wt7, Hwt7⟩ : ∃ x, Hid (x = wt6.alloc (.cells #[] 3)) := ⟨_, rfl⟩
        rw [← Hwt7.out]
        have hbwt7 : Below wt6.heap.size wt6 wt7 := by rw [Hwt7.out]; exact below_box _ _
        have Bwt7 : Blk wt7 wt6.heap.size 3 #[] := by rw [Hwt7.out]; exact Blk.new _ _ _
        have zwt7 : wt6.heap.size < wt7.heap.size := Bwt7.lt
        have ywt7 := hbwt7.size
        replace Tk := below_next Tk hbwt7 rfl
        replace ho1 := own_next ho1 hbwt7
        replace ho2 := own_next ho2 hbwt7
        replace Bwt6 := Bwt6.next hbwt7
        replace cP0 := keepc hbwt7 cP0
        replace cP1 := keepc hbwt7 cP1
        replace cP2 := keepc hbwt7 cP2
        have Owt7 : wt7.ownsRow wt6.heap.size 3 1 (.slice (some ⟨wt6.heap.size, 0, none⟩) 0 0) 0 [] := by rw [Hwt7.out]; exact World.ownsRow_lit wt6 #[] 0 (Nat.le_refl _) (Nat.zero_le _) rfl
        refine hK.out _ _ ⟨cP0, cP1, cP2⟩ (fun hHeld3 => ?_)
        clear hK K hHeld2
        (try simp only [Act.put, List.getElem_toArray, List.getElem_cons_zero, List.getElem_cons_succ, List.setIfInBounds_toArray, List.set_cons_zero, List.set_cons_succ])
        have ha1e : Apart (.slice A1 nL c1) (.slice (some ⟨wt6.heap.size, 0, none⟩) 0 0) := apart_new hq1 Owt7 (Nat.le_refl _)
        have ha2e : Apart (.slice A2 nR c2) (.slice (some ⟨wt6.heap.size, 0, none⟩) 0 0) := apart_new hq2 Owt7 (Nat.le_refl _)
        refine wpAnyH_take (i := 6) (v := .agg #[.int .i64 k, .slice A1 nL c1, .slice A2 nR c2, .slice (some ⟨wt6.heap.size, 0, none⟩) 0 0]) rfl (by kernel_rfl) (by kernel_rfl) (by kernel_rfl) (fun _ _ _ h => h) (Or.inl ⟨by kernel_rfl, fun _ _ => by go_simp⟩) (by assumption) ?_
        (try simp only [Act.put, List.getElem_toArray, List.getElem_cons_zero, List.getElem_cons_succ, List.setIfInBounds_toArray, List.set_cons_zero, List.set_cons_succ])
        refine wpAnyH_ready (rs := [8]) (by kernel_rfl) (by simp) ?_
        refine (AllReadyH.cons rfl (fun K hK => ?_) AllReadyH.nil)
        have gC0 := Bwt6.cell 0
        have gC1 := Bwt6.cell 1
        have gC2 := Bwt6.cell 2
        have gC3 := Bwt6.cell 3
        simp at gC0 gC1 gC2 gC3
        have gF0 := Bwt6.frozen 0
        have gF1 := Bwt6.frozen 1
        have gF2 := Bwt6.frozen 2
        have gF3 := Bwt6.frozen 3
        go_simp
        obtain ⟨wt8, Hwt8⟩ : ∃ x, Hid (x = (((wt7.setCell ⟨wt2.heap.size, 0, none⟩ (.int .i64 k)).setCell ⟨wt2.heap.size, 1, none⟩ (.slice A1 nL c1)).setCell ⟨wt2.heap.size, 2, none⟩ (.slice A2 nR c2)).setCell ⟨wt2.heap.size, 3, none⟩ (.slice (some ⟨wt6.heap.size, 0, none⟩) 0 0)) := ⟨_, rfl⟩
        rw [← Hwt8.out]
        have hge : w0.heap.size ≤ wt2.heap.size := by omega
        have hee : w0.heap.size ≤ wt6.heap.size := by omega
        have HF := fin_box (w0 := w0) (g := wt2.heap.size) (k := k) Bwt6 ho1 ho2 (own_mono Owt7 hee) Tk hge _ Hwt8.out
        obtain ⟨BGf, HOF⟩ := HF
        have HAP : Hid (Apart (.slice A1 nL c1) (.slice A2 nR c2) ∧ Apart (.slice A1 nL c1) (.slice (some ⟨wt6.heap.size, 0, none⟩) 0 0) ∧ Apart (.slice A2 nR c2) (.slice (some ⟨wt6.heap.size, 0, none⟩) 0 0)) := ⟨ha12, ha1e, ha2e⟩
        replace cP0 := keepc HOF.2.2.2 c00
        replace cP1 := keepc HOF.2.2.2 c01
        replace cP2 := keepc HOF.2.2.2 c02
        refine hK.out _ _ ⟨cP0, cP1, cP2⟩ (fun hHeld4 => ?_)
        clear hK K hHeld3
        (try simp only [Act.put, List.getElem_toArray, List.getElem_cons_zero, List.getElem_cons_succ, List.setIfInBounds_toArray, List.set_cons_zero, List.set_cons_succ])
        refine wpAnyH_done (by kernel_rfl) ?_ _
        go_wp2_with fail
        go_meet
        exact ⟨_, _, A1, c1, A2, c2, rfl, by omega, BGf, HOF.1, HOF.2.1, HOF.2.2.1, HOF.2.2.2, HAP.out.1, HAP.out.2.1, HAP.out.2.2⟩
    · skip
      go_simp
      obtain ⟨wt9, Hwt9⟩ : ∃ x, Hid (x = wt1.alloc (.cells #[] 3)) := ⟨_, rfl⟩
      rw [← Hwt9.out]
      have hbwt9 : Below wt1.heap.size wt1 wt9 := by rw [Hwt9.out]; exact below_box _ _
      have Bwt9 : Blk wt9 wt1.heap.size 3 #[] := by rw [Hwt9.out]; exact Blk.new _ _ _
      have zwt9 : wt1.heap.size < wt9.heap.size := Bwt9.lt
      have ywt9 := hbwt9.size
      replace Tk := below_next Tk hbwt9 rfl
      replace cP0 := keepc hbwt9 cP0
      replace cP1 := keepc hbwt9 cP1
      replace cP2 := keepc hbwt9 cP2
      have Owt9 : wt9.ownsRow wt1.heap.size 3 1 (.slice (some ⟨wt1.heap.size, 0, none⟩) 0 0) 0 [] := by rw [Hwt9.out]; exact World.ownsRow_lit wt1 #[] 0 (Nat.le_refl _) (Nat.zero_le _) rfl
      refine hK.out _ _ ⟨cP0, cP1, cP2⟩ (fun hHeld1 => ?_)
      clear hK K hHeld0
      (try simp only [Act.put, List.getElem_toArray, List.getElem_cons_zero, List.getElem_cons_succ, List.setIfInBounds_toArray, List.set_cons_zero, List.set_cons_succ])
      refine wpAnyH_ready (rs := [4, 7]) (by kernel_rfl) (by simp) ?_
      refine (AllReadyH.cons rfl (fun K hK => ?_) (AllReadyH.cons rfl (fun K hK => ?_) AllReadyH.nil))
      · go_simp
        refine (HC.out _ Tk).mono ?_
        rintro e wt10 ⟨A1, c1, A2, c2, rfl, ho1, ho2, ha12, hbwt10⟩
        have ha1e := (apart_new Owt9 ho1 (Nat.le_refl _)).symm
        have ha2e := (apart_new Owt9 ho2 (Nat.le_refl _)).symm
        replace ho1 := own_mono (base' := w0.heap.size) ho1 Tk.size
        replace ho2 := own_mono (base' := w0.heap.size) ho2 Tk.size
        go_wp2_with fail
        have ywt10 := hbwt10.size
        replace Tk := below_next Tk hbwt10 rfl
        replace Bwt9 := Bwt9.next hbwt10
        replace Owt9 := own_next Owt9 hbwt10
        replace cP0 := keepc hbwt10 cP0
        replace cP1 := keepc hbwt10 cP1
        replace cP2 := keepc hbwt10 cP2
        refine hK.out _ _ ⟨cP0, cP1, cP2⟩ (fun hHeld2 => ?_)
        clear hK K hHeld1
        (try simp only [Act.put, List.getElem_toArray, List.getElem_cons_zero, List.getElem_cons_succ, List.setIfInBounds_toArray, List.set_cons_zero, List.set_cons_succ])
        refine wpAnyH_take (i := 6) (v := .agg #[.int .i64 k, .slice A1 nL c1, .slice A2 nR c2, .slice (some ⟨wt1.heap.size, 0, none⟩) 0 0]) rfl (by kernel_rfl) (by kernel_rfl) (by kernel_rfl) (fun _ _ _ h => h) (Or.inl ⟨by kernel_rfl, fun _ _ => by go_simp⟩) (by assumption) ?_
        (try simp only [Act.put, List.getElem_toArray, List.getElem_cons_zero, List.getElem_cons_succ, List.setIfInBounds_toArray, List.set_cons_zero, List.set_cons_succ])
        refine wpAnyH_ready (rs := [7]) (by kernel_rfl) (by simp) ?_
        refine (AllReadyH.cons rfl (fun K hK => ?_) AllReadyH.nil)
        go_simp
        obtain ⟨wt11, Hwt11⟩ : ∃ x, Hid (x = wt10.alloc (.cells #[.int .i64 0, .slice none 0 0, .slice none 0 0, .slice none 0 0] 34)) := ⟨_, rfl⟩
        rw [← Hwt11.out]
        have hbwt11 : Below wt10.heap.size wt10 wt11 := by rw [Hwt11.out]; exact below_box _ _
        have Bwt11 : Blk wt11 wt10.heap.size 34 #[.int .i64 0, .slice none 0 0, .slice none 0 0, .slice none 0 0] := by rw [Hwt11.out]; exact Blk.new _ _ _
        have zwt11 : wt10.heap.size < wt11.heap.size := Bwt11.lt
        have ywt11 := hbwt11.size
        replace Tk := below_next Tk hbwt11 rfl
        replace Bwt9 := Bwt9.next hbwt11
        replace Owt9 := own_next Owt9 hbwt11
        replace ho1 := own_next ho1 hbwt11
        replace ho2 := own_next ho2 hbwt11
        replace cP0 := keepc hbwt11 cP0
        replace cP1 := keepc hbwt11 cP1
        replace cP2 := keepc hbwt11 cP2
        refine hK.out _ _ ⟨cP0, cP1, cP2⟩ (fun hHeld3 => ?_)
        clear hK K hHeld2
        (try simp only [Act.put, List.getElem_toArray, List.getElem_cons_zero, List.getElem_cons_succ, List.setIfInBounds_toArray, List.set_cons_zero, List.set_cons_succ])
        refine wpAnyH_ready (rs := [8]) (by kernel_rfl) (by simp) ?_
        refine (AllReadyH.cons rfl (fun K hK => ?_) AllReadyH.nil)
        have gC0 := Bwt11.cell 0
        have gC1 := Bwt11.cell 1
        have gC2 := Bwt11.cell 2
        have gC3 := Bwt11.cell 3
        simp at gC0 gC1 gC2 gC3
        have gF0 := Bwt11.frozen 0
        have gF1 := Bwt11.frozen 1
        have gF2 := Bwt11.frozen 2
        have gF3 := Bwt11.frozen 3
        go_simp
        obtain ⟨wt12, Hwt12⟩ : ∃ x, Hid (x = (((wt11.setCell ⟨wt10.heap.size, 0, none⟩ (.int .i64 k)).setCell ⟨wt10.heap.size, 1, none⟩ (.slice A1 nL c1)).setCell ⟨wt10.heap.size, 2, none⟩ (.slice A2 nR c2)).setCell ⟨wt10.heap.size, 3, none⟩ (.slice (some ⟨wt1.heap.size, 0, none⟩) 0 0)) := ⟨_, rfl⟩
        rw [← Hwt12.out]
        have hge : w0.heap.size ≤ wt10.heap.size := by omega
        have hee : w0.heap.size ≤ wt1.heap.size := by omega
        have HF := fin_box (w0 := w0) (g := wt10.heap.size) (k := k) Bwt11 ho1 ho2 (own_mono Owt9 hee) Tk hge _ Hwt12.out
        obtain ⟨BGf, HOF⟩ := HF
        have HAP : Hid (Apart (.slice A1 nL c1) (.slice A2 nR c2) ∧ Apart (.slice A1 nL c1) (.slice (some ⟨wt1.heap.size, 0, none⟩) 0 0) ∧ Apart (.slice A2 nR c2) (.slice (some ⟨wt1.heap.size, 0, none⟩) 0 0)) := ⟨ha12, ha1e, ha2e⟩
        replace cP0 := keepc HOF.2.2.2 c00
        replace cP1 := keepc HOF.2.2.2 c01
        replace cP2 := keepc HOF.2.2.2 c02
        refine hK.out _ _ ⟨cP0, cP1, cP2⟩ (fun hHeld4 => ?_)
        clear hK K hHeld3
        (try simp only [Act.put, List.getElem_toArray, List.getElem_cons_zero, List.getElem_cons_succ, List.setIfInBounds_toArray, List.set_cons_zero, List.set_cons_succ])
        refine wpAnyH_done (by kernel_rfl) ?_ _
        go_wp2_with fail
        go_meet
        exact ⟨_, _, A1, c1, A2, c2, rfl, by omega, BGf, HOF.1, HOF.2.1, HOF.2.2.1, HOF.2.2.2, HAP.out.1, HAP.out.2.1, HAP.out.2.2⟩
      · go_simp
        obtain ⟨wt13, Hwt13⟩ : ∃ x, Hid (x = wt9.alloc (.cells #[.int .i64 0, .slice none 0 0, .slice none 0 0, .slice none 0 0] 34)) := ⟨_, rfl⟩
        rw [← Hwt13.out]
        have hbwt13 : Below wt9.heap.size wt9 wt13 := by rw [Hwt13.out]; exact below_box _ _
        have Bwt13 : Blk wt13 wt9.heap.size 34 #[.int .i64 0, .slice none 0 0, .slice none 0 0, .slice none 0 0] := by rw [Hwt13.out]; exact Blk.new _ _ _
        have zwt13 : wt9.heap.size < wt13.heap.size := Bwt13.lt
        have ywt13 := hbwt13.size
        replace Tk := below_next Tk hbwt13 rfl
        replace Bwt9 := Bwt9.next hbwt13
        replace Owt9 := own_next Owt9 hbwt13
        replace cP0 := keepc hbwt13 cP0
        replace cP1 := keepc hbwt13 cP1
        replace cP2 := keepc hbwt13 cP2
        refine hK.out _ _ ⟨cP0, cP1, cP2⟩ (fun hHeld2 => ?_)
        clear hK K hHeld1
        (try simp only [Act.put, List.getElem_toArray, List.getElem_cons_zero, List.getElem_cons_succ, List.setIfInBounds_toArray, List.set_cons_zero, List.set_cons_succ])
        refine wpAnyH_ready (rs := [4]) (by kernel_rfl) (by simp) ?_
        refine (AllReadyH.cons rfl (fun K hK => ?_) AllReadyH.nil)
        go_simp
        refine (HC.out _ Tk).mono ?_
        rintro e wt14 ⟨A1, c1, A2, c2, rfl, ho1, ho2, ha12, hbwt14⟩
        have ha1e := (apart_new Owt9 ho1 (Nat.le_refl _)).symm
        have ha2e := (apart_new Owt9 ho2 (Nat.le_refl _)).symm
        replace ho1 := own_mono (base' := w0.heap.size) ho1 Tk.size
        replace ho2 := own_mono (base' := w0.heap.size) ho2 Tk.size
        go_wp2_with fail
        have ywt14 := hbwt14.size
        replace Tk := below_next Tk hbwt14 rfl
        replace Bwt9 := Bwt9.next hbwt14
        replace Owt9 := own_next Owt9 hbwt14
        replace Bwt13 := Bwt13.next hbwt14
        replace cP0 := keepc hbwt14 cP0
        replace cP1 := keepc hbwt14 cP1
        replace cP2 := keepc hbwt14 cP2
        refine hK.out _ _ ⟨cP0, cP1, cP2⟩ (fun hHeld3 => ?_)
        clear hK K hHeld2
        (try simp only [Act.put, List.getElem_toArray, List.getElem_cons_zero, List.getElem_cons_succ, List.setIfInBounds_toArray, List.set_cons_zero, List.set_cons_succ])
        refine wpAnyH_take (i := 6) (v := .agg #[.int .i64 k, .slice A1 nL c1, .slice A2 nR c2, .slice (some ⟨wt1.heap.size, 0, none⟩) 0 0]) rfl (by kernel_rfl) (by kernel_rfl) (by kernel_rfl) (fun _ _ _ h => h) (Or.inl ⟨by kernel_rfl, fun _ _ => by go_simp⟩) (by assumption) ?_
        (try simp only [Act.put, List.getElem_toArray, List.getElem_cons_zero, List.getElem_cons_succ, List.setIfInBounds_toArray, List.set_cons_zero, List.set_cons_succ])
        refine wpAnyH_ready (rs := [8]) (by kernel_rfl) (by simp) ?_
        refine (AllReadyH.cons rfl (fun K hK => ?_) AllReadyH.nil)
        have gC0 := Bwt13.cell 0
        have gC1 := Bwt13.cell 1
        have gC2 := Bwt13.cell 2
        have gC3 := Bwt13.cell 3
        simp at gC0 gC1 gC2 gC3
        have gF0 := Bwt13.frozen 0
        have gF1 := Bwt13.frozen 1
        have gF2 := Bwt13.frozen 2
        have gF3 := Bwt13.frozen 3
        go_simp
        obtain ⟨wt15, Hwt15⟩ : ∃ x, Hid (x = (((wt14.setCell ⟨wt9.heap.size, 0, none⟩ (.int .i64 k)).setCell ⟨wt9.heap.size, 1, none⟩ (.slice A1 nL c1)).setCell ⟨wt9.heap.size, 2, none⟩ (.slice A2 nR c2)).setCell ⟨wt9.heap.size, 3, none⟩ (.slice (some ⟨wt1.heap.size, 0, none⟩) 0 0)) := ⟨_, rfl⟩
        rw [← Hwt15.out]
        have hge : w0.heap.size ≤ wt9.heap.size := by omega
        have hee : w0.heap.size ≤ wt1.heap.size := by omega
        have HF := fin_box (w0 := w0) (g := wt9.heap.size) (k := k) Bwt13 ho1 ho2 (own_mono Owt9 hee) Tk hge _ Hwt15.out
        obtain ⟨BGf, HOF⟩ := HF
        have HAP : Hid (Apart (.slice A1 nL c1) (.slice A2 nR c2) ∧ Apart (.slice A1 nL c1) (.slice (some ⟨wt1.heap.size, 0, none⟩) 0 0) ∧ Apart (.slice A2 nR c2) (.slice (some ⟨wt1.heap.size, 0, none⟩) 0 0)) := ⟨ha12, ha1e, ha2e⟩
        replace cP0 := keepc HOF.2.2.2 c00
        replace cP1 := keepc HOF.2.2.2 c01
        replace cP2 := keepc HOF.2.2.2 c02
        refine hK.out _ _ ⟨cP0, cP1, cP2⟩ (fun hHeld4 => ?_)
        clear hK K hHeld3
        (try simp only [Act.put, List.getElem_toArray, List.getElem_cons_zero, List.getElem_cons_succ, List.setIfInBounds_toArray, List.set_cons_zero, List.set_cons_succ])
        refine wpAnyH_done (by kernel_rfl) ?_ _
        go_wp2_with fail
        go_meet
        exact ⟨_, _, A1, c1, A2, c2, rfl, by omega, BGf, HOF.1, HOF.2.1, HOF.2.2.1, HOF.2.2.2, HAP.out.1, HAP.out.2.1, HAP.out.2.2⟩
    · go_simp
      obtain ⟨wt16, Hwt16⟩ : ∃ x, Hid (x = wt1.alloc (.cells #[.int .i64 0, .slice none 0 0, .slice none 0 0, .slice none 0 0] 34)) := ⟨_, rfl⟩
      rw [← Hwt16.out]
      have hbwt16 : Below wt1.heap.size wt1 wt16 := by rw [Hwt16.out]; exact below_box _ _
      have Bwt16 : Blk wt16 wt1.heap.size 34 #[.int .i64 0, .slice none 0 0, .slice none 0 0, .slice none 0 0] := by rw [Hwt16.out]; exact Blk.new _ _ _
      have zwt16 : wt1.heap.size < wt16.heap.size := Bwt16.lt
      have ywt16 := hbwt16.size
      replace Tk := below_next Tk hbwt16 rfl
      replace cP0 := keepc hbwt16 cP0
      replace cP1 := keepc hbwt16 cP1
      replace cP2 := keepc hbwt16 cP2
      refine hK.out _ _ ⟨cP0, cP1, cP2⟩ (fun hHeld1 => ?_)
      clear hK K hHeld0
      (try simp only [Act.put, List.getElem_toArray, List.getElem_cons_zero, List.getElem_cons_succ, List.setIfInBounds_toArray, List.set_cons_zero, List.set_cons_succ])
      refine wpAnyH_ready (rs := [4, 5]) (by kernel_rfl) (by simp) ?_
      refine (AllReadyH.cons rfl (fun K hK => ?_) (AllReadyH.cons rfl (fun K hK => ?_) AllReadyH.nil))
      · go_simp
        refine (HC.out _ Tk).mono ?_
        rintro e wt17 ⟨A1, c1, A2, c2, rfl, ho1, ho2, ha12, hbwt17⟩
        replace ho1 := own_mono (base' := w0.heap.size) ho1 Tk.size
        replace ho2 := own_mono (base' := w0.heap.size) ho2 Tk.size
        go_wp2_with fail
        have ywt17 := hbwt17.size
        replace Tk := below_next Tk hbwt17 rfl
        replace Bwt16 := Bwt16.next hbwt17
        replace cP0 := keepc hbwt17 cP0
        replace cP1 := keepc hbwt17 cP1
        replace cP2 := keepc hbwt17 cP2
        refine hK.out _ _ ⟨cP0, cP1, cP2⟩ (fun hHeld2 => ?_)
        clear hK K hHeld1
        (try simp only [Act.put, List.getElem_toArray, List.getElem_cons_zero, List.getElem_cons_succ, List.setIfInBounds_toArray, List.set_cons_zero, List.set_cons_succ])
        refine wpAnyH_ready (rs := [5]) (by kernel_rfl) (by simp) ?_
        refine (AllReadyH.cons rfl (fun K hK => ?_) AllReadyH.nil)
        have hq1 := ho1
        have hq2 := ho2
        go_simp
        obtain ⟨wt18, Hwt18⟩ : ∃ x, Hid (x = wt17.alloc (.cells #[] 3)) := ⟨_, rfl⟩
        rw [← Hwt18.out]
        have hbwt18 : Below wt17.heap.size wt17 wt18 := by rw [Hwt18.out]; exact below_box _ _
        have Bwt18 : Blk wt18 wt17.heap.size 3 #[] := by rw [Hwt18.out]; exact Blk.new _ _ _
        have zwt18 : wt17.heap.size < wt18.heap.size := Bwt18.lt
        have ywt18 := hbwt18.size
        replace Tk := below_next Tk hbwt18 rfl
        replace Bwt16 := Bwt16.next hbwt18
        replace ho1 := own_next ho1 hbwt18
        replace ho2 := own_next ho2 hbwt18
        replace cP0 := keepc hbwt18 cP0
        replace cP1 := keepc hbwt18 cP1
        replace cP2 := keepc hbwt18 cP2
        have Owt18 : wt18.ownsRow wt17.heap.size 3 1 (.slice (some ⟨wt17.heap.size, 0, none⟩) 0 0) 0 [] := by rw [Hwt18.out]; exact World.ownsRow_lit wt17 #[] 0 (Nat.le_refl _) (Nat.zero_le _) rfl
        refine hK.out _ _ ⟨cP0, cP1, cP2⟩ (fun hHeld3 => ?_)
        clear hK K hHeld2
        (try simp only [Act.put, List.getElem_toArray, List.getElem_cons_zero, List.getElem_cons_succ, List.setIfInBounds_toArray, List.set_cons_zero, List.set_cons_succ])
        have ha1e : Apart (.slice A1 nL c1) (.slice (some ⟨wt17.heap.size, 0, none⟩) 0 0) := apart_new hq1 Owt18 (Nat.le_refl _)
        have ha2e : Apart (.slice A2 nR c2) (.slice (some ⟨wt17.heap.size, 0, none⟩) 0 0) := apart_new hq2 Owt18 (Nat.le_refl _)
        refine wpAnyH_take (i := 6) (v := .agg #[.int .i64 k, .slice A1 nL c1, .slice A2 nR c2, .slice (some ⟨wt17.heap.size, 0, none⟩) 0 0]) rfl (by kernel_rfl) (by kernel_rfl) (by kernel_rfl) (fun _ _ _ h => h) (Or.inl ⟨by kernel_rfl, fun _ _ => by go_simp⟩) (by assumption) ?_
        (try simp only [Act.put, List.getElem_toArray, List.getElem_cons_zero, List.getElem_cons_succ, List.setIfInBounds_toArray, List.set_cons_zero, List.set_cons_succ])
        refine wpAnyH_ready (rs := [8]) (by kernel_rfl) (by simp) ?_
        refine (AllReadyH.cons rfl (fun K hK => ?_) AllReadyH.nil)
        have gC0 := Bwt16.cell 0
        have gC1 := Bwt16.cell 1
        have gC2 := Bwt16.cell 2
        have gC3 := Bwt16.cell 3
        simp at gC0 gC1 gC2 gC3
        have gF0 := Bwt16.frozen 0
        have gF1 := Bwt16.frozen 1
        have gF2 := Bwt16.frozen 2
        have gF3 := Bwt16.frozen 3
        go_simp
        obtain ⟨wt19, Hwt19⟩ : ∃ x, Hid (x = (((wt18.setCell ⟨wt1.heap.size, 0, none⟩ (.int .i64 k)).setCell ⟨wt1.heap.size, 1, none⟩ (.slice A1 nL c1)).setCell ⟨wt1.heap.size, 2, none⟩ (.slice A2 nR c2)).setCell ⟨wt1.heap.size, 3, none⟩ (.slice (some ⟨wt17.heap.size, 0, none⟩) 0 0)) := ⟨_, rfl⟩
        rw [← Hwt19.out]
        have hge : w0.heap.size ≤ wt1.heap.size := by omega
        have hee : w0.heap.size ≤ wt17.heap.size := by omega
        have HF := fin_box (w0 := w0) (g := wt1.heap.size) (k := k) Bwt16 ho1 ho2 (own_mono Owt18 hee) Tk hge _ Hwt19.out
        obtain ⟨BGf, HOF⟩ := HF
        have HAP : Hid (Apart (.slice A1 nL c1) (.slice A2 nR c2) ∧ Apart (.slice A1 nL c1) (.slice (some ⟨wt17.heap.size, 0, none⟩) 0 0) ∧ Apart (.slice A2 nR c2) (.slice (some ⟨wt17.heap.size, 0, none⟩) 0 0)) := ⟨ha12, ha1e, ha2e⟩
        replace cP0 := keepc HOF.2.2.2 c00
        replace cP1 := keepc HOF.2.2.2 c01
        replace cP2 := keepc HOF.2.2.2 c02
        refine hK.out _ _ ⟨cP0, cP1, cP2⟩ (fun hHeld4 => ?_)
        clear hK K hHeld3
        (try simp only [Act.put, List.getElem_toArray, List.getElem_cons_zero, List.getElem_cons_succ, List.setIfInBounds_toArray, List.set_cons_zero, List.set_cons_succ])
        refine wpAnyH_done (by kernel_rfl) ?_ _
        go_wp2_with fail
        go_meet
        exact ⟨_, _, A1, c1, A2, c2, rfl, by omega, BGf, HOF.1, HOF.2.1, HOF.2.2.1, HOF.2.2.2, HAP.out.1, HAP.out.2.1, HAP.out.2.2⟩
      · skip
        go_simp
        obtain ⟨wt20, Hwt20⟩ : ∃ x, Hid (x = wt16.alloc (.cells #[] 3)) := ⟨_, rfl⟩
        rw [← Hwt20.out]
        have hbwt20 : Below wt16.heap.size wt16 wt20 := by rw [Hwt20.out]; exact below_box _ _
        have Bwt20 : Blk wt20 wt16.heap.size 3 #[] := by rw [Hwt20.out]; exact Blk.new _ _ _
        have zwt20 : wt16.heap.size < wt20.heap.size := Bwt20.lt
        have ywt20 := hbwt20.size
        replace Tk := below_next Tk hbwt20 rfl
        replace Bwt16 := Bwt16.next hbwt20
        replace cP0 := keepc hbwt20 cP0
        replace cP1 := keepc hbwt20 cP1
        replace cP2 := keepc hbwt20 cP2
        have Owt20 : wt20.ownsRow wt16.heap.size 3 1 (.slice (some ⟨wt16.heap.size, 0, none⟩) 0 0) 0 [] := by rw [Hwt20.out]; exact World.ownsRow_lit wt16 #[] 0 (Nat.le_refl _) (Nat.zero_le _) rfl
        refine hK.out _ _ ⟨cP0, cP1, cP2⟩ (fun hHeld2 => ?_)
        clear hK K hHeld1
        (try simp only [Act.put, List.getElem_toArray, List.getElem_cons_zero, List.getElem_cons_succ, List.setIfInBounds_toArray, List.set_cons_zero, List.set_cons_succ])
        refine wpAnyH_ready (rs := [4]) (by kernel_rfl) (by simp) ?_
        refine (AllReadyH.cons rfl (fun K hK => ?_) AllReadyH.nil)
        go_simp
        refine (HC.out _ Tk).mono ?_
        rintro e wt21 ⟨A1, c1, A2, c2, rfl, ho1, ho2, ha12, hbwt21⟩
        have ha1e := (apart_new Owt20 ho1 (Nat.le_refl _)).symm
        have ha2e := (apart_new Owt20 ho2 (Nat.le_refl _)).symm
        replace ho1 := own_mono (base' := w0.heap.size) ho1 Tk.size
        replace ho2 := own_mono (base' := w0.heap.size) ho2 Tk.size
        go_wp2_with fail
        have ywt21 := hbwt21.size
        replace Tk := below_next Tk hbwt21 rfl
        replace Bwt16 := Bwt16.next hbwt21
        replace Bwt20 := Bwt20.next hbwt21
        replace Owt20 := own_next Owt20 hbwt21
        replace cP0 := keepc hbwt21 cP0
        replace cP1 := keepc hbwt21 cP1
        replace cP2 := keepc hbwt21 cP2
        refine hK.out _ _ ⟨cP0, cP1, cP2⟩ (fun hHeld3 => ?_)
        clear hK K hHeld2
        (try simp only [Act.put, List.getElem_toArray, List.getElem_cons_zero, List.getElem_cons_succ, List.setIfInBounds_toArray, List.set_cons_zero, List.set_cons_succ])
        refine wpAnyH_take (i := 6) (v := .agg #[.int .i64 k, .slice A1 nL c1, .slice A2 nR c2, .slice (some ⟨wt16.heap.size, 0, none⟩) 0 0]) rfl (by kernel_rfl) (by kernel_rfl) (by kernel_rfl) (fun _ _ _ h => h) (Or.inl ⟨by kernel_rfl, fun _ _ => by go_simp⟩) (by assumption) ?_
        (try simp only [Act.put, List.getElem_toArray, List.getElem_cons_zero, List.getElem_cons_succ, List.setIfInBounds_toArray, List.set_cons_zero, List.set_cons_succ])
        refine wpAnyH_ready (rs := [8]) (by kernel_rfl) (by simp) ?_
        refine (AllReadyH.cons rfl (fun K hK => ?_) AllReadyH.nil)
        have gC0 := Bwt16.cell 0
        have gC1 := Bwt16.cell 1
        have gC2 := Bwt16.cell 2
        have gC3 := Bwt16.cell 3
        simp at gC0 gC1 gC2 gC3
        have gF0 := Bwt16.frozen 0
        have gF1 := Bwt16.frozen 1
        have gF2 := Bwt16.frozen 2
        have gF3 := Bwt16.frozen 3
        go_simp
        obtain ⟨wt22, Hwt22⟩ : ∃ x, Hid (x = (((wt21.setCell ⟨wt1.heap.size, 0, none⟩ (.int .i64 k)).setCell ⟨wt1.heap.size, 1, none⟩ (.slice A1 nL c1)).setCell ⟨wt1.heap.size, 2, none⟩ (.slice A2 nR c2)).setCell ⟨wt1.heap.size, 3, none⟩ (.slice (some ⟨wt16.heap.size, 0, none⟩) 0 0)) := ⟨_, rfl⟩
        rw [← Hwt22.out]
        have hge : w0.heap.size ≤ wt1.heap.size := by omega
        have hee : w0.heap.size ≤ wt16.heap.size := by omega
        have HF := fin_box (w0 := w0) (g := wt1.heap.size) (k := k) Bwt16 ho1 ho2 (own_mono Owt20 hee) Tk hge _ Hwt22.out
        obtain ⟨BGf, HOF⟩ := HF
        have HAP : Hid (Apart (.slice A1 nL c1) (.slice A2 nR c2) ∧ Apart (.slice A1 nL c1) (.slice (some ⟨wt16.heap.size, 0, none⟩) 0 0) ∧ Apart (.slice A2 nR c2) (.slice (some ⟨wt16.heap.size, 0, none⟩) 0 0)) := ⟨ha12, ha1e, ha2e⟩
        replace cP0 := keepc HOF.2.2.2 c00
        replace cP1 := keepc HOF.2.2.2 c01
        replace cP2 := keepc HOF.2.2.2 c02
        refine hK.out _ _ ⟨cP0, cP1, cP2⟩ (fun hHeld4 => ?_)
        clear hK K hHeld3
        (try simp only [Act.put, List.getElem_toArray, List.getElem_cons_zero, List.getElem_cons_succ, List.setIfInBounds_toArray, List.set_cons_zero, List.set_cons_succ])
        refine wpAnyH_done (by kernel_rfl) ?_ _
        go_wp2_with fail
        go_meet
        exact ⟨_, _, A1, c1, A2, c2, rfl, by omega, BGf, HOF.1, HOF.2.1, HOF.2.2.1, HOF.2.2.2, HAP.out.1, HAP.out.2.1, HAP.out.2.2⟩
  case rest =>
    clear Tk c00 c01 c02 c03
    obtain ⟨g, ge, A1, c1, A2, c2, rfl, hgl, BG, ho1, ho2, hoe, Tk, ha12, ha1e, ha2e⟩ := hcut
    obtain ⟨w1, HWC⟩ : ∃ wq : World, wq = wc := ⟨_, rfl⟩
    subst HWC
    have hz1 := Tk.size
    have hg1 := BG.lt
    have HA12 := Lib.hid ha12
    clear ha12
    replace cP0 := keepc Tk HCP.out.1
    replace cP1 := keepc Tk HCP.out.2.1
    replace cP2 := keepc Tk HCP.out.2.2.1
    replace cP3 := keepc Tk HCP.out.2.2.2
    have gC0 := BG.cell 0
    have gC1 := BG.cell 1
    have gC2 := BG.cell 2
    have gC3 := BG.cell 3
    simp at gC0 gC1 gC2 gC3
    have gF0 := BG.frozen 0
    have gF1 := BG.frozen 1
    have gF2 := BG.frozen 2
    have gF3 := BG.frozen 3
    go_upto_block 0 with fail
    go_cut [] from 6 to 73 (fun wx => ∃ A3 m c3 Y, Blk wx g 34 #[.int .i64 k, .slice A1 nL c1, .slice A2 nR c2, .slice A3 m c3] ∧ wx.ownsRow w0.heap.size 3 1 (.slice A1 nL c1) nL (ints L) ∧ wx.ownsRow w0.heap.size 3 1 (.slice A2 nR c2) nR (ints R) ∧ wx.ownsRow w0.heap.size 3 1 (.slice A3 m c3) m (ints Y) ∧ Below w0.heap.size w0 wx ∧ Apart (.slice A1 nL c1) (.slice A2 nR c2) ∧ Apart (.slice A1 nL c1) (.slice A3 m c3) ∧ Apart (.slice A2 nR c2) (.slice A3 m c3) ∧ (k = 4 → kerL Y = X ∧ m = n ∧ InL n Y) ∧ (k ≠ 4 → Y = X))
    case first =>
      obtain ⟨cV', hcV⟩ : ∃ c, c = cV := ⟨_, rfl⟩
      subst hcV
      obtain rfl | rfl | rfl | rfl | rfl | rfl : k = 1 ∨ k = 2 ∨ k = 3 ∨ k = 4 ∨ k = 5 ∨ k = 6 := by omega
      · -- kind 1
        have HXV : Hid ([] = X) := by show _ = _; rw [← HX.out, HK1.out rfl]; simp [rfL]
        go_wp2_with fail
        go_meet
        exact ⟨some ⟨ge, 0, none⟩, 0, 0, [], BG, ho1, ho2, hoe, Tk, HA12.out, ha1e, ha2e, fun h => absurd h (by decide), fun _ => HXV.out⟩
      · -- kind 2
        have HIM : Hid (Calls Tryz.prog 52 #[.slice AS n cS, .slice AV nV cV'] w1 fun e w' => ∃ A c, e = .returned (.slice A nX c) ∧ w'.ownsRow w1.heap.size 3 1 (.slice A nX c) nX (ints X) ∧ Below w1.heap.size w1 w') := by
          have hnv := nats_of HVI.out
          have := l7Images_any AS AV n cS nV cV' s (V.map Int.toNat) w1 (HSR.out w1 Tk) ⟨HP.out.1, HP.out.2.1⟩ (by rw [hnv.1]; exact HVR.out w1 Tk) hnv.2 h3 hn
          unfold OwI at this
          rw [comp_nats HP.out HVI.out] at this
          have hx : comp V s = X := by rw [← HX.out]; simp [rfL]
          rw [hx, HNX.out] at this
          exact this
        go_wp2_with fail
        refine HIM.out.mono ?_
        rintro e w2 ⟨A3, c3, rfl, ho3, hb2⟩
        have BG2 := BG.next hb2
        have T2 := below_next Tk hb2 rfl
        have hq1 := own_next ho1 hb2
        have hq2 := own_next ho2 hb2
        have ha13 := apart_new ho1 ho3 (Nat.le_refl _)
        have ha23 := apart_new ho2 ho3 (Nat.le_refl _)
        have gD3 := BG2.cell 3
        simp at gD3
        have gE3 := BG2.frozen 3
        obtain ⟨w3, HW3⟩ : ∃ x, Hid (x = w2.setCell ⟨g, 3, none⟩ (.slice A3 nX c3)) := ⟨_, rfl⟩
        have BG3 : Blk w3 g 34 #[.int .i64 2, .slice A1 nL c1, .slice A2 nR c2, .slice A3 nX c3] := by rw [HW3.out]; simpa using BG2.set_ 3 (.slice A3 nX c3)
        have hr1 : w3.ownsRow w0.heap.size 3 1 (.slice A1 nL c1) nL (ints L) := by rw [HW3.out]; exact own_setT hq1 BG2 (by decide)
        have hr2 : w3.ownsRow w0.heap.size 3 1 (.slice A2 nR c2) nR (ints R) := by rw [HW3.out]; exact own_setT hq2 BG2 (by decide)
        have hr3 : w3.ownsRow w0.heap.size 3 1 (.slice A3 nX c3) nX (ints X) := by rw [HW3.out]; exact own_setT (own_mono ho3 hz1) BG2 (by decide)
        have T3 : Below w0.heap.size w0 w3 := by rw [HW3.out]; exact T2.setCell (p := ⟨g, 3, none⟩) (by exact hgl) _
        have HH := Lib.hid (And.intro BG3 (And.intro hr1 (And.intro hr2 (And.intro hr3 (And.intro T3 (And.intro ha13 ha23))))))
        clear BG3 hr1 hr2 hr3 T3 ha13 ha23 BG ho1 ho2 hoe gC0 gC1 gC2 gC3 gF0 gF1 gF2 gF3 hq1 hq2 ho3 cP0 cP1 cP2 cP3
        go_wp2_with fail
        rw [← HW3.out]
        go_meet
        exact ⟨A3, nX, c3, X, HH.out.1, HH.out.2.1, HH.out.2.2.1, HH.out.2.2.2.1, HH.out.2.2.2.2.1, HA12.out, HH.out.2.2.2.2.2.1, HH.out.2.2.2.2.2.2, fun h => absurd h (by decide), fun _ => rfl⟩
      · -- kind 3
        have hsz1 := Tk.size
        have HXE : Hid (X = markL n fun z => hasI (z : Int) (comp V s)) := by
          show X = _
          rw [← HX.out]
          unfold rfL
          rw [if_neg (by decide), if_pos (by decide), HSL.out]
        go_wp2_with fail
        go_loopw [6] (fun i wr => ∃ (j b m c3 : Nat) (Y : List Int), j ≤ nV ∧ i = .int .i64 j ∧ Blk wr g 34 #[.int .i64 3, .slice A1 nL c1, .slice A2 nR c2, .slice (some ⟨b, 0, none⟩) m c3] ∧ wr.ownsRow w0.heap.size 3 1 (.slice A1 nL c1) nL (ints L) ∧ wr.ownsRow w0.heap.size 3 1 (.slice A2 nR c2) nR (ints R) ∧ wr.ownsRow w0.heap.size 3 1 (.slice (some ⟨b, 0, none⟩) m c3) m (ints Y) ∧ Hid (Y = markL n fun z => hasI (z : Int) (comp (V.take j) s)) ∧ Below w0.heap.size w0 wr ∧ Apart (.slice A1 nL c1) (.slice (some ⟨b, 0, none⟩) m c3) ∧ Apart (.slice A2 nR c2) (.slice (some ⟨b, 0, none⟩) m c3)) (fun i _ => nV - (intOf i).toNat)
        case atStart => exact ⟨0, ge, 0, 0, [], Nat.zero_le _, rfl, BG, ho1, ho2, hoe, (by show _ = _; rw [List.take_zero]; simp [comp, markL, hasI]), Tk, ha1e, ha2e⟩
        case round =>
          clear BG ho1 ho2 hoe Tk ha1e ha2e gC0 gC1 gC2 gC3 gF0 gF1 gF2 gF3 cP0 cP1 cP2 cP3 hz1 hg1 hsz1
          obtain ⟨j, b, m, c3, Y, hj, rfl, BG, ho1, ho2, hoY, HYE, Tk, ha1, ha2⟩ := hrel
          have cP3 := keepc Tk HCP.out.2.2.2
          have gC3 := BG.cell 3
          simp at gC3
          by_cases hlt : j < nV
          · have hj0 : (0 : Int) ≤ (j : Int) := by omega
            have hj1 : (j : Int) < (nV : Int) := by omega
            obtain ⟨bv, ov, vv, vz, hAV, cV0, ⟨rfl, -, -⟩, -, hvx⟩ := (HVR.out w0 (Below.refl _ _)).at hlt
            subst hAV
            have hvi := HVI.out vz (List.mem_of_getElem? hvx)
            obtain ⟨vq, rfl⟩ := Int.eq_ofNat_of_zero_le hvi.1
            have hvn : vq < n := by omega
            obtain ⟨bs, os, vs, vn, hAS, cN0, ⟨rfl, -, -⟩, -, hnx⟩ := (HSR.out w0 (Below.refl _ _)).at hvn
            subst hAS
            obtain rfl : nmI s (vq : Int) = vn := by unfold nmI; rw [Int.toNat_natCast, List.getD_eq_getElem?_getD, hnx]; rfl
            have cV := keepc Tk cV0
            have cN := keepc Tk cN0
            have HCV : Hid (w0.cell? ⟨w.heap.size, 3, none⟩ = some (.slice (some ⟨bv, ov, none⟩) nV cV') ∧ w0.cell? ⟨bv, ov + j, none⟩ = some (.int .i64 (vq : Int)) ∧ w0.cell? ⟨bs, os + vq, none⟩ = some (.int .i64 (nmI s (vq : Int)))) := ⟨HCP.out.2.2.2, cV0, cN0⟩
            have hv0 : (0 : Int) ≤ (vq : Int) := by omega
            have hv1 : (vq : Int) < (n : Int) := by omega
            have hnz := nmI_in HP.out hv0 hvi.2
            have HZB : Hid (-2000 ≤ nmI s (vq : Int) ∧ nmI s (vq : Int) ≤ 2000) := ⟨by omega, by omega⟩
            have HZN : Hid (∃ yq : Nat, nmI s (vq : Int) = (yq : Int) ∧ yq < n) := ⟨(nmI s (vq : Int)).toNat, by omega, by omega⟩
            have HTK : Hid (comp (V.take (j + 1)) s = comp (V.take j) s ++ [nmI s (vq : Int)]) := by
              show _ = _
              rw [List.take_add_one, hvx]
              simp [comp]
            have HMN : Hid (m ≤ 1000) := by
              have h1 := hoY.1
              rw [ints_len, HYE.out] at h1
              have := markL_le n fun z => hasI (z : Int) (comp (V.take j) s)
              show m ≤ 1000
              omega
            have HYB : Hid (∀ z ∈ Y, -2000 ≤ z ∧ z ≤ 2000) := fun z hz => by
              rw [HYE.out] at hz
              have := markL_in _ hz
              omega
            clear hnx hvx hnz hvi cV0 cN0
            go_wp2_with fail
            refine wp_region_held_drew (S := fun w' => w'.cell? ⟨w.heap.size, 3, none⟩ = some (.slice (some ⟨bv, ov, none⟩) nV cV') ∧ w'.cell? ⟨bv, ov + j, none⟩ = some (.int .i64 vq) ∧ w'.cell? ⟨bs, os + vq, none⟩ = some (.int .i64 (nmI s (vq : Int)))) (by kernel_rfl) ⟨cP3, cV, cN⟩ (fun hHeld0 => ?_)
            obtain ⟨wt1, Hwt1⟩ : ∃ x, Hid (x = World.drew wr) := ⟨_, rfl⟩
            have hbwt1 : Below wr.heap.size wr wt1 := by rw [Hwt1.out]; exact (Below.refl _ _).drew
            rw [← Hwt1.out] at hHeld0 ⊢
            have ywt1 := hbwt1.size
            replace Tk := below_next Tk hbwt1 rfl
            replace BG := BG.next hbwt1
            replace ho1 := own_next ho1 hbwt1
            replace ho2 := own_next ho2 hbwt1
            replace hoY := own_next hoY hbwt1
            replace gC3 := keepc hbwt1 gC3
            replace cP3 := keepc hbwt1 cP3
            replace cV := keepc hbwt1 cV
            replace cN := keepc hbwt1 cN
            refine wpAnyH_take (i := 0) (v := .pointer (some ⟨g, 3, none⟩)) rfl (by kernel_rfl) (by kernel_rfl) (by kernel_rfl) (fun _ _ _ h => h) (Or.inl ⟨by kernel_rfl, fun _ _ => by go_simp⟩) (by assumption) ?_
            (try simp only [Act.put, List.getElem_toArray, List.getElem_cons_zero, List.getElem_cons_succ, List.setIfInBounds_toArray, List.set_cons_zero, List.set_cons_succ])
            refine wpAnyH_take (i := 2) (v := .slice (some ⟨bs, os, none⟩) n cS) rfl (by kernel_rfl) (by kernel_rfl) (by kernel_rfl) (fun _ _ _ h => h) (Or.inl ⟨by kernel_rfl, fun _ _ => by go_simp⟩) (by assumption) ?_
            (try simp only [Act.put, List.getElem_toArray, List.getElem_cons_zero, List.getElem_cons_succ, List.setIfInBounds_toArray, List.set_cons_zero, List.set_cons_succ])
            refine wpAnyH_take (i := 3) (v := .pointer (some ⟨w.heap.size, 3, none⟩)) rfl (by kernel_rfl) (by kernel_rfl) (by kernel_rfl) (fun _ _ _ h => h) (Or.inl ⟨by kernel_rfl, fun _ _ => by go_simp⟩) (by assumption) ?_
            (try simp only [Act.put, List.getElem_toArray, List.getElem_cons_zero, List.getElem_cons_succ, List.setIfInBounds_toArray, List.set_cons_zero, List.set_cons_succ])
            refine wpAnyH_take (i := 4) (v := .slice (some ⟨bv, ov, none⟩) nV cV') rfl (by kernel_rfl) (by kernel_rfl) (by kernel_rfl) (fun _ _ _ h => h) (Or.inl ⟨by kernel_rfl, fun wv hSw => by (obtain ⟨hS0, hS1, hS2⟩ := hSw); go_simp⟩) (by assumption) ?_
            (try simp only [Act.put, List.getElem_toArray, List.getElem_cons_zero, List.getElem_cons_succ, List.setIfInBounds_toArray, List.set_cons_zero, List.set_cons_succ])
            refine wpAnyH_take (i := 5) (v := .int .i64 j) rfl (by kernel_rfl) (by kernel_rfl) (by kernel_rfl) (fun _ _ _ h => h) (Or.inl ⟨by kernel_rfl, fun _ _ => by go_simp⟩) (by assumption) ?_
            (try simp only [Act.put, List.getElem_toArray, List.getElem_cons_zero, List.getElem_cons_succ, List.setIfInBounds_toArray, List.set_cons_zero, List.set_cons_succ])
            refine wpAnyH_take (i := 6) (v := .pointer (some ⟨bv, ov + j, none⟩)) rfl (by kernel_rfl) (by kernel_rfl) (by kernel_rfl) (fun _ _ _ h => h) (Or.inl ⟨by kernel_rfl, fun _ _ => by go_simp⟩) (by assumption) ?_
            (try simp only [Act.put, List.getElem_toArray, List.getElem_cons_zero, List.getElem_cons_succ, List.setIfInBounds_toArray, List.set_cons_zero, List.set_cons_succ])
            refine wpAnyH_take (i := 7) (v := .int .i64 vq) rfl (by kernel_rfl) (by kernel_rfl) (by kernel_rfl) (fun _ _ _ h => h) (Or.inl ⟨by kernel_rfl, fun wv hSw => by (obtain ⟨hS0, hS1, hS2⟩ := hSw); go_simp⟩) (by assumption) ?_
            (try simp only [Act.put, List.getElem_toArray, List.getElem_cons_zero, List.getElem_cons_succ, List.setIfInBounds_toArray, List.set_cons_zero, List.set_cons_succ])
            refine wpAnyH_take (i := 8) (v := .pointer (some ⟨bs, os + vq, none⟩)) rfl (by kernel_rfl) (by kernel_rfl) (by kernel_rfl) (fun _ _ _ h => h) (Or.inl ⟨by kernel_rfl, fun _ _ => by go_simp⟩) (by assumption) ?_
            (try simp only [Act.put, List.getElem_toArray, List.getElem_cons_zero, List.getElem_cons_succ, List.setIfInBounds_toArray, List.set_cons_zero, List.set_cons_succ])
            refine wpAnyH_take (i := 9) (v := .int .i64 (nmI s (vq : Int))) rfl (by kernel_rfl) (by kernel_rfl) (by kernel_rfl) (fun _ _ _ h => h) (Or.inl ⟨by kernel_rfl, fun wv hSw => by (obtain ⟨hS0, hS1, hS2⟩ := hSw); go_simp⟩) (by assumption) ?_
            (try simp only [Act.put, List.getElem_toArray, List.getElem_cons_zero, List.getElem_cons_succ, List.setIfInBounds_toArray, List.set_cons_zero, List.set_cons_succ])
            refine wpAnyH_ready (rs := [1]) (by kernel_rfl) (by simp) ?_
            refine (AllReadyH.cons rfl (fun K hK => ?_) AllReadyH.nil)
            go_simp
            refine hK.out _ _ ⟨cP3, cV, cN⟩ (fun hHeld1 => ?_)
            clear hK K hHeld0
            (try simp only [Act.put, List.getElem_toArray, List.getElem_cons_zero, List.getElem_cons_succ, List.setIfInBounds_toArray, List.set_cons_zero, List.set_cons_succ])
            refine wpAnyH_ready (rs := [10]) (by kernel_rfl) (by simp) ?_
            refine (AllReadyH.cons rfl (fun K hK => ?_) AllReadyH.nil)
            go_simp
            refine (l1PutY_any w0.heap.size b m c3 Y (nmI s (vq : Int)) wt1 hoY Tk.size HMN.out HYB.out HZB.out).mono ?_
            rintro e wt2 ⟨A9, m9, c9, L9, rfl, hoL, hm9, hP9, hbwt2, hor⟩
            have hq1 := ho1
            have hq2 := ho2
            go_wp2_with fail
            have ywt2 := hbwt2.size
            replace Tk := below_next Tk hbwt2 rfl
            replace BG := BG.next hbwt2
            replace ho1 := own_next ho1 hbwt2
            replace ho2 := own_next ho2 hbwt2
            replace hoY := own_next hoY hbwt2
            replace gC3 := keepc hbwt2 gC3
            replace cP3 := keepc hbwt2 cP3
            replace cV := keepc hbwt2 cV
            replace cN := keepc hbwt2 cN
            refine hK.out _ _ ⟨cP3, cV, cN⟩ (fun hHeld2 => ?_)
            clear hK K hHeld1
            (try simp only [Act.put, List.getElem_toArray, List.getElem_cons_zero, List.getElem_cons_succ, List.setIfInBounds_toArray, List.set_cons_zero, List.set_cons_succ])
            refine wpAnyH_take (i := 11) (v := .pointer (some ⟨g, 3, none⟩)) rfl (by kernel_rfl) (by kernel_rfl) (by kernel_rfl) (fun _ _ _ h => h) (Or.inl ⟨by kernel_rfl, fun _ _ => by go_simp⟩) (by assumption) ?_
            (try simp only [Act.put, List.getElem_toArray, List.getElem_cons_zero, List.getElem_cons_succ, List.setIfInBounds_toArray, List.set_cons_zero, List.set_cons_succ])
            refine wpAnyH_ready (rs := [12]) (by kernel_rfl) (by simp) ?_
            refine (AllReadyH.cons rfl (fun K hK => ?_) AllReadyH.nil)
            have BGc := BG
            have gF3 := BG.frozen 3
            go_simp
            obtain ⟨wt3, Hwt3⟩ : ∃ x, Hid (x = wt2.setCell ⟨g, 3, none⟩ (.slice A9 m9 c9)) := ⟨_, rfl⟩
            rw [← Hwt3.out]
            have BGf : Blk wt3 g 34 #[.int .i64 3, .slice A1 nL c1, .slice A2 nR c2, .slice A9 m9 c9] := by rw [Hwt3.out]; simpa using BG.set_ 3 (.slice A9 m9 c9)
            have hof1 : wt3.ownsRow w0.heap.size 3 1 (.slice A1 nL c1) nL (ints L) := by rw [Hwt3.out]; exact own_setT ho1 BG (by decide)
            have hof2 : wt3.ownsRow w0.heap.size 3 1 (.slice A2 nR c2) nR (ints R) := by rw [Hwt3.out]; exact own_setT ho2 BG (by decide)
            have hofL : wt3.ownsRow w0.heap.size 3 1 (.slice A9 m9 c9) m9 (ints L9) := by rw [Hwt3.out]; exact own_setT hoL BG (by decide)
            have Tf : Below w0.heap.size w0 wt3 := by rw [Hwt3.out]; exact Tk.setCell (p := ⟨g, 3, none⟩) (by exact hgl) _
            replace cP3 := keepc Tf HCV.out.1
            replace cV := keepc Tf HCV.out.2.1
            replace cN := keepc Tf HCV.out.2.2
            refine hK.out _ _ ⟨cP3, cV, cN⟩ (fun hHeld3 => ?_)
            clear hK K hHeld2
            (try simp only [Act.put, List.getElem_toArray, List.getElem_cons_zero, List.getElem_cons_succ, List.setIfInBounds_toArray, List.set_cons_zero, List.set_cons_succ])
            refine wpAnyH_done (by kernel_rfl) ?_ _
            obtain ⟨A10, hA10⟩ : ∃ b9, A9 = some ⟨b9, 0, none⟩ := by
              have hL9 : 0 < m9 := by
                have h1 := hofL.1
                rw [ints_len] at h1
                have := put_pos hP9
                omega
              obtain ⟨b9, rfl, -, -⟩ := own_form hofL hL9
              exact ⟨b9, rfl⟩
            subst hA10
            have HY2 : Hid (L9 = markL n fun z => hasI (z : Int) (comp (V.take (j + 1)) s)) := by
              have hP := hP9
              rw [HYE.out] at hP
              obtain ⟨yq, hyq, hyn⟩ := HZN.out
              rw [hyq] at hP
              have := mark_snoc hyn hP
              rw [← hyq] at this
              rw [← HTK.out] at this
              exact this
            have HA1 : Hid (Apart (.slice A1 nL c1) (.slice (some ⟨A10, 0, none⟩) m9 c9) ∧ Apart (.slice A2 nR c2) (.slice (some ⟨A10, 0, none⟩) m9 c9)) := by
              rcases hor with ⟨e1, e2, e3, -⟩ | hor
              · injection e1 with e1
                injection e1 with e1
                subst e1 e2 e3
                exact ⟨ha1, ha2⟩
              · exact ⟨apart_new hq1 hor (Nat.le_refl _), apart_new hq2 hor (Nat.le_refl _)⟩
            go_wp2_with fail
            go_roundw
            case rel => exact ⟨j + 1, A10, m9, c9, L9, by omega, by go_num, BGf, hof1, hof2, hofL, HY2, Tf, HA1.out.1, HA1.out.2⟩
            case measure => simp [intOf]; try omega
          · obtain rfl : j = nV := by omega
            have hj1 : ¬ (j : Int) < (j : Int) := by omega
            have HYX : Hid (Y = X) := by
              show Y = X
              rw [HXE.out, HYE.out, List.take_of_length_le (by rw [HVL.out]; exact Nat.le_refl _)]
            go_wp2_with fail
            go_meet
            exact ⟨some ⟨b, 0, none⟩, m, c3, Y, BG, ho1, ho2, hoY, Tk, HA12.out, ha1, ha2, fun h => absurd h (by decide), fun _ => HYX.out⟩
      · -- kind 4
        obtain ⟨wb, HWB⟩ : ∃ wb, wb = w1 := ⟨_, rfl⟩
        subst HWB
        have hvn : nV = n := by rw [← HVL.out]; exact H46.out (by decide)
        subst hvn
        go_wp2_with (at_make; refine make_ints wb rfl _ _ rfl nV rfl rfl (by omega) ?_; intro w3 hown3 hg3; have hb3 := (Below.refl wb.heap.size wb).grown hg3 (Nat.le_refl _) (by simp); have BG3 := BG.next hb3; have gD3 := BG3.cell 3; simp at gD3; have gE3 := BG3.frozen 3; clear gC0 gC1 gC2 gC3 gF0 gF1 gF2 gF3 cP0 cP1 cP2 cP3)
        rw [zeros_int] at hown3
        have ha1 := apart_new ho1 hown3 (Nat.le_refl _)
        have ha2 := apart_new ho2 hown3 (Nat.le_refl _)
        obtain ⟨gr, HGR⟩ : ∃ gr, gr = wb.heap.size := ⟨_, rfl⟩
        rw [← HGR] at hown3 ha1 ha2
        obtain ⟨w4, HW4⟩ : ∃ w4, Hid (w4 = w3.setCell ⟨g, 3, none⟩ (.slice (some ⟨gr, 0, none⟩) nV nV)) := ⟨_, rfl⟩
        have BG4 : Blk w4 g 34 #[.int .i64 4, .slice A1 nL c1, .slice A2 nR c2, .slice (some ⟨gr, 0, none⟩) nV nV] := by rw [HW4.out]; simpa using BG3.set_ 3 (.slice (some ⟨gr, 0, none⟩) nV nV)
        have ho14 : w4.ownsRow w0.heap.size 3 1 (.slice A1 nL c1) nL (ints L) := by rw [HW4.out]; exact own_setT (own_next ho1 hb3) BG3 (by decide)
        have ho24 : w4.ownsRow w0.heap.size 3 1 (.slice A2 nR c2) nR (ints R) := by rw [HW4.out]; exact own_setT (own_next ho2 hb3) BG3 (by decide)
        have hgrl : w0.heap.size ≤ gr := by rw [HGR]; exact hz1
        have hggr : g ≠ gr := by rw [HGR]; omega
        have hoQ4 : w4.ownsRow w0.heap.size 3 1 (.slice (some ⟨gr, 0, none⟩) nV nV) nV (ints (List.replicate nV 0)) := by rw [HW4.out]; exact own_mono (own_setT hown3 BG3 (by decide)) hgrl
        have Tk4 : Below w0.heap.size w0 w4 := by rw [HW4.out]; exact (below_next Tk hb3 rfl).setCell (p := ⟨g, 3, none⟩) (by exact hgl) _
        have HA := Lib.hid (And.intro ha1 ha2)
        have HOO := Lib.hid (And.intro BG4 (And.intro ho14 (And.intro ho24 (And.intro hoQ4 Tk4))))
        clear BG BG3 BG4 ho1 ho2 hoe hown3 hg3 ho14 ho24 hoQ4 Tk Tk4 ha1 ha2 ha1e ha2e hz1 hg1
        rw [← HGR, ← HW4.out]
        clear gD3 gE3 hb3 HGR
        go_loopw [7] (fun i wr => ∃ (j : Nat) (Q : List Int), j ≤ nV ∧ i = .int .i64 j ∧ Blk wr g 34 #[.int .i64 4, .slice A1 nL c1, .slice A2 nR c2, .slice (some ⟨gr, 0, none⟩) nV nV] ∧ wr.ownsRow w0.heap.size 3 1 (.slice A1 nL c1) nL (ints L) ∧ wr.ownsRow w0.heap.size 3 1 (.slice A2 nR c2) nR (ints R) ∧ wr.ownsRow w0.heap.size 3 1 (.slice (some ⟨gr, 0, none⟩) nV nV) nV (ints Q) ∧ Hid (Q.length = nV) ∧ Hid (∀ x, x < j → Q[nmAt s x]? = some (nmI s (V.getD x 0))) ∧ Below w0.heap.size w0 wr) (fun i _ => nV - (intOf i).toNat)
        case atStart => exact ⟨0, _, Nat.zero_le _, rfl, HOO.out.1, HOO.out.2.1, HOO.out.2.2.1, HOO.out.2.2.2.1, List.length_replicate .., (fun x hx => absurd hx (by omega)), HOO.out.2.2.2.2⟩
        case round =>
          obtain ⟨j, Q, hj, rfl, BG, ho1, ho2, hoQ, HQL, HQ, Tk⟩ := hrel
          have cP3 := keepc Tk HCP.out.2.2.2
          have gC3 := BG.cell 3
          simp at gC3
          have ha1 := HA.out.1
          have ha2 := HA.out.2
          by_cases hlt : j < nV
          · have hj0 : (0 : Int) ≤ (j : Int) := by omega
            have hj1 : (j : Int) < (nV : Int) := by omega
            obtain ⟨bv, ov, vv, vz, hAV, cV0, ⟨rfl, -, -⟩, -, hvx⟩ := (HVR.out w0 (Below.refl _ _)).at hlt
            subst hAV
            have hvi := HVI.out vz (List.mem_of_getElem? hvx)
            obtain ⟨vq, rfl⟩ := Int.eq_ofNat_of_zero_le hvi.1
            have hvn : vq < nV := by omega
            obtain ⟨bs, os, vs, vn, hAS, cN0, ⟨rfl, -, -⟩, -, hnx⟩ := (HSR.out w0 (Below.refl _ _)).at hvn
            subst hAS
            obtain rfl : nmI s (vq : Int) = vn := by unfold nmI; rw [Int.toNat_natCast, List.getD_eq_getElem?_getD, hnx]; rfl
            obtain ⟨bs2, os2, vs2, vn2, hAS2, cX0, ⟨rfl, -, -⟩, -, hnx2⟩ := (HSR.out w0 (Below.refl _ _)).at hlt
            injection hAS2 with hAS2
            injection hAS2 with e1 e2
            subst e1 e2
            obtain ⟨yq, hy, hyn, hye⟩ := HP.out.at hlt
            obtain rfl : vn2 = (yq : Int) := by rw [hnx2] at hy; injection hy
            have cV := keepc Tk cV0
            have cN := keepc Tk cN0
            have cX := keepc Tk cX0
            have HCV : Hid (w0.cell? ⟨w.heap.size, 3, none⟩ = some (.slice (some ⟨bv, ov, none⟩) nV cV') ∧ w0.cell? ⟨bv, ov + j, none⟩ = some (.int .i64 (vq : Int)) ∧ w0.cell? ⟨bs, os + vq, none⟩ = some (.int .i64 (nmI s (vq : Int))) ∧ w0.cell? ⟨bs, os + j, none⟩ = some (.int .i64 (yq : Int))) := ⟨HCP.out.2.2.2, cV0, cN0, cX0⟩
            have hv0 : (0 : Int) ≤ (vq : Int) := by omega
            have hv1 : (vq : Int) < (nV : Int) := by omega
            have hy0 : (0 : Int) ≤ (yq : Int) := by omega
            have hy1 : (yq : Int) < (nV : Int) := by omega
            have eF : nmI s (V.getD j 0) = nmI s (vq : Int) := by rw [List.getD_eq_getElem?_getD, hvx]; rfl
            have HQ2 : Hid (∀ x, x < j + 1 → (Q.set yq (nmI s (vq : Int)))[nmAt s x]? = some (nmI s (V.getD x 0))) := by
              have := set_fill HP.out HQL.out hlt HQ.out
              rwa [hye, eF] at this
            have HQL2 : Hid ((Q.set yq (nmI s (vq : Int))).length = nV) := by show _ = _; rw [List.length_set]; exact HQL.out
            clear hnx hnx2 hvx hvi cV0 cN0 cX0 hy hye eF
            go_wp2_with fail
            refine wp_region_held_drew (S := fun w' => w'.cell? ⟨g, 3, none⟩ = some (.slice (some ⟨gr, 0, none⟩) nV nV) ∧ w'.cell? ⟨w.heap.size, 3, none⟩ = some (.slice (some ⟨bv, ov, none⟩) nV cV') ∧ w'.cell? ⟨bv, ov + j, none⟩ = some (.int .i64 vq) ∧ w'.cell? ⟨bs, os + vq, none⟩ = some (.int .i64 (nmI s (vq : Int))) ∧ w'.cell? ⟨bs, os + j, none⟩ = some (.int .i64 yq)) (by kernel_rfl) ⟨gC3, cP3, cV, cN, cX⟩ (fun hHeld0 => ?_)
            obtain ⟨wt1, Hwt1⟩ : ∃ x, Hid (x = World.drew wr) := ⟨_, rfl⟩
            have hbwt1 : Below wr.heap.size wr wt1 := by rw [Hwt1.out]; exact (Below.refl _ _).drew
            rw [← Hwt1.out] at hHeld0 ⊢
            have ywt1 := hbwt1.size
            replace Tk := below_next Tk hbwt1 rfl
            replace BG := BG.next hbwt1
            replace ho1 := own_next ho1 hbwt1
            replace ho2 := own_next ho2 hbwt1
            replace hoQ := own_next hoQ hbwt1
            replace gC3 := keepc hbwt1 gC3
            replace cP3 := keepc hbwt1 cP3
            replace cV := keepc hbwt1 cV
            replace cN := keepc hbwt1 cN
            replace cX := keepc hbwt1 cX
            refine wpAnyH_take (i := 0) (v := .pointer (some ⟨g, 3, none⟩)) rfl (by kernel_rfl) (by kernel_rfl) (by kernel_rfl) (fun _ _ _ h => h) (Or.inl ⟨by kernel_rfl, fun _ _ => by go_simp⟩) (by assumption) ?_
            (try simp only [Act.put, List.getElem_toArray, List.getElem_cons_zero, List.getElem_cons_succ, List.setIfInBounds_toArray, List.set_cons_zero, List.set_cons_succ])
            refine wpAnyH_take (i := 1) (v := .slice (some ⟨gr, 0, none⟩) nV nV) rfl (by kernel_rfl) (by kernel_rfl) (by kernel_rfl) (fun _ _ _ h => h) (Or.inl ⟨by kernel_rfl, fun wv hSw => by (obtain ⟨hS0, hS1, hS2, hS3, hS4⟩ := hSw); go_simp⟩) (by assumption) ?_
            (try simp only [Act.put, List.getElem_toArray, List.getElem_cons_zero, List.getElem_cons_succ, List.setIfInBounds_toArray, List.set_cons_zero, List.set_cons_succ])
            refine wpAnyH_take (i := 2) (v := .slice (some ⟨bs, os, none⟩) nV cS) rfl (by kernel_rfl) (by kernel_rfl) (by kernel_rfl) (fun _ _ _ h => h) (Or.inl ⟨by kernel_rfl, fun _ _ => by go_simp⟩) (by assumption) ?_
            (try simp only [Act.put, List.getElem_toArray, List.getElem_cons_zero, List.getElem_cons_succ, List.setIfInBounds_toArray, List.set_cons_zero, List.set_cons_succ])
            refine wpAnyH_take (i := 3) (v := .int .i64 j) rfl (by kernel_rfl) (by kernel_rfl) (by kernel_rfl) (fun _ _ _ h => h) (Or.inl ⟨by kernel_rfl, fun _ _ => by go_simp⟩) (by assumption) ?_
            (try simp only [Act.put, List.getElem_toArray, List.getElem_cons_zero, List.getElem_cons_succ, List.setIfInBounds_toArray, List.set_cons_zero, List.set_cons_succ])
            refine wpAnyH_take (i := 4) (v := .pointer (some ⟨bs, os + j, none⟩)) rfl (by kernel_rfl) (by kernel_rfl) (by kernel_rfl) (fun _ _ _ h => h) (Or.inl ⟨by kernel_rfl, fun _ _ => by go_simp⟩) (by assumption) ?_
            (try simp only [Act.put, List.getElem_toArray, List.getElem_cons_zero, List.getElem_cons_succ, List.setIfInBounds_toArray, List.set_cons_zero, List.set_cons_succ])
            refine wpAnyH_take (i := 5) (v := .int .i64 yq) rfl (by kernel_rfl) (by kernel_rfl) (by kernel_rfl) (fun _ _ _ h => h) (Or.inl ⟨by kernel_rfl, fun wv hSw => by (obtain ⟨hS0, hS1, hS2, hS3, hS4⟩ := hSw); go_simp⟩) (by assumption) ?_
            (try simp only [Act.put, List.getElem_toArray, List.getElem_cons_zero, List.getElem_cons_succ, List.setIfInBounds_toArray, List.set_cons_zero, List.set_cons_succ])
            refine wpAnyH_take (i := 6) (v := .slice (some ⟨bs, os, none⟩) nV cS) rfl (by kernel_rfl) (by kernel_rfl) (by kernel_rfl) (fun _ _ _ h => h) (Or.inl ⟨by kernel_rfl, fun _ _ => by go_simp⟩) (by assumption) ?_
            (try simp only [Act.put, List.getElem_toArray, List.getElem_cons_zero, List.getElem_cons_succ, List.setIfInBounds_toArray, List.set_cons_zero, List.set_cons_succ])
            refine wpAnyH_take (i := 7) (v := .pointer (some ⟨w.heap.size, 3, none⟩)) rfl (by kernel_rfl) (by kernel_rfl) (by kernel_rfl) (fun _ _ _ h => h) (Or.inl ⟨by kernel_rfl, fun _ _ => by go_simp⟩) (by assumption) ?_
            (try simp only [Act.put, List.getElem_toArray, List.getElem_cons_zero, List.getElem_cons_succ, List.setIfInBounds_toArray, List.set_cons_zero, List.set_cons_succ])
            refine wpAnyH_take (i := 8) (v := .slice (some ⟨bv, ov, none⟩) nV cV') rfl (by kernel_rfl) (by kernel_rfl) (by kernel_rfl) (fun _ _ _ h => h) (Or.inl ⟨by kernel_rfl, fun wv hSw => by (obtain ⟨hS0, hS1, hS2, hS3, hS4⟩ := hSw); go_simp⟩) (by assumption) ?_
            (try simp only [Act.put, List.getElem_toArray, List.getElem_cons_zero, List.getElem_cons_succ, List.setIfInBounds_toArray, List.set_cons_zero, List.set_cons_succ])
            refine wpAnyH_take (i := 9) (v := .int .i64 j) rfl (by kernel_rfl) (by kernel_rfl) (by kernel_rfl) (fun _ _ _ h => h) (Or.inl ⟨by kernel_rfl, fun _ _ => by go_simp⟩) (by assumption) ?_
            (try simp only [Act.put, List.getElem_toArray, List.getElem_cons_zero, List.getElem_cons_succ, List.setIfInBounds_toArray, List.set_cons_zero, List.set_cons_succ])
            refine wpAnyH_take (i := 10) (v := .pointer (some ⟨bv, ov + j, none⟩)) rfl (by kernel_rfl) (by kernel_rfl) (by kernel_rfl) (fun _ _ _ h => h) (Or.inl ⟨by kernel_rfl, fun _ _ => by go_simp⟩) (by assumption) ?_
            (try simp only [Act.put, List.getElem_toArray, List.getElem_cons_zero, List.getElem_cons_succ, List.setIfInBounds_toArray, List.set_cons_zero, List.set_cons_succ])
            refine wpAnyH_take (i := 11) (v := .int .i64 vq) rfl (by kernel_rfl) (by kernel_rfl) (by kernel_rfl) (fun _ _ _ h => h) (Or.inl ⟨by kernel_rfl, fun wv hSw => by (obtain ⟨hS0, hS1, hS2, hS3, hS4⟩ := hSw); go_simp⟩) (by assumption) ?_
            (try simp only [Act.put, List.getElem_toArray, List.getElem_cons_zero, List.getElem_cons_succ, List.setIfInBounds_toArray, List.set_cons_zero, List.set_cons_succ])
            refine wpAnyH_take (i := 12) (v := .pointer (some ⟨bs, os + vq, none⟩)) rfl (by kernel_rfl) (by kernel_rfl) (by kernel_rfl) (fun _ _ _ h => h) (Or.inl ⟨by kernel_rfl, fun _ _ => by go_simp⟩) (by assumption) ?_
            (try simp only [Act.put, List.getElem_toArray, List.getElem_cons_zero, List.getElem_cons_succ, List.setIfInBounds_toArray, List.set_cons_zero, List.set_cons_succ])
            refine wpAnyH_take (i := 13) (v := .int .i64 (nmI s (vq : Int))) rfl (by kernel_rfl) (by kernel_rfl) (by kernel_rfl) (fun _ _ _ h => h) (Or.inl ⟨by kernel_rfl, fun wv hSw => by (obtain ⟨hS0, hS1, hS2, hS3, hS4⟩ := hSw); go_simp⟩) (by assumption) ?_
            (try simp only [Act.put, List.getElem_toArray, List.getElem_cons_zero, List.getElem_cons_succ, List.setIfInBounds_toArray, List.set_cons_zero, List.set_cons_succ])
            refine wpAnyH_take (i := 14) (v := .pointer (some ⟨gr, yq, none⟩)) rfl (by kernel_rfl) (by kernel_rfl) (by kernel_rfl) (fun _ _ _ h => h) (Or.inl ⟨by kernel_rfl, fun _ _ => by go_simp⟩) (by assumption) ?_
            (try simp only [Act.put, List.getElem_toArray, List.getElem_cons_zero, List.getElem_cons_succ, List.setIfInBounds_toArray, List.set_cons_zero, List.set_cons_succ])
            refine wpAnyH_ready (rs := [15]) (by kernel_rfl) (by simp) ?_
            refine (AllReadyH.cons rfl (fun K hK => ?_) AllReadyH.nil)
            have hfz := hoQ.frozenAt yq
            obtain ⟨z0, hz0⟩ := own_cellI hoQ HQL.out hyn
            go_simp
            obtain ⟨wt2, Hwt2⟩ : ∃ x, Hid (x = wt1.setCell ⟨gr, yq, none⟩ (.int .i64 (nmI s (vq : Int)))) := ⟨_, rfl⟩
            rw [← Hwt2.out]
            have BGf : Blk wt2 g 34 #[.int .i64 4, .slice A1 nL c1, .slice A2 nR c2, .slice (some ⟨gr, 0, none⟩) nV nV] := by rw [Hwt2.out]; exact BG.far (by exact hggr) _
            have hof1 : wt2.ownsRow w0.heap.size 3 1 (.slice A1 nL c1) nL (ints L) := by rw [Hwt2.out]; exact own_setA ho1 fun q hq e => ha1 q hq (by rw [e]; rfl)
            have hof2 : wt2.ownsRow w0.heap.size 3 1 (.slice A2 nR c2) nR (ints R) := by rw [Hwt2.out]; exact own_setA ho2 fun q hq e => ha2 q hq (by rw [e]; rfl)
            have hofQ : wt2.ownsRow w0.heap.size 3 1 (.slice (some ⟨gr, 0, none⟩) nV nV) nV (ints (Q.set yq (nmI s (vq : Int)))) := by rw [Hwt2.out, ← ints_set]; exact (hoQ.stored yq (.int .i64 (nmI s (vq : Int)))).1
            have Tf : Below w0.heap.size w0 wt2 := by rw [Hwt2.out]; exact Tk.setCell (p := ⟨gr, yq, none⟩) (by exact hgrl) _
            replace gC3 := BGf.cell 3
            simp at gC3
            replace cP3 := keepc Tf HCV.out.1
            replace cV := keepc Tf HCV.out.2.1
            replace cN := keepc Tf HCV.out.2.2.1
            replace cX := keepc Tf HCV.out.2.2.2
            refine hK.out _ _ ⟨gC3, cP3, cV, cN, cX⟩ (fun hHeld1 => ?_)
            clear hK K hHeld0
            (try simp only [Act.put, List.getElem_toArray, List.getElem_cons_zero, List.getElem_cons_succ, List.setIfInBounds_toArray, List.set_cons_zero, List.set_cons_succ])
            refine wpAnyH_done (by kernel_rfl) ?_ _
            go_wp2_with fail
            go_roundw
            case rel => exact ⟨j + 1, _, by omega, by go_num, BGf, hof1, hof2, hofQ, HQL2, HQ2, Tf⟩
            case measure => simp [intOf]; try omega
          · obtain rfl : j = nV := by omega
            have hj1 : ¬ (j : Int) < (j : Int) := by omega
            have HFD := Lib.hid (fill_done HP.out HVL.out HQL.out HQ.out)
            go_wp2_with fail
            go_meet
            exact ⟨some ⟨gr, 0, none⟩, j, j, Q, BG, ho1, ho2, hoQ, Tk, HA12.out, ha1, ha2, fun _ => ⟨by rw [HFD.out, ← HX.out]; unfold rfL; rw [if_neg (by decide), if_neg (by decide), if_pos rfl, HSL.out]; exact kerL_comp HP.out (comp_inM HVL.out HVI.out (inv_in HP.out)), rfl, by rw [HFD.out]; exact comp_in HP.out (comp_inM HVL.out HVI.out (inv_in HP.out))⟩, fun h => absurd rfl h⟩
      · -- kind 5
        have hsz1 := Tk.size
        have HXE : Hid (X = markL n fun z => hasI (z : Int) (comp V s)) := by
          show X = _
          rw [← HX.out]
          unfold rfL
          rw [if_neg (by decide), if_pos (by decide), HSL.out]
        go_wp2_with fail
        go_loopw [6] (fun i wr => ∃ (j b m c3 : Nat) (Y : List Int), j ≤ nV ∧ i = .int .i64 j ∧ Blk wr g 34 #[.int .i64 5, .slice A1 nL c1, .slice A2 nR c2, .slice (some ⟨b, 0, none⟩) m c3] ∧ wr.ownsRow w0.heap.size 3 1 (.slice A1 nL c1) nL (ints L) ∧ wr.ownsRow w0.heap.size 3 1 (.slice A2 nR c2) nR (ints R) ∧ wr.ownsRow w0.heap.size 3 1 (.slice (some ⟨b, 0, none⟩) m c3) m (ints Y) ∧ Hid (Y = markL n fun z => hasI (z : Int) (comp (V.take j) s)) ∧ Below w0.heap.size w0 wr ∧ Apart (.slice A1 nL c1) (.slice (some ⟨b, 0, none⟩) m c3) ∧ Apart (.slice A2 nR c2) (.slice (some ⟨b, 0, none⟩) m c3)) (fun i _ => nV - (intOf i).toNat)
        case atStart => exact ⟨0, ge, 0, 0, [], Nat.zero_le _, rfl, BG, ho1, ho2, hoe, (by show _ = _; rw [List.take_zero]; simp [comp, markL, hasI]), Tk, ha1e, ha2e⟩
        case round =>
          clear BG ho1 ho2 hoe Tk ha1e ha2e gC0 gC1 gC2 gC3 gF0 gF1 gF2 gF3 cP0 cP1 cP2 cP3 hz1 hg1 hsz1
          obtain ⟨j, b, m, c3, Y, hj, rfl, BG, ho1, ho2, hoY, HYE, Tk, ha1, ha2⟩ := hrel
          have cP3 := keepc Tk HCP.out.2.2.2
          have gC3 := BG.cell 3
          simp at gC3
          by_cases hlt : j < nV
          · have hj0 : (0 : Int) ≤ (j : Int) := by omega
            have hj1 : (j : Int) < (nV : Int) := by omega
            obtain ⟨bv, ov, vv, vz, hAV, cV0, ⟨rfl, -, -⟩, -, hvx⟩ := (HVR.out w0 (Below.refl _ _)).at hlt
            subst hAV
            have hvi := HVI.out vz (List.mem_of_getElem? hvx)
            obtain ⟨vq, rfl⟩ := Int.eq_ofNat_of_zero_le hvi.1
            have hvn : vq < n := by omega
            obtain ⟨bs, os, vs, vn, hAS, cN0, ⟨rfl, -, -⟩, -, hnx⟩ := (HSR.out w0 (Below.refl _ _)).at hvn
            subst hAS
            obtain rfl : nmI s (vq : Int) = vn := by unfold nmI; rw [Int.toNat_natCast, List.getD_eq_getElem?_getD, hnx]; rfl
            have cV := keepc Tk cV0
            have cN := keepc Tk cN0
            have HCV : Hid (w0.cell? ⟨w.heap.size, 3, none⟩ = some (.slice (some ⟨bv, ov, none⟩) nV cV') ∧ w0.cell? ⟨bv, ov + j, none⟩ = some (.int .i64 (vq : Int)) ∧ w0.cell? ⟨bs, os + vq, none⟩ = some (.int .i64 (nmI s (vq : Int)))) := ⟨HCP.out.2.2.2, cV0, cN0⟩
            have hv0 : (0 : Int) ≤ (vq : Int) := by omega
            have hv1 : (vq : Int) < (n : Int) := by omega
            have hnz := nmI_in HP.out hv0 hvi.2
            have HZB : Hid (-2000 ≤ nmI s (vq : Int) ∧ nmI s (vq : Int) ≤ 2000) := ⟨by omega, by omega⟩
            have HZN : Hid (∃ yq : Nat, nmI s (vq : Int) = (yq : Int) ∧ yq < n) := ⟨(nmI s (vq : Int)).toNat, by omega, by omega⟩
            have HTK : Hid (comp (V.take (j + 1)) s = comp (V.take j) s ++ [nmI s (vq : Int)]) := by
              show _ = _
              rw [List.take_add_one, hvx]
              simp [comp]
            have HMN : Hid (m ≤ 1000) := by
              have h1 := hoY.1
              rw [ints_len, HYE.out] at h1
              have := markL_le n fun z => hasI (z : Int) (comp (V.take j) s)
              show m ≤ 1000
              omega
            have HYB : Hid (∀ z ∈ Y, -2000 ≤ z ∧ z ≤ 2000) := fun z hz => by
              rw [HYE.out] at hz
              have := markL_in _ hz
              omega
            clear hnx hvx hnz hvi cV0 cN0
            go_wp2_with fail
            refine wp_region_held_drew (S := fun w' => w'.cell? ⟨w.heap.size, 3, none⟩ = some (.slice (some ⟨bv, ov, none⟩) nV cV') ∧ w'.cell? ⟨bv, ov + j, none⟩ = some (.int .i64 vq) ∧ w'.cell? ⟨bs, os + vq, none⟩ = some (.int .i64 (nmI s (vq : Int)))) (by kernel_rfl) ⟨cP3, cV, cN⟩ (fun hHeld0 => ?_)
            obtain ⟨wt1, Hwt1⟩ : ∃ x, Hid (x = World.drew wr) := ⟨_, rfl⟩
            have hbwt1 : Below wr.heap.size wr wt1 := by rw [Hwt1.out]; exact (Below.refl _ _).drew
            rw [← Hwt1.out] at hHeld0 ⊢
            have ywt1 := hbwt1.size
            replace Tk := below_next Tk hbwt1 rfl
            replace BG := BG.next hbwt1
            replace ho1 := own_next ho1 hbwt1
            replace ho2 := own_next ho2 hbwt1
            replace hoY := own_next hoY hbwt1
            replace gC3 := keepc hbwt1 gC3
            replace cP3 := keepc hbwt1 cP3
            replace cV := keepc hbwt1 cV
            replace cN := keepc hbwt1 cN
            refine wpAnyH_take (i := 0) (v := .pointer (some ⟨g, 3, none⟩)) rfl (by kernel_rfl) (by kernel_rfl) (by kernel_rfl) (fun _ _ _ h => h) (Or.inl ⟨by kernel_rfl, fun _ _ => by go_simp⟩) (by assumption) ?_
            (try simp only [Act.put, List.getElem_toArray, List.getElem_cons_zero, List.getElem_cons_succ, List.setIfInBounds_toArray, List.set_cons_zero, List.set_cons_succ])
            refine wpAnyH_take (i := 2) (v := .slice (some ⟨bs, os, none⟩) n cS) rfl (by kernel_rfl) (by kernel_rfl) (by kernel_rfl) (fun _ _ _ h => h) (Or.inl ⟨by kernel_rfl, fun _ _ => by go_simp⟩) (by assumption) ?_
            (try simp only [Act.put, List.getElem_toArray, List.getElem_cons_zero, List.getElem_cons_succ, List.setIfInBounds_toArray, List.set_cons_zero, List.set_cons_succ])
            refine wpAnyH_take (i := 3) (v := .pointer (some ⟨w.heap.size, 3, none⟩)) rfl (by kernel_rfl) (by kernel_rfl) (by kernel_rfl) (fun _ _ _ h => h) (Or.inl ⟨by kernel_rfl, fun _ _ => by go_simp⟩) (by assumption) ?_
            (try simp only [Act.put, List.getElem_toArray, List.getElem_cons_zero, List.getElem_cons_succ, List.setIfInBounds_toArray, List.set_cons_zero, List.set_cons_succ])
            refine wpAnyH_take (i := 4) (v := .slice (some ⟨bv, ov, none⟩) nV cV') rfl (by kernel_rfl) (by kernel_rfl) (by kernel_rfl) (fun _ _ _ h => h) (Or.inl ⟨by kernel_rfl, fun wv hSw => by (obtain ⟨hS0, hS1, hS2⟩ := hSw); go_simp⟩) (by assumption) ?_
            (try simp only [Act.put, List.getElem_toArray, List.getElem_cons_zero, List.getElem_cons_succ, List.setIfInBounds_toArray, List.set_cons_zero, List.set_cons_succ])
            refine wpAnyH_take (i := 5) (v := .int .i64 j) rfl (by kernel_rfl) (by kernel_rfl) (by kernel_rfl) (fun _ _ _ h => h) (Or.inl ⟨by kernel_rfl, fun _ _ => by go_simp⟩) (by assumption) ?_
            (try simp only [Act.put, List.getElem_toArray, List.getElem_cons_zero, List.getElem_cons_succ, List.setIfInBounds_toArray, List.set_cons_zero, List.set_cons_succ])
            refine wpAnyH_take (i := 6) (v := .pointer (some ⟨bv, ov + j, none⟩)) rfl (by kernel_rfl) (by kernel_rfl) (by kernel_rfl) (fun _ _ _ h => h) (Or.inl ⟨by kernel_rfl, fun _ _ => by go_simp⟩) (by assumption) ?_
            (try simp only [Act.put, List.getElem_toArray, List.getElem_cons_zero, List.getElem_cons_succ, List.setIfInBounds_toArray, List.set_cons_zero, List.set_cons_succ])
            refine wpAnyH_take (i := 7) (v := .int .i64 vq) rfl (by kernel_rfl) (by kernel_rfl) (by kernel_rfl) (fun _ _ _ h => h) (Or.inl ⟨by kernel_rfl, fun wv hSw => by (obtain ⟨hS0, hS1, hS2⟩ := hSw); go_simp⟩) (by assumption) ?_
            (try simp only [Act.put, List.getElem_toArray, List.getElem_cons_zero, List.getElem_cons_succ, List.setIfInBounds_toArray, List.set_cons_zero, List.set_cons_succ])
            refine wpAnyH_take (i := 8) (v := .pointer (some ⟨bs, os + vq, none⟩)) rfl (by kernel_rfl) (by kernel_rfl) (by kernel_rfl) (fun _ _ _ h => h) (Or.inl ⟨by kernel_rfl, fun _ _ => by go_simp⟩) (by assumption) ?_
            (try simp only [Act.put, List.getElem_toArray, List.getElem_cons_zero, List.getElem_cons_succ, List.setIfInBounds_toArray, List.set_cons_zero, List.set_cons_succ])
            refine wpAnyH_take (i := 9) (v := .int .i64 (nmI s (vq : Int))) rfl (by kernel_rfl) (by kernel_rfl) (by kernel_rfl) (fun _ _ _ h => h) (Or.inl ⟨by kernel_rfl, fun wv hSw => by (obtain ⟨hS0, hS1, hS2⟩ := hSw); go_simp⟩) (by assumption) ?_
            (try simp only [Act.put, List.getElem_toArray, List.getElem_cons_zero, List.getElem_cons_succ, List.setIfInBounds_toArray, List.set_cons_zero, List.set_cons_succ])
            refine wpAnyH_ready (rs := [1]) (by kernel_rfl) (by simp) ?_
            refine (AllReadyH.cons rfl (fun K hK => ?_) AllReadyH.nil)
            go_simp
            refine hK.out _ _ ⟨cP3, cV, cN⟩ (fun hHeld1 => ?_)
            clear hK K hHeld0
            (try simp only [Act.put, List.getElem_toArray, List.getElem_cons_zero, List.getElem_cons_succ, List.setIfInBounds_toArray, List.set_cons_zero, List.set_cons_succ])
            refine wpAnyH_ready (rs := [10]) (by kernel_rfl) (by simp) ?_
            refine (AllReadyH.cons rfl (fun K hK => ?_) AllReadyH.nil)
            go_simp
            refine (l1PutY_any w0.heap.size b m c3 Y (nmI s (vq : Int)) wt1 hoY Tk.size HMN.out HYB.out HZB.out).mono ?_
            rintro e wt2 ⟨A9, m9, c9, L9, rfl, hoL, hm9, hP9, hbwt2, hor⟩
            have hq1 := ho1
            have hq2 := ho2
            go_wp2_with fail
            have ywt2 := hbwt2.size
            replace Tk := below_next Tk hbwt2 rfl
            replace BG := BG.next hbwt2
            replace ho1 := own_next ho1 hbwt2
            replace ho2 := own_next ho2 hbwt2
            replace hoY := own_next hoY hbwt2
            replace gC3 := keepc hbwt2 gC3
            replace cP3 := keepc hbwt2 cP3
            replace cV := keepc hbwt2 cV
            replace cN := keepc hbwt2 cN
            refine hK.out _ _ ⟨cP3, cV, cN⟩ (fun hHeld2 => ?_)
            clear hK K hHeld1
            (try simp only [Act.put, List.getElem_toArray, List.getElem_cons_zero, List.getElem_cons_succ, List.setIfInBounds_toArray, List.set_cons_zero, List.set_cons_succ])
            refine wpAnyH_take (i := 11) (v := .pointer (some ⟨g, 3, none⟩)) rfl (by kernel_rfl) (by kernel_rfl) (by kernel_rfl) (fun _ _ _ h => h) (Or.inl ⟨by kernel_rfl, fun _ _ => by go_simp⟩) (by assumption) ?_
            (try simp only [Act.put, List.getElem_toArray, List.getElem_cons_zero, List.getElem_cons_succ, List.setIfInBounds_toArray, List.set_cons_zero, List.set_cons_succ])
            refine wpAnyH_ready (rs := [12]) (by kernel_rfl) (by simp) ?_
            refine (AllReadyH.cons rfl (fun K hK => ?_) AllReadyH.nil)
            have BGc := BG
            have gF3 := BG.frozen 3
            go_simp
            obtain ⟨wt3, Hwt3⟩ : ∃ x, Hid (x = wt2.setCell ⟨g, 3, none⟩ (.slice A9 m9 c9)) := ⟨_, rfl⟩
            rw [← Hwt3.out]
            have BGf : Blk wt3 g 34 #[.int .i64 5, .slice A1 nL c1, .slice A2 nR c2, .slice A9 m9 c9] := by rw [Hwt3.out]; simpa using BG.set_ 3 (.slice A9 m9 c9)
            have hof1 : wt3.ownsRow w0.heap.size 3 1 (.slice A1 nL c1) nL (ints L) := by rw [Hwt3.out]; exact own_setT ho1 BG (by decide)
            have hof2 : wt3.ownsRow w0.heap.size 3 1 (.slice A2 nR c2) nR (ints R) := by rw [Hwt3.out]; exact own_setT ho2 BG (by decide)
            have hofL : wt3.ownsRow w0.heap.size 3 1 (.slice A9 m9 c9) m9 (ints L9) := by rw [Hwt3.out]; exact own_setT hoL BG (by decide)
            have Tf : Below w0.heap.size w0 wt3 := by rw [Hwt3.out]; exact Tk.setCell (p := ⟨g, 3, none⟩) (by exact hgl) _
            replace cP3 := keepc Tf HCV.out.1
            replace cV := keepc Tf HCV.out.2.1
            replace cN := keepc Tf HCV.out.2.2
            refine hK.out _ _ ⟨cP3, cV, cN⟩ (fun hHeld3 => ?_)
            clear hK K hHeld2
            (try simp only [Act.put, List.getElem_toArray, List.getElem_cons_zero, List.getElem_cons_succ, List.setIfInBounds_toArray, List.set_cons_zero, List.set_cons_succ])
            refine wpAnyH_done (by kernel_rfl) ?_ _
            obtain ⟨A10, hA10⟩ : ∃ b9, A9 = some ⟨b9, 0, none⟩ := by
              have hL9 : 0 < m9 := by
                have h1 := hofL.1
                rw [ints_len] at h1
                have := put_pos hP9
                omega
              obtain ⟨b9, rfl, -, -⟩ := own_form hofL hL9
              exact ⟨b9, rfl⟩
            subst hA10
            have HY2 : Hid (L9 = markL n fun z => hasI (z : Int) (comp (V.take (j + 1)) s)) := by
              have hP := hP9
              rw [HYE.out] at hP
              obtain ⟨yq, hyq, hyn⟩ := HZN.out
              rw [hyq] at hP
              have := mark_snoc hyn hP
              rw [← hyq] at this
              rw [← HTK.out] at this
              exact this
            have HA1 : Hid (Apart (.slice A1 nL c1) (.slice (some ⟨A10, 0, none⟩) m9 c9) ∧ Apart (.slice A2 nR c2) (.slice (some ⟨A10, 0, none⟩) m9 c9)) := by
              rcases hor with ⟨e1, e2, e3, -⟩ | hor
              · injection e1 with e1
                injection e1 with e1
                subst e1 e2 e3
                exact ⟨ha1, ha2⟩
              · exact ⟨apart_new hq1 hor (Nat.le_refl _), apart_new hq2 hor (Nat.le_refl _)⟩
            go_wp2_with fail
            go_roundw
            case rel => exact ⟨j + 1, A10, m9, c9, L9, by omega, by go_num, BGf, hof1, hof2, hofL, HY2, Tf, HA1.out.1, HA1.out.2⟩
            case measure => simp [intOf]; try omega
          · obtain rfl : j = nV := by omega
            have hj1 : ¬ (j : Int) < (j : Int) := by omega
            have HYX : Hid (Y = X) := by
              show Y = X
              rw [HXE.out, HYE.out, List.take_of_length_le (by rw [HVL.out]; exact Nat.le_refl _)]
            go_wp2_with fail
            go_meet
            exact ⟨some ⟨b, 0, none⟩, m, c3, Y, BG, ho1, ho2, hoY, Tk, HA12.out, ha1, ha2, fun h => absurd h (by decide), fun _ => HYX.out⟩
      · -- kind 6
        obtain ⟨wb, HWB⟩ : ∃ wb, wb = w1 := ⟨_, rfl⟩
        subst HWB
        have hvn : nV = n := by rw [← HVL.out]; exact H46.out (by decide)
        subst hvn
        go_wp2_with (at_make; refine make_ints wb rfl _ _ rfl nV rfl rfl (by omega) ?_; intro w3 hown3 hg3; have hb3 := (Below.refl wb.heap.size wb).grown hg3 (Nat.le_refl _) (by simp); have BG3 := BG.next hb3; have gD3 := BG3.cell 3; simp at gD3; have gE3 := BG3.frozen 3; clear gC0 gC1 gC2 gC3 gF0 gF1 gF2 gF3 cP0 cP1 cP2 cP3)
        rw [zeros_int] at hown3
        have ha1 := apart_new ho1 hown3 (Nat.le_refl _)
        have ha2 := apart_new ho2 hown3 (Nat.le_refl _)
        obtain ⟨gr, HGR⟩ : ∃ gr, gr = wb.heap.size := ⟨_, rfl⟩
        rw [← HGR] at hown3 ha1 ha2
        obtain ⟨w4, HW4⟩ : ∃ w4, Hid (w4 = w3.setCell ⟨g, 3, none⟩ (.slice (some ⟨gr, 0, none⟩) nV nV)) := ⟨_, rfl⟩
        have BG4 : Blk w4 g 34 #[.int .i64 6, .slice A1 nL c1, .slice A2 nR c2, .slice (some ⟨gr, 0, none⟩) nV nV] := by rw [HW4.out]; simpa using BG3.set_ 3 (.slice (some ⟨gr, 0, none⟩) nV nV)
        have ho14 : w4.ownsRow w0.heap.size 3 1 (.slice A1 nL c1) nL (ints L) := by rw [HW4.out]; exact own_setT (own_next ho1 hb3) BG3 (by decide)
        have ho24 : w4.ownsRow w0.heap.size 3 1 (.slice A2 nR c2) nR (ints R) := by rw [HW4.out]; exact own_setT (own_next ho2 hb3) BG3 (by decide)
        have hgrl : w0.heap.size ≤ gr := by rw [HGR]; exact hz1
        have hggr : g ≠ gr := by rw [HGR]; omega
        have hoQ4 : w4.ownsRow w0.heap.size 3 1 (.slice (some ⟨gr, 0, none⟩) nV nV) nV (ints (List.replicate nV 0)) := by rw [HW4.out]; exact own_mono (own_setT hown3 BG3 (by decide)) hgrl
        have Tk4 : Below w0.heap.size w0 w4 := by rw [HW4.out]; exact (below_next Tk hb3 rfl).setCell (p := ⟨g, 3, none⟩) (by exact hgl) _
        have HA := Lib.hid (And.intro ha1 ha2)
        have HOO := Lib.hid (And.intro BG4 (And.intro ho14 (And.intro ho24 (And.intro hoQ4 Tk4))))
        clear BG BG3 BG4 ho1 ho2 hoe hown3 hg3 ho14 ho24 hoQ4 Tk Tk4 ha1 ha2 ha1e ha2e hz1 hg1
        rw [← HGR, ← HW4.out]
        clear gD3 gE3 hb3 HGR
        go_loopw [7] (fun i wr => ∃ (j : Nat) (Q : List Int), j ≤ nV ∧ i = .int .i64 j ∧ Blk wr g 34 #[.int .i64 6, .slice A1 nL c1, .slice A2 nR c2, .slice (some ⟨gr, 0, none⟩) nV nV] ∧ wr.ownsRow w0.heap.size 3 1 (.slice A1 nL c1) nL (ints L) ∧ wr.ownsRow w0.heap.size 3 1 (.slice A2 nR c2) nR (ints R) ∧ wr.ownsRow w0.heap.size 3 1 (.slice (some ⟨gr, 0, none⟩) nV nV) nV (ints Q) ∧ Hid (Q.length = nV) ∧ Hid (∀ x, x < j → Q[nmAt s x]? = some (nmI s (V.getD x 0))) ∧ Below w0.heap.size w0 wr) (fun i _ => nV - (intOf i).toNat)
        case atStart => exact ⟨0, _, Nat.zero_le _, rfl, HOO.out.1, HOO.out.2.1, HOO.out.2.2.1, HOO.out.2.2.2.1, List.length_replicate .., (fun x hx => absurd hx (by omega)), HOO.out.2.2.2.2⟩
        case round =>
          obtain ⟨j, Q, hj, rfl, BG, ho1, ho2, hoQ, HQL, HQ, Tk⟩ := hrel
          have cP3 := keepc Tk HCP.out.2.2.2
          have gC3 := BG.cell 3
          simp at gC3
          have ha1 := HA.out.1
          have ha2 := HA.out.2
          by_cases hlt : j < nV
          · have hj0 : (0 : Int) ≤ (j : Int) := by omega
            have hj1 : (j : Int) < (nV : Int) := by omega
            obtain ⟨bv, ov, vv, vz, hAV, cV0, ⟨rfl, -, -⟩, -, hvx⟩ := (HVR.out w0 (Below.refl _ _)).at hlt
            subst hAV
            have hvi := HVI.out vz (List.mem_of_getElem? hvx)
            obtain ⟨vq, rfl⟩ := Int.eq_ofNat_of_zero_le hvi.1
            have hvn : vq < nV := by omega
            obtain ⟨bs, os, vs, vn, hAS, cN0, ⟨rfl, -, -⟩, -, hnx⟩ := (HSR.out w0 (Below.refl _ _)).at hvn
            subst hAS
            obtain rfl : nmI s (vq : Int) = vn := by unfold nmI; rw [Int.toNat_natCast, List.getD_eq_getElem?_getD, hnx]; rfl
            obtain ⟨bs2, os2, vs2, vn2, hAS2, cX0, ⟨rfl, -, -⟩, -, hnx2⟩ := (HSR.out w0 (Below.refl _ _)).at hlt
            injection hAS2 with hAS2
            injection hAS2 with e1 e2
            subst e1 e2
            obtain ⟨yq, hy, hyn, hye⟩ := HP.out.at hlt
            obtain rfl : vn2 = (yq : Int) := by rw [hnx2] at hy; injection hy
            have cV := keepc Tk cV0
            have cN := keepc Tk cN0
            have cX := keepc Tk cX0
            have HCV : Hid (w0.cell? ⟨w.heap.size, 3, none⟩ = some (.slice (some ⟨bv, ov, none⟩) nV cV') ∧ w0.cell? ⟨bv, ov + j, none⟩ = some (.int .i64 (vq : Int)) ∧ w0.cell? ⟨bs, os + vq, none⟩ = some (.int .i64 (nmI s (vq : Int))) ∧ w0.cell? ⟨bs, os + j, none⟩ = some (.int .i64 (yq : Int))) := ⟨HCP.out.2.2.2, cV0, cN0, cX0⟩
            have hv0 : (0 : Int) ≤ (vq : Int) := by omega
            have hv1 : (vq : Int) < (nV : Int) := by omega
            have hy0 : (0 : Int) ≤ (yq : Int) := by omega
            have hy1 : (yq : Int) < (nV : Int) := by omega
            have eF : nmI s (V.getD j 0) = nmI s (vq : Int) := by rw [List.getD_eq_getElem?_getD, hvx]; rfl
            have HQ2 : Hid (∀ x, x < j + 1 → (Q.set yq (nmI s (vq : Int)))[nmAt s x]? = some (nmI s (V.getD x 0))) := by
              have := set_fill HP.out HQL.out hlt HQ.out
              rwa [hye, eF] at this
            have HQL2 : Hid ((Q.set yq (nmI s (vq : Int))).length = nV) := by show _ = _; rw [List.length_set]; exact HQL.out
            clear hnx hnx2 hvx hvi cV0 cN0 cX0 hy hye eF
            go_wp2_with fail
            refine wp_region_held_drew (S := fun w' => w'.cell? ⟨g, 3, none⟩ = some (.slice (some ⟨gr, 0, none⟩) nV nV) ∧ w'.cell? ⟨w.heap.size, 3, none⟩ = some (.slice (some ⟨bv, ov, none⟩) nV cV') ∧ w'.cell? ⟨bv, ov + j, none⟩ = some (.int .i64 vq) ∧ w'.cell? ⟨bs, os + vq, none⟩ = some (.int .i64 (nmI s (vq : Int))) ∧ w'.cell? ⟨bs, os + j, none⟩ = some (.int .i64 yq)) (by kernel_rfl) ⟨gC3, cP3, cV, cN, cX⟩ (fun hHeld0 => ?_)
            obtain ⟨wt1, Hwt1⟩ : ∃ x, Hid (x = World.drew wr) := ⟨_, rfl⟩
            have hbwt1 : Below wr.heap.size wr wt1 := by rw [Hwt1.out]; exact (Below.refl _ _).drew
            rw [← Hwt1.out] at hHeld0 ⊢
            have ywt1 := hbwt1.size
            replace Tk := below_next Tk hbwt1 rfl
            replace BG := BG.next hbwt1
            replace ho1 := own_next ho1 hbwt1
            replace ho2 := own_next ho2 hbwt1
            replace hoQ := own_next hoQ hbwt1
            replace gC3 := keepc hbwt1 gC3
            replace cP3 := keepc hbwt1 cP3
            replace cV := keepc hbwt1 cV
            replace cN := keepc hbwt1 cN
            replace cX := keepc hbwt1 cX
            refine wpAnyH_take (i := 0) (v := .pointer (some ⟨g, 3, none⟩)) rfl (by kernel_rfl) (by kernel_rfl) (by kernel_rfl) (fun _ _ _ h => h) (Or.inl ⟨by kernel_rfl, fun _ _ => by go_simp⟩) (by assumption) ?_
            (try simp only [Act.put, List.getElem_toArray, List.getElem_cons_zero, List.getElem_cons_succ, List.setIfInBounds_toArray, List.set_cons_zero, List.set_cons_succ])
            refine wpAnyH_take (i := 1) (v := .slice (some ⟨gr, 0, none⟩) nV nV) rfl (by kernel_rfl) (by kernel_rfl) (by kernel_rfl) (fun _ _ _ h => h) (Or.inl ⟨by kernel_rfl, fun wv hSw => by (obtain ⟨hS0, hS1, hS2, hS3, hS4⟩ := hSw); go_simp⟩) (by assumption) ?_
            (try simp only [Act.put, List.getElem_toArray, List.getElem_cons_zero, List.getElem_cons_succ, List.setIfInBounds_toArray, List.set_cons_zero, List.set_cons_succ])
            refine wpAnyH_take (i := 2) (v := .slice (some ⟨bs, os, none⟩) nV cS) rfl (by kernel_rfl) (by kernel_rfl) (by kernel_rfl) (fun _ _ _ h => h) (Or.inl ⟨by kernel_rfl, fun _ _ => by go_simp⟩) (by assumption) ?_
            (try simp only [Act.put, List.getElem_toArray, List.getElem_cons_zero, List.getElem_cons_succ, List.setIfInBounds_toArray, List.set_cons_zero, List.set_cons_succ])
            refine wpAnyH_take (i := 3) (v := .int .i64 j) rfl (by kernel_rfl) (by kernel_rfl) (by kernel_rfl) (fun _ _ _ h => h) (Or.inl ⟨by kernel_rfl, fun _ _ => by go_simp⟩) (by assumption) ?_
            (try simp only [Act.put, List.getElem_toArray, List.getElem_cons_zero, List.getElem_cons_succ, List.setIfInBounds_toArray, List.set_cons_zero, List.set_cons_succ])
            refine wpAnyH_take (i := 4) (v := .pointer (some ⟨bs, os + j, none⟩)) rfl (by kernel_rfl) (by kernel_rfl) (by kernel_rfl) (fun _ _ _ h => h) (Or.inl ⟨by kernel_rfl, fun _ _ => by go_simp⟩) (by assumption) ?_
            (try simp only [Act.put, List.getElem_toArray, List.getElem_cons_zero, List.getElem_cons_succ, List.setIfInBounds_toArray, List.set_cons_zero, List.set_cons_succ])
            refine wpAnyH_take (i := 5) (v := .int .i64 yq) rfl (by kernel_rfl) (by kernel_rfl) (by kernel_rfl) (fun _ _ _ h => h) (Or.inl ⟨by kernel_rfl, fun wv hSw => by (obtain ⟨hS0, hS1, hS2, hS3, hS4⟩ := hSw); go_simp⟩) (by assumption) ?_
            (try simp only [Act.put, List.getElem_toArray, List.getElem_cons_zero, List.getElem_cons_succ, List.setIfInBounds_toArray, List.set_cons_zero, List.set_cons_succ])
            refine wpAnyH_take (i := 6) (v := .slice (some ⟨bs, os, none⟩) nV cS) rfl (by kernel_rfl) (by kernel_rfl) (by kernel_rfl) (fun _ _ _ h => h) (Or.inl ⟨by kernel_rfl, fun _ _ => by go_simp⟩) (by assumption) ?_
            (try simp only [Act.put, List.getElem_toArray, List.getElem_cons_zero, List.getElem_cons_succ, List.setIfInBounds_toArray, List.set_cons_zero, List.set_cons_succ])
            refine wpAnyH_take (i := 7) (v := .pointer (some ⟨w.heap.size, 3, none⟩)) rfl (by kernel_rfl) (by kernel_rfl) (by kernel_rfl) (fun _ _ _ h => h) (Or.inl ⟨by kernel_rfl, fun _ _ => by go_simp⟩) (by assumption) ?_
            (try simp only [Act.put, List.getElem_toArray, List.getElem_cons_zero, List.getElem_cons_succ, List.setIfInBounds_toArray, List.set_cons_zero, List.set_cons_succ])
            refine wpAnyH_take (i := 8) (v := .slice (some ⟨bv, ov, none⟩) nV cV') rfl (by kernel_rfl) (by kernel_rfl) (by kernel_rfl) (fun _ _ _ h => h) (Or.inl ⟨by kernel_rfl, fun wv hSw => by (obtain ⟨hS0, hS1, hS2, hS3, hS4⟩ := hSw); go_simp⟩) (by assumption) ?_
            (try simp only [Act.put, List.getElem_toArray, List.getElem_cons_zero, List.getElem_cons_succ, List.setIfInBounds_toArray, List.set_cons_zero, List.set_cons_succ])
            refine wpAnyH_take (i := 9) (v := .int .i64 j) rfl (by kernel_rfl) (by kernel_rfl) (by kernel_rfl) (fun _ _ _ h => h) (Or.inl ⟨by kernel_rfl, fun _ _ => by go_simp⟩) (by assumption) ?_
            (try simp only [Act.put, List.getElem_toArray, List.getElem_cons_zero, List.getElem_cons_succ, List.setIfInBounds_toArray, List.set_cons_zero, List.set_cons_succ])
            refine wpAnyH_take (i := 10) (v := .pointer (some ⟨bv, ov + j, none⟩)) rfl (by kernel_rfl) (by kernel_rfl) (by kernel_rfl) (fun _ _ _ h => h) (Or.inl ⟨by kernel_rfl, fun _ _ => by go_simp⟩) (by assumption) ?_
            (try simp only [Act.put, List.getElem_toArray, List.getElem_cons_zero, List.getElem_cons_succ, List.setIfInBounds_toArray, List.set_cons_zero, List.set_cons_succ])
            refine wpAnyH_take (i := 11) (v := .int .i64 vq) rfl (by kernel_rfl) (by kernel_rfl) (by kernel_rfl) (fun _ _ _ h => h) (Or.inl ⟨by kernel_rfl, fun wv hSw => by (obtain ⟨hS0, hS1, hS2, hS3, hS4⟩ := hSw); go_simp⟩) (by assumption) ?_
            (try simp only [Act.put, List.getElem_toArray, List.getElem_cons_zero, List.getElem_cons_succ, List.setIfInBounds_toArray, List.set_cons_zero, List.set_cons_succ])
            refine wpAnyH_take (i := 12) (v := .pointer (some ⟨bs, os + vq, none⟩)) rfl (by kernel_rfl) (by kernel_rfl) (by kernel_rfl) (fun _ _ _ h => h) (Or.inl ⟨by kernel_rfl, fun _ _ => by go_simp⟩) (by assumption) ?_
            (try simp only [Act.put, List.getElem_toArray, List.getElem_cons_zero, List.getElem_cons_succ, List.setIfInBounds_toArray, List.set_cons_zero, List.set_cons_succ])
            refine wpAnyH_take (i := 13) (v := .int .i64 (nmI s (vq : Int))) rfl (by kernel_rfl) (by kernel_rfl) (by kernel_rfl) (fun _ _ _ h => h) (Or.inl ⟨by kernel_rfl, fun wv hSw => by (obtain ⟨hS0, hS1, hS2, hS3, hS4⟩ := hSw); go_simp⟩) (by assumption) ?_
            (try simp only [Act.put, List.getElem_toArray, List.getElem_cons_zero, List.getElem_cons_succ, List.setIfInBounds_toArray, List.set_cons_zero, List.set_cons_succ])
            refine wpAnyH_take (i := 14) (v := .pointer (some ⟨gr, yq, none⟩)) rfl (by kernel_rfl) (by kernel_rfl) (by kernel_rfl) (fun _ _ _ h => h) (Or.inl ⟨by kernel_rfl, fun _ _ => by go_simp⟩) (by assumption) ?_
            (try simp only [Act.put, List.getElem_toArray, List.getElem_cons_zero, List.getElem_cons_succ, List.setIfInBounds_toArray, List.set_cons_zero, List.set_cons_succ])
            refine wpAnyH_ready (rs := [15]) (by kernel_rfl) (by simp) ?_
            refine (AllReadyH.cons rfl (fun K hK => ?_) AllReadyH.nil)
            have hfz := hoQ.frozenAt yq
            obtain ⟨z0, hz0⟩ := own_cellI hoQ HQL.out hyn
            go_simp
            obtain ⟨wt2, Hwt2⟩ : ∃ x, Hid (x = wt1.setCell ⟨gr, yq, none⟩ (.int .i64 (nmI s (vq : Int)))) := ⟨_, rfl⟩
            rw [← Hwt2.out]
            have BGf : Blk wt2 g 34 #[.int .i64 6, .slice A1 nL c1, .slice A2 nR c2, .slice (some ⟨gr, 0, none⟩) nV nV] := by rw [Hwt2.out]; exact BG.far (by exact hggr) _
            have hof1 : wt2.ownsRow w0.heap.size 3 1 (.slice A1 nL c1) nL (ints L) := by rw [Hwt2.out]; exact own_setA ho1 fun q hq e => ha1 q hq (by rw [e]; rfl)
            have hof2 : wt2.ownsRow w0.heap.size 3 1 (.slice A2 nR c2) nR (ints R) := by rw [Hwt2.out]; exact own_setA ho2 fun q hq e => ha2 q hq (by rw [e]; rfl)
            have hofQ : wt2.ownsRow w0.heap.size 3 1 (.slice (some ⟨gr, 0, none⟩) nV nV) nV (ints (Q.set yq (nmI s (vq : Int)))) := by rw [Hwt2.out, ← ints_set]; exact (hoQ.stored yq (.int .i64 (nmI s (vq : Int)))).1
            have Tf : Below w0.heap.size w0 wt2 := by rw [Hwt2.out]; exact Tk.setCell (p := ⟨gr, yq, none⟩) (by exact hgrl) _
            replace gC3 := BGf.cell 3
            simp at gC3
            replace cP3 := keepc Tf HCV.out.1
            replace cV := keepc Tf HCV.out.2.1
            replace cN := keepc Tf HCV.out.2.2.1
            replace cX := keepc Tf HCV.out.2.2.2
            refine hK.out _ _ ⟨gC3, cP3, cV, cN, cX⟩ (fun hHeld1 => ?_)
            clear hK K hHeld0
            (try simp only [Act.put, List.getElem_toArray, List.getElem_cons_zero, List.getElem_cons_succ, List.setIfInBounds_toArray, List.set_cons_zero, List.set_cons_succ])
            refine wpAnyH_done (by kernel_rfl) ?_ _
            go_wp2_with fail
            go_roundw
            case rel => exact ⟨j + 1, _, by omega, by go_num, BGf, hof1, hof2, hofQ, HQL2, HQ2, Tf⟩
            case measure => simp [intOf]; try omega
          · obtain rfl : j = nV := by omega
            have hj1 : ¬ (j : Int) < (j : Int) := by omega
            have HFD := Lib.hid (fill_done HP.out HVL.out HQL.out HQ.out)
            go_wp2_with fail
            go_meet
            exact ⟨some ⟨gr, 0, none⟩, j, j, Q, BG, ho1, ho2, hoQ, Tk, HA12.out, ha1, ha2, fun h => absurd h (by decide), fun _ => by rw [HFD.out, ← HX.out]; unfold rfL; rw [if_neg (by decide), if_neg (by decide), if_neg (by decide), if_pos rfl, HSL.out]⟩
    case rest =>
      clear BG ho1 ho2 hoe Tk ha1e ha2e gC0 gC1 gC2 gC3 gF0 gF1 gF2 gF3 cP0 cP1 cP2 cP3 hz1 hg1
      obtain ⟨A3, m, c3, Y, BG, ho1, ho2, ho3, Tk, ha12, ha13, ha23, hk4, hkn⟩ := hcut
      obtain ⟨w2, HWC⟩ : ∃ wq : World, wq = wc := ⟨_, rfl⟩
      subst HWC
      have cP0 := keepc Tk HCP.out.1
      have hz2 := Tk.size
      go_upto_if 76 with fail
      go_cut [] from 77 to 81 (fun wx => ∃ A3 c3, Blk wx g 34 #[.int .i64 k, .slice A1 nL c1, .slice A2 nR c2, .slice A3 nX c3] ∧ wx.ownsRow w0.heap.size 3 1 (.slice A1 nL c1) nL (ints L) ∧ wx.ownsRow w0.heap.size 3 1 (.slice A2 nR c2) nR (ints R) ∧ wx.ownsRow w0.heap.size 3 1 (.slice A3 nX c3) nX (ints X) ∧ Below w0.heap.size w0 wx ∧ Apart (.slice A1 nL c1) (.slice A2 nR c2) ∧ Apart (.slice A1 nL c1) (.slice A3 nX c3) ∧ Apart (.slice A2 nR c2) (.slice A3 nX c3))
      case first =>
        by_cases hk : k = 4
        · obtain ⟨hY, hmn, hYI⟩ := hk4 hk
          subst hmn
          subst hk
          have HKR : Hid (Calls Tryz.prog 54 #[.slice A3 m c3] w2 fun e w' => ∃ A c, e = .returned (.slice A nX c) ∧ w'.ownsRow w2.heap.size 3 1 (.slice A nX c) nX (ints X) ∧ Below w2.heap.size w2 w') := by
            have := l7Kernel_any A3 m c3 Y w2 (rd_of_own (R := RI) ho3 (RI_ints fun v hv => by have := hYI v hv; omega)) hn
            unfold OwI at this
            rw [hY, HNX.out] at this
            exact this
          have gC3 := BG.cell 3
          simp at gC3
          clear hk4 hkn
          go_wp2_with fail
          refine HKR.out.mono ?_
          rintro e w4 ⟨A5, c5, rfl, ho5, hb4⟩
          have BG4 := BG.next hb4
          have T4 := below_next Tk hb4 rfl
          have hq1 := own_next ho1 hb4
          have hq2 := own_next ho2 hb4
          have hb13 := apart_new ho1 ho5 (Nat.le_refl _)
          have hb23 := apart_new ho2 ho5 (Nat.le_refl _)
          have gD3 := BG4.cell 3
          simp at gD3
          have gE3 := BG4.frozen 3
          obtain ⟨w3, HW3⟩ : ∃ x, Hid (x = w4.setCell ⟨g, 3, none⟩ (.slice A5 nX c5)) := ⟨_, rfl⟩
          have BG3 : Blk w3 g 34 #[.int .i64 4, .slice A1 nL c1, .slice A2 nR c2, .slice A5 nX c5] := by rw [HW3.out]; simpa using BG4.set_ 3 (.slice A5 nX c5)
          have hr1 : w3.ownsRow w0.heap.size 3 1 (.slice A1 nL c1) nL (ints L) := by rw [HW3.out]; exact own_setT hq1 BG4 (by decide)
          have hr2 : w3.ownsRow w0.heap.size 3 1 (.slice A2 nR c2) nR (ints R) := by rw [HW3.out]; exact own_setT hq2 BG4 (by decide)
          have hr3 : w3.ownsRow w0.heap.size 3 1 (.slice A5 nX c5) nX (ints X) := by rw [HW3.out]; exact own_setT (own_mono ho5 hz2) BG4 (by decide)
          have T3 : Below w0.heap.size w0 w3 := by rw [HW3.out]; exact T4.setCell (p := ⟨g, 3, none⟩) (by exact hgl) _
          have HH := Lib.hid (And.intro BG3 (And.intro hr1 (And.intro hr2 (And.intro hr3 (And.intro T3 (And.intro hb13 hb23))))))
          clear BG3 hr1 hr2 hr3 T3 hb13 hb23 BG ho1 ho2 ho3 hq1 hq2 ho5 cP0 gC3
          go_wp2_with fail
          rw [← HW3.out]
          go_meet
          exact ⟨A5, c5, HH.out.1, HH.out.2.1, HH.out.2.2.1, HH.out.2.2.2.1, HH.out.2.2.2.2.1, HA12.out, HH.out.2.2.2.2.2.1, HH.out.2.2.2.2.2.2⟩
        · have hk1 : (k == 4) = false := by simpa using hk
          have hY := hkn hk
          subst hY
          obtain rfl : m = nX := by
            have h1 := ho3.1
            rw [ints_len, HNX.out] at h1
            omega
          clear hk4 hkn
          go_wp2_with fail
          go_meet
          exact ⟨A3, c3, BG, ho1, ho2, ho3, Tk, HA12.out, ha13, ha23⟩
      case rest =>
        clear BG ho1 ho2 ho3 Tk ha12 ha13 ha23 hk4 hkn cP0 hz2
        obtain ⟨A5, c5, BG, ho1, ho2, ho5, Tk, ha12, ha15, ha25⟩ := hcut
        obtain ⟨w5, HWC⟩ : ∃ wq : World, wq = wc := ⟨_, rfl⟩
        subst HWC
        have BR := BQ.next Tk
        have cG0 := BG.cell 0
        have cG1 := BG.cell 1
        have cG2 := BG.cell 2
        have cG3 := BG.cell 3
        have cR0 := BR.cell 0
        have cR1 := BR.cell 1
        have cR2 := BR.cell 2
        have cR3 := BR.cell 3
        simp at cG0 cG1 cG2 cG3 cR0 cR1 cR2 cR3
        have fR0 := BR.frozen 0
        have fR1 := BR.frozen 1
        have fR2 := BR.frozen 2
        have fR3 := BR.frozen 3
        obtain ⟨wf, HWF⟩ : ∃ wf, Hid (wf = (((w5.setCell ⟨w.heap.size + 1, 0, none⟩ (.int .i64 k)).setCell ⟨w.heap.size + 1, 1, none⟩ (.slice A1 nL c1)).setCell ⟨w.heap.size + 1, 2, none⟩ (.slice A2 nR c2)).setCell ⟨w.heap.size + 1, 3, none⟩ (.slice A5 nX c5)) := ⟨_, rfl⟩
        have BRR : Blk wf (w.heap.size + 1) 34 #[.int .i64 k, .slice A1 nL c1, .slice A2 nR c2, .slice A5 nX c5] := by rw [HWF.out]; simpa using (((BR.set_ 0 (.int .i64 k)).set_ 1 (.slice A1 nL c1)).set_ 2 (.slice A2 nR c2)).set_ 3 (.slice A5 nX c5)
        have far : ∀ {v : Value} {n : Nat} {xs : List Value}, w5.ownsRow w0.heap.size 3 1 v n xs → wf.ownsRow w0.heap.size 3 1 v n xs := fun h => by
          rw [HWF.out]
          exact own_setF (own_setF (own_setF (own_setF h (by exact hs0)) (by exact hs0)) (by exact hs0)) (by exact hs0)
        have HO1 := Lib.hid (far ho1)
        have HO2 := Lib.hid (far ho2)
        have HO3 := Lib.hid (far ho5)
        have HTT : Hid (Below w.heap.size w wf) := by
          show Below _ _ _
          rw [HWF.out]
          exact ((((below_next HT0.out Tk rfl).setCell (p := ⟨w.heap.size + 1, 0, none⟩) (show w.heap.size ≤ w.heap.size + 1 by omega) _).setCell (p := ⟨w.heap.size + 1, 1, none⟩) (show w.heap.size ≤ w.heap.size + 1 by omega) _).setCell (p := ⟨w.heap.size + 1, 2, none⟩) (show w.heap.size ≤ w.heap.size + 1 by omega) _).setCell (p := ⟨w.heap.size + 1, 3, none⟩) (show w.heap.size ≤ w.heap.size + 1 by omega) _
        have HAP := Lib.hid (And.intro ha12 (And.intro ha15 ha25))
        clear ho1 ho2 ho5 BR far ha12 ha15 ha25
        go_wp2_with fail
        rw [← HWF.out]
        (try simp only [Exit.inBlock, Exit.then])
        refine bodyPost_ret (v := .agg #[.int .i64 k, .slice A1 nL c1, .slice A2 nR c2, .slice A5 nX c5]) (results_cell_row rfl _ _ (w.heap.size + 1) 34 #[.int .i64 k, .slice A1 nL c1, .slice A2 nR c2, .slice A5 nX c5] (0, 0) _ (by simp) BRR Tryz.underlying34 rfl (by kernel_rfl)) rfl ?_
        exact ⟨A1, c1, A2, c2, A5, c5, rfl, own_mono HO1.out HT0.out.size, own_mono HO2.out HT0.out.size, own_mono HO3.out HT0.out.size, HAP.out.1, HAP.out.2.1, HAP.out.2.2, HTT.out⟩
end Go.Proofs.YtidjocikbmkjbaaGreat
