
/- Walks: the draws of FnAdjoints. -/
import Derived.Test.YtlncpabnlnipoaaMap30
namespace Go.Proofs.Ytlncpabnlnipoaa
open Go.RowKit

theorem results_row2_tmp {P : Program} {fn : Func} {p q u : Tmp} {ty : TypeId} (h : fn.results = #[.cell p ty, .cell q ty, .tmp u]) (tmps : Array Value) (w : World) (g1 g2 : Nat) (t : TypeId) (cs1 cs2 : Array Value) (fr1 fr2 : Nat × Nat) (d : TypeDesc) (b : Value)
    (hp : tmps.getD p undef = .pointer (some ⟨g1, 0, none⟩)) (hg1 : w.heap[g1]? = some (.cells cs1 t fr1)) (hq : tmps.getD q undef = .pointer (some ⟨g2, 0, none⟩)) (hg2 : w.heap[g2]? = some (.cells cs2 t fr2))
    (hu : P.underlying ty = some d) (hd : (match d with | .struct _ | .array _ _ => true | _ => false) = true) (hi1 : (P.info? ty).map (·.size) = some cs1.size) (hi2 : (P.info? ty).map (·.size) = some cs2.size) (hb : tmps.getD u undef = b) :
    (results fn tmps).run P w = .ok (.tuple #[.agg cs1, .agg cs2, b]) w := by
  simp only [Array.getD_eq_getD_getElem?] at hp hq hb
  simp only [results, h]
  simp [Sem.run_bind, Result.andThen, hp, hq, asAddr, run_loadVar_row w g1 t ty cs1 fr1 d hg1 hu hd hi1, run_loadVar_row w g2 t ty cs2 fr2 d hg2 hu hd hi2, hb]
theorem results_row2_tmp2 {P : Program} {fn : Func} {p q u v : Tmp} {ty : TypeId} (h : fn.results = #[.cell p ty, .cell q ty, .tmp u, .tmp v]) (tmps : Array Value) (w : World) (g1 g2 : Nat) (t : TypeId) (cs1 cs2 : Array Value) (fr1 fr2 : Nat × Nat) (d : TypeDesc) (b b' : Value)
    (hp : tmps.getD p undef = .pointer (some ⟨g1, 0, none⟩)) (hg1 : w.heap[g1]? = some (.cells cs1 t fr1)) (hq : tmps.getD q undef = .pointer (some ⟨g2, 0, none⟩)) (hg2 : w.heap[g2]? = some (.cells cs2 t fr2))
    (hu : P.underlying ty = some d) (hd : (match d with | .struct _ | .array _ _ => true | _ => false) = true) (hi1 : (P.info? ty).map (·.size) = some cs1.size) (hi2 : (P.info? ty).map (·.size) = some cs2.size) (hb : tmps.getD u undef = b) (hb' : tmps.getD v undef = b') :
    (results fn tmps).run P w = .ok (.tuple #[.agg cs1, .agg cs2, b, b']) w := by
  simp only [Array.getD_eq_getD_getElem?] at hp hq hb hb'
  simp only [results, h]
  simp [Sem.run_bind, Result.andThen, hp, hq, asAddr, run_loadVar_row w g1 t ty cs1 fr1 d hg1 hu hd hi1, run_loadVar_row w g2 t ty cs2 fr2 d hg2 hu hd hi2, hb, hb']
theorem r2_rg {g q n : Nat} {w : World} {A : Option Addr} {F : List (List Int)} (h : RdL (RG2 g q) w A n F) : RdL (RG g) w A n F :=
  ⟨h.1, h.2.1, fun k x hk => by
    obtain ⟨b, o, v, e, hc, A', n', c', e', hr, h1, -⟩ := h.2.2 k x hk
    exact ⟨b, o, v, e, hc, A', n', c', e', hr, h1⟩⟩
theorem r2_far {g q n : Nat} {w w' : World} {A : Option Addr} {F : List (List Int)} (h : RdL (RG2 g q) w A n F) (hA : Hi q A) (hg : w.grownBy w' (some q)) : RdL (RV RI) w' A n F := (r2_rg (r2_end h hA hg)).toRV
theorem r2_grown {g q n : Nat} {w w' : World} {A : Option Addr} {F : List (List Int)} (h : RdL (RG2 g q) w A n F) (hA : Off g A) (hg : w.grownBy w' (some g)) : RdL (RG2 g q) w' A n F :=
  rdl_grownR h hA (fun _ _ ⟨A', n', c', e, hr, h1, h2⟩ => ⟨A', n', c', e, rdl_grown hr h1 (fun _ _ h => h) hg, h1, h2⟩) hg
def LfD (w : World) (e : Ending) (w' : World) : Prop := ∃ A m c F B j d L, e = .returned (.tuple #[.agg #[.slice A m c], .slice B j d]) ∧ RdL (RV RI) w' A m F ∧ m ≤ 12 ∧ (∀ p ∈ F, p.length ≤ 20) ∧ RdL RI w' B j L ∧ j ≤ 13 ∧ Below w.heap.size w w'
set_option linter.unusedVariables false in
set_option maxRecDepth 20000 in
set_option maxHeartbeats 8000000 in
theorem drawLF_any (A : Option Addr) (n c : Nat) (w : World) (h : CodeB w A n) : Calls Try.prog 13 #[.slice A n c] w (LfD w) := by
  obtain ⟨w0, HW0⟩ : ∃ wb, Hid (wb = w.alloc (.cells #[.slice none 0 0] 26)) := ⟨_, rfl⟩
  have hb0 : Below w.heap.size w w0 := by rw [HW0.out]; exact below_box _ _
  have B0 : Blk w0 w.heap.size 26 #[.slice none 0 0] := by rw [HW0.out]; exact Blk.new _ _ _
  have hs0 : w0.heap.size = w.heap.size + 1 := by rw [HW0.out]; simp
  obtain ⟨w1, HW1⟩ : ∃ wb, Hid (wb = w0.alloc (.cells #[.slice A n c, .int .i64 0, .int .u64 0] 48)) := ⟨_, rfl⟩
  have hb1 : Below w0.heap.size w0 w1 := by rw [HW1.out]; exact below_box _ _
  have hc1 : CurB (w.heap.size + 1) w1 (w.heap.size + 1) 0 := by rw [HW1.out]; exact CurB.made (h.next hb0) hs0.symm
  have hz1 : w.heap.size + 1 < w1.heap.size := hc1.lt
  have B1 := B0.next hb1
  have HLA := Lib.hid (lattice_any (w.heap.size + 1) (w.heap.size + 1) 0 w1 hc1 (by omega) (by omega))
  have hT1 := below_next hb0 hb1 rfl
  have hz1' : w.heap.size ≤ w1.heap.size := by omega
  clear B0 hc1 hb1
  go_enter Try.func13, Try.ntmps13
  go_wp2_with fail
  rw [← HW0.out, ← HW1.out]
  refine HLA.out.mono ?_
  rintro e w2 ⟨A2, m2, c2, F, rfl, hr, hog, hhi, hm12, hF, hc2, hg2⟩
  have HF := Lib.hid hF
  have HOG := Lib.hid hog
  have HHI := Lib.hid hhi
  have B2 := B1.grown hg2 (fun e => by injection e with e; omega)
  clear hF hog hhi HLA B1
  obtain ⟨w3, HW3⟩ : ∃ wb, Hid (wb = w2.alloc (.cells #[.slice A2 m2 c2] 26)) := ⟨_, rfl⟩
  have hb3 : Below w2.heap.size w2 w3 := by rw [HW3.out]; exact below_box _ _
  have BP3 : Blk w3 w2.heap.size 26 #[.slice A2 m2 c2] := by rw [HW3.out]; exact Blk.new _ _ _
  have B3 := B2.next hb3
  have hc3 := hc2.next_ hb3
  have hr3 := hr.next stab_R2 hb3
  have hg3 := growB_trans hg2 (toGr (r := some (w.heap.size + 1)) hb3)
  have k3 := BP3.cell 0
  simp at k3
  have hz2 := hg2.size
  have hz3 := hg3.size
  clear hr hc2 hg2 hb3 B2
  have HMP : Hid (∀ wz, Below w3.heap.size w3 wz → Calls Try.prog 20 #[.pointer (some ⟨w.heap.size + 1, 0, none⟩), .agg #[.slice A2 m2 c2], .agg #[.slice A2 m2 c2]] wz (fun e w' => ∃ A5 m5 c5 L, e = .returned (.slice A5 m5 c5) ∧ w'.ownsRow w3.heap.size 3 1 (.slice A5 m5 c5) m5 (ints L) ∧ (∀ x ∈ L, -2000 ≤ x ∧ x ≤ 2000) ∧ m5 ≤ m2 + 1 ∧ w3.grownBy w' (some (w.heap.size + 1)) ∧ w'.cell? ⟨w2.heap.size, 0, none⟩ = some (.slice A2 m2 c2) ∧ w'.cell? ⟨w.heap.size, 0, none⟩ = some (.slice none 0 0) ∧ w'.frozen? ⟨w.heap.size, 0, none⟩ = false)) := fun wz hwz =>
    (map30_any (w.heap.size + 1) (w.heap.size + 1) (0 + 300) m2 m2 c2 c2 A2 A2 F F wz (hc3.next_ hwz) (by have := hwz.size; omega) (by omega) (r2_rg (hr3.next stab_R2 hwz)) HOG.out (r2_rg (hr3.next stab_R2 hwz)) HOG.out hm12 hm12).mono fun e w' ⟨A5, m5, c5, L, he, ho, hL, hm5, hc5, hg5⟩ => by
      have hgg := growB_trans (toGr (r := some (w.heap.size + 1)) hwz) hg5
      have hk := (BP3.grown hgg (fun e => by injection e with e; omega)).cell 0
      have hB := B3.grown hgg (fun e => by injection e with e; omega)
      have hk2 := hB.cell 0
      simp at hk hk2
      exact ⟨A5, m5, c5, L, he, own_mono ho hwz.size, hL, hm5, hgg, hk, hk2, hB.frozen 0⟩
  go_upto_region 3 with fail
  rw [← HW3.out]
  go_region_law (first
    | (go_simp; go_at_call 20; (first | refine (HMP.out w3 (Below.refl _ _)).mono ?_ | refine (HMP.out w3.drew (Below.drew (Below.refl _ _))).mono ?_); rintro e w4 ⟨A5, m5, c5, L, rfl, ho5, hL5, hm5, hg5, k5, kr5, fr5⟩))
  all_goals
    have hG : w4.grownBy (w4.setCell ⟨w.heap.size, 0, none⟩ (.slice A2 m2 c2)) (some w.heap.size) := grown_setB (g := w.heap.size) (p := ⟨w.heap.size, 0, none⟩) (grown_reflB w4 _) rfl _
    have hr4 := (r2_rg hr3).grownG HOG.out hg5
    have B4 := B3.grown hg5 (fun e => by injection e with e; omega)
    have hrF : RdL (RV RI) (w4.setCell ⟨w.heap.size, 0, none⟩ (.slice A2 m2 c2)) A2 m2 F := by
      have h1 : RdL (RG2 (w.heap.size + 1) w.heap.size) w4 A2 m2 F := r2_low (r2_grown hr3 HOG.out hg5) (by omega)
      exact r2_far h1 (fun b o e => by have := HHI.out b o e; omega) hG
    have hoF := own_same (w' := w4.setCell ⟨w.heap.size, 0, none⟩ (.slice A2 m2 c2)) ho5 fun k hk => hG.block k (ho5.lt k hk).2 (fun e => by injection e with e; have := (ho5.lt k hk).1; omega)
    have hLF := rd_of_own (R := RI) hoF (RI_ints fun x hx => by have := hL5 x hx; omega)
    have hTF : Below w.heap.size w (w4.setCell ⟨w.heap.size, 0, none⟩ (.slice A2 m2 c2)) := ((hT1.grown (growB_trans hg3 hg5) hz1' (fun r hr => by injection hr with hr; omega))).setCell (p := ⟨w.heap.size, 0, none⟩) (Nat.le_refl _) _
    have HFIN := Lib.hid (And.intro hrF (And.intro hLF hTF))
    clear hr4 hrF hoF hLF hTF hG ho5 hr3
    go_wp2
    (try simp only [Exit.inBlock, Exit.then])
    refine bodyPost_ret (v := .tuple #[.agg #[.slice A2 m2 c2], .slice A5 m5 c5]) (results_row_tmp rfl _ _ w.heap.size 26 #[.slice A2 m2 c2] (0, 0) _ _ (by first | (simp; done) | (simp [Act.put]; done)) (B4.set_ 0 _) Try.underlying26 rfl (by kernel_rfl) (by first | (simp; done) | (simp [Act.put]; done))) (by first | rfl | (simp [Act.put]; done)) ?_
    exact ⟨A2, m2, c2, F, A5, m5, c5, L, rfl, HFIN.out.1, hm12, HF.out, HFIN.out.2.1, by omega, HFIN.out.2.2⟩
theorem r2_keep {g q q1 n : Nat} {w w' : World} {A : Option Addr} {F : List (List Int)} (h : RdL (RG2 g q1) w A n F) (hA : Hi q1 A) (hq : q ≤ q1) (hg : w.grownBy w' (some q)) : RdL (RG2 g q1) w' A n F :=
  rdl_grownR h (fun b o e => by have := hA b o e; omega) (fun _ _ ⟨A', n', c', e, hr, h1, h2⟩ => ⟨A', n', c', e, rdl_grown hr (fun b o e => by have := h2 b o e; omega) (fun _ _ h => h) hg, h1, h2⟩) hg
/-- The two results' cells are written. -/
theorem two_set {wx : World} (u v : Value) (q : Nat) : wx.grownBy (wx.setCell ⟨q, 0, none⟩ u) (some q) ∧ (wx.setCell ⟨q, 0, none⟩ u).grownBy ((wx.setCell ⟨q, 0, none⟩ u).setCell ⟨q + 1, 0, none⟩ v) (some (q + 1)) :=
  ⟨grown_setB (g := q) (p := ⟨q, 0, none⟩) (grown_reflB wx _) rfl _, grown_setB (g := q + 1) (p := ⟨q + 1, 0, none⟩) (grown_reflB _ _) rfl _⟩
def ApD (w : World) (e : Ending) (w' : World) : Prop := ∃ A m c F B k d G C l e' L D j f M, e = .returned (.tuple #[.agg #[.slice A m c], .agg #[.slice B k d], .slice C l e', .slice D j f]) ∧ RdL (RV RI) w' A m F ∧ RdL (RV RI) w' B k G ∧ m ≤ 12 ∧ k ≤ 12 ∧ RdL RI w' C l L ∧ l ≤ 13 ∧ RdL RI w' D j M ∧ Below w.heap.size w w'
theorem ApD.drew {w w' : World} {e : Ending} (h : ApD w e w') : ApD w e w'.drew := by
  obtain ⟨A, m, c, F, B, k, d, G, C, l, e', L, D, j, f, M, h1, h2, h3, h4, h5, h6, h7, h8, h9⟩ := h
  have hb : Below w'.heap.size w' w'.drew := Below.drew (Below.refl _ _)
  exact ⟨A, m, c, F, B, k, d, G, C, l, e', L, D, j, f, M, h1, h2.next stab_RVI hb, h3.next stab_RVI hb, h4, h5, h6.next stab_RI hb, h7, h8.next stab_RI hb, h9.drew⟩
theorem ap_fin {w wx : World} {g q1 lo m c k d l e' j f : Nat} {A B C D : Option Addr} {F G : List (List Int)} {L M : List Int} (hr : RdL (RG2 g q1) wx A m F) (hA : Hi q1 A) (hs : RdL (RG2 g q1) wx B k G) (hB : Hi q1 B) (hq : w.heap.size + 1 ≤ q1) (hm : m ≤ 12) (hk : k ≤ 12)
    (hC : wx.ownsRow lo 3 1 (.slice C l e') l (ints L)) (hl : l ≤ 13) (hL : ∀ x ∈ L, -2000 ≤ x ∧ x ≤ 2000) (hD : wx.ownsRow lo 3 1 (.slice D j f) j (ints M)) (hM : ∀ x ∈ M, -9223372036854775808 ≤ x ∧ x ≤ 9223372036854775807) (hlo : w.heap.size + 1 < lo) (hb : Below w.heap.size w wx) :
    ApD w (.returned (.tuple #[.agg #[.slice A m c], .agg #[.slice B k d], .slice C l e', .slice D j f])) ((wx.setCell ⟨w.heap.size, 0, none⟩ (.slice A m c)).setCell ⟨w.heap.size + 1, 0, none⟩ (.slice B k d)) := by
  obtain ⟨g1, g2⟩ := two_set (wx := wx) (.slice A m c) (.slice B k d) w.heap.size
  have own : ∀ {C : Option Addr} {l e' : Nat} {L : List Int}, wx.ownsRow lo 3 1 (.slice C l e') l (ints L) → (∀ x ∈ L, -9223372036854775808 ≤ x ∧ x ≤ 9223372036854775807) → RdL RI ((wx.setCell ⟨w.heap.size, 0, none⟩ (.slice A m c)).setCell ⟨w.heap.size + 1, 0, none⟩ (.slice B k d)) C l L := fun hC hL => by
    have h1 := own_same hC fun b hb => g1.block b (hC.lt b hb).2 (fun e => by injection e with e; have := (hC.lt b hb).1; omega)
    have h2 := own_same h1 fun b hb => g2.block b (h1.lt b hb).2 (fun e => by injection e with e; have := (h1.lt b hb).1; omega)
    exact rd_of_own (R := RI) h2 (RI_ints hL)
  exact ⟨A, m, c, F, B, k, d, G, C, l, e', L, D, j, f, M, rfl, (r2_rg (r2_keep (r2_keep hr hA (by omega) g1) hA hq g2)).toRV, (r2_rg (r2_keep (r2_keep hs hB (by omega) g1) hB hq g2)).toRV, hm, hk, own hC (fun x hx => by have := hL x hx; omega), hl, own hD hM, (hb.setCell (p := ⟨w.heap.size, 0, none⟩) (Nat.le_refl _) _).setCell (p := ⟨w.heap.size + 1, 0, none⟩) (by show w.heap.size ≤ w.heap.size + 1; omega) _⟩
set_option linter.unusedVariables false in
set_option maxRecDepth 20000 in
set_option maxHeartbeats 8000000 in
theorem drawAP_any (A : Option Addr) (n c : Nat) (w : World) (h : CodeB w A n) : Calls Try.prog 17 #[.slice A n c] w (ApD w) := by
  obtain ⟨w0, HW0⟩ : ∃ wb, Hid (wb = (w.alloc (.cells #[.slice none 0 0] 26)).alloc (.cells #[.slice none 0 0] 26)) := ⟨_, rfl⟩
  have hb0 : Below w.heap.size w w0 := by rw [HW0.out]; exact below_box2 _ _ _
  have B0 : Blk w0 w.heap.size 26 #[.slice none 0 0] := by rw [HW0.out]; exact (Blk.new w 26 #[.slice none 0 0]).alloc _
  have C0 : Blk w0 (w.heap.size + 1) 26 #[.slice none 0 0] := by
    have h1 := Blk.new (w.alloc (.cells #[.slice none 0 0] 26)) 26 #[.slice none 0 0]
    rw [HW0.out]
    simpa using h1
  have hs0 : w0.heap.size = w.heap.size + 1 + 1 := by rw [HW0.out]; simp
  obtain ⟨w1, HW1⟩ : ∃ wb, Hid (wb = w0.alloc (.cells #[.slice A n c, .int .i64 0, .int .u64 0] 48)) := ⟨_, rfl⟩
  have hb1 : Below w0.heap.size w0 w1 := by rw [HW1.out]; exact below_box _ _
  have hc1 : CurB (w.heap.size + 1 + 1) w1 (w.heap.size + 1 + 1) 0 := by rw [HW1.out]; exact CurB.made (h.next hb0) hs0.symm
  have hz1 : w.heap.size + 1 + 1 < w1.heap.size := hc1.lt
  have B1 := B0.next hb1
  have C1 := C0.next hb1
  have HLA := Lib.hid (lattice_any (w.heap.size + 1 + 1) (w.heap.size + 1 + 1) 0 w1 hc1 (by omega) (by omega))
  have hT1 := below_next hb0 hb1 rfl
  have hz1' : w.heap.size ≤ w1.heap.size := by omega
  clear B0 C0 hc1 hb1
  go_enter Try.func17, Try.ntmps17
  go_wp2_with fail
  rw [← HW0.out, ← HW1.out]
  refine HLA.out.mono ?_
  rintro e w2 ⟨A2, m2, c2, F, rfl, hr, hog, hhi, hm12, hF, hc2, hg2⟩
  have HOG := Lib.hid hog
  have HHI := Lib.hid hhi
  have hz2 := hg2.size
  have HLB := Lib.hid (lattice_any (w.heap.size + 1 + 1) (w.heap.size + 1 + 1) (0 + 300) w2 hc2 (by omega) (by omega))
  clear hF hog hhi HLA
  go_wp2_with fail
  refine HLB.out.mono ?_
  rintro e w3 ⟨A3, m3, c3, G, rfl, hq, hog, hhi, hm13, hG, hc3, hg3⟩
  have HOH := Lib.hid hog
  have HHJ := Lib.hid hhi
  have hr3 := r2_grown hr HOG.out hg3
  have hg13 := growB_trans hg2 hg3
  have B3 := B1.grown hg13 (fun e => by injection e with e; omega)
  have C3 := C1.grown hg13 (fun e => by injection e with e; omega)
  have hz3 := hg13.size
  have hz23 := hg3.size
  clear hG hog hhi HLB hr hc2 hg2 hg3 B1 C1
  obtain ⟨w4, HW4⟩ : ∃ wb, Hid (wb = (w3.alloc (.cells #[.slice A2 m2 c2] 26)).alloc (.cells #[.slice A3 m3 c3] 26)) := ⟨_, rfl⟩
  have hb4 : Below w3.heap.size w3 w4 := by rw [HW4.out]; exact below_box2 _ _ _
  have BP4 : Blk w4 w3.heap.size 26 #[.slice A2 m2 c2] := by rw [HW4.out]; exact (Blk.new w3 26 #[.slice A2 m2 c2]).alloc _
  have BQ4 : Blk w4 (w3.heap.size + 1) 26 #[.slice A3 m3 c3] := by
    have h1 := Blk.new (w3.alloc (.cells #[.slice A2 m2 c2] 26)) 26 #[.slice A3 m3 c3]
    rw [HW4.out]
    simpa using h1
  have B4 := B3.next hb4
  have C4 := C3.next hb4
  have hr4 := hr3.next stab_R2 hb4
  have hq4 := hq.next stab_R2 hb4
  have hc4 := hc3.next_ hb4
  have hg14 := growB_trans hg13 (toGr (r := some (w.heap.size + 1 + 1)) hb4)
  have hz4 := hb4.size
  have k4 := BP4.cell 0
  have l4 := BQ4.cell 0
  simp at k4 l4
  rw [HW4.out] at k4 l4
  have HMP := Lib.hid (map30_any (w.heap.size + 1 + 1) (w.heap.size + 1 + 1) (0 + 300 + 300) m2 m3 c2 c3 A2 A3 F G w4 hc4 (by omega) (by omega) (r2_rg hr4) HOG.out (r2_rg hq4) HOH.out hm12 hm13)
  clear B3 C3 hr3 hq hc3 hg13 hb4
  go_wp2_with fail
  rw [← HW4.out]
  refine HMP.out.mono ?_
  rintro e w5 ⟨A5, m5, c5, L, rfl, ho5, hL5, hm5, hc5, hg5⟩
  have BP5 := BP4.grown hg5 (fun e => by injection e with e; omega)
  have BQ5 := BQ4.grown hg5 (fun e => by injection e with e; omega)
  have B5 := B4.grown hg5 (fun e => by injection e with e; omega)
  have C5 := C4.grown hg5 (fun e => by injection e with e; omega)
  have hr5 := r2_grown hr4 HOG.out hg5
  have hq5 := r2_grown hq4 HOH.out hg5
  have hg15 := growB_trans hg14 hg5
  have hz45 := hg5.size
  have hL5r := rd_of_own (R := RI) ho5 (RI_ints fun x hx => by have := hL5 x hx; omega)
  have HUP := Lib.hid (specUp_any A2 A3 A5 m2 m3 m5 c2 c3 c5 F G L w5 (r2_rg hr5).toRV (r2_rg hq5).toRV hL5r)
  have k5 := BP5.cell 0
  have l5 := BQ5.cell 0
  simp at k5 l5
  clear k4 l4 BP4 BQ4 B4 C4 hr4 hq4 hc4 hg14 HMP hg5
  go_wp2_with fail
  refine HUP.out.mono ?_
  rintro e w6 ⟨A6, k6, c6, rfl, ho6, hT6⟩
  obtain ⟨ub, HUB⟩ : ∃ ub, Hid (upB m2 m3 m5 F G L = ub) := ⟨_, rfl⟩
  rw [HUB.out]
  have HUL := Lib.hid (upL_bounds (m := m3) (l := m5) (yss := G) (fs := L) (r2_rg hr5).toRV)
  have HL5 := Lib.hid hL5
  have BP6 := BP5.next hT6
  have BQ6 := BQ5.next hT6
  have B6 := B5.next hT6
  have C6 := C5.next hT6
  have hr6 := r2_low (hr5.next stab_R2 hT6) (by omega : w.heap.size + 1 ≤ _)
  have hq6 := r2_low (hq5.next stab_R2 hT6) (by omega : w.heap.size + 1 ≤ _)
  have hc6 := hc5.next_ hT6
  have ho56 := own_next ho5 hT6
  have hg16 := growB_trans hg15 (toGr (r := some (w.heap.size + 1 + 1)) hT6)
  have hz5 := hg15.size
  have hz6 := hT6.size
  clear k5 l5 BP5 BQ5 B5 C5 hr5 hq5 hc5 ho5 hg15 HUP hL5r hL5
  go_upto_region 5 with fail
  go_cut [35] from 30 to 34 (fun u35 wx => ∃ bb : Bool, u35 = .bool bb ∧ CurB (w.heap.size + 1 + 1) wx (w.heap.size + 1 + 1) 800 ∧ w6.grownBy wx (some (w.heap.size + 1 + 1)))
  case first =>
    rcases ub with _ | _
    · go_wp2_with fail
      go_meet
      exact ⟨false, rfl, hc6.mono (by omega), grown_reflB _ _⟩
    · go_wp2_with fail
      refine (oneB_any (w.heap.size + 1 + 1) (0 + 300 + 300 + 100) 6 w6 hc6 (by omega) (by omega)).mono ?_
      rintro e w7 ⟨bb, rfl, hc7, hg7⟩
      go_wp2_with fail
      go_meet
      exact ⟨!bb, rfl, hc7.mono (by omega), hg7⟩
  case rest =>
    obtain ⟨bb, rfl, hc7, hg7⟩ := hcut
    obtain ⟨w7, HWC⟩ : ∃ wq : World, wq = wc := ⟨_, rfl⟩
    subst HWC
    have BP7 := BP6.grown hg7 (fun e => by injection e with e; omega)
    have BQ7 := BQ6.grown hg7 (fun e => by injection e with e; omega)
    have B7 := B6.grown hg7 (fun e => by injection e with e; omega)
    have C7 := C6.grown hg7 (fun e => by injection e with e; omega)
    have hr7 := r2_grown hr6 HOG.out hg7
    have hq7 := r2_grown hq6 HOH.out hg7
    have ho57 := own_grownG ho56 hg7 (by omega)
    have ho67 := own_grownG ho6 hg7 (by omega)
    have hg17 := growB_trans hg16 hg7
    have k7 := BP7.cell 0
    have l7 := BQ7.cell 0
    have kr := B7.cell 0
    have lr := C7.cell 0
    have fr := B7.frozen 0
    have fr2 := C7.frozen 0
    simp at k7 l7 kr lr
    clear BP6 BQ6 B6 C6 hr6 hq6 hc6 ho56 ho6 hg16
    rcases bb with _ | _
    · have HMP : Hid (∀ wz, Below w7.heap.size w7 wz → Calls Try.prog 20 #[.pointer (some ⟨w.heap.size + 1 + 1, 0, none⟩), .agg #[.slice A3 m3 c3], .agg #[.slice A2 m2 c2]] wz (fun e w' => ∃ A9 m9 c9 M, e = .returned (.slice A9 m9 c9) ∧ w'.ownsRow w7.heap.size 3 1 (.slice A9 m9 c9) m9 (ints M) ∧ (∀ x ∈ M, -2000 ≤ x ∧ x ≤ 2000) ∧ w7.grownBy w' (some (w.heap.size + 1 + 1)) ∧ w'.cell? ⟨w3.heap.size, 0, none⟩ = some (.slice A2 m2 c2) ∧ w'.cell? ⟨w3.heap.size + 1, 0, none⟩ = some (.slice A3 m3 c3) ∧ w'.cell? ⟨w.heap.size, 0, none⟩ = some (.slice none 0 0) ∧ w'.frozen? ⟨w.heap.size, 0, none⟩ = false ∧ w'.cell? ⟨w.heap.size + 1, 0, none⟩ = some (.slice none 0 0) ∧ w'.frozen? ⟨w.heap.size + 1, 0, none⟩ = false)) := fun wz hwz =>
        (map30_any (w.heap.size + 1 + 1) (w.heap.size + 1 + 1) 800 m3 m2 c3 c2 A3 A2 G F wz (hc7.next_ hwz) (by have := hwz.size; have := hg7.size; omega) (by omega) (r2_rg (hq7.next stab_R2 hwz)) HOH.out (r2_rg (hr7.next stab_R2 hwz)) HOG.out hm13 hm12).mono fun e w' ⟨A9, m9, c9, M, he, ho, hM, hm9, hc9, hg9⟩ => by
          have hgg := growB_trans (toGr (r := some (w.heap.size + 1 + 1)) hwz) hg9
          have hk1 := (BP7.grown hgg (fun e => by injection e with e; omega)).cell 0
          have hk2 := (BQ7.grown hgg (fun e => by injection e with e; omega)).cell 0
          have hB := B7.grown hgg (fun e => by injection e with e; omega)
          have hC := C7.grown hgg (fun e => by injection e with e; omega)
          have hk3 := hB.cell 0
          have hk4 := hC.cell 0
          simp at hk1 hk2 hk3 hk4
          exact ⟨A9, m9, c9, M, he, own_mono ho hwz.size, hM, hgg, hk1, hk2, hk3, hB.frozen 0, hk4, hC.frozen 0⟩
      have HFIN : Hid (∀ (w9 : World) (A9 : Option Addr) (m9 c9 : Nat) (M : List Int), w9.ownsRow w7.heap.size 3 1 (.slice A9 m9 c9) m9 (ints M) → (∀ x ∈ M, -2000 ≤ x ∧ x ≤ 2000) → w7.grownBy w9 (some (w.heap.size + 1 + 1)) → ApD w (.returned (.tuple #[.agg #[.slice A2 m2 c2], .agg #[.slice A3 m3 c3], .slice A5 m5 c5, .slice A9 m9 c9])) ((w9.setCell ⟨w.heap.size, 0, none⟩ (.slice A2 m2 c2)).setCell ⟨w.heap.size + 1, 0, none⟩ (.slice A3 m3 c3)) ∧ Blk ((w9.setCell ⟨w.heap.size, 0, none⟩ (.slice A2 m2 c2)).setCell ⟨w.heap.size + 1, 0, none⟩ (.slice A3 m3 c3)) w.heap.size 26 #[.slice A2 m2 c2] ∧ Blk ((w9.setCell ⟨w.heap.size, 0, none⟩ (.slice A2 m2 c2)).setCell ⟨w.heap.size + 1, 0, none⟩ (.slice A3 m3 c3)) (w.heap.size + 1) 26 #[.slice A3 m3 c3]) := fun w9 A9 m9 c9 M ho9 hM9 hg9 => by
        have B9 := B7.grown hg9 (fun e => by injection e with e; omega)
        have C9 := C7.grown hg9 (fun e => by injection e with e; omega)
        have h1 := ap_fin (w := w) (lo := w4.heap.size) (c := c2) (d := c3) (e' := c5) (f := c9) (r2_grown hr7 HOG.out hg9) (fun b o e => by have := HHI.out b o e; omega) (r2_grown hq7 HOH.out hg9) (fun b o e => by have := HHJ.out b o e; omega) (Nat.le_refl _) hm12 hm13 (own_grownG ho57 hg9 (by omega)) (by omega) HL5.out (own_mono ho9 (by have := hg7.size; omega)) (fun x hx => by have := hM9 x hx; omega) (by omega) (hT1.grown (growB_trans hg17 hg9) hz1' (fun r hr => by injection hr with hr; omega))
        exact ⟨h1, (B9.set_ 0 (.slice A2 m2 c2)).far (p := ⟨w.heap.size + 1, 0, none⟩) (by show w.heap.size ≠ w.heap.size + 1; omega) (.slice A3 m3 c3), (C9.far (p := ⟨w.heap.size, 0, none⟩) (by show w.heap.size + 1 ≠ w.heap.size; omega) (.slice A2 m2 c2)).set_ 0 (.slice A3 m3 c3)⟩
      clear hr7 hq7 ho57 ho67 B7 C7
      go_upto_region 7 with fail
      go_region_law (first
        | (go_simp; go_at_call 20; (first | refine (HMP.out w7 (Below.refl _ _)).mono ?_ | refine (HMP.out w7.drew (Below.drew (Below.refl _ _))).mono ?_); rintro e w9 ⟨A9, m9, c9, M, rfl, ho9, hM9, hg9, ka, kb, kc, kd, ke, kf⟩))
      all_goals
        obtain ⟨HA, B10, C10⟩ := HFIN.out w9 A9 m9 c9 M ho9 hM9 hg9
        have HAH := Lib.hid HA
        clear HA
        go_wp2
        (try simp only [Exit.inBlock, Exit.then])
        refine bodyPost_ret (v := .tuple #[.agg #[.slice A2 m2 c2], .agg #[.slice A3 m3 c3], .slice A5 m5 c5, .slice A9 m9 c9]) (results_row2_tmp2 rfl _ _ w.heap.size (w.heap.size + 1) 26 #[.slice A2 m2 c2] #[.slice A3 m3 c3] (0, 0) (0, 0) _ _ _ (by first | (simp; done) | (simp [Act.put]; done)) B10 (by first | (simp; done) | (simp [Act.put]; done)) C10 Try.underlying26 rfl (by kernel_rfl) (by kernel_rfl) (by first | (simp; done) | (simp [Act.put]; done)) (by first | (simp; done) | (simp [Act.put]; done))) (by first | rfl | (simp [Act.put]; done)) ?_
        first
          | exact HAH.out
          | exact HAH.out.drew
    · have HFIN := Lib.hid (ap_fin (c := c2) (d := c3) hr7 (fun b o e => by have := HHI.out b o e; omega) hq7 (fun b o e => by have := HHJ.out b o e; omega) (Nat.le_refl _) hm12 hm13 ho57 (by omega) HL5.out (own_mono ho67 (by omega)) HUL.out (by omega) (hT1.grown hg17 hz1' (fun r hr => by injection hr with hr; omega)))
      clear hr7 hq7 ho57 ho67
      have B8 := (B7.set_ 0 (.slice A2 m2 c2)).far (p := ⟨w.heap.size + 1, 0, none⟩) (by show w.heap.size ≠ w.heap.size + 1; omega) (.slice A3 m3 c3)
      have C8 := (C7.far (p := ⟨w.heap.size, 0, none⟩) (by show w.heap.size + 1 ≠ w.heap.size; omega) (.slice A2 m2 c2)).set_ 0 (.slice A3 m3 c3)
      go_wp2_with fail
      go_region
      go_wp2
      (try simp only [Exit.inBlock, Exit.then])
      refine bodyPost_ret (v := .tuple #[.agg #[.slice A2 m2 c2], .agg #[.slice A3 m3 c3], .slice A5 m5 c5, .slice A6 k6 c6]) (results_row2_tmp2 rfl _ _ w.heap.size (w.heap.size + 1) 26 #[.slice A2 m2 c2] #[.slice A3 m3 c3] (0, 0) (0, 0) _ _ _ (by simp) B8 (by simp) C8 Try.underlying26 rfl (by kernel_rfl) (by kernel_rfl) (by simp) (by simp)) rfl ?_
      exact HFIN.out.drew
end Go.Proofs.Ytlncpabnlnipoaa
