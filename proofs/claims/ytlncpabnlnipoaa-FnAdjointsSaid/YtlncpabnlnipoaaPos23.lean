
/- Walks: drawn posets. -/
import Derived.Test.YtlncpabnlnipoaaPut23
import Derived.Deep.CutBlock
import Derived.Deep.LoopGhost
namespace Go.Proofs.Ytlncpabnlnipoaa
open Go.RowKit

theorem nums10k (w : World) (g : Nat) (hg : g < w.heap.size) {k : Nat} (hk : k = w.heap.size) : NumsP (fun x => 0 ≤ x ∧ x ≤ 7) (w.alloc (.cells #[.int .i64 0, .int .i64 1, .int .i64 2, .int .i64 3, .int .i64 4, .int .i64 4, .int .i64 5, .int .i64 5, .int .i64 6, .int .i64 7] 3)) g k 10 := by
  subst hk
  refine ⟨by omega, by omega, by omega, fun i hi => ?_⟩
  have hc := (Blk.new w 3 #[.int .i64 0, .int .i64 1, .int .i64 2, .int .i64 3, .int .i64 4, .int .i64 4, .int .i64 5, .int .i64 5, .int .i64 6, .int .i64 7]).cell i
  rcases (by omega : i = 0 ∨ i = 1 ∨ i = 2 ∨ i = 3 ∨ i = 4 ∨ i = 5 ∨ i = 6 ∨ i = 7 ∨ i = 8 ∨ i = 9) with rfl | rfl | rfl | rfl | rfl | rfl | rfl | rfl | rfl | rfl
  · exact ⟨0, ⟨by omega, by omega⟩, hc⟩
  · exact ⟨1, ⟨by omega, by omega⟩, hc⟩
  · exact ⟨2, ⟨by omega, by omega⟩, hc⟩
  · exact ⟨3, ⟨by omega, by omega⟩, hc⟩
  · exact ⟨4, ⟨by omega, by omega⟩, hc⟩
  · exact ⟨4, ⟨by omega, by omega⟩, hc⟩
  · exact ⟨5, ⟨by omega, by omega⟩, hc⟩
  · exact ⟨5, ⟨by omega, by omega⟩, hc⟩
  · exact ⟨6, ⟨by omega, by omega⟩, hc⟩
  · exact ⟨7, ⟨by omega, by omega⟩, hc⟩
/-- Beyond the block q. -/
def Hi (q : Nat) (A : Option Addr) : Prop := ∀ b o, A = some ⟨b, o, none⟩ → q < b
theorem Hi.off {q : Nat} {A : Option Addr} (h : Hi q A) : Off q A := fun b o e => by have := h b o e; omega
theorem own_hiG {q : Nat} {w : World} {base : Nat} {e : TypeId} {size : Nat} {A : Option Addr} {n c : Nat} {xs : List Value} (h : w.ownsRow base e size (.slice A n c) n xs) (hq : q < base) : Hi q A := by
  intro b o hA
  subst hA
  have := (h.lt b rfl).1
  omega
/-- An int slice that reads, does not lie in the block g, and lies beyond q. -/
def RG2 (g q : Nat) (w : World) (v : Value) (xs : List Int) : Prop := ∃ A n c, v = .slice A n c ∧ RdL RI w A n xs ∧ Off g A ∧ Hi q A
section
variable {lo g q n : Nat} {w w' : World} {F : List (List Int)}
theorem rdl_grownR {α : Type} {R R' : World → Value → α → Prop} {A : Option Addr} {xs : List α} (h : RdL R w A n xs) (hA : Off q A) (hR : ∀ v x, R w v x → R' w' v x) (hg : w.grownBy w' (some q)) : RdL R' w' A n xs :=
  ⟨h.1, h.2.1, fun k x hk => by
    obtain ⟨b, o, v, e, hc, hr⟩ := h.2.2 k x hk
    exact ⟨b, o, v, e, (World.cell?_of_block (hg.block b (cell_lt hc) (fun e2 => hA b o e (by injection e2)))).trans hc, hR v x hr⟩⟩
theorem r2_end {A : Option Addr} (h : RdL (RG2 g q) w A n F) (hA : Hi q A) (hg : w.grownBy w' (some q)) : RdL (RG2 g q) w' A n F :=
  rdl_grownR h hA.off (fun _ _ ⟨A', n', c', e, hr, h1, h2⟩ => ⟨A', n', c', e, rdl_grown hr h2.off (fun _ _ h => h) hg, h1, h2⟩) hg
/-- A row of slices with another slice in the place x. -/
theorem put_r2 {b c x : Nat} {vs : List Value} {u : Value} {p : List Int} (ho : w.ownsRow lo 27 1 (.slice (some ⟨b, 0, none⟩) n c) n vs) (hl : vs.length = F.length) (hr : ∀ (j : Nat) u ys, j ≠ x → vs[j]? = some u → F[j]? = some ys → w.ownsRow lo 3 1 u ys.length (ints ys))
    (hg : g < lo) (hq : q < lo) (hF : ∀ p ∈ F, ∀ x ∈ p, -2000 ≤ x ∧ x ≤ 2000) (hx : x < n) (hu : RG2 g q (w.setCell ⟨b, x, none⟩ u) u p) : RdL (RG2 g q) (w.setCell ⟨b, x, none⟩ u) (some ⟨b, 0, none⟩) n (F.set x p) := by
  have hn : vs.length = n := by have := ho.1; omega
  obtain ⟨hst, hgr⟩ := ho.stored x u
  refine ⟨by rw [List.length_set]; omega, own_len_leB ho, fun j ys hj => ?_⟩
  have hjl := (List.getElem?_eq_some_iff.1 hj).1
  rw [List.length_set] at hjl
  by_cases hjx : j = x
  · subst hjx
    rw [List.getElem?_set_self hjl] at hj
    injection hj with hj
    subst hj
    exact ⟨b, 0, u, rfl, by rw [Nat.zero_add, hst.cellAt j (by omega), List.getElem?_set_self (by omega)], hu⟩
  · rw [List.getElem?_set_ne (fun e => hjx e.symm)] at hj
    have hv : vs[j]? = some (vs[j]'(by omega)) := List.getElem?_eq_getElem (by omega)
    have hrow := hr j _ ys hjx hv hj
    generalize vs[j]'(by omega) = v at hv hrow
    obtain ⟨B, d, rfl⟩ := own_slice hrow
    have hrow' := own_same hrow fun k hk => hgr.block k (hrow.lt k hk).2 (fun e => own_ne hrow ho (by decide) hk (by injection e with e; rw [e]; rfl))
    refine ⟨b, 0, _, rfl, by rw [Nat.zero_add, hst.cellAt j (by omega), List.getElem?_set_ne (fun e => hjx e.symm)]; exact hv, B, ys.length, d, rfl, rd_of_own (R := RI) hrow' (RI_ints fun y hy => by have := hF ys (List.mem_of_getElem? hj) y hy; omega), own_off hrow' hg, own_hiG hrow' hq⟩
theorem OwM.toR2 {v : Value} (h : OwM 27 3 (.int .i64) lo w v n F) (hg : g < lo) (hq : q < lo) (hF : ∀ p ∈ F, ∀ x ∈ p, -2000 ≤ x ∧ x ≤ 2000) : ∃ A c, v = .slice A n c ∧ n ≤ c ∧ Off g A ∧ Hi q A ∧ RdL (RG2 g q) w A n F := by
  obtain ⟨vs, h1, h2, h3, -⟩ := h
  have hl : vs.length = n := by have := h1.1; simpa using this
  obtain ⟨A, c, e, hr⟩ := RdL.ofOwn (R := RG2 g q) (xs := F) (own_len_leB h1) h1 (by omega) fun k x hk => by
    have hkl := (List.getElem?_eq_some_iff.1 hk).1
    have hu : vs[k]? = some (vs[k]'(by omega)) := List.getElem?_eq_getElem (by omega)
    refine ⟨_, hu, ?_⟩
    have ho := h3 k _ x hu hk
    generalize vs[k]'(by omega) = u at ho
    obtain ⟨B, c, e⟩ := own_slice ho
    rw [e] at ho ⊢
    exact ⟨B, x.length, c, rfl, rd_of_own (R := RI) ho (RI_ints fun y hy => by have := hF x (List.mem_of_getElem? hk) y hy; omega), own_off ho hg, own_hiG ho hq⟩
  subst e
  exact ⟨A, c, rfl, sort_cap h1, own_off h1 hg, own_hiG h1 hq, hr⟩
end
/-- What a drawn poset is: it reads, and no block of it is the cursor's. -/
def PsD (B : Nat) (w : World) (g t : Nat) (e : Ending) (w' : World) : Prop := ∃ A m c F, e = .returned (.agg #[.slice A m c]) ∧ RdL (RG2 g w.heap.size) w' A m F ∧ Off g A ∧ Hi w.heap.size A ∧ m ≤ 12 ∧ (∀ p ∈ F, p.length ≤ 20) ∧ CurB B w' g t ∧ w.grownBy w' (some g)
theorem stab_R2 {g q : Nat} : Stab (RG2 g q) := fun _ _ _ _ hb ⟨A, n, c, e, h, h1, h2⟩ => ⟨A, n, c, e, h.same stab_RI hb, h1, h2⟩
/-- A drawn poset with another row in the place x. -/
theorem mut_row {B g t n c x b pb q lo : Nat} {w0 w' : World} {vs : List Value} {F : List (List Int)} {u : Value} {p : List Int} {csR csP : Array Value} (ho : w'.ownsRow lo 27 1 (.slice (some ⟨b, 0, none⟩) n c) n vs) (hl : vs.length = F.length) (hr : ∀ (j : Nat) u ys, j ≠ x → vs[j]? = some u → F[j]? = some ys → w'.ownsRow lo 3 1 u ys.length (ints ys))
    (hg : g < lo) (hq : q < lo) (hB : B ≤ lo) (hw0 : w0.heap.size ≤ lo) (hF : ∀ p ∈ F, ∀ x ∈ p, -2000 ≤ x ∧ x ≤ 2000) (hx : x < n) (hu : RG2 g q (w'.setCell ⟨b, x, none⟩ u) u p) (hR : Blk w' q 26 csR) (hP : Blk w' pb 26 csP) (hc : CurB B w' g t) (hgr : w0.grownBy w' (some g)) :
    RdL (RG2 g q) (w'.setCell ⟨b, x, none⟩ u) (some ⟨b, 0, none⟩) n (F.set x p) ∧ Off g (some ⟨b, 0, none⟩) ∧ Hi q (some ⟨b, 0, none⟩) ∧ CurB B (w'.setCell ⟨b, x, none⟩ u) g t ∧ w0.grownBy (w'.setCell ⟨b, x, none⟩ u) (some g) ∧ Blk (w'.setCell ⟨b, x, none⟩ u) q 26 csR ∧ Blk (w'.setCell ⟨b, x, none⟩ u) pb 26 csP := by
  have hG : w'.grownBy (w'.setCell ⟨b, x, none⟩ u) (some b) := grown_setB (g := b) (p := ⟨b, x, none⟩) (grown_reflB w' _) rfl _
  have hb := (ho.lt b rfl).1
  exact ⟨put_r2 ho hl hr hg hq hF hx hu, own_off ho hg, own_hiG ho hq, hc.grown hG fun r hr => by injection hr with hr; omega, growB_own hgr hG fun r hr => by injection hr with hr; omega, hR.far (fun e => by have : q = b := e; omega) _, hP.far (fun e => own_far ho hP (by decide) (by have h2 : pb = b := e; rw [h2]; rfl)) _⟩
/-- The world while a drawn poset is changed: it lies in the block pb, the result in q. -/
def PosW (B g t q pb : Nat) (w0 wx : World) : Prop := ∃ (A : Option Addr) (m c : Nat) (F : List (List Int)), Blk wx pb 26 #[.slice A m c] ∧ Blk wx q 26 #[.slice none 0 0] ∧ RdL (RG2 g q) wx A m F ∧ Off g A ∧ Hi q A ∧ m ≤ 12 ∧ (∀ p ∈ F, p.length ≤ 20) ∧ CurB B wx g t ∧ w0.grownBy wx (some g)
theorem PosW.next {B g t q pb : Nat} {w0 w w' : World} (h : PosW B g t q pb w0 w) (hb : Below w.heap.size w w') : PosW B g t q pb w0 w' := by
  obtain ⟨A, m, c, F, h1, h2, h3, h4, h5, h6, h7, h8, h9⟩ := h
  exact ⟨A, m, c, F, h1.next hb, h2.next hb, h3.next stab_R2 hb, h4, h5, h6, h7, h8.next_ hb, growB_trans h9 (toGr hb)⟩
theorem ps_fin {B g t m c : Nat} {w w0 wx : World} {A : Option Addr} {F : List (List Int)} (hb0 : Below w.heap.size w w0) (hg : w0.grownBy wx (some g)) (hgl : g < w.heap.size) (hB : B ≤ w.heap.size) (hr : RdL (RG2 g w.heap.size) wx A m F) (hog : Off g A) (hoq : Hi w.heap.size A) (hm : m ≤ 12) (hF : ∀ p ∈ F, p.length ≤ 20) (hc : CurB B wx g t) :
    PsD B w g t (.returned (.agg #[.slice A m c])) (wx.setCell ⟨w.heap.size, 0, none⟩ (.slice A m c)) := by
  have hG : wx.grownBy (wx.setCell ⟨w.heap.size, 0, none⟩ (.slice A m c)) (some w.heap.size) := grown_setB (g := w.heap.size) (p := ⟨w.heap.size, 0, none⟩) (grown_reflB wx _) rfl _
  exact ⟨A, m, c, F, rfl, r2_end hr hoq hG, hog, hoq, hm, hF, hc.grown hG (fun r hr => by injection hr with hr; omega), growB_own (growB_trans (toGr hb0) hg) hG (fun r hr => by injection hr with hr; omega)⟩
set_option linter.unusedVariables false in
set_option maxRecDepth 20000 in
set_option maxHeartbeats 8000000 in
theorem poset_any (B g t : Nat) (w : World) (h : CurB B w g t) (hB : B ≤ w.heap.size) (ht : t ≤ 999980000) :
    Calls Try.prog 43 #[.pointer (some ⟨g, 0, none⟩)] w (PsD B w g (t + 200)) := by
  have hgl := h.lt
  obtain ⟨w0, HW0⟩ : ∃ wb, Hid (wb = w.alloc (.cells #[.slice none 0 0] 26)) := ⟨_, rfl⟩
  have hb0 : Below w.heap.size w w0 := by rw [HW0.out]; exact below_box _ _
  have B0 : Blk w0 w.heap.size 26 #[.slice none 0 0] := by rw [HW0.out]; exact Blk.new _ _ _
  have hs0 : w0.heap.size = w.heap.size + 1 := by rw [HW0.out]; simp
  have hc0 := h.next_ hb0
  obtain ⟨w1, HW1⟩ : ∃ wb, Hid (wb = w0.alloc (.cells #[.int .i64 0, .int .i64 1, .int .i64 2, .int .i64 3, .int .i64 4, .int .i64 4, .int .i64 5, .int .i64 5, .int .i64 6, .int .i64 7] 3)) := ⟨_, rfl⟩
  have hb1 : Below w0.heap.size w0 w1 := by rw [HW1.out]; exact below_box _ _
  have hn10 : NumsP (fun x => 0 ≤ x ∧ x ≤ 7) w1 g (w.heap.size + 1) 10 := by rw [HW1.out]; exact nums10k w0 g hc0.lt hs0.symm
  have HA := Lib.hid (amongB_any g t (w.heap.size + 1) 10 10 w1 (hc0.next_ hb1) (by omega) _ hn10)
  have hg1 : w0.grownBy w1 (some g) := toGr hb1
  clear hn10 hb1
  go_enter Try.func43, Try.ntmps43
  go_wp2_with fail
  rw [← HW0.out, ← HW1.out]
  refine HA.out.mono ?_
  rintro e w2 ⟨xn, hxn, rfl, hc2, hg12⟩
  have hg2 := growB_trans hg1 hg12
  obtain ⟨n, rfl⟩ := Int.eq_ofNat_of_zero_le hxn.1
  have hn7 : n ≤ 7 := by omega
  clear HA hg1 hg12 hc0 hxn
  have hs2 := hg2.size
  obtain ⟨w3, HW3⟩ : ∃ wb, Hid (wb = w2.alloc (.cells #[] 83)) := ⟨_, rfl⟩
  have hb3 : Below w2.heap.size w2 w3 := by rw [HW3.out]; exact below_box _ _
  have hP3 : OwPr w2.heap.size n w3 (.slice (some ⟨w2.heap.size, 0, none⟩) 0 0) 0 := by rw [HW3.out]; exact OwPr.lit w2 n [] 0 (fun x hx => by simp at hx) (by omega) rfl
  have hc3 := hc2.next_ hb3
  have hg3 : w2.grownBy w3 (some g) := toGr hb3
  clear hb3 hc2
  go_wp2_with fail
  rw [← HW3.out]
  go_loopw [4, 5, 6] (fun v i _ wr => ∃ (x : Nat) (A : Option Addr) (m c : Nat), x ≤ n ∧ i = .int .i64 x ∧ v = .slice A m c ∧ m ≤ 7 * x ∧ OwPr w2.heap.size n wr (.slice A m c) m ∧ CurB B wr g (t + 2 + 14 * x) ∧ w2.grownBy wr (some g)) (fun _ i _ _ => n - (intOf i).toNat)
  case atStart => exact ⟨0, _, 0, 0, Nat.zero_le _, rfl, rfl, by omega, hP3, hc3, hg3⟩
  case round =>
    clear hP3 hc3 hg3
    obtain ⟨x, A, m, c, hx, rfl, rfl, hmx, hP, hc, hg⟩ := hrel
    by_cases hlx : x < n
    · have hx1 : (x : Int) < (n : Int) := by omega
      have hwx : IntKind.i64.wrap ((x : Int) + 1) = (x : Int) + 1 := by rw [IntKind.wrap_i64]; omega
      go_wp2_with fail
      go_loopw [4, 6] (fun v i wr => ∃ (y : Nat) (A : Option Addr) (m c : Nat), x + 1 ≤ y ∧ y ≤ n ∧ i = .int .i64 y ∧ v = .slice A m c ∧ m ≤ 7 * x + (y - (x + 1)) ∧ OwPr w2.heap.size n wr (.slice A m c) m ∧ CurB B wr g (t + 2 + 14 * x + 2 * (y - (x + 1))) ∧ w2.grownBy wr (some g)) (fun _ i _ => n - (intOf i).toNat)
      case atStart => exact ⟨x + 1, A, m, c, Nat.le_refl _, by omega, by go_num, rfl, by omega, hP, hc.mono (by omega), hg⟩
      case round =>
        clear hP hc hg hmx
        obtain ⟨y, A, m, c, hxy, hy, rfl, rfl, hmx, hP, hc, hg⟩ := hrel
        by_cases hly : y < n
        · have hy1 : (y : Int) < (n : Int) := by omega
          go_wp2_with fail
          refine (oneB_any g (t + 2 + 14 * x + 2 * (y - (x + 1))) 3 wr hc (by omega) (by omega)).mono ?_
          rintro e w4 ⟨bb, rfl, hc4, hg4⟩
          have hP4 := hP.grownG hg4 (by have := hc.lt; omega)
          have hg04 := growB_trans hg hg4
          rcases bb with _ | _
          · go_wp2_with fail
            go_roundw
            case rel => exact ⟨y + 1, A, m, c, by omega, by omega, by go_num, rfl, by omega, hP4, hc4.mono (by omega), hg04⟩
            case measure => simp [intOf]; omega
          · obtain ⟨ps, hps, hpb⟩ := hP4
            have HPB := Lib.hid hpb
            have hz4 := hg04.size
            clear hpb
            go_wp2_with (at_builtin; refine app2p w4 rfl _ _ 81 83 rfl (.agg #[.int .i64 0, .int .i64 0]) 16 Try.underlying81 info_pair rfl (by decide) w2.heap.size m c A (ints ps) rfl hps (.int .i64 x) (.int .i64 y) rfl rfl rfl (by omega) hz4 ?_; intro A5 c5 w5 hown5 hg5 hb5)
            have hP5 := OwPr.snoc hown5 HPB.out hlx hly
            have hc5 := hc4.grown hg5 fun r hr => by have := (hps.lt r hr).1; omega
            have hg05 := growB_own hg04 hg5 fun r hr => by have := (hps.lt r hr).1; omega
            clear hown5 hg5 hps
            go_roundw
            case rel => exact ⟨y + 1, A5, m + 1, c5, by omega, by omega, by go_num, rfl, by omega, hP5, hc5.mono (by omega), hg05⟩
            case measure => simp [intOf]; omega
        · obtain rfl : n = y := by omega
          have hy1 : ¬ (n : Int) < (n : Int) := by omega
          go_wp2_with fail
          go_roundw
          case rel => exact ⟨x + 1, A, m, c, by omega, by go_num, rfl, by omega, hP, hc.mono (by omega), hg⟩
          case measure => simp [intOf]; omega
    · obtain rfl : n = x := by omega
      have hx1 : ¬ (n : Int) < (n : Int) := by omega
      have hg2l : g < w2.heap.size := by have := hs2; omega
      obtain ⟨wb, HWB⟩ : ∃ wb : World, wb = wr := ⟨_, rfl⟩
      subst HWB
      have hgwb := hc.lt
      have HNM := Lib.hid (names2_any B g (t + 2 + 14 * n) n wb hc (by have := hg.size; omega) (by omega) (by omega))
      go_wp2_with fail
      refine HNM.out.mono ?_
      rintro e w4 ⟨A4, m4, c4, L, rfl, hown4, hL, hm4, hc4, hg4⟩
      have hP4 := hP.grownG hg4 hg2l
      have hg24 := growB_trans hg hg4
      have hrd4 := rd_of_own (R := RI) hown4 (RI_ints fun y hy => by have := hL y hy; omega)
      have HOWN := Lib.hid hown4
      clear hP hc hg HNM hg4 hL hown4
      go_upto_region 12 with fail
      go_cut [44] from 38 to 43 (fun u44 wx => ∃ bb : Bool, u44 = .bool bb ∧ Hid (bb = true → m4 = n ∧ ∀ x ∈ L, 0 ≤ x ∧ x < (n : Int)) ∧ CurB B wx g (t + 2 + 14 * n + 2 * n + 12) ∧ w4.grownBy wx (some g))
      case first =>
        have HPM := Lib.hid (l2Perm_any A4 m4 c4 n L w4 hrd4 (by omega))
        go_wp2_with fail
        refine HPM.out.mono ?_
        rintro e w5 ⟨b, rfl, hb, hT5⟩
        have HB := Lib.hid hb
        have hc5 := hc4.next_ hT5
        clear hb HPM
        rcases b with _ | _
        · go_wp2_with fail
          go_meet
          exact ⟨false, rfl, (fun h => by cases h), hc5.mono (by omega), toGr hT5⟩
        · go_wp2_with fail
          refine (oneB_any g (t + 2 + 14 * n + 2 * n + 10) 2 w5 hc5 (by omega) (by omega)).mono ?_
          rintro e w6 ⟨bb, rfl, hc6, hg6⟩
          go_wp2_with fail
          go_meet
          exact ⟨bb, rfl, (fun _ => HB.out (by first | rfl | trivial)), hc6, growB_trans (toGr hT5) hg6⟩
      case rest =>
        obtain ⟨bb, rfl, HBB, hc5, hg5⟩ := hcut
        obtain ⟨w5, HWC⟩ : ∃ wq : World, wq = wc := ⟨_, rfl⟩
        subst HWC
        have hP5 := hP4.grownG hg5 hg2l
        have hown5 := own_grownG HOWN.out hg5 hgwb
        have hg25 := growB_trans hg24 hg5
        clear hP4 hc4 hrd4 HOWN hg5 hg24
        go_upto_if 44 with fail
        go_cut [8] from 44 to 70 (fun _ wx => OwPr w2.heap.size n wx (.slice A m c) m ∧ CurB B wx g (t + 2 + 14 * n + 2 * n + 12) ∧ w2.grownBy wx (some g))
        case first =>
          rcases bb with _ | _
          · go_wp2_with fail
            go_meet
            exact ⟨hP5, hc5, hg25⟩
          · obtain ⟨rfl, hLn⟩ := HBB.out rfl
            have HLN := Lib.hid hLn
            clear hLn
            go_wp2_with fail
            go_loopw [8] (fun i wr => ∃ q : Nat, q ≤ m ∧ i = .int .i64 q ∧ OwPr w2.heap.size m4 wr (.slice A m c) m ∧ wr.ownsRow wb.heap.size 3 1 (.slice A4 m4 c4) m4 (ints L) ∧ CurB B wr g (t + 2 + 14 * m4 + 2 * m4 + 12) ∧ w2.grownBy wr (some g)) (fun i _ => m - (intOf i).toNat)
            case atStart => exact ⟨0, Nat.zero_le _, rfl, hP5, hown5, hc5, hg25⟩
            case round =>
              clear hP5 hown5 hc5 hg25
              obtain ⟨q, hq, rfl, hP, hown, hc, hg⟩ := hrel
              by_cases hlq : q < m
              · have hq0 : (0 : Int) ≤ (q : Int) := by omega
                have hq1 : (q : Int) < (m : Int) := by omega
                obtain ⟨pb, x, y, rfl, hlo, hpl, hx, hy, hcx, hcy, hfx, hfy, hset⟩ := hP.get hlq
                obtain ⟨nb, rfl, hlon, -⟩ := own_form hown (by omega)
                have hLl : L.length = m4 := by have := hown.1; simpa [ints] using this
                have hx2 := HLN.out _ (List.getElem_mem (l := L) (n := x) (by omega))
                have hy2 := HLN.out _ (List.getElem_mem (l := L) (n := y) (by omega))
                obtain ⟨x', ex⟩ := Int.eq_ofNat_of_zero_le hx2.1
                obtain ⟨y', ey⟩ := Int.eq_ofNat_of_zero_le hy2.1
                have hnx : wr.cell? ⟨nb, x, none⟩ = some (.int .i64 (x' : Nat)) := by rw [hown.cellAt x (by omega), ints, List.getElem?_map, List.getElem?_eq_getElem (by omega), ex]; rfl
                have hny : wr.cell? ⟨nb, y, none⟩ = some (.int .i64 (y' : Nat)) := by rw [hown.cellAt y (by omega), ints, List.getElem?_map, List.getElem?_eq_getElem (by omega), ey]; rfl
                have hx0 : (0 : Int) ≤ (x : Int) := by omega
                have hx1 : (x : Int) < (m4 : Int) := by omega
                have hy0 : (0 : Int) ≤ (y : Int) := by omega
                have hy1 : (y : Int) < (m4 : Int) := by omega
                have HSET := Lib.hid (hset x' y' (by omega) (by omega))
                have hnp : nb ≠ pb := by
                  obtain ⟨ps, hps, -⟩ := hP
                  exact fun e => own_ne hown hps (by decide) rfl (by rw [e]; rfl)
                have hG : wr.grownBy (((wr.setCell ⟨pb, q * 2, none⟩ (.int .i64 x')).setCell ⟨pb, q * 2 + 1, none⟩ (.int .i64 y')).drew) (some pb) := growB_trans (grown_setB (g := pb) (p := ⟨pb, q * 2 + 1, none⟩) (grown_setB (g := pb) (p := ⟨pb, q * 2, none⟩) (grown_reflB wr _) rfl _) rfl _) (toGr (Below.drew (Below.refl _ _)))
                have hownN := own_same hown fun b hv => hG.block b (hown.lt b hv).2 (fun e => hnp (by injection hv with hv; injection e with e; exact hv.trans e))
                have hcN := hc.grown hG fun r hr => by injection hr with hr; omega
                have hgN := growB_own hg hG fun r hr => by injection hr with hr; omega
                have HALL := Lib.hid (And.intro hownN (And.intro hcN hgN))
                clear hset hP ex ey hx2 hy2 hLl hG hownN hcN hgN hown hc hg
                go_wp2_with fail
                go_region
                go_wp2_with fail
                go_roundw
                case rel => exact ⟨q + 1, by omega, by go_num, HSET.out.next (Below.drew (Below.refl _ _)), HALL.out.1, HALL.out.2.1, HALL.out.2.2⟩
                case measure => simp [intOf]; omega
              · obtain rfl : m = q := by omega
                have hq1 : ¬ (m : Int) < (m : Int) := by omega
                go_wp2_with fail
                go_meet
                exact ⟨hP, hc, hg⟩
        case rest =>
          obtain ⟨hP6, hc6, hg6⟩ := hcut
          obtain ⟨w6, HWC⟩ : ∃ wq : World, wq = wc := ⟨_, rfl⟩
          subst HWC
          have HL23 := Lib.hid (l23From_any n m c A w6 (hP6.rd (by omega)) (by omega))
          have hz6 := hg6.size
          have hg06 := growB_trans hg2 hg6
          clear hP5 hown5 hc5 hg25 hP6 hg6
          go_wp2_with fail
          refine HL23.out.mono ?_
          rintro e w7 ⟨A7, c7, F, rfl, hM7, hF, hT7⟩
          have HF := Lib.hid hF
          have hc7 := hc6.next_ hT7
          have hg07 := growB_trans hg06 (toGr (r := some g) hT7)
          have hg6l := hc6.lt
          clear hF hc6 hg06
          obtain ⟨w8, HW8⟩ : ∃ wq, Hid (wq = w7.alloc (.cells #[.slice A7 n c7] 26)) := ⟨_, rfl⟩
          have hb8 : Below w7.heap.size w7 w8 := by rw [HW8.out]; exact below_box _ _
          have B8 : Blk w8 w7.heap.size 26 #[.slice A7 n c7] := by rw [HW8.out]; exact Blk.new _ _ _
          have hM8 := hM7.next hb8
          have hc8 := hc7.next_ hb8
          have hg08 := growB_trans hg07 (toGr (r := some g) hb8)
          have hzb := hT7.size
          clear hb8 hM7 hc7 hg07 HL23
          have hB8 : Blk w8 w.heap.size 26 #[.slice none 0 0] := B0.grown hg08 (fun e => by injection e with e; omega)
          have hlo6 : w.heap.size < w6.heap.size := by have := hs2; omega
          go_upto_region 18 with fail
          rw [← HW8.out]
          go_cut [80] from 74 to 79 (fun u80 wx => ∃ bb : Bool, u80 = .bool bb ∧ Hid (bb = false → 0 < n) ∧ CurB B wx g (t + 2 + 14 * n + 2 * n + 14) ∧ w8.grownBy wx (some g))
          case first =>
            by_cases hn0 : n = 0
            · have hn1 : ((n : Int) == 0) = true := by simp; omega
              go_wp2_with fail
              go_meet
              exact ⟨true, rfl, (fun h => by cases h), hc8.mono (by omega), grown_reflB _ _⟩
            · have hn1 : ((n : Int) == 0) = false := by simp; omega
              go_wp2_with fail
              refine (oneB_any g (t + 2 + 14 * n + 2 * n + 12) 16 w8 hc8 (by omega) (by omega)).mono ?_
              rintro e w9 ⟨bb, rfl, hc9, hg9⟩
              go_wp2_with fail
              go_meet
              exact ⟨!bb, rfl, (fun _ => by omega), hc9, hg9⟩
          case rest =>
            obtain ⟨bb, rfl, HN0, hc9, hg9⟩ := hcut
            obtain ⟨w9, HWC⟩ : ∃ wq : World, wq = wc := ⟨_, rfl⟩
            subst HWC
            have hM9 := hM8.grownI hg9 (by omega)
            have hR9 := hB8.grown hg9 (fun e => by injection e with e; omega)
            have hP9 := B8.grown hg9 (fun e => by injection e with e; have := hc8.lt; omega)
            have hg09 := growB_trans hg08 hg9
            clear hM8 hB8 B8 hg08 hg9 hc8
            have kR := hR9.cell 0
            have fR := hR9.frozen 0
            have kP := hP9.cell 0
            have fP := hP9.frozen 0
            simp at kR kP
            have HFB : Hid (∀ p ∈ F, ∀ x ∈ p, -2000 ≤ x ∧ x ≤ 2000) := fun p hp x hx => by have := (HF.out p hp).2 x hx; omega
            rcases bb with _ | _
            · have hn0 : 0 < n := HN0.out (by first | rfl | trivial)
              have HPK := Lib.hid (pickB_any g (t + 2 + 14 * n + 2 * n + 14) (n : Int) w9 hc9 (by omega) (by omega))
              clear kR fR kP fP
              go_wp2_with fail
              refine HPK.out.mono ?_
              rintro e w10 ⟨x, hx, rfl, hc10, hg10⟩
              have HP4 := Lib.hid (pickB_any g (t + 2 + 14 * n + 2 * n + 16) 4 w10 hc10 (by omega) (by omega))
              clear HPK
              go_wp2_with fail
              refine HP4.out.mono ?_
              rintro e w11 ⟨k, hk, rfl, hc11, hg11⟩
              have hg911 := growB_trans hg10 hg11
              have hM11 := hM9.grownI hg911 (by omega)
              have hR11 := hR9.grown hg911 (fun e => by injection e with e; omega)
              have hP11 := hP9.grown hg911 (fun e => by injection e with e; have := hc9.lt; omega)
              have hg011 := growB_trans hg09 hg911
              have hxn : x < n := by omega
              have hx0 : (0 : Int) ≤ (x : Int) := by omega
              have hx1 : (x : Int) < (n : Int) := by omega
              clear hM9 hR9 hP9 hg09 hg911 hg10 hg11 HP4 hc9 hc10 hx
              obtain ⟨vs, ho, hl, hrows, hnd⟩ := hM11
              obtain ⟨b, rfl, hlob, hncb⟩ := own_form ho hn0
              have hvl : vs.length = n := by have := ho.1; omega
              have hFl : F.length = n := by omega
              have hvx : vs[x]? = some (vs[x]'(by omega)) := List.getElem?_eq_getElem (by omega)
              have hFx : F[x]? = some (F[x]'(by omega)) := List.getElem?_eq_getElem (by omega)
              have hpm := List.getElem_mem (l := F) (n := x) (by omega)
              have hrow := hrows x _ _ hvx hFx
              generalize F[x]'(by omega) = p at hFx hpm hrow
              generalize vs[x]'(by omega) = u at hvx hrow
              obtain ⟨⟨hp0, hp1⟩, hp2⟩ := HF.out p hpm
              obtain ⟨U, d, rfl⟩ := own_slice hrow
              obtain ⟨r, rfl, hlor, hld⟩ := own_form hrow hp0
              have hcx : w11.cell? ⟨b, x, none⟩ = some (.slice (some ⟨r, 0, none⟩) p.length d) := (ho.cellAt x (by omega)).trans hvx
              have hfx := ho.frozenAt x
              have kR := hR11.cell 0
              have fR := hR11.frozen 0
              have kP := hP11.cell 0
              have fP := hP11.frozen 0
              simp at kR kP
              go_upto_block 6 with fail
              go_cut [] from 86 to 145 (fun wx => PosW B g (t + 200) w.heap.size w7.heap.size w0 wx)
              case rest =>
                obtain ⟨A6, m6, c6, F6, hP12, hR12, hr, hog, hoq, hm6, hF6, hc12, hg12⟩ := hcut
                have HFIN := Lib.hid (ps_fin (c := c6) hb0 hg12 hgl hB hr hog hoq hm6 hF6 hc12)
                clear kR fR kP fP hr hF6
                have kR := hR12.cell 0
                have fR := hR12.frozen 0
                have kP := hP12.cell 0
                simp at kR kP
                go_wp2
                (try simp only [Exit.inBlock, Exit.then])
                refine bodyPost_ret (v := .agg #[.slice A6 m6 c6]) (results_cell_row rfl _ _ w.heap.size 26 #[.slice A6 m6 c6] (0, 0) _ (by simp) (hR12.set_ 0 _) Try.underlying26 rfl (by kernel_rfl)) rfl ?_
                exact HFIN.out
              rcases (by omega : (k : Int) = 0 ∨ (k : Int) = 1 ∨ (k : Int) = 2 ∨ (k : Int) = 3) with hk0 | hk0 | hk0 | hk0
              · have hq0 : ((k : Int) == 0) = true := by simp; omega
                have hq1 : ((k : Int) == 1) = false := by simp; omega
                have hq2 : ((k : Int) == 2) = false := by simp; omega
                have hq3 : ((k : Int) == 3) = false := by simp; omega
                have h1l : (1 : Int) ≤ (p.length : Int) := by omega
                have hld1 : (p.length : Int) ≤ (d : Int) := by omega
                obtain ⟨ad, HAD⟩ : ∃ ad, Hid ((if d = 1 then some (⟨r, 0, none⟩ : Addr) else some ⟨r, 1, none⟩) = ad) := ⟨_, rfl⟩
                have hbr : r ≠ b := fun e => own_ne hrow ho (by decide) rfl (by rw [e]; rfl)
                have hrow2 := own_same (w' := w11.setCell ⟨b, x, none⟩ (.slice ad (p.length - 1) (d - 1))) hrow fun k hk => Below.heap_setCell w11 ⟨b, x, none⟩ _ k (fun e => hbr (by injection hk with hk; exact hk.trans e))
                have hrd2 := rd_of_own (R := RI) hrow2 (RI_ints fun y hy => by have := hp2 y hy; omega)
                have hu : RG2 g w.heap.size (w11.setCell ⟨b, x, none⟩ (.slice ad (p.length - 1) (d - 1))) (.slice ad (p.length - 1) (d - 1)) (p.drop 1) := by
                  refine ⟨ad, _, _, rfl, ?_, ?_, ?_⟩
                  · have e0 := HAD.out
                    by_cases hd1 : d = 1
                    · rw [if_pos hd1] at e0
                      subst e0
                      have e1 : p.length - 1 = 0 := by omega
                      have e2 : p.drop 1 = [] := List.drop_eq_nil_of_le (by omega)
                      rw [e1, e2]
                      exact RdL.nil _ _ _
                    · rw [if_neg hd1] at e0
                      subst e0
                      exact hrd2.drop 1
                  · intro b1 o1 e0
                    rw [← HAD.out] at e0
                    split at e0 <;> (simp only [Option.some.injEq, Addr.mk.injEq, and_true] at e0; omega)
                  · intro b1 o1 e0
                    rw [← HAD.out] at e0
                    split at e0 <;> (simp only [Option.some.injEq, Addr.mk.injEq, and_true] at e0; omega)
                have HMR0 := (mut_row ho hl (fun j u ys _ h1 h2 => hrows j u ys h1 h2) (by omega) hlo6 (by omega) (by omega) HFB.out hxn hu hR11 hP11 hc11 hg011)
                obtain ⟨hr, hog, hoq, hcx2, hgx2, hRx, hPx⟩ := HMR0
                have HMR : Hid (PosW B g (t + 200) w.heap.size w7.heap.size w0 (w11.setCell ⟨b, x, none⟩ (.slice ad (p.length - 1) (d - 1)))) := ⟨_, n, c7, _, hPx, hRx, hr, hog, hoq, by omega, fun s hs => by
                  rcases List.mem_or_eq_of_mem_set hs with hs | rfl
                  · have := (HF.out s hs).1; omega
                  · rw [List.length_drop]; omega, hcx2.mono (by omega), hgx2⟩
                clear hr hRx hPx hcx2 hgx2
                clear hu hrd2 hrow2 hrows hnd
                go_wp2_with fail
                go_region
                rw [HAD.out]
                go_wp2_with fail
                go_meet
                exact HMR.out.next (Below.drew (Below.refl _ _))
              · have hq0 : ((k : Int) == 0) = false := by simp; omega
                have hq1 : ((k : Int) == 1) = true := by simp; omega
                have hq2 : ((k : Int) == 2) = false := by simp; omega
                have hq3 : ((k : Int) == 3) = false := by simp; omega
                have hz11 : w6.heap.size ≤ w11.heap.size := by have := (ho.lt b rfl).2; omega
                have hcons : ∀ (A3 : Option Addr) (c3 : Nat) (w12 : World), w12.ownsRow w6.heap.size 3 1 (.slice A3 (p.length + 1) c3) (p.length + 1) (ints p ++ [.int .i64 n]) → w11.grownBy w12 (Value.slice (some ⟨r, 0, none⟩) p.length d).ownBlock → Below w6.heap.size w11 w12 →
                    w12.cell? ⟨w7.heap.size, 0, none⟩ = some (.slice (some ⟨b, 0, none⟩) n c7) ∧ w12.cell? ⟨b, x, none⟩ = some (.slice (some ⟨r, 0, none⟩) p.length d) ∧ w12.frozen? ⟨b, x, none⟩ = false ∧
                    (RdL (RG2 g w.heap.size) (w12.setCell ⟨b, x, none⟩ (.slice A3 (p.length + 1) c3)) (some ⟨b, 0, none⟩) n (F.set x (p ++ [(n : Int)])) ∧ Off g (some ⟨b, 0, none⟩) ∧ Hi w.heap.size (some ⟨b, 0, none⟩) ∧ CurB B (w12.setCell ⟨b, x, none⟩ (.slice A3 (p.length + 1) c3)) g (t + 2 + 14 * n + 2 * n + 18) ∧ w0.grownBy (w12.setCell ⟨b, x, none⟩ (.slice A3 (p.length + 1) c3)) (some g) ∧ Blk (w12.setCell ⟨b, x, none⟩ (.slice A3 (p.length + 1) c3)) w.heap.size 26 #[.slice none 0 0] ∧ Blk (w12.setCell ⟨b, x, none⟩ (.slice A3 (p.length + 1) c3)) w7.heap.size 26 #[.slice (some ⟨b, 0, none⟩) n c7]) := fun A3 c3 w12 hown12 hg12 hb12 => by
                  have ho12 := own_same ho fun k hk => hg12.block k (ho.lt k hk).2 (fun e => own_ne hrow ho (by decide) e.symm hk)
                  have hR12 := hR11.grown hg12 (fun e => own_far hrow hR11 (by decide) e.symm)
                  have hP12 := hP11.grown hg12 (fun e => own_far hrow hP11 (by decide) e.symm)
                  have hown13 := own_same (w' := w12.setCell ⟨b, x, none⟩ (.slice A3 (p.length + 1) c3)) hown12 fun k hk => Below.heap_setCell w12 ⟨b, x, none⟩ _ k (fun e => own_ne hown12 ho12 (by decide) hk (by have h2 : k = b := e; rw [h2]; rfl))
                  have hk12 := hP12.cell 0
                  refine ⟨by simpa using hk12, (ho12.cellAt x (by omega)).trans hvx, ho12.frozenAt x, ?_⟩
                  refine mut_row ho12 hl (fun j u ys hj h1 h2 => own_same (hrows j u ys h1 h2) fun k hk => hg12.block k ((hrows j u ys h1 h2).lt k hk).2 fun e => hj (nodup_blocks hnd h1 hvx hk e.symm)) (by omega) hlo6 (by omega) (by omega) HFB.out hxn ⟨A3, _, c3, rfl, ?_, own_off hown13 (by omega), own_hiG hown13 hlo6⟩ hR12 hP12 (hc11.grown hg12 fun q hq => by have := (hrow.lt q hq).1; omega) (growB_own hg011 hg12 fun q hq => by have := (hrow.lt q hq).1; omega)
                  have e : ints p ++ [.int .i64 (n : Int)] = ints (p ++ [(n : Int)]) := ints_snocG p n
                  rw [e] at hown13
                  exact rd_of_own (R := RI) hown13 (RI_ints fun y hy => by
                    rcases List.mem_append.1 hy with hy | hy
                    · have := hp2 y hy; omega
                    · rw [List.mem_singleton.1 hy]; omega)
                have HCONS := Lib.hid hcons
                have hrow11 : (w11.drew).ownsRow w6.heap.size 3 1 (.slice (some ⟨r, 0, none⟩) p.length d) p.length (ints p) := hrow
                have hcxa : (w11.alloc (.cells #[.int .i64 n] 3)).cell? ⟨b, x, none⟩ = some (.slice (some ⟨r, 0, none⟩) p.length d) := keepP (below_box w11 _) hcx
                have kPa : (w11.alloc (.cells #[.int .i64 n] 3)).cell? ⟨w7.heap.size, 0, none⟩ = some (.slice (some ⟨b, 0, none⟩) n c7) := keepP (below_box w11 _) kP
                clear hcons hrows hnd
                go_wp2_with fail
                go_region_law (first
                  | (refine step_app1 w11.drew rfl (.tmp 108) (.tmp 110) 27 3 rfl (.int .i64 0) 8 Try.underlying27 info_int rfl (by decide) w6.heap.size p.length d (some ⟨r, 0, none⟩) (ints p) (by rfl) hrow11 (.int .i64 n) rfl (by rfl) (by omega) (by exact hz11) ?_; intro A3 c3 w12 hown12 hg12 hb12; obtain ⟨k12, kc12, kf12, HMR⟩ := HCONS.out A3 c3 w12 hown12 (growB_trans (toGr (Below.drew (Below.refl _ _))) hg12) ((Below.drew (Below.refl _ _)).trans hb12)))
                all_goals
                  obtain ⟨hr, hog, hoq, hcx2, hgx2, hRx, hPx⟩ := HMR
                  have HMR' : Hid (PosW B g (t + 200) w.heap.size w7.heap.size w0 (w12.setCell ⟨b, x, none⟩ (.slice A3 (p.length + 1) c3))) := ⟨_, n, c7, _, hPx, hRx, hr, hog, hoq, by omega, fun s hs => by
                    rcases List.mem_or_eq_of_mem_set hs with hs | rfl
                    · have := (HF.out s hs).1; omega
                    · rw [List.length_append, List.length_singleton]; omega, hcx2.mono (by omega), hgx2⟩
                  clear hr hRx hPx hcx2 hgx2
                  go_wp2_with fail
                  go_meet
                  exact HMR'.out
              · have hq0 : ((k : Int) == 0) = false := by simp; omega
                have hq1 : ((k : Int) == 1) = false := by simp; omega
                have hq2 : ((k : Int) == 2) = true := by simp; omega
                have hq3 : ((k : Int) == 3) = false := by simp; omega
                clear hk0 hk
                have hbl := (ho.lt b rfl).2
                have hcc : CurB B w11 g (t + 132) := hc11.mono (by omega)
                have hHP : Hid (∀ wz, Below w11.heap.size w11 wz → Calls Try.prog 45 #[.pointer (some ⟨g, 0, none⟩), .int .i64 n] wz (fun e w' => ∃ y : Nat, y < n ∧ e = .returned (.int .i64 y) ∧ CurB B w' g (t + 134) ∧ w11.grownBy w' (some g) ∧ w'.cell? ⟨w7.heap.size, 0, none⟩ = some (.slice (some ⟨b, 0, none⟩) n c7) ∧ w'.cell? ⟨b, x, none⟩ = some (.slice (some ⟨r, 0, none⟩) p.length d) ∧ w'.ownsRow w6.heap.size 3 1 (.slice (some ⟨r, 0, none⟩) p.length d) p.length (ints p))) := fun wz hwz =>
                  (pickB_any g (t + 132) (n : Int) wz (hcc.next_ hwz) (by omega) (by omega)).mono fun e w' ⟨y, hy, he, hc2, hg2⟩ => by
                    have hg3 := growB_trans (toGr (r := some g) hwz) hg2
                    have hk := (hP11.grown hg3 (fun e => by injection e with e; have := hc11.lt; omega)).cell 0
                    simp at hk
                    exact ⟨y, by omega, he, hc2, hg3, hk, ((own_grownG ho hg3 (by omega)).cellAt x (by omega)).trans hvx, own_grownG hrow hg3 (by omega)⟩
                have hFIN : Hid (∀ (wn wm : World) (y : Nat) (A3 : Option Addr) (m3 c3 : Nat) (L : List Int), y < n → CurB B wn g (t + 134) → w11.grownBy wn (some g) → Below wn.heap.size wn wm → wm.ownsRow w6.heap.size 3 1 (.slice A3 m3 c3) m3 (ints L) → m3 ≤ p.length + 1 → (∀ z ∈ L, z ∈ p ∨ z = (y : Int)) →
                    wm.cell? ⟨w7.heap.size, 0, none⟩ = some (.slice (some ⟨b, 0, none⟩) n c7) ∧ wm.cell? ⟨b, x, none⟩ = some (.slice (some ⟨r, 0, none⟩) p.length d) ∧ wm.frozen? ⟨b, x, none⟩ = false ∧ PosW B g (t + 200) w.heap.size w7.heap.size w0 (wm.setCell ⟨b, x, none⟩ (.slice A3 m3 c3))) := fun wn wm y A3 m3 c3 L hyn hcn hgn hbm hown3 hm3 hL => by
                  have hgm := growB_trans hgn (toGr (r := some g) hbm)
                  have hom := own_grownG ho hgm (by omega)
                  have hPm := hP11.grown hgm (fun e => by injection e with e; have := hc11.lt; omega)
                  have hRm := hR11.grown hgm (fun e => by injection e with e; omega)
                  have hkm := hPm.cell 0
                  simp at hkm
                  have hown4 := own_same (w' := wm.setCell ⟨b, x, none⟩ (.slice A3 m3 c3)) hown3 fun k hk => Below.heap_setCell wm ⟨b, x, none⟩ _ k (fun e => own_ne hown3 hom (by decide) hk (by have h2 : k = b := e; rw [h2]; rfl))
                  obtain ⟨hr, hog, hoq, hcx2, hgx2, hRx, hPx⟩ := mut_row hom hl (fun j u ys _ h1 h2 => own_grownG (hrows j u ys h1 h2) hgm (by omega)) (by omega) hlo6 (by omega) (by omega) HFB.out hxn (u := .slice A3 m3 c3) (p := L) ⟨A3, m3, c3, rfl, rd_of_own (R := RI) hown4 (RI_ints fun z hz => by
                    rcases hL z hz with hz | rfl
                    · have := hp2 z hz; omega
                    · omega), own_off hown4 (by omega), own_hiG hown4 hlo6⟩ hRm hPm (hcn.next_ hbm) (growB_trans hg011 hgm)
                  have hLl : L.length = m3 := by have := hown3.1; simpa [ints] using this
                  exact ⟨hkm, (hom.cellAt x (by omega)).trans hvx, hom.frozenAt x, _, n, c7, _, hPx, hRx, hr, hog, hoq, by omega, fun s hs => by
                    rcases List.mem_or_eq_of_mem_set hs with hs | rfl
                    · have := (HF.out s hs).1; omega
                    · omega, hcx2.mono (by omega), hgx2⟩
                have hz11 : w6.heap.size ≤ w11.heap.size := by omega
                clear kR fR fP hfx hrows hnd ho hvx hP11 hR11 hcc
                go_wp2_with fail
                go_region_law (first
                  | (go_simp; go_at_call 45; (first | refine (hHP.out w11 (Below.refl _ _)).mono ?_ | refine (hHP.out w11.drew (Below.drew (Below.refl _ _))).mono ?_); rintro e wn ⟨y, hy, rfl, hcn, hgn, kPn, kxn, hown⟩; have hzn : w6.heap.size ≤ wn.heap.size := Nat.le_trans hz11 hgn.size)
                  | (go_simp; go_at_call 62; (first | refine (l1Put_any w6.heap.size r p.length d p (y : Int) wn hown hzn (by omega) (fun z hz => by have := hp2 z hz; omega) (by omega)).mono ?_ | refine (l1Put_any w6.heap.size r p.length d p (y : Int) wn.drew hown hzn (by omega) (fun z hz => by have := hp2 z hz; omega) (by omega)).mono ?_); rintro e wm ⟨A3, m3, c3, L, rfl, hown3, hm3, hL, hbm⟩; obtain ⟨kPm, kxm, kfm, HPW⟩ := hFIN.out wn wm y A3 m3 c3 L hy hcn hgn (by first | exact hbm | exact (Below.drew (Below.refl _ _)).trans hbm) hown3 hm3 hL))
                all_goals
                  go_wp2_with fail
                  go_meet
                  first
                    | exact HPW
                    | exact HPW.next (Below.drew (Below.refl _ _))
              · have hq0 : ((k : Int) == 0) = false := by simp; omega
                have hq1 : ((k : Int) == 1) = false := by simp; omega
                have hq2 : ((k : Int) == 2) = false := by simp; omega
                have hq3 : ((k : Int) == 3) = true := by simp; omega
                clear hk0 hk
                have HGP : Hid (g < w7.heap.size) := by show g < w7.heap.size; omega
                have hMM : OwM 27 3 (.int .i64) w6.heap.size w11 (.slice (some ⟨b, 0, none⟩) n c7) n F := ⟨vs, ho, hl, hrows, hnd⟩
                have hF0 : ∀ p ∈ F, p.length ≤ 20 ∧ ∀ x ∈ p, -2000 ≤ x ∧ x ≤ 2000 := fun p hp => ⟨by have := (HF.out p hp).1; omega, HFB.out p hp⟩
                have hz11 : w6.heap.size ≤ w11.heap.size := by have := (ho.lt b rfl).2; omega
                clear kR fR kP fP hcx hfx hrow hrows hnd ho hvx
                go_wp2_with fail
                go_loopg [] (12 - n) (fun gk wr => ∃ (m' : Nat) (A' : Option Addr) (c' : Nat) (F' : List (List Int)), gk + m' = 12 ∧ Blk wr w7.heap.size 26 #[.slice A' m' c'] ∧ Blk wr w.heap.size 26 #[.slice none 0 0] ∧ OwM 27 3 (.int .i64) w6.heap.size wr (.slice A' m' c') m' F' ∧ (∀ p ∈ F', p.length ≤ 20 ∧ ∀ x ∈ p, -2000 ≤ x ∧ x ≤ 2000) ∧ CurB B wr g (t + 132 + 2 * m') ∧ w0.grownBy wr (some g) ∧ w6.heap.size ≤ wr.heap.size)
                case atStart => exact ⟨n, some ⟨b, 0, none⟩, c7, F, by omega, hP11, hR11, hMM, hF0, hc11.mono (by omega), hg011, hz11⟩
                case round =>
                  clear hMM hF0 hP11 hR11 hc11 hg011
                  obtain ⟨m', A', c', F', hgm, hP, hR, hM, hF', hc, hg, hz⟩ := hrel
                  have HF' := Lib.hid hF'
                  clear hF'
                  have kP := hP.cell 0
                  simp at kP
                  have hC : ∀ wz, Below wr.heap.size wr wz → Calls Try.prog 45 #[.pointer (some ⟨g, 0, none⟩), .int .i64 2] wz (fun e w' => ∃ y : Nat, y < 2 ∧ e = .returned (.int .i64 y) ∧ CurB B w' g (t + 132 + 2 * m' + 2) ∧ wr.grownBy w' (some g) ∧ w'.cell? ⟨w7.heap.size, 0, none⟩ = some (.slice A' m' c')) := fun wz hwz =>
                    (pickB_any g (t + 132 + 2 * m') 2 wz (hc.next_ hwz) (by omega) (by omega)).mono fun e w' ⟨y, hy, he, hc2, hg2⟩ => by
                      have hg3 := growB_trans (toGr (r := some g) hwz) hg2
                      have hk := (hP.grown hg3 (fun e => by injection e with e; have := hc.lt; omega)).cell 0
                      simp at hk
                      exact ⟨y, by omega, he, hc2, hg3, hk⟩
                  go_upto_region 29 with fail
                  go_cut [136] from 130 to 145 (fun u136 wx => ∃ bb : Bool, u136 = .bool bb ∧ Hid (bb = true → m' ≤ 10) ∧ CurB B wx g (t + 132 + 2 * m' + 2) ∧ wr.grownBy wx (some g))
                  case first =>
                    go_region_held3 (fun w' => w'.cell? ⟨w7.heap.size, 0, none⟩ = some (.slice A' m' c')) (first | go_keep | exact kPn) (first
                      | (go_at_call 45; (with_reducible refine (hC _ ?_).mono ?_); (first | exact Below.refl _ _ | exact Below.drew (Below.refl _ _)); rintro e wn ⟨y, hy, rfl, hcn, hgn, kPn⟩))
                    all_goals
                      have hy0 : (0 : Int) ≤ (y : Int) := by omega
                      have hy2 : (y : Int) < 2 := by omega
                      have hw10 : IntKind.i64.wrap (10 + (y : Int)) = 10 + (y : Int) := by rw [IntKind.wrap_i64]; omega
                      go_wp2_with fail
                      go_meet
                      exact ⟨_, rfl, (fun h => by have := of_decide_eq_true h; omega), by first | exact hcn | exact hcn.next_ (Below.drew (Below.refl _ _)), by first | exact hgn | exact growB_trans hgn (toGr (Below.drew (Below.refl _ _)))⟩
                  case rest =>
                    obtain ⟨bb, rfl, HBB, hc2, hg2⟩ := hcut
                    obtain ⟨w12, HWC⟩ : ∃ wq : World, wq = wc := ⟨_, rfl⟩
                    subst HWC
                    have hgr := hc.lt
                    have hP2 := hP.grown hg2 (fun e => by injection e with e; have := hP.lt; have := (HGP.out); omega)
                    have hR2 := hR.grown hg2 (fun e => by injection e with e; omega)
                    have hM2 := hM.grownI hg2 (by omega)
                    have hg02 := growB_trans hg hg2
                    have hz12 := Nat.le_trans hz hg2.size
                    clear hP hR hM hg hc kP hC hg2
                    rcases bb with _ | _
                    · obtain ⟨A9, c9, e9, -, hog, hoq, hr⟩ := hM2.toR2 (g := g) (q := w.heap.size) (by omega) hlo6 (fun p hp => (HF'.out p hp).2)
                      injection e9 with e1 _ e3
                      subst e1
                      subst e3
                      have HFIN : Hid (PosW B g (t + 200) w.heap.size w7.heap.size w0 w12) := ⟨_, m', c', F', hP2, hR2, hr, hog, hoq, by omega, fun p hp => (HF'.out p hp).1, hc2.mono (by omega), hg02⟩
                      clear hr
                      go_wp2_with fail
                      go_meet
                      exact HFIN.out
                    · have hm10 : m' ≤ 10 := HBB.out (by first | rfl | trivial)
                      have hbA := below_box w12 (.cells #[.int .i64 m'] 3)
                      have hownA : (w12.alloc (.cells #[.int .i64 m'] 3)).ownsRow w12.heap.size 3 1 (.slice (some ⟨w12.heap.size, 0, none⟩) 1 1) 1 (ints [(m' : Int)]) := World.ownsRow_lit w12 #[.int .i64 m'] 1 (Nat.le_refl _) (by unfold maxLen; omega) rfl
                      obtain ⟨vs', hvs', HPU⟩ := hM2.push (by decide) hbA hz12 (xs := [(m' : Int)]) hownA
                      have hP3 := hP2.next hbA
                      have hR3 := hR2.next hbA
                      have hzA : w6.heap.size ≤ (w12.alloc (.cells #[.int .i64 m'] 3)).heap.size := Nat.le_trans hz12 hbA.size
                      have kP2 := hP2.cell 0
                      simp at kP2
                      have hc3 := hc2.next_ hbA
                      have hg03 := growB_trans hg02 (toGr (r := some g) hbA)
                      clear hM2 hownA
                      go_wp2_with (at_builtin; refine app1 (w12.alloc (.cells #[.int .i64 m'] 3)) rfl _ _ 24 27 rfl (.slice none 0 0) 24 Try.underlying24 info_ints rfl (by decide) w6.heap.size m' c' A' vs' rfl hvs' (.slice (some ⟨w12.heap.size, 0, none⟩) 1 1) rfl (by show Value.slice (some ⟨w12.heap.size + 1, 0, none⟩) 1 1 = _; simp) (by omega) hzA ?_; intro A5 c5 w14 hown5 hg5 hb5; have BP5 := hP3.grown hg5 (fun e => own_far hvs' hP3 (by decide) e.symm); have BR5 := hR3.grown hg5 (fun e => own_far hvs' hR3 (by decide) e.symm); have cP5 := BP5.cell 0; have fP5 := BP5.frozen 0; simp at cP5)
                      have hM5 := (HPU hown5 hg5).far BP5 (by decide) (by decide) 0 (.slice A5 (m' + 1) c5)
                      have hG6 : w14.grownBy (w14.setCell ⟨w7.heap.size, 0, none⟩ (.slice A5 (m' + 1) c5)) (some w7.heap.size) := grown_setB (g := w7.heap.size) (p := ⟨w7.heap.size, 0, none⟩) (grown_reflB w14 _) rfl _
                      have hc5 := (hc3.grown hg5 fun q hq => by have := (hvs'.lt q hq).1; omega).grown hG6 (fun q hq => by injection hq with hq; omega)
                      have hg5' := growB_own (growB_own hg03 hg5 fun q hq => by have := (hvs'.lt q hq).1; omega) hG6 (fun q hq => by injection hq with hq; omega)
                      have hz5 : w6.heap.size ≤ (w14.setCell ⟨w7.heap.size, 0, none⟩ (.slice A5 (m' + 1) c5)).heap.size := Nat.le_trans hzA (Nat.le_trans hg5.size hG6.size)
                      have hR6 := BR5.far (p := ⟨w7.heap.size, 0, none⟩) (by show w.heap.size ≠ w7.heap.size; omega) (.slice A5 (m' + 1) c5)
                      clear HPU hown5 hg5 hvs' hb5
                      go_roundg (gk - 1)
                      case measure => omega
                      case rel => exact ⟨m' + 1, A5, c5, F' ++ [[(m' : Int)]], by omega, BP5.set_ 0 _, hR6, hM5, fun p hp => by
                        rcases List.mem_append.1 hp with hp | hp
                        · exact HF'.out p hp
                        · rw [List.mem_singleton.1 hp]; exact ⟨by simp, fun x hx => by rw [List.mem_singleton.1 hx]; omega⟩, hc5.mono (by omega), hg5', hz5⟩
            · obtain ⟨A8, c8, e8, -, hog, hoq, hr⟩ := hM9.toR2 (g := g) (q := w.heap.size) (by omega) hlo6 HFB.out
              injection e8 with e1 _ e3
              subst e1
              subst e3
              have HFIN := Lib.hid (ps_fin (c := c7) hb0 hg09 hgl hB hr hog hoq (by omega) (fun p hp => by have := (HF.out p hp).1; omega) (hc9.mono (by omega : _ ≤ t + 200)))
              clear hr
              go_wp2
              (try simp only [Exit.inBlock, Exit.then])
              refine bodyPost_ret (v := .agg #[.slice A7 n c7]) (results_cell_row rfl _ _ w.heap.size 26 #[.slice A7 n c7] (0, 0) _ (by simp) (hR9.set_ 0 _) Try.underlying26 rfl (by kernel_rfl)) rfl ?_
              exact HFIN.out
end Go.Proofs.Ytlncpabnlnipoaa
