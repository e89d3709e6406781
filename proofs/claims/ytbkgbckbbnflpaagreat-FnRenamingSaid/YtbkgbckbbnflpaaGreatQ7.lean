import Derived.Test.YtbkgbckbbnflpaaGreatQ6
set_option linter.unusedVariables false
set_option linter.unusedSimpArgs false
set_option maxRecDepth 100000
set_option maxHeartbeats 32000000
namespace Go.Proofs.YtbkgbckbbnflpaaGreat
open Go.RowKit
theorem algebra_any (B g t : Nat) (w : World) (h : CurB B w g t) (hB : B ≤ w.heap.size) (ht : t ≤ 999900000) :
    Calls Tryz.prog 18 #[.pointer (some ⟨g, 0, none⟩)] w (AlgD B w g (t + 2000)) := by
  have hgl := h.lt
  obtain ⟨w0, HW0⟩ : ∃ wb, Hid (wb = w.alloc (.cells #[.int .i64 0, .slice none 0 0] 26)) := ⟨_, Lib.hid rfl⟩
  have hb0 : Below w.heap.size w w0 := by rw [HW0.out]; exact below_box _ _
  have BR : Blk w0 w.heap.size 26 #[.int .i64 0, .slice none 0 0] := by rw [HW0.out]; exact Blk.new _ _ _
  have hs0 : w0.heap.size = w.heap.size + 1 := by rw [HW0.out]; simp
  have HON := Lib.hid (oneB_any g t 4 w0 (h.next_ hb0) (by omega) (by omega))
  have hr0g : w.heap.size ≠ g := by omega
  have hz0 : w.heap.size + 1 ≤ w0.heap.size := by omega
  clear hs0
  go_enter Tryz.func18, Tryz.ntmps18
  go_upto_region 1 with fail
  rw [← HW0.out]
  go_wp2_with fail
  refine HON.out.mono ?_
  rintro e w1 ⟨b, rfl, hc1, hg1⟩
  have BR1 := BR.grownG hg1 hr0g
  have hgr1 := growB_trans (toGr (r := some g) hb0) hg1
  have hz1 := hg1.size
  clear HON BR hg1
  rcases b with _ | _
  · -- a known one
    have HPK := Lib.hid (pickB_any g (t + 2) 17 w1 hc1 (by omega) (by omega))
    go_wp2_with fail
    refine HPK.out.mono ?_
    rintro e w2 ⟨k, -, rfl, hc2, hg2⟩
    have BR2 := BR1.grownG hg2 hr0g
    have hgr2 := growB_trans hgr1 hg2
    have hz2 := hg2.size
    have HKN := Lib.hid (l2Known_any (k : Int) w2 (by omega))
    clear HPK BR1 hg2
    go_wp2_with fail
    refine HKN.out.mono ?_
    rintro e w3 ⟨x, ⟨cs, bl, rfl, O3, I3, hb3⟩, hsm⟩
    obtain ⟨A, n, c, rfl, -, -⟩ := rdAlgebra (shAlgebra.ord O3)
    have BR3 := BR2.next hb3
    have hz3 := hb3.size
    obtain ⟨w4, HW4⟩ : ∃ wb, Hid (wb = w3.alloc (.cells #[.int .i64 x.1, .slice A n c] 26)) := ⟨_, Lib.hid rfl⟩
    have hb4 : Below w3.heap.size w3 w4 := by rw [HW4.out]; exact below_box _ _
    have BX : Blk w4 w3.heap.size 26 #[.int .i64 x.1, .slice A n c] := by rw [HW4.out]; exact Blk.new _ _ _
    have BR4 := BR3.next hb4
    have hc4 := (hc2.next_ hb3).next_ hb4
    have hgr4 := growB_trans (growB_trans hgr2 (toGr (r := some g) hb3)) (toGr (r := some g) hb4)
    have O4 := Sh.onext O3 hb4
    have hz4 := hb4.size
    have hrn : w.heap.size ∉ bl := fun hh => by have := (I3.2 _ hh).1; omega
    obtain ⟨wf, HWF⟩ : ∃ wf, Hid (wf = (w4.setCell ⟨w.heap.size, 0, none⟩ (.int .i64 x.1)).setCell ⟨w.heap.size, 1, none⟩ (.slice A n c)) := ⟨_, Lib.hid rfl⟩
    have BLF : Hid (Blk wf w.heap.size 26 #[.int .i64 x.1, .slice A n c]) := by show Blk _ _ _ _; rw [HWF.out]; simpa using (BR4.set_ 0 (.int .i64 x.1)).set_ 1 (.slice A n c)
    have OF : Hid (shAlgebra.own wf [.int .i64 x.1, .slice A n c] x bl) := by show shAlgebra.own _ _ _ _; rw [HWF.out]; exact Sh.oset' (p := ⟨w.heap.size, 1, none⟩) (Sh.oset' (p := ⟨w.heap.size, 0, none⟩) O4 hrn _) hrn _
    have CF : Hid (CurB B wf g (t + 2000)) := by show CurB _ _ _ _; rw [HWF.out]; exact ((hc4.setFar (p := ⟨w.heap.size, 0, none⟩) hB hr0g _).setFar (p := ⟨w.heap.size, 1, none⟩) hB hr0g _).mono (by omega)
    have GF : Hid (w.grownBy wf (some g)) := by show World.grownBy _ _ _; rw [HWF.out]; exact growB_new (growB_new hgr4 (p := ⟨w.heap.size, 0, none⟩) (Nat.le_refl _) _) (p := ⟨w.heap.size, 1, none⟩) (Nat.le_refl _) _
    have IF : Hid (Iv w.heap.size wf.heap.size bl) := by show Iv _ _ _; rw [HWF.out]; exact I3.mono (by omega) (by simpa using hz4)
    have cX0 := BX.cell 0
    have cX1 := BX.cell 1
    have cR0 := BR4.cell 0
    have cR1 := BR4.cell 1
    simp at cX0 cX1 cR0 cR1
    have fR0 := BR4.frozen 0
    have fR1 := BR4.frozen 1
    clear HKN BR2 BR3 BR4 BX hc2 hc4 hgr4 O3 O4 hrn
    go_upto_region 3 with fail
    rw [← HW4.out]
    go_wp2_with fail
    rw [← HWF.out]
    (try simp only [Exit.inBlock, Exit.then])
    refine bodyPost_ret (v := .agg #[.int .i64 x.1, .slice A n c]) (results_cell_row rfl _ _ w.heap.size 26 #[.int .i64 x.1, .slice A n c] (0, 0) _ (by simp) BLF.out Tryz.underlying26 rfl (by kernel_rfl)) rfl ?_
    exact ⟨[.int .i64 x.1, .slice A n c], x, bl, rfl, OF.out, IF.out, small_q5 hsm, CF.out, GF.out⟩
  · -- one that is built
    obtain ⟨w2, HW2⟩ : ∃ wb, Hid (wb = w1.alloc (.cells #[.int .i64 2, .int .i64 2, .int .i64 3, .int .i64 3, .int .i64 4] 3)) := ⟨_, Lib.hid rfl⟩
    have hb2 : Below w1.heap.size w1 w2 := by rw [HW2.out]; exact below_box _ _
    have hnum : NumsP (fun x => x = 2 ∨ x = 3 ∨ x = 4) w2 g w1.heap.size 5 := by rw [HW2.out]; exact numsL _ [2, 2, 3, 3, 4] w1 g hc1.lt (by decide) (by decide) (by intro x hx; simp at hx; omega) rfl
    have HAM := Lib.hid (amongB_any g (t + 2) w1.heap.size 5 5 w2 (hc1.next_ hb2) (by omega) _ hnum)
    have BR2 := BR1.next hb2
    have hgr2 := growB_trans hgr1 (toGr (r := some g) hb2)
    have hz2 := hb2.size
    clear hnum BR1
    go_wp2_with fail
    rw [← HW2.out]
    refine HAM.out.mono ?_
    rintro e w3 ⟨z, hzv, rfl, hc3, hg3⟩
    obtain ⟨n, rfl, hn2, hn4⟩ : ∃ n : Nat, z = (n : Int) ∧ 2 ≤ n ∧ n ≤ 4 := ⟨z.toNat, by omega, by omega, by omega⟩
    have BR3 := BR2.grownG hg3 hr0g
    have hgr3 := growB_trans hgr2 hg3
    have hz3 := hg3.size
    obtain ⟨w4, HW4⟩ : ∃ wb, Hid (wb = w3.alloc (.cells #[.int .i64 (n : Int), .slice none 0 0] 26)) := ⟨_, Lib.hid rfl⟩
    have hb4 : Below w3.heap.size w3 w4 := by rw [HW4.out]; exact below_box _ _
    have BA4 : Blk w4 w3.heap.size 26 #[.int .i64 (n : Int), .slice none 0 0] := by rw [HW4.out]; exact Blk.new _ _ _
    have hs4 : w4.heap.size = w3.heap.size + 1 := by rw [HW4.out]; simp
    obtain ⟨gA, hgA⟩ : ∃ a, a = w3.heap.size := ⟨_, rfl⟩
    obtain ⟨lo, hlo⟩ : ∃ a, a = w4.heap.size := ⟨_, rfl⟩
    have hS4 : AlS B g lo lo gA w.heap.size w w4 (n : Int) [] (t + 4) := ⟨none, 0, 0, [], [], by rw [hgA]; exact BA4, PO.nil _ _, BR3.next hb4, (hc3.next_ hb4).mono (by omega), growB_trans hgr3 (toGr hb4), Iv.nil _ _, Nat.le_refl _, by omega⟩
    have HGA := Lib.hid hgA
    have hgAl : gA < lo := by omega
    have hgAg : gA ≠ g := by omega
    have hglo : g < lo := by omega
    have hwlo : w.heap.size < lo := by omega
    have hBlo : B ≤ lo := by omega
    have hBgA : B ≤ gA := by omega
    have hwgA : w.heap.size ≠ gA := by omega
    have hwgA2 : w.heap.size ≤ gA := by omega
    have hlo4 : lo ≤ w4.heap.size := by omega
    clear hs4 hgA hlo HAM BR2 BR3 BA4 hc1 hc3 hgr1 hgr2 hgr3 hg3 hzv
    obtain ⟨w5, HW5⟩ : ∃ wb, Hid (wb = w4.alloc (.cells #[.int .i64 1, .int .i64 1, .int .i64 2] 3)) := ⟨_, Lib.hid rfl⟩
    have hb5 : Below w4.heap.size w4 w5 := by rw [HW5.out]; exact below_box _ _
    have hnum : NumsP (fun x => x = 1 ∨ x = 2) w5 g w4.heap.size 3 := by rw [HW5.out]; exact numsL _ [1, 1, 2] w4 g (by omega) (by decide) (by decide) (by intro x hx; simp at hx; omega) rfl
    have hS5 := hS4.next hb5
    have HAM := Lib.hid (amongB_any g (t + 4) w4.heap.size 3 3 w5 hS5.cu (by omega) _ hnum)
    clear hnum hS4
    go_upto_region 6 with fail
    rw [← HW4.out]
    go_wp2_with fail
    rw [← HW5.out]
    refine HAM.out.mono ?_
    rintro e w6 ⟨z, hzv, rfl, hc6, hg6⟩
    obtain ⟨k0, rfl, hk1, hk2⟩ : ∃ k : Nat, z = (k : Int) ∧ 1 ≤ k ∧ k ≤ 2 := ⟨z.toNat, by omega, by omega, by omega⟩
    have hS6 := hS5.cur hg6 hc6 hgAg hr0g hglo
    have hz56 := hb5.size
    have hz66 := hg6.size
    rw [← HGA.out]
    clear hzv HAM hS5 hc6 hg6
    -- loops
    obtain ⟨t6, HT6⟩ : ∃ x, Hid (t + 4 + 2 = x) := ⟨_, Lib.hid rfl⟩
    rw [HT6.out] at hS6
    have ht6 : t6 ≤ 999900006 := by have := HT6.out; omega
    go_wp2_with fail
    go_loopw [6, 7, 8] (fun kv _ _ wr => ∃ (q : Nat) (xs : List OpM) (hi : Nat), q ≤ k0 ∧ kv = .int .i64 q ∧ AlS B g lo hi gA w.heap.size w wr (n : Int) xs (t6 + 150 * (k0 - q)) ∧ Hid (xs.length + q = k0 ∧ OpsQ xs)) (fun kv _ _ _ => (intOf kv).toNat)
    case atStart => exact ⟨k0, [], lo, Nat.le_refl _, rfl, hS6.mono (by omega), Lib.hid ⟨by simp, fun o ho => by cases ho⟩⟩
    case round =>
      clear hS6 hz56 hz66 hb5 hb4 hb2 hz1 hz2 hz3 hz0 hb0 hlo4 HW5 HW4 HW2 HGA
      obtain ⟨q, xs, hi, hqk, rfl, hS, HX⟩ := hrel
      by_cases hq : 0 < q
      · have hq0 : (0 : Int) < (q : Int) := by omega
        obtain ⟨tq, HTQ⟩ : ∃ x, Hid (t6 + 150 * (k0 - q) = x) := ⟨_, Lib.hid rfl⟩
        rw [HTQ.out] at hS
        have htq : tq ≤ 999901000 := by have := HTQ.out; omega
        obtain ⟨hlh, hiw⟩ : lo ≤ hi ∧ hi ≤ wr.heap.size := by obtain ⟨_, _, _, _, _, _, _, _, _, _, _, l1, l2⟩ := hS; exact ⟨l1, l2⟩
        obtain ⟨w7, HW7⟩ : ∃ wb, Hid (wb = wr.alloc (.cells #[.int .i64 0, .int .i64 1, .int .i64 2, .int .i64 2, .int .i64 3] 3)) := ⟨_, Lib.hid rfl⟩
        have hb7 : Below wr.heap.size wr w7 := by rw [HW7.out]; exact below_box _ _
        have hnum : NumsP (fun x => 0 ≤ x ∧ x ≤ 3) w7 g wr.heap.size 5 := by rw [HW7.out]; exact numsL _ [0, 1, 2, 2, 3] wr g (by omega) (by decide) (by decide) (by intro x hx; simp at hx; omega) rfl
        have hS7 := hS.next hb7
        have HAM := Lib.hid (amongB_any g tq wr.heap.size 5 5 w7 hS7.cu (by omega) _ hnum)
        have hz7 := hb7.size
        clear hnum hS
        go_wp2_with fail
        rw [← HW7.out]
        refine HAM.out.mono ?_
        rintro e w8 ⟨z, hzv, rfl, hc8, hg8⟩
        obtain ⟨a, rfl, ha3⟩ : ∃ a : Nat, z = (a : Int) ∧ a ≤ 3 := ⟨z.toNat, by omega, by omega⟩
        have hS8 := hS7.cur hg8 hc8 hgAg hr0g hglo
        have hz8 := hg8.size
        obtain ⟨w9, HW9⟩ : ∃ wb, Hid (wb = w8.alloc (.cells #[.int .i64 (a : Int), .slice none 0 0] 64)) := ⟨_, Lib.hid rfl⟩
        have hb9 : Below w8.heap.size w8 w9 := by rw [HW9.out]; exact below_box _ _
        have BQ9 : Blk w9 w8.heap.size 64 #[.int .i64 (a : Int), .slice none 0 0] := by rw [HW9.out]; exact Blk.new _ _ _
        obtain ⟨gq, hgq⟩ : ∃ x, x = w8.heap.size := ⟨_, rfl⟩
        have HGQ := Lib.hid hgq
        rw [← hgq] at BQ9
        have hgq1 : hi ≤ gq := by omega
        have hgqg : gq ≠ g := by omega
        have hS9 := hS8.next hb9
        have hgq9 := BQ9.lt
        obtain ⟨bb, HBB⟩ : ∃ b, Hid ((decide (n = 4) && decide (a = 3)) = b) := ⟨_, Lib.hid rfl⟩
        clear hgq HAM hS7 hS8 hc8 hg8 hzv hb9 hb7
        have cQ0 := BQ9.cell 0
        simp at cQ0
        go_upto_region 10 with fail
        rw [← HW9.out, ← HGQ.out]
        go_cut [38] from 32 to 38 (fun u38 wx => u38 = .bool bb ∧ wx = w9)
        case first =>
          by_cases h4 : n = 4
          · have e4 : ((n : Int) == 4) = true := by simp; omega
            by_cases h3 : a = 3
            · have e3 : ((a : Int) == 3) = true := by simp; omega
              have hbb : Hid (true = bb) := by show _ = _; rw [← HBB.out]; simp [h4, h3]
              clear h4 h3
              go_wp2_with fail
              go_meet
              exact ⟨by rw [hbb.out], rfl⟩
            · have e3 : ((a : Int) == 3) = false := by simp; omega
              have hbb : Hid (false = bb) := by show _ = _; rw [← HBB.out]; simp [h3]
              clear h4 h3
              go_wp2_with fail
              go_meet
              exact ⟨by rw [hbb.out], rfl⟩
          · have e4 : ((n : Int) == 4) = false := by simp; omega
            have hbb : Hid (false = bb) := by show _ = _; rw [← HBB.out]; simp [h4]
            clear h4
            go_wp2_with fail
            go_meet
            exact ⟨by rw [hbb.out], rfl⟩
        case rest =>
          obtain ⟨rfl, HC9⟩ := hcut
          rw [HC9]
          clear HC9
          go_upto_if 38 with fail
          go_cut [] from 39 to 39 (fun wx => ∃ a' : Nat, a' ≤ 3 ∧ Blk wx gq 64 #[.int .i64 (a' : Int), .slice none 0 0] ∧ AlS B g lo hi gA w.heap.size w wx (n : Int) xs (tq + 2) ∧ gq < wx.heap.size)
          case first =>
            rcases bb with _ | _
            · go_wp2_with fail
              go_meet
              exact ⟨a, ha3, BQ9, hS9, hgq9⟩
            · have fQ0 := BQ9.frozen 0
              go_wp2_with fail
              go_meet
              exact ⟨2, by omega, by simpa using BQ9.set_ 0 (.int .i64 2), hS9.far (row := some gq) ⟨rfl, rfl, rfl, by simp, fun b hb hne => Below.heap_setCell _ _ _ b (fun e => hne (by rw [e]))⟩ (fun r e => by injection e with e; omega) (by omega) (by omega) (by omega) (by omega) (by omega), by simpa using hgq9⟩
          case rest =>
            clear BQ9 hS9 hgq9 cQ0
            obtain ⟨a', ha', BQ, hS, hgqw⟩ := hcut
            obtain ⟨wx, HWC⟩ : ∃ wq : World, wq = wc := ⟨_, rfl⟩
            subst HWC
            obtain ⟨r, HR⟩ : ∃ r, Hid (n ^ a' = r) := ⟨_, Lib.hid rfl⟩
            have hr64 : r ≤ 64 := by
              rw [← HR.out]
              calc n ^ a' ≤ 4 ^ a' := Nat.pow_le_pow_left hn4 _
                _ ≤ 4 ^ 3 := Nat.pow_le_pow_right (by omega) ha'
            have hr1 : 1 ≤ r := by rw [← HR.out]; exact Nat.pow_pos (show 0 < n by omega)
            obtain ⟨lo2, hlo2⟩ : ∃ x, x = wx.heap.size := ⟨_, rfl⟩
            have hgq2 : gq < lo2 := by omega
            have hglo2 : g < lo2 := by omega
            have hhl2 : hi ≤ lo2 := by omega
            have hown : wx.ownsRow lo2 3 1 (.slice none 0 0) 0 (ints []) := ⟨rfl, .inl ⟨rfl, rfl⟩⟩
            have hl2w : lo2 ≤ wx.heap.size := by omega
            have cQ0 := BQ.cell 0
            simp at cQ0
            have HPW := Lib.hid (l2Pow_any n a' r wx HR.out (by omega) (by omega))
            clear hlo2 hgqw
            go_wp2_with fail
            refine HPW.out.mono ?_
            rintro e w' ⟨rfl, rfl⟩
            clear HPW cQ0
            go_wp2_with fail
            go_loopw [8] (fun av w2r => ∃ (p m c : Nat) (A : Option Addr) (T : List Int), Hid (p + m = r) ∧ av = .int .i64 p ∧ Blk w2r gq 64 #[.int .i64 (a' : Int), .slice A m c] ∧ w2r.ownsRow lo2 3 1 (.slice A m c) m (ints T) ∧ Hid (T.length = m ∧ ∀ u ∈ T, 0 ≤ u ∧ u ≤ 9) ∧ AlS B g lo hi gA w.heap.size w w2r (n : Int) xs (tq + 2 + 2 * m) ∧ lo2 ≤ w2r.heap.size) (fun av _ => (intOf av).toNat)
            case atStart => exact ⟨r, 0, 0, none, [], Lib.hid (by omega), rfl, BQ, hown, Lib.hid ⟨rfl, fun u hu => by cases hu⟩, hS, hl2w⟩
            case round =>
              clear BQ hown hS hl2w
              obtain ⟨p, m, c, A, T, HPM, rfl, BQ, hown, HT, hS, hzl⟩ := hrel
              have hm64 : m ≤ 64 := by have := HPM.out; omega
              have hp64 : p ≤ 64 := by have := HPM.out; omega
              by_cases hp : 0 < p
              · have hp0 : (0 : Int) < (p : Int) := by omega
                have cQ0 := BQ.cell 0
                have cQ1 := BQ.cell 1
                simp at cQ0 cQ1
                go_upto_region 15 with fail
                refine wp_region_held_drew (S := fun w' => w'.cell? ⟨gq, 0, none⟩ = some (.int .i64 (a' : Int))) (by kernel_rfl) cQ0 (fun hHeld0 => ?_)
                obtain ⟨wt1, Hwt1⟩ : ∃ x, Hid (x = World.drew wr) := ⟨_, rfl⟩
                have hbwt1 : Below wr.heap.size wr wt1 := by rw [Hwt1.out]; exact (Below.refl _ _).drew
                rw [← Hwt1.out] at hHeld0 ⊢
                have ywt1 := hbwt1.size
                replace hS := hS.next hbwt1
                replace BQ := BQ.next hbwt1
                replace hown := own_next hown hbwt1
                replace cQ1 := keepc hbwt1 cQ1
                replace hzl := Nat.le_trans hzl hbwt1.size
                replace cQ0 := keepc hbwt1 cQ0
                refine wpAnyH_take (i := 0) (v := .pointer (some ⟨gq, 1, none⟩)) rfl (by kernel_rfl) (by kernel_rfl) (by kernel_rfl) (fun _ _ _ h => h) (Or.inl ⟨by kernel_rfl, fun _ _ => by go_simp⟩) (by assumption) ?_
                (try simp only [Act.put, List.getElem_toArray, List.getElem_cons_zero, List.getElem_cons_succ, List.setIfInBounds_toArray, List.set_cons_zero, List.set_cons_succ])
                refine wpAnyH_take (i := 2) (v := .pointer (some ⟨g, 0, none⟩)) rfl (by kernel_rfl) (by kernel_rfl) (by kernel_rfl) (fun _ _ _ h => h) (Or.inl ⟨by kernel_rfl, fun _ _ => by go_simp⟩) (by assumption) ?_
                (try simp only [Act.put, List.getElem_toArray, List.getElem_cons_zero, List.getElem_cons_succ, List.setIfInBounds_toArray, List.set_cons_zero, List.set_cons_succ])
                refine wpAnyH_take (i := 3) (v := .int .i64 (n : Int)) rfl (by kernel_rfl) (by kernel_rfl) (by kernel_rfl) (fun _ _ _ h => h) (Or.inl ⟨by kernel_rfl, fun _ _ => by go_simp⟩) (by assumption) ?_
                (try simp only [Act.put, List.getElem_toArray, List.getElem_cons_zero, List.getElem_cons_succ, List.setIfInBounds_toArray, List.set_cons_zero, List.set_cons_succ])
                refine wpAnyH_ready (rs := [1, 4]) (by kernel_rfl) (by simp) ?_
                refine (AllReadyH.cons rfl (fun K hK => ?_) (AllReadyH.cons rfl (fun K hK => ?_) AllReadyH.nil))
                · go_simp
                  refine hK.out _ _ cQ0 (fun hHeld1 => ?_)
                  clear hK K hHeld0
                  (try simp only [Act.put, List.getElem_toArray, List.getElem_cons_zero, List.getElem_cons_succ, List.setIfInBounds_toArray, List.set_cons_zero, List.set_cons_succ])
                  refine wpAnyH_ready (rs := [4]) (by kernel_rfl) (by simp) ?_
                  refine (AllReadyH.cons rfl (fun K hK => ?_) AllReadyH.nil)
                  go_simp
                  refine (pickB_any g (tq + 2 + 2 * m) (n : Int) wt1 hS.cu (by omega) (by omega)).mono ?_
                  rintro e wt2 ⟨v, hv, rfl, hcx, hgx⟩
                  replace hS := hS.cur hgx hcx hgAg hr0g hglo
                  replace BQ := BQ.grownG hgx hgqg
                  replace hown := own_grownG hown hgx hglo2
                  replace cQ0 := BQ.cell 0
                  replace cQ1 := BQ.cell 1
                  simp at cQ0 cQ1
                  replace hzl := Nat.le_trans hzl hgx.size
                  clear hcx hgx
                  go_wp2_with fail
                  refine hK.out _ _ cQ0 (fun hHeld2 => ?_)
                  clear hK K hHeld1
                  (try simp only [Act.put, List.getElem_toArray, List.getElem_cons_zero, List.getElem_cons_succ, List.setIfInBounds_toArray, List.set_cons_zero, List.set_cons_succ])
                  refine wpAnyH_ready (rs := [5]) (by kernel_rfl) (by simp) ?_
                  refine (AllReadyH.cons rfl (fun K hK => ?_) AllReadyH.nil)
                  have hownP := hown
                  have BQP := BQ
                  have hSP := hS
                  have hzP := hzl
                  go_simp
                  obtain ⟨wt3, Hwt3⟩ : ∃ x, Hid (x = wt2.alloc (.cells #[.int .i64 (v : Int)] 3)) := ⟨_, Lib.hid rfl⟩
                  rw [← Hwt3.out]
                  have hbwt3 : Below wt2.heap.size wt2 wt3 := by rw [Hwt3.out]; exact below_box _ _
                  have Bwt3 : Blk wt3 wt2.heap.size 3 #[.int .i64 (v : Int)] := by rw [Hwt3.out]; exact Blk.new _ _ _
                  have zwt3 : wt2.heap.size < wt3.heap.size := Bwt3.lt
                  have ywt3 := hbwt3.size
                  replace hS := hS.next hbwt3
                  replace BQ := BQ.next hbwt3
                  replace hown := own_next hown hbwt3
                  replace cQ1 := keepc hbwt3 cQ1
                  replace hzl := Nat.le_trans hzl hbwt3.size
                  replace cQ0 := keepc hbwt3 cQ0
                  refine hK.out _ _ cQ0 (fun hHeld3 => ?_)
                  clear hK K hHeld2
                  (try simp only [Act.put, List.getElem_toArray, List.getElem_cons_zero, List.getElem_cons_succ, List.setIfInBounds_toArray, List.set_cons_zero, List.set_cons_succ])
                  refine wpAnyH_ready (rs := [6]) (by kernel_rfl) (by simp) ?_
                  refine (AllReadyH.cons rfl (fun K hK => ?_) AllReadyH.nil)
                  rw [Hwt3.out]
                  refine step_app1 wt2 rfl (.tmp 49) (.tmp 53) 27 3 rfl (.int .i64 0) 8 Tryz.underlying27 info_int rfl (by decide) lo2 m c A (ints T) (by rfl) hownP _ rfl (by rfl) (by omega) hzP ?_
                  intro A2 c2 wt4 hown2 hg2 hb2
                  rw [ints_snocG] at hown2
                  have hS2 := hSP.far hg2 (fun r e => by have := (hownP.lt r e).1; omega) (by omega) (by omega) (by omega) (by omega) (by omega)
                  have B2 := BQP.below hb2 hgq2
                  have hz2 : lo2 ≤ wt4.heap.size := Nat.le_trans hzP hb2.size
                  replace cQ0 := B2.cell 0
                  simp at cQ0
                  refine hK.out _ _ cQ0 (fun hHeld4 => ?_)
                  clear hK K hHeld3
                  (try simp only [Act.put, List.getElem_toArray, List.getElem_cons_zero, List.getElem_cons_succ, List.setIfInBounds_toArray, List.set_cons_zero, List.set_cons_succ])
                  refine wpAnyH_take (i := 7) (v := .pointer (some ⟨gq, 1, none⟩)) rfl (by kernel_rfl) (by kernel_rfl) (by kernel_rfl) (fun _ _ _ h => h) (Or.inl ⟨by kernel_rfl, fun _ _ => by go_simp⟩) (by assumption) ?_
                  (try simp only [Act.put, List.getElem_toArray, List.getElem_cons_zero, List.getElem_cons_succ, List.setIfInBounds_toArray, List.set_cons_zero, List.set_cons_succ])
                  refine wpAnyH_ready (rs := [8]) (by kernel_rfl) (by simp) ?_
                  refine (AllReadyH.cons rfl (fun K hK => ?_) AllReadyH.nil)
                  have f21 := B2.frozen 1
                  have c21 := B2.cell 1
                  simp at c21
                  go_simp
                  obtain ⟨wt5, Hwt5⟩ : ∃ x, Hid (x = wt4.setCell ⟨gq, 1, none⟩ (.slice A2 (m + 1) c2)) := ⟨_, Lib.hid rfl⟩
                  rw [← Hwt5.out]
                  have B3 : Blk wt5 gq 64 #[.int .i64 (a' : Int), .slice A2 (m + 1) c2] := by rw [Hwt5.out]; simpa using B2.set_ 1 (.slice A2 (m + 1) c2)
                  have hS3 : AlS B g lo hi gA w.heap.size w wt5 (n : Int) xs (tq + 2 + 2 * m + 2) := by rw [Hwt5.out]; exact hS2.far (row := some gq) ⟨rfl, rfl, rfl, by simp, fun b hb hne => Below.heap_setCell _ _ _ b (fun e => hne (by rw [e]))⟩ (fun r e => by injection e with e; omega) (by omega) (by omega) (by omega) (by omega) (by omega)
                  have hown3 : wt5.ownsRow lo2 3 1 (.slice A2 (m + 1) c2) (m + 1) (ints (T ++ [(v : Int)])) := by rw [Hwt5.out]; exact own_same hown2 fun b hb => Below.heap_setCell _ _ _ _ (fun e => by have := (hown2.lt b hb).1; rw [e] at this; simp at this; omega)
                  have hz3 : lo2 ≤ wt5.heap.size := by rw [Hwt5.out]; simpa using hz2
                  replace cQ0 := B3.cell 0
                  simp at cQ0
                  refine hK.out _ _ cQ0 (fun hHeld5 => ?_)
                  clear hK K hHeld4
                  (try simp only [Act.put, List.getElem_toArray, List.getElem_cons_zero, List.getElem_cons_succ, List.setIfInBounds_toArray, List.set_cons_zero, List.set_cons_succ])
                  refine wpAnyH_done (by kernel_rfl) ?_ _
                  have HT2 : Hid ((T ++ [(v : Int)]).length = m + 1 ∧ ∀ u ∈ T ++ [(v : Int)], 0 ≤ u ∧ u ≤ 9) := by
                    refine ⟨by rw [List.length_append, HT.out.1]; rfl, fun u hu => ?_⟩
                    rcases List.mem_append.1 hu with hu | hu
                    · exact HT.out.2 u hu
                    · rw [List.mem_singleton.1 hu]; omega
                  go_wp2_with fail
                  go_roundw
                  case rel => exact ⟨p - 1, m + 1, c2, A2, T ++ [(v : Int)], (by have := HPM.out; show p - 1 + (m + 1) = r; omega), by go_num, B3, hown3, HT2, hS3.mono (by omega), hz3⟩
                  case measure => simp [intOf]; omega
                · go_simp
                  refine (pickB_any g (tq + 2 + 2 * m) (n : Int) wt1 hS.cu (by omega) (by omega)).mono ?_
                  rintro e wt6 ⟨v, hv, rfl, hcx, hgx⟩
                  replace hS := hS.cur hgx hcx hgAg hr0g hglo
                  replace BQ := BQ.grownG hgx hgqg
                  replace hown := own_grownG hown hgx hglo2
                  replace cQ0 := BQ.cell 0
                  replace cQ1 := BQ.cell 1
                  simp at cQ0 cQ1
                  replace hzl := Nat.le_trans hzl hgx.size
                  clear hcx hgx
                  go_wp2_with fail
                  refine hK.out _ _ cQ0 (fun hHeld1 => ?_)
                  clear hK K hHeld0
                  (try simp only [Act.put, List.getElem_toArray, List.getElem_cons_zero, List.getElem_cons_succ, List.setIfInBounds_toArray, List.set_cons_zero, List.set_cons_succ])
                  refine wpAnyH_ready (rs := [1, 5]) (by kernel_rfl) (by simp) ?_
                  refine (AllReadyH.cons rfl (fun K hK => ?_) (AllReadyH.cons rfl (fun K hK => ?_) AllReadyH.nil))
                  · go_simp
                    refine hK.out _ _ cQ0 (fun hHeld2 => ?_)
                    clear hK K hHeld1
                    (try simp only [Act.put, List.getElem_toArray, List.getElem_cons_zero, List.getElem_cons_succ, List.setIfInBounds_toArray, List.set_cons_zero, List.set_cons_succ])
                    refine wpAnyH_ready (rs := [5]) (by kernel_rfl) (by simp) ?_
                    refine (AllReadyH.cons rfl (fun K hK => ?_) AllReadyH.nil)
                    have hownP := hown
                    have BQP := BQ
                    have hSP := hS
                    have hzP := hzl
                    go_simp
                    obtain ⟨wt7, Hwt7⟩ : ∃ x, Hid (x = wt6.alloc (.cells #[.int .i64 (v : Int)] 3)) := ⟨_, Lib.hid rfl⟩
                    rw [← Hwt7.out]
                    have hbwt7 : Below wt6.heap.size wt6 wt7 := by rw [Hwt7.out]; exact below_box _ _
                    have Bwt7 : Blk wt7 wt6.heap.size 3 #[.int .i64 (v : Int)] := by rw [Hwt7.out]; exact Blk.new _ _ _
                    have zwt7 : wt6.heap.size < wt7.heap.size := Bwt7.lt
                    have ywt7 := hbwt7.size
                    replace hS := hS.next hbwt7
                    replace BQ := BQ.next hbwt7
                    replace hown := own_next hown hbwt7
                    replace cQ1 := keepc hbwt7 cQ1
                    replace hzl := Nat.le_trans hzl hbwt7.size
                    replace cQ0 := keepc hbwt7 cQ0
                    refine hK.out _ _ cQ0 (fun hHeld3 => ?_)
                    clear hK K hHeld2
                    (try simp only [Act.put, List.getElem_toArray, List.getElem_cons_zero, List.getElem_cons_succ, List.setIfInBounds_toArray, List.set_cons_zero, List.set_cons_succ])
                    refine wpAnyH_ready (rs := [6]) (by kernel_rfl) (by simp) ?_
                    refine (AllReadyH.cons rfl (fun K hK => ?_) AllReadyH.nil)
                    rw [Hwt7.out]
                    refine step_app1 wt6 rfl (.tmp 49) (.tmp 53) 27 3 rfl (.int .i64 0) 8 Tryz.underlying27 info_int rfl (by decide) lo2 m c A (ints T) (by rfl) hownP _ rfl (by rfl) (by omega) hzP ?_
                    intro A2 c2 wt8 hown2 hg2 hb2
                    rw [ints_snocG] at hown2
                    have hS2 := hSP.far hg2 (fun r e => by have := (hownP.lt r e).1; omega) (by omega) (by omega) (by omega) (by omega) (by omega)
                    have B2 := BQP.below hb2 hgq2
                    have hz2 : lo2 ≤ wt8.heap.size := Nat.le_trans hzP hb2.size
                    replace cQ0 := B2.cell 0
                    simp at cQ0
                    refine hK.out _ _ cQ0 (fun hHeld4 => ?_)
                    clear hK K hHeld3
                    (try simp only [Act.put, List.getElem_toArray, List.getElem_cons_zero, List.getElem_cons_succ, List.setIfInBounds_toArray, List.set_cons_zero, List.set_cons_succ])
                    refine wpAnyH_take (i := 7) (v := .pointer (some ⟨gq, 1, none⟩)) rfl (by kernel_rfl) (by kernel_rfl) (by kernel_rfl) (fun _ _ _ h => h) (Or.inl ⟨by kernel_rfl, fun _ _ => by go_simp⟩) (by assumption) ?_
                    (try simp only [Act.put, List.getElem_toArray, List.getElem_cons_zero, List.getElem_cons_succ, List.setIfInBounds_toArray, List.set_cons_zero, List.set_cons_succ])
                    refine wpAnyH_ready (rs := [8]) (by kernel_rfl) (by simp) ?_
                    refine (AllReadyH.cons rfl (fun K hK => ?_) AllReadyH.nil)
                    have f21 := B2.frozen 1
                    have c21 := B2.cell 1
                    simp at c21
                    go_simp
                    obtain ⟨wt9, Hwt9⟩ : ∃ x, Hid (x = wt8.setCell ⟨gq, 1, none⟩ (.slice A2 (m + 1) c2)) := ⟨_, Lib.hid rfl⟩
                    rw [← Hwt9.out]
                    have B3 : Blk wt9 gq 64 #[.int .i64 (a' : Int), .slice A2 (m + 1) c2] := by rw [Hwt9.out]; simpa using B2.set_ 1 (.slice A2 (m + 1) c2)
                    have hS3 : AlS B g lo hi gA w.heap.size w wt9 (n : Int) xs (tq + 2 + 2 * m + 2) := by rw [Hwt9.out]; exact hS2.far (row := some gq) ⟨rfl, rfl, rfl, by simp, fun b hb hne => Below.heap_setCell _ _ _ b (fun e => hne (by rw [e]))⟩ (fun r e => by injection e with e; omega) (by omega) (by omega) (by omega) (by omega) (by omega)
                    have hown3 : wt9.ownsRow lo2 3 1 (.slice A2 (m + 1) c2) (m + 1) (ints (T ++ [(v : Int)])) := by rw [Hwt9.out]; exact own_same hown2 fun b hb => Below.heap_setCell _ _ _ _ (fun e => by have := (hown2.lt b hb).1; rw [e] at this; simp at this; omega)
                    have hz3 : lo2 ≤ wt9.heap.size := by rw [Hwt9.out]; simpa using hz2
                    replace cQ0 := B3.cell 0
                    simp at cQ0
                    refine hK.out _ _ cQ0 (fun hHeld5 => ?_)
                    clear hK K hHeld4
                    (try simp only [Act.put, List.getElem_toArray, List.getElem_cons_zero, List.getElem_cons_succ, List.setIfInBounds_toArray, List.set_cons_zero, List.set_cons_succ])
                    refine wpAnyH_done (by kernel_rfl) ?_ _
                    have HT2 : Hid ((T ++ [(v : Int)]).length = m + 1 ∧ ∀ u ∈ T ++ [(v : Int)], 0 ≤ u ∧ u ≤ 9) := by
                      refine ⟨by rw [List.length_append, HT.out.1]; rfl, fun u hu => ?_⟩
                      rcases List.mem_append.1 hu with hu | hu
                      · exact HT.out.2 u hu
                      · rw [List.mem_singleton.1 hu]; omega
                    go_wp2_with fail
                    go_roundw
                    case rel => exact ⟨p - 1, m + 1, c2, A2, T ++ [(v : Int)], (by have := HPM.out; show p - 1 + (m + 1) = r; omega), by go_num, B3, hown3, HT2, hS3.mono (by omega), hz3⟩
                    case measure => simp [intOf]; omega
                  · have hownP := hown
                    have BQP := BQ
                    have hSP := hS
                    have hzP := hzl
                    go_simp
                    obtain ⟨wt10, Hwt10⟩ : ∃ x, Hid (x = wt6.alloc (.cells #[.int .i64 (v : Int)] 3)) := ⟨_, Lib.hid rfl⟩
                    rw [← Hwt10.out]
                    have hbwt10 : Below wt6.heap.size wt6 wt10 := by rw [Hwt10.out]; exact below_box _ _
                    have Bwt10 : Blk wt10 wt6.heap.size 3 #[.int .i64 (v : Int)] := by rw [Hwt10.out]; exact Blk.new _ _ _
                    have zwt10 : wt6.heap.size < wt10.heap.size := Bwt10.lt
                    have ywt10 := hbwt10.size
                    replace hS := hS.next hbwt10
                    replace BQ := BQ.next hbwt10
                    replace hown := own_next hown hbwt10
                    replace cQ1 := keepc hbwt10 cQ1
                    replace hzl := Nat.le_trans hzl hbwt10.size
                    replace cQ0 := keepc hbwt10 cQ0
                    refine hK.out _ _ cQ0 (fun hHeld2 => ?_)
                    clear hK K hHeld1
                    (try simp only [Act.put, List.getElem_toArray, List.getElem_cons_zero, List.getElem_cons_succ, List.setIfInBounds_toArray, List.set_cons_zero, List.set_cons_succ])
                    refine wpAnyH_ready (rs := [1]) (by kernel_rfl) (by simp) ?_
                    refine (AllReadyH.cons rfl (fun K hK => ?_) AllReadyH.nil)
                    go_simp
                    refine hK.out _ _ cQ0 (fun hHeld3 => ?_)
                    clear hK K hHeld2
                    (try simp only [Act.put, List.getElem_toArray, List.getElem_cons_zero, List.getElem_cons_succ, List.setIfInBounds_toArray, List.set_cons_zero, List.set_cons_succ])
                    refine wpAnyH_ready (rs := [6]) (by kernel_rfl) (by simp) ?_
                    refine (AllReadyH.cons rfl (fun K hK => ?_) AllReadyH.nil)
                    rw [Hwt10.out]
                    refine step_app1 wt6 rfl (.tmp 49) (.tmp 53) 27 3 rfl (.int .i64 0) 8 Tryz.underlying27 info_int rfl (by decide) lo2 m c A (ints T) (by rfl) hownP _ rfl (by rfl) (by omega) hzP ?_
                    intro A2 c2 wt11 hown2 hg2 hb2
                    rw [ints_snocG] at hown2
                    have hS2 := hSP.far hg2 (fun r e => by have := (hownP.lt r e).1; omega) (by omega) (by omega) (by omega) (by omega) (by omega)
                    have B2 := BQP.below hb2 hgq2
                    have hz2 : lo2 ≤ wt11.heap.size := Nat.le_trans hzP hb2.size
                    replace cQ0 := B2.cell 0
                    simp at cQ0
                    refine hK.out _ _ cQ0 (fun hHeld4 => ?_)
                    clear hK K hHeld3
                    (try simp only [Act.put, List.getElem_toArray, List.getElem_cons_zero, List.getElem_cons_succ, List.setIfInBounds_toArray, List.set_cons_zero, List.set_cons_succ])
                    refine wpAnyH_take (i := 7) (v := .pointer (some ⟨gq, 1, none⟩)) rfl (by kernel_rfl) (by kernel_rfl) (by kernel_rfl) (fun _ _ _ h => h) (Or.inl ⟨by kernel_rfl, fun _ _ => by go_simp⟩) (by assumption) ?_
                    (try simp only [Act.put, List.getElem_toArray, List.getElem_cons_zero, List.getElem_cons_succ, List.setIfInBounds_toArray, List.set_cons_zero, List.set_cons_succ])
                    refine wpAnyH_ready (rs := [8]) (by kernel_rfl) (by simp) ?_
                    refine (AllReadyH.cons rfl (fun K hK => ?_) AllReadyH.nil)
                    have f21 := B2.frozen 1
                    have c21 := B2.cell 1
                    simp at c21
                    go_simp
                    obtain ⟨wt12, Hwt12⟩ : ∃ x, Hid (x = wt11.setCell ⟨gq, 1, none⟩ (.slice A2 (m + 1) c2)) := ⟨_, Lib.hid rfl⟩
                    rw [← Hwt12.out]
                    have B3 : Blk wt12 gq 64 #[.int .i64 (a' : Int), .slice A2 (m + 1) c2] := by rw [Hwt12.out]; simpa using B2.set_ 1 (.slice A2 (m + 1) c2)
                    have hS3 : AlS B g lo hi gA w.heap.size w wt12 (n : Int) xs (tq + 2 + 2 * m + 2) := by rw [Hwt12.out]; exact hS2.far (row := some gq) ⟨rfl, rfl, rfl, by simp, fun b hb hne => Below.heap_setCell _ _ _ b (fun e => hne (by rw [e]))⟩ (fun r e => by injection e with e; omega) (by omega) (by omega) (by omega) (by omega) (by omega)
                    have hown3 : wt12.ownsRow lo2 3 1 (.slice A2 (m + 1) c2) (m + 1) (ints (T ++ [(v : Int)])) := by rw [Hwt12.out]; exact own_same hown2 fun b hb => Below.heap_setCell _ _ _ _ (fun e => by have := (hown2.lt b hb).1; rw [e] at this; simp at this; omega)
                    have hz3 : lo2 ≤ wt12.heap.size := by rw [Hwt12.out]; simpa using hz2
                    replace cQ0 := B3.cell 0
                    simp at cQ0
                    refine hK.out _ _ cQ0 (fun hHeld5 => ?_)
                    clear hK K hHeld4
                    (try simp only [Act.put, List.getElem_toArray, List.getElem_cons_zero, List.getElem_cons_succ, List.setIfInBounds_toArray, List.set_cons_zero, List.set_cons_succ])
                    refine wpAnyH_done (by kernel_rfl) ?_ _
                    have HT2 : Hid ((T ++ [(v : Int)]).length = m + 1 ∧ ∀ u ∈ T ++ [(v : Int)], 0 ≤ u ∧ u ≤ 9) := by
                      refine ⟨by rw [List.length_append, HT.out.1]; rfl, fun u hu => ?_⟩
                      rcases List.mem_append.1 hu with hu | hu
                      · exact HT.out.2 u hu
                      · rw [List.mem_singleton.1 hu]; omega
                    go_wp2_with fail
                    go_roundw
                    case rel => exact ⟨p - 1, m + 1, c2, A2, T ++ [(v : Int)], (by have := HPM.out; show p - 1 + (m + 1) = r; omega), by go_num, B3, hown3, HT2, hS3.mono (by omega), hz3⟩
                    case measure => simp [intOf]; omega
              · obtain rfl : p = 0 := by omega
                have hp0 : ¬ (0 : Int) < ((0 : Nat) : Int) := by omega
                obtain rfl : m = r := by have := HPM.out; omega
                obtain ⟨A1, n1, c1, css, bls, BA, PX, BR0, hcu, hgr, hI, l1, l2⟩ := hS
                obtain rfl : n1 = xs.length := by
                  rcases PX.2.1.2 with ⟨e, h0⟩ | ⟨g', cap, cur, e, -⟩
                  · injection e with e1 e2 e3; omega
                  · injection e with e1 e2 e3
                have hxl : xs.length ≤ 2 := by have := HX.out.1; omega
                have hoo := own_opF (w := wr) (a := (a' : Int)) ⟨by omega, by omega⟩ HT.out.1 hown fun u hu => by have := HT.out.2 u hu; exact ⟨by omega, by omega⟩
                have HPU : Hid (∀ (w2 : World) (v' : Value), w2.ownsRow lo 64 2 v' (xs.length + 1) (css.flatten ++ [.int .i64 (a' : Int), .slice A m c]) → wr.grownBy w2 (Value.slice A1 xs.length c1).ownBlock → PO lo w2 v' (xs ++ [((a' : Int), T)]) (css ++ [[.int .i64 (a' : Int), .slice A m c]]) (bls ++ [obl (.slice A m c)])) := fun w2 v' q1 q2 => PX.push2 hI hoo.1 (hoo.2.mono hhl2 (Nat.le_refl _)) l1 q1 q2
                have cQ0 := BQ.cell 0
                have cQ1 := BQ.cell 1
                have cA1 := BA.cell 1
                simp at cQ0 cQ1 cA1
                have hlw : lo ≤ wr.heap.size := by omega
                have hrow := PX.2.1
                have HRW : Hid (∀ r', (Value.slice A1 xs.length c1).ownBlock = some r' → lo ≤ r') := fun r' e => (PX.2.1.lt r' e).1
                obtain ⟨LL, HLL⟩ : ∃ x, Hid (xs.length = x) := ⟨_, Lib.hid rfl⟩
                have hll : LL ≤ 2 := by rw [← HLL.out]; exact hxl
                rw [HLL.out] at hrow cA1 BA HRW
                clear hoo PX hxl
                go_wp2_with (at_builtin; refine app2 wr rfl _ _ 24 64 rfl (.agg #[.int .i64 0, .slice none 0 0]) 32 Tryz.underlying24 info_op2 rfl (by decide) lo LL c1 A1 css.flatten rfl hrow (.int .i64 (a' : Int)) (.slice A m c) rfl rfl rfl (by omega) hlw ?_; intro A3 c3 w3 hown3 hg3 hb3; have BA3 := BA.below hb3 hgAl; have cA13 := BA3.cell 1; simp at cA13; have fA13 := BA3.frozen 1)
                have hz33 := hb3.size
                have PX2 := HPU.out w3 (.slice A3 (LL + 1) c3) (by rw [HLL.out]; exact hown3) (by rw [HLL.out]; exact hg3)
                have PX3 := PX2.far (p := ⟨gA, 1, none⟩) (by exact hgAl) (.slice A3 (LL + 1) c3)
                have BA4 : Blk (w3.setCell ⟨gA, 1, none⟩ (.slice A3 (LL + 1) c3)) gA 26 #[.int .i64 (n : Int), .slice A3 (LL + 1) c3] := by simpa using BA3.set_ 1 (.slice A3 (LL + 1) c3)
                have BR4 := (BR0.below hb3 hwlo).far (p := ⟨gA, 1, none⟩) (by exact hwgA) (.slice A3 (LL + 1) c3)
                have hcu4 := (hcu.grown hg3 (fun r' e => by have := HRW.out r' e; omega)).setFar (p := ⟨gA, 1, none⟩) (by exact hBgA) (by exact hgAg) (.slice A3 (LL + 1) c3)
                have hgr4 := growB_new (growB_own hgr hg3 (fun r' e => by have := HRW.out r' e; omega)) (p := ⟨gA, 1, none⟩) (by exact hwgA2) (.slice A3 (LL + 1) c3)
                have hS4 : AlS B g lo w3.heap.size gA w.heap.size w (w3.setCell ⟨gA, 1, none⟩ (.slice A3 (LL + 1) c3)) (n : Int) (xs ++ [((a' : Int), T)]) (tq + 2 + 2 * m) := ⟨A3, LL + 1, c3, _, _, BA4, PX3, BR4, hcu4, hgr4, PX2.2.2, by omega, by simp⟩
                have HX2 : Hid ((xs ++ [((a' : Int), T)]).length + (q - 1) = k0 ∧ OpsQ (xs ++ [((a' : Int), T)])) := by
                  refine ⟨by have := HX.out.1; rw [List.length_append, List.length_singleton]; omega, fun o ho => ?_⟩
                  rcases List.mem_append.1 ho with ho | ho
                  · exact HX.out.2 o ho
                  · rw [List.mem_singleton.1 ho]
                    have := HT.out.1
                    exact ⟨by show (0 : Int) ≤ (a' : Int); omega, by show (a' : Int) ≤ 3; omega, by show 1 ≤ T.length; omega, by show T.length ≤ 64; omega⟩
                have HS4 := Lib.hid hS4
                clear hS4 PX2 PX3 BA4 BR4 hcu4 hgr4 BA3 cA13 fA13 hown3 hg3 hb3 hrow cQ0 cQ1 cA1 BQ BA BR0 hcu hgr hown
                go_wp2_with fail
                go_roundw
                case rel => exact ⟨q - 1, xs ++ [((a' : Int), T)], w3.heap.size, by omega, by go_num, HS4.out.mono (by have := HTQ.out; omega), HX2⟩
                case measure => simp [intOf]; omega
      · obtain rfl : q = 0 := by omega
        have hq0 : ¬ (0 : Int) < ((0 : Nat) : Int) := by omega
        obtain ⟨tq, HTQ⟩ : ∃ x, Hid (t6 + 150 * (k0 - 0) = x) := ⟨_, Lib.hid rfl⟩
        rw [HTQ.out] at hS
        have htq : tq ≤ 999901000 := by have := HTQ.out; omega
        have HTT : Hid (tq + 600 ≤ t + 2000) := by have := HTQ.out; have := HT6.out; show tq + 600 ≤ t + 2000; omega
        have HPK := Lib.hid (pickB_any g tq 16 wr hS.cu (by omega) (by omega))
        go_wp2_with fail
        refine HPK.out.mono ?_
        rintro e w2 ⟨v, hv, rfl, hc2, hg2⟩
        have hS2 := hS.cur hg2 hc2 hgAg hr0g hglo
        have hz2 := hg2.size
        clear HPK hS hc2 hg2 hv
        go_upto_block 4 with fail
        go_cut [] from 64 to 130 (fun wx => ∃ (z : Int) (xs : List OpM) (hi : Nat), AlS B g lo hi gA w.heap.size w wx z xs (t + 2000) ∧ AlgQ5 (z, xs))
        case first =>
          rcases (by omega : v = 0 ∨ v = 1 ∨ v = 2 ∨ v = 3 ∨ v = 4 ∨ 4 < v) with hv | hv | hv | hv | hv | hv
          · -- another size
            subst hv
            obtain ⟨w3, HW3⟩ : ∃ wb, Hid (wb = w2.alloc (.cells #[.int .i64 0, .int .i64 9, .int .i64 ((n : Int) + 1)] 3)) := ⟨_, Lib.hid rfl⟩
            have hb3 : Below w2.heap.size w2 w3 := by rw [HW3.out]; exact below_box _ _
            have hgw2 : g < w2.heap.size := by have := hS2.cu.lt; exact this
            have hnum : NumsP (fun x => 0 ≤ x ∧ (x ≤ 5 ∨ x = 9)) w3 g w2.heap.size 3 := by rw [HW3.out]; exact numsL _ [0, 9, (n : Int) + 1] w2 g hgw2 (by simp) (by simp) (by intro x hx; simp at hx; omega) rfl
            have hS3 := hS2.next hb3
            have HAM := Lib.hid (amongB_any g (tq + 2) w2.heap.size 3 3 w3 hS3.cu (by omega) _ hnum)
            have hwn : IntKind.i64.wrap ((n : Int) + 1) = (n : Int) + 1 := by rw [IntKind.wrap_i64]; omega
            clear hnum hS2
            go_wp2_with fail
            rw [← HW3.out]
            refine HAM.out.mono ?_
            rintro e w4 ⟨z, hzv, rfl, hc4, hg4⟩
            have hS4 := hS3.cur hg4 hc4 hgAg hr0g hglo
            have HS5 := Lib.hid (hS4.setZ (z' := z) hgAl hwgA hBgA hgAg hwgA2)
            have HQ : Hid (AlgQ5 (z, xs)) := opsQ_alg5 HX.out.2 (by have := HX.out.1; omega) hzv.1 hzv.2
            obtain ⟨A1, n1, c1, css, bls, BA, -⟩ := hS4
            have cA0 := BA.cell 0
            simp at cA0
            have fA0 := BA.frozen 0
            clear HAM hS3 hc4 hg4 BA hwn
            go_wp2_with fail
            go_meet
            exact ⟨z, xs, hi, HS5.out.mono (by have := HTT.out; omega), HQ.out⟩
          · -- too long a table
            subst hv
            obtain ⟨⟨a, T⟩, rest, rfl⟩ : ∃ x l, xs = x :: l := by
              cases xs with
              | nil => have := HX.out.1; simp at this; omega
              | cons x l => exact ⟨x, l, rfl⟩
            have hOQ := HX.out.2
            have hTl := (hOQ _ (List.mem_cons_self ..)).2.2
            have hrl : rest.length ≤ 1 := by have := HX.out.1; rw [List.length_cons] at this; omega
            have HRS : Hid (∀ o ∈ rest, o.2.length ≤ 1000) := fun o ho => by have := (hOQ o (List.mem_cons_of_mem _ ho)).2.2.2; omega
            obtain ⟨go, c, TA, cT, css, BA, BR0, hcu, hgr, hgo, hgw, hops, htab, hia, hiT, hne, hput⟩ := hS2.el0
            have HPUT := Lib.hid hput
            have HIT := Lib.hid hiT
            obtain ⟨LL, HLL⟩ : ∃ x, Hid (rest.length + 1 = x) := ⟨_, Lib.hid rfl⟩
            obtain ⟨tl, HTL⟩ : ∃ x, Hid (T.length = x) := ⟨_, Lib.hid rfl⟩
            have htl : 1 ≤ tl ∧ tl ≤ 64 := by rw [← HTL.out]; exact hTl
            have hLL : 1 ≤ LL ∧ LL ≤ 2 := by have := HLL.out; omega
            rw [HLL.out] at BA hops HPUT
            rw [HTL.out] at htab hops hne HPUT
            have hLL0 : ¬ LL = 0 := by omega
            have hLL1 : (0 : Int) < (LL : Int) := by omega
            have hgf : w2.grownBy w2 (some g) := grown_reflB _ _
            have hgog : go ≠ g := by omega
            have hBgo : B ≤ go := by omega
            have hgAgo : gA ≠ go := by omega
            have hr0go : w.heap.size ≠ go := by omega
            have hwgo : w.heap.size ≤ go := by omega
            have cA1 := BA.cell 1
            simp at cA1
            have cO0 := hops.cellAt 0 (by omega)
            have cO1 := hops.cellAt 1 (by omega)
            simp at cO0 cO1
            clear hput hiT hOQ hTl hS2 HX
            obtain ⟨tb, rfl, htb, htc⟩ := own_form htab (by omega)
            have htbgo : tb ≠ go := fun e => hne (by simp [Value.ownBlock, e])
            have hgAtb : gA ≠ tb := by omega
            have hr0tb : w.heap.size ≠ tb := by omega
            have hBtb : B ≤ tb := by omega
            have htbg : tb ≠ g := by omega
            have hwtb : w.heap.size ≤ tb := by omega
            go_upto_region 21 with fail
            refine wp_region_held_drew (S := fun w' => w'.cell? ⟨gA, 1, none⟩ = some (.slice (some ⟨go, 0, none⟩) LL c)) (by kernel_rfl) cA1 (fun hHeld0 => ?_)
            obtain ⟨wt1, Hwt1⟩ : ∃ x, Hid (x = World.drew w2) := ⟨_, rfl⟩
            have hbwt1 : Below w2.heap.size w2 wt1 := by rw [Hwt1.out]; exact (Below.refl _ _).drew
            rw [← Hwt1.out] at hHeld0 ⊢
            have ywt1 := hbwt1.size
            replace BA := BA.next hbwt1
            replace BR0 := BR0.next hbwt1
            replace hops := own_next hops hbwt1
            replace htab := own_next htab hbwt1
            replace hcu := hcu.next_ hbwt1
            replace hgr := growB_trans hgr (toGr hbwt1)
            replace hgf := growB_trans hgf (toGr hbwt1)
            replace cO0 := keepc hbwt1 cO0
            replace cO1 := keepc hbwt1 cO1
            replace cA1 := keepc hbwt1 cA1
            refine wpAnyH_take (i := 0) (v := .pointer (some ⟨gA, 1, none⟩)) rfl (by kernel_rfl) (by kernel_rfl) (by kernel_rfl) (fun _ _ _ h => h) (Or.inl ⟨by kernel_rfl, fun _ _ => by go_simp⟩) (by assumption) ?_
            (try simp only [Act.put, List.getElem_toArray, List.getElem_cons_zero, List.getElem_cons_succ, List.setIfInBounds_toArray, List.set_cons_zero, List.set_cons_succ])
            refine wpAnyH_take (i := 1) (v := .slice (some ⟨go, 0, none⟩) LL c) rfl (by kernel_rfl) (by kernel_rfl) (by kernel_rfl) (fun _ _ _ h => h) (Or.inl ⟨by kernel_rfl, fun wv hSw => by (have hS0 := hSw); go_simp⟩) (by assumption) ?_
            (try simp only [Act.put, List.getElem_toArray, List.getElem_cons_zero, List.getElem_cons_succ, List.setIfInBounds_toArray, List.set_cons_zero, List.set_cons_succ])
            refine wpAnyH_take (i := 2) (v := .pointer (some ⟨gA, 1, none⟩)) rfl (by kernel_rfl) (by kernel_rfl) (by kernel_rfl) (fun _ _ _ h => h) (Or.inl ⟨by kernel_rfl, fun _ _ => by go_simp⟩) (by assumption) ?_
            (try simp only [Act.put, List.getElem_toArray, List.getElem_cons_zero, List.getElem_cons_succ, List.setIfInBounds_toArray, List.set_cons_zero, List.set_cons_succ])
            refine wpAnyH_take (i := 3) (v := .slice (some ⟨go, 0, none⟩) LL c) rfl (by kernel_rfl) (by kernel_rfl) (by kernel_rfl) (fun _ _ _ h => h) (Or.inl ⟨by kernel_rfl, fun wv hSw => by (have hS0 := hSw); go_simp⟩) (by assumption) ?_
            (try simp only [Act.put, List.getElem_toArray, List.getElem_cons_zero, List.getElem_cons_succ, List.setIfInBounds_toArray, List.set_cons_zero, List.set_cons_succ])
            refine wpAnyH_take (i := 4) (v := .pointer (some ⟨go, 0, none⟩)) rfl (by kernel_rfl) (by kernel_rfl) (by kernel_rfl) (fun _ _ _ h => h) (Or.inl ⟨by kernel_rfl, fun _ _ => by go_simp⟩) (by assumption) ?_
            (try simp only [Act.put, List.getElem_toArray, List.getElem_cons_zero, List.getElem_cons_succ, List.setIfInBounds_toArray, List.set_cons_zero, List.set_cons_succ])
            refine wpAnyH_take (i := 5) (v := .pointer (some ⟨go, 1, none⟩)) rfl (by kernel_rfl) (by kernel_rfl) (by kernel_rfl) (fun _ _ _ h => h) (Or.inl ⟨by kernel_rfl, fun _ _ => by go_simp⟩) (by assumption) ?_
            (try simp only [Act.put, List.getElem_toArray, List.getElem_cons_zero, List.getElem_cons_succ, List.setIfInBounds_toArray, List.set_cons_zero, List.set_cons_succ])
            refine wpAnyH_ready (rs := [6, 7]) (by kernel_rfl) (by simp) ?_
            refine (AllReadyH.cons rfl (fun K hK => ?_) (AllReadyH.cons rfl (fun K hK => ?_) AllReadyH.nil))
            · go_simp
              refine hK.out _ _ cA1 (fun hHeld1 => ?_)
              clear hK K hHeld0
              (try simp only [Act.put, List.getElem_toArray, List.getElem_cons_zero, List.getElem_cons_succ, List.setIfInBounds_toArray, List.set_cons_zero, List.set_cons_succ])
              refine wpAnyH_ready (rs := [7]) (by kernel_rfl) (by simp) ?_
              refine (AllReadyH.cons rfl (fun K hK => ?_) AllReadyH.nil)
              have htabP := htab
              have hopsP := hops
              have BAP := BA
              have BRP := BR0
              have hcuP := hcu
              have hgrP := hgr
              have hgfP := hgf
              have hloP : lo ≤ wt1.heap.size := by have := hgf.size; omega
              go_simp
              obtain ⟨wt2, Hwt2⟩ : ∃ x, Hid (x = wt1.alloc (.cells #[.int .i64 0] 3)) := ⟨_, Lib.hid rfl⟩
              rw [← Hwt2.out]
              have hbwt2 : Below wt1.heap.size wt1 wt2 := by rw [Hwt2.out]; exact below_box _ _
              have Bwt2 : Blk wt2 wt1.heap.size 3 #[.int .i64 0] := by rw [Hwt2.out]; exact Blk.new _ _ _
              have zwt2 : wt1.heap.size < wt2.heap.size := Bwt2.lt
              have ywt2 := hbwt2.size
              replace BA := BA.next hbwt2
              replace BR0 := BR0.next hbwt2
              replace hops := own_next hops hbwt2
              replace htab := own_next htab hbwt2
              replace hcu := hcu.next_ hbwt2
              replace hgr := growB_trans hgr (toGr hbwt2)
              replace hgf := growB_trans hgf (toGr hbwt2)
              replace cO0 := keepc hbwt2 cO0
              replace cO1 := keepc hbwt2 cO1
              replace cA1 := keepc hbwt2 cA1
              refine hK.out _ _ cA1 (fun hHeld2 => ?_)
              clear hK K hHeld1
              (try simp only [Act.put, List.getElem_toArray, List.getElem_cons_zero, List.getElem_cons_succ, List.setIfInBounds_toArray, List.set_cons_zero, List.set_cons_succ])
              refine wpAnyH_ready (rs := [8]) (by kernel_rfl) (by simp) ?_
              refine (AllReadyH.cons rfl (fun K hK => ?_) AllReadyH.nil)
              rw [Hwt2.out]
              refine step_app1at wt1 rfl (.tmp 80) (.tmp 81) 27 3 rfl (.int .i64 0) 8 Tryz.underlying27 info_int rfl (by decide) lo tl cT (some ⟨tb, 0, none⟩) (ints T) (by rfl) htabP _ rfl (by rfl) (by omega) hloP ?_
              intro A2 c2 wt3 hown2 hg2 hb2 hat
              rw [ints_snocG] at hown2
              have hne2 : ∀ r', (Value.slice (some ⟨tb, 0, none⟩) tl cT).ownBlock = some r' → r' = tb := fun r' e => by simp [Value.ownBlock] at e; exact e.symm
              have BA2 := BAP.below hb2 hgAl
              have BR2 := BRP.below hb2 hwlo
              have hcu2 := hcuP.grown hg2 (fun r' e => by have := hne2 r' e; omega)
              have hgr2 := growB_own hgrP hg2 (fun r' e => by have := hne2 r' e; omega)
              have hops2 := own_same hopsP (fun b hb => hg2.block b (hopsP.lt b hb).2 (fun e => by simp [Value.ownBlock] at hb; have := hne2 b e.symm; omega)) (w' := wt3)
              have hfar2 : ∀ b, b < w2.heap.size → b ≠ g → b ≠ tb → wt3.heap[b]? = w2.heap[b]? := fun b q1 q2 q3 => (hg2.block b (Nat.lt_of_lt_of_le q1 hgfP.size) (fun e => q3 (hne2 b e.symm))).trans (hgfP.block b q1 (fun e => q2 (by injection e)))
              have hz2 := hg2.size
              have hgfz := hgfP.size
              replace cA1 := BA2.cell 1
              simp at cA1
              refine hK.out _ _ cA1 (fun hHeld3 => ?_)
              clear hK K hHeld2
              (try simp only [Act.put, List.getElem_toArray, List.getElem_cons_zero, List.getElem_cons_succ, List.setIfInBounds_toArray, List.set_cons_zero, List.set_cons_succ])
              refine wpAnyH_take (i := 9) (v := .pointer (some ⟨go, 0, none⟩)) rfl (by kernel_rfl) (by kernel_rfl) (by kernel_rfl) (fun _ _ _ h => h) (Or.inl ⟨by kernel_rfl, fun _ _ => by go_simp⟩) (by assumption) ?_
              (try simp only [Act.put, List.getElem_toArray, List.getElem_cons_zero, List.getElem_cons_succ, List.setIfInBounds_toArray, List.set_cons_zero, List.set_cons_succ])
              refine wpAnyH_take (i := 10) (v := .pointer (some ⟨go, 1, none⟩)) rfl (by kernel_rfl) (by kernel_rfl) (by kernel_rfl) (fun _ _ _ h => h) (Or.inl ⟨by kernel_rfl, fun _ _ => by go_simp⟩) (by assumption) ?_
              (try simp only [Act.put, List.getElem_toArray, List.getElem_cons_zero, List.getElem_cons_succ, List.setIfInBounds_toArray, List.set_cons_zero, List.set_cons_succ])
              refine wpAnyH_ready (rs := [11]) (by kernel_rfl) (by simp) ?_
              refine (AllReadyH.cons rfl (fun K hK => ?_) AllReadyH.nil)
              have fO1 := hops2.frozenAt 1
              replace cO1 := hops2.cellAt 1 (by omega)
              simp at cO1
              go_simp
              obtain ⟨wt4, Hwt4⟩ : ∃ q, Hid (q = wt3.setCell ⟨go, 1, none⟩ (.slice A2 (tl + 1) c2)) := ⟨_, Lib.hid rfl⟩
              rw [← Hwt4.out]
              have BA4 : Blk wt4 gA 26 #[.int .i64 (n : Int), .slice (some ⟨go, 0, none⟩) LL c] := by rw [Hwt4.out]; exact BA2.far (by exact hgAgo) _
              have BR4 : Blk wt4 w.heap.size 26 #[.int .i64 0, .slice none 0 0] := by rw [Hwt4.out]; exact BR2.far (by exact hr0go) _
              have hcu4 : CurB B wt4 g (tq + 2) := by rw [Hwt4.out]; exact hcu2.setFar (by exact hBgo) (by exact hgog) _
              have hgr4 : w.grownBy wt4 (some g) := by rw [Hwt4.out]; exact growB_new hgr2 (by exact hwgo) _
              have hsz4 : wt4.heap.size = wt3.heap.size := by rw [Hwt4.out]; simp
              have hops4 : wt4.ownsRow lo 64 2 (.slice (some ⟨go, 0, none⟩) LL c) LL ([.int .i64 a, .slice A2 (tl + 1) c2] ++ css.flatten) := by rw [Hwt4.out]; simpa using (hops2.stored 1 (.slice A2 (tl + 1) c2)).1
              have hn2 : (Value.slice A2 (tl + 1) c2).ownBlock ≠ some go := by
                rcases hat with e | e
                · rw [e]; exact hne
                · rw [e]; intro e2; injection e2; omega
              have htab4 : wt4.ownsRow lo 3 1 (.slice A2 (tl + 1) c2) (tl + 1) (ints (T ++ [0])) := by rw [Hwt4.out]; exact own_same hown2 fun b hb => Below.heap_setCell _ _ _ _ (fun e => hn2 (by rw [hb, e]))
              have HSL : (T ++ [(0 : Int)]).length = tl + 1 := by rw [List.length_append, HTL.out]; rfl
              have HPX := HPUT.out wt4 a (T ++ [0]) A2 c2 hia (fun u hu => by rcases List.mem_append.1 hu with h1 | h1; exact HIT.out u h1; rw [List.mem_singleton.1 h1]; exact ⟨by omega, by omega⟩) (by rw [HSL]; exact htab4) (by omega) (by rw [HSL]; exact hops4) (fun b q1 q2 q3 q4 q5 q6 => by rw [Hwt4.out]; exact (Below.heap_setCell _ _ _ b q2).trans (hfar2 b q1 q6 (fun e => q3 (by simp [Value.ownBlock, e])))) hgAl hwlo hglo (by rw [HSL]; rcases hat with e | e; exact .inl e; exact .inr fun b hb => by rw [e] at hb; injection hb; omega)
              obtain ⟨css', bls', PX⟩ := HPX
              replace cA1 := BA4.cell 1
              simp at cA1
              refine hK.out _ _ cA1 (fun hHeld4 => ?_)
              clear hK K hHeld3
              (try simp only [Act.put, List.getElem_toArray, List.getElem_cons_zero, List.getElem_cons_succ, List.setIfInBounds_toArray, List.set_cons_zero, List.set_cons_succ])
              refine wpAnyH_done (by kernel_rfl) ?_ _
              have hl4 : lo ≤ wt4.heap.size := by omega
              go_wp2_with fail
              go_meet
              exact ⟨(n : Int), (a, T ++ [0]) :: rest, wt4.heap.size, ⟨_, _, _, _, _, BA4, PX, BR4, hcu4.mono (by have := HTT.out; omega), hgr4, PX.2.2, hl4, Nat.le_refl _⟩, alg_q5 (fun o ho => by rcases List.mem_cons.1 ho with rfl | ho; exact (by show (T ++ [(0 : Int)]).length ≤ 1000; rw [HSL]; omega); exact HRS.out o ho) (by rw [List.length_cons]; omega) (by omega) (by omega)⟩
            · have htabP := htab
              have hopsP := hops
              have BAP := BA
              have BRP := BR0
              have hcuP := hcu
              have hgrP := hgr
              have hgfP := hgf
              have hloP : lo ≤ wt1.heap.size := by have := hgf.size; omega
              go_simp
              obtain ⟨wt5, Hwt5⟩ : ∃ x, Hid (x = wt1.alloc (.cells #[.int .i64 0] 3)) := ⟨_, Lib.hid rfl⟩
              rw [← Hwt5.out]
              have hbwt5 : Below wt1.heap.size wt1 wt5 := by rw [Hwt5.out]; exact below_box _ _
              have Bwt5 : Blk wt5 wt1.heap.size 3 #[.int .i64 0] := by rw [Hwt5.out]; exact Blk.new _ _ _
              have zwt5 : wt1.heap.size < wt5.heap.size := Bwt5.lt
              have ywt5 := hbwt5.size
              replace BA := BA.next hbwt5
              replace BR0 := BR0.next hbwt5
              replace hops := own_next hops hbwt5
              replace htab := own_next htab hbwt5
              replace hcu := hcu.next_ hbwt5
              replace hgr := growB_trans hgr (toGr hbwt5)
              replace hgf := growB_trans hgf (toGr hbwt5)
              replace cO0 := keepc hbwt5 cO0
              replace cO1 := keepc hbwt5 cO1
              replace cA1 := keepc hbwt5 cA1
              refine hK.out _ _ cA1 (fun hHeld1 => ?_)
              clear hK K hHeld0
              (try simp only [Act.put, List.getElem_toArray, List.getElem_cons_zero, List.getElem_cons_succ, List.setIfInBounds_toArray, List.set_cons_zero, List.set_cons_succ])
              refine wpAnyH_ready (rs := [6]) (by kernel_rfl) (by simp) ?_
              refine (AllReadyH.cons rfl (fun K hK => ?_) AllReadyH.nil)
              go_simp
              refine hK.out _ _ cA1 (fun hHeld2 => ?_)
              clear hK K hHeld1
              (try simp only [Act.put, List.getElem_toArray, List.getElem_cons_zero, List.getElem_cons_succ, List.setIfInBounds_toArray, List.set_cons_zero, List.set_cons_succ])
              refine wpAnyH_ready (rs := [8]) (by kernel_rfl) (by simp) ?_
              refine (AllReadyH.cons rfl (fun K hK => ?_) AllReadyH.nil)
              rw [Hwt5.out]
              refine step_app1at wt1 rfl (.tmp 80) (.tmp 81) 27 3 rfl (.int .i64 0) 8 Tryz.underlying27 info_int rfl (by decide) lo tl cT (some ⟨tb, 0, none⟩) (ints T) (by rfl) htabP _ rfl (by rfl) (by omega) hloP ?_
              intro A2 c2 wt6 hown2 hg2 hb2 hat
              rw [ints_snocG] at hown2
              have hne2 : ∀ r', (Value.slice (some ⟨tb, 0, none⟩) tl cT).ownBlock = some r' → r' = tb := fun r' e => by simp [Value.ownBlock] at e; exact e.symm
              have BA2 := BAP.below hb2 hgAl
              have BR2 := BRP.below hb2 hwlo
              have hcu2 := hcuP.grown hg2 (fun r' e => by have := hne2 r' e; omega)
              have hgr2 := growB_own hgrP hg2 (fun r' e => by have := hne2 r' e; omega)
              have hops2 := own_same hopsP (fun b hb => hg2.block b (hopsP.lt b hb).2 (fun e => by simp [Value.ownBlock] at hb; have := hne2 b e.symm; omega)) (w' := wt6)
              have hfar2 : ∀ b, b < w2.heap.size → b ≠ g → b ≠ tb → wt6.heap[b]? = w2.heap[b]? := fun b q1 q2 q3 => (hg2.block b (Nat.lt_of_lt_of_le q1 hgfP.size) (fun e => q3 (hne2 b e.symm))).trans (hgfP.block b q1 (fun e => q2 (by injection e)))
              have hz2 := hg2.size
              have hgfz := hgfP.size
              replace cA1 := BA2.cell 1
              simp at cA1
              refine hK.out _ _ cA1 (fun hHeld3 => ?_)
              clear hK K hHeld2
              (try simp only [Act.put, List.getElem_toArray, List.getElem_cons_zero, List.getElem_cons_succ, List.setIfInBounds_toArray, List.set_cons_zero, List.set_cons_succ])
              refine wpAnyH_take (i := 9) (v := .pointer (some ⟨go, 0, none⟩)) rfl (by kernel_rfl) (by kernel_rfl) (by kernel_rfl) (fun _ _ _ h => h) (Or.inl ⟨by kernel_rfl, fun _ _ => by go_simp⟩) (by assumption) ?_
              (try simp only [Act.put, List.getElem_toArray, List.getElem_cons_zero, List.getElem_cons_succ, List.setIfInBounds_toArray, List.set_cons_zero, List.set_cons_succ])
              refine wpAnyH_take (i := 10) (v := .pointer (some ⟨go, 1, none⟩)) rfl (by kernel_rfl) (by kernel_rfl) (by kernel_rfl) (fun _ _ _ h => h) (Or.inl ⟨by kernel_rfl, fun _ _ => by go_simp⟩) (by assumption) ?_
              (try simp only [Act.put, List.getElem_toArray, List.getElem_cons_zero, List.getElem_cons_succ, List.setIfInBounds_toArray, List.set_cons_zero, List.set_cons_succ])
              refine wpAnyH_ready (rs := [11]) (by kernel_rfl) (by simp) ?_
              refine (AllReadyH.cons rfl (fun K hK => ?_) AllReadyH.nil)
              have fO1 := hops2.frozenAt 1
              replace cO1 := hops2.cellAt 1 (by omega)
              simp at cO1
              go_simp
              obtain ⟨wt7, Hwt7⟩ : ∃ q, Hid (q = wt6.setCell ⟨go, 1, none⟩ (.slice A2 (tl + 1) c2)) := ⟨_, Lib.hid rfl⟩
              rw [← Hwt7.out]
              have BA4 : Blk wt7 gA 26 #[.int .i64 (n : Int), .slice (some ⟨go, 0, none⟩) LL c] := by rw [Hwt7.out]; exact BA2.far (by exact hgAgo) _
              have BR4 : Blk wt7 w.heap.size 26 #[.int .i64 0, .slice none 0 0] := by rw [Hwt7.out]; exact BR2.far (by exact hr0go) _
              have hcu4 : CurB B wt7 g (tq + 2) := by rw [Hwt7.out]; exact hcu2.setFar (by exact hBgo) (by exact hgog) _
              have hgr4 : w.grownBy wt7 (some g) := by rw [Hwt7.out]; exact growB_new hgr2 (by exact hwgo) _
              have hsz4 : wt7.heap.size = wt6.heap.size := by rw [Hwt7.out]; simp
              have hops4 : wt7.ownsRow lo 64 2 (.slice (some ⟨go, 0, none⟩) LL c) LL ([.int .i64 a, .slice A2 (tl + 1) c2] ++ css.flatten) := by rw [Hwt7.out]; simpa using (hops2.stored 1 (.slice A2 (tl + 1) c2)).1
              have hn2 : (Value.slice A2 (tl + 1) c2).ownBlock ≠ some go := by
                rcases hat with e | e
                · rw [e]; exact hne
                · rw [e]; intro e2; injection e2; omega
              have htab4 : wt7.ownsRow lo 3 1 (.slice A2 (tl + 1) c2) (tl + 1) (ints (T ++ [0])) := by rw [Hwt7.out]; exact own_same hown2 fun b hb => Below.heap_setCell _ _ _ _ (fun e => hn2 (by rw [hb, e]))
              have HSL : (T ++ [(0 : Int)]).length = tl + 1 := by rw [List.length_append, HTL.out]; rfl
              have HPX := HPUT.out wt7 a (T ++ [0]) A2 c2 hia (fun u hu => by rcases List.mem_append.1 hu with h1 | h1; exact HIT.out u h1; rw [List.mem_singleton.1 h1]; exact ⟨by omega, by omega⟩) (by rw [HSL]; exact htab4) (by omega) (by rw [HSL]; exact hops4) (fun b q1 q2 q3 q4 q5 q6 => by rw [Hwt7.out]; exact (Below.heap_setCell _ _ _ b q2).trans (hfar2 b q1 q6 (fun e => q3 (by simp [Value.ownBlock, e])))) hgAl hwlo hglo (by rw [HSL]; rcases hat with e | e; exact .inl e; exact .inr fun b hb => by rw [e] at hb; injection hb; omega)
              obtain ⟨css', bls', PX⟩ := HPX
              replace cA1 := BA4.cell 1
              simp at cA1
              refine hK.out _ _ cA1 (fun hHeld4 => ?_)
              clear hK K hHeld3
              (try simp only [Act.put, List.getElem_toArray, List.getElem_cons_zero, List.getElem_cons_succ, List.setIfInBounds_toArray, List.set_cons_zero, List.set_cons_succ])
              refine wpAnyH_done (by kernel_rfl) ?_ _
              have hl4 : lo ≤ wt7.heap.size := by omega
              go_wp2_with fail
              go_meet
              exact ⟨(n : Int), (a, T ++ [0]) :: rest, wt7.heap.size, ⟨_, _, _, _, _, BA4, PX, BR4, hcu4.mono (by have := HTT.out; omega), hgr4, PX.2.2, hl4, Nat.le_refl _⟩, alg_q5 (fun o ho => by rcases List.mem_cons.1 ho with rfl | ho; exact (by show (T ++ [(0 : Int)]).length ≤ 1000; rw [HSL]; omega); exact HRS.out o ho) (by rw [List.length_cons]; omega) (by omega) (by omega)⟩
          · -- another value
            subst hv
            obtain ⟨⟨a, T⟩, rest, rfl⟩ : ∃ x l, xs = x :: l := by
              cases xs with
              | nil => have := HX.out.1; simp at this; omega
              | cons x l => exact ⟨x, l, rfl⟩
            have hOQ := HX.out.2
            have hTl := (hOQ _ (List.mem_cons_self ..)).2.2
            have hrl : rest.length ≤ 1 := by have := HX.out.1; rw [List.length_cons] at this; omega
            have HRS : Hid (∀ o ∈ rest, o.2.length ≤ 1000) := fun o ho => by have := (hOQ o (List.mem_cons_of_mem _ ho)).2.2.2; omega
            obtain ⟨go, c, TA, cT, css, BA, BR0, hcu, hgr, hgo, hgw, hops, htab, hia, hiT, hne, hput⟩ := hS2.el0
            have HPUT := Lib.hid hput
            have HIT := Lib.hid hiT
            obtain ⟨LL, HLL⟩ : ∃ x, Hid (rest.length + 1 = x) := ⟨_, Lib.hid rfl⟩
            obtain ⟨tl, HTL⟩ : ∃ x, Hid (T.length = x) := ⟨_, Lib.hid rfl⟩
            have htl : 1 ≤ tl ∧ tl ≤ 64 := by rw [← HTL.out]; exact hTl
            have hLL : 1 ≤ LL ∧ LL ≤ 2 := by have := HLL.out; omega
            rw [HLL.out] at BA hops HPUT
            rw [HTL.out] at htab hops hne HPUT
            have hLL0 : ¬ LL = 0 := by omega
            have hLL1 : (0 : Int) < (LL : Int) := by omega
            have hgf : w2.grownBy w2 (some g) := grown_reflB _ _
            have hgog : go ≠ g := by omega
            have hBgo : B ≤ go := by omega
            have hgAgo : gA ≠ go := by omega
            have hr0go : w.heap.size ≠ go := by omega
            have hwgo : w.heap.size ≤ go := by omega
            have cA1 := BA.cell 1
            simp at cA1
            have cO0 := hops.cellAt 0 (by omega)
            have cO1 := hops.cellAt 1 (by omega)
            simp at cO0 cO1
            clear hput hiT hOQ hTl hS2 HX
            obtain ⟨tb, rfl, htb, htc⟩ := own_form htab (by omega)
            have htbgo : tb ≠ go := fun e => hne (by simp [Value.ownBlock, e])
            have hgAtb : gA ≠ tb := by omega
            have hr0tb : w.heap.size ≠ tb := by omega
            have hBtb : B ≤ tb := by omega
            have htbg : tb ≠ g := by omega
            have hwtb : w.heap.size ≤ tb := by omega
            go_upto_region 23 with fail
            refine wp_region_held_drew (S := fun w' => w'.cell? ⟨gA, 1, none⟩ = some (.slice (some ⟨go, 0, none⟩) LL c) ∧ w'.cell? ⟨go, 1, none⟩ = some (.slice (some ⟨tb, 0, none⟩) tl cT)) (by kernel_rfl) ⟨cA1, cO1⟩ (fun hHeld0 => ?_)
            obtain ⟨wt1, Hwt1⟩ : ∃ x, Hid (x = World.drew w2) := ⟨_, rfl⟩
            have hbwt1 : Below w2.heap.size w2 wt1 := by rw [Hwt1.out]; exact (Below.refl _ _).drew
            rw [← Hwt1.out] at hHeld0 ⊢
            have ywt1 := hbwt1.size
            replace BA := BA.next hbwt1
            replace BR0 := BR0.next hbwt1
            replace hops := own_next hops hbwt1
            replace htab := own_next htab hbwt1
            replace hcu := hcu.next_ hbwt1
            replace hgr := growB_trans hgr (toGr hbwt1)
            replace hgf := growB_trans hgf (toGr hbwt1)
            replace cO0 := keepc hbwt1 cO0
            replace cA1 := keepc hbwt1 cA1
            replace cO1 := keepc hbwt1 cO1
            refine wpAnyH_take (i := 0) (v := .pointer (some ⟨gA, 1, none⟩)) rfl (by kernel_rfl) (by kernel_rfl) (by kernel_rfl) (fun _ _ _ h => h) (Or.inl ⟨by kernel_rfl, fun _ _ => by go_simp⟩) (by assumption) ?_
            (try simp only [Act.put, List.getElem_toArray, List.getElem_cons_zero, List.getElem_cons_succ, List.setIfInBounds_toArray, List.set_cons_zero, List.set_cons_succ])
            refine wpAnyH_take (i := 1) (v := .slice (some ⟨go, 0, none⟩) LL c) rfl (by kernel_rfl) (by kernel_rfl) (by kernel_rfl) (fun _ _ _ h => h) (Or.inl ⟨by kernel_rfl, fun wv hSw => by (obtain ⟨hS0, hS1⟩ := hSw); go_simp⟩) (by assumption) ?_
            (try simp only [Act.put, List.getElem_toArray, List.getElem_cons_zero, List.getElem_cons_succ, List.setIfInBounds_toArray, List.set_cons_zero, List.set_cons_succ])
            refine wpAnyH_take (i := 2) (v := .pointer (some ⟨go, 0, none⟩)) rfl (by kernel_rfl) (by kernel_rfl) (by kernel_rfl) (fun _ _ _ h => h) (Or.inl ⟨by kernel_rfl, fun _ _ => by go_simp⟩) (by assumption) ?_
            (try simp only [Act.put, List.getElem_toArray, List.getElem_cons_zero, List.getElem_cons_succ, List.setIfInBounds_toArray, List.set_cons_zero, List.set_cons_succ])
            refine wpAnyH_take (i := 3) (v := .pointer (some ⟨go, 1, none⟩)) rfl (by kernel_rfl) (by kernel_rfl) (by kernel_rfl) (fun _ _ _ h => h) (Or.inl ⟨by kernel_rfl, fun _ _ => by go_simp⟩) (by assumption) ?_
            (try simp only [Act.put, List.getElem_toArray, List.getElem_cons_zero, List.getElem_cons_succ, List.setIfInBounds_toArray, List.set_cons_zero, List.set_cons_succ])
            refine wpAnyH_take (i := 4) (v := .slice (some ⟨tb, 0, none⟩) tl cT) rfl (by kernel_rfl) (by kernel_rfl) (by kernel_rfl) (fun _ _ _ h => h) (Or.inl ⟨by kernel_rfl, fun wv hSw => by (obtain ⟨hS0, hS1⟩ := hSw); go_simp⟩) (by assumption) ?_
            (try simp only [Act.put, List.getElem_toArray, List.getElem_cons_zero, List.getElem_cons_succ, List.setIfInBounds_toArray, List.set_cons_zero, List.set_cons_succ])
            refine wpAnyH_take (i := 5) (v := .pointer (some ⟨g, 0, none⟩)) rfl (by kernel_rfl) (by kernel_rfl) (by kernel_rfl) (fun _ _ _ h => h) (Or.inl ⟨by kernel_rfl, fun _ _ => by go_simp⟩) (by assumption) ?_
            (try simp only [Act.put, List.getElem_toArray, List.getElem_cons_zero, List.getElem_cons_succ, List.setIfInBounds_toArray, List.set_cons_zero, List.set_cons_succ])
            refine wpAnyH_take (i := 6) (v := .pointer (some ⟨gA, 1, none⟩)) rfl (by kernel_rfl) (by kernel_rfl) (by kernel_rfl) (fun _ _ _ h => h) (Or.inl ⟨by kernel_rfl, fun _ _ => by go_simp⟩) (by assumption) ?_
            (try simp only [Act.put, List.getElem_toArray, List.getElem_cons_zero, List.getElem_cons_succ, List.setIfInBounds_toArray, List.set_cons_zero, List.set_cons_succ])
            refine wpAnyH_take (i := 7) (v := .slice (some ⟨go, 0, none⟩) LL c) rfl (by kernel_rfl) (by kernel_rfl) (by kernel_rfl) (fun _ _ _ h => h) (Or.inl ⟨by kernel_rfl, fun wv hSw => by (obtain ⟨hS0, hS1⟩ := hSw); go_simp⟩) (by assumption) ?_
            (try simp only [Act.put, List.getElem_toArray, List.getElem_cons_zero, List.getElem_cons_succ, List.setIfInBounds_toArray, List.set_cons_zero, List.set_cons_succ])
            refine wpAnyH_take (i := 8) (v := .pointer (some ⟨go, 0, none⟩)) rfl (by kernel_rfl) (by kernel_rfl) (by kernel_rfl) (fun _ _ _ h => h) (Or.inl ⟨by kernel_rfl, fun _ _ => by go_simp⟩) (by assumption) ?_
            (try simp only [Act.put, List.getElem_toArray, List.getElem_cons_zero, List.getElem_cons_succ, List.setIfInBounds_toArray, List.set_cons_zero, List.set_cons_succ])
            refine wpAnyH_take (i := 9) (v := .pointer (some ⟨go, 1, none⟩)) rfl (by kernel_rfl) (by kernel_rfl) (by kernel_rfl) (fun _ _ _ h => h) (Or.inl ⟨by kernel_rfl, fun _ _ => by go_simp⟩) (by assumption) ?_
            (try simp only [Act.put, List.getElem_toArray, List.getElem_cons_zero, List.getElem_cons_succ, List.setIfInBounds_toArray, List.set_cons_zero, List.set_cons_succ])
            refine wpAnyH_take (i := 10) (v := .slice (some ⟨tb, 0, none⟩) tl cT) rfl (by kernel_rfl) (by kernel_rfl) (by kernel_rfl) (fun _ _ _ h => h) (Or.inl ⟨by kernel_rfl, fun wv hSw => by (obtain ⟨hS0, hS1⟩ := hSw); go_simp⟩) (by assumption) ?_
            (try simp only [Act.put, List.getElem_toArray, List.getElem_cons_zero, List.getElem_cons_succ, List.setIfInBounds_toArray, List.set_cons_zero, List.set_cons_succ])
            refine wpAnyH_take (i := 11) (v := .int .i64 (tl : Int)) rfl (by kernel_rfl) (by kernel_rfl) (by kernel_rfl) (fun _ _ _ h => h) (Or.inl ⟨by kernel_rfl, fun _ _ => by go_simp⟩) (by assumption) ?_
            (try simp only [Act.put, List.getElem_toArray, List.getElem_cons_zero, List.getElem_cons_succ, List.setIfInBounds_toArray, List.set_cons_zero, List.set_cons_succ])
            refine wpAnyH_take (i := 13) (v := .pointer (some ⟨g, 0, none⟩)) rfl (by kernel_rfl) (by kernel_rfl) (by kernel_rfl) (fun _ _ _ h => h) (Or.inl ⟨by kernel_rfl, fun _ _ => by go_simp⟩) (by assumption) ?_
            (try simp only [Act.put, List.getElem_toArray, List.getElem_cons_zero, List.getElem_cons_succ, List.setIfInBounds_toArray, List.set_cons_zero, List.set_cons_succ])
            refine wpAnyH_take (i := 14) (v := .int .i64 (n : Int)) rfl (by kernel_rfl) (by kernel_rfl) (by kernel_rfl) (fun _ _ _ h => h) (Or.inl ⟨by kernel_rfl, fun _ _ => by go_simp⟩) (by assumption) ?_
            (try simp only [Act.put, List.getElem_toArray, List.getElem_cons_zero, List.getElem_cons_succ, List.setIfInBounds_toArray, List.set_cons_zero, List.set_cons_succ])
            refine wpAnyH_ready (rs := [12, 15]) (by kernel_rfl) (by simp) ?_
            refine (AllReadyH.cons rfl (fun K hK => ?_) (AllReadyH.cons rfl (fun K hK => ?_) AllReadyH.nil))
            · go_simp
              refine (pickB_any g (tq + 2) (tl : Int) wt1 hcu (by omega) (by omega)).mono ?_
              rintro e wt2 ⟨x, hx, rfl, hcx, hgx⟩
              replace BA := BA.grownG hgx hgAg
              replace BR0 := BR0.grownG hgx hr0g
              replace hops := own_grownG hops hgx hglo
              replace htab := own_grownG htab hgx hglo
              replace hcu := hcx
              replace hgr := growB_trans hgr hgx
              replace hgf := growB_trans hgf hgx
              replace cA1 := BA.cell 1
              simp at cA1
              replace cO0 := hops.cellAt 0 (by omega)
              replace cO1 := hops.cellAt 1 (by omega)
              simp at cO0 cO1
              have hx0 : (0 : Int) ≤ (x : Int) := by omega
              have hx1 : (x : Int) < (tl : Int) := by omega
              clear hcx hgx hx
              go_wp2_with fail
              refine hK.out _ _ ⟨cA1, cO1⟩ (fun hHeld1 => ?_)
              clear hK K hHeld0
              (try simp only [Act.put, List.getElem_toArray, List.getElem_cons_zero, List.getElem_cons_succ, List.setIfInBounds_toArray, List.set_cons_zero, List.set_cons_succ])
              refine wpAnyH_ready (rs := [15]) (by kernel_rfl) (by simp) ?_
              refine (AllReadyH.cons rfl (fun K hK => ?_) AllReadyH.nil)
              have hcu0 := hcu
              go_simp
              obtain ⟨wt3, Hwt3⟩ : ∃ x, Hid (x = wt2.alloc (.cells #[.int .i64 (-1), .int .i64 (n : Int)] 3)) := ⟨_, Lib.hid rfl⟩
              rw [← Hwt3.out]
              have hbwt3 : Below wt2.heap.size wt2 wt3 := by rw [Hwt3.out]; exact below_box _ _
              have Bwt3 : Blk wt3 wt2.heap.size 3 #[.int .i64 (-1), .int .i64 (n : Int)] := by rw [Hwt3.out]; exact Blk.new _ _ _
              have zwt3 : wt2.heap.size < wt3.heap.size := Bwt3.lt
              have ywt3 := hbwt3.size
              replace BA := BA.next hbwt3
              replace BR0 := BR0.next hbwt3
              replace hops := own_next hops hbwt3
              replace htab := own_next htab hbwt3
              replace hcu := hcu.next_ hbwt3
              replace hgr := growB_trans hgr (toGr hbwt3)
              replace hgf := growB_trans hgf (toGr hbwt3)
              replace cO0 := keepc hbwt3 cO0
              replace cA1 := keepc hbwt3 cA1
              replace cO1 := keepc hbwt3 cO1
              refine hK.out _ _ ⟨cA1, cO1⟩ (fun hHeld2 => ?_)
              clear hK K hHeld1
              (try simp only [Act.put, List.getElem_toArray, List.getElem_cons_zero, List.getElem_cons_succ, List.setIfInBounds_toArray, List.set_cons_zero, List.set_cons_succ])
              have hnum : NumsP (fun x => -1 ≤ x ∧ x ≤ 4) wt3 g wt2.heap.size 2 := by rw [Hwt3.out]; exact numsL _ [-1, (n : Int)] wt2 g hcu0.lt (by simp) (by simp) (by intro x hx; simp at hx; omega) rfl
              clear hcu0
              refine wpAnyH_ready (rs := [16]) (by kernel_rfl) (by simp) ?_
              refine (AllReadyH.cons rfl (fun K hK => ?_) AllReadyH.nil)
              go_simp
              refine (amongB_any g (tq + 2 + 2) wt2.heap.size 2 2 wt3 hcu (by omega) _ hnum).mono ?_
              rintro e wt4 ⟨z, hz, rfl, hcx, hgx⟩
              replace BA := BA.grownG hgx hgAg
              replace BR0 := BR0.grownG hgx hr0g
              replace hops := own_grownG hops hgx hglo
              replace htab := own_grownG htab hgx hglo
              replace hcu := hcx
              replace hgr := growB_trans hgr hgx
              replace hgf := growB_trans hgf hgx
              replace cA1 := BA.cell 1
              simp at cA1
              replace cO0 := hops.cellAt 0 (by omega)
              replace cO1 := hops.cellAt 1 (by omega)
              simp at cO0 cO1
              clear hcx hgx hnum
              go_wp2_with fail
              refine hK.out _ _ ⟨cA1, cO1⟩ (fun hHeld3 => ?_)
              clear hK K hHeld2
              (try simp only [Act.put, List.getElem_toArray, List.getElem_cons_zero, List.getElem_cons_succ, List.setIfInBounds_toArray, List.set_cons_zero, List.set_cons_succ])
              refine wpAnyH_take (i := 17) (v := .pointer (some ⟨tb, x, none⟩)) rfl (by kernel_rfl) (by kernel_rfl) (by kernel_rfl) (fun _ _ _ h => h) (Or.inl ⟨by kernel_rfl, fun _ _ => by go_simp⟩) (by assumption) ?_
              (try simp only [Act.put, List.getElem_toArray, List.getElem_cons_zero, List.getElem_cons_succ, List.setIfInBounds_toArray, List.set_cons_zero, List.set_cons_succ])
              refine wpAnyH_ready (rs := [18]) (by kernel_rfl) (by simp) ?_
              refine (AllReadyH.cons rfl (fun K hK => ?_) AllReadyH.nil)
              have fT := htab.frozenAt x
              have cT0 := htab.cellAt x (by omega)
              obtain ⟨u0, hu0⟩ : ∃ u0, (ints T)[x]? = some u0 := ⟨_, List.getElem?_eq_getElem (by rw [ints_len, HTL.out]; omega)⟩
              rw [hu0] at cT0
              go_simp
              obtain ⟨wt5, Hwt5⟩ : ∃ q, Hid (q = wt4.setCell ⟨tb, x, none⟩ (.int .i64 z)) := ⟨_, Lib.hid rfl⟩
              rw [← Hwt5.out]
              have BA4 : Blk wt5 gA 26 #[.int .i64 (n : Int), .slice (some ⟨go, 0, none⟩) LL c] := by rw [Hwt5.out]; exact BA.far (by exact hgAtb) _
              have BR4 : Blk wt5 w.heap.size 26 #[.int .i64 0, .slice none 0 0] := by rw [Hwt5.out]; exact BR0.far (by exact hr0tb) _
              have hcu4 : CurB B wt5 g (tq + 2 + 2 + 2) := by rw [Hwt5.out]; exact hcu.setFar (by exact hBtb) (by exact htbg) _
              have hgr4 : w.grownBy wt5 (some g) := by rw [Hwt5.out]; exact growB_new hgr (by exact hwtb) _
              have hsz4 : wt5.heap.size = wt4.heap.size := by rw [Hwt5.out]; simp
              have hgfz := hgf.size
              have hops4 : wt5.ownsRow lo 64 2 (.slice (some ⟨go, 0, none⟩) LL c) LL ([.int .i64 a, .slice (some ⟨tb, 0, none⟩) tl cT] ++ css.flatten) := by rw [Hwt5.out]; exact own_same hops fun b hb => Below.heap_setCell _ _ _ _ (fun e => by simp [Value.ownBlock] at hb; exact htbgo (by rw [hb, e]))
              have htab4 : wt5.ownsRow lo 3 1 (.slice (some ⟨tb, 0, none⟩) tl cT) tl (ints (T.set x z)) := by rw [Hwt5.out, ← ints_set]; exact (htab.stored x (.int .i64 z)).1
              have HSL : (T.set x z).length = tl := by rw [List.length_set]; exact HTL.out
              have HPX := HPUT.out wt5 a (T.set x z) (some ⟨tb, 0, none⟩) cT hia (fun u hu => by rcases List.mem_or_eq_of_mem_set hu with h1 | h1; exact HIT.out u h1; exact ⟨by omega, by omega⟩) (by rw [HSL]; exact htab4) (by omega) (by rw [HSL]; exact hops4) (fun b q1 q2 q3 q4 q5 q6 => by rw [Hwt5.out]; exact growB_set hgf _ _ b q1 (fun e => q6 (by injection e)) (fun e => q3 (by simp [Value.ownBlock, e]))) hgAl hwlo hglo (.inl rfl)
              obtain ⟨css', bls', PX⟩ := HPX
              replace cA1 := BA4.cell 1
              simp at cA1
              replace cO1 := hops4.cellAt 1 (by omega)
              simp at cO1
              refine hK.out _ _ ⟨cA1, cO1⟩ (fun hHeld4 => ?_)
              clear hK K hHeld3
              (try simp only [Act.put, List.getElem_toArray, List.getElem_cons_zero, List.getElem_cons_succ, List.setIfInBounds_toArray, List.set_cons_zero, List.set_cons_succ])
              refine wpAnyH_done (by kernel_rfl) ?_ _
              have hl4 : lo ≤ wt5.heap.size := by omega
              go_wp2_with fail
              go_meet
              exact ⟨(n : Int), (a, T.set x z) :: rest, wt5.heap.size, ⟨_, _, _, _, _, BA4, PX, BR4, hcu4.mono (by have := HTT.out; omega), hgr4, PX.2.2, hl4, Nat.le_refl _⟩, alg_q5 (fun o ho => by rcases List.mem_cons.1 ho with rfl | ho; exact (by show (T.set x z).length ≤ 1000; rw [HSL]; omega); exact HRS.out o ho) (by rw [List.length_cons]; omega) (by omega) (by omega)⟩
            · have hcu0 := hcu
              go_simp
              obtain ⟨wt6, Hwt6⟩ : ∃ x, Hid (x = wt1.alloc (.cells #[.int .i64 (-1), .int .i64 (n : Int)] 3)) := ⟨_, Lib.hid rfl⟩
              rw [← Hwt6.out]
              have hbwt6 : Below wt1.heap.size wt1 wt6 := by rw [Hwt6.out]; exact below_box _ _
              have Bwt6 : Blk wt6 wt1.heap.size 3 #[.int .i64 (-1), .int .i64 (n : Int)] := by rw [Hwt6.out]; exact Blk.new _ _ _
              have zwt6 : wt1.heap.size < wt6.heap.size := Bwt6.lt
              have ywt6 := hbwt6.size
              replace BA := BA.next hbwt6
              replace BR0 := BR0.next hbwt6
              replace hops := own_next hops hbwt6
              replace htab := own_next htab hbwt6
              replace hcu := hcu.next_ hbwt6
              replace hgr := growB_trans hgr (toGr hbwt6)
              replace hgf := growB_trans hgf (toGr hbwt6)
              replace cO0 := keepc hbwt6 cO0
              replace cA1 := keepc hbwt6 cA1
              replace cO1 := keepc hbwt6 cO1
              refine hK.out _ _ ⟨cA1, cO1⟩ (fun hHeld1 => ?_)
              clear hK K hHeld0
              (try simp only [Act.put, List.getElem_toArray, List.getElem_cons_zero, List.getElem_cons_succ, List.setIfInBounds_toArray, List.set_cons_zero, List.set_cons_succ])
              have hnum : NumsP (fun x => -1 ≤ x ∧ x ≤ 4) wt6 g wt1.heap.size 2 := by rw [Hwt6.out]; exact numsL _ [-1, (n : Int)] wt1 g hcu0.lt (by simp) (by simp) (by intro x hx; simp at hx; omega) rfl
              clear hcu0
              refine wpAnyH_ready (rs := [12]) (by kernel_rfl) (by simp) ?_
              refine (AllReadyH.cons rfl (fun K hK => ?_) AllReadyH.nil)
              go_simp
              refine (pickB_any g (tq + 2) (tl : Int) wt6 hcu (by omega) (by omega)).mono ?_
              rintro e wt7 ⟨x, hx, rfl, hcx, hgx⟩
              replace BA := BA.grownG hgx hgAg
              replace BR0 := BR0.grownG hgx hr0g
              replace hops := own_grownG hops hgx hglo
              replace htab := own_grownG htab hgx hglo
              replace hcu := hcx
              replace hgr := growB_trans hgr hgx
              replace hgf := growB_trans hgf hgx
              replace cA1 := BA.cell 1
              simp at cA1
              replace cO0 := hops.cellAt 0 (by omega)
              replace cO1 := hops.cellAt 1 (by omega)
              simp at cO0 cO1
              replace hnum := hnum.grown hgx
              have hx0 : (0 : Int) ≤ (x : Int) := by omega
              have hx1 : (x : Int) < (tl : Int) := by omega
              clear hcx hgx hx
              go_wp2_with fail
              refine hK.out _ _ ⟨cA1, cO1⟩ (fun hHeld2 => ?_)
              clear hK K hHeld1
              (try simp only [Act.put, List.getElem_toArray, List.getElem_cons_zero, List.getElem_cons_succ, List.setIfInBounds_toArray, List.set_cons_zero, List.set_cons_succ])
              refine wpAnyH_ready (rs := [16]) (by kernel_rfl) (by simp) ?_
              refine (AllReadyH.cons rfl (fun K hK => ?_) AllReadyH.nil)
              go_simp
              refine (amongB_any g (tq + 2 + 2) wt1.heap.size 2 2 wt7 hcu (by omega) _ hnum).mono ?_
              rintro e wt8 ⟨z, hz, rfl, hcx, hgx⟩
              replace BA := BA.grownG hgx hgAg
              replace BR0 := BR0.grownG hgx hr0g
              replace hops := own_grownG hops hgx hglo
              replace htab := own_grownG htab hgx hglo
              replace hcu := hcx
              replace hgr := growB_trans hgr hgx
              replace hgf := growB_trans hgf hgx
              replace cA1 := BA.cell 1
              simp at cA1
              replace cO0 := hops.cellAt 0 (by omega)
              replace cO1 := hops.cellAt 1 (by omega)
              simp at cO0 cO1
              clear hcx hgx hnum
              go_wp2_with fail
              refine hK.out _ _ ⟨cA1, cO1⟩ (fun hHeld3 => ?_)
              clear hK K hHeld2
              (try simp only [Act.put, List.getElem_toArray, List.getElem_cons_zero, List.getElem_cons_succ, List.setIfInBounds_toArray, List.set_cons_zero, List.set_cons_succ])
              refine wpAnyH_take (i := 17) (v := .pointer (some ⟨tb, x, none⟩)) rfl (by kernel_rfl) (by kernel_rfl) (by kernel_rfl) (fun _ _ _ h => h) (Or.inl ⟨by kernel_rfl, fun _ _ => by go_simp⟩) (by assumption) ?_
              (try simp only [Act.put, List.getElem_toArray, List.getElem_cons_zero, List.getElem_cons_succ, List.setIfInBounds_toArray, List.set_cons_zero, List.set_cons_succ])
              refine wpAnyH_ready (rs := [18]) (by kernel_rfl) (by simp) ?_
              refine (AllReadyH.cons rfl (fun K hK => ?_) AllReadyH.nil)
              have fT := htab.frozenAt x
              have cT0 := htab.cellAt x (by omega)
              obtain ⟨u0, hu0⟩ : ∃ u0, (ints T)[x]? = some u0 := ⟨_, List.getElem?_eq_getElem (by rw [ints_len, HTL.out]; omega)⟩
              rw [hu0] at cT0
              go_simp
              obtain ⟨wt9, Hwt9⟩ : ∃ q, Hid (q = wt8.setCell ⟨tb, x, none⟩ (.int .i64 z)) := ⟨_, Lib.hid rfl⟩
              rw [← Hwt9.out]
              have BA4 : Blk wt9 gA 26 #[.int .i64 (n : Int), .slice (some ⟨go, 0, none⟩) LL c] := by rw [Hwt9.out]; exact BA.far (by exact hgAtb) _
              have BR4 : Blk wt9 w.heap.size 26 #[.int .i64 0, .slice none 0 0] := by rw [Hwt9.out]; exact BR0.far (by exact hr0tb) _
              have hcu4 : CurB B wt9 g (tq + 2 + 2 + 2) := by rw [Hwt9.out]; exact hcu.setFar (by exact hBtb) (by exact htbg) _
              have hgr4 : w.grownBy wt9 (some g) := by rw [Hwt9.out]; exact growB_new hgr (by exact hwtb) _
              have hsz4 : wt9.heap.size = wt8.heap.size := by rw [Hwt9.out]; simp
              have hgfz := hgf.size
              have hops4 : wt9.ownsRow lo 64 2 (.slice (some ⟨go, 0, none⟩) LL c) LL ([.int .i64 a, .slice (some ⟨tb, 0, none⟩) tl cT] ++ css.flatten) := by rw [Hwt9.out]; exact own_same hops fun b hb => Below.heap_setCell _ _ _ _ (fun e => by simp [Value.ownBlock] at hb; exact htbgo (by rw [hb, e]))
              have htab4 : wt9.ownsRow lo 3 1 (.slice (some ⟨tb, 0, none⟩) tl cT) tl (ints (T.set x z)) := by rw [Hwt9.out, ← ints_set]; exact (htab.stored x (.int .i64 z)).1
              have HSL : (T.set x z).length = tl := by rw [List.length_set]; exact HTL.out
              have HPX := HPUT.out wt9 a (T.set x z) (some ⟨tb, 0, none⟩) cT hia (fun u hu => by rcases List.mem_or_eq_of_mem_set hu with h1 | h1; exact HIT.out u h1; exact ⟨by omega, by omega⟩) (by rw [HSL]; exact htab4) (by omega) (by rw [HSL]; exact hops4) (fun b q1 q2 q3 q4 q5 q6 => by rw [Hwt9.out]; exact growB_set hgf _ _ b q1 (fun e => q6 (by injection e)) (fun e => q3 (by simp [Value.ownBlock, e]))) hgAl hwlo hglo (.inl rfl)
              obtain ⟨css', bls', PX⟩ := HPX
              replace cA1 := BA4.cell 1
              simp at cA1
              replace cO1 := hops4.cellAt 1 (by omega)
              simp at cO1
              refine hK.out _ _ ⟨cA1, cO1⟩ (fun hHeld4 => ?_)
              clear hK K hHeld3
              (try simp only [Act.put, List.getElem_toArray, List.getElem_cons_zero, List.getElem_cons_succ, List.setIfInBounds_toArray, List.set_cons_zero, List.set_cons_succ])
              refine wpAnyH_done (by kernel_rfl) ?_ _
              have hl4 : lo ≤ wt9.heap.size := by omega
              go_wp2_with fail
              go_meet
              exact ⟨(n : Int), (a, T.set x z) :: rest, wt9.heap.size, ⟨_, _, _, _, _, BA4, PX, BR4, hcu4.mono (by have := HTT.out; omega), hgr4, PX.2.2, hl4, Nat.le_refl _⟩, alg_q5 (fun o ho => by rcases List.mem_cons.1 ho with rfl | ho; exact (by show (T.set x z).length ≤ 1000; rw [HSL]; omega); exact HRS.out o ho) (by rw [List.length_cons]; omega) (by omega) (by omega)⟩
          · -- another arity
            subst hv
            obtain ⟨⟨a, T⟩, rest, rfl⟩ : ∃ x l, xs = x :: l := by
              cases xs with
              | nil => have := HX.out.1; simp at this; omega
              | cons x l => exact ⟨x, l, rfl⟩
            have hOQ := HX.out.2
            have hTl := (hOQ _ (List.mem_cons_self ..)).2.2
            have hrl : rest.length ≤ 1 := by have := HX.out.1; rw [List.length_cons] at this; omega
            have HRS : Hid (∀ o ∈ rest, o.2.length ≤ 1000) := fun o ho => by have := (hOQ o (List.mem_cons_of_mem _ ho)).2.2.2; omega
            obtain ⟨go, c, TA, cT, css, BA, BR0, hcu, hgr, hgo, hgw, hops, htab, hia, hiT, hne, hput⟩ := hS2.el0
            have HPUT := Lib.hid hput
            have HIT := Lib.hid hiT
            obtain ⟨LL, HLL⟩ : ∃ x, Hid (rest.length + 1 = x) := ⟨_, Lib.hid rfl⟩
            obtain ⟨tl, HTL⟩ : ∃ x, Hid (T.length = x) := ⟨_, Lib.hid rfl⟩
            have htl : 1 ≤ tl ∧ tl ≤ 64 := by rw [← HTL.out]; exact hTl
            have hLL : 1 ≤ LL ∧ LL ≤ 2 := by have := HLL.out; omega
            rw [HLL.out] at BA hops HPUT
            rw [HTL.out] at htab hops hne HPUT
            have hLL0 : ¬ LL = 0 := by omega
            have hLL1 : (0 : Int) < (LL : Int) := by omega
            have hgf : w2.grownBy w2 (some g) := grown_reflB _ _
            have hgog : go ≠ g := by omega
            have hBgo : B ≤ go := by omega
            have hgAgo : gA ≠ go := by omega
            have hr0go : w.heap.size ≠ go := by omega
            have hwgo : w.heap.size ≤ go := by omega
            have cA1 := BA.cell 1
            simp at cA1
            have cO0 := hops.cellAt 0 (by omega)
            have cO1 := hops.cellAt 1 (by omega)
            simp at cO0 cO1
            clear hput hiT hOQ hTl hS2 HX
            go_upto_region 25 with fail
            refine wp_region_held_drew (S := fun w' => w'.cell? ⟨gA, 1, none⟩ = some (.slice (some ⟨go, 0, none⟩) LL c)) (by kernel_rfl) cA1 (fun hHeld0 => ?_)
            obtain ⟨wt1, Hwt1⟩ : ∃ x, Hid (x = World.drew w2) := ⟨_, rfl⟩
            have hbwt1 : Below w2.heap.size w2 wt1 := by rw [Hwt1.out]; exact (Below.refl _ _).drew
            rw [← Hwt1.out] at hHeld0 ⊢
            have ywt1 := hbwt1.size
            replace BA := BA.next hbwt1
            replace BR0 := BR0.next hbwt1
            replace hops := own_next hops hbwt1
            replace htab := own_next htab hbwt1
            replace hcu := hcu.next_ hbwt1
            replace hgr := growB_trans hgr (toGr hbwt1)
            replace hgf := growB_trans hgf (toGr hbwt1)
            replace cO0 := keepc hbwt1 cO0
            replace cO1 := keepc hbwt1 cO1
            replace cA1 := keepc hbwt1 cA1
            refine wpAnyH_take (i := 0) (v := .pointer (some ⟨gA, 1, none⟩)) rfl (by kernel_rfl) (by kernel_rfl) (by kernel_rfl) (fun _ _ _ h => h) (Or.inl ⟨by kernel_rfl, fun _ _ => by go_simp⟩) (by assumption) ?_
            (try simp only [Act.put, List.getElem_toArray, List.getElem_cons_zero, List.getElem_cons_succ, List.setIfInBounds_toArray, List.set_cons_zero, List.set_cons_succ])
            refine wpAnyH_take (i := 1) (v := .slice (some ⟨go, 0, none⟩) LL c) rfl (by kernel_rfl) (by kernel_rfl) (by kernel_rfl) (fun _ _ _ h => h) (Or.inl ⟨by kernel_rfl, fun wv hSw => by (have hS0 := hSw); go_simp⟩) (by assumption) ?_
            (try simp only [Act.put, List.getElem_toArray, List.getElem_cons_zero, List.getElem_cons_succ, List.setIfInBounds_toArray, List.set_cons_zero, List.set_cons_succ])
            refine wpAnyH_take (i := 2) (v := .pointer (some ⟨g, 0, none⟩)) rfl (by kernel_rfl) (by kernel_rfl) (by kernel_rfl) (fun _ _ _ h => h) (Or.inl ⟨by kernel_rfl, fun _ _ => by go_simp⟩) (by assumption) ?_
            (try simp only [Act.put, List.getElem_toArray, List.getElem_cons_zero, List.getElem_cons_succ, List.setIfInBounds_toArray, List.set_cons_zero, List.set_cons_succ])
            refine wpAnyH_ready (rs := [3]) (by kernel_rfl) (by simp) ?_
            refine (AllReadyH.cons rfl (fun K hK => ?_) AllReadyH.nil)
            have hcu0 := hcu
            go_simp
            obtain ⟨wt2, Hwt2⟩ : ∃ x, Hid (x = wt1.alloc (.cells #[.int .i64 (-1), .int .i64 4] 3)) := ⟨_, Lib.hid rfl⟩
            rw [← Hwt2.out]
            have hbwt2 : Below wt1.heap.size wt1 wt2 := by rw [Hwt2.out]; exact below_box _ _
            have Bwt2 : Blk wt2 wt1.heap.size 3 #[.int .i64 (-1), .int .i64 4] := by rw [Hwt2.out]; exact Blk.new _ _ _
            have zwt2 : wt1.heap.size < wt2.heap.size := Bwt2.lt
            have ywt2 := hbwt2.size
            replace BA := BA.next hbwt2
            replace BR0 := BR0.next hbwt2
            replace hops := own_next hops hbwt2
            replace htab := own_next htab hbwt2
            replace hcu := hcu.next_ hbwt2
            replace hgr := growB_trans hgr (toGr hbwt2)
            replace hgf := growB_trans hgf (toGr hbwt2)
            replace cO0 := keepc hbwt2 cO0
            replace cO1 := keepc hbwt2 cO1
            replace cA1 := keepc hbwt2 cA1
            refine hK.out _ _ cA1 (fun hHeld1 => ?_)
            clear hK K hHeld0
            (try simp only [Act.put, List.getElem_toArray, List.getElem_cons_zero, List.getElem_cons_succ, List.setIfInBounds_toArray, List.set_cons_zero, List.set_cons_succ])
            have hnum : NumsP (fun x => x = -1 ∨ x = 4) wt2 g wt1.heap.size 2 := by rw [Hwt2.out]; exact numsL _ [-1, 4] wt1 g hcu0.lt (by simp) (by simp) (by intro x hx; simp at hx; omega) rfl
            clear hcu0
            refine wpAnyH_ready (rs := [4]) (by kernel_rfl) (by simp) ?_
            refine (AllReadyH.cons rfl (fun K hK => ?_) AllReadyH.nil)
            go_simp
            refine (amongB_any g (tq + 2) wt1.heap.size 2 2 wt2 hcu (by omega) _ hnum).mono ?_
            rintro e wt3 ⟨z, hz, rfl, hcx, hgx⟩
            replace BA := BA.grownG hgx hgAg
            replace BR0 := BR0.grownG hgx hr0g
            replace hops := own_grownG hops hgx hglo
            replace htab := own_grownG htab hgx hglo
            replace hcu := hcx
            replace hgr := growB_trans hgr hgx
            replace hgf := growB_trans hgf hgx
            replace cA1 := BA.cell 1
            simp at cA1
            replace cO0 := hops.cellAt 0 (by omega)
            replace cO1 := hops.cellAt 1 (by omega)
            simp at cO0 cO1
            clear hcx hgx hnum
            go_wp2_with fail
            refine hK.out _ _ cA1 (fun hHeld2 => ?_)
            clear hK K hHeld1
            (try simp only [Act.put, List.getElem_toArray, List.getElem_cons_zero, List.getElem_cons_succ, List.setIfInBounds_toArray, List.set_cons_zero, List.set_cons_succ])
            refine wpAnyH_take (i := 5) (v := .pointer (some ⟨go, 0, none⟩)) rfl (by kernel_rfl) (by kernel_rfl) (by kernel_rfl) (fun _ _ _ h => h) (Or.inl ⟨by kernel_rfl, fun _ _ => by go_simp⟩) (by assumption) ?_
            (try simp only [Act.put, List.getElem_toArray, List.getElem_cons_zero, List.getElem_cons_succ, List.setIfInBounds_toArray, List.set_cons_zero, List.set_cons_succ])
            refine wpAnyH_take (i := 6) (v := .pointer (some ⟨go, 0, none⟩)) rfl (by kernel_rfl) (by kernel_rfl) (by kernel_rfl) (fun _ _ _ h => h) (Or.inl ⟨by kernel_rfl, fun _ _ => by go_simp⟩) (by assumption) ?_
            (try simp only [Act.put, List.getElem_toArray, List.getElem_cons_zero, List.getElem_cons_succ, List.setIfInBounds_toArray, List.set_cons_zero, List.set_cons_succ])
            refine wpAnyH_ready (rs := [7]) (by kernel_rfl) (by simp) ?_
            refine (AllReadyH.cons rfl (fun K hK => ?_) AllReadyH.nil)
            have fO0 := hops.frozenAt 0
            go_simp
            obtain ⟨wt4, Hwt4⟩ : ∃ x, Hid (x = wt3.setCell ⟨go, 0, none⟩ (.int .i64 z)) := ⟨_, Lib.hid rfl⟩
            rw [← Hwt4.out]
            have BA4 : Blk wt4 gA 26 #[.int .i64 (n : Int), .slice (some ⟨go, 0, none⟩) LL c] := by rw [Hwt4.out]; exact BA.far (by exact hgAgo) _
            have BR4 : Blk wt4 w.heap.size 26 #[.int .i64 0, .slice none 0 0] := by rw [Hwt4.out]; exact BR0.far (by exact hr0go) _
            have hcu4 : CurB B wt4 g (tq + 2 + 2) := by rw [Hwt4.out]; exact hcu.setFar (by exact hBgo) (by exact hgog) _
            have hgr4 : w.grownBy wt4 (some g) := by rw [Hwt4.out]; exact growB_new hgr (by exact hwgo) _
            have hsz4 : wt4.heap.size = wt3.heap.size := by rw [Hwt4.out]; simp
            have hgfz := hgf.size
            have hops4 : wt4.ownsRow lo 64 2 (.slice (some ⟨go, 0, none⟩) LL c) LL ([.int .i64 z, .slice TA tl cT] ++ css.flatten) := by rw [Hwt4.out]; simpa using (hops.stored 0 (.int .i64 z)).1
            have htab4 : wt4.ownsRow lo 3 1 (.slice TA tl cT) tl (ints T) := by rw [Hwt4.out]; exact own_same htab fun b hb => Below.heap_setCell _ _ _ _ (fun e => hne (by rw [hb, e]))
            have HPX := HPUT.out wt4 z T TA cT ⟨by omega, by omega⟩ HIT.out (by rw [HTL.out]; exact htab4) (by omega) (by rw [HTL.out]; exact hops4) (fun b q1 q2 q3 q4 q5 q6 => by rw [Hwt4.out]; exact growB_set hgf _ _ b q1 (fun e => q6 (by injection e)) q2) hgAl hwlo hglo (.inl (by rw [HTL.out]))
            obtain ⟨css', bls', PX⟩ := HPX
            replace cA1 := BA4.cell 1
            simp at cA1
            refine hK.out _ _ cA1 (fun hHeld3 => ?_)
            clear hK K hHeld2
            (try simp only [Act.put, List.getElem_toArray, List.getElem_cons_zero, List.getElem_cons_succ, List.setIfInBounds_toArray, List.set_cons_zero, List.set_cons_succ])
            refine wpAnyH_done (by kernel_rfl) ?_ _
            have hl4 : lo ≤ wt4.heap.size := by omega
            go_wp2_with fail
            go_meet
            exact ⟨(n : Int), (z, T) :: rest, wt4.heap.size, ⟨_, _, _, _, _, BA4, PX, BR4, hcu4.mono (by have := HTT.out; omega), hgr4, PX.2.2, hl4, Nat.le_refl _⟩, alg_q5 (fun o ho => by rcases List.mem_cons.1 ho with rfl | ho; exact (by show T.length ≤ 1000; rw [HTL.out]; omega); exact HRS.out o ho) (by rw [List.length_cons]; omega) (by omega) (by omega)⟩
          · -- too many operations
            subst hv
            have hxl : xs.length ≤ 2 := by have := HX.out.1; omega
            have hx64 : ∀ o ∈ xs, o.2.length ≤ 64 := fun o ho => (HX.out.2 o ho).2.2.2
            clear HX
            go_wp2_with fail
            go_loopw [122] (fun _ wr => ∃ (xs : List OpM) (hi LL : Nat), Hid (xs.length = LL ∧ ∀ o ∈ xs, o.2.length ≤ 64) ∧ LL ≤ 5 ∧ lo ≤ wr.heap.size ∧ AlS B g lo hi gA w.heap.size w wr (n : Int) xs (tq + 2 + 2 * LL)) (fun _ wr => 6 - lenAt wr gA 1)
            case atStart => exact ⟨xs, hi, xs.length, Lib.hid ⟨rfl, hx64⟩, by omega, by have := hS2.row; obtain ⟨_, _, _, _, _, _, _, _, _, _, q1, q2⟩ := this; omega, hS2.mono (by omega)⟩
            case round =>
              clear hS2 hxl hx64 hz2
              obtain ⟨xs, hi, LL, HXO', hL5, hlwr, hS⟩ := hrel
              obtain ⟨A, c, css, bls, BA, PX, BR0, hcu, hgr, hI, l1, l2⟩ := hS.row
              have HLL : Hid (xs.length = LL) := HXO'.out.1
              have HXO : Hid (∀ o ∈ xs, o.2.length ≤ 64) := HXO'.out.2
              rw [HLL.out] at BA PX hI
              have cA1 := BA.cell 1
              simp at cA1
              have hme := lenAt_eq cA1
              clear hS HXO'
              go_upto_region 27 with fail
              go_cut [122] from 116 to 122 (fun u wx => ∃ bb, u = .bool bb ∧ (bb = true → LL ≤ 4) ∧ ∃ A c css bls, Blk wx gA 26 #[.int .i64 (n : Int), .slice A LL c] ∧ PO lo wx (.slice A LL c) xs css bls ∧ Blk wx w.heap.size 26 #[.int .i64 0, .slice none 0 0] ∧ CurB B wx g (tq + 2 + 2 * LL + 2) ∧ w.grownBy wx (some g) ∧ hi ≤ wx.heap.size ∧ Iv lo hi (obl (.slice A LL c) ++ bls.flatten))
              case first =>
                refine wp_region_held_drew (S := fun w' => w'.cell? ⟨gA, 1, none⟩ = some (.slice A LL c)) (by kernel_rfl) cA1 (fun hHeld0 => ?_)
                obtain ⟨wt1, Hwt1⟩ : ∃ x, Hid (x = World.drew wr) := ⟨_, rfl⟩
                have hbwt1 : Below wr.heap.size wr wt1 := by rw [Hwt1.out]; exact (Below.refl _ _).drew
                rw [← Hwt1.out] at hHeld0 ⊢
                have ywt1 := hbwt1.size
                replace BA := BA.next hbwt1
                replace PX := PX.next hbwt1
                replace BR0 := BR0.next hbwt1
                replace hcu := hcu.next_ hbwt1
                replace hgr := growB_trans hgr (toGr hbwt1)
                replace cA1 := keepc hbwt1 cA1
                refine wpAnyH_take (i := 0) (v := .pointer (some ⟨gA, 1, none⟩)) rfl (by kernel_rfl) (by kernel_rfl) (by kernel_rfl) (fun _ _ _ h => h) (Or.inl ⟨by kernel_rfl, fun _ _ => by go_simp⟩) (by assumption) ?_
                (try simp only [Act.put, List.getElem_toArray, List.getElem_cons_zero, List.getElem_cons_succ, List.setIfInBounds_toArray, List.set_cons_zero, List.set_cons_succ])
                refine wpAnyH_take (i := 1) (v := .slice A LL c) rfl (by kernel_rfl) (by kernel_rfl) (by kernel_rfl) (fun _ _ _ h => h) (Or.inl ⟨by kernel_rfl, fun wv hSw => by (have hS0 := hSw); go_simp⟩) (by assumption) ?_
                (try simp only [Act.put, List.getElem_toArray, List.getElem_cons_zero, List.getElem_cons_succ, List.setIfInBounds_toArray, List.set_cons_zero, List.set_cons_succ])
                refine wpAnyH_take (i := 2) (v := .int .i64 (LL : Int)) rfl (by kernel_rfl) (by kernel_rfl) (by kernel_rfl) (fun _ _ _ h => h) (Or.inl ⟨by kernel_rfl, fun _ _ => by go_simp⟩) (by assumption) ?_
                (try simp only [Act.put, List.getElem_toArray, List.getElem_cons_zero, List.getElem_cons_succ, List.setIfInBounds_toArray, List.set_cons_zero, List.set_cons_succ])
                refine wpAnyH_take (i := 3) (v := .pointer (some ⟨g, 0, none⟩)) rfl (by kernel_rfl) (by kernel_rfl) (by kernel_rfl) (fun _ _ _ h => h) (Or.inl ⟨by kernel_rfl, fun _ _ => by go_simp⟩) (by assumption) ?_
                (try simp only [Act.put, List.getElem_toArray, List.getElem_cons_zero, List.getElem_cons_succ, List.setIfInBounds_toArray, List.set_cons_zero, List.set_cons_succ])
                refine wpAnyH_ready (rs := [4]) (by kernel_rfl) (by simp) ?_
                refine (AllReadyH.cons rfl (fun K hK => ?_) AllReadyH.nil)
                go_simp
                refine (pickB_any g (tq + 2 + 2 * LL) 2 wt1 hcu (by omega) (by omega)).mono ?_
                rintro e wt2 ⟨x, hx, rfl, hcx, hgx⟩
                replace BA := BA.grownG hgx hgAg
                replace PX := PX.grownG hgx hglo
                replace BR0 := BR0.grownG hgx hr0g
                replace hcu := hcx
                replace hgr := growB_trans hgr hgx
                replace cA1 := BA.cell 1
                simp at cA1
                have hw4 : IntKind.i64.wrap (4 + (x : Int)) = 4 + (x : Int) := by rw [IntKind.wrap_i64]; omega
                have hzx := hgx.size
                clear hcx hgx
                go_wp2_with fail
                refine hK.out _ _ cA1 (fun hHeld1 => ?_)
                clear hK K hHeld0
                (try simp only [Act.put, List.getElem_toArray, List.getElem_cons_zero, List.getElem_cons_succ, List.setIfInBounds_toArray, List.set_cons_zero, List.set_cons_succ])
                refine wpAnyH_take (i := 5) (v := .int .i64 (4 + (x : Int))) rfl (by kernel_rfl) (by kernel_rfl) (by kernel_rfl) (fun _ _ _ h => h) (Or.inl ⟨by kernel_rfl, fun _ _ => by go_simp⟩) (by assumption) ?_
                (try simp only [Act.put, List.getElem_toArray, List.getElem_cons_zero, List.getElem_cons_succ, List.setIfInBounds_toArray, List.set_cons_zero, List.set_cons_succ])
                refine wpAnyH_take (i := 6) (v := .bool (decide ((LL : Int) < 4 + (x : Int)))) rfl (by kernel_rfl) (by kernel_rfl) (by kernel_rfl) (fun _ _ _ h => h) (Or.inl ⟨by kernel_rfl, fun _ _ => by go_simp⟩) (by assumption) ?_
                (try simp only [Act.put, List.getElem_toArray, List.getElem_cons_zero, List.getElem_cons_succ, List.setIfInBounds_toArray, List.set_cons_zero, List.set_cons_succ])
                refine wpAnyH_done (by kernel_rfl) ?_ _
                have hbx : decide ((LL : Int) < 4 + (x : Int)) = true → LL ≤ 4 := fun h => by have := of_decide_eq_true h; omega
                have hl2 : hi ≤ wt2.heap.size := by omega
                go_wp2_with fail
                go_meet
                exact ⟨_, rfl, hbx, A, c, css, bls, BA, PX, BR0, hcu, hgr, hl2, hI⟩
              case rest =>
                clear BA PX BR0 hcu hgr hI l2 cA1
                obtain ⟨bb, rfl, hbb, A, c, css, bls, BA, PX, BR0, hcu, hgr, l2, hI⟩ := hcut
                obtain ⟨wd, HWC⟩ : ∃ wq : World, wq = wc := ⟨_, rfl⟩
                subst HWC
                rcases bb with _ | _
                · go_wp2_with fail
                  go_meet
                  exact ⟨(n : Int), xs, hi, ⟨A, LL, c, css, bls, BA, PX, BR0, hcu.mono (by have := HTT.out; omega), hgr, hI, l1, l2⟩, alg_q5 (fun o ho => by have := HXO.out o ho; omega) (by rw [HLL.out]; omega) (by omega) (by omega)⟩
                · have hL4 := hbb rfl
                  have cA0 := BA.cell 0
                  have cA1 := BA.cell 1
                  simp at cA0 cA1
                  clear hbb
                  go_upto_region 28 with fail
                  refine wp_region_held_drew (S := fun w' => w'.cell? ⟨gA, 0, none⟩ = some (.int .i64 (n : Int))) (by kernel_rfl) cA0 (fun hHeld0 => ?_)
                  obtain ⟨wt1, Hwt1⟩ : ∃ x, Hid (x = World.drew wd) := ⟨_, rfl⟩
                  have hbwt1 : Below wd.heap.size wd wt1 := by rw [Hwt1.out]; exact (Below.refl _ _).drew
                  rw [← Hwt1.out] at hHeld0 ⊢
                  have ywt1 := hbwt1.size
                  replace BA := BA.next hbwt1
                  replace PX := PX.next hbwt1
                  replace BR0 := BR0.next hbwt1
                  replace hcu := hcu.next_ hbwt1
                  replace hgr := growB_trans hgr (toGr hbwt1)
                  replace cA1 := keepc hbwt1 cA1
                  replace cA0 := keepc hbwt1 cA0
                  refine wpAnyH_take (i := 0) (v := .pointer (some ⟨gA, 1, none⟩)) rfl (by kernel_rfl) (by kernel_rfl) (by kernel_rfl) (fun _ _ _ h => h) (Or.inl ⟨by kernel_rfl, fun _ _ => by go_simp⟩) (by assumption) ?_
                  (try simp only [Act.put, List.getElem_toArray, List.getElem_cons_zero, List.getElem_cons_succ, List.setIfInBounds_toArray, List.set_cons_zero, List.set_cons_succ])
                  refine wpAnyH_take (i := 2) (v := .int .i64 (n : Int)) rfl (by kernel_rfl) (by kernel_rfl) (by kernel_rfl) (fun _ _ _ h => h) (Or.inl ⟨by kernel_rfl, fun _ _ => by go_simp⟩) (by assumption) ?_
                  (try simp only [Act.put, List.getElem_toArray, List.getElem_cons_zero, List.getElem_cons_succ, List.setIfInBounds_toArray, List.set_cons_zero, List.set_cons_succ])
                  refine wpAnyH_ready (rs := [1, 3]) (by kernel_rfl) (by simp) ?_
                  refine (AllReadyH.cons rfl (fun K hK => ?_) (AllReadyH.cons rfl (fun K hK => ?_) AllReadyH.nil))
                  · go_simp
                    refine hK.out _ _ cA0 (fun hHeld1 => ?_)
                    clear hK K hHeld0
                    (try simp only [Act.put, List.getElem_toArray, List.getElem_cons_zero, List.getElem_cons_succ, List.setIfInBounds_toArray, List.set_cons_zero, List.set_cons_succ])
                    refine wpAnyH_ready (rs := [3]) (by kernel_rfl) (by simp) ?_
                    refine (AllReadyH.cons rfl (fun K hK => ?_) AllReadyH.nil)
                    have hmk := run_make_row' (P := Tryz.prog) 27 3 (.int .i64 0) 8 Tryz.underlying27 info_int rfl .i64 .i64 n (by omega) (by omega) wt1
                    rw [made_ints] at hmk
                    go_simp
                    obtain ⟨wt2, Hwt2⟩ : ∃ q, Hid (q = wt1.alloc (.cells (ints (List.replicate n 0)).toArray 3)) := ⟨_, Lib.hid rfl⟩
                    rw [← Hwt2.out]
                    have hbwt2 : Below wt1.heap.size wt1 wt2 := by rw [Hwt2.out]; exact below_box _ _
                    have OT : shOp.own wt2 [.int .i64 1, .slice (some ⟨wt1.heap.size, 0, none⟩) n n] (1, List.replicate n 0) [wt1.heap.size] := by rw [Hwt2.out]; exact own_tab ⟨by omega, by omega⟩ (List.length_replicate ..) (by omega) (fun u hu => by rw [List.eq_of_mem_replicate hu]; exact ⟨by omega, by omega⟩)
                    have hTl : hi ≤ wt1.heap.size := by omega
                    have hTs : wt1.heap.size < wt2.heap.size := by rw [Hwt2.out]; simp
                    clear hmk
                    have ywt2 := hbwt2.size
                    replace BA := BA.next hbwt2
                    replace PX := PX.next hbwt2
                    replace BR0 := BR0.next hbwt2
                    replace hcu := hcu.next_ hbwt2
                    replace hgr := growB_trans hgr (toGr hbwt2)
                    replace cA1 := keepc hbwt2 cA1
                    replace cA0 := keepc hbwt2 cA0
                    skip
                    refine hK.out _ _ cA0 (fun hHeld2 => ?_)
                    clear hK K hHeld1
                    (try simp only [Act.put, List.getElem_toArray, List.getElem_cons_zero, List.getElem_cons_succ, List.setIfInBounds_toArray, List.set_cons_zero, List.set_cons_succ])
                    refine wpAnyH_take (i := 4) (v := .agg #[.int .i64 1, .slice (some ⟨wt1.heap.size, 0, none⟩) n n]) rfl (by kernel_rfl) (by kernel_rfl) (by kernel_rfl) (fun _ _ _ h => h) (Or.inl ⟨by kernel_rfl, fun _ _ => by go_simp⟩) (by assumption) ?_
                    (try simp only [Act.put, List.getElem_toArray, List.getElem_cons_zero, List.getElem_cons_succ, List.setIfInBounds_toArray, List.set_cons_zero, List.set_cons_succ])
                    refine wpAnyH_ready (rs := [5]) (by kernel_rfl) (by simp) ?_
                    refine (AllReadyH.cons rfl (fun K hK => ?_) AllReadyH.nil)
                    have PXP := PX
                    have hrowP := PX.2.1
                    rw [HLL.out] at hrowP
                    have BAP := BA
                    have BRP := BR0
                    have hcuP := hcu
                    have hgrP := hgr
                    have OTP := OT
                    have hloP : lo ≤ wt2.heap.size := by omega
                    go_simp
                    obtain ⟨wt3, Hwt3⟩ : ∃ x, Hid (x = wt2.alloc (.cells #[.int .i64 1, .slice (some ⟨wt1.heap.size, 0, none⟩) n n] 64)) := ⟨_, Lib.hid rfl⟩
                    rw [← Hwt3.out]
                    have hbwt3 : Below wt2.heap.size wt2 wt3 := by rw [Hwt3.out]; exact below_box _ _
                    have Bwt3 : Blk wt3 wt2.heap.size 64 #[.int .i64 1, .slice (some ⟨wt1.heap.size, 0, none⟩) n n] := by rw [Hwt3.out]; exact Blk.new _ _ _
                    have zwt3 : wt2.heap.size < wt3.heap.size := Bwt3.lt
                    have ywt3 := hbwt3.size
                    replace BA := BA.next hbwt3
                    replace PX := PX.next hbwt3
                    replace BR0 := BR0.next hbwt3
                    replace hcu := hcu.next_ hbwt3
                    replace hgr := growB_trans hgr (toGr hbwt3)
                    replace cA1 := keepc hbwt3 cA1
                    replace OT := Sh.onext OT hbwt3
                    replace cA0 := keepc hbwt3 cA0
                    refine hK.out _ _ cA0 (fun hHeld3 => ?_)
                    clear hK K hHeld2
                    (try simp only [Act.put, List.getElem_toArray, List.getElem_cons_zero, List.getElem_cons_succ, List.setIfInBounds_toArray, List.set_cons_zero, List.set_cons_succ])
                    refine wpAnyH_ready (rs := [6]) (by kernel_rfl) (by simp) ?_
                    refine (AllReadyH.cons rfl (fun K hK => ?_) AllReadyH.nil)
                    rw [Hwt3.out]
                    refine step_app2 wt2 rfl (.tmp 124) (.tmp 128) 24 64 rfl (.agg #[.int .i64 0, .slice none 0 0]) 32 Tryz.underlying24 info_op2 rfl (by decide) lo LL c A css.flatten (by rfl) hrowP (.int .i64 1) (.slice (some ⟨wt1.heap.size, 0, none⟩) n n) rfl rfl (by rfl) (by omega) hloP ?_
                    intro A3 c3 wt4 hown3 hg3 hb3
                    have PX2 := PXP.push2 hI OTP ⟨by simp, fun b hb => by rw [List.mem_singleton.1 hb]; omega⟩ l1 (by rw [HLL.out]; exact hown3) hg3
                    have BA2 := BAP.below hb3 hgAl
                    have BR2 := BRP.below hb3 hwlo
                    have hrl := fun r' e => (hrowP.lt r' e).1
                    have hcu2 := hcuP.grown hg3 (fun r' e => by have := hrl r' e; omega)
                    have hgr2 := growB_own hgrP hg3 (fun r' e => by have := hrl r' e; omega)
                    have hz3 := hg3.size
                    replace cA0 := BA2.cell 0
                    simp at cA0
                    refine hK.out _ _ cA0 (fun hHeld4 => ?_)
                    clear hK K hHeld3
                    (try simp only [Act.put, List.getElem_toArray, List.getElem_cons_zero, List.getElem_cons_succ, List.setIfInBounds_toArray, List.set_cons_zero, List.set_cons_succ])
                    refine wpAnyH_take (i := 7) (v := .pointer (some ⟨gA, 1, none⟩)) rfl (by kernel_rfl) (by kernel_rfl) (by kernel_rfl) (fun _ _ _ h => h) (Or.inl ⟨by kernel_rfl, fun _ _ => by go_simp⟩) (by assumption) ?_
                    (try simp only [Act.put, List.getElem_toArray, List.getElem_cons_zero, List.getElem_cons_succ, List.setIfInBounds_toArray, List.set_cons_zero, List.set_cons_succ])
                    refine wpAnyH_ready (rs := [8]) (by kernel_rfl) (by simp) ?_
                    refine (AllReadyH.cons rfl (fun K hK => ?_) AllReadyH.nil)
                    have fA1 := BA2.frozen 1
                    replace cA1 := BA2.cell 1
                    simp at cA1
                    go_simp
                    obtain ⟨wt5, Hwt5⟩ : ∃ q, Hid (q = wt4.setCell ⟨gA, 1, none⟩ (.slice A3 (LL + 1) c3)) := ⟨_, Lib.hid rfl⟩
                    rw [← Hwt5.out]
                    have BA4 : Blk wt5 gA 26 #[.int .i64 (n : Int), .slice A3 (LL + 1) c3] := by rw [Hwt5.out]; simpa using BA2.set_ 1 (.slice A3 (LL + 1) c3)
                    have BR4 : Blk wt5 w.heap.size 26 #[.int .i64 0, .slice none 0 0] := by rw [Hwt5.out]; exact BR2.far (by exact hwgA) _
                    have PX4 : PO lo wt5 (.slice A3 (LL + 1) c3) (xs ++ [(1, List.replicate n 0)]) (css ++ [[.int .i64 1, .slice (some ⟨wt1.heap.size, 0, none⟩) n n]]) (bls ++ [[wt1.heap.size]]) := by rw [Hwt5.out]; exact PX2.far (p := ⟨gA, 1, none⟩) (by exact hgAl) _
                    have hcu4 : CurB B wt5 g (tq + 2 + 2 * LL + 2) := by rw [Hwt5.out]; exact hcu2.setFar (by exact hBgA) (by exact hgAg) _
                    have hgr4 : w.grownBy wt5 (some g) := by rw [Hwt5.out]; exact growB_new hgr2 (by exact hwgA2) _
                    have hsz4 : wt5.heap.size = wt4.heap.size := by rw [Hwt5.out]; simp
                    replace cA0 := BA4.cell 0
                    simp at cA0
                    refine hK.out _ _ cA0 (fun hHeld5 => ?_)
                    clear hK K hHeld4
                    (try simp only [Act.put, List.getElem_toArray, List.getElem_cons_zero, List.getElem_cons_succ, List.setIfInBounds_toArray, List.set_cons_zero, List.set_cons_succ])
                    refine wpAnyH_done (by kernel_rfl) ?_ _
                    have HX2 : Hid ((xs ++ [((1 : Int), List.replicate n (0 : Int))]).length = LL + 1 ∧ ∀ o ∈ xs ++ [((1 : Int), List.replicate n (0 : Int))], o.2.length ≤ 64) := by
                      refine ⟨by rw [List.length_append, HLL.out]; rfl, fun o ho => ?_⟩
                      rcases List.mem_append.1 ho with ho | ho
                      · exact HXO.out o ho
                      · rw [List.mem_singleton.1 ho]; simp; omega
                    have hl4 : lo ≤ wt5.heap.size := by omega
                    have cA9 := BA4.cell 1
                    simp at cA9
                    have hmes := lenAt_eq cA9
                    go_wp2_with fail
                    go_roundw
                    case rel =>
                      (repeat apply Exists.intro)
                      refine ⟨?_, rfl⟩
                      exact ⟨xs ++ [((1 : Int), List.replicate n (0 : Int))], wt5.heap.size, LL + 1, HX2, by omega, by omega, ⟨_, _, _, _, _, BA4, PX4, BR4, hcu4.mono (by omega), hgr4, PX4.2.2, hl4, Nat.le_refl _⟩⟩
                    case measure => rw [hmes]; have := hme; omega
                  · have hmk := run_make_row' (P := Tryz.prog) 27 3 (.int .i64 0) 8 Tryz.underlying27 info_int rfl .i64 .i64 n (by omega) (by omega) wt1
                    rw [made_ints] at hmk
                    go_simp
                    obtain ⟨wt6, Hwt6⟩ : ∃ q, Hid (q = wt1.alloc (.cells (ints (List.replicate n 0)).toArray 3)) := ⟨_, Lib.hid rfl⟩
                    rw [← Hwt6.out]
                    have hbwt6 : Below wt1.heap.size wt1 wt6 := by rw [Hwt6.out]; exact below_box _ _
                    have OT : shOp.own wt6 [.int .i64 1, .slice (some ⟨wt1.heap.size, 0, none⟩) n n] (1, List.replicate n 0) [wt1.heap.size] := by rw [Hwt6.out]; exact own_tab ⟨by omega, by omega⟩ (List.length_replicate ..) (by omega) (fun u hu => by rw [List.eq_of_mem_replicate hu]; exact ⟨by omega, by omega⟩)
                    have hTl : hi ≤ wt1.heap.size := by omega
                    have hTs : wt1.heap.size < wt6.heap.size := by rw [Hwt6.out]; simp
                    clear hmk
                    have ywt6 := hbwt6.size
                    replace BA := BA.next hbwt6
                    replace PX := PX.next hbwt6
                    replace BR0 := BR0.next hbwt6
                    replace hcu := hcu.next_ hbwt6
                    replace hgr := growB_trans hgr (toGr hbwt6)
                    replace cA1 := keepc hbwt6 cA1
                    replace cA0 := keepc hbwt6 cA0
                    skip
                    refine hK.out _ _ cA0 (fun hHeld1 => ?_)
                    clear hK K hHeld0
                    (try simp only [Act.put, List.getElem_toArray, List.getElem_cons_zero, List.getElem_cons_succ, List.setIfInBounds_toArray, List.set_cons_zero, List.set_cons_succ])
                    refine wpAnyH_take (i := 4) (v := .agg #[.int .i64 1, .slice (some ⟨wt1.heap.size, 0, none⟩) n n]) rfl (by kernel_rfl) (by kernel_rfl) (by kernel_rfl) (fun _ _ _ h => h) (Or.inl ⟨by kernel_rfl, fun _ _ => by go_simp⟩) (by assumption) ?_
                    (try simp only [Act.put, List.getElem_toArray, List.getElem_cons_zero, List.getElem_cons_succ, List.setIfInBounds_toArray, List.set_cons_zero, List.set_cons_succ])
                    refine wpAnyH_ready (rs := [1, 5]) (by kernel_rfl) (by simp) ?_
                    refine (AllReadyH.cons rfl (fun K hK => ?_) (AllReadyH.cons rfl (fun K hK => ?_) AllReadyH.nil))
                    · go_simp
                      refine hK.out _ _ cA0 (fun hHeld2 => ?_)
                      clear hK K hHeld1
                      (try simp only [Act.put, List.getElem_toArray, List.getElem_cons_zero, List.getElem_cons_succ, List.setIfInBounds_toArray, List.set_cons_zero, List.set_cons_succ])
                      refine wpAnyH_ready (rs := [5]) (by kernel_rfl) (by simp) ?_
                      refine (AllReadyH.cons rfl (fun K hK => ?_) AllReadyH.nil)
                      have PXP := PX
                      have hrowP := PX.2.1
                      rw [HLL.out] at hrowP
                      have BAP := BA
                      have BRP := BR0
                      have hcuP := hcu
                      have hgrP := hgr
                      have OTP := OT
                      have hloP : lo ≤ wt6.heap.size := by omega
                      go_simp
                      obtain ⟨wt7, Hwt7⟩ : ∃ x, Hid (x = wt6.alloc (.cells #[.int .i64 1, .slice (some ⟨wt1.heap.size, 0, none⟩) n n] 64)) := ⟨_, Lib.hid rfl⟩
                      rw [← Hwt7.out]
                      have hbwt7 : Below wt6.heap.size wt6 wt7 := by rw [Hwt7.out]; exact below_box _ _
                      have Bwt7 : Blk wt7 wt6.heap.size 64 #[.int .i64 1, .slice (some ⟨wt1.heap.size, 0, none⟩) n n] := by rw [Hwt7.out]; exact Blk.new _ _ _
                      have zwt7 : wt6.heap.size < wt7.heap.size := Bwt7.lt
                      have ywt7 := hbwt7.size
                      replace BA := BA.next hbwt7
                      replace PX := PX.next hbwt7
                      replace BR0 := BR0.next hbwt7
                      replace hcu := hcu.next_ hbwt7
                      replace hgr := growB_trans hgr (toGr hbwt7)
                      replace cA1 := keepc hbwt7 cA1
                      replace OT := Sh.onext OT hbwt7
                      replace cA0 := keepc hbwt7 cA0
                      refine hK.out _ _ cA0 (fun hHeld3 => ?_)
                      clear hK K hHeld2
                      (try simp only [Act.put, List.getElem_toArray, List.getElem_cons_zero, List.getElem_cons_succ, List.setIfInBounds_toArray, List.set_cons_zero, List.set_cons_succ])
                      refine wpAnyH_ready (rs := [6]) (by kernel_rfl) (by simp) ?_
                      refine (AllReadyH.cons rfl (fun K hK => ?_) AllReadyH.nil)
                      rw [Hwt7.out]
                      refine step_app2 wt6 rfl (.tmp 124) (.tmp 128) 24 64 rfl (.agg #[.int .i64 0, .slice none 0 0]) 32 Tryz.underlying24 info_op2 rfl (by decide) lo LL c A css.flatten (by rfl) hrowP (.int .i64 1) (.slice (some ⟨wt1.heap.size, 0, none⟩) n n) rfl rfl (by rfl) (by omega) hloP ?_
                      intro A3 c3 wt8 hown3 hg3 hb3
                      have PX2 := PXP.push2 hI OTP ⟨by simp, fun b hb => by rw [List.mem_singleton.1 hb]; omega⟩ l1 (by rw [HLL.out]; exact hown3) hg3
                      have BA2 := BAP.below hb3 hgAl
                      have BR2 := BRP.below hb3 hwlo
                      have hrl := fun r' e => (hrowP.lt r' e).1
                      have hcu2 := hcuP.grown hg3 (fun r' e => by have := hrl r' e; omega)
                      have hgr2 := growB_own hgrP hg3 (fun r' e => by have := hrl r' e; omega)
                      have hz3 := hg3.size
                      replace cA0 := BA2.cell 0
                      simp at cA0
                      refine hK.out _ _ cA0 (fun hHeld4 => ?_)
                      clear hK K hHeld3
                      (try simp only [Act.put, List.getElem_toArray, List.getElem_cons_zero, List.getElem_cons_succ, List.setIfInBounds_toArray, List.set_cons_zero, List.set_cons_succ])
                      refine wpAnyH_take (i := 7) (v := .pointer (some ⟨gA, 1, none⟩)) rfl (by kernel_rfl) (by kernel_rfl) (by kernel_rfl) (fun _ _ _ h => h) (Or.inl ⟨by kernel_rfl, fun _ _ => by go_simp⟩) (by assumption) ?_
                      (try simp only [Act.put, List.getElem_toArray, List.getElem_cons_zero, List.getElem_cons_succ, List.setIfInBounds_toArray, List.set_cons_zero, List.set_cons_succ])
                      refine wpAnyH_ready (rs := [8]) (by kernel_rfl) (by simp) ?_
                      refine (AllReadyH.cons rfl (fun K hK => ?_) AllReadyH.nil)
                      have fA1 := BA2.frozen 1
                      replace cA1 := BA2.cell 1
                      simp at cA1
                      go_simp
                      obtain ⟨wt9, Hwt9⟩ : ∃ q, Hid (q = wt8.setCell ⟨gA, 1, none⟩ (.slice A3 (LL + 1) c3)) := ⟨_, Lib.hid rfl⟩
                      rw [← Hwt9.out]
                      have BA4 : Blk wt9 gA 26 #[.int .i64 (n : Int), .slice A3 (LL + 1) c3] := by rw [Hwt9.out]; simpa using BA2.set_ 1 (.slice A3 (LL + 1) c3)
                      have BR4 : Blk wt9 w.heap.size 26 #[.int .i64 0, .slice none 0 0] := by rw [Hwt9.out]; exact BR2.far (by exact hwgA) _
                      have PX4 : PO lo wt9 (.slice A3 (LL + 1) c3) (xs ++ [(1, List.replicate n 0)]) (css ++ [[.int .i64 1, .slice (some ⟨wt1.heap.size, 0, none⟩) n n]]) (bls ++ [[wt1.heap.size]]) := by rw [Hwt9.out]; exact PX2.far (p := ⟨gA, 1, none⟩) (by exact hgAl) _
                      have hcu4 : CurB B wt9 g (tq + 2 + 2 * LL + 2) := by rw [Hwt9.out]; exact hcu2.setFar (by exact hBgA) (by exact hgAg) _
                      have hgr4 : w.grownBy wt9 (some g) := by rw [Hwt9.out]; exact growB_new hgr2 (by exact hwgA2) _
                      have hsz4 : wt9.heap.size = wt8.heap.size := by rw [Hwt9.out]; simp
                      replace cA0 := BA4.cell 0
                      simp at cA0
                      refine hK.out _ _ cA0 (fun hHeld5 => ?_)
                      clear hK K hHeld4
                      (try simp only [Act.put, List.getElem_toArray, List.getElem_cons_zero, List.getElem_cons_succ, List.setIfInBounds_toArray, List.set_cons_zero, List.set_cons_succ])
                      refine wpAnyH_done (by kernel_rfl) ?_ _
                      have HX2 : Hid ((xs ++ [((1 : Int), List.replicate n (0 : Int))]).length = LL + 1 ∧ ∀ o ∈ xs ++ [((1 : Int), List.replicate n (0 : Int))], o.2.length ≤ 64) := by
                        refine ⟨by rw [List.length_append, HLL.out]; rfl, fun o ho => ?_⟩
                        rcases List.mem_append.1 ho with ho | ho
                        · exact HXO.out o ho
                        · rw [List.mem_singleton.1 ho]; simp; omega
                      have hl4 : lo ≤ wt9.heap.size := by omega
                      have cA9 := BA4.cell 1
                      simp at cA9
                      have hmes := lenAt_eq cA9
                      go_wp2_with fail
                      go_roundw
                      case rel =>
                        (repeat apply Exists.intro)
                        refine ⟨?_, rfl⟩
                        exact ⟨xs ++ [((1 : Int), List.replicate n (0 : Int))], wt9.heap.size, LL + 1, HX2, by omega, by omega, ⟨_, _, _, _, _, BA4, PX4, BR4, hcu4.mono (by omega), hgr4, PX4.2.2, hl4, Nat.le_refl _⟩⟩
                      case measure => rw [hmes]; have := hme; omega
                    · have PXP := PX
                      have hrowP := PX.2.1
                      rw [HLL.out] at hrowP
                      have BAP := BA
                      have BRP := BR0
                      have hcuP := hcu
                      have hgrP := hgr
                      have OTP := OT
                      have hloP : lo ≤ wt6.heap.size := by omega
                      go_simp
                      obtain ⟨wt10, Hwt10⟩ : ∃ x, Hid (x = wt6.alloc (.cells #[.int .i64 1, .slice (some ⟨wt1.heap.size, 0, none⟩) n n] 64)) := ⟨_, Lib.hid rfl⟩
                      rw [← Hwt10.out]
                      have hbwt10 : Below wt6.heap.size wt6 wt10 := by rw [Hwt10.out]; exact below_box _ _
                      have Bwt10 : Blk wt10 wt6.heap.size 64 #[.int .i64 1, .slice (some ⟨wt1.heap.size, 0, none⟩) n n] := by rw [Hwt10.out]; exact Blk.new _ _ _
                      have zwt10 : wt6.heap.size < wt10.heap.size := Bwt10.lt
                      have ywt10 := hbwt10.size
                      replace BA := BA.next hbwt10
                      replace PX := PX.next hbwt10
                      replace BR0 := BR0.next hbwt10
                      replace hcu := hcu.next_ hbwt10
                      replace hgr := growB_trans hgr (toGr hbwt10)
                      replace cA1 := keepc hbwt10 cA1
                      replace OT := Sh.onext OT hbwt10
                      replace cA0 := keepc hbwt10 cA0
                      refine hK.out _ _ cA0 (fun hHeld2 => ?_)
                      clear hK K hHeld1
                      (try simp only [Act.put, List.getElem_toArray, List.getElem_cons_zero, List.getElem_cons_succ, List.setIfInBounds_toArray, List.set_cons_zero, List.set_cons_succ])
                      refine wpAnyH_ready (rs := [1]) (by kernel_rfl) (by simp) ?_
                      refine (AllReadyH.cons rfl (fun K hK => ?_) AllReadyH.nil)
                      go_simp
                      refine hK.out _ _ cA0 (fun hHeld3 => ?_)
                      clear hK K hHeld2
                      (try simp only [Act.put, List.getElem_toArray, List.getElem_cons_zero, List.getElem_cons_succ, List.setIfInBounds_toArray, List.set_cons_zero, List.set_cons_succ])
                      refine wpAnyH_ready (rs := [6]) (by kernel_rfl) (by simp) ?_
                      refine (AllReadyH.cons rfl (fun K hK => ?_) AllReadyH.nil)
                      rw [Hwt10.out]
                      refine step_app2 wt6 rfl (.tmp 124) (.tmp 128) 24 64 rfl (.agg #[.int .i64 0, .slice none 0 0]) 32 Tryz.underlying24 info_op2 rfl (by decide) lo LL c A css.flatten (by rfl) hrowP (.int .i64 1) (.slice (some ⟨wt1.heap.size, 0, none⟩) n n) rfl rfl (by rfl) (by omega) hloP ?_
                      intro A3 c3 wt11 hown3 hg3 hb3
                      have PX2 := PXP.push2 hI OTP ⟨by simp, fun b hb => by rw [List.mem_singleton.1 hb]; omega⟩ l1 (by rw [HLL.out]; exact hown3) hg3
                      have BA2 := BAP.below hb3 hgAl
                      have BR2 := BRP.below hb3 hwlo
                      have hrl := fun r' e => (hrowP.lt r' e).1
                      have hcu2 := hcuP.grown hg3 (fun r' e => by have := hrl r' e; omega)
                      have hgr2 := growB_own hgrP hg3 (fun r' e => by have := hrl r' e; omega)
                      have hz3 := hg3.size
                      replace cA0 := BA2.cell 0
                      simp at cA0
                      refine hK.out _ _ cA0 (fun hHeld4 => ?_)
                      clear hK K hHeld3
                      (try simp only [Act.put, List.getElem_toArray, List.getElem_cons_zero, List.getElem_cons_succ, List.setIfInBounds_toArray, List.set_cons_zero, List.set_cons_succ])
                      refine wpAnyH_take (i := 7) (v := .pointer (some ⟨gA, 1, none⟩)) rfl (by kernel_rfl) (by kernel_rfl) (by kernel_rfl) (fun _ _ _ h => h) (Or.inl ⟨by kernel_rfl, fun _ _ => by go_simp⟩) (by assumption) ?_
                      (try simp only [Act.put, List.getElem_toArray, List.getElem_cons_zero, List.getElem_cons_succ, List.setIfInBounds_toArray, List.set_cons_zero, List.set_cons_succ])
                      refine wpAnyH_ready (rs := [8]) (by kernel_rfl) (by simp) ?_
                      refine (AllReadyH.cons rfl (fun K hK => ?_) AllReadyH.nil)
                      have fA1 := BA2.frozen 1
                      replace cA1 := BA2.cell 1
                      simp at cA1
                      go_simp
                      obtain ⟨wt12, Hwt12⟩ : ∃ q, Hid (q = wt11.setCell ⟨gA, 1, none⟩ (.slice A3 (LL + 1) c3)) := ⟨_, Lib.hid rfl⟩
                      rw [← Hwt12.out]
                      have BA4 : Blk wt12 gA 26 #[.int .i64 (n : Int), .slice A3 (LL + 1) c3] := by rw [Hwt12.out]; simpa using BA2.set_ 1 (.slice A3 (LL + 1) c3)
                      have BR4 : Blk wt12 w.heap.size 26 #[.int .i64 0, .slice none 0 0] := by rw [Hwt12.out]; exact BR2.far (by exact hwgA) _
                      have PX4 : PO lo wt12 (.slice A3 (LL + 1) c3) (xs ++ [(1, List.replicate n 0)]) (css ++ [[.int .i64 1, .slice (some ⟨wt1.heap.size, 0, none⟩) n n]]) (bls ++ [[wt1.heap.size]]) := by rw [Hwt12.out]; exact PX2.far (p := ⟨gA, 1, none⟩) (by exact hgAl) _
                      have hcu4 : CurB B wt12 g (tq + 2 + 2 * LL + 2) := by rw [Hwt12.out]; exact hcu2.setFar (by exact hBgA) (by exact hgAg) _
                      have hgr4 : w.grownBy wt12 (some g) := by rw [Hwt12.out]; exact growB_new hgr2 (by exact hwgA2) _
                      have hsz4 : wt12.heap.size = wt11.heap.size := by rw [Hwt12.out]; simp
                      replace cA0 := BA4.cell 0
                      simp at cA0
                      refine hK.out _ _ cA0 (fun hHeld5 => ?_)
                      clear hK K hHeld4
                      (try simp only [Act.put, List.getElem_toArray, List.getElem_cons_zero, List.getElem_cons_succ, List.setIfInBounds_toArray, List.set_cons_zero, List.set_cons_succ])
                      refine wpAnyH_done (by kernel_rfl) ?_ _
                      have HX2 : Hid ((xs ++ [((1 : Int), List.replicate n (0 : Int))]).length = LL + 1 ∧ ∀ o ∈ xs ++ [((1 : Int), List.replicate n (0 : Int))], o.2.length ≤ 64) := by
                        refine ⟨by rw [List.length_append, HLL.out]; rfl, fun o ho => ?_⟩
                        rcases List.mem_append.1 ho with ho | ho
                        · exact HXO.out o ho
                        · rw [List.mem_singleton.1 ho]; simp; omega
                      have hl4 : lo ≤ wt12.heap.size := by omega
                      have cA9 := BA4.cell 1
                      simp at cA9
                      have hmes := lenAt_eq cA9
                      go_wp2_with fail
                      go_roundw
                      case rel =>
                        (repeat apply Exists.intro)
                        refine ⟨?_, rfl⟩
                        exact ⟨xs ++ [((1 : Int), List.replicate n (0 : Int))], wt12.heap.size, LL + 1, HX2, by omega, by omega, ⟨_, _, _, _, _, BA4, PX4, BR4, hcu4.mono (by omega), hgr4, PX4.2.2, hl4, Nat.le_refl _⟩⟩
                      case measure => rw [hmes]; have := hme; omega
          · have e0 : ((v : Int) == 0) = false := by simp; omega
            have e1 : ((v : Int) == 1) = false := by simp; omega
            have e2 : ((v : Int) == 2) = false := by simp; omega
            have e3 : ((v : Int) == 3) = false := by simp; omega
            have e4 : ((v : Int) == 4) = false := by simp; omega
            clear hv
            go_wp2_with fail
            go_meet
            exact ⟨(n : Int), xs, hi, hS2.mono (by have := HTT.out; omega), opsQ_alg5 HX.out.2 (by have := HX.out.1; omega) (by omega) (by omega)⟩
        case rest =>
          clear hS2 HX HTT HTQ htq
          obtain ⟨z, ys, hi2, hS, hQ⟩ := hcut
          obtain ⟨wx, HWC⟩ : ∃ wq : World, wq = wc := ⟨_, rfl⟩
          subst HWC
          obtain ⟨A, m, c, css, bls, BA, PX, BR, hcu, hgr, hI, l1, l2⟩ := hS
          obtain ⟨wf, HWF⟩ : ∃ wf, Hid (wf = (wx.setCell ⟨w.heap.size, 0, none⟩ (.int .i64 z)).setCell ⟨w.heap.size, 1, none⟩ (.slice A m c)) := ⟨_, Lib.hid rfl⟩
          have BLF : Hid (Blk wf w.heap.size 26 #[.int .i64 z, .slice A m c]) := by show Blk _ _ _ _; rw [HWF.out]; simpa using (BR.set_ 0 (.int .i64 z)).set_ 1 (.slice A m c)
          have PF := (PX.far (p := ⟨w.heap.size, 0, none⟩) (by exact hwlo) (.int .i64 z)).far (p := ⟨w.heap.size, 1, none⟩) (by exact hwlo) (.slice A m c)
          rw [← HWF.out] at PF
          have hzz : InR z := ⟨by have := hQ.1.1; omega, by have := hQ.1.2.1; omega⟩
          have OF := Lib.hid (PF.algK hzz)
          have CF : Hid (CurB B wf g (t + 2000)) := by show CurB _ _ _ _; rw [HWF.out]; exact (hcu.setFar (p := ⟨w.heap.size, 0, none⟩) hB hr0g _).setFar (p := ⟨w.heap.size, 1, none⟩) hB hr0g _
          have GF : Hid (w.grownBy wf (some g)) := by show World.grownBy _ _ _; rw [HWF.out]; exact growB_new (growB_new hgr (p := ⟨w.heap.size, 0, none⟩) (Nat.le_refl _) _) (p := ⟨w.heap.size, 1, none⟩) (Nat.le_refl _) _
          have IF : Hid (Iv w.heap.size wf.heap.size (obl (.slice A m c) ++ bls.flatten)) := PF.2.2.mono (by omega) (Nat.le_refl _)
          have cA0 := BA.cell 0
          have cA1 := BA.cell 1
          have cR0 := BR.cell 0
          have cR1 := BR.cell 1
          simp at cA0 cA1 cR0 cR1
          have fR0 := BR.frozen 0
          have fR1 := BR.frozen 1
          have HQ := Lib.hid hQ
          clear PF PX BA BR hcu hgr hI hQ hzz
          go_wp2_with fail
          rw [← HWF.out]
          (try simp only [Exit.inBlock, Exit.then])
          refine bodyPost_ret (v := .agg #[.int .i64 z, .slice A m c]) (results_cell_row rfl _ _ w.heap.size 26 #[.int .i64 z, .slice A m c] (0, 0) _ (by simp) BLF.out Tryz.underlying26 rfl (by kernel_rfl)) rfl ?_
          exact ⟨[.int .i64 z, .slice A m c], (z, ys), _, rfl, OF.out, IF.out, HQ.out, CF.out, GF.out⟩
theorem cell_far2 {w : World} {r gx i : Nat} {u v : Value} (h : r ≠ gx) : ((w.setCell ⟨r, 0, none⟩ u).setCell ⟨r, 1, none⟩ v).cell? ⟨gx, i, none⟩ = w.cell? ⟨gx, i, none⟩ :=
  World.cell?_of_block ((Below.heap_setCell _ _ _ _ (fun e => h e.symm)).trans (Below.heap_setCell _ _ _ _ (fun e => h e.symm)))
theorem own_setI {w : World} {base e size n : Nat} {v : Value} {xs : List Value} {p : Addr} {u : Value} (h : w.ownsRow base e size v n xs) (hp : p.block < base) : (w.setCell p u).ownsRow base e size v n xs :=
  own_same h fun b hb => Below.heap_setCell w p u b (by have := (h.lt b hb).1; omega)
/-- A drawn algebra and names. -/
def RenD (w : World) (e : Ending) (w' : World) : Prop := ∃ ds x A k c L, e = .returned (.tuple #[.agg (List.toArray ds), .slice A k c]) ∧ shAlgebra.rd w' ds x ∧ RdL RI w' A k L ∧ AlgQ5 x ∧ Below w.heap.size w w'
theorem ren_fin {w w' : World} {x : AlgebraM} {AX AL : Option Addr} {mX cX k cL lo n : Nat} {L : List Int} {bl : List Nat} (hA : shAlgebra.own w' [.int .i64 x.1, .slice AX mX cX] x bl) (hL : w'.ownsRow lo 3 1 (.slice AL k cL) k (ints L)) (hB : ∀ v ∈ L, -1 ≤ v ∧ v ≤ (n : Int)) (hQ : AlgQ5 x) (hT : Below w.heap.size w w') (hn : n ≤ 100 := by omega) :
    RenD w (.returned (.tuple #[.agg #[.int .i64 x.1, .slice AX mX cX], .slice AL k cL])) w' :=
  ⟨_, x, AL, k, cL, L, rfl, shAlgebra.ord hA, rd_of_own (R := RI) hL (RI_ints fun v hv => by have := hB v hv; omega), hQ, hT⟩
theorem drawRE_any (A : Option Addr) (n c : Nat) (w : World) (h : CodeB w A n) : Calls Tryz.prog 5 #[.slice A n c] w (RenD w) := by
  obtain ⟨w0, HW0⟩ : ∃ wb, Hid (wb = w.alloc (.cells #[.int .i64 0, .slice none 0 0] 26)) := ⟨_, Lib.hid rfl⟩
  have hb0 : Below w.heap.size w w0 := by rw [HW0.out]; exact below_box _ _
  have B0 : Blk w0 w.heap.size 26 #[.int .i64 0, .slice none 0 0] := by rw [HW0.out]; exact Blk.new _ _ _
  have hs0 : w0.heap.size = w.heap.size + 1 := by rw [HW0.out]; simp
  obtain ⟨w1, HW1⟩ : ∃ wb, Hid (wb = w0.alloc (.cells #[.slice A n c, .int .i64 0, .int .u64 0] 46)) := ⟨_, Lib.hid rfl⟩
  have hb1 : Below w0.heap.size w0 w1 := by rw [HW1.out]; exact below_box _ _
  have hc1 : CurB (w.heap.size + 1) w1 (w.heap.size + 1) 0 := by rw [HW1.out]; exact CurB.made (h.next hb0) hs0.symm
  have B1 := B0.next hb1
  have hT1 := below_next hb0 hb1 rfl
  have hz1 : w.heap.size + 1 < w1.heap.size := hc1.lt
  have hgr1 := grown_reflB w1 (some (w.heap.size + 1))
  obtain ⟨g, HG⟩ : ∃ x, Hid (w.heap.size + 1 = x) := ⟨_, Lib.hid rfl⟩
  obtain ⟨r, HR⟩ : ∃ x, Hid (w.heap.size = x) := ⟨_, Lib.hid rfl⟩
  have hrg : r + 1 = g := by have := HG.out; have := HR.out; omega
  have hT1' : Below r w w1 := by rw [← HR.out]; exact hT1
  clear B0 hb0 hb1 hs0 h hT1
  obtain ⟨B, HB⟩ : ∃ x, Hid (g = x) := ⟨_, Lib.hid rfl⟩
  rw [HG.out] at hc1 hgr1 hz1
  have hc1 : CurB B w1 g 0 := by have h1 := hc1; rw [← HB.out]; exact h1
  have hBg : B = g := HB.out.symm
  rw [HR.out] at B1
  have HAL := Lib.hid (algebra_any B g 0 w1 hc1 (by omega) (by omega))
  clear hc1
  go_enter Tryz.func5, Tryz.ntmps5
  go_wp2_with fail
  rw [← HW0.out, ← HW1.out, HG.out, HR.out]
  refine HAL.out.mono ?_
  rintro e w3 ⟨ds, x, bl, rfl, O5, I5, hAQ, hcu, hg3⟩
  obtain ⟨AX, mX, cX, hds, -, -⟩ := rdAlgebra (shAlgebra.ord O5)
  subst hds
  obtain ⟨z, ops⟩ := x
  obtain ⟨nN, rfl⟩ : ∃ n : Nat, z = (n : Int) := ⟨z.toNat, by have h1 : 0 ≤ z := hAQ.1.1; omega⟩
  have hn9 : nN ≤ 9 := by have h1 : (nN : Int) ≤ 9 := hAQ.1.2.1; omega
  have B2 := B1.grownG hg3 (by omega)
  have hgr := growB_trans hgr1 hg3
  have hz3 := hg3.size
  obtain ⟨w4, HW4⟩ : ∃ wb, Hid (wb = w3.alloc (.cells #[.int .i64 (nN : Int), .slice AX mX cX] 26)) := ⟨_, Lib.hid rfl⟩
  have hb4 : Below w3.heap.size w3 w4 := by rw [HW4.out]; exact below_box _ _
  have BX : Blk w4 w3.heap.size 26 #[.int .i64 (nN : Int), .slice AX mX cX] := by rw [HW4.out]; exact Blk.new _ _ _
  obtain ⟨gx, HGX⟩ : ∃ x, Hid (w3.heap.size = x) := ⟨_, Lib.hid rfl⟩
  have hz4 := hb4.size
  clear HAL hgr1 hg3 B1
  go_upto_region 3 with fail
  rw [← HW4.out]
  rw [HGX.out] at BX ⊢
  replace O5 := Sh.onext O5 hb4
  replace B2 := B2.next hb4
  replace hgr := growB_trans hgr (toGr (r := some g) hb4)
  replace hcu := hcu.next_ hb4
  have hgxz : w1.heap.size ≤ gx := by have := HGX.out; omega
  have hrx : r ≠ gx := by omega
  have hz34 : w1.heap.size ≤ w4.heap.size := by omega
  have cX0 := BX.cell 0
  have cX1 := BX.cell 1
  simp at cX0 cX1
  clear hb4
  refine wp_region_held_drew (S := fun w' => w'.cell? ⟨gx, 0, none⟩ = some (.int .i64 (nN : Int)) ∧ w'.cell? ⟨gx, 1, none⟩ = some (.slice AX mX cX)) (by kernel_rfl) ⟨cX0, cX1⟩ (fun hHeld0 => ?_)
  obtain ⟨wt1, Hwt1⟩ : ∃ x, Hid (x = World.drew w4) := ⟨_, rfl⟩
  have hbwt1 : Below w4.heap.size w4 wt1 := by rw [Hwt1.out]; exact (Below.refl _ _).drew
  rw [← Hwt1.out] at hHeld0 ⊢
  have ywt1 := hbwt1.size
  replace hcu := hcu.next_ hbwt1
  replace O5 := Sh.onext O5 hbwt1
  replace B2 := B2.next hbwt1
  replace BX := BX.next hbwt1
  replace hgr := growB_trans hgr (toGr hbwt1)
  replace cX0 := keepc hbwt1 cX0
  replace cX1 := keepc hbwt1 cX1
  refine tk 0 (.agg #[.int .i64 (nN : Int), .slice AX mX cX]) rfl (.inl ⟨by kernel_rfl, fun wv hSw => by (obtain ⟨hS0, hS1⟩ := hSw); go_simp⟩) ?_
  refine tp 1 (.pointer (some ⟨g, 0, none⟩)) rfl ?_
  refine tp 2 (.pointer (some ⟨gx, 0, none⟩)) rfl ?_
  refine tk 3 (.int .i64 (nN : Int)) rfl (.inl ⟨by kernel_rfl, fun wv hSw => by (obtain ⟨hS0, hS1⟩ := hSw); go_simp⟩) ?_
  (try simp only [Act.put, zA, zB, zC, zD, zE, zF])
  refine r1 4 rfl (fun K hK => ?_)
  go_simp
  go_at_call 20
  refine (l1Least_any _ _ (nN : Int) _ (.inl ⟨by omega, rfl⟩)).mono ?_
  rintro e wq ⟨rfl, rfl⟩
  go_wp2_with fail
  refine hK.out _ _ ⟨cX0, cX1⟩ (fun hHeld1 => ?_)
  clear hK K hHeld0
  (try simp only [Act.put, zA, zB, zC, zD, zE, zF])
  (try simp only [Act.put, zA, zB, zC, zD, zE, zF])
  refine r1 5 rfl (fun K hK => ?_)
  go_simp
  go_at_call 19
  refine (names2_any B g (0 + 2000) nN wt1 hcu (by omega) (by omega) (by omega)).mono ?_
  rintro e wt2 ⟨AL, k, cL, L, rfl, hoL, HLB, hkl, hcu2, hgs⟩
  replace hcu := hcu2
  replace O5 := Sh.ogrown O5 hgs I5 (by omega)
  replace B2 := B2.grownG hgs (by omega)
  replace BX := BX.grownG hgs (by omega)
  replace hgr := growB_trans hgr hgs
  have hzL := hgs.size
  replace cX0 := BX.cell 0
  replace cX1 := BX.cell 1
  simp at cX0 cX1
  clear hcu2
  go_wp2_with fail
  refine hK.out _ _ ⟨cX0, cX1⟩ (fun hHeld2 => ?_)
  clear hK K hHeld1
  (try simp only [Act.put, zA, zB, zC, zD, zE, zF])
  (try simp only [Act.put, zA, zB, zC, zD, zE, zF])
  refine r1 6 rfl (fun K hK => ?_)
  have fR0 := B2.frozen 0
  have fR1 := B2.frozen 1
  have cR0 := B2.cell 0
  have cR1 := B2.cell 1
  simp at cR0 cR1
  go_simp
  obtain ⟨wt3, Hwt3⟩ : ∃ z, Hid (z = (wt2.setCell ⟨r, 0, none⟩ (.int .i64 (nN : Int))).setCell ⟨r, 1, none⟩ (.slice AX mX cX)) := ⟨_, Lib.hid rfl⟩
  rw [← Hwt3.out]
  have hrn : r ∉ bl := fun hh => by have := (I5.2 _ hh).1; omega
  have HFB : Hid (Blk wt3 r 26 #[.int .i64 (nN : Int), .slice AX mX cX]) := by rw [Hwt3.out]; show Blk _ _ _ _; simpa using (B2.set_ 0 (.int .i64 (nN : Int))).set_ 1 (.slice AX mX cX)
  have HFA : Hid (shAlgebra.own wt3 [.int .i64 (nN : Int), .slice AX mX cX] ((nN : Int), ops) bl) := by rw [Hwt3.out]; exact Sh.oset' (p := ⟨r, 1, none⟩) (Sh.oset' (p := ⟨r, 0, none⟩) O5 hrn _) hrn _
  have HFL : Hid (wt3.ownsRow (r + 1) 3 1 (.slice AL k cL) k (ints L)) := by rw [Hwt3.out]; exact own_setI (p := ⟨r, 1, none⟩) (own_setI (p := ⟨r, 0, none⟩) (own_mono hoL (by omega)) (Nat.lt_succ_self _)) (Nat.lt_succ_self _)
  have HFT : Hid (Below w.heap.size w wt3) := by rw [Hwt3.out]; show Below _ _ _; rw [HR.out]; exact ((hT1'.grown hgr (by omega) (fun k e => by injection e with e; omega)).setCell (p := ⟨r, 0, none⟩) (Nat.le_refl _) _).setCell (p := ⟨r, 1, none⟩) (Nat.le_refl _) _
  replace cX0 : wt3.cell? ⟨gx, 0, none⟩ = some (.int .i64 (nN : Int)) := by rw [Hwt3.out]; rw [cell_far2 hrx]; exact cX0
  replace cX1 : wt3.cell? ⟨gx, 1, none⟩ = some (.slice AX mX cX) := by rw [Hwt3.out]; rw [cell_far2 hrx]; exact cX1
  refine hK.out _ _ ⟨cX0, cX1⟩ (fun hHeld3 => ?_)
  clear hK K hHeld2
  (try simp only [Act.put, zA, zB, zC, zD, zE, zF])
  refine tp 7 (.slice AL k cL) rfl ?_
  (try simp only [Act.put, zA, zB, zC, zD, zE, zF])
  refine wpAnyH_done (by kernel_rfl) ?_ _
  clear hHeld3 O5 hoL hgr hcu B2 BX
  go_wp2_with fail
  (try simp only [Exit.inBlock, Exit.then])
  refine bodyPost_ret (v := .tuple #[.agg #[.int .i64 (nN : Int), .slice AX mX cX], .slice AL k cL]) (res_row_tmpF rfl _ _ r 26 #[.int .i64 (nN : Int), .slice AX mX cX] (0, 0) _ _ (by simp) HFB.out Tryz.underlying26 rfl (by kernel_rfl) (by simp)) rfl ?_
  exact ren_fin HFA.out HFL.out HLB hAQ HFT.out
theorem rInts_any (A B : Option Addr) (n m c d : Nat) (xs ys : List Int) (w : World) (h : RdL RI w A n xs) (h' : RdL RI w B m ys) :
    Calls Tryz.prog 30 #[.slice A n c, .slice B m d] w (Qt w (.bool (eqL xs ys))) := by
  have hle := h.le
  have hle' := h'.le
  by_cases hnm : n = m
  · subst hnm
    go_enter Tryz.func30, Tryz.ntmps30
    go_wp2
    go_loopw [5] (fun i wr => ∃ k : Nat, k ≤ n ∧ i = .int .i64 k ∧ At2 eqL xs ys k ∧ Drawn w wr) (fun i _ => n - (intOf i).toNat)
    case atStart => exact ⟨0, Nat.zero_le _, rfl, rfl, Drawn.zero _⟩
    case round =>
      obtain ⟨k, hk, rfl, H, z, rfl⟩ := hrel
      by_cases hlt : k < n
      · obtain ⟨b, o, v, x, rfl, hc, ⟨rfl, -⟩, hd, -⟩ := h.at hlt
        obtain ⟨b', o', v', y, rfl, hc', ⟨rfl, -⟩, hd', -⟩ := h'.at hlt
        have H1 := Lib.hid hd
        have H2 := Lib.hid hd'
        clear hd hd'
        go_wp2
        go_quiet (fail)
        go_wp2
        all_goals first
          | (go_ret
             exact ⟨ret_bool (H.stop H1.out H2.out (by rw [eqL, show (x == y) = false from (by first | assumption | exact bf1 (by assumption) | exact bf2 (by assumption) | exact nef (by assumption) | exact nefc (by assumption) | exact eqc (by assumption))]; rfl)), (by first | exact Drawn.zero _ | exact Drawn.at_ _ _ | exact (Drawn.at_ _ _).more _ | exact ((Drawn.at_ _ _).more _).more _)⟩)
          | (go_roundw
             case rel => exact ⟨k + 1, by omega, by go_num, H.step H1.out H2.out (by rw [eqL, show (x == y) = true from (by first | assumption | exact bt2 (by assumption) | exact net (by assumption) | exact netc (by assumption) | exact eqc (by assumption))]; rfl), (by first | exact Drawn.zero _ | exact Drawn.at_ _ _ | exact (Drawn.at_ _ _).more _ | exact ((Drawn.at_ _ _).more _).more _)⟩
             case measure => simp [intOf]; omega)
      · go_wp2
        go_ret
        exact ⟨ret_bool (H.done (h.drop_end hlt) (h'.drop_end hlt) rfl), (by first | exact Drawn.zero _ | exact Drawn.at_ _ _ | exact (Drawn.at_ _ _).more _ | exact ((Drawn.at_ _ _).more _).more _)⟩
  · have hne : ((n : Int) != (m : Int)) = true := by rw [bne_iff_ne]; omega
    go_enter Tryz.func30, Tryz.ntmps30
    go_wp2
    go_ret
    exact ⟨ret_bool (eqL_len (by rw [h.len, h'.len]; omega)), (by first | exact Drawn.zero _ | exact Drawn.at_ _ _ | exact (Drawn.at_ _ _).more _ | exact ((Drawn.at_ _ _).more _).more _)⟩
theorem rTable_any (A B : Option Addr) (n m c d : Nat) (xs ys : List (List Int)) (w : World) (h : RdL (RV RI) w A n xs) (h' : RdL (RV RI) w B m ys) :
    Calls Tryz.prog 11 #[.slice A n c, .slice B m d] w (Qt w (.bool (eqLL xs ys))) := by
  have hle := h.le
  have hle' := h'.le
  by_cases hnm : n = m
  · subst hnm
    go_enter Tryz.func11, Tryz.ntmps11
    go_wp2
    go_loopw [5] (fun i wr => ∃ k : Nat, k ≤ n ∧ i = .int .i64 k ∧ EqqAt xs ys k ∧ Drawn w wr) (fun i _ => n - (intOf i).toNat)
    case atStart => exact ⟨0, Nat.zero_le _, rfl, rfl, Drawn.zero _⟩
    case round =>
      obtain ⟨k, hk, rfl, H, z, rfl⟩ := hrel
      by_cases hlt : k < n
      · obtain ⟨b, o, v, x, rfl, hc, ⟨P, p, q, rfl, hx⟩, hd, -⟩ := h.at hlt
        obtain ⟨b', o', v', y, rfl, hc', ⟨P', p', q', rfl, hy⟩, hd', -⟩ := h'.at hlt
        have H1 := Lib.hid hd
        have H2 := Lib.hid hd'
        clear hd hd'
        go_wp2
        go_quiet ((go_at_call 30; exact quiet_add (rInts_any _ _ _ _ _ _ _ _ _ (hx.drewN stab_RI _) (hy.drewN stab_RI _))))
        go_wp2
        all_goals first
          | (go_ret
             exact ⟨ret_bool (H.stop H1.out H2.out (by simpa using ‹(!eqL x y) = true›)), (by first | exact Drawn.zero _ | exact Drawn.at_ _ _ | exact (Drawn.at_ _ _).more _ | exact ((Drawn.at_ _ _).more _).more _)⟩)
          | (go_roundw
             case rel => exact ⟨k + 1, by omega, by go_num, H.step H1.out H2.out (by simpa using ‹(!eqL x y) = false›), (by first | exact Drawn.zero _ | exact Drawn.at_ _ _ | exact (Drawn.at_ _ _).more _ | exact ((Drawn.at_ _ _).more _).more _)⟩
             case measure => simp [intOf]; omega)
      · go_wp2
        go_ret
        exact ⟨ret_bool (H.done (h.drop_end hlt) (h'.drop_end hlt)), (by first | exact Drawn.zero _ | exact Drawn.at_ _ _ | exact (Drawn.at_ _ _).more _ | exact ((Drawn.at_ _ _).more _).more _)⟩
  · have hne : ((n : Int) != (m : Int)) = true := by rw [bne_iff_ne]; omega
    go_enter Tryz.func11, Tryz.ntmps11
    go_wp2
    go_ret
    exact ⟨ret_bool (eqLL_len (by rw [h.len, h'.len]; omega)), (by first | exact Drawn.zero _ | exact Drawn.at_ _ _ | exact (Drawn.at_ _ _).more _ | exact ((Drawn.at_ _ _).more _).more _)⟩
theorem rOp_any (cs ds : List Value) (x y : OpM) (w : World) (h : shOp.rd w cs x) (h' : shOp.rd w ds y) :
    Calls Tryz.prog 54 #[.agg cs.toArray, .agg ds.toArray] w (Bl w (.bool (eqC x y))) := by
  obtain ⟨A, n, c, rfl, -, q⟩ := rdOp h
  obtain ⟨A', n', c', rfl, -, q'⟩ := rdOp h'
  obtain ⟨w0, hw0, T0, hsz0, BP, BQ⟩ := boxes2 w #[.int .i64 x.1, .slice A n c] #[.int .i64 y.1, .slice A' n' c'] 64 64
  replace q := q.next stab_RI T0
  replace q' := q'.next stab_RI T0
  have HD : Hid (eqC x y = (eqC x.1 y.1 && eqL x.2 y.2)) := by show _ = _; rw [eqL_dec]; exact dec_pair ..
  have HW0 := Lib.hid hw0
  have cP0 := BP.cell 0
  have cP1 := BP.cell 1
  have cQ0 := BQ.cell 0
  have cQ1 := BQ.cell 1
  simp at cP0 cP1 cQ0 cQ1
  have HC := Lib.hid (bl_of_quiet (rInts_any A A' n n' c c' x.2 y.2 w0 q q'))
  clear hw0 hsz0
  go_enter Tryz.func54, Tryz.ntmps54
  go_upto_region 1 with fail
  rw [← HW0.out]
  rcases hd0 : eqC x.1 y.1 with _ | _
  · have ht : (x.1 == y.1) = false := by have := eqC_no.1 hd0; simpa using this
    have HH := Lib.hid hd0
    clear hd0
    go_wp2_with fail
    go_ret
    exact ⟨ret_bool (by rw [HD.out, HH.out]; rfl), T0⟩
  · have ht : (x.1 == y.1) = true := by have := eqC_iff.1 hd0; simpa using this
    have HH := Lib.hid hd0
    clear hd0
    go_wp2_with fail
    refine HC.out.mono ?_
    rintro e w1 ⟨rfl, hb1⟩
    go_wp2_with fail
    go_ret
    exact ⟨ret_bool (by rw [HD.out, HH.out]; simp), below_next T0 hb1 rfl⟩
theorem rOps_any (A B : Option Addr) (n m c d : Nat) (xs ys : List OpM) (w : World) (h : RdN shOp.m shOp.rd w A n xs) (h' : RdN shOp.m shOp.rd w B m ys) :
    Calls Tryz.prog 27 #[.slice A n c, .slice B m d] w (Bl w (.bool (eqC xs ys))) := by
  have hle := h.le
  have hle' := h'.le
  by_cases hnm : n = m
  · subst hnm
    go_enter Tryz.func27, Tryz.ntmps27
    go_wp2
    go_loopw [5] (fun i wr => ∃ k : Nat, k ≤ n ∧ i = .int .i64 k ∧ EqdAt xs ys k ∧ Below w.heap.size w wr) (fun i _ => n - (intOf i).toNat)
    case atStart => exact ⟨0, Nat.zero_le _, rfl, EqdAt.start _ _, Below.refl _ _⟩
    case round =>
      obtain ⟨k, hk, rfl, H, hT⟩ := hrel
      replace h := h.next hT
      replace h' := h'.next hT
      by_cases hlt : k < n
      · obtain ⟨b, o, vs, x, rfl, -, hc, hr, hd, -⟩ := h.at hlt
        obtain ⟨b', o', vs', y, rfl, -, hc', hr', hd', -⟩ := h'.at hlt
        obtain ⟨ATable, nTable, cTable, rfl, qArity, qTable⟩ := rdOp hr
        obtain ⟨AyTable, nyTable, cyTable, rfl, qyArity, qyTable⟩ := rdOp hr'
        have cc0 : wr.cell? ⟨b, o + k * 2, none⟩ = some (.int .i64 x.1) := hc 0 _ rfl
        have dd0 : wr.cell? ⟨b', o' + k * 2, none⟩ = some (.int .i64 y.1) := hc' 0 _ rfl
        have cc1 : wr.cell? ⟨b, o + k * 2 + 1, none⟩ = some (.slice ATable nTable cTable) := hc 1 _ rfl
        have dd1 : wr.cell? ⟨b', o' + k * 2 + 1, none⟩ = some (.slice AyTable nyTable cyTable) := hc' 1 _ rfl
        clear hc hc'
        have H1 := Lib.hid hd
        have H2 := Lib.hid hd'
        clear hd hd'
        have hk0 : (0 : Int) ≤ (k : Int) := by omega
        have hk1 : (k : Int) < (n : Int) := by omega
        obtain ⟨e0, HE⟩ : ∃ e0, Hid (eqC x y = e0) := ⟨_, rfl⟩
        have Tk : Below wr.heap.size wr wr := Below.refl _ _
        go_upto_region 6 with fail
        go_cut [26] (fun v wx => v = .bool (!e0) ∧ Below wr.heap.size wr wx)
        case first =>
          go_region_held3 (fun w' => w'.cell? ⟨b, o + k * 2, none⟩ = some (.int .i64 x.1) ∧ w'.cell? ⟨b', o' + k * 2, none⟩ = some (.int .i64 y.1) ∧ w'.cell? ⟨b, o + k * 2 + 1, none⟩ = some (.slice ATable nTable cTable) ∧ w'.cell? ⟨b', o' + k * 2 + 1, none⟩ = some (.slice AyTable nyTable cyTable)) (first | go_keep | exact ⟨keepc Tk cc0, keepc Tk dd0, keepc Tk cc1, keepc Tk dd1⟩) ((go_at_call 54; refine (rOp_any [.int .i64 x.1, .slice ATable nTable cTable] [.int .i64 y.1, .slice AyTable nyTable cyTable] x y _ (shOp.stab hr (by first | exact Tk.block | exact (Below.drew Tk).block)) (shOp.stab hr' (by first | exact Tk.block | exact (Below.drew Tk).block))).mono ?_; rintro e wn ⟨rfl, hbn⟩; replace Tk := below_next (by first | exact Tk | exact Below.drew Tk) hbn rfl; rw [HE.out]))
          all_goals (go_wp2_with fail; go_meet; exact ⟨rfl, Tk⟩)
        case rest =>
          obtain ⟨rfl, hb4⟩ := hcut
          have hT4 := below_next hT hb4 rfl
          clear hb4 Tk cc0 dd0 cc1 dd1
          rcases e0 with _ | _
          · go_wp2_with fail
            go_ret
            exact ⟨ret_bool (H.stop H1.out H2.out HE.out), hT4⟩
          · go_wp2_with fail
            go_roundw
            case rel => exact ⟨k + 1, by omega, by go_num, H.step H1.out H2.out HE.out, hT4⟩
            case measure => simp [intOf]; omega
      · have hlt' : ¬ (k : Int) < (n : Int) := by omega
        go_wp2_with fail
        go_ret
        exact ⟨ret_bool (H.done (h.drop_end hlt) (h'.drop_end hlt)), hT⟩
  · have hne : ((n : Int) != (m : Int)) = true := by rw [bne_iff_ne]; omega
    have HL := Lib.hid (eqd_len h.len h'.len hnm)
    go_enter Tryz.func27, Tryz.ntmps27
    go_wp2_with fail
    go_ret
    exact ⟨ret_bool HL.out, Below.refl _ _⟩
theorem rAlgebra_any (cs ds : List Value) (x y : AlgebraM) (w : World) (h : shAlgebra.rd w cs x) (h' : shAlgebra.rd w ds y) :
    Calls Tryz.prog 8 #[.agg cs.toArray, .agg ds.toArray] w (Bl w (.bool (eqC x y))) := by
  obtain ⟨A, n, c, rfl, -, q⟩ := rdAlgebra h
  obtain ⟨A', n', c', rfl, -, q'⟩ := rdAlgebra h'
  obtain ⟨w0, hw0, T0, hsz0, BP, BQ⟩ := boxes2 w #[.int .i64 x.1, .slice A n c] #[.int .i64 y.1, .slice A' n' c'] 26 26
  replace q := q.next T0
  replace q' := q'.next T0
  have HD : Hid (eqC x y = (eqC x.1 y.1 && eqC x.2 y.2)) := by show _ = _; exact dec_pair ..
  have HW0 := Lib.hid hw0
  have cP0 := BP.cell 0
  have cP1 := BP.cell 1
  have cQ0 := BQ.cell 0
  have cQ1 := BQ.cell 1
  simp at cP0 cP1 cQ0 cQ1
  have HC := Lib.hid (rOps_any A A' n n' c c' x.2 y.2 w0 q q')
  clear hw0 hsz0
  go_enter Tryz.func8, Tryz.ntmps8
  go_upto_region 1 with fail
  rw [← HW0.out]
  rcases hd0 : eqC x.1 y.1 with _ | _
  · have ht : (x.1 == y.1) = false := by have := eqC_no.1 hd0; simpa using this
    have HH := Lib.hid hd0
    clear hd0
    go_wp2_with fail
    go_ret
    exact ⟨ret_bool (by rw [HD.out, HH.out]; rfl), T0⟩
  · have ht : (x.1 == y.1) = true := by have := eqC_iff.1 hd0; simpa using this
    have HH := Lib.hid hd0
    clear hd0
    go_wp2_with fail
    refine HC.out.mono ?_
    rintro e w1 ⟨rfl, hb1⟩
    go_wp2_with fail
    go_ret
    exact ⟨ret_bool (by rw [HD.out, HH.out]; simp), below_next T0 hb1 rfl⟩
def RU8 (_ : World) (v : Value) (x : Int) : Prop := v = .int .u8 x ∧ 0 ≤ x ∧ x < 256
theorem code_inB {w : World} {A : Option Addr} {n : Nat} {xs : List Int} (h : RdL RU8 w A n xs) (hn : n ≤ 65536) : CodeB w A n := by
  refine ⟨hn, fun h0 => ?_⟩
  obtain ⟨b, o, v, x, e, -⟩ := h.at h0
  subst e
  refine ⟨b, o, rfl, fun i hi => ?_⟩
  obtain ⟨v, x, hc, ⟨rfl, h1, h2⟩, -, -⟩ := h.at' hi
  exact ⟨x.toNat, by omega, by rw [hc, Int.toNat_of_nonneg h1]⟩
theorem rBig_any (A : Option Addr) (n c : Nat) (w : World) (hn : n ≤ 9223372036854775807) : Calls Tryz.prog 4 #[.slice A n c] w fun e w' => e = .returned (.bool (decide (65536 < n))) ∧ w = w' := by
  go_enter Tryz.func4, Tryz.ntmps4
  go_wp2
  go_ret
  exact ⟨ret_bool (decide_eq_decide.2 (by omega)), rfl⟩
end Go.Proofs.YtbkgbckbbnflpaaGreat
