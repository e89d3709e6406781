/- Parts of the proof: DrA, DrG, MrgP, CatP, Rl, Ralg, Rb, AddI, MrgI. -/
import Derived.Test.YtkmgbdljiajlaaaQ3
import Derived.Test.YtkmgbdljiajlaaaQ5
import Derived.Test.YtkmgbdljiajlaaaQ4
import Derived.Test.YtkmgbdljiajlaaaQ1
import Derived.Deep.RegionHeld3
import Derived.Test.YtkmgbdljiajlaaaQ2
namespace Go.Proofs.Ytkmgbdljiajlaaa
open Go.RowKit
set_option linter.unusedVariables false
set_option linter.unusedSimpArgs false

set_option maxRecDepth 20000 in
set_option maxHeartbeats 16000000 in
theorem algebra_any (B g t : Nat) (w : World) (h : CurB B w g t) (hB : B ≤ w.heap.size) (ht : t ≤ 999900000) :
    Calls Try.prog 79 #[.pointer (some ⟨g, 0, none⟩)] w (AlgD B w g (t + 2000)) := by
  have hgl := h.lt
  obtain ⟨w0, HW0⟩ : ∃ wb, Hid (wb = w.alloc (.cells #[.int .i64 0, .slice none 0 0] 27)) := ⟨_, Lib.hid rfl⟩
  have hb0 : Below w.heap.size w w0 := by rw [HW0.out]; exact below_box _ _
  have BR : Blk w0 w.heap.size 27 #[.int .i64 0, .slice none 0 0] := by rw [HW0.out]; exact Blk.new _ _ _
  have hs0 : w0.heap.size = w.heap.size + 1 := by rw [HW0.out]; simp
  have HON := Lib.hid (oneB_any g t 4 w0 (h.next_ hb0) (by omega) (by omega))
  have hr0g : w.heap.size ≠ g := by omega
  have hz0 : w.heap.size + 1 ≤ w0.heap.size := by omega
  clear hs0
  go_enter Try.func79, Try.ntmps79
  go_upto_region 1 with fail
  rw [← HW0.out]
  go_wp2_with fail
  refine HON.out.mono ?_
  rintro e w1 ⟨b, rfl, hc1, hg1⟩
  have BR1 := BR.grownG hg1 hr0g
  have hgr1 := growB_trans (toGr (r := some g) hb0) hg1
  have hz1 := hg1.size
  clear HON BR hg1
  rcases b with _ | _
  · -- a known one
    have HPK := Lib.hid (pickB_any g (t + 2) 17 w1 hc1 (by omega) (by omega))
    go_wp2_with fail
    refine HPK.out.mono ?_
    rintro e w2 ⟨k, -, rfl, hc2, hg2⟩
    have BR2 := BR1.grownG hg2 hr0g
    have hgr2 := growB_trans hgr1 hg2
    have hz2 := hg2.size
    have HKN := Lib.hid (l2Known_any (k : Int) w2 (by omega))
    clear HPK BR1 hg2
    go_wp2_with fail
    refine HKN.out.mono ?_
    rintro e w3 ⟨x, ⟨cs, bl, rfl, O3, I3, hb3⟩, hsm⟩
    obtain ⟨A, n, c, rfl, -, -⟩ := rdAlgebra (shAlgebra.ord O3)
    have BR3 := BR2.next hb3
    have hz3 := hb3.size
    obtain ⟨w4, HW4⟩ : ∃ wb, Hid (wb = w3.alloc (.cells #[.int .i64 x.1, .slice A n c] 27)) := ⟨_, Lib.hid rfl⟩
    have hb4 : Below w3.heap.size w3 w4 := by rw [HW4.out]; exact below_box _ _
    have BX : Blk w4 w3.heap.size 27 #[.int .i64 x.1, .slice A n c] := by rw [HW4.out]; exact Blk.new _ _ _
    have BR4 := BR3.next hb4
    have hc4 := (hc2.next_ hb3).next_ hb4
    have hgr4 := growB_trans (growB_trans hgr2 (toGr (r := some g) hb3)) (toGr (r := some g) hb4)
    have O4 := Sh.onext O3 hb4
    have hz4 := hb4.size
    have hrn : w.heap.size ∉ bl := fun hh => by have := (I3.2 _ hh).1; omega
    obtain ⟨wf, HWF⟩ : ∃ wf, Hid (wf = (w4.setCell ⟨w.heap.size, 0, none⟩ (.int .i64 x.1)).setCell ⟨w.heap.size, 1, none⟩ (.slice A n c)) := ⟨_, Lib.hid rfl⟩
    have BLF : Hid (Blk wf w.heap.size 27 #[.int .i64 x.1, .slice A n c]) := by show Blk _ _ _ _; rw [HWF.out]; simpa using (BR4.set_ 0 (.int .i64 x.1)).set_ 1 (.slice A n c)
    have OF : Hid (shAlgebra.own wf [.int .i64 x.1, .slice A n c] x bl) := by show shAlgebra.own _ _ _ _; rw [HWF.out]; exact Sh.oset' (p := ⟨w.heap.size, 1, none⟩) (Sh.oset' (p := ⟨w.heap.size, 0, none⟩) O4 hrn _) hrn _
    have CF : Hid (CurB B wf g (t + 2000)) := by show CurB _ _ _ _; rw [HWF.out]; exact ((hc4.setFar (p := ⟨w.heap.size, 0, none⟩) hB hr0g _).setFar (p := ⟨w.heap.size, 1, none⟩) hB hr0g _).mono (by omega)
    have GF : Hid (w.grownBy wf (some g)) := by show World.grownBy _ _ _; rw [HWF.out]; exact growB_new (growB_new hgr4 (p := ⟨w.heap.size, 0, none⟩) (Nat.le_refl _) _) (p := ⟨w.heap.size, 1, none⟩) (Nat.le_refl _) _
    have IF : Hid (Iv w.heap.size wf.heap.size bl) := by show Iv _ _ _; rw [HWF.out]; exact I3.mono (by omega) (by simpa using hz4)
    have cX0 := BX.cell 0
    have cX1 := BX.cell 1
    have cR0 := BR4.cell 0
    have cR1 := BR4.cell 1
    simp at cX0 cX1 cR0 cR1
    have fR0 := BR4.frozen 0
    have fR1 := BR4.frozen 1
    clear HKN BR2 BR3 BR4 BX hc2 hc4 hgr4 O3 O4 hrn
    go_upto_region 3 with fail
    rw [← HW4.out]
    go_wp2_with fail
    rw [← HWF.out]
    (try simp only [Exit.inBlock, Exit.then])
    refine bodyPost_ret (v := .agg #[.int .i64 x.1, .slice A n c]) (results_cell_row rfl _ _ w.heap.size 27 #[.int .i64 x.1, .slice A n c] (0, 0) _ (by simp) BLF.out Try.underlying27 rfl (by kernel_rfl)) rfl ?_
    exact ⟨[.int .i64 x.1, .slice A n c], x, bl, rfl, OF.out, IF.out, small_q hsm, CF.out, GF.out⟩
  · -- one that is built
    obtain ⟨w2, HW2⟩ : ∃ wb, Hid (wb = w1.alloc (.cells #[.int .i64 2, .int .i64 2, .int .i64 3, .int .i64 3, .int .i64 4] 3)) := ⟨_, Lib.hid rfl⟩
    have hb2 : Below w1.heap.size w1 w2 := by rw [HW2.out]; exact below_box _ _
    have hnum : NumsP (fun x => x = 2 ∨ x = 3 ∨ x = 4) w2 g w1.heap.size 5 := by rw [HW2.out]; exact numsL _ [2, 2, 3, 3, 4] w1 g hc1.lt (by decide) (by decide) (by intro x hx; simp at hx; omega) rfl
    have HAM := Lib.hid (amongB_any g (t + 2) w1.heap.size 5 5 w2 (hc1.next_ hb2) (by omega) _ hnum)
    have BR2 := BR1.next hb2
    have hgr2 := growB_trans hgr1 (toGr (r := some g) hb2)
    have hz2 := hb2.size
    clear hnum BR1
    go_wp2_with fail
    rw [← HW2.out]
    refine HAM.out.mono ?_
    rintro e w3 ⟨z, hzv, rfl, hc3, hg3⟩
    obtain ⟨n, rfl, hn2, hn4⟩ : ∃ n : Nat, z = (n : Int) ∧ 2 ≤ n ∧ n ≤ 4 := ⟨z.toNat, by omega, by omega, by omega⟩
    have BR3 := BR2.grownG hg3 hr0g
    have hgr3 := growB_trans hgr2 hg3
    have hz3 := hg3.size
    obtain ⟨w4, HW4⟩ : ∃ wb, Hid (wb = w3.alloc (.cells #[.int .i64 (n : Int), .slice none 0 0] 27)) := ⟨_, Lib.hid rfl⟩
    have hb4 : Below w3.heap.size w3 w4 := by rw [HW4.out]; exact below_box _ _
    have BA4 : Blk w4 w3.heap.size 27 #[.int .i64 (n : Int), .slice none 0 0] := by rw [HW4.out]; exact Blk.new _ _ _
    have hs4 : w4.heap.size = w3.heap.size + 1 := by rw [HW4.out]; simp
    obtain ⟨gA, hgA⟩ : ∃ a, a = w3.heap.size := ⟨_, rfl⟩
    obtain ⟨lo, hlo⟩ : ∃ a, a = w4.heap.size := ⟨_, rfl⟩
    have hS4 : AlS B g lo lo gA w.heap.size w w4 (n : Int) [] (t + 4) := ⟨none, 0, 0, [], [], by rw [hgA]; exact BA4, PO.nil _ _, BR3.next hb4, (hc3.next_ hb4).mono (by omega), growB_trans hgr3 (toGr hb4), Iv.nil _ _, Nat.le_refl _, by omega⟩
    have HGA := Lib.hid hgA
    have hgAl : gA < lo := by omega
    have hgAg : gA ≠ g := by omega
    have hglo : g < lo := by omega
    have hwlo : w.heap.size < lo := by omega
    have hBlo : B ≤ lo := by omega
    have hBgA : B ≤ gA := by omega
    have hwgA : w.heap.size ≠ gA := by omega
    have hwgA2 : w.heap.size ≤ gA := by omega
    have hlo4 : lo ≤ w4.heap.size := by omega
    clear hs4 hgA hlo HAM BR2 BR3 BA4 hc1 hc3 hgr1 hgr2 hgr3 hg3 hzv
    obtain ⟨w5, HW5⟩ : ∃ wb, Hid (wb = w4.alloc (.cells #[.int .i64 1, .int .i64 1, .int .i64 2] 3)) := ⟨_, Lib.hid rfl⟩
    have hb5 : Below w4.heap.size w4 w5 := by rw [HW5.out]; exact below_box _ _
    have hnum : NumsP (fun x => x = 1 ∨ x = 2) w5 g w4.heap.size 3 := by rw [HW5.out]; exact numsL _ [1, 1, 2] w4 g (by omega) (by decide) (by decide) (by intro x hx; simp at hx; omega) rfl
    have hS5 := hS4.next hb5
    have HAM := Lib.hid (amongB_any g (t + 4) w4.heap.size 3 3 w5 hS5.cu (by omega) _ hnum)
    clear hnum hS4
    go_upto_region 6 with fail
    rw [← HW4.out]
    go_wp2_with fail
    rw [← HW5.out]
    refine HAM.out.mono ?_
    rintro e w6 ⟨z, hzv, rfl, hc6, hg6⟩
    obtain ⟨k0, rfl, hk1, hk2⟩ : ∃ k : Nat, z = (k : Int) ∧ 1 ≤ k ∧ k ≤ 2 := ⟨z.toNat, by omega, by omega, by omega⟩
    have hS6 := hS5.cur hg6 hc6 hgAg hr0g hglo
    have hz56 := hb5.size
    have hz66 := hg6.size
    rw [← HGA.out]
    clear hzv HAM hS5 hc6 hg6
    -- loops
    obtain ⟨t6, HT6⟩ : ∃ x, Hid (t + 4 + 2 = x) := ⟨_, Lib.hid rfl⟩
    rw [HT6.out] at hS6
    have ht6 : t6 ≤ 999900006 := by have := HT6.out; omega
    go_wp2_with fail
    go_loopw [6, 7, 8] (fun kv _ _ wr => ∃ (q : Nat) (xs : List OpM) (hi : Nat), q ≤ k0 ∧ kv = .int .i64 q ∧ AlS B g lo hi gA w.heap.size w wr (n : Int) xs (t6 + 150 * (k0 - q)) ∧ Hid (xs.length + q = k0 ∧ OpsQ xs)) (fun kv _ _ _ => (intOf kv).toNat)
    case atStart => exact ⟨k0, [], lo, Nat.le_refl _, rfl, hS6.mono (by omega), Lib.hid ⟨by simp, fun o ho => by cases ho⟩⟩
    case round =>
      clear hS6 hz56 hz66 hb5 hb4 hb2 hz1 hz2 hz3 hz0 hb0 hlo4 HW5 HW4 HW2 HGA
      obtain ⟨q, xs, hi, hqk, rfl, hS, HX⟩ := hrel
      by_cases hq : 0 < q
      · have hq0 : (0 : Int) < (q : Int) := by omega
        obtain ⟨tq, HTQ⟩ : ∃ x, Hid (t6 + 150 * (k0 - q) = x) := ⟨_, Lib.hid rfl⟩
        rw [HTQ.out] at hS
        have htq : tq ≤ 999901000 := by have := HTQ.out; omega
        obtain ⟨hlh, hiw⟩ : lo ≤ hi ∧ hi ≤ wr.heap.size := by obtain ⟨_, _, _, _, _, _, _, _, _, _, _, l1, l2⟩ := hS; exact ⟨l1, l2⟩
        obtain ⟨w7, HW7⟩ : ∃ wb, Hid (wb = wr.alloc (.cells #[.int .i64 0, .int .i64 1, .int .i64 2, .int .i64 2, .int .i64 3] 3)) := ⟨_, Lib.hid rfl⟩
        have hb7 : Below wr.heap.size wr w7 := by rw [HW7.out]; exact below_box _ _
        have hnum : NumsP (fun x => 0 ≤ x ∧ x ≤ 3) w7 g wr.heap.size 5 := by rw [HW7.out]; exact numsL _ [0, 1, 2, 2, 3] wr g (by omega) (by decide) (by decide) (by intro x hx; simp at hx; omega) rfl
        have hS7 := hS.next hb7
        have HAM := Lib.hid (amongB_any g tq wr.heap.size 5 5 w7 hS7.cu (by omega) _ hnum)
        have hz7 := hb7.size
        clear hnum hS
        go_wp2_with fail
        rw [← HW7.out]
        refine HAM.out.mono ?_
        rintro e w8 ⟨z, hzv, rfl, hc8, hg8⟩
        obtain ⟨a, rfl, ha3⟩ : ∃ a : Nat, z = (a : Int) ∧ a ≤ 3 := ⟨z.toNat, by omega, by omega⟩
        have hS8 := hS7.cur hg8 hc8 hgAg hr0g hglo
        have hz8 := hg8.size
        obtain ⟨w9, HW9⟩ : ∃ wb, Hid (wb = w8.alloc (.cells #[.int .i64 (a : Int), .slice none 0 0] 92)) := ⟨_, Lib.hid rfl⟩
        have hb9 : Below w8.heap.size w8 w9 := by rw [HW9.out]; exact below_box _ _
        have BQ9 : Blk w9 w8.heap.size 92 #[.int .i64 (a : Int), .slice none 0 0] := by rw [HW9.out]; exact Blk.new _ _ _
        obtain ⟨gq, hgq⟩ : ∃ x, x = w8.heap.size := ⟨_, rfl⟩
        have HGQ := Lib.hid hgq
        rw [← hgq] at BQ9
        have hgq1 : hi ≤ gq := by omega
        have hgqg : gq ≠ g := by omega
        have hS9 := hS8.next hb9
        have hgq9 := BQ9.lt
        obtain ⟨bb, HBB⟩ : ∃ b, Hid ((decide (n = 4) && decide (a = 3)) = b) := ⟨_, Lib.hid rfl⟩
        clear hgq HAM hS7 hS8 hc8 hg8 hzv hb9 hb7
        have cQ0 := BQ9.cell 0
        simp at cQ0
        go_upto_region 10 with fail
        rw [← HW9.out, ← HGQ.out]
        go_cut [38] from 32 to 38 (fun u38 wx => u38 = .bool bb ∧ wx = w9)
        case first =>
          by_cases h4 : n = 4
          · have e4 : ((n : Int) == 4) = true := by simp; omega
            by_cases h3 : a = 3
            · have e3 : ((a : Int) == 3) = true := by simp; omega
              have hbb : Hid (true = bb) := by show _ = _; rw [← HBB.out]; simp [h4, h3]
              clear h4 h3
              go_wp2_with fail
              go_meet
              exact ⟨by rw [hbb.out], rfl⟩
            · have e3 : ((a : Int) == 3) = false := by simp; omega
              have hbb : Hid (false = bb) := by show _ = _; rw [← HBB.out]; simp [h3]
              clear h4 h3
              go_wp2_with fail
              go_meet
              exact ⟨by rw [hbb.out], rfl⟩
          · have e4 : ((n : Int) == 4) = false := by simp; omega
            have hbb : Hid (false = bb) := by show _ = _; rw [← HBB.out]; simp [h4]
            clear h4
            go_wp2_with fail
            go_meet
            exact ⟨by rw [hbb.out], rfl⟩
        case rest =>
          obtain ⟨rfl, HC9⟩ := hcut
          rw [HC9]
          clear HC9
          go_upto_if 38 with fail
          go_cut [] from 39 to 39 (fun wx => ∃ a' : Nat, a' ≤ 3 ∧ Blk wx gq 92 #[.int .i64 (a' : Int), .slice none 0 0] ∧ AlS B g lo hi gA w.heap.size w wx (n : Int) xs (tq + 2) ∧ gq < wx.heap.size)
          case first =>
            rcases bb with _ | _
            · go_wp2_with fail
              go_meet
              exact ⟨a, ha3, BQ9, hS9, hgq9⟩
            · have fQ0 := BQ9.frozen 0
              go_wp2_with fail
              go_meet
              exact ⟨2, by omega, by simpa using BQ9.set_ 0 (.int .i64 2), hS9.far (row := some gq) ⟨rfl, rfl, rfl, by simp, fun b hb hne => Below.heap_setCell _ _ _ b (fun e => hne (by rw [e]))⟩ (fun r e => by injection e with e; omega) (by omega) (by omega) (by omega) (by omega) (by omega), by simpa using hgq9⟩
          case rest =>
            clear BQ9 hS9 hgq9 cQ0
            obtain ⟨a', ha', BQ, hS, hgqw⟩ := hcut
            obtain ⟨wx, HWC⟩ : ∃ wq : World, wq = wc := ⟨_, rfl⟩
            subst HWC
            obtain ⟨r, HR⟩ : ∃ r, Hid (n ^ a' = r) := ⟨_, Lib.hid rfl⟩
            have hr64 : r ≤ 64 := by
              rw [← HR.out]
              calc n ^ a' ≤ 4 ^ a' := Nat.pow_le_pow_left hn4 _
                _ ≤ 4 ^ 3 := Nat.pow_le_pow_right (by omega) ha'
            have hr1 : 1 ≤ r := by rw [← HR.out]; exact Nat.pow_pos (show 0 < n by omega)
            obtain ⟨lo2, hlo2⟩ : ∃ x, x = wx.heap.size := ⟨_, rfl⟩
            have hgq2 : gq < lo2 := by omega
            have hglo2 : g < lo2 := by omega
            have hhl2 : hi ≤ lo2 := by omega
            have hown : wx.ownsRow lo2 3 1 (.slice none 0 0) 0 (ints []) := ⟨rfl, .inl ⟨rfl, rfl⟩⟩
            have hl2w : lo2 ≤ wx.heap.size := by omega
            have cQ0 := BQ.cell 0
            simp at cQ0
            have HPW := Lib.hid (l2Pow_any n a' r wx HR.out (by omega) (by omega))
            clear hlo2 hgqw
            go_wp2_with fail
            refine HPW.out.mono ?_
            rintro e w' ⟨rfl, rfl⟩
            clear HPW cQ0
            go_wp2_with fail
            go_loopw [8] (fun av w2r => ∃ (p m c : Nat) (A : Option Addr) (T : List Int), Hid (p + m = r) ∧ av = .int .i64 p ∧ Blk w2r gq 92 #[.int .i64 (a' : Int), .slice A m c] ∧ w2r.ownsRow lo2 3 1 (.slice A m c) m (ints T) ∧ Hid (T.length = m ∧ ∀ u ∈ T, 0 ≤ u ∧ u ≤ 9) ∧ AlS B g lo hi gA w.heap.size w w2r (n : Int) xs (tq + 2 + 2 * m) ∧ lo2 ≤ w2r.heap.size) (fun av _ => (intOf av).toNat)
            case atStart => exact ⟨r, 0, 0, none, [], Lib.hid (by omega), rfl, BQ, hown, Lib.hid ⟨rfl, fun u hu => by cases hu⟩, hS, hl2w⟩
            case round =>
              clear BQ hown hS hl2w
              obtain ⟨p, m, c, A, T, HPM, rfl, BQ, hown, HT, hS, hzl⟩ := hrel
              have hm64 : m ≤ 64 := by have := HPM.out; omega
              have hp64 : p ≤ 64 := by have := HPM.out; omega
              by_cases hp : 0 < p
              · have hp0 : (0 : Int) < (p : Int) := by omega
                have cQ0 := BQ.cell 0
                have cQ1 := BQ.cell 1
                simp at cQ0 cQ1
                go_upto_region 15 with fail
                refine wp_region_held_drew (S := fun w' => w'.cell? ⟨gq, 0, none⟩ = some (.int .i64 (a' : Int))) (by kernel_rfl) cQ0 (fun hHeld0 => ?_)
                obtain ⟨wt1, Hwt1⟩ : ∃ x, Hid (x = World.drew wr) := ⟨_, rfl⟩
                have hbwt1 : Below wr.heap.size wr wt1 := by rw [Hwt1.out]; exact (Below.refl _ _).drew
                rw [← Hwt1.out] at hHeld0 ⊢
                have ywt1 := hbwt1.size
                replace hS := hS.next hbwt1
                replace BQ := BQ.next hbwt1
                replace hown := own_next hown hbwt1
                replace cQ1 := keepc hbwt1 cQ1
                replace hzl := Nat.le_trans hzl hbwt1.size
                replace cQ0 := keepc hbwt1 cQ0
                refine wpAnyH_take (i := 0) (v := .pointer (some ⟨gq, 1, none⟩)) rfl (by kernel_rfl) (by kernel_rfl) (by kernel_rfl) (fun _ _ _ h => h) (Or.inl ⟨by kernel_rfl, fun _ _ => by go_simp⟩) (by assumption) ?_
                (try simp only [Act.put, List.getElem_toArray, List.getElem_cons_zero, List.getElem_cons_succ, List.setIfInBounds_toArray, List.set_cons_zero, List.set_cons_succ])
                refine wpAnyH_take (i := 2) (v := .pointer (some ⟨g, 0, none⟩)) rfl (by kernel_rfl) (by kernel_rfl) (by kernel_rfl) (fun _ _ _ h => h) (Or.inl ⟨by kernel_rfl, fun _ _ => by go_simp⟩) (by assumption) ?_
                (try simp only [Act.put, List.getElem_toArray, List.getElem_cons_zero, List.getElem_cons_succ, List.setIfInBounds_toArray, List.set_cons_zero, List.set_cons_succ])
                refine wpAnyH_take (i := 3) (v := .int .i64 (n : Int)) rfl (by kernel_rfl) (by kernel_rfl) (by kernel_rfl) (fun _ _ _ h => h) (Or.inl ⟨by kernel_rfl, fun _ _ => by go_simp⟩) (by assumption) ?_
                (try simp only [Act.put, List.getElem_toArray, List.getElem_cons_zero, List.getElem_cons_succ, List.setIfInBounds_toArray, List.set_cons_zero, List.set_cons_succ])
                refine wpAnyH_ready (rs := [1, 4]) (by kernel_rfl) (by simp) ?_
                refine (AllReadyH.cons rfl (fun K hK => ?_) (AllReadyH.cons rfl (fun K hK => ?_) AllReadyH.nil))
                · go_simp
                  refine hK.out _ _ cQ0 (fun hHeld1 => ?_)
                  clear hK K hHeld0
                  (try simp only [Act.put, List.getElem_toArray, List.getElem_cons_zero, List.getElem_cons_succ, List.setIfInBounds_toArray, List.set_cons_zero, List.set_cons_succ])
                  refine wpAnyH_ready (rs := [4]) (by kernel_rfl) (by simp) ?_
                  refine (AllReadyH.cons rfl (fun K hK => ?_) AllReadyH.nil)
                  go_simp
                  refine (pickB_any g (tq + 2 + 2 * m) (n : Int) wt1 hS.cu (by omega) (by omega)).mono ?_
                  rintro e wt2 ⟨v, hv, rfl, hcx, hgx⟩
                  replace hS := hS.cur hgx hcx hgAg hr0g hglo
                  replace BQ := BQ.grownG hgx hgqg
                  replace hown := own_grownG hown hgx hglo2
                  replace cQ0 := BQ.cell 0
                  replace cQ1 := BQ.cell 1
                  simp at cQ0 cQ1
                  replace hzl := Nat.le_trans hzl hgx.size
                  clear hcx hgx
                  go_wp2_with fail
                  refine hK.out _ _ cQ0 (fun hHeld2 => ?_)
                  clear hK K hHeld1
                  (try simp only [Act.put, List.getElem_toArray, List.getElem_cons_zero, List.getElem_cons_succ, List.setIfInBounds_toArray, List.set_cons_zero, List.set_cons_succ])
                  refine wpAnyH_ready (rs := [5]) (by kernel_rfl) (by simp) ?_
                  refine (AllReadyH.cons rfl (fun K hK => ?_) AllReadyH.nil)
                  have hownP := hown
                  have BQP := BQ
                  have hSP := hS
                  have hzP := hzl
                  go_simp
                  obtain ⟨wt3, Hwt3⟩ : ∃ x, Hid (x = wt2.alloc (.cells #[.int .i64 (v : Int)] 3)) := ⟨_, Lib.hid rfl⟩
                  rw [← Hwt3.out]
                  have hbwt3 : Below wt2.heap.size wt2 wt3 := by rw [Hwt3.out]; exact below_box _ _
                  have Bwt3 : Blk wt3 wt2.heap.size 3 #[.int .i64 (v : Int)] := by rw [Hwt3.out]; exact Blk.new _ _ _
                  have zwt3 : wt2.heap.size < wt3.heap.size := Bwt3.lt
                  have ywt3 := hbwt3.size
                  replace hS := hS.next hbwt3
                  replace BQ := BQ.next hbwt3
                  replace hown := own_next hown hbwt3
                  replace cQ1 := keepc hbwt3 cQ1
                  replace hzl := Nat.le_trans hzl hbwt3.size
                  replace cQ0 := keepc hbwt3 cQ0
                  refine hK.out _ _ cQ0 (fun hHeld3 => ?_)
                  clear hK K hHeld2
                  (try simp only [Act.put, List.getElem_toArray, List.getElem_cons_zero, List.getElem_cons_succ, List.setIfInBounds_toArray, List.set_cons_zero, List.set_cons_succ])
                  refine wpAnyH_ready (rs := [6]) (by kernel_rfl) (by simp) ?_
                  refine (AllReadyH.cons rfl (fun K hK => ?_) AllReadyH.nil)
                  rw [Hwt3.out]
                  refine step_app1 wt2 rfl (.tmp 49) (.tmp 53) 55 3 rfl (.int .i64 0) 8 Try.underlying55 info_int rfl (by decide) lo2 m c A (ints T) (by rfl) hownP _ rfl (by rfl) (by omega) hzP ?_
                  intro A2 c2 wt4 hown2 hg2 hb2
                  rw [ints_snocG] at hown2
                  have hS2 := hSP.far hg2 (fun r e => by have := (hownP.lt r e).1; omega) (by omega) (by omega) (by omega) (by omega) (by omega)
                  have B2 := BQP.below hb2 hgq2
                  have hz2 : lo2 ≤ wt4.heap.size := Nat.le_trans hzP hb2.size
                  replace cQ0 := B2.cell 0
                  simp at cQ0
                  refine hK.out _ _ cQ0 (fun hHeld4 => ?_)
                  clear hK K hHeld3
                  (try simp only [Act.put, List.getElem_toArray, List.getElem_cons_zero, List.getElem_cons_succ, List.setIfInBounds_toArray, List.set_cons_zero, List.set_cons_succ])
                  refine wpAnyH_take (i := 7) (v := .pointer (some ⟨gq, 1, none⟩)) rfl (by kernel_rfl) (by kernel_rfl) (by kernel_rfl) (fun _ _ _ h => h) (Or.inl ⟨by kernel_rfl, fun _ _ => by go_simp⟩) (by assumption) ?_
                  (try simp only [Act.put, List.getElem_toArray, List.getElem_cons_zero, List.getElem_cons_succ, List.setIfInBounds_toArray, List.set_cons_zero, List.set_cons_succ])
                  refine wpAnyH_ready (rs := [8]) (by kernel_rfl) (by simp) ?_
                  refine (AllReadyH.cons rfl (fun K hK => ?_) AllReadyH.nil)
                  have f21 := B2.frozen 1
                  have c21 := B2.cell 1
                  simp at c21
                  go_simp
                  obtain ⟨wt5, Hwt5⟩ : ∃ x, Hid (x = wt4.setCell ⟨gq, 1, none⟩ (.slice A2 (m + 1) c2)) := ⟨_, Lib.hid rfl⟩
                  rw [← Hwt5.out]
                  have B3 : Blk wt5 gq 92 #[.int .i64 (a' : Int), .slice A2 (m + 1) c2] := by rw [Hwt5.out]; simpa using B2.set_ 1 (.slice A2 (m + 1) c2)
                  have hS3 : AlS B g lo hi gA w.heap.size w wt5 (n : Int) xs (tq + 2 + 2 * m + 2) := by rw [Hwt5.out]; exact hS2.far (row := some gq) ⟨rfl, rfl, rfl, by simp, fun b hb hne => Below.heap_setCell _ _ _ b (fun e => hne (by rw [e]))⟩ (fun r e => by injection e with e; omega) (by omega) (by omega) (by omega) (by omega) (by omega)
                  have hown3 : wt5.ownsRow lo2 3 1 (.slice A2 (m + 1) c2) (m + 1) (ints (T ++ [(v : Int)])) := by rw [Hwt5.out]; exact own_same hown2 fun b hb => Below.heap_setCell _ _ _ _ (fun e => by have := (hown2.lt b hb).1; rw [e] at this; simp at this; omega)
                  have hz3 : lo2 ≤ wt5.heap.size := by rw [Hwt5.out]; simpa using hz2
                  replace cQ0 := B3.cell 0
                  simp at cQ0
                  refine hK.out _ _ cQ0 (fun hHeld5 => ?_)
                  clear hK K hHeld4
                  (try simp only [Act.put, List.getElem_toArray, List.getElem_cons_zero, List.getElem_cons_succ, List.setIfInBounds_toArray, List.set_cons_zero, List.set_cons_succ])
                  refine wpAnyH_done (by kernel_rfl) ?_ _
                  have HT2 : Hid ((T ++ [(v : Int)]).length = m + 1 ∧ ∀ u ∈ T ++ [(v : Int)], 0 ≤ u ∧ u ≤ 9) := by
                    refine ⟨by rw [List.length_append, HT.out.1]; rfl, fun u hu => ?_⟩
                    rcases List.mem_append.1 hu with hu | hu
                    · exact HT.out.2 u hu
                    · rw [List.mem_singleton.1 hu]; omega
                  go_wp2_with fail
                  go_roundw
                  case rel => exact ⟨p - 1, m + 1, c2, A2, T ++ [(v : Int)], (by have := HPM.out; show p - 1 + (m + 1) = r; omega), by go_num, B3, hown3, HT2, hS3.mono (by omega), hz3⟩
                  case measure => simp [intOf]; omega
                · go_simp
                  refine (pickB_any g (tq + 2 + 2 * m) (n : Int) wt1 hS.cu (by omega) (by omega)).mono ?_
                  rintro e wt6 ⟨v, hv, rfl, hcx, hgx⟩
                  replace hS := hS.cur hgx hcx hgAg hr0g hglo
                  replace BQ := BQ.grownG hgx hgqg
                  replace hown := own_grownG hown hgx hglo2
                  replace cQ0 := BQ.cell 0
                  replace cQ1 := BQ.cell 1
                  simp at cQ0 cQ1
                  replace hzl := Nat.le_trans hzl hgx.size
                  clear hcx hgx
                  go_wp2_with fail
                  refine hK.out _ _ cQ0 (fun hHeld1 => ?_)
                  clear hK K hHeld0
                  (try simp only [Act.put, List.getElem_toArray, List.getElem_cons_zero, List.getElem_cons_succ, List.setIfInBounds_toArray, List.set_cons_zero, List.set_cons_succ])
                  refine wpAnyH_ready (rs := [1, 5]) (by kernel_rfl) (by simp) ?_
                  refine (AllReadyH.cons rfl (fun K hK => ?_) (AllReadyH.cons rfl (fun K hK => ?_) AllReadyH.nil))
                  · go_simp
                    refine hK.out _ _ cQ0 (fun hHeld2 => ?_)
                    clear hK K hHeld1
                    (try simp only [Act.put, List.getElem_toArray, List.getElem_cons_zero, List.getElem_cons_succ, List.setIfInBounds_toArray, List.set_cons_zero, List.set_cons_succ])
                    refine wpAnyH_ready (rs := [5]) (by kernel_rfl) (by simp) ?_
                    refine (AllReadyH.cons rfl (fun K hK => ?_) AllReadyH.nil)
                    have hownP := hown
                    have BQP := BQ
                    have hSP := hS
                    have hzP := hzl
                    go_simp
                    obtain ⟨wt7, Hwt7⟩ : ∃ x, Hid (x = wt6.alloc (.cells #[.int .i64 (v : Int)] 3)) := ⟨_, Lib.hid rfl⟩
                    rw [← Hwt7.out]
                    have hbwt7 : Below wt6.heap.size wt6 wt7 := by rw [Hwt7.out]; exact below_box _ _
                    have Bwt7 : Blk wt7 wt6.heap.size 3 #[.int .i64 (v : Int)] := by rw [Hwt7.out]; exact Blk.new _ _ _
                    have zwt7 : wt6.heap.size < wt7.heap.size := Bwt7.lt
                    have ywt7 := hbwt7.size
                    replace hS := hS.next hbwt7
                    replace BQ := BQ.next hbwt7
                    replace hown := own_next hown hbwt7
                    replace cQ1 := keepc hbwt7 cQ1
                    replace hzl := Nat.le_trans hzl hbwt7.size
                    replace cQ0 := keepc hbwt7 cQ0
                    refine hK.out _ _ cQ0 (fun hHeld3 => ?_)
                    clear hK K hHeld2
                    (try simp only [Act.put, List.getElem_toArray, List.getElem_cons_zero, List.getElem_cons_succ, List.setIfInBounds_toArray, List.set_cons_zero, List.set_cons_succ])
                    refine wpAnyH_ready (rs := [6]) (by kernel_rfl) (by simp) ?_
                    refine (AllReadyH.cons rfl (fun K hK => ?_) AllReadyH.nil)
                    rw [Hwt7.out]
                    refine step_app1 wt6 rfl (.tmp 49) (.tmp 53) 55 3 rfl (.int .i64 0) 8 Try.underlying55 info_int rfl (by decide) lo2 m c A (ints T) (by rfl) hownP _ rfl (by rfl) (by omega) hzP ?_
                    intro A2 c2 wt8 hown2 hg2 hb2
                    rw [ints_snocG] at hown2
                    have hS2 := hSP.far hg2 (fun r e => by have := (hownP.lt r e).1; omega) (by omega) (by omega) (by omega) (by omega) (by omega)
                    have B2 := BQP.below hb2 hgq2
                    have hz2 : lo2 ≤ wt8.heap.size := Nat.le_trans hzP hb2.size
                    replace cQ0 := B2.cell 0
                    simp at cQ0
                    refine hK.out _ _ cQ0 (fun hHeld4 => ?_)
                    clear hK K hHeld3
                    (try simp only [Act.put, List.getElem_toArray, List.getElem_cons_zero, List.getElem_cons_succ, List.setIfInBounds_toArray, List.set_cons_zero, List.set_cons_succ])
                    refine wpAnyH_take (i := 7) (v := .pointer (some ⟨gq, 1, none⟩)) rfl (by kernel_rfl) (by kernel_rfl) (by kernel_rfl) (fun _ _ _ h => h) (Or.inl ⟨by kernel_rfl, fun _ _ => by go_simp⟩) (by assumption) ?_
                    (try simp only [Act.put, List.getElem_toArray, List.getElem_cons_zero, List.getElem_cons_succ, List.setIfInBounds_toArray, List.set_cons_zero, List.set_cons_succ])
                    refine wpAnyH_ready (rs := [8]) (by kernel_rfl) (by simp) ?_
                    refine (AllReadyH.cons rfl (fun K hK => ?_) AllReadyH.nil)
                    have f21 := B2.frozen 1
                    have c21 := B2.cell 1
                    simp at c21
                    go_simp
                    obtain ⟨wt9, Hwt9⟩ : ∃ x, Hid (x = wt8.setCell ⟨gq, 1, none⟩ (.slice A2 (m + 1) c2)) := ⟨_, Lib.hid rfl⟩
                    rw [← Hwt9.out]
                    have B3 : Blk wt9 gq 92 #[.int .i64 (a' : Int), .slice A2 (m + 1) c2] := by rw [Hwt9.out]; simpa using B2.set_ 1 (.slice A2 (m + 1) c2)
                    have hS3 : AlS B g lo hi gA w.heap.size w wt9 (n : Int) xs (tq + 2 + 2 * m + 2) := by rw [Hwt9.out]; exact hS2.far (row := some gq) ⟨rfl, rfl, rfl, by simp, fun b hb hne => Below.heap_setCell _ _ _ b (fun e => hne (by rw [e]))⟩ (fun r e => by injection e with e; omega) (by omega) (by omega) (by omega) (by omega) (by omega)
                    have hown3 : wt9.ownsRow lo2 3 1 (.slice A2 (m + 1) c2) (m + 1) (ints (T ++ [(v : Int)])) := by rw [Hwt9.out]; exact own_same hown2 fun b hb => Below.heap_setCell _ _ _ _ (fun e => by have := (hown2.lt b hb).1; rw [e] at this; simp at this; omega)
                    have hz3 : lo2 ≤ wt9.heap.size := by rw [Hwt9.out]; simpa using hz2
                    replace cQ0 := B3.cell 0
                    simp at cQ0
                    refine hK.out _ _ cQ0 (fun hHeld5 => ?_)
                    clear hK K hHeld4
                    (try simp only [Act.put, List.getElem_toArray, List.getElem_cons_zero, List.getElem_cons_succ, List.setIfInBounds_toArray, List.set_cons_zero, List.set_cons_succ])
                    refine wpAnyH_done (by kernel_rfl) ?_ _
                    have HT2 : Hid ((T ++ [(v : Int)]).length = m + 1 ∧ ∀ u ∈ T ++ [(v : Int)], 0 ≤ u ∧ u ≤ 9) := by
                      refine ⟨by rw [List.length_append, HT.out.1]; rfl, fun u hu => ?_⟩
                      rcases List.mem_append.1 hu with hu | hu
                      · exact HT.out.2 u hu
                      · rw [List.mem_singleton.1 hu]; omega
                    go_wp2_with fail
                    go_roundw
                    case rel => exact ⟨p - 1, m + 1, c2, A2, T ++ [(v : Int)], (by have := HPM.out; show p - 1 + (m + 1) = r; omega), by go_num, B3, hown3, HT2, hS3.mono (by omega), hz3⟩
                    case measure => simp [intOf]; omega
                  · have hownP := hown
                    have BQP := BQ
                    have hSP := hS
                    have hzP := hzl
                    go_simp
                    obtain ⟨wt10, Hwt10⟩ : ∃ x, Hid (x = wt6.alloc (.cells #[.int .i64 (v : Int)] 3)) := ⟨_, Lib.hid rfl⟩
                    rw [← Hwt10.out]
                    have hbwt10 : Below wt6.heap.size wt6 wt10 := by rw [Hwt10.out]; exact below_box _ _
                    have Bwt10 : Blk wt10 wt6.heap.size 3 #[.int .i64 (v : Int)] := by rw [Hwt10.out]; exact Blk.new _ _ _
                    have zwt10 : wt6.heap.size < wt10.heap.size := Bwt10.lt
                    have ywt10 := hbwt10.size
                    replace hS := hS.next hbwt10
                    replace BQ := BQ.next hbwt10
                    replace hown := own_next hown hbwt10
                    replace cQ1 := keepc hbwt10 cQ1
                    replace hzl := Nat.le_trans hzl hbwt10.size
                    replace cQ0 := keepc hbwt10 cQ0
                    refine hK.out _ _ cQ0 (fun hHeld2 => ?_)
                    clear hK K hHeld1
                    (try simp only [Act.put, List.getElem_toArray, List.getElem_cons_zero, List.getElem_cons_succ, List.setIfInBounds_toArray, List.set_cons_zero, List.set_cons_succ])
                    refine wpAnyH_ready (rs := [1]) (by kernel_rfl) (by simp) ?_
                    refine (AllReadyH.cons rfl (fun K hK => ?_) AllReadyH.nil)
                    go_simp
                    refine hK.out _ _ cQ0 (fun hHeld3 => ?_)
                    clear hK K hHeld2
                    (try simp only [Act.put, List.getElem_toArray, List.getElem_cons_zero, List.getElem_cons_succ, List.setIfInBounds_toArray, List.set_cons_zero, List.set_cons_succ])
                    refine wpAnyH_ready (rs := [6]) (by kernel_rfl) (by simp) ?_
                    refine (AllReadyH.cons rfl (fun K hK => ?_) AllReadyH.nil)
                    rw [Hwt10.out]
                    refine step_app1 wt6 rfl (.tmp 49) (.tmp 53) 55 3 rfl (.int .i64 0) 8 Try.underlying55 info_int rfl (by decide) lo2 m c A (ints T) (by rfl) hownP _ rfl (by rfl) (by omega) hzP ?_
                    intro A2 c2 wt11 hown2 hg2 hb2
                    rw [ints_snocG] at hown2
                    have hS2 := hSP.far hg2 (fun r e => by have := (hownP.lt r e).1; omega) (by omega) (by omega) (by omega) (by omega) (by omega)
                    have B2 := BQP.below hb2 hgq2
                    have hz2 : lo2 ≤ wt11.heap.size := Nat.le_trans hzP hb2.size
                    replace cQ0 := B2.cell 0
                    simp at cQ0
                    refine hK.out _ _ cQ0 (fun hHeld4 => ?_)
                    clear hK K hHeld3
                    (try simp only [Act.put, List.getElem_toArray, List.getElem_cons_zero, List.getElem_cons_succ, List.setIfInBounds_toArray, List.set_cons_zero, List.set_cons_succ])
                    refine wpAnyH_take (i := 7) (v := .pointer (some ⟨gq, 1, none⟩)) rfl (by kernel_rfl) (by kernel_rfl) (by kernel_rfl) (fun _ _ _ h => h) (Or.inl ⟨by kernel_rfl, fun _ _ => by go_simp⟩) (by assumption) ?_
                    (try simp only [Act.put, List.getElem_toArray, List.getElem_cons_zero, List.getElem_cons_succ, List.setIfInBounds_toArray, List.set_cons_zero, List.set_cons_succ])
                    refine wpAnyH_ready (rs := [8]) (by kernel_rfl) (by simp) ?_
                    refine (AllReadyH.cons rfl (fun K hK => ?_) AllReadyH.nil)
                    have f21 := B2.frozen 1
                    have c21 := B2.cell 1
                    simp at c21
                    go_simp
                    obtain ⟨wt12, Hwt12⟩ : ∃ x, Hid (x = wt11.setCell ⟨gq, 1, none⟩ (.slice A2 (m + 1) c2)) := ⟨_, Lib.hid rfl⟩
                    rw [← Hwt12.out]
                    have B3 : Blk wt12 gq 92 #[.int .i64 (a' : Int), .slice A2 (m + 1) c2] := by rw [Hwt12.out]; simpa using B2.set_ 1 (.slice A2 (m + 1) c2)
                    have hS3 : AlS B g lo hi gA w.heap.size w wt12 (n : Int) xs (tq + 2 + 2 * m + 2) := by rw [Hwt12.out]; exact hS2.far (row := some gq) ⟨rfl, rfl, rfl, by simp, fun b hb hne => Below.heap_setCell _ _ _ b (fun e => hne (by rw [e]))⟩ (fun r e => by injection e with e; omega) (by omega) (by omega) (by omega) (by omega) (by omega)
                    have hown3 : wt12.ownsRow lo2 3 1 (.slice A2 (m + 1) c2) (m + 1) (ints (T ++ [(v : Int)])) := by rw [Hwt12.out]; exact own_same hown2 fun b hb => Below.heap_setCell _ _ _ _ (fun e => by have := (hown2.lt b hb).1; rw [e] at this; simp at this; omega)
                    have hz3 : lo2 ≤ wt12.heap.size := by rw [Hwt12.out]; simpa using hz2
                    replace cQ0 := B3.cell 0
                    simp at cQ0
                    refine hK.out _ _ cQ0 (fun hHeld5 => ?_)
                    clear hK K hHeld4
                    (try simp only [Act.put, List.getElem_toArray, List.getElem_cons_zero, List.getElem_cons_succ, List.setIfInBounds_toArray, List.set_cons_zero, List.set_cons_succ])
                    refine wpAnyH_done (by kernel_rfl) ?_ _
                    have HT2 : Hid ((T ++ [(v : Int)]).length = m + 1 ∧ ∀ u ∈ T ++ [(v : Int)], 0 ≤ u ∧ u ≤ 9) := by
                      refine ⟨by rw [List.length_append, HT.out.1]; rfl, fun u hu => ?_⟩
                      rcases List.mem_append.1 hu with hu | hu
                      · exact HT.out.2 u hu
                      · rw [List.mem_singleton.1 hu]; omega
                    go_wp2_with fail
                    go_roundw
                    case rel => exact ⟨p - 1, m + 1, c2, A2, T ++ [(v : Int)], (by have := HPM.out; show p - 1 + (m + 1) = r; omega), by go_num, B3, hown3, HT2, hS3.mono (by omega), hz3⟩
                    case measure => simp [intOf]; omega
              · obtain rfl : p = 0 := by omega
                have hp0 : ¬ (0 : Int) < ((0 : Nat) : Int) := by omega
                obtain rfl : m = r := by have := HPM.out; omega
                obtain ⟨A1, n1, c1, css, bls, BA, PX, BR0, hcu, hgr, hI, l1, l2⟩ := hS
                obtain rfl : n1 = xs.length := by
                  rcases PX.2.1.2 with ⟨e, h0⟩ | ⟨g', cap, cur, e, -⟩
                  · injection e with e1 e2 e3; omega
                  · injection e with e1 e2 e3
                have hxl : xs.length ≤ 2 := by have := HX.out.1; omega
                have hoo := own_opF (w := wr) (a := (a' : Int)) ⟨by omega, by omega⟩ HT.out.1 hown fun u hu => by have := HT.out.2 u hu; exact ⟨by omega, by omega⟩
                have HPU : Hid (∀ (w2 : World) (v' : Value), w2.ownsRow lo 92 2 v' (xs.length + 1) (css.flatten ++ [.int .i64 (a' : Int), .slice A m c]) → wr.grownBy w2 (Value.slice A1 xs.length c1).ownBlock → PO lo w2 v' (xs ++ [((a' : Int), T)]) (css ++ [[.int .i64 (a' : Int), .slice A m c]]) (bls ++ [obl (.slice A m c)])) := fun w2 v' q1 q2 => PX.push2 hI hoo.1 (hoo.2.mono hhl2 (Nat.le_refl _)) l1 q1 q2
                have cQ0 := BQ.cell 0
                have cQ1 := BQ.cell 1
                have cA1 := BA.cell 1
                simp at cQ0 cQ1 cA1
                have hlw : lo ≤ wr.heap.size := by omega
                have hrow := PX.2.1
                have HRW : Hid (∀ r', (Value.slice A1 xs.length c1).ownBlock = some r' → lo ≤ r') := fun r' e => (PX.2.1.lt r' e).1
                obtain ⟨LL, HLL⟩ : ∃ x, Hid (xs.length = x) := ⟨_, Lib.hid rfl⟩
                have hll : LL ≤ 2 := by rw [← HLL.out]; exact hxl
                rw [HLL.out] at hrow cA1 BA HRW
                clear hoo PX hxl
                go_wp2_with (at_builtin; refine app2 wr rfl _ _ 25 92 rfl (.agg #[.int .i64 0, .slice none 0 0]) 32 Try.underlying25 info_op2 rfl (by decide) lo LL c1 A1 css.flatten rfl hrow (.int .i64 (a' : Int)) (.slice A m c) rfl rfl rfl (by omega) hlw ?_; intro A3 c3 w3 hown3 hg3 hb3; have BA3 := BA.below hb3 hgAl; have cA13 := BA3.cell 1; simp at cA13; have fA13 := BA3.frozen 1)
                have hz33 := hb3.size
                have PX2 := HPU.out w3 (.slice A3 (LL + 1) c3) (by rw [HLL.out]; exact hown3) (by rw [HLL.out]; exact hg3)
                have PX3 := PX2.far (p := ⟨gA, 1, none⟩) (by exact hgAl) (.slice A3 (LL + 1) c3)
                have BA4 : Blk (w3.setCell ⟨gA, 1, none⟩ (.slice A3 (LL + 1) c3)) gA 27 #[.int .i64 (n : Int), .slice A3 (LL + 1) c3] := by simpa using BA3.set_ 1 (.slice A3 (LL + 1) c3)
                have BR4 := (BR0.below hb3 hwlo).far (p := ⟨gA, 1, none⟩) (by exact hwgA) (.slice A3 (LL + 1) c3)
                have hcu4 := (hcu.grown hg3 (fun r' e => by have := HRW.out r' e; omega)).setFar (p := ⟨gA, 1, none⟩) (by exact hBgA) (by exact hgAg) (.slice A3 (LL + 1) c3)
                have hgr4 := growB_new (growB_own hgr hg3 (fun r' e => by have := HRW.out r' e; omega)) (p := ⟨gA, 1, none⟩) (by exact hwgA2) (.slice A3 (LL + 1) c3)
                have hS4 : AlS B g lo w3.heap.size gA w.heap.size w (w3.setCell ⟨gA, 1, none⟩ (.slice A3 (LL + 1) c3)) (n : Int) (xs ++ [((a' : Int), T)]) (tq + 2 + 2 * m) := ⟨A3, LL + 1, c3, _, _, BA4, PX3, BR4, hcu4, hgr4, PX2.2.2, by omega, by simp⟩
                have HX2 : Hid ((xs ++ [((a' : Int), T)]).length + (q - 1) = k0 ∧ OpsQ (xs ++ [((a' : Int), T)])) := by
                  refine ⟨by have := HX.out.1; rw [List.length_append, List.length_singleton]; omega, fun o ho => ?_⟩
                  rcases List.mem_append.1 ho with ho | ho
                  · exact HX.out.2 o ho
                  · rw [List.mem_singleton.1 ho]
                    have := HT.out.1
                    exact ⟨by show (0 : Int) ≤ (a' : Int); omega, by show (a' : Int) ≤ 3; omega, by show 1 ≤ T.length; omega, by show T.length ≤ 64; omega⟩
                have HS4 := Lib.hid hS4
                clear hS4 PX2 PX3 BA4 BR4 hcu4 hgr4 BA3 cA13 fA13 hown3 hg3 hb3 hrow cQ0 cQ1 cA1 BQ BA BR0 hcu hgr hown
                go_wp2_with fail
                go_roundw
                case rel => exact ⟨q - 1, xs ++ [((a' : Int), T)], w3.heap.size, by omega, by go_num, HS4.out.mono (by have := HTQ.out; omega), HX2⟩
                case measure => simp [intOf]; omega
      · obtain rfl : q = 0 := by omega
        have hq0 : ¬ (0 : Int) < ((0 : Nat) : Int) := by omega
        obtain ⟨tq, HTQ⟩ : ∃ x, Hid (t6 + 150 * (k0 - 0) = x) := ⟨_, Lib.hid rfl⟩
        rw [HTQ.out] at hS
        have htq : tq ≤ 999901000 := by have := HTQ.out; omega
        have HTT : Hid (tq + 600 ≤ t + 2000) := by have := HTQ.out; have := HT6.out; show tq + 600 ≤ t + 2000; omega
        have HPK := Lib.hid (pickB_any g tq 16 wr hS.cu (by omega) (by omega))
        go_wp2_with fail
        refine HPK.out.mono ?_
        rintro e w2 ⟨v, hv, rfl, hc2, hg2⟩
        have hS2 := hS.cur hg2 hc2 hgAg hr0g hglo
        have hz2 := hg2.size
        clear HPK hS hc2 hg2 hv
        go_upto_block 4 with fail
        go_cut [] from 64 to 130 (fun wx => ∃ (z : Int) (xs : List OpM) (hi : Nat), AlS B g lo hi gA w.heap.size w wx z xs (t + 2000) ∧ AlgQ (z, xs))
        case first =>
          rcases (by omega : v = 0 ∨ v = 1 ∨ v = 2 ∨ v = 3 ∨ v = 4 ∨ 4 < v) with hv | hv | hv | hv | hv | hv
          · -- another size
            subst hv
            obtain ⟨w3, HW3⟩ : ∃ wb, Hid (wb = w2.alloc (.cells #[.int .i64 0, .int .i64 9, .int .i64 ((n : Int) + 1)] 3)) := ⟨_, Lib.hid rfl⟩
            have hb3 : Below w2.heap.size w2 w3 := by rw [HW3.out]; exact below_box _ _
            have hgw2 : g < w2.heap.size := by have := hS2.cu.lt; exact this
            have hnum : NumsP (fun x => 0 ≤ x ∧ x ≤ 9) w3 g w2.heap.size 3 := by rw [HW3.out]; exact numsL _ [0, 9, (n : Int) + 1] w2 g hgw2 (by simp) (by simp) (by intro x hx; simp at hx; omega) rfl
            have hS3 := hS2.next hb3
            have HAM := Lib.hid (amongB_any g (tq + 2) w2.heap.size 3 3 w3 hS3.cu (by omega) _ hnum)
            have hwn : IntKind.i64.wrap ((n : Int) + 1) = (n : Int) + 1 := by rw [IntKind.wrap_i64]; omega
            clear hnum hS2
            go_wp2_with fail
            rw [← HW3.out]
            refine HAM.out.mono ?_
            rintro e w4 ⟨z, hzv, rfl, hc4, hg4⟩
            have hS4 := hS3.cur hg4 hc4 hgAg hr0g hglo
            have HS5 := Lib.hid (hS4.setZ (z' := z) hgAl hwgA hBgA hgAg hwgA2)
            have HQ : Hid (AlgQ (z, xs)) := opsQ_alg HX.out.2 (by have := HX.out.1; omega) hzv.1 hzv.2
            obtain ⟨A1, n1, c1, css, bls, BA, -⟩ := hS4
            have cA0 := BA.cell 0
            simp at cA0
            have fA0 := BA.frozen 0
            clear HAM hS3 hc4 hg4 BA hwn
            go_wp2_with fail
            go_meet
            exact ⟨z, xs, hi, HS5.out.mono (by have := HTT.out; omega), HQ.out⟩
          · -- too long a table
            subst hv
            obtain ⟨⟨a, T⟩, rest, rfl⟩ : ∃ x l, xs = x :: l := by
              cases xs with
              | nil => have := HX.out.1; simp at this; omega
              | cons x l => exact ⟨x, l, rfl⟩
            have hOQ := HX.out.2
            have hTl := (hOQ _ (List.mem_cons_self ..)).2.2
            have hrl : rest.length ≤ 1 := by have := HX.out.1; rw [List.length_cons] at this; omega
            have HRS : Hid (∀ o ∈ rest, o.2.length ≤ 1000) := fun o ho => by have := (hOQ o (List.mem_cons_of_mem _ ho)).2.2.2; omega
            obtain ⟨go, c, TA, cT, css, BA, BR0, hcu, hgr, hgo, hgw, hops, htab, hia, hiT, hne, hput⟩ := hS2.el0
            have HPUT := Lib.hid hput
            have HIT := Lib.hid hiT
            obtain ⟨LL, HLL⟩ : ∃ x, Hid (rest.length + 1 = x) := ⟨_, Lib.hid rfl⟩
            obtain ⟨tl, HTL⟩ : ∃ x, Hid (T.length = x) := ⟨_, Lib.hid rfl⟩
            have htl : 1 ≤ tl ∧ tl ≤ 64 := by rw [← HTL.out]; exact hTl
            have hLL : 1 ≤ LL ∧ LL ≤ 2 := by have := HLL.out; omega
            rw [HLL.out] at BA hops HPUT
            rw [HTL.out] at htab hops hne HPUT
            have hLL0 : ¬ LL = 0 := by omega
            have hLL1 : (0 : Int) < (LL : Int) := by omega
            have hgf : w2.grownBy w2 (some g) := grown_reflB _ _
            have hgog : go ≠ g := by omega
            have hBgo : B ≤ go := by omega
            have hgAgo : gA ≠ go := by omega
            have hr0go : w.heap.size ≠ go := by omega
            have hwgo : w.heap.size ≤ go := by omega
            have cA1 := BA.cell 1
            simp at cA1
            have cO0 := hops.cellAt 0 (by omega)
            have cO1 := hops.cellAt 1 (by omega)
            simp at cO0 cO1
            clear hput hiT hOQ hTl hS2 HX
            obtain ⟨tb, rfl, htb, htc⟩ := own_form htab (by omega)
            have htbgo : tb ≠ go := fun e => hne (by simp [Value.ownBlock, e])
            have hgAtb : gA ≠ tb := by omega
            have hr0tb : w.heap.size ≠ tb := by omega
            have hBtb : B ≤ tb := by omega
            have htbg : tb ≠ g := by omega
            have hwtb : w.heap.size ≤ tb := by omega
            go_upto_region 21 with fail
            refine wp_region_held_drew (S := fun w' => w'.cell? ⟨gA, 1, none⟩ = some (.slice (some ⟨go, 0, none⟩) LL c)) (by kernel_rfl) cA1 (fun hHeld0 => ?_)
            obtain ⟨wt1, Hwt1⟩ : ∃ x, Hid (x = World.drew w2) := ⟨_, rfl⟩
            have hbwt1 : Below w2.heap.size w2 wt1 := by rw [Hwt1.out]; exact (Below.refl _ _).drew
            rw [← Hwt1.out] at hHeld0 ⊢
            have ywt1 := hbwt1.size
            replace BA := BA.next hbwt1
            replace BR0 := BR0.next hbwt1
            replace hops := own_next hops hbwt1
            replace htab := own_next htab hbwt1
            replace hcu := hcu.next_ hbwt1
            replace hgr := growB_trans hgr (toGr hbwt1)
            replace hgf := growB_trans hgf (toGr hbwt1)
            replace cO0 := keepc hbwt1 cO0
            replace cO1 := keepc hbwt1 cO1
            replace cA1 := keepc hbwt1 cA1
            refine wpAnyH_take (i := 0) (v := .pointer (some ⟨gA, 1, none⟩)) rfl (by kernel_rfl) (by kernel_rfl) (by kernel_rfl) (fun _ _ _ h => h) (Or.inl ⟨by kernel_rfl, fun _ _ => by go_simp⟩) (by assumption) ?_
            (try simp only [Act.put, List.getElem_toArray, List.getElem_cons_zero, List.getElem_cons_succ, List.setIfInBounds_toArray, List.set_cons_zero, List.set_cons_succ])
            refine wpAnyH_take (i := 1) (v := .slice (some ⟨go, 0, none⟩) LL c) rfl (by kernel_rfl) (by kernel_rfl) (by kernel_rfl) (fun _ _ _ h => h) (Or.inl ⟨by kernel_rfl, fun wv hSw => by (have hS0 := hSw); go_simp⟩) (by assumption) ?_
            (try simp only [Act.put, List.getElem_toArray, List.getElem_cons_zero, List.getElem_cons_succ, List.setIfInBounds_toArray, List.set_cons_zero, List.set_cons_succ])
            refine wpAnyH_take (i := 2) (v := .pointer (some ⟨gA, 1, none⟩)) rfl (by kernel_rfl) (by kernel_rfl) (by kernel_rfl) (fun _ _ _ h => h) (Or.inl ⟨by kernel_rfl, fun _ _ => by go_simp⟩) (by assumption) ?_
            (try simp only [Act.put, List.getElem_toArray, List.getElem_cons_zero, List.getElem_cons_succ, List.setIfInBounds_toArray, List.set_cons_zero, List.set_cons_succ])
            refine wpAnyH_take (i := 3) (v := .slice (some ⟨go, 0, none⟩) LL c) rfl (by kernel_rfl) (by kernel_rfl) (by kernel_rfl) (fun _ _ _ h => h) (Or.inl ⟨by kernel_rfl, fun wv hSw => by (have hS0 := hSw); go_simp⟩) (by assumption) ?_
            (try simp only [Act.put, List.getElem_toArray, List.getElem_cons_zero, List.getElem_cons_succ, List.setIfInBounds_toArray, List.set_cons_zero, List.set_cons_succ])
            refine wpAnyH_take (i := 4) (v := .pointer (some ⟨go, 0, none⟩)) rfl (by kernel_rfl) (by kernel_rfl) (by kernel_rfl) (fun _ _ _ h => h) (Or.inl ⟨by kernel_rfl, fun _ _ => by go_simp⟩) (by assumption) ?_
            (try simp only [Act.put, List.getElem_toArray, List.getElem_cons_zero, List.getElem_cons_succ, List.setIfInBounds_toArray, List.set_cons_zero, List.set_cons_succ])
            refine wpAnyH_take (i := 5) (v := .pointer (some ⟨go, 1, none⟩)) rfl (by kernel_rfl) (by kernel_rfl) (by kernel_rfl) (fun _ _ _ h => h) (Or.inl ⟨by kernel_rfl, fun _ _ => by go_simp⟩) (by assumption) ?_
            (try simp only [Act.put, List.getElem_toArray, List.getElem_cons_zero, List.getElem_cons_succ, List.setIfInBounds_toArray, List.set_cons_zero, List.set_cons_succ])
            refine wpAnyH_ready (rs := [6, 7]) (by kernel_rfl) (by simp) ?_
            refine (AllReadyH.cons rfl (fun K hK => ?_) (AllReadyH.cons rfl (fun K hK => ?_) AllReadyH.nil))
            · go_simp
              refine hK.out _ _ cA1 (fun hHeld1 => ?_)
              clear hK K hHeld0
              (try simp only [Act.put, List.getElem_toArray, List.getElem_cons_zero, List.getElem_cons_succ, List.setIfInBounds_toArray, List.set_cons_zero, List.set_cons_succ])
              refine wpAnyH_ready (rs := [7]) (by kernel_rfl) (by simp) ?_
              refine (AllReadyH.cons rfl (fun K hK => ?_) AllReadyH.nil)
              have htabP := htab
              have hopsP := hops
              have BAP := BA
              have BRP := BR0
              have hcuP := hcu
              have hgrP := hgr
              have hgfP := hgf
              have hloP : lo ≤ wt1.heap.size := by have := hgf.size; omega
              go_simp
              obtain ⟨wt2, Hwt2⟩ : ∃ x, Hid (x = wt1.alloc (.cells #[.int .i64 0] 3)) := ⟨_, Lib.hid rfl⟩
              rw [← Hwt2.out]
              have hbwt2 : Below wt1.heap.size wt1 wt2 := by rw [Hwt2.out]; exact below_box _ _
              have Bwt2 : Blk wt2 wt1.heap.size 3 #[.int .i64 0] := by rw [Hwt2.out]; exact Blk.new _ _ _
              have zwt2 : wt1.heap.size < wt2.heap.size := Bwt2.lt
              have ywt2 := hbwt2.size
              replace BA := BA.next hbwt2
              replace BR0 := BR0.next hbwt2
              replace hops := own_next hops hbwt2
              replace htab := own_next htab hbwt2
              replace hcu := hcu.next_ hbwt2
              replace hgr := growB_trans hgr (toGr hbwt2)
              replace hgf := growB_trans hgf (toGr hbwt2)
              replace cO0 := keepc hbwt2 cO0
              replace cO1 := keepc hbwt2 cO1
              replace cA1 := keepc hbwt2 cA1
              refine hK.out _ _ cA1 (fun hHeld2 => ?_)
              clear hK K hHeld1
              (try simp only [Act.put, List.getElem_toArray, List.getElem_cons_zero, List.getElem_cons_succ, List.setIfInBounds_toArray, List.set_cons_zero, List.set_cons_succ])
              refine wpAnyH_ready (rs := [8]) (by kernel_rfl) (by simp) ?_
              refine (AllReadyH.cons rfl (fun K hK => ?_) AllReadyH.nil)
              rw [Hwt2.out]
              refine step_app1at wt1 rfl (.tmp 80) (.tmp 81) 55 3 rfl (.int .i64 0) 8 Try.underlying55 info_int rfl (by decide) lo tl cT (some ⟨tb, 0, none⟩) (ints T) (by rfl) htabP _ rfl (by rfl) (by omega) hloP ?_
              intro A2 c2 wt3 hown2 hg2 hb2 hat
              rw [ints_snocG] at hown2
              have hne2 : ∀ r', (Value.slice (some ⟨tb, 0, none⟩) tl cT).ownBlock = some r' → r' = tb := fun r' e => by simp [Value.ownBlock] at e; exact e.symm
              have BA2 := BAP.below hb2 hgAl
              have BR2 := BRP.below hb2 hwlo
              have hcu2 := hcuP.grown hg2 (fun r' e => by have := hne2 r' e; omega)
              have hgr2 := growB_own hgrP hg2 (fun r' e => by have := hne2 r' e; omega)
              have hops2 := own_same hopsP (fun b hb => hg2.block b (hopsP.lt b hb).2 (fun e => by simp [Value.ownBlock] at hb; have := hne2 b e.symm; omega)) (w' := wt3)
              have hfar2 : ∀ b, b < w2.heap.size → b ≠ g → b ≠ tb → wt3.heap[b]? = w2.heap[b]? := fun b q1 q2 q3 => (hg2.block b (Nat.lt_of_lt_of_le q1 hgfP.size) (fun e => q3 (hne2 b e.symm))).trans (hgfP.block b q1 (fun e => q2 (by injection e)))
              have hz2 := hg2.size
              have hgfz := hgfP.size
              replace cA1 := BA2.cell 1
              simp at cA1
              refine hK.out _ _ cA1 (fun hHeld3 => ?_)
              clear hK K hHeld2
              (try simp only [Act.put, List.getElem_toArray, List.getElem_cons_zero, List.getElem_cons_succ, List.setIfInBounds_toArray, List.set_cons_zero, List.set_cons_succ])
              refine wpAnyH_take (i := 9) (v := .pointer (some ⟨go, 0, none⟩)) rfl (by kernel_rfl) (by kernel_rfl) (by kernel_rfl) (fun _ _ _ h => h) (Or.inl ⟨by kernel_rfl, fun _ _ => by go_simp⟩) (by assumption) ?_
              (try simp only [Act.put, List.getElem_toArray, List.getElem_cons_zero, List.getElem_cons_succ, List.setIfInBounds_toArray, List.set_cons_zero, List.set_cons_succ])
              refine wpAnyH_take (i := 10) (v := .pointer (some ⟨go, 1, none⟩)) rfl (by kernel_rfl) (by kernel_rfl) (by kernel_rfl) (fun _ _ _ h => h) (Or.inl ⟨by kernel_rfl, fun _ _ => by go_simp⟩) (by assumption) ?_
              (try simp only [Act.put, List.getElem_toArray, List.getElem_cons_zero, List.getElem_cons_succ, List.setIfInBounds_toArray, List.set_cons_zero, List.set_cons_succ])
              refine wpAnyH_ready (rs := [11]) (by kernel_rfl) (by simp) ?_
              refine (AllReadyH.cons rfl (fun K hK => ?_) AllReadyH.nil)
              have fO1 := hops2.frozenAt 1
              replace cO1 := hops2.cellAt 1 (by omega)
              simp at cO1
              go_simp
              obtain ⟨wt4, Hwt4⟩ : ∃ q, Hid (q = wt3.setCell ⟨go, 1, none⟩ (.slice A2 (tl + 1) c2)) := ⟨_, Lib.hid rfl⟩
              rw [← Hwt4.out]
              have BA4 : Blk wt4 gA 27 #[.int .i64 (n : Int), .slice (some ⟨go, 0, none⟩) LL c] := by rw [Hwt4.out]; exact BA2.far (by exact hgAgo) _
              have BR4 : Blk wt4 w.heap.size 27 #[.int .i64 0, .slice none 0 0] := by rw [Hwt4.out]; exact BR2.far (by exact hr0go) _
              have hcu4 : CurB B wt4 g (tq + 2) := by rw [Hwt4.out]; exact hcu2.setFar (by exact hBgo) (by exact hgog) _
              have hgr4 : w.grownBy wt4 (some g) := by rw [Hwt4.out]; exact growB_new hgr2 (by exact hwgo) _
              have hsz4 : wt4.heap.size = wt3.heap.size := by rw [Hwt4.out]; simp
              have hops4 : wt4.ownsRow lo 92 2 (.slice (some ⟨go, 0, none⟩) LL c) LL ([.int .i64 a, .slice A2 (tl + 1) c2] ++ css.flatten) := by rw [Hwt4.out]; simpa using (hops2.stored 1 (.slice A2 (tl + 1) c2)).1
              have hn2 : (Value.slice A2 (tl + 1) c2).ownBlock ≠ some go := by
                rcases hat with e | e
                · rw [e]; exact hne
                · rw [e]; intro e2; injection e2; omega
              have htab4 : wt4.ownsRow lo 3 1 (.slice A2 (tl + 1) c2) (tl + 1) (ints (T ++ [0])) := by rw [Hwt4.out]; exact own_same hown2 fun b hb => Below.heap_setCell _ _ _ _ (fun e => hn2 (by rw [hb, e]))
              have HSL : (T ++ [(0 : Int)]).length = tl + 1 := by rw [List.length_append, HTL.out]; rfl
              have HPX := HPUT.out wt4 a (T ++ [0]) A2 c2 hia (fun u hu => by rcases List.mem_append.1 hu with h1 | h1; exact HIT.out u h1; rw [List.mem_singleton.1 h1]; exact ⟨by omega, by omega⟩) (by rw [HSL]; exact htab4) (by omega) (by rw [HSL]; exact hops4) (fun b q1 q2 q3 q4 q5 q6 => by rw [Hwt4.out]; exact (Below.heap_setCell _ _ _ b q2).trans (hfar2 b q1 q6 (fun e => q3 (by simp [Value.ownBlock, e])))) hgAl hwlo hglo (by rw [HSL]; rcases hat with e | e; exact .inl e; exact .inr fun b hb => by rw [e] at hb; injection hb; omega)
              obtain ⟨css', bls', PX⟩ := HPX
              replace cA1 := BA4.cell 1
              simp at cA1
              refine hK.out _ _ cA1 (fun hHeld4 => ?_)
              clear hK K hHeld3
              (try simp only [Act.put, List.getElem_toArray, List.getElem_cons_zero, List.getElem_cons_succ, List.setIfInBounds_toArray, List.set_cons_zero, List.set_cons_succ])
              refine wpAnyH_done (by kernel_rfl) ?_ _
              have hl4 : lo ≤ wt4.heap.size := by omega
              go_wp2_with fail
              go_meet
              exact ⟨(n : Int), (a, T ++ [0]) :: rest, wt4.heap.size, ⟨_, _, _, _, _, BA4, PX, BR4, hcu4.mono (by have := HTT.out; omega), hgr4, PX.2.2, hl4, Nat.le_refl _⟩, alg_q (fun o ho => by rcases List.mem_cons.1 ho with rfl | ho; exact (by show (T ++ [(0 : Int)]).length ≤ 1000; rw [HSL]; omega); exact HRS.out o ho) (by rw [List.length_cons]; omega) (by omega) (by omega)⟩
            · have htabP := htab
              have hopsP := hops
              have BAP := BA
              have BRP := BR0
              have hcuP := hcu
              have hgrP := hgr
              have hgfP := hgf
              have hloP : lo ≤ wt1.heap.size := by have := hgf.size; omega
              go_simp
              obtain ⟨wt5, Hwt5⟩ : ∃ x, Hid (x = wt1.alloc (.cells #[.int .i64 0] 3)) := ⟨_, Lib.hid rfl⟩
              rw [← Hwt5.out]
              have hbwt5 : Below wt1.heap.size wt1 wt5 := by rw [Hwt5.out]; exact below_box _ _
              have Bwt5 : Blk wt5 wt1.heap.size 3 #[.int .i64 0] := by rw [Hwt5.out]; exact Blk.new _ _ _
              have zwt5 : wt1.heap.size < wt5.heap.size := Bwt5.lt
              have ywt5 := hbwt5.size
              replace BA := BA.next hbwt5
              replace BR0 := BR0.next hbwt5
              replace hops := own_next hops hbwt5
              replace htab := own_next htab hbwt5
              replace hcu := hcu.next_ hbwt5
              replace hgr := growB_trans hgr (toGr hbwt5)
              replace hgf := growB_trans hgf (toGr hbwt5)
              replace cO0 := keepc hbwt5 cO0
              replace cO1 := keepc hbwt5 cO1
              replace cA1 := keepc hbwt5 cA1
              refine hK.out _ _ cA1 (fun hHeld1 => ?_)
              clear hK K hHeld0
              (try simp only [Act.put, List.getElem_toArray, List.getElem_cons_zero, List.getElem_cons_succ, List.setIfInBounds_toArray, List.set_cons_zero, List.set_cons_succ])
              refine wpAnyH_ready (rs := [6]) (by kernel_rfl) (by simp) ?_
              refine (AllReadyH.cons rfl (fun K hK => ?_) AllReadyH.nil)
              go_simp
              refine hK.out _ _ cA1 (fun hHeld2 => ?_)
              clear hK K hHeld1
              (try simp only [Act.put, List.getElem_toArray, List.getElem_cons_zero, List.getElem_cons_succ, List.setIfInBounds_toArray, List.set_cons_zero, List.set_cons_succ])
              refine wpAnyH_ready (rs := [8]) (by kernel_rfl) (by simp) ?_
              refine (AllReadyH.cons rfl (fun K hK => ?_) AllReadyH.nil)
              rw [Hwt5.out]
              refine step_app1at wt1 rfl (.tmp 80) (.tmp 81) 55 3 rfl (.int .i64 0) 8 Try.underlying55 info_int rfl (by decide) lo tl cT (some ⟨tb, 0, none⟩) (ints T) (by rfl) htabP _ rfl (by rfl) (by omega) hloP ?_
              intro A2 c2 wt6 hown2 hg2 hb2 hat
              rw [ints_snocG] at hown2
              have hne2 : ∀ r', (Value.slice (some ⟨tb, 0, none⟩) tl cT).ownBlock = some r' → r' = tb := fun r' e => by simp [Value.ownBlock] at e; exact e.symm
              have BA2 := BAP.below hb2 hgAl
              have BR2 := BRP.below hb2 hwlo
              have hcu2 := hcuP.grown hg2 (fun r' e => by have := hne2 r' e; omega)
              have hgr2 := growB_own hgrP hg2 (fun r' e => by have := hne2 r' e; omega)
              have hops2 := own_same hopsP (fun b hb => hg2.block b (hopsP.lt b hb).2 (fun e => by simp [Value.ownBlock] at hb; have := hne2 b e.symm; omega)) (w' := wt6)
              have hfar2 : ∀ b, b < w2.heap.size → b ≠ g → b ≠ tb → wt6.heap[b]? = w2.heap[b]? := fun b q1 q2 q3 => (hg2.block b (Nat.lt_of_lt_of_le q1 hgfP.size) (fun e => q3 (hne2 b e.symm))).trans (hgfP.block b q1 (fun e => q2 (by injection e)))
              have hz2 := hg2.size
              have hgfz := hgfP.size
              replace cA1 := BA2.cell 1
              simp at cA1
              refine hK.out _ _ cA1 (fun hHeld3 => ?_)
              clear hK K hHeld2
              (try simp only [Act.put, List.getElem_toArray, List.getElem_cons_zero, List.getElem_cons_succ, List.setIfInBounds_toArray, List.set_cons_zero, List.set_cons_succ])
              refine wpAnyH_take (i := 9) (v := .pointer (some ⟨go, 0, none⟩)) rfl (by kernel_rfl) (by kernel_rfl) (by kernel_rfl) (fun _ _ _ h => h) (Or.inl ⟨by kernel_rfl, fun _ _ => by go_simp⟩) (by assumption) ?_
              (try simp only [Act.put, List.getElem_toArray, List.getElem_cons_zero, List.getElem_cons_succ, List.setIfInBounds_toArray, List.set_cons_zero, List.set_cons_succ])
              refine wpAnyH_take (i := 10) (v := .pointer (some ⟨go, 1, none⟩)) rfl (by kernel_rfl) (by kernel_rfl) (by kernel_rfl) (fun _ _ _ h => h) (Or.inl ⟨by kernel_rfl, fun _ _ => by go_simp⟩) (by assumption) ?_
              (try simp only [Act.put, List.getElem_toArray, List.getElem_cons_zero, List.getElem_cons_succ, List.setIfInBounds_toArray, List.set_cons_zero, List.set_cons_succ])
              refine wpAnyH_ready (rs := [11]) (by kernel_rfl) (by simp) ?_
              refine (AllReadyH.cons rfl (fun K hK => ?_) AllReadyH.nil)
              have fO1 := hops2.frozenAt 1
              replace cO1 := hops2.cellAt 1 (by omega)
              simp at cO1
              go_simp
              obtain ⟨wt7, Hwt7⟩ : ∃ q, Hid (q = wt6.setCell ⟨go, 1, none⟩ (.slice A2 (tl + 1) c2)) := ⟨_, Lib.hid rfl⟩
              rw [← Hwt7.out]
              have BA4 : Blk wt7 gA 27 #[.int .i64 (n : Int), .slice (some ⟨go, 0, none⟩) LL c] := by rw [Hwt7.out]; exact BA2.far (by exact hgAgo) _
              have BR4 : Blk wt7 w.heap.size 27 #[.int .i64 0, .slice none 0 0] := by rw [Hwt7.out]; exact BR2.far (by exact hr0go) _
              have hcu4 : CurB B wt7 g (tq + 2) := by rw [Hwt7.out]; exact hcu2.setFar (by exact hBgo) (by exact hgog) _
              have hgr4 : w.grownBy wt7 (some g) := by rw [Hwt7.out]; exact growB_new hgr2 (by exact hwgo) _
              have hsz4 : wt7.heap.size = wt6.heap.size := by rw [Hwt7.out]; simp
              have hops4 : wt7.ownsRow lo 92 2 (.slice (some ⟨go, 0, none⟩) LL c) LL ([.int .i64 a, .slice A2 (tl + 1) c2] ++ css.flatten) := by rw [Hwt7.out]; simpa using (hops2.stored 1 (.slice A2 (tl + 1) c2)).1
              have hn2 : (Value.slice A2 (tl + 1) c2).ownBlock ≠ some go := by
                rcases hat with e | e
                · rw [e]; exact hne
                · rw [e]; intro e2; injection e2; omega
              have htab4 : wt7.ownsRow lo 3 1 (.slice A2 (tl + 1) c2) (tl + 1) (ints (T ++ [0])) := by rw [Hwt7.out]; exact own_same hown2 fun b hb => Below.heap_setCell _ _ _ _ (fun e => hn2 (by rw [hb, e]))
              have HSL : (T ++ [(0 : Int)]).length = tl + 1 := by rw [List.length_append, HTL.out]; rfl
              have HPX := HPUT.out wt7 a (T ++ [0]) A2 c2 hia (fun u hu => by rcases List.mem_append.1 hu with h1 | h1; exact HIT.out u h1; rw [List.mem_singleton.1 h1]; exact ⟨by omega, by omega⟩) (by rw [HSL]; exact htab4) (by omega) (by rw [HSL]; exact hops4) (fun b q1 q2 q3 q4 q5 q6 => by rw [Hwt7.out]; exact (Below.heap_setCell _ _ _ b q2).trans (hfar2 b q1 q6 (fun e => q3 (by simp [Value.ownBlock, e])))) hgAl hwlo hglo (by rw [HSL]; rcases hat with e | e; exact .inl e; exact .inr fun b hb => by rw [e] at hb; injection hb; omega)
              obtain ⟨css', bls', PX⟩ := HPX
              replace cA1 := BA4.cell 1
              simp at cA1
              refine hK.out _ _ cA1 (fun hHeld4 => ?_)
              clear hK K hHeld3
              (try simp only [Act.put, List.getElem_toArray, List.getElem_cons_zero, List.getElem_cons_succ, List.setIfInBounds_toArray, List.set_cons_zero, List.set_cons_succ])
              refine wpAnyH_done (by kernel_rfl) ?_ _
              have hl4 : lo ≤ wt7.heap.size := by omega
              go_wp2_with fail
              go_meet
              exact ⟨(n : Int), (a, T ++ [0]) :: rest, wt7.heap.size, ⟨_, _, _, _, _, BA4, PX, BR4, hcu4.mono (by have := HTT.out; omega), hgr4, PX.2.2, hl4, Nat.le_refl _⟩, alg_q (fun o ho => by rcases List.mem_cons.1 ho with rfl | ho; exact (by show (T ++ [(0 : Int)]).length ≤ 1000; rw [HSL]; omega); exact HRS.out o ho) (by rw [List.length_cons]; omega) (by omega) (by omega)⟩
          · -- another value
            subst hv
            obtain ⟨⟨a, T⟩, rest, rfl⟩ : ∃ x l, xs = x :: l := by
              cases xs with
              | nil => have := HX.out.1; simp at this; omega
              | cons x l => exact ⟨x, l, rfl⟩
            have hOQ := HX.out.2
            have hTl := (hOQ _ (List.mem_cons_self ..)).2.2
            have hrl : rest.length ≤ 1 := by have := HX.out.1; rw [List.length_cons] at this; omega
            have HRS : Hid (∀ o ∈ rest, o.2.length ≤ 1000) := fun o ho => by have := (hOQ o (List.mem_cons_of_mem _ ho)).2.2.2; omega
            obtain ⟨go, c, TA, cT, css, BA, BR0, hcu, hgr, hgo, hgw, hops, htab, hia, hiT, hne, hput⟩ := hS2.el0
            have HPUT := Lib.hid hput
            have HIT := Lib.hid hiT
            obtain ⟨LL, HLL⟩ : ∃ x, Hid (rest.length + 1 = x) := ⟨_, Lib.hid rfl⟩
            obtain ⟨tl, HTL⟩ : ∃ x, Hid (T.length = x) := ⟨_, Lib.hid rfl⟩
            have htl : 1 ≤ tl ∧ tl ≤ 64 := by rw [← HTL.out]; exact hTl
            have hLL : 1 ≤ LL ∧ LL ≤ 2 := by have := HLL.out; omega
            rw [HLL.out] at BA hops HPUT
            rw [HTL.out] at htab hops hne HPUT
            have hLL0 : ¬ LL = 0 := by omega
            have hLL1 : (0 : Int) < (LL : Int) := by omega
            have hgf : w2.grownBy w2 (some g) := grown_reflB _ _
            have hgog : go ≠ g := by omega
            have hBgo : B ≤ go := by omega
            have hgAgo : gA ≠ go := by omega
            have hr0go : w.heap.size ≠ go := by omega
            have hwgo : w.heap.size ≤ go := by omega
            have cA1 := BA.cell 1
            simp at cA1
            have cO0 := hops.cellAt 0 (by omega)
            have cO1 := hops.cellAt 1 (by omega)
            simp at cO0 cO1
            clear hput hiT hOQ hTl hS2 HX
            obtain ⟨tb, rfl, htb, htc⟩ := own_form htab (by omega)
            have htbgo : tb ≠ go := fun e => hne (by simp [Value.ownBlock, e])
            have hgAtb : gA ≠ tb := by omega
            have hr0tb : w.heap.size ≠ tb := by omega
            have hBtb : B ≤ tb := by omega
            have htbg : tb ≠ g := by omega
            have hwtb : w.heap.size ≤ tb := by omega
            go_upto_region 23 with fail
            refine wp_region_held_drew (S := fun w' => w'.cell? ⟨gA, 1, none⟩ = some (.slice (some ⟨go, 0, none⟩) LL c) ∧ w'.cell? ⟨go, 1, none⟩ = some (.slice (some ⟨tb, 0, none⟩) tl cT)) (by kernel_rfl) ⟨cA1, cO1⟩ (fun hHeld0 => ?_)
            obtain ⟨wt1, Hwt1⟩ : ∃ x, Hid (x = World.drew w2) := ⟨_, rfl⟩
            have hbwt1 : Below w2.heap.size w2 wt1 := by rw [Hwt1.out]; exact (Below.refl _ _).drew
            rw [← Hwt1.out] at hHeld0 ⊢
            have ywt1 := hbwt1.size
            replace BA := BA.next hbwt1
            replace BR0 := BR0.next hbwt1
            replace hops := own_next hops hbwt1
            replace htab := own_next htab hbwt1
            replace hcu := hcu.next_ hbwt1
            replace hgr := growB_trans hgr (toGr hbwt1)
            replace hgf := growB_trans hgf (toGr hbwt1)
            replace cO0 := keepc hbwt1 cO0
            replace cA1 := keepc hbwt1 cA1
            replace cO1 := keepc hbwt1 cO1
            refine wpAnyH_take (i := 0) (v := .pointer (some ⟨gA, 1, none⟩)) rfl (by kernel_rfl) (by kernel_rfl) (by kernel_rfl) (fun _ _ _ h => h) (Or.inl ⟨by kernel_rfl, fun _ _ => by go_simp⟩) (by assumption) ?_
            (try simp only [Act.put, List.getElem_toArray, List.getElem_cons_zero, List.getElem_cons_succ, List.setIfInBounds_toArray, List.set_cons_zero, List.set_cons_succ])
            refine wpAnyH_take (i := 1) (v := .slice (some ⟨go, 0, none⟩) LL c) rfl (by kernel_rfl) (by kernel_rfl) (by kernel_rfl) (fun _ _ _ h => h) (Or.inl ⟨by kernel_rfl, fun wv hSw => by (obtain ⟨hS0, hS1⟩ := hSw); go_simp⟩) (by assumption) ?_
            (try simp only [Act.put, List.getElem_toArray, List.getElem_cons_zero, List.getElem_cons_succ, List.setIfInBounds_toArray, List.set_cons_zero, List.set_cons_succ])
            refine wpAnyH_take (i := 2) (v := .pointer (some ⟨go, 0, none⟩)) rfl (by kernel_rfl) (by kernel_rfl) (by kernel_rfl) (fun _ _ _ h => h) (Or.inl ⟨by kernel_rfl, fun _ _ => by go_simp⟩) (by assumption) ?_
            (try simp only [Act.put, List.getElem_toArray, List.getElem_cons_zero, List.getElem_cons_succ, List.setIfInBounds_toArray, List.set_cons_zero, List.set_cons_succ])
            refine wpAnyH_take (i := 3) (v := .pointer (some ⟨go, 1, none⟩)) rfl (by kernel_rfl) (by kernel_rfl) (by kernel_rfl) (fun _ _ _ h => h) (Or.inl ⟨by kernel_rfl, fun _ _ => by go_simp⟩) (by assumption) ?_
            (try simp only [Act.put, List.getElem_toArray, List.getElem_cons_zero, List.getElem_cons_succ, List.setIfInBounds_toArray, List.set_cons_zero, List.set_cons_succ])
            refine wpAnyH_take (i := 4) (v := .slice (some ⟨tb, 0, none⟩) tl cT) rfl (by kernel_rfl) (by kernel_rfl) (by kernel_rfl) (fun _ _ _ h => h) (Or.inl ⟨by kernel_rfl, fun wv hSw => by (obtain ⟨hS0, hS1⟩ := hSw); go_simp⟩) (by assumption) ?_
            (try simp only [Act.put, List.getElem_toArray, List.getElem_cons_zero, List.getElem_cons_succ, List.setIfInBounds_toArray, List.set_cons_zero, List.set_cons_succ])
            refine wpAnyH_take (i := 5) (v := .pointer (some ⟨g, 0, none⟩)) rfl (by kernel_rfl) (by kernel_rfl) (by kernel_rfl) (fun _ _ _ h => h) (Or.inl ⟨by kernel_rfl, fun _ _ => by go_simp⟩) (by assumption) ?_
            (try simp only [Act.put, List.getElem_toArray, List.getElem_cons_zero, List.getElem_cons_succ, List.setIfInBounds_toArray, List.set_cons_zero, List.set_cons_succ])
            refine wpAnyH_take (i := 6) (v := .pointer (some ⟨gA, 1, none⟩)) rfl (by kernel_rfl) (by kernel_rfl) (by kernel_rfl) (fun _ _ _ h => h) (Or.inl ⟨by kernel_rfl, fun _ _ => by go_simp⟩) (by assumption) ?_
            (try simp only [Act.put, List.getElem_toArray, List.getElem_cons_zero, List.getElem_cons_succ, List.setIfInBounds_toArray, List.set_cons_zero, List.set_cons_succ])
            refine wpAnyH_take (i := 7) (v := .slice (some ⟨go, 0, none⟩) LL c) rfl (by kernel_rfl) (by kernel_rfl) (by kernel_rfl) (fun _ _ _ h => h) (Or.inl ⟨by kernel_rfl, fun wv hSw => by (obtain ⟨hS0, hS1⟩ := hSw); go_simp⟩) (by assumption) ?_
            (try simp only [Act.put, List.getElem_toArray, List.getElem_cons_zero, List.getElem_cons_succ, List.setIfInBounds_toArray, List.set_cons_zero, List.set_cons_succ])
            refine wpAnyH_take (i := 8) (v := .pointer (some ⟨go, 0, none⟩)) rfl (by kernel_rfl) (by kernel_rfl) (by kernel_rfl) (fun _ _ _ h => h) (Or.inl ⟨by kernel_rfl, fun _ _ => by go_simp⟩) (by assumption) ?_
            (try simp only [Act.put, List.getElem_toArray, List.getElem_cons_zero, List.getElem_cons_succ, List.setIfInBounds_toArray, List.set_cons_zero, List.set_cons_succ])
            refine wpAnyH_take (i := 9) (v := .pointer (some ⟨go, 1, none⟩)) rfl (by kernel_rfl) (by kernel_rfl) (by kernel_rfl) (fun _ _ _ h => h) (Or.inl ⟨by kernel_rfl, fun _ _ => by go_simp⟩) (by assumption) ?_
            (try simp only [Act.put, List.getElem_toArray, List.getElem_cons_zero, List.getElem_cons_succ, List.setIfInBounds_toArray, List.set_cons_zero, List.set_cons_succ])
            refine wpAnyH_take (i := 10) (v := .slice (some ⟨tb, 0, none⟩) tl cT) rfl (by kernel_rfl) (by kernel_rfl) (by kernel_rfl) (fun _ _ _ h => h) (Or.inl ⟨by kernel_rfl, fun wv hSw => by (obtain ⟨hS0, hS1⟩ := hSw); go_simp⟩) (by assumption) ?_
            (try simp only [Act.put, List.getElem_toArray, List.getElem_cons_zero, List.getElem_cons_succ, List.setIfInBounds_toArray, List.set_cons_zero, List.set_cons_succ])
            refine wpAnyH_take (i := 11) (v := .int .i64 (tl : Int)) rfl (by kernel_rfl) (by kernel_rfl) (by kernel_rfl) (fun _ _ _ h => h) (Or.inl ⟨by kernel_rfl, fun _ _ => by go_simp⟩) (by assumption) ?_
            (try simp only [Act.put, List.getElem_toArray, List.getElem_cons_zero, List.getElem_cons_succ, List.setIfInBounds_toArray, List.set_cons_zero, List.set_cons_succ])
            refine wpAnyH_take (i := 13) (v := .pointer (some ⟨g, 0, none⟩)) rfl (by kernel_rfl) (by kernel_rfl) (by kernel_rfl) (fun _ _ _ h => h) (Or.inl ⟨by kernel_rfl, fun _ _ => by go_simp⟩) (by assumption) ?_
            (try simp only [Act.put, List.getElem_toArray, List.getElem_cons_zero, List.getElem_cons_succ, List.setIfInBounds_toArray, List.set_cons_zero, List.set_cons_succ])
            refine wpAnyH_take (i := 14) (v := .int .i64 (n : Int)) rfl (by kernel_rfl) (by kernel_rfl) (by kernel_rfl) (fun _ _ _ h => h) (Or.inl ⟨by kernel_rfl, fun _ _ => by go_simp⟩) (by assumption) ?_
            (try simp only [Act.put, List.getElem_toArray, List.getElem_cons_zero, List.getElem_cons_succ, List.setIfInBounds_toArray, List.set_cons_zero, List.set_cons_succ])
            refine wpAnyH_ready (rs := [12, 15]) (by kernel_rfl) (by simp) ?_
            refine (AllReadyH.cons rfl (fun K hK => ?_) (AllReadyH.cons rfl (fun K hK => ?_) AllReadyH.nil))
            · go_simp
              refine (pickB_any g (tq + 2) (tl : Int) wt1 hcu (by omega) (by omega)).mono ?_
              rintro e wt2 ⟨x, hx, rfl, hcx, hgx⟩
              replace BA := BA.grownG hgx hgAg
              replace BR0 := BR0.grownG hgx hr0g
              replace hops := own_grownG hops hgx hglo
              replace htab := own_grownG htab hgx hglo
              replace hcu := hcx
              replace hgr := growB_trans hgr hgx
              replace hgf := growB_trans hgf hgx
              replace cA1 := BA.cell 1
              simp at cA1
              replace cO0 := hops.cellAt 0 (by omega)
              replace cO1 := hops.cellAt 1 (by omega)
              simp at cO0 cO1
              have hx0 : (0 : Int) ≤ (x : Int) := by omega
              have hx1 : (x : Int) < (tl : Int) := by omega
              clear hcx hgx hx
              go_wp2_with fail
              refine hK.out _ _ ⟨cA1, cO1⟩ (fun hHeld1 => ?_)
              clear hK K hHeld0
              (try simp only [Act.put, List.getElem_toArray, List.getElem_cons_zero, List.getElem_cons_succ, List.setIfInBounds_toArray, List.set_cons_zero, List.set_cons_succ])
              refine wpAnyH_ready (rs := [15]) (by kernel_rfl) (by simp) ?_
              refine (AllReadyH.cons rfl (fun K hK => ?_) AllReadyH.nil)
              have hcu0 := hcu
              go_simp
              obtain ⟨wt3, Hwt3⟩ : ∃ x, Hid (x = wt2.alloc (.cells #[.int .i64 (-1), .int .i64 (n : Int)] 3)) := ⟨_, Lib.hid rfl⟩
              rw [← Hwt3.out]
              have hbwt3 : Below wt2.heap.size wt2 wt3 := by rw [Hwt3.out]; exact below_box _ _
              have Bwt3 : Blk wt3 wt2.heap.size 3 #[.int .i64 (-1), .int .i64 (n : Int)] := by rw [Hwt3.out]; exact Blk.new _ _ _
              have zwt3 : wt2.heap.size < wt3.heap.size := Bwt3.lt
              have ywt3 := hbwt3.size
              replace BA := BA.next hbwt3
              replace BR0 := BR0.next hbwt3
              replace hops := own_next hops hbwt3
              replace htab := own_next htab hbwt3
              replace hcu := hcu.next_ hbwt3
              replace hgr := growB_trans hgr (toGr hbwt3)
              replace hgf := growB_trans hgf (toGr hbwt3)
              replace cO0 := keepc hbwt3 cO0
              replace cA1 := keepc hbwt3 cA1
              replace cO1 := keepc hbwt3 cO1
              refine hK.out _ _ ⟨cA1, cO1⟩ (fun hHeld2 => ?_)
              clear hK K hHeld1
              (try simp only [Act.put, List.getElem_toArray, List.getElem_cons_zero, List.getElem_cons_succ, List.setIfInBounds_toArray, List.set_cons_zero, List.set_cons_succ])
              have hnum : NumsP (fun x => -1 ≤ x ∧ x ≤ 4) wt3 g wt2.heap.size 2 := by rw [Hwt3.out]; exact numsL _ [-1, (n : Int)] wt2 g hcu0.lt (by simp) (by simp) (by intro x hx; simp at hx; omega) rfl
              clear hcu0
              refine wpAnyH_ready (rs := [16]) (by kernel_rfl) (by simp) ?_
              refine (AllReadyH.cons rfl (fun K hK => ?_) AllReadyH.nil)
              go_simp
              refine (amongB_any g (tq + 2 + 2) wt2.heap.size 2 2 wt3 hcu (by omega) _ hnum).mono ?_
              rintro e wt4 ⟨z, hz, rfl, hcx, hgx⟩
              replace BA := BA.grownG hgx hgAg
              replace BR0 := BR0.grownG hgx hr0g
              replace hops := own_grownG hops hgx hglo
              replace htab := own_grownG htab hgx hglo
              replace hcu := hcx
              replace hgr := growB_trans hgr hgx
              replace hgf := growB_trans hgf hgx
              replace cA1 := BA.cell 1
              simp at cA1
              replace cO0 := hops.cellAt 0 (by omega)
              replace cO1 := hops.cellAt 1 (by omega)
              simp at cO0 cO1
              clear hcx hgx hnum
              go_wp2_with fail
              refine hK.out _ _ ⟨cA1, cO1⟩ (fun hHeld3 => ?_)
              clear hK K hHeld2
              (try simp only [Act.put, List.getElem_toArray, List.getElem_cons_zero, List.getElem_cons_succ, List.setIfInBounds_toArray, List.set_cons_zero, List.set_cons_succ])
              refine wpAnyH_take (i := 17) (v := .pointer (some ⟨tb, x, none⟩)) rfl (by kernel_rfl) (by kernel_rfl) (by kernel_rfl) (fun _ _ _ h => h) (Or.inl ⟨by kernel_rfl, fun _ _ => by go_simp⟩) (by assumption) ?_
              (try simp only [Act.put, List.getElem_toArray, List.getElem_cons_zero, List.getElem_cons_succ, List.setIfInBounds_toArray, List.set_cons_zero, List.set_cons_succ])
              refine wpAnyH_ready (rs := [18]) (by kernel_rfl) (by simp) ?_
              refine (AllReadyH.cons rfl (fun K hK => ?_) AllReadyH.nil)
              have fT := htab.frozenAt x
              have cT0 := htab.cellAt x (by omega)
              obtain ⟨u0, hu0⟩ : ∃ u0, (ints T)[x]? = some u0 := ⟨_, List.getElem?_eq_getElem (by rw [ints_len, HTL.out]; omega)⟩
              rw [hu0] at cT0
              go_simp
              obtain ⟨wt5, Hwt5⟩ : ∃ q, Hid (q = wt4.setCell ⟨tb, x, none⟩ (.int .i64 z)) := ⟨_, Lib.hid rfl⟩
              rw [← Hwt5.out]
              have BA4 : Blk wt5 gA 27 #[.int .i64 (n : Int), .slice (some ⟨go, 0, none⟩) LL c] := by rw [Hwt5.out]; exact BA.far (by exact hgAtb) _
              have BR4 : Blk wt5 w.heap.size 27 #[.int .i64 0, .slice none 0 0] := by rw [Hwt5.out]; exact BR0.far (by exact hr0tb) _
              have hcu4 : CurB B wt5 g (tq + 2 + 2 + 2) := by rw [Hwt5.out]; exact hcu.setFar (by exact hBtb) (by exact htbg) _
              have hgr4 : w.grownBy wt5 (some g) := by rw [Hwt5.out]; exact growB_new hgr (by exact hwtb) _
              have hsz4 : wt5.heap.size = wt4.heap.size := by rw [Hwt5.out]; simp
              have hgfz := hgf.size
              have hops4 : wt5.ownsRow lo 92 2 (.slice (some ⟨go, 0, none⟩) LL c) LL ([.int .i64 a, .slice (some ⟨tb, 0, none⟩) tl cT] ++ css.flatten) := by rw [Hwt5.out]; exact own_same hops fun b hb => Below.heap_setCell _ _ _ _ (fun e => by simp [Value.ownBlock] at hb; exact htbgo (by rw [hb, e]))
              have htab4 : wt5.ownsRow lo 3 1 (.slice (some ⟨tb, 0, none⟩) tl cT) tl (ints (T.set x z)) := by rw [Hwt5.out, ← ints_set]; exact (htab.stored x (.int .i64 z)).1
              have HSL : (T.set x z).length = tl := by rw [List.length_set]; exact HTL.out
              have HPX := HPUT.out wt5 a (T.set x z) (some ⟨tb, 0, none⟩) cT hia (fun u hu => by rcases List.mem_or_eq_of_mem_set hu with h1 | h1; exact HIT.out u h1; exact ⟨by omega, by omega⟩) (by rw [HSL]; exact htab4) (by omega) (by rw [HSL]; exact hops4) (fun b q1 q2 q3 q4 q5 q6 => by rw [Hwt5.out]; exact growB_set hgf _ _ b q1 (fun e => q6 (by injection e)) (fun e => q3 (by simp [Value.ownBlock, e]))) hgAl hwlo hglo (.inl rfl)
              obtain ⟨css', bls', PX⟩ := HPX
              replace cA1 := BA4.cell 1
              simp at cA1
              replace cO1 := hops4.cellAt 1 (by omega)
              simp at cO1
              refine hK.out _ _ ⟨cA1, cO1⟩ (fun hHeld4 => ?_)
              clear hK K hHeld3
              (try simp only [Act.put, List.getElem_toArray, List.getElem_cons_zero, List.getElem_cons_succ, List.setIfInBounds_toArray, List.set_cons_zero, List.set_cons_succ])
              refine wpAnyH_done (by kernel_rfl) ?_ _
              have hl4 : lo ≤ wt5.heap.size := by omega
              go_wp2_with fail
              go_meet
              exact ⟨(n : Int), (a, T.set x z) :: rest, wt5.heap.size, ⟨_, _, _, _, _, BA4, PX, BR4, hcu4.mono (by have := HTT.out; omega), hgr4, PX.2.2, hl4, Nat.le_refl _⟩, alg_q (fun o ho => by rcases List.mem_cons.1 ho with rfl | ho; exact (by show (T.set x z).length ≤ 1000; rw [HSL]; omega); exact HRS.out o ho) (by rw [List.length_cons]; omega) (by omega) (by omega)⟩
            · have hcu0 := hcu
              go_simp
              obtain ⟨wt6, Hwt6⟩ : ∃ x, Hid (x = wt1.alloc (.cells #[.int .i64 (-1), .int .i64 (n : Int)] 3)) := ⟨_, Lib.hid rfl⟩
              rw [← Hwt6.out]
              have hbwt6 : Below wt1.heap.size wt1 wt6 := by rw [Hwt6.out]; exact below_box _ _
              have Bwt6 : Blk wt6 wt1.heap.size 3 #[.int .i64 (-1), .int .i64 (n : Int)] := by rw [Hwt6.out]; exact Blk.new _ _ _
              have zwt6 : wt1.heap.size < wt6.heap.size := Bwt6.lt
              have ywt6 := hbwt6.size
              replace BA := BA.next hbwt6
              replace BR0 := BR0.next hbwt6
              replace hops := own_next hops hbwt6
              replace htab := own_next htab hbwt6
              replace hcu := hcu.next_ hbwt6
              replace hgr := growB_trans hgr (toGr hbwt6)
              replace hgf := growB_trans hgf (toGr hbwt6)
              replace cO0 := keepc hbwt6 cO0
              replace cA1 := keepc hbwt6 cA1
              replace cO1 := keepc hbwt6 cO1
              refine hK.out _ _ ⟨cA1, cO1⟩ (fun hHeld1 => ?_)
              clear hK K hHeld0
              (try simp only [Act.put, List.getElem_toArray, List.getElem_cons_zero, List.getElem_cons_succ, List.setIfInBounds_toArray, List.set_cons_zero, List.set_cons_succ])
              have hnum : NumsP (fun x => -1 ≤ x ∧ x ≤ 4) wt6 g wt1.heap.size 2 := by rw [Hwt6.out]; exact numsL _ [-1, (n : Int)] wt1 g hcu0.lt (by simp) (by simp) (by intro x hx; simp at hx; omega) rfl
              clear hcu0
              refine wpAnyH_ready (rs := [12]) (by kernel_rfl) (by simp) ?_
              refine (AllReadyH.cons rfl (fun K hK => ?_) AllReadyH.nil)
              go_simp
              refine (pickB_any g (tq + 2) (tl : Int) wt6 hcu (by omega) (by omega)).mono ?_
              rintro e wt7 ⟨x, hx, rfl, hcx, hgx⟩
              replace BA := BA.grownG hgx hgAg
              replace BR0 := BR0.grownG hgx hr0g
              replace hops := own_grownG hops hgx hglo
              replace htab := own_grownG htab hgx hglo
              replace hcu := hcx
              replace hgr := growB_trans hgr hgx
              replace hgf := growB_trans hgf hgx
              replace cA1 := BA.cell 1
              simp at cA1
              replace cO0 := hops.cellAt 0 (by omega)
              replace cO1 := hops.cellAt 1 (by omega)
              simp at cO0 cO1
              replace hnum := hnum.grown hgx
              have hx0 : (0 : Int) ≤ (x : Int) := by omega
              have hx1 : (x : Int) < (tl : Int) := by omega
              clear hcx hgx hx
              go_wp2_with fail
              refine hK.out _ _ ⟨cA1, cO1⟩ (fun hHeld2 => ?_)
              clear hK K hHeld1
              (try simp only [Act.put, List.getElem_toArray, List.getElem_cons_zero, List.getElem_cons_succ, List.setIfInBounds_toArray, List.set_cons_zero, List.set_cons_succ])
              refine wpAnyH_ready (rs := [16]) (by kernel_rfl) (by simp) ?_
              refine (AllReadyH.cons rfl (fun K hK => ?_) AllReadyH.nil)
              go_simp
              refine (amongB_any g (tq + 2 + 2) wt1.heap.size 2 2 wt7 hcu (by omega) _ hnum).mono ?_
              rintro e wt8 ⟨z, hz, rfl, hcx, hgx⟩
              replace BA := BA.grownG hgx hgAg
              replace BR0 := BR0.grownG hgx hr0g
              replace hops := own_grownG hops hgx hglo
              replace htab := own_grownG htab hgx hglo
              replace hcu := hcx
              replace hgr := growB_trans hgr hgx
              replace hgf := growB_trans hgf hgx
              replace cA1 := BA.cell 1
              simp at cA1
              replace cO0 := hops.cellAt 0 (by omega)
              replace cO1 := hops.cellAt 1 (by omega)
              simp at cO0 cO1
              clear hcx hgx hnum
              go_wp2_with fail
              refine hK.out _ _ ⟨cA1, cO1⟩ (fun hHeld3 => ?_)
              clear hK K hHeld2
              (try simp only [Act.put, List.getElem_toArray, List.getElem_cons_zero, List.getElem_cons_succ, List.setIfInBounds_toArray, List.set_cons_zero, List.set_cons_succ])
              refine wpAnyH_take (i := 17) (v := .pointer (some ⟨tb, x, none⟩)) rfl (by kernel_rfl) (by kernel_rfl) (by kernel_rfl) (fun _ _ _ h => h) (Or.inl ⟨by kernel_rfl, fun _ _ => by go_simp⟩) (by assumption) ?_
              (try simp only [Act.put, List.getElem_toArray, List.getElem_cons_zero, List.getElem_cons_succ, List.setIfInBounds_toArray, List.set_cons_zero, List.set_cons_succ])
              refine wpAnyH_ready (rs := [18]) (by kernel_rfl) (by simp) ?_
              refine (AllReadyH.cons rfl (fun K hK => ?_) AllReadyH.nil)
              have fT := htab.frozenAt x
              have cT0 := htab.cellAt x (by omega)
              obtain ⟨u0, hu0⟩ : ∃ u0, (ints T)[x]? = some u0 := ⟨_, List.getElem?_eq_getElem (by rw [ints_len, HTL.out]; omega)⟩
              rw [hu0] at cT0
              go_simp
              obtain ⟨wt9, Hwt9⟩ : ∃ q, Hid (q = wt8.setCell ⟨tb, x, none⟩ (.int .i64 z)) := ⟨_, Lib.hid rfl⟩
              rw [← Hwt9.out]
              have BA4 : Blk wt9 gA 27 #[.int .i64 (n : Int), .slice (some ⟨go, 0, none⟩) LL c] := by rw [Hwt9.out]; exact BA.far (by exact hgAtb) _
              have BR4 : Blk wt9 w.heap.size 27 #[.int .i64 0, .slice none 0 0] := by rw [Hwt9.out]; exact BR0.far (by exact hr0tb) _
              have hcu4 : CurB B wt9 g (tq + 2 + 2 + 2) := by rw [Hwt9.out]; exact hcu.setFar (by exact hBtb) (by exact htbg) _
              have hgr4 : w.grownBy wt9 (some g) := by rw [Hwt9.out]; exact growB_new hgr (by exact hwtb) _
              have hsz4 : wt9.heap.size = wt8.heap.size := by rw [Hwt9.out]; simp
              have hgfz := hgf.size
              have hops4 : wt9.ownsRow lo 92 2 (.slice (some ⟨go, 0, none⟩) LL c) LL ([.int .i64 a, .slice (some ⟨tb, 0, none⟩) tl cT] ++ css.flatten) := by rw [Hwt9.out]; exact own_same hops fun b hb => Below.heap_setCell _ _ _ _ (fun e => by simp [Value.ownBlock] at hb; exact htbgo (by rw [hb, e]))
              have htab4 : wt9.ownsRow lo 3 1 (.slice (some ⟨tb, 0, none⟩) tl cT) tl (ints (T.set x z)) := by rw [Hwt9.out, ← ints_set]; exact (htab.stored x (.int .i64 z)).1
              have HSL : (T.set x z).length = tl := by rw [List.length_set]; exact HTL.out
              have HPX := HPUT.out wt9 a (T.set x z) (some ⟨tb, 0, none⟩) cT hia (fun u hu => by rcases List.mem_or_eq_of_mem_set hu with h1 | h1; exact HIT.out u h1; exact ⟨by omega, by omega⟩) (by rw [HSL]; exact htab4) (by omega) (by rw [HSL]; exact hops4) (fun b q1 q2 q3 q4 q5 q6 => by rw [Hwt9.out]; exact growB_set hgf _ _ b q1 (fun e => q6 (by injection e)) (fun e => q3 (by simp [Value.ownBlock, e]))) hgAl hwlo hglo (.inl rfl)
              obtain ⟨css', bls', PX⟩ := HPX
              replace cA1 := BA4.cell 1
              simp at cA1
              replace cO1 := hops4.cellAt 1 (by omega)
              simp at cO1
              refine hK.out _ _ ⟨cA1, cO1⟩ (fun hHeld4 => ?_)
              clear hK K hHeld3
              (try simp only [Act.put, List.getElem_toArray, List.getElem_cons_zero, List.getElem_cons_succ, List.setIfInBounds_toArray, List.set_cons_zero, List.set_cons_succ])
              refine wpAnyH_done (by kernel_rfl) ?_ _
              have hl4 : lo ≤ wt9.heap.size := by omega
              go_wp2_with fail
              go_meet
              exact ⟨(n : Int), (a, T.set x z) :: rest, wt9.heap.size, ⟨_, _, _, _, _, BA4, PX, BR4, hcu4.mono (by have := HTT.out; omega), hgr4, PX.2.2, hl4, Nat.le_refl _⟩, alg_q (fun o ho => by rcases List.mem_cons.1 ho with rfl | ho; exact (by show (T.set x z).length ≤ 1000; rw [HSL]; omega); exact HRS.out o ho) (by rw [List.length_cons]; omega) (by omega) (by omega)⟩
          · -- another arity
            subst hv
            obtain ⟨⟨a, T⟩, rest, rfl⟩ : ∃ x l, xs = x :: l := by
              cases xs with
              | nil => have := HX.out.1; simp at this; omega
              | cons x l => exact ⟨x, l, rfl⟩
            have hOQ := HX.out.2
            have hTl := (hOQ _ (List.mem_cons_self ..)).2.2
            have hrl : rest.length ≤ 1 := by have := HX.out.1; rw [List.length_cons] at this; omega
            have HRS : Hid (∀ o ∈ rest, o.2.length ≤ 1000) := fun o ho => by have := (hOQ o (List.mem_cons_of_mem _ ho)).2.2.2; omega
            obtain ⟨go, c, TA, cT, css, BA, BR0, hcu, hgr, hgo, hgw, hops, htab, hia, hiT, hne, hput⟩ := hS2.el0
            have HPUT := Lib.hid hput
            have HIT := Lib.hid hiT
            obtain ⟨LL, HLL⟩ : ∃ x, Hid (rest.length + 1 = x) := ⟨_, Lib.hid rfl⟩
            obtain ⟨tl, HTL⟩ : ∃ x, Hid (T.length = x) := ⟨_, Lib.hid rfl⟩
            have htl : 1 ≤ tl ∧ tl ≤ 64 := by rw [← HTL.out]; exact hTl
            have hLL : 1 ≤ LL ∧ LL ≤ 2 := by have := HLL.out; omega
            rw [HLL.out] at BA hops HPUT
            rw [HTL.out] at htab hops hne HPUT
            have hLL0 : ¬ LL = 0 := by omega
            have hLL1 : (0 : Int) < (LL : Int) := by omega
            have hgf : w2.grownBy w2 (some g) := grown_reflB _ _
            have hgog : go ≠ g := by omega
            have hBgo : B ≤ go := by omega
            have hgAgo : gA ≠ go := by omega
            have hr0go : w.heap.size ≠ go := by omega
            have hwgo : w.heap.size ≤ go := by omega
            have cA1 := BA.cell 1
            simp at cA1
            have cO0 := hops.cellAt 0 (by omega)
            have cO1 := hops.cellAt 1 (by omega)
            simp at cO0 cO1
            clear hput hiT hOQ hTl hS2 HX
            go_upto_region 25 with fail
            refine wp_region_held_drew (S := fun w' => w'.cell? ⟨gA, 1, none⟩ = some (.slice (some ⟨go, 0, none⟩) LL c)) (by kernel_rfl) cA1 (fun hHeld0 => ?_)
            obtain ⟨wt1, Hwt1⟩ : ∃ x, Hid (x = World.drew w2) := ⟨_, rfl⟩
            have hbwt1 : Below w2.heap.size w2 wt1 := by rw [Hwt1.out]; exact (Below.refl _ _).drew
            rw [← Hwt1.out] at hHeld0 ⊢
            have ywt1 := hbwt1.size
            replace BA := BA.next hbwt1
            replace BR0 := BR0.next hbwt1
            replace hops := own_next hops hbwt1
            replace htab := own_next htab hbwt1
            replace hcu := hcu.next_ hbwt1
            replace hgr := growB_trans hgr (toGr hbwt1)
            replace hgf := growB_trans hgf (toGr hbwt1)
            replace cO0 := keepc hbwt1 cO0
            replace cO1 := keepc hbwt1 cO1
            replace cA1 := keepc hbwt1 cA1
            refine wpAnyH_take (i := 0) (v := .pointer (some ⟨gA, 1, none⟩)) rfl (by kernel_rfl) (by kernel_rfl) (by kernel_rfl) (fun _ _ _ h => h) (Or.inl ⟨by kernel_rfl, fun _ _ => by go_simp⟩) (by assumption) ?_
            (try simp only [Act.put, List.getElem_toArray, List.getElem_cons_zero, List.getElem_cons_succ, List.setIfInBounds_toArray, List.set_cons_zero, List.set_cons_succ])
            refine wpAnyH_take (i := 1) (v := .slice (some ⟨go, 0, none⟩) LL c) rfl (by kernel_rfl) (by kernel_rfl) (by kernel_rfl) (fun _ _ _ h => h) (Or.inl ⟨by kernel_rfl, fun wv hSw => by (have hS0 := hSw); go_simp⟩) (by assumption) ?_
            (try simp only [Act.put, List.getElem_toArray, List.getElem_cons_zero, List.getElem_cons_succ, List.setIfInBounds_toArray, List.set_cons_zero, List.set_cons_succ])
            refine wpAnyH_take (i := 2) (v := .pointer (some ⟨g, 0, none⟩)) rfl (by kernel_rfl) (by kernel_rfl) (by kernel_rfl) (fun _ _ _ h => h) (Or.inl ⟨by kernel_rfl, fun _ _ => by go_simp⟩) (by assumption) ?_
            (try simp only [Act.put, List.getElem_toArray, List.getElem_cons_zero, List.getElem_cons_succ, List.setIfInBounds_toArray, List.set_cons_zero, List.set_cons_succ])
            refine wpAnyH_ready (rs := [3]) (by kernel_rfl) (by simp) ?_
            refine (AllReadyH.cons rfl (fun K hK => ?_) AllReadyH.nil)
            have hcu0 := hcu
            go_simp
            obtain ⟨wt2, Hwt2⟩ : ∃ x, Hid (x = wt1.alloc (.cells #[.int .i64 (-1), .int .i64 4] 3)) := ⟨_, Lib.hid rfl⟩
            rw [← Hwt2.out]
            have hbwt2 : Below wt1.heap.size wt1 wt2 := by rw [Hwt2.out]; exact below_box _ _
            have Bwt2 : Blk wt2 wt1.heap.size 3 #[.int .i64 (-1), .int .i64 4] := by rw [Hwt2.out]; exact Blk.new _ _ _
            have zwt2 : wt1.heap.size < wt2.heap.size := Bwt2.lt
            have ywt2 := hbwt2.size
            replace BA := BA.next hbwt2
            replace BR0 := BR0.next hbwt2
            replace hops := own_next hops hbwt2
            replace htab := own_next htab hbwt2
            replace hcu := hcu.next_ hbwt2
            replace hgr := growB_trans hgr (toGr hbwt2)
            replace hgf := growB_trans hgf (toGr hbwt2)
            replace cO0 := keepc hbwt2 cO0
            replace cO1 := keepc hbwt2 cO1
            replace cA1 := keepc hbwt2 cA1
            refine hK.out _ _ cA1 (fun hHeld1 => ?_)
            clear hK K hHeld0
            (try simp only [Act.put, List.getElem_toArray, List.getElem_cons_zero, List.getElem_cons_succ, List.setIfInBounds_toArray, List.set_cons_zero, List.set_cons_succ])
            have hnum : NumsP (fun x => x = -1 ∨ x = 4) wt2 g wt1.heap.size 2 := by rw [Hwt2.out]; exact numsL _ [-1, 4] wt1 g hcu0.lt (by simp) (by simp) (by intro x hx; simp at hx; omega) rfl
            clear hcu0
            refine wpAnyH_ready (rs := [4]) (by kernel_rfl) (by simp) ?_
            refine (AllReadyH.cons rfl (fun K hK => ?_) AllReadyH.nil)
            go_simp
            refine (amongB_any g (tq + 2) wt1.heap.size 2 2 wt2 hcu (by omega) _ hnum).mono ?_
            rintro e wt3 ⟨z, hz, rfl, hcx, hgx⟩
            replace BA := BA.grownG hgx hgAg
            replace BR0 := BR0.grownG hgx hr0g
            replace hops := own_grownG hops hgx hglo
            replace htab := own_grownG htab hgx hglo
            replace hcu := hcx
            replace hgr := growB_trans hgr hgx
            replace hgf := growB_trans hgf hgx
            replace cA1 := BA.cell 1
            simp at cA1
            replace cO0 := hops.cellAt 0 (by omega)
            replace cO1 := hops.cellAt 1 (by omega)
            simp at cO0 cO1
            clear hcx hgx hnum
            go_wp2_with fail
            refine hK.out _ _ cA1 (fun hHeld2 => ?_)
            clear hK K hHeld1
            (try simp only [Act.put, List.getElem_toArray, List.getElem_cons_zero, List.getElem_cons_succ, List.setIfInBounds_toArray, List.set_cons_zero, List.set_cons_succ])
            refine wpAnyH_take (i := 5) (v := .pointer (some ⟨go, 0, none⟩)) rfl (by kernel_rfl) (by kernel_rfl) (by kernel_rfl) (fun _ _ _ h => h) (Or.inl ⟨by kernel_rfl, fun _ _ => by go_simp⟩) (by assumption) ?_
            (try simp only [Act.put, List.getElem_toArray, List.getElem_cons_zero, List.getElem_cons_succ, List.setIfInBounds_toArray, List.set_cons_zero, List.set_cons_succ])
            refine wpAnyH_take (i := 6) (v := .pointer (some ⟨go, 0, none⟩)) rfl (by kernel_rfl) (by kernel_rfl) (by kernel_rfl) (fun _ _ _ h => h) (Or.inl ⟨by kernel_rfl, fun _ _ => by go_simp⟩) (by assumption) ?_
            (try simp only [Act.put, List.getElem_toArray, List.getElem_cons_zero, List.getElem_cons_succ, List.setIfInBounds_toArray, List.set_cons_zero, List.set_cons_succ])
            refine wpAnyH_ready (rs := [7]) (by kernel_rfl) (by simp) ?_
            refine (AllReadyH.cons rfl (fun K hK => ?_) AllReadyH.nil)
            have fO0 := hops.frozenAt 0
            go_simp
            obtain ⟨wt4, Hwt4⟩ : ∃ x, Hid (x = wt3.setCell ⟨go, 0, none⟩ (.int .i64 z)) := ⟨_, Lib.hid rfl⟩
            rw [← Hwt4.out]
            have BA4 : Blk wt4 gA 27 #[.int .i64 (n : Int), .slice (some ⟨go, 0, none⟩) LL c] := by rw [Hwt4.out]; exact BA.far (by exact hgAgo) _
            have BR4 : Blk wt4 w.heap.size 27 #[.int .i64 0, .slice none 0 0] := by rw [Hwt4.out]; exact BR0.far (by exact hr0go) _
            have hcu4 : CurB B wt4 g (tq + 2 + 2) := by rw [Hwt4.out]; exact hcu.setFar (by exact hBgo) (by exact hgog) _
            have hgr4 : w.grownBy wt4 (some g) := by rw [Hwt4.out]; exact growB_new hgr (by exact hwgo) _
            have hsz4 : wt4.heap.size = wt3.heap.size := by rw [Hwt4.out]; simp
            have hgfz := hgf.size
            have hops4 : wt4.ownsRow lo 92 2 (.slice (some ⟨go, 0, none⟩) LL c) LL ([.int .i64 z, .slice TA tl cT] ++ css.flatten) := by rw [Hwt4.out]; simpa using (hops.stored 0 (.int .i64 z)).1
            have htab4 : wt4.ownsRow lo 3 1 (.slice TA tl cT) tl (ints T) := by rw [Hwt4.out]; exact own_same htab fun b hb => Below.heap_setCell _ _ _ _ (fun e => hne (by rw [hb, e]))
            have HPX := HPUT.out wt4 z T TA cT ⟨by omega, by omega⟩ HIT.out (by rw [HTL.out]; exact htab4) (by omega) (by rw [HTL.out]; exact hops4) (fun b q1 q2 q3 q4 q5 q6 => by rw [Hwt4.out]; exact growB_set hgf _ _ b q1 (fun e => q6 (by injection e)) q2) hgAl hwlo hglo (.inl (by rw [HTL.out]))
            obtain ⟨css', bls', PX⟩ := HPX
            replace cA1 := BA4.cell 1
            simp at cA1
            refine hK.out _ _ cA1 (fun hHeld3 => ?_)
            clear hK K hHeld2
            (try simp only [Act.put, List.getElem_toArray, List.getElem_cons_zero, List.getElem_cons_succ, List.setIfInBounds_toArray, List.set_cons_zero, List.set_cons_succ])
            refine wpAnyH_done (by kernel_rfl) ?_ _
            have hl4 : lo ≤ wt4.heap.size := by omega
            go_wp2_with fail
            go_meet
            exact ⟨(n : Int), (z, T) :: rest, wt4.heap.size, ⟨_, _, _, _, _, BA4, PX, BR4, hcu4.mono (by have := HTT.out; omega), hgr4, PX.2.2, hl4, Nat.le_refl _⟩, alg_q (fun o ho => by rcases List.mem_cons.1 ho with rfl | ho; exact (by show T.length ≤ 1000; rw [HTL.out]; omega); exact HRS.out o ho) (by rw [List.length_cons]; omega) (by omega) (by omega)⟩
          · -- too many operations
            subst hv
            have hxl : xs.length ≤ 2 := by have := HX.out.1; omega
            have hx64 : ∀ o ∈ xs, o.2.length ≤ 64 := fun o ho => (HX.out.2 o ho).2.2.2
            clear HX
            go_wp2_with fail
            go_loopw [122] (fun _ wr => ∃ (xs : List OpM) (hi LL : Nat), Hid (xs.length = LL ∧ ∀ o ∈ xs, o.2.length ≤ 64) ∧ LL ≤ 5 ∧ lo ≤ wr.heap.size ∧ AlS B g lo hi gA w.heap.size w wr (n : Int) xs (tq + 2 + 2 * LL)) (fun _ wr => 6 - lenAt wr gA 1)
            case atStart => exact ⟨xs, hi, xs.length, Lib.hid ⟨rfl, hx64⟩, by omega, by have := hS2.row; obtain ⟨_, _, _, _, _, _, _, _, _, _, q1, q2⟩ := this; omega, hS2.mono (by omega)⟩
            case round =>
              clear hS2 hxl hx64 hz2
              obtain ⟨xs, hi, LL, HXO', hL5, hlwr, hS⟩ := hrel
              obtain ⟨A, c, css, bls, BA, PX, BR0, hcu, hgr, hI, l1, l2⟩ := hS.row
              have HLL : Hid (xs.length = LL) := HXO'.out.1
              have HXO : Hid (∀ o ∈ xs, o.2.length ≤ 64) := HXO'.out.2
              rw [HLL.out] at BA PX hI
              have cA1 := BA.cell 1
              simp at cA1
              have hme := lenAt_eq cA1
              clear hS HXO'
              go_upto_region 27 with fail
              go_cut [122] from 116 to 122 (fun u wx => ∃ bb, u = .bool bb ∧ (bb = true → LL ≤ 4) ∧ ∃ A c css bls, Blk wx gA 27 #[.int .i64 (n : Int), .slice A LL c] ∧ PO lo wx (.slice A LL c) xs css bls ∧ Blk wx w.heap.size 27 #[.int .i64 0, .slice none 0 0] ∧ CurB B wx g (tq + 2 + 2 * LL + 2) ∧ w.grownBy wx (some g) ∧ hi ≤ wx.heap.size ∧ Iv lo hi (obl (.slice A LL c) ++ bls.flatten))
              case first =>
                refine wp_region_held_drew (S := fun w' => w'.cell? ⟨gA, 1, none⟩ = some (.slice A LL c)) (by kernel_rfl) cA1 (fun hHeld0 => ?_)
                obtain ⟨wt1, Hwt1⟩ : ∃ x, Hid (x = World.drew wr) := ⟨_, rfl⟩
                have hbwt1 : Below wr.heap.size wr wt1 := by rw [Hwt1.out]; exact (Below.refl _ _).drew
                rw [← Hwt1.out] at hHeld0 ⊢
                have ywt1 := hbwt1.size
                replace BA := BA.next hbwt1
                replace PX := PX.next hbwt1
                replace BR0 := BR0.next hbwt1
                replace hcu := hcu.next_ hbwt1
                replace hgr := growB_trans hgr (toGr hbwt1)
                replace cA1 := keepc hbwt1 cA1
                refine wpAnyH_take (i := 0) (v := .pointer (some ⟨gA, 1, none⟩)) rfl (by kernel_rfl) (by kernel_rfl) (by kernel_rfl) (fun _ _ _ h => h) (Or.inl ⟨by kernel_rfl, fun _ _ => by go_simp⟩) (by assumption) ?_
                (try simp only [Act.put, List.getElem_toArray, List.getElem_cons_zero, List.getElem_cons_succ, List.setIfInBounds_toArray, List.set_cons_zero, List.set_cons_succ])
                refine wpAnyH_take (i := 1) (v := .slice A LL c) rfl (by kernel_rfl) (by kernel_rfl) (by kernel_rfl) (fun _ _ _ h => h) (Or.inl ⟨by kernel_rfl, fun wv hSw => by (have hS0 := hSw); go_simp⟩) (by assumption) ?_
                (try simp only [Act.put, List.getElem_toArray, List.getElem_cons_zero, List.getElem_cons_succ, List.setIfInBounds_toArray, List.set_cons_zero, List.set_cons_succ])
                refine wpAnyH_take (i := 2) (v := .int .i64 (LL : Int)) rfl (by kernel_rfl) (by kernel_rfl) (by kernel_rfl) (fun _ _ _ h => h) (Or.inl ⟨by kernel_rfl, fun _ _ => by go_simp⟩) (by assumption) ?_
                (try simp only [Act.put, List.getElem_toArray, List.getElem_cons_zero, List.getElem_cons_succ, List.setIfInBounds_toArray, List.set_cons_zero, List.set_cons_succ])
                refine wpAnyH_take (i := 3) (v := .pointer (some ⟨g, 0, none⟩)) rfl (by kernel_rfl) (by kernel_rfl) (by kernel_rfl) (fun _ _ _ h => h) (Or.inl ⟨by kernel_rfl, fun _ _ => by go_simp⟩) (by assumption) ?_
                (try simp only [Act.put, List.getElem_toArray, List.getElem_cons_zero, List.getElem_cons_succ, List.setIfInBounds_toArray, List.set_cons_zero, List.set_cons_succ])
                refine wpAnyH_ready (rs := [4]) (by kernel_rfl) (by simp) ?_
                refine (AllReadyH.cons rfl (fun K hK => ?_) AllReadyH.nil)
                go_simp
                refine (pickB_any g (tq + 2 + 2 * LL) 2 wt1 hcu (by omega) (by omega)).mono ?_
                rintro e wt2 ⟨x, hx, rfl, hcx, hgx⟩
                replace BA := BA.grownG hgx hgAg
                replace PX := PX.grownG hgx hglo
                replace BR0 := BR0.grownG hgx hr0g
                replace hcu := hcx
                replace hgr := growB_trans hgr hgx
                replace cA1 := BA.cell 1
                simp at cA1
                have hw4 : IntKind.i64.wrap (4 + (x : Int)) = 4 + (x : Int) := by rw [IntKind.wrap_i64]; omega
                have hzx := hgx.size
                clear hcx hgx
                go_wp2_with fail
                refine hK.out _ _ cA1 (fun hHeld1 => ?_)
                clear hK K hHeld0
                (try simp only [Act.put, List.getElem_toArray, List.getElem_cons_zero, List.getElem_cons_succ, List.setIfInBounds_toArray, List.set_cons_zero, List.set_cons_succ])
                refine wpAnyH_take (i := 5) (v := .int .i64 (4 + (x : Int))) rfl (by kernel_rfl) (by kernel_rfl) (by kernel_rfl) (fun _ _ _ h => h) (Or.inl ⟨by kernel_rfl, fun _ _ => by go_simp⟩) (by assumption) ?_
                (try simp only [Act.put, List.getElem_toArray, List.getElem_cons_zero, List.getElem_cons_succ, List.setIfInBounds_toArray, List.set_cons_zero, List.set_cons_succ])
                refine wpAnyH_take (i := 6) (v := .bool (decide ((LL : Int) < 4 + (x : Int)))) rfl (by kernel_rfl) (by kernel_rfl) (by kernel_rfl) (fun _ _ _ h => h) (Or.inl ⟨by kernel_rfl, fun _ _ => by go_simp⟩) (by assumption) ?_
                (try simp only [Act.put, List.getElem_toArray, List.getElem_cons_zero, List.getElem_cons_succ, List.setIfInBounds_toArray, List.set_cons_zero, List.set_cons_succ])
                refine wpAnyH_done (by kernel_rfl) ?_ _
                have hbx : decide ((LL : Int) < 4 + (x : Int)) = true → LL ≤ 4 := fun h => by have := of_decide_eq_true h; omega
                have hl2 : hi ≤ wt2.heap.size := by omega
                go_wp2_with fail
                go_meet
                exact ⟨_, rfl, hbx, A, c, css, bls, BA, PX, BR0, hcu, hgr, hl2, hI⟩
              case rest =>
                clear BA PX BR0 hcu hgr hI l2 cA1
                obtain ⟨bb, rfl, hbb, A, c, css, bls, BA, PX, BR0, hcu, hgr, l2, hI⟩ := hcut
                obtain ⟨wd, HWC⟩ : ∃ wq : World, wq = wc := ⟨_, rfl⟩
                subst HWC
                rcases bb with _ | _
                · go_wp2_with fail
                  go_meet
                  exact ⟨(n : Int), xs, hi, ⟨A, LL, c, css, bls, BA, PX, BR0, hcu.mono (by have := HTT.out; omega), hgr, hI, l1, l2⟩, alg_q (fun o ho => by have := HXO.out o ho; omega) (by rw [HLL.out]; omega) (by omega) (by omega)⟩
                · have hL4 := hbb rfl
                  have cA0 := BA.cell 0
                  have cA1 := BA.cell 1
                  simp at cA0 cA1
                  clear hbb
                  go_upto_region 28 with fail
                  refine wp_region_held_drew (S := fun w' => w'.cell? ⟨gA, 0, none⟩ = some (.int .i64 (n : Int))) (by kernel_rfl) cA0 (fun hHeld0 => ?_)
                  obtain ⟨wt1, Hwt1⟩ : ∃ x, Hid (x = World.drew wd) := ⟨_, rfl⟩
                  have hbwt1 : Below wd.heap.size wd wt1 := by rw [Hwt1.out]; exact (Below.refl _ _).drew
                  rw [← Hwt1.out] at hHeld0 ⊢
                  have ywt1 := hbwt1.size
                  replace BA := BA.next hbwt1
                  replace PX := PX.next hbwt1
                  replace BR0 := BR0.next hbwt1
                  replace hcu := hcu.next_ hbwt1
                  replace hgr := growB_trans hgr (toGr hbwt1)
                  replace cA1 := keepc hbwt1 cA1
                  replace cA0 := keepc hbwt1 cA0
                  refine wpAnyH_take (i := 0) (v := .pointer (some ⟨gA, 1, none⟩)) rfl (by kernel_rfl) (by kernel_rfl) (by kernel_rfl) (fun _ _ _ h => h) (Or.inl ⟨by kernel_rfl, fun _ _ => by go_simp⟩) (by assumption) ?_
                  (try simp only [Act.put, List.getElem_toArray, List.getElem_cons_zero, List.getElem_cons_succ, List.setIfInBounds_toArray, List.set_cons_zero, List.set_cons_succ])
                  refine wpAnyH_take (i := 2) (v := .int .i64 (n : Int)) rfl (by kernel_rfl) (by kernel_rfl) (by kernel_rfl) (fun _ _ _ h => h) (Or.inl ⟨by kernel_rfl, fun _ _ => by go_simp⟩) (by assumption) ?_
                  (try simp only [Act.put, List.getElem_toArray, List.getElem_cons_zero, List.getElem_cons_succ, List.setIfInBounds_toArray, List.set_cons_zero, List.set_cons_succ])
                  refine wpAnyH_ready (rs := [1, 3]) (by kernel_rfl) (by simp) ?_
                  refine (AllReadyH.cons rfl (fun K hK => ?_) (AllReadyH.cons rfl (fun K hK => ?_) AllReadyH.nil))
                  · go_simp
                    refine hK.out _ _ cA0 (fun hHeld1 => ?_)
                    clear hK K hHeld0
                    (try simp only [Act.put, List.getElem_toArray, List.getElem_cons_zero, List.getElem_cons_succ, List.setIfInBounds_toArray, List.set_cons_zero, List.set_cons_succ])
                    refine wpAnyH_ready (rs := [3]) (by kernel_rfl) (by simp) ?_
                    refine (AllReadyH.cons rfl (fun K hK => ?_) AllReadyH.nil)
                    have hmk := run_make_row' (P := Try.prog) 55 3 (.int .i64 0) 8 Try.underlying55 info_int rfl .i64 .i64 n (by omega) (by omega) wt1
                    rw [made_ints] at hmk
                    go_simp
                    obtain ⟨wt2, Hwt2⟩ : ∃ q, Hid (q = wt1.alloc (.cells (ints (List.replicate n 0)).toArray 3)) := ⟨_, Lib.hid rfl⟩
                    rw [← Hwt2.out]
                    have hbwt2 : Below wt1.heap.size wt1 wt2 := by rw [Hwt2.out]; exact below_box _ _
                    have OT : shOp.own wt2 [.int .i64 1, .slice (some ⟨wt1.heap.size, 0, none⟩) n n] (1, List.replicate n 0) [wt1.heap.size] := by rw [Hwt2.out]; exact own_tab ⟨by omega, by omega⟩ (List.length_replicate ..) (by omega) (fun u hu => by rw [List.eq_of_mem_replicate hu]; exact ⟨by omega, by omega⟩)
                    have hTl : hi ≤ wt1.heap.size := by omega
                    have hTs : wt1.heap.size < wt2.heap.size := by rw [Hwt2.out]; simp
                    clear hmk
                    have ywt2 := hbwt2.size
                    replace BA := BA.next hbwt2
                    replace PX := PX.next hbwt2
                    replace BR0 := BR0.next hbwt2
                    replace hcu := hcu.next_ hbwt2
                    replace hgr := growB_trans hgr (toGr hbwt2)
                    replace cA1 := keepc hbwt2 cA1
                    replace cA0 := keepc hbwt2 cA0
                    skip
                    refine hK.out _ _ cA0 (fun hHeld2 => ?_)
                    clear hK K hHeld1
                    (try simp only [Act.put, List.getElem_toArray, List.getElem_cons_zero, List.getElem_cons_succ, List.setIfInBounds_toArray, List.set_cons_zero, List.set_cons_succ])
                    refine wpAnyH_take (i := 4) (v := .agg #[.int .i64 1, .slice (some ⟨wt1.heap.size, 0, none⟩) n n]) rfl (by kernel_rfl) (by kernel_rfl) (by kernel_rfl) (fun _ _ _ h => h) (Or.inl ⟨by kernel_rfl, fun _ _ => by go_simp⟩) (by assumption) ?_
                    (try simp only [Act.put, List.getElem_toArray, List.getElem_cons_zero, List.getElem_cons_succ, List.setIfInBounds_toArray, List.set_cons_zero, List.set_cons_succ])
                    refine wpAnyH_ready (rs := [5]) (by kernel_rfl) (by simp) ?_
                    refine (AllReadyH.cons rfl (fun K hK => ?_) AllReadyH.nil)
                    have PXP := PX
                    have hrowP := PX.2.1
                    rw [HLL.out] at hrowP
                    have BAP := BA
                    have BRP := BR0
                    have hcuP := hcu
                    have hgrP := hgr
                    have OTP := OT
                    have hloP : lo ≤ wt2.heap.size := by omega
                    go_simp
                    obtain ⟨wt3, Hwt3⟩ : ∃ x, Hid (x = wt2.alloc (.cells #[.int .i64 1, .slice (some ⟨wt1.heap.size, 0, none⟩) n n] 92)) := ⟨_, Lib.hid rfl⟩
                    rw [← Hwt3.out]
                    have hbwt3 : Below wt2.heap.size wt2 wt3 := by rw [Hwt3.out]; exact below_box _ _
                    have Bwt3 : Blk wt3 wt2.heap.size 92 #[.int .i64 1, .slice (some ⟨wt1.heap.size, 0, none⟩) n n] := by rw [Hwt3.out]; exact Blk.new _ _ _
                    have zwt3 : wt2.heap.size < wt3.heap.size := Bwt3.lt
                    have ywt3 := hbwt3.size
                    replace BA := BA.next hbwt3
                    replace PX := PX.next hbwt3
                    replace BR0 := BR0.next hbwt3
                    replace hcu := hcu.next_ hbwt3
                    replace hgr := growB_trans hgr (toGr hbwt3)
                    replace cA1 := keepc hbwt3 cA1
                    replace OT := Sh.onext OT hbwt3
                    replace cA0 := keepc hbwt3 cA0
                    refine hK.out _ _ cA0 (fun hHeld3 => ?_)
                    clear hK K hHeld2
                    (try simp only [Act.put, List.getElem_toArray, List.getElem_cons_zero, List.getElem_cons_succ, List.setIfInBounds_toArray, List.set_cons_zero, List.set_cons_succ])
                    refine wpAnyH_ready (rs := [6]) (by kernel_rfl) (by simp) ?_
                    refine (AllReadyH.cons rfl (fun K hK => ?_) AllReadyH.nil)
                    rw [Hwt3.out]
                    refine step_app2 wt2 rfl (.tmp 124) (.tmp 128) 25 92 rfl (.agg #[.int .i64 0, .slice none 0 0]) 32 Try.underlying25 info_op2 rfl (by decide) lo LL c A css.flatten (by rfl) hrowP (.int .i64 1) (.slice (some ⟨wt1.heap.size, 0, none⟩) n n) rfl rfl (by rfl) (by omega) hloP ?_
                    intro A3 c3 wt4 hown3 hg3 hb3
                    have PX2 := PXP.push2 hI OTP ⟨by simp, fun b hb => by rw [List.mem_singleton.1 hb]; omega⟩ l1 (by rw [HLL.out]; exact hown3) hg3
                    have BA2 := BAP.below hb3 hgAl
                    have BR2 := BRP.below hb3 hwlo
                    have hrl := fun r' e => (hrowP.lt r' e).1
                    have hcu2 := hcuP.grown hg3 (fun r' e => by have := hrl r' e; omega)
                    have hgr2 := growB_own hgrP hg3 (fun r' e => by have := hrl r' e; omega)
                    have hz3 := hg3.size
                    replace cA0 := BA2.cell 0
                    simp at cA0
                    refine hK.out _ _ cA0 (fun hHeld4 => ?_)
                    clear hK K hHeld3
                    (try simp only [Act.put, List.getElem_toArray, List.getElem_cons_zero, List.getElem_cons_succ, List.setIfInBounds_toArray, List.set_cons_zero, List.set_cons_succ])
                    refine wpAnyH_take (i := 7) (v := .pointer (some ⟨gA, 1, none⟩)) rfl (by kernel_rfl) (by kernel_rfl) (by kernel_rfl) (fun _ _ _ h => h) (Or.inl ⟨by kernel_rfl, fun _ _ => by go_simp⟩) (by assumption) ?_
                    (try simp only [Act.put, List.getElem_toArray, List.getElem_cons_zero, List.getElem_cons_succ, List.setIfInBounds_toArray, List.set_cons_zero, List.set_cons_succ])
                    refine wpAnyH_ready (rs := [8]) (by kernel_rfl) (by simp) ?_
                    refine (AllReadyH.cons rfl (fun K hK => ?_) AllReadyH.nil)
                    have fA1 := BA2.frozen 1
                    replace cA1 := BA2.cell 1
                    simp at cA1
                    go_simp
                    obtain ⟨wt5, Hwt5⟩ : ∃ q, Hid (q = wt4.setCell ⟨gA, 1, none⟩ (.slice A3 (LL + 1) c3)) := ⟨_, Lib.hid rfl⟩
                    rw [← Hwt5.out]
                    have BA4 : Blk wt5 gA 27 #[.int .i64 (n : Int), .slice A3 (LL + 1) c3] := by rw [Hwt5.out]; simpa using BA2.set_ 1 (.slice A3 (LL + 1) c3)
                    have BR4 : Blk wt5 w.heap.size 27 #[.int .i64 0, .slice none 0 0] := by rw [Hwt5.out]; exact BR2.far (by exact hwgA) _
                    have PX4 : PO lo wt5 (.slice A3 (LL + 1) c3) (xs ++ [(1, List.replicate n 0)]) (css ++ [[.int .i64 1, .slice (some ⟨wt1.heap.size, 0, none⟩) n n]]) (bls ++ [[wt1.heap.size]]) := by rw [Hwt5.out]; exact PX2.far (p := ⟨gA, 1, none⟩) (by exact hgAl) _
                    have hcu4 : CurB B wt5 g (tq + 2 + 2 * LL + 2) := by rw [Hwt5.out]; exact hcu2.setFar (by exact hBgA) (by exact hgAg) _
                    have hgr4 : w.grownBy wt5 (some g) := by rw [Hwt5.out]; exact growB_new hgr2 (by exact hwgA2) _
                    have hsz4 : wt5.heap.size = wt4.heap.size := by rw [Hwt5.out]; simp
                    replace cA0 := BA4.cell 0
                    simp at cA0
                    refine hK.out _ _ cA0 (fun hHeld5 => ?_)
                    clear hK K hHeld4
                    (try simp only [Act.put, List.getElem_toArray, List.getElem_cons_zero, List.getElem_cons_succ, List.setIfInBounds_toArray, List.set_cons_zero, List.set_cons_succ])
                    refine wpAnyH_done (by kernel_rfl) ?_ _
                    have HX2 : Hid ((xs ++ [((1 : Int), List.replicate n (0 : Int))]).length = LL + 1 ∧ ∀ o ∈ xs ++ [((1 : Int), List.replicate n (0 : Int))], o.2.length ≤ 64) := by
                      refine ⟨by rw [List.length_append, HLL.out]; rfl, fun o ho => ?_⟩
                      rcases List.mem_append.1 ho with ho | ho
                      · exact HXO.out o ho
                      · rw [List.mem_singleton.1 ho]; simp; omega
                    have hl4 : lo ≤ wt5.heap.size := by omega
                    have cA9 := BA4.cell 1
                    simp at cA9
                    have hmes := lenAt_eq cA9
                    go_wp2_with fail
                    go_roundw
                    case rel =>
                      (repeat apply Exists.intro)
                      refine ⟨?_, rfl⟩
                      exact ⟨xs ++ [((1 : Int), List.replicate n (0 : Int))], wt5.heap.size, LL + 1, HX2, by omega, by omega, ⟨_, _, _, _, _, BA4, PX4, BR4, hcu4.mono (by omega), hgr4, PX4.2.2, hl4, Nat.le_refl _⟩⟩
                    case measure => rw [hmes]; have := hme; omega
                  · have hmk := run_make_row' (P := Try.prog) 55 3 (.int .i64 0) 8 Try.underlying55 info_int rfl .i64 .i64 n (by omega) (by omega) wt1
                    rw [made_ints] at hmk
                    go_simp
                    obtain ⟨wt6, Hwt6⟩ : ∃ q, Hid (q = wt1.alloc (.cells (ints (List.replicate n 0)).toArray 3)) := ⟨_, Lib.hid rfl⟩
                    rw [← Hwt6.out]
                    have hbwt6 : Below wt1.heap.size wt1 wt6 := by rw [Hwt6.out]; exact below_box _ _
                    have OT : shOp.own wt6 [.int .i64 1, .slice (some ⟨wt1.heap.size, 0, none⟩) n n] (1, List.replicate n 0) [wt1.heap.size] := by rw [Hwt6.out]; exact own_tab ⟨by omega, by omega⟩ (List.length_replicate ..) (by omega) (fun u hu => by rw [List.eq_of_mem_replicate hu]; exact ⟨by omega, by omega⟩)
                    have hTl : hi ≤ wt1.heap.size := by omega
                    have hTs : wt1.heap.size < wt6.heap.size := by rw [Hwt6.out]; simp
                    clear hmk
                    have ywt6 := hbwt6.size
                    replace BA := BA.next hbwt6
                    replace PX := PX.next hbwt6
                    replace BR0 := BR0.next hbwt6
                    replace hcu := hcu.next_ hbwt6
                    replace hgr := growB_trans hgr (toGr hbwt6)
                    replace cA1 := keepc hbwt6 cA1
                    replace cA0 := keepc hbwt6 cA0
                    skip
                    refine hK.out _ _ cA0 (fun hHeld1 => ?_)
                    clear hK K hHeld0
                    (try simp only [Act.put, List.getElem_toArray, List.getElem_cons_zero, List.getElem_cons_succ, List.setIfInBounds_toArray, List.set_cons_zero, List.set_cons_succ])
                    refine wpAnyH_take (i := 4) (v := .agg #[.int .i64 1, .slice (some ⟨wt1.heap.size, 0, none⟩) n n]) rfl (by kernel_rfl) (by kernel_rfl) (by kernel_rfl) (fun _ _ _ h => h) (Or.inl ⟨by kernel_rfl, fun _ _ => by go_simp⟩) (by assumption) ?_
                    (try simp only [Act.put, List.getElem_toArray, List.getElem_cons_zero, List.getElem_cons_succ, List.setIfInBounds_toArray, List.set_cons_zero, List.set_cons_succ])
                    refine wpAnyH_ready (rs := [1, 5]) (by kernel_rfl) (by simp) ?_
                    refine (AllReadyH.cons rfl (fun K hK => ?_) (AllReadyH.cons rfl (fun K hK => ?_) AllReadyH.nil))
                    · go_simp
                      refine hK.out _ _ cA0 (fun hHeld2 => ?_)
                      clear hK K hHeld1
                      (try simp only [Act.put, List.getElem_toArray, List.getElem_cons_zero, List.getElem_cons_succ, List.setIfInBounds_toArray, List.set_cons_zero, List.set_cons_succ])
                      refine wpAnyH_ready (rs := [5]) (by kernel_rfl) (by simp) ?_
                      refine (AllReadyH.cons rfl (fun K hK => ?_) AllReadyH.nil)
                      have PXP := PX
                      have hrowP := PX.2.1
                      rw [HLL.out] at hrowP
                      have BAP := BA
                      have BRP := BR0
                      have hcuP := hcu
                      have hgrP := hgr
                      have OTP := OT
                      have hloP : lo ≤ wt6.heap.size := by omega
                      go_simp
                      obtain ⟨wt7, Hwt7⟩ : ∃ x, Hid (x = wt6.alloc (.cells #[.int .i64 1, .slice (some ⟨wt1.heap.size, 0, none⟩) n n] 92)) := ⟨_, Lib.hid rfl⟩
                      rw [← Hwt7.out]
                      have hbwt7 : Below wt6.heap.size wt6 wt7 := by rw [Hwt7.out]; exact below_box _ _
                      have Bwt7 : Blk wt7 wt6.heap.size 92 #[.int .i64 1, .slice (some ⟨wt1.heap.size, 0, none⟩) n n] := by rw [Hwt7.out]; exact Blk.new _ _ _
                      have zwt7 : wt6.heap.size < wt7.heap.size := Bwt7.lt
                      have ywt7 := hbwt7.size
                      replace BA := BA.next hbwt7
                      replace PX := PX.next hbwt7
                      replace BR0 := BR0.next hbwt7
                      replace hcu := hcu.next_ hbwt7
                      replace hgr := growB_trans hgr (toGr hbwt7)
                      replace cA1 := keepc hbwt7 cA1
                      replace OT := Sh.onext OT hbwt7
                      replace cA0 := keepc hbwt7 cA0
                      refine hK.out _ _ cA0 (fun hHeld3 => ?_)
                      clear hK K hHeld2
                      (try simp only [Act.put, List.getElem_toArray, List.getElem_cons_zero, List.getElem_cons_succ, List.setIfInBounds_toArray, List.set_cons_zero, List.set_cons_succ])
                      refine wpAnyH_ready (rs := [6]) (by kernel_rfl) (by simp) ?_
                      refine (AllReadyH.cons rfl (fun K hK => ?_) AllReadyH.nil)
                      rw [Hwt7.out]
                      refine step_app2 wt6 rfl (.tmp 124) (.tmp 128) 25 92 rfl (.agg #[.int .i64 0, .slice none 0 0]) 32 Try.underlying25 info_op2 rfl (by decide) lo LL c A css.flatten (by rfl) hrowP (.int .i64 1) (.slice (some ⟨wt1.heap.size, 0, none⟩) n n) rfl rfl (by rfl) (by omega) hloP ?_
                      intro A3 c3 wt8 hown3 hg3 hb3
                      have PX2 := PXP.push2 hI OTP ⟨by simp, fun b hb => by rw [List.mem_singleton.1 hb]; omega⟩ l1 (by rw [HLL.out]; exact hown3) hg3
                      have BA2 := BAP.below hb3 hgAl
                      have BR2 := BRP.below hb3 hwlo
                      have hrl := fun r' e => (hrowP.lt r' e).1
                      have hcu2 := hcuP.grown hg3 (fun r' e => by have := hrl r' e; omega)
                      have hgr2 := growB_own hgrP hg3 (fun r' e => by have := hrl r' e; omega)
                      have hz3 := hg3.size
                      replace cA0 := BA2.cell 0
                      simp at cA0
                      refine hK.out _ _ cA0 (fun hHeld4 => ?_)
                      clear hK K hHeld3
                      (try simp only [Act.put, List.getElem_toArray, List.getElem_cons_zero, List.getElem_cons_succ, List.setIfInBounds_toArray, List.set_cons_zero, List.set_cons_succ])
                      refine wpAnyH_take (i := 7) (v := .pointer (some ⟨gA, 1, none⟩)) rfl (by kernel_rfl) (by kernel_rfl) (by kernel_rfl) (fun _ _ _ h => h) (Or.inl ⟨by kernel_rfl, fun _ _ => by go_simp⟩) (by assumption) ?_
                      (try simp only [Act.put, List.getElem_toArray, List.getElem_cons_zero, List.getElem_cons_succ, List.setIfInBounds_toArray, List.set_cons_zero, List.set_cons_succ])
                      refine wpAnyH_ready (rs := [8]) (by kernel_rfl) (by simp) ?_
                      refine (AllReadyH.cons rfl (fun K hK => ?_) AllReadyH.nil)
                      have fA1 := BA2.frozen 1
                      replace cA1 := BA2.cell 1
                      simp at cA1
                      go_simp
                      obtain ⟨wt9, Hwt9⟩ : ∃ q, Hid (q = wt8.setCell ⟨gA, 1, none⟩ (.slice A3 (LL + 1) c3)) := ⟨_, Lib.hid rfl⟩
                      rw [← Hwt9.out]
                      have BA4 : Blk wt9 gA 27 #[.int .i64 (n : Int), .slice A3 (LL + 1) c3] := by rw [Hwt9.out]; simpa using BA2.set_ 1 (.slice A3 (LL + 1) c3)
                      have BR4 : Blk wt9 w.heap.size 27 #[.int .i64 0, .slice none 0 0] := by rw [Hwt9.out]; exact BR2.far (by exact hwgA) _
                      have PX4 : PO lo wt9 (.slice A3 (LL + 1) c3) (xs ++ [(1, List.replicate n 0)]) (css ++ [[.int .i64 1, .slice (some ⟨wt1.heap.size, 0, none⟩) n n]]) (bls ++ [[wt1.heap.size]]) := by rw [Hwt9.out]; exact PX2.far (p := ⟨gA, 1, none⟩) (by exact hgAl) _
                      have hcu4 : CurB B wt9 g (tq + 2 + 2 * LL + 2) := by rw [Hwt9.out]; exact hcu2.setFar (by exact hBgA) (by exact hgAg) _
                      have hgr4 : w.grownBy wt9 (some g) := by rw [Hwt9.out]; exact growB_new hgr2 (by exact hwgA2) _
                      have hsz4 : wt9.heap.size = wt8.heap.size := by rw [Hwt9.out]; simp
                      replace cA0 := BA4.cell 0
                      simp at cA0
                      refine hK.out _ _ cA0 (fun hHeld5 => ?_)
                      clear hK K hHeld4
                      (try simp only [Act.put, List.getElem_toArray, List.getElem_cons_zero, List.getElem_cons_succ, List.setIfInBounds_toArray, List.set_cons_zero, List.set_cons_succ])
                      refine wpAnyH_done (by kernel_rfl) ?_ _
                      have HX2 : Hid ((xs ++ [((1 : Int), List.replicate n (0 : Int))]).length = LL + 1 ∧ ∀ o ∈ xs ++ [((1 : Int), List.replicate n (0 : Int))], o.2.length ≤ 64) := by
                        refine ⟨by rw [List.length_append, HLL.out]; rfl, fun o ho => ?_⟩
                        rcases List.mem_append.1 ho with ho | ho
                        · exact HXO.out o ho
                        · rw [List.mem_singleton.1 ho]; simp; omega
                      have hl4 : lo ≤ wt9.heap.size := by omega
                      have cA9 := BA4.cell 1
                      simp at cA9
                      have hmes := lenAt_eq cA9
                      go_wp2_with fail
                      go_roundw
                      case rel =>
                        (repeat apply Exists.intro)
                        refine ⟨?_, rfl⟩
                        exact ⟨xs ++ [((1 : Int), List.replicate n (0 : Int))], wt9.heap.size, LL + 1, HX2, by omega, by omega, ⟨_, _, _, _, _, BA4, PX4, BR4, hcu4.mono (by omega), hgr4, PX4.2.2, hl4, Nat.le_refl _⟩⟩
                      case measure => rw [hmes]; have := hme; omega
                    · have PXP := PX
                      have hrowP := PX.2.1
                      rw [HLL.out] at hrowP
                      have BAP := BA
                      have BRP := BR0
                      have hcuP := hcu
                      have hgrP := hgr
                      have OTP := OT
                      have hloP : lo ≤ wt6.heap.size := by omega
                      go_simp
                      obtain ⟨wt10, Hwt10⟩ : ∃ x, Hid (x = wt6.alloc (.cells #[.int .i64 1, .slice (some ⟨wt1.heap.size, 0, none⟩) n n] 92)) := ⟨_, Lib.hid rfl⟩
                      rw [← Hwt10.out]
                      have hbwt10 : Below wt6.heap.size wt6 wt10 := by rw [Hwt10.out]; exact below_box _ _
                      have Bwt10 : Blk wt10 wt6.heap.size 92 #[.int .i64 1, .slice (some ⟨wt1.heap.size, 0, none⟩) n n] := by rw [Hwt10.out]; exact Blk.new _ _ _
                      have zwt10 : wt6.heap.size < wt10.heap.size := Bwt10.lt
                      have ywt10 := hbwt10.size
                      replace BA := BA.next hbwt10
                      replace PX := PX.next hbwt10
                      replace BR0 := BR0.next hbwt10
                      replace hcu := hcu.next_ hbwt10
                      replace hgr := growB_trans hgr (toGr hbwt10)
                      replace cA1 := keepc hbwt10 cA1
                      replace OT := Sh.onext OT hbwt10
                      replace cA0 := keepc hbwt10 cA0
                      refine hK.out _ _ cA0 (fun hHeld2 => ?_)
                      clear hK K hHeld1
                      (try simp only [Act.put, List.getElem_toArray, List.getElem_cons_zero, List.getElem_cons_succ, List.setIfInBounds_toArray, List.set_cons_zero, List.set_cons_succ])
                      refine wpAnyH_ready (rs := [1]) (by kernel_rfl) (by simp) ?_
                      refine (AllReadyH.cons rfl (fun K hK => ?_) AllReadyH.nil)
                      go_simp
                      refine hK.out _ _ cA0 (fun hHeld3 => ?_)
                      clear hK K hHeld2
                      (try simp only [Act.put, List.getElem_toArray, List.getElem_cons_zero, List.getElem_cons_succ, List.setIfInBounds_toArray, List.set_cons_zero, List.set_cons_succ])
                      refine wpAnyH_ready (rs := [6]) (by kernel_rfl) (by simp) ?_
                      refine (AllReadyH.cons rfl (fun K hK => ?_) AllReadyH.nil)
                      rw [Hwt10.out]
                      refine step_app2 wt6 rfl (.tmp 124) (.tmp 128) 25 92 rfl (.agg #[.int .i64 0, .slice none 0 0]) 32 Try.underlying25 info_op2 rfl (by decide) lo LL c A css.flatten (by rfl) hrowP (.int .i64 1) (.slice (some ⟨wt1.heap.size, 0, none⟩) n n) rfl rfl (by rfl) (by omega) hloP ?_
                      intro A3 c3 wt11 hown3 hg3 hb3
                      have PX2 := PXP.push2 hI OTP ⟨by simp, fun b hb => by rw [List.mem_singleton.1 hb]; omega⟩ l1 (by rw [HLL.out]; exact hown3) hg3
                      have BA2 := BAP.below hb3 hgAl
                      have BR2 := BRP.below hb3 hwlo
                      have hrl := fun r' e => (hrowP.lt r' e).1
                      have hcu2 := hcuP.grown hg3 (fun r' e => by have := hrl r' e; omega)
                      have hgr2 := growB_own hgrP hg3 (fun r' e => by have := hrl r' e; omega)
                      have hz3 := hg3.size
                      replace cA0 := BA2.cell 0
                      simp at cA0
                      refine hK.out _ _ cA0 (fun hHeld4 => ?_)
                      clear hK K hHeld3
                      (try simp only [Act.put, List.getElem_toArray, List.getElem_cons_zero, List.getElem_cons_succ, List.setIfInBounds_toArray, List.set_cons_zero, List.set_cons_succ])
                      refine wpAnyH_take (i := 7) (v := .pointer (some ⟨gA, 1, none⟩)) rfl (by kernel_rfl) (by kernel_rfl) (by kernel_rfl) (fun _ _ _ h => h) (Or.inl ⟨by kernel_rfl, fun _ _ => by go_simp⟩) (by assumption) ?_
                      (try simp only [Act.put, List.getElem_toArray, List.getElem_cons_zero, List.getElem_cons_succ, List.setIfInBounds_toArray, List.set_cons_zero, List.set_cons_succ])
                      refine wpAnyH_ready (rs := [8]) (by kernel_rfl) (by simp) ?_
                      refine (AllReadyH.cons rfl (fun K hK => ?_) AllReadyH.nil)
                      have fA1 := BA2.frozen 1
                      replace cA1 := BA2.cell 1
                      simp at cA1
                      go_simp
                      obtain ⟨wt12, Hwt12⟩ : ∃ q, Hid (q = wt11.setCell ⟨gA, 1, none⟩ (.slice A3 (LL + 1) c3)) := ⟨_, Lib.hid rfl⟩
                      rw [← Hwt12.out]
                      have BA4 : Blk wt12 gA 27 #[.int .i64 (n : Int), .slice A3 (LL + 1) c3] := by rw [Hwt12.out]; simpa using BA2.set_ 1 (.slice A3 (LL + 1) c3)
                      have BR4 : Blk wt12 w.heap.size 27 #[.int .i64 0, .slice none 0 0] := by rw [Hwt12.out]; exact BR2.far (by exact hwgA) _
                      have PX4 : PO lo wt12 (.slice A3 (LL + 1) c3) (xs ++ [(1, List.replicate n 0)]) (css ++ [[.int .i64 1, .slice (some ⟨wt1.heap.size, 0, none⟩) n n]]) (bls ++ [[wt1.heap.size]]) := by rw [Hwt12.out]; exact PX2.far (p := ⟨gA, 1, none⟩) (by exact hgAl) _
                      have hcu4 : CurB B wt12 g (tq + 2 + 2 * LL + 2) := by rw [Hwt12.out]; exact hcu2.setFar (by exact hBgA) (by exact hgAg) _
                      have hgr4 : w.grownBy wt12 (some g) := by rw [Hwt12.out]; exact growB_new hgr2 (by exact hwgA2) _
                      have hsz4 : wt12.heap.size = wt11.heap.size := by rw [Hwt12.out]; simp
                      replace cA0 := BA4.cell 0
                      simp at cA0
                      refine hK.out _ _ cA0 (fun hHeld5 => ?_)
                      clear hK K hHeld4
                      (try simp only [Act.put, List.getElem_toArray, List.getElem_cons_zero, List.getElem_cons_succ, List.setIfInBounds_toArray, List.set_cons_zero, List.set_cons_succ])
                      refine wpAnyH_done (by kernel_rfl) ?_ _
                      have HX2 : Hid ((xs ++ [((1 : Int), List.replicate n (0 : Int))]).length = LL + 1 ∧ ∀ o ∈ xs ++ [((1 : Int), List.replicate n (0 : Int))], o.2.length ≤ 64) := by
                        refine ⟨by rw [List.length_append, HLL.out]; rfl, fun o ho => ?_⟩
                        rcases List.mem_append.1 ho with ho | ho
                        · exact HXO.out o ho
                        · rw [List.mem_singleton.1 ho]; simp; omega
                      have hl4 : lo ≤ wt12.heap.size := by omega
                      have cA9 := BA4.cell 1
                      simp at cA9
                      have hmes := lenAt_eq cA9
                      go_wp2_with fail
                      go_roundw
                      case rel =>
                        (repeat apply Exists.intro)
                        refine ⟨?_, rfl⟩
                        exact ⟨xs ++ [((1 : Int), List.replicate n (0 : Int))], wt12.heap.size, LL + 1, HX2, by omega, by omega, ⟨_, _, _, _, _, BA4, PX4, BR4, hcu4.mono (by omega), hgr4, PX4.2.2, hl4, Nat.le_refl _⟩⟩
                      case measure => rw [hmes]; have := hme; omega
          · have e0 : ((v : Int) == 0) = false := by simp; omega
            have e1 : ((v : Int) == 1) = false := by simp; omega
            have e2 : ((v : Int) == 2) = false := by simp; omega
            have e3 : ((v : Int) == 3) = false := by simp; omega
            have e4 : ((v : Int) == 4) = false := by simp; omega
            clear hv
            go_wp2_with fail
            go_meet
            exact ⟨(n : Int), xs, hi, hS2.mono (by have := HTT.out; omega), opsQ_alg HX.out.2 (by have := HX.out.1; omega) (by omega) (by omega)⟩
        case rest =>
          clear hS2 HX HTT HTQ htq
          obtain ⟨z, ys, hi2, hS, hQ⟩ := hcut
          obtain ⟨wx, HWC⟩ : ∃ wq : World, wq = wc := ⟨_, rfl⟩
          subst HWC
          obtain ⟨A, m, c, css, bls, BA, PX, BR, hcu, hgr, hI, l1, l2⟩ := hS
          obtain ⟨wf, HWF⟩ : ∃ wf, Hid (wf = (wx.setCell ⟨w.heap.size, 0, none⟩ (.int .i64 z)).setCell ⟨w.heap.size, 1, none⟩ (.slice A m c)) := ⟨_, Lib.hid rfl⟩
          have BLF : Hid (Blk wf w.heap.size 27 #[.int .i64 z, .slice A m c]) := by show Blk _ _ _ _; rw [HWF.out]; simpa using (BR.set_ 0 (.int .i64 z)).set_ 1 (.slice A m c)
          have PF := (PX.far (p := ⟨w.heap.size, 0, none⟩) (by exact hwlo) (.int .i64 z)).far (p := ⟨w.heap.size, 1, none⟩) (by exact hwlo) (.slice A m c)
          rw [← HWF.out] at PF
          have hzz : InR z := ⟨by have := hQ.1; omega, by have := hQ.2.1; omega⟩
          have OF := Lib.hid (PF.algK hzz)
          have CF : Hid (CurB B wf g (t + 2000)) := by show CurB _ _ _ _; rw [HWF.out]; exact (hcu.setFar (p := ⟨w.heap.size, 0, none⟩) hB hr0g _).setFar (p := ⟨w.heap.size, 1, none⟩) hB hr0g _
          have GF : Hid (w.grownBy wf (some g)) := by show World.grownBy _ _ _; rw [HWF.out]; exact growB_new (growB_new hgr (p := ⟨w.heap.size, 0, none⟩) (Nat.le_refl _) _) (p := ⟨w.heap.size, 1, none⟩) (Nat.le_refl _) _
          have IF : Hid (Iv w.heap.size wf.heap.size (obl (.slice A m c) ++ bls.flatten)) := PF.2.2.mono (by omega) (Nat.le_refl _)
          have cA0 := BA.cell 0
          have cA1 := BA.cell 1
          have cR0 := BR.cell 0
          have cR1 := BR.cell 1
          simp at cA0 cA1 cR0 cR1
          have fR0 := BR.frozen 0
          have fR1 := BR.frozen 1
          have HQ := Lib.hid hQ
          clear PF PX BA BR hcu hgr hI hQ hzz
          go_wp2_with fail
          rw [← HWF.out]
          (try simp only [Exit.inBlock, Exit.then])
          refine bodyPost_ret (v := .agg #[.int .i64 z, .slice A m c]) (results_cell_row rfl _ _ w.heap.size 27 #[.int .i64 z, .slice A m c] (0, 0) _ (by simp) BLF.out Try.underlying27 rfl (by kernel_rfl)) rfl ?_
          exact ⟨[.int .i64 z, .slice A m c], (z, ys), _, rfl, OF.out, IF.out, HQ.out, CF.out, GF.out⟩
end Go.Proofs.Ytkmgbdljiajlaaa
namespace Go.Proofs.Ytkmgbdljiajlaaa
open Go.RowKit
set_option linter.unusedVariables false
set_option linter.unusedSimpArgs false

theorem res_tt_row {P : Program} {fn : Func} {u v p : Tmp} {ty : TypeId} (h : fn.results = #[.tmp u, .tmp v, .cell p ty]) (tmps : Array Value) (w : World) (g : Nat) (t : TypeId) (cs : Array Value) (fr : Nat × Nat) (d : TypeDesc) (b b' : Value)
    (hb : tmps.getD u undef = b) (hb' : tmps.getD v undef = b') (hp : tmps.getD p undef = .pointer (some ⟨g, 0, none⟩)) (hg : w.heap[g]? = some (.cells cs t fr))
    (hu : P.underlying ty = some d) (hd : (match d with | .struct _ | .array _ _ => true | _ => false) = true) (hi : (P.info? ty).map (·.size) = some cs.size) :
    (results fn tmps).run P w = .ok (.tuple #[b, b', .agg cs]) w := by
  simp only [Array.getD_eq_getD_getElem?] at hp hb hb'
  simp only [results, h]
  simp [Sem.run_bind, Result.andThen, hp, asAddr, run_loadVar_row w g t ty cs fr d hg hu hd hi, hb, hb']
theorem res_t_row {P : Program} {fn : Func} {u p : Tmp} {ty : TypeId} (h : fn.results = #[.tmp u, .cell p ty]) (tmps : Array Value) (w : World) (g : Nat) (t : TypeId) (cs : Array Value) (fr : Nat × Nat) (d : TypeDesc) (b : Value)
    (hb : tmps.getD u undef = b) (hp : tmps.getD p undef = .pointer (some ⟨g, 0, none⟩)) (hg : w.heap[g]? = some (.cells cs t fr))
    (hu : P.underlying ty = some d) (hd : (match d with | .struct _ | .array _ _ => true | _ => false) = true) (hi : (P.info? ty).map (·.size) = some cs.size) :
    (results fn tmps).run P w = .ok (.tuple #[b, .agg cs]) w := by
  simp only [Array.getD_eq_getD_getElem?] at hp hb
  simp only [results, h]
  simp [Sem.run_bind, Result.andThen, hp, asAddr, run_loadVar_row w g t ty cs fr d hg hu hd hi, hb]
/-- A list of entries that a draw hands on. -/
def EnR (w : World) (v : Value) (xs : List EntryM) : Prop := (Sh.rows shEntry 33).rd w [v] xs ∧ (Sh.rows shEntry 33).cnt xs ≤ 1048576
theorem ent_cnt : ∀ {xs : List EntryM}, (∀ x ∈ xs, EntQ x) → cntS shEntry.cnt xs ≤ 10020 * xs.length
  | [], _ => by simp [cntS]
  | x :: l, h => by
    rw [cntS_cons, List.length_cons]
    have h1 := ent_cnt fun a ha => h a (List.mem_cons_of_mem _ ha)
    have h2 := h x (List.mem_cons_self ..)
    have h3 := h2.1
    have h4 := h2.2.2.2
    have h5 : shEntry.cnt x = x.1.size + shAlgebra.cnt x.2 := rfl
    omega
theorem EnS.r {g lo q c : Nat} {w : World} {xs : List EntryM} {css : List (List Value)} (h : EnS g lo w q c xs css) (hl : xs.length ≤ 12) (hQ : ∀ x ∈ xs, EntQ x) : EnR w (.slice (some ⟨q, 0, none⟩) xs.length c) xs :=
  ⟨⟨_, _, _, rfl, h.rdN⟩, by have := ent_cnt hQ; show xs.length + cntS shEntry.cnt xs ≤ 1048576; omega⟩
def AddD (w : World) (e : Ending) (w' : World) : Prop := ∃ v xs s ds x, e = .returned (.tuple #[v, .string s, .agg (List.toArray ds)]) ∧ EnR w' v xs ∧ s.size ≤ 20 ∧ shAlgebra.rd w' ds x ∧ AlgQ x ∧ Below w.heap.size w w'
def MrgD (w : World) (e : Ending) (w' : World) : Prop := ∃ v xs u ys, e = .returned (.tuple #[v, u]) ∧ EnR w' v xs ∧ EnR w' u ys ∧ Below w.heap.size w w'
def NofD (w : World) (e : Ending) (w' : World) : Prop := ∃ v xs ds x, e = .returned (.tuple #[v, .agg (List.toArray ds)]) ∧ EnR w' v xs ∧ shAlgebra.rd w' ds x ∧ AlgQ x ∧ Below w.heap.size w w'
theorem alg31 : Alg31C := fun B g t w h hB ht => algebra31_of (fun B g t w h hB ht => algebra_any B g t w h hB ht) B g t w h hB (by omega)
theorem cat31 (B g t : Nat) (w : World) (h : CurB B w g t) (hB : B ≤ w.heap.size) (ht : t ≤ 999700000) : Calls Try.prog 40 #[.pointer (some ⟨g, 0, none⟩)] w (EnD B w g (t + 20000)) := catalogue31_of alg31 B g t w h hB ht
theorem algP_q {x : AlgebraM} (h : AlgP x) : AlgQ x := by
  obtain ⟨z, ops⟩ := x
  refine alg_q (fun o ho => ?_) (by have h9 : ops.length ≤ 4 := h.2.2.1; show ops.length ≤ 8; omega) (by have := h.1; show 0 ≤ z; omega) (by have := h.2.1; show z ≤ 9; omega)
  obtain ⟨q1, q2, q3, -⟩ := h.2.2.2 o ho
  rw [q3]
  have hn : (z : Int).toNat ≤ 8 := by have : z ≤ 8 := h.2.1; omega
  have hk : o.1.toNat ≤ 3 := by omega
  calc z.toNat ^ o.1.toNat ≤ 8 ^ o.1.toNat := Nat.pow_le_pow_left hn _
    _ ≤ 8 ^ 3 := Nat.pow_le_pow_right (by omega) hk
    _ ≤ 1000 := by decide
set_option maxRecDepth 100000 in
set_option maxHeartbeats 16000000 in
theorem drawAdd_any (A : Option Addr) (n c : Nat) (w : World) (h : CodeB w A n) : Calls Try.prog 6 #[.slice A n c] w (AddD w) := by
  obtain ⟨w0, HW0⟩ : ∃ wb, Hid (wb = w.alloc (.cells #[.int .i64 0, .slice none 0 0] 27)) := ⟨_, Lib.hid rfl⟩
  have hb0 : Below w.heap.size w w0 := by rw [HW0.out]; exact below_box _ _
  have B0 : Blk w0 w.heap.size 27 #[.int .i64 0, .slice none 0 0] := by rw [HW0.out]; exact Blk.new _ _ _
  have hs0 : w0.heap.size = w.heap.size + 1 := by rw [HW0.out]; simp
  obtain ⟨w1, HW1⟩ : ∃ wb, Hid (wb = w0.alloc (.cells #[.slice A n c, .int .i64 0, .int .u64 0] 64)) := ⟨_, Lib.hid rfl⟩
  have hb1 : Below w0.heap.size w0 w1 := by rw [HW1.out]; exact below_box _ _
  have hc1 : CurB (w.heap.size + 1) w1 (w.heap.size + 1) 0 := by rw [HW1.out]; exact CurB.made (h.next hb0) hs0.symm
  have B1 := B0.next hb1
  have hT1 := below_next hb0 hb1 rfl
  have hz1 : w.heap.size + 1 < w1.heap.size := hc1.lt
  have hgr1 := grown_reflB w1 (some (w.heap.size + 1))
  obtain ⟨g, HG⟩ : ∃ x, Hid (w.heap.size + 1 = x) := ⟨_, Lib.hid rfl⟩
  obtain ⟨r, HR⟩ : ∃ x, Hid (w.heap.size = x) := ⟨_, Lib.hid rfl⟩
  have hrg : r + 1 = g := by have := HG.out; have := HR.out; omega
  have hT1' : Below r w w1 := by rw [← HR.out]; exact hT1
  clear B0 hb0 hb1 hs0 h hT1
  obtain ⟨B, HB⟩ : ∃ x, Hid (g = x) := ⟨_, Lib.hid rfl⟩
  rw [HG.out] at hc1 hgr1 hz1
  have hc1 : CurB B w1 g 0 := by have h1 := hc1; rw [← HB.out]; exact h1
  have hBg : B = g := HB.out.symm
  rw [HR.out] at B1
  have HON := Lib.hid (oneB_any g 0 12 w1 hc1 (by omega) (by omega))
  go_enter Try.func6, Try.ntmps6
  go_wp2_with fail
  rw [← HW0.out, ← HW1.out, HG.out, HR.out]
  refine HON.out.mono ?_
  rintro e w2 ⟨b, rfl, hc2, hg2⟩
  have B2 := B1.grownG hg2 (by omega)
  have hgr2 := growB_trans hgr1 hg2
  have hz2 := hg2.size
  have hgl2 := hc2.lt
  clear HON hc1 hg2 hgr1 B1
  rcases b with _ | _
  · have HCT := Lib.hid (cat31 B g (0 + 2) w2 hc2 (by omega) (by omega))
    go_wp2_with fail
    refine HCT.out.mono ?_
    rintro e w3 ⟨q, cq, xs, css, rfl, hE, hxl, hQ, hc3, hg3⟩
    replace hc3 := hc3.mono (show 0 + 2 + 20000 ≤ 20010 by omega)
    have HQ := Lib.hid hQ
    clear HCT hc2 hQ
    have hz3 := hg3.size
    have hgr3 := growB_trans hgr2 hg3
    replace B2 := B2.grownG hg3 (by omega)
    have HNM := Lib.hid (name31_any B g 20010 w3 hc3 (by omega))
    clear hgr2 hg3 hc3
    go_wp2_with fail
    refine HNM.out.mono ?_
    rintro e w4 ⟨s, hs, rfl, hc4, hg4⟩
    replace hE := hE.go hg4 hgl2
    replace hgr3 := growB_trans hgr3 hg4
    replace B2 := B2.grownG hg4 (by omega)
    have hz4 := hg4.size
    have HAL := Lib.hid (alg31 B g (20010 + 4) w4 hc4 (by omega) (by omega))
    clear HNM hg4 hc4
    go_wp2_with fail
    refine HAL.out.mono ?_
    rintro e w5 ⟨ds, x, bl, rfl, O5, I5, hAQ, hc5, hg5⟩
    obtain ⟨AX, mX, cX, hds, -, -⟩ := rdAlgebra (shAlgebra.ord O5)
    subst hds
    replace hE := hE.go hg5 hgl2
    replace hgr3 := growB_trans hgr3 hg5
    replace B2 := B2.grownG hg5 (by omega)
    have hz5 := hg5.size
    obtain ⟨wf, HWF⟩ : ∃ wb, Hid (wb = (w5.setCell ⟨r, 0, none⟩ (.int .i64 x.1)).setCell ⟨r, 1, none⟩ (.slice AX mX cX)) := ⟨_, Lib.hid rfl⟩
    have hrn : r ∉ bl := fun hh => by have := (I5.2 _ hh).1; omega
    have HFIN : Blk wf r 27 #[.int .i64 x.1, .slice AX mX cX] ∧ AddD w (.returned (.tuple #[.slice (some ⟨q, 0, none⟩) xs.length cq, .string s, .agg #[.int .i64 x.1, .slice AX mX cX]])) wf := by
      rw [HWF.out]
      refine ⟨by simpa using (B2.set_ 0 (.int .i64 x.1)).set_ 1 (.slice AX mX cX), _, xs, s, _, x, rfl, ((hE.low (p := ⟨r, 0, none⟩) (show r < _ by omega) _).low (p := ⟨r, 1, none⟩) (show r < _ by omega) _).r hxl HQ.out, hs, shAlgebra.ord (Sh.oset' (p := ⟨r, 1, none⟩) (Sh.oset' (p := ⟨r, 0, none⟩) O5 hrn _) hrn _), hAQ, ?_⟩
      rw [HR.out]
      exact ((hT1'.grown hgr3 (by omega) (fun k e => by injection e with e; omega)).setCell (p := ⟨r, 0, none⟩) (Nat.le_refl _) _).setCell (p := ⟨r, 1, none⟩) (Nat.le_refl _) _
    have HFI := Lib.hid HFIN
    have cR0 := B2.cell 0
    have cR1 := B2.cell 1
    simp at cR0 cR1
    have fR0 := B2.frozen 0
    have fR1 := B2.frozen 1
    clear HAL hE hgr3 B2 O5 I5 hc5 hg5 HFIN
    go_wp2_with fail
    rw [← HWF.out]
    (try simp only [Exit.inBlock, Exit.then])
    refine bodyPost_ret (v := .tuple #[.slice (some ⟨q, 0, none⟩) xs.length cq, .string s, .agg #[.int .i64 x.1, .slice AX mX cX]]) (res_tt_row rfl _ _ r 27 #[.int .i64 x.1, .slice AX mX cX] (0, 0) _ _ _ (by simp) (by simp) (by simp) HFI.out.1 Try.underlying27 rfl (by kernel_rfl)) rfl ?_
    exact HFI.out.2
  · have HFL := Lib.hid (l31Full_any g w2 hgl2)
    go_wp2_with fail
    refine HFL.out.mono ?_
    rintro e w3 ⟨q, cq, xs, css, rfl, hE, hxl, hQ, hb3⟩
    have hg3 := toGr (r := some g) hb3
    have hc3 := (hc2.next_ hb3).mono (show 0 + 2 ≤ 20010 by omega)
    have HQ := Lib.hid hQ
    clear HFL hc2 hQ hb3
    have hz3 := hg3.size
    have hgr3 := growB_trans hgr2 hg3
    replace B2 := B2.grownG hg3 (by omega)
    have HNM := Lib.hid (name31_any B g 20010 w3 hc3 (by omega))
    clear hgr2 hg3 hc3
    go_wp2_with fail
    refine HNM.out.mono ?_
    rintro e w4 ⟨s, hs, rfl, hc4, hg4⟩
    replace hE := hE.go hg4 hgl2
    replace hgr3 := growB_trans hgr3 hg4
    replace B2 := B2.grownG hg4 (by omega)
    have hz4 := hg4.size
    have HAL := Lib.hid (alg31 B g (20010 + 4) w4 hc4 (by omega) (by omega))
    clear HNM hg4 hc4
    go_wp2_with fail
    refine HAL.out.mono ?_
    rintro e w5 ⟨ds, x, bl, rfl, O5, I5, hAQ, hc5, hg5⟩
    obtain ⟨AX, mX, cX, hds, -, -⟩ := rdAlgebra (shAlgebra.ord O5)
    subst hds
    replace hE := hE.go hg5 hgl2
    replace hgr3 := growB_trans hgr3 hg5
    replace B2 := B2.grownG hg5 (by omega)
    have hz5 := hg5.size
    obtain ⟨wf, HWF⟩ : ∃ wb, Hid (wb = (w5.setCell ⟨r, 0, none⟩ (.int .i64 x.1)).setCell ⟨r, 1, none⟩ (.slice AX mX cX)) := ⟨_, Lib.hid rfl⟩
    have hrn : r ∉ bl := fun hh => by have := (I5.2 _ hh).1; omega
    have HFIN : Blk wf r 27 #[.int .i64 x.1, .slice AX mX cX] ∧ AddD w (.returned (.tuple #[.slice (some ⟨q, 0, none⟩) xs.length cq, .string s, .agg #[.int .i64 x.1, .slice AX mX cX]])) wf := by
      rw [HWF.out]
      refine ⟨by simpa using (B2.set_ 0 (.int .i64 x.1)).set_ 1 (.slice AX mX cX), _, xs, s, _, x, rfl, ((hE.low (p := ⟨r, 0, none⟩) (show r < _ by omega) _).low (p := ⟨r, 1, none⟩) (show r < _ by omega) _).r hxl HQ.out, hs, shAlgebra.ord (Sh.oset' (p := ⟨r, 1, none⟩) (Sh.oset' (p := ⟨r, 0, none⟩) O5 hrn _) hrn _), hAQ, ?_⟩
      rw [HR.out]
      exact ((hT1'.grown hgr3 (by omega) (fun k e => by injection e with e; omega)).setCell (p := ⟨r, 0, none⟩) (Nat.le_refl _) _).setCell (p := ⟨r, 1, none⟩) (Nat.le_refl _) _
    have HFI := Lib.hid HFIN
    have cR0 := B2.cell 0
    have cR1 := B2.cell 1
    simp at cR0 cR1
    have fR0 := B2.frozen 0
    have fR1 := B2.frozen 1
    clear HAL hE hgr3 B2 O5 I5 hc5 hg5 HFIN
    go_wp2_with fail
    rw [← HWF.out]
    (try simp only [Exit.inBlock, Exit.then])
    refine bodyPost_ret (v := .tuple #[.slice (some ⟨q, 0, none⟩) xs.length cq, .string s, .agg #[.int .i64 x.1, .slice AX mX cX]]) (res_tt_row rfl _ _ r 27 #[.int .i64 x.1, .slice AX mX cX] (0, 0) _ _ _ (by simp) (by simp) (by simp) HFI.out.1 Try.underlying27 rfl (by kernel_rfl)) rfl ?_
    exact HFI.out.2
set_option maxRecDepth 100000 in
set_option maxHeartbeats 16000000 in
theorem drawMrg_any (A : Option Addr) (n c : Nat) (w : World) (h : CodeB w A n) : Calls Try.prog 15 #[.slice A n c] w (MrgD w) := by
  obtain ⟨w1, HW1⟩ : ∃ wb, Hid (wb = w.alloc (.cells #[.slice A n c, .int .i64 0, .int .u64 0] 64)) := ⟨_, Lib.hid rfl⟩
  have hT1 : Below w.heap.size w w1 := by rw [HW1.out]; exact below_box _ _
  have hc1 : CurB w.heap.size w1 w.heap.size 0 := by rw [HW1.out]; exact CurB.made h rfl
  have hz1 : w.heap.size < w1.heap.size := hc1.lt
  have hgr1 := grown_reflB w1 (some w.heap.size)
  obtain ⟨g, HG⟩ : ∃ x, Hid (w.heap.size = x) := ⟨_, Lib.hid rfl⟩
  clear h
  obtain ⟨B, HB⟩ : ∃ x, Hid (g = x) := ⟨_, Lib.hid rfl⟩
  rw [HG.out] at hc1 hgr1 hz1
  have hc1 : CurB B w1 g 0 := by have h1 := hc1; rw [← HB.out]; exact h1
  have hBg : B = g := HB.out.symm
  have HON := Lib.hid (oneB_any g 0 12 w1 hc1 (by omega) (by omega))
  go_enter Try.func15, Try.ntmps15
  go_wp2_with fail
  rw [← HW1.out, HG.out]
  refine HON.out.mono ?_
  rintro e w2 ⟨b, rfl, hc2, hg2⟩
  have hgr2 := growB_trans hgr1 hg2
  have hz2 := hg2.size
  have hgl2 := hc2.lt
  clear HON hc1 hg2 hgr1
  rcases b with _ | _
  · have HCT := Lib.hid (cat31 B g (0 + 2) w2 hc2 (by omega) (by omega))
    go_wp2_with fail
    refine HCT.out.mono ?_
    rintro e w3 ⟨q, cq, xs, css, rfl, hE, hxl, hQ, hc3, hg3⟩
    replace hc3 := hc3.mono (show 0 + 2 + 20000 ≤ 20010 by omega)
    have HQ := Lib.hid hQ
    clear HCT hc2 hQ
    have hz3 := hg3.size
    have hgr3 := growB_trans hgr2 hg3
    have HC2 := Lib.hid (cat31 B g 20010 w3 hc3 (by omega) (by omega))
    clear hgr2 hg3 hc3
    go_wp2_with fail
    refine HC2.out.mono ?_
    rintro e w4 ⟨q4, c4, ys, dss, rfl, hF, hyl, hQ4, hc4, hg4⟩
    replace hE := hE.go hg4 hgl2
    replace hgr3 := growB_trans hgr3 hg4
    have hz4 := hg4.size
    have HFI : Hid (MrgD w (.returned (.tuple #[.slice (some ⟨q, 0, none⟩) xs.length cq, .slice (some ⟨q4, 0, none⟩) ys.length c4])) w4) :=
      ⟨_, xs, _, ys, rfl, hE.r hxl HQ.out, hF.r hyl hQ4, by rw [HG.out] at hT1 ⊢; exact hT1.grown hgr3 (by omega) (fun k e => by injection e with e; omega)⟩
    clear HC2 hE hgr3 hF hQ4 hc4 hg4
    go_wp2_with fail
    go_ret2
    exact HFI.out
  · have HFL := Lib.hid (l31Full_any g w2 hgl2)
    go_wp2_with fail
    refine HFL.out.mono ?_
    rintro e w3 ⟨q, cq, xs, css, rfl, hE, hxl, hQ, hb3⟩
    have hg3 := toGr (r := some g) hb3
    have hc3 := (hc2.next_ hb3).mono (show 0 + 2 ≤ 20010 by omega)
    have HQ := Lib.hid hQ
    clear HFL hc2 hQ hb3
    have hz3 := hg3.size
    have hgr3 := growB_trans hgr2 hg3
    have HC2 := Lib.hid (cat31 B g 20010 w3 hc3 (by omega) (by omega))
    clear hgr2 hg3 hc3
    go_wp2_with fail
    refine HC2.out.mono ?_
    rintro e w4 ⟨q4, c4, ys, dss, rfl, hF, hyl, hQ4, hc4, hg4⟩
    replace hE := hE.go hg4 hgl2
    replace hgr3 := growB_trans hgr3 hg4
    have hz4 := hg4.size
    have HFI : Hid (MrgD w (.returned (.tuple #[.slice (some ⟨q, 0, none⟩) xs.length cq, .slice (some ⟨q4, 0, none⟩) ys.length c4])) w4) :=
      ⟨_, xs, _, ys, rfl, hE.r hxl HQ.out, hF.r hyl hQ4, by rw [HG.out] at hT1 ⊢; exact hT1.grown hgr3 (by omega) (fun k e => by injection e with e; omega)⟩
    clear HC2 hE hgr3 hF hQ4 hc4 hg4
    go_wp2_with fail
    go_ret2
    exact HFI.out
set_option maxRecDepth 100000 in
set_option maxHeartbeats 16000000 in
theorem drawNof_any (A : Option Addr) (n c : Nat) (w : World) (h : CodeB w A n) : Calls Try.prog 17 #[.slice A n c] w (NofD w) := by
  obtain ⟨w0, HW0⟩ : ∃ wb, Hid (wb = w.alloc (.cells #[.int .i64 0, .slice none 0 0] 27)) := ⟨_, Lib.hid rfl⟩
  have hb0 : Below w.heap.size w w0 := by rw [HW0.out]; exact below_box _ _
  have B0 : Blk w0 w.heap.size 27 #[.int .i64 0, .slice none 0 0] := by rw [HW0.out]; exact Blk.new _ _ _
  have hs0 : w0.heap.size = w.heap.size + 1 := by rw [HW0.out]; simp
  obtain ⟨w1, HW1⟩ : ∃ wb, Hid (wb = w0.alloc (.cells #[.slice A n c, .int .i64 0, .int .u64 0] 64)) := ⟨_, Lib.hid rfl⟩
  have hb1 : Below w0.heap.size w0 w1 := by rw [HW1.out]; exact below_box _ _
  have hc1 : CurB (w.heap.size + 1) w1 (w.heap.size + 1) 0 := by rw [HW1.out]; exact CurB.made (h.next hb0) hs0.symm
  have B1 := B0.next hb1
  have hT1 := below_next hb0 hb1 rfl
  have hz1 : w.heap.size + 1 < w1.heap.size := hc1.lt
  have hgr1 := grown_reflB w1 (some (w.heap.size + 1))
  obtain ⟨g, HG⟩ : ∃ x, Hid (w.heap.size + 1 = x) := ⟨_, Lib.hid rfl⟩
  obtain ⟨r, HR⟩ : ∃ x, Hid (w.heap.size = x) := ⟨_, Lib.hid rfl⟩
  have hrg : r + 1 = g := by have := HG.out; have := HR.out; omega
  have hT1' : Below r w w1 := by rw [← HR.out]; exact hT1
  clear B0 hb0 hb1 hs0 h hT1
  obtain ⟨B, HB⟩ : ∃ x, Hid (g = x) := ⟨_, Lib.hid rfl⟩
  rw [HG.out] at hc1 hgr1 hz1
  have hc1 : CurB B w1 g 0 := by have h1 := hc1; rw [← HB.out]; exact h1
  have hBg : B = g := HB.out.symm
  rw [HR.out] at B1
  have HCT := Lib.hid (cat31 B g 0 w1 hc1 (by omega) (by omega))
  clear hc1
  go_enter Try.func17, Try.ntmps17
  go_wp2_with fail
  rw [← HW0.out, ← HW1.out, HG.out, HR.out]
  refine HCT.out.mono ?_
  rintro e w3 ⟨q, cq, xs, css, rfl, hE, hxl, hQ, hc, hg3⟩
  have hgr := growB_trans hgr1 hg3
  have B2 := B1.grownG hg3 (by omega)
  have HQ := Lib.hid hQ
  have hz3 := hg3.size
  obtain ⟨lo, HLO⟩ : ∃ x, Hid (w1.heap.size = x) := ⟨_, Lib.hid rfl⟩
  rw [HLO.out] at hE hz3
  have hlo : g < lo := by have := HLO.out; omega
  have hlz : lo ≤ w3.heap.size := by have := HLO.out; have := hg3.size; omega
  clear HCT B1 hgr1 hg3 hQ
  by_cases hx0 : xs.length = 0
  · have hx1 : ¬ (0 : Int) < (xs.length : Int) := by omega
    clear hx0
    have hc8 : CurB B w3 g 30000 := hc.mono (by omega)
    have HAL := Lib.hid (alg31 B g 30000 w3 hc8 (by omega) (by omega))
    clear hc hc8
    go_wp2_with fail
    refine HAL.out.mono ?_
    rintro e w8 ⟨ds, x, bl, rfl, O5, I5, hAQ, hc5, hg5⟩
    obtain ⟨AX, mX, cX, hds, -, -⟩ := rdAlgebra (shAlgebra.ord O5)
    subst hds
    replace hE := hE.go hg5 (by omega)
    replace hgr := growB_trans hgr hg5
    replace B2 := B2.grownG hg5 (by omega)
    obtain ⟨wf, HWF⟩ : ∃ wb, Hid (wb = (w8.setCell ⟨r, 0, none⟩ (.int .i64 x.1)).setCell ⟨r, 1, none⟩ (.slice AX mX cX)) := ⟨_, Lib.hid rfl⟩
    have hrn : r ∉ bl := fun hh => by have := (I5.2 _ hh).1; omega
    have HFIN : Blk wf r 27 #[.int .i64 x.1, .slice AX mX cX] ∧ NofD w (.returned (.tuple #[.slice (some ⟨q, 0, none⟩) xs.length cq, .agg #[.int .i64 x.1, .slice AX mX cX]])) wf := by
      rw [HWF.out]
      refine ⟨by simpa using (B2.set_ 0 (.int .i64 x.1)).set_ 1 (.slice AX mX cX), _, xs, _, x, rfl, ((hE.low (p := ⟨r, 0, none⟩) (show r < _ by omega) _).low (p := ⟨r, 1, none⟩) (show r < _ by omega) _).r hxl HQ.out, shAlgebra.ord (Sh.oset' (p := ⟨r, 1, none⟩) (Sh.oset' (p := ⟨r, 0, none⟩) O5 hrn _) hrn _), hAQ, ?_⟩
      rw [HR.out]
      exact ((hT1'.grown hgr (by omega) (fun k e => by injection e with e; omega)).setCell (p := ⟨r, 0, none⟩) (Nat.le_refl _) _).setCell (p := ⟨r, 1, none⟩) (Nat.le_refl _) _
    have HFI := Lib.hid HFIN
    have cR0 := B2.cell 0
    have cR1 := B2.cell 1
    simp at cR0 cR1
    have fR0 := B2.frozen 0
    have fR1 := B2.frozen 1
    clear HAL hE hgr B2 O5 I5 hc5 hg5 HFIN
    go_wp2_with fail
    rw [← HWF.out]
    (try simp only [Exit.inBlock, Exit.then])
    refine bodyPost_ret (v := .tuple #[.slice (some ⟨q, 0, none⟩) xs.length cq, .agg #[.int .i64 x.1, .slice AX mX cX]]) (res_t_row rfl _ _ r 27 #[.int .i64 x.1, .slice AX mX cX] (0, 0) _ _ (by simp) (by simp) HFI.out.1 Try.underlying27 rfl (by kernel_rfl)) rfl ?_
    exact HFI.out.2
  · have hx1 : (0 : Int) < (xs.length : Int) := by omega
    have hx2 : 0 < xs.length := by omega
    have HON := Lib.hid (oneB_any g (0 + 20000) 2 w3 hc (by omega) (by omega))
    clear hc
    go_wp2_with fail
    refine HON.out.mono ?_
    rintro e w4 ⟨b, rfl, hc, hg4⟩
    replace hE := hE.go hg4 hlo
    replace hgr := growB_trans hgr hg4
    replace B2 := B2.grownG hg4 (by omega)
    have hz4 := hg4.size
    clear HON hg4
    rcases b with _ | _
    · skip
      have hc8 : CurB B w4 g 30000 := hc.mono (by omega)
      have HAL := Lib.hid (alg31 B g 30000 w4 hc8 (by omega) (by omega))
      clear hc hc8
      go_wp2_with fail
      refine HAL.out.mono ?_
      rintro e w8 ⟨ds, x, bl, rfl, O5, I5, hAQ, hc5, hg5⟩
      obtain ⟨AX, mX, cX, hds, -, -⟩ := rdAlgebra (shAlgebra.ord O5)
      subst hds
      replace hE := hE.go hg5 (by omega)
      replace hgr := growB_trans hgr hg5
      replace B2 := B2.grownG hg5 (by omega)
      obtain ⟨wf, HWF⟩ : ∃ wb, Hid (wb = (w8.setCell ⟨r, 0, none⟩ (.int .i64 x.1)).setCell ⟨r, 1, none⟩ (.slice AX mX cX)) := ⟨_, Lib.hid rfl⟩
      have hrn : r ∉ bl := fun hh => by have := (I5.2 _ hh).1; omega
      have HFIN : Blk wf r 27 #[.int .i64 x.1, .slice AX mX cX] ∧ NofD w (.returned (.tuple #[.slice (some ⟨q, 0, none⟩) xs.length cq, .agg #[.int .i64 x.1, .slice AX mX cX]])) wf := by
        rw [HWF.out]
        refine ⟨by simpa using (B2.set_ 0 (.int .i64 x.1)).set_ 1 (.slice AX mX cX), _, xs, _, x, rfl, ((hE.low (p := ⟨r, 0, none⟩) (show r < _ by omega) _).low (p := ⟨r, 1, none⟩) (show r < _ by omega) _).r hxl HQ.out, shAlgebra.ord (Sh.oset' (p := ⟨r, 1, none⟩) (Sh.oset' (p := ⟨r, 0, none⟩) O5 hrn _) hrn _), hAQ, ?_⟩
        rw [HR.out]
        exact ((hT1'.grown hgr (by omega) (fun k e => by injection e with e; omega)).setCell (p := ⟨r, 0, none⟩) (Nat.le_refl _) _).setCell (p := ⟨r, 1, none⟩) (Nat.le_refl _) _
      have HFI := Lib.hid HFIN
      have cR0 := B2.cell 0
      have cR1 := B2.cell 1
      simp at cR0 cR1
      have fR0 := B2.frozen 0
      have fR1 := B2.frozen 1
      clear HAL hE hgr B2 O5 I5 hc5 hg5 HFIN
      go_wp2_with fail
      rw [← HWF.out]
      (try simp only [Exit.inBlock, Exit.then])
      refine bodyPost_ret (v := .tuple #[.slice (some ⟨q, 0, none⟩) xs.length cq, .agg #[.int .i64 x.1, .slice AX mX cX]]) (res_t_row rfl _ _ r 27 #[.int .i64 x.1, .slice AX mX cX] (0, 0) _ _ (by simp) (by simp) HFI.out.1 Try.underlying27 rfl (by kernel_rfl)) rfl ?_
      exact HFI.out.2
    · have HPK := Lib.hid (pickB_any g (0 + 20000 + 2) (xs.length : Int) w4 hc (by omega) (by omega))
      clear hc
      go_wp2_with fail
      refine HPK.out.mono ?_
      rintro e w5 ⟨k, hk, rfl, hc, hg5⟩
      replace hE := hE.go hg5 hlo
      replace hgr := growB_trans hgr hg5
      replace B2 := B2.grownG hg5 (by omega)
      have hz5 := hg5.size
      have hkx : k < xs.length := by omega
      have hk0 : (0 : Int) ≤ (k : Int) := by omega
      have hk1 : (k : Int) < (xs.length : Int) := by omega
      have hck : css[k]? = some (css[k]'(by have := hE.2.1; omega)) := List.getElem?_eq_getElem _
      generalize css[k]'(by have := hE.2.1; omega) = ck at hck
      have hyk : xs[k]? = some (xs[k]'hkx) := List.getElem?_eq_getElem hkx
      generalize xs[k]'hkx = y at hyk
      have hFk := hE.2.2.2 k ck y hck hyk
      have hyq := (HQ.out y (List.mem_of_getElem? hyk)).2
      obtain ⟨Ay, ny, cy, hce, hys, -, -⟩ := rdEntry hFk.self
      subst hce
      have HFA : Hid (FarE g lo w5 fun w => shAlgebra.rd w [.int .i64 y.2.1, .slice Ay ny cy] y.2) := fun w' k => by
        obtain ⟨A', n', c', h1, h2, h3, h4⟩ := rdEntry (hFk w' k)
        injection h1 with _ h1
        injection h1 with _ h1
        injection h1 with h1 _
        injection h1 with e1 e2 e3
        subst e1
        subst e2
        subst e3
        exact mkAlgebra (x := y.2) h3 h4
      have ck1 : w5.cell? ⟨q, k * 3 + 1, none⟩ = some (.int .i64 y.2.1) := hE.cells hck (i := 1) rfl
      have ck2 : w5.cell? ⟨q, k * 3 + 2, none⟩ = some (.slice Ay ny cy) := hE.cells hck (i := 2) rfl
      obtain ⟨y0, ya⟩ := y
      obtain ⟨yn, yo⟩ := ya
      have hyn0 : 0 ≤ yn := hyq.1
      have hyn9 : yn ≤ 9 := hyq.2.1
      obtain ⟨n9, rfl⟩ : ∃ n : Nat, yn = (n : Int) := ⟨yn.toNat, by omega⟩
      simp only at ck1 ck2 HFA
      obtain ⟨w6, HW6⟩ : ∃ wb, Hid (wb = w5.alloc (.cells #[.int .i64 (n9 : Int), .slice Ay ny cy] 27)) := ⟨_, Lib.hid rfl⟩
      have hb6 : Below w5.heap.size w5 w6 := by rw [HW6.out]; exact below_box _ _
      have BX : Blk w6 w5.heap.size 27 #[.int .i64 (n9 : Int), .slice Ay ny cy] := by rw [HW6.out]; exact Blk.new _ _ _
      have hz6 := hb6.size
      obtain ⟨gx, HGX⟩ : ∃ x, Hid (w5.heap.size = x) := ⟨_, Lib.hid rfl⟩
      clear HPK hg5 hk hck hyk hFk hyq hys
      go_upto_region 5 with fail
      rw [← HW6.out]
      rw [HGX.out] at BX ⊢
      replace hE := hE.next hb6
      replace hgr := growB_trans hgr (toGr (r := some g) hb6)
      replace B2 := B2.next hb6
      replace hc := hc.next_ hb6
      have HF6 : Hid (FarE g lo w6 fun w => shAlgebra.rd w [.int .i64 (n9 : Int), .slice Ay ny cy] ((n9 : Int), yo)) := HFA.out.go (AgE.next hb6)
      have hgxg : gx ≠ g := by have := HGX.out; omega
      have cX0 := BX.cell 0
      simp at cX0
      have HNA := Lib.hid (names2_any B g (0 + 20000 + 2 + 2) n9 w6 hc (by omega) (by omega) (by omega))
      have HLE := Lib.hid (l1Least_any (n9 : Int) 9 (n9 : Int) w6 (Or.inl ⟨hyn9, rfl⟩))
      clear HFA ck1 ck2 hb6 hc
      go_wp2_with fail
      refine HLE.out.mono ?_
      rintro e wq ⟨rfl, rfl⟩
      go_wp2_with fail
      refine HNA.out.mono ?_
      rintro e w7 ⟨N, p, cN, L, rfl, hown, hL, hp, hc, hg7⟩
      replace hE := hE.go hg7 hlo
      replace hgr := growB_trans hgr hg7
      replace B2 := B2.grownG hg7 (by omega)
      replace BX := BX.grownG hg7 hgxg
      have hz7 := hg7.size
      replace hc := hc.mono (show 0 + 20000 + 2 + 2 + 2 * n9 + 10 ≤ 29000 by omega)
      have HF7 : Hid (FarE g lo w7 fun w => shAlgebra.rd w [.int .i64 (n9 : Int), .slice Ay ny cy] ((n9 : Int), yo)) := HF6.out.go (AgE.grown hg7)
      have hrdN := rd_of_own (R := RI) hown (RI_ints fun v hv => by have := hL v hv; omega)
      have HGO := Lib.hid (l2Good_any [.int .i64 (n9 : Int), .slice Ay ny cy] ((n9 : Int), yo) w7 HF7.out.self)
      clear cX0
      have cX0 := BX.cell 0
      have cX1 := BX.cell 1
      simp at cX0 cX1
      clear HNA HLE HF6 hg7 hown hL
      go_upto_region 6 with fail
      go_wp2_with fail
      refine HGO.out.mono ?_
      rintro e w8 ⟨rfl, hb8⟩
      replace hE := hE.next hb8
      replace hgr := growB_trans hgr (toGr (r := some g) hb8)
      replace B2 := B2.next hb8
      replace BX := BX.next hb8
      replace hc := hc.next_ hb8
      have hz8 := hb8.size
      have HF8 : Hid (FarE g lo w8 fun w => shAlgebra.rd w [.int .i64 (n9 : Int), .slice Ay ny cy] ((n9 : Int), yo)) := HF7.out.go (AgE.next hb8)
      replace hrdN := hrdN.next stab_RI hb8
      obtain ⟨gb, HGB⟩ : ∃ b, Hid (algB ((n9 : Int), yo) = b) := ⟨_, Lib.hid rfl⟩
      rw [HGB.out]
      clear HGO HF7 cX0 cX1 hb8
      have cX0 := BX.cell 0
      have cX1 := BX.cell 1
      simp at cX0 cX1
      rcases gb with _ | _
      · skip
        have hc8 : CurB B w8 g 30000 := hc.mono (by omega)
        have HAL := Lib.hid (alg31 B g 30000 w8 hc8 (by omega) (by omega))
        clear hc hc8
        go_wp2_with fail
        refine HAL.out.mono ?_
        rintro e w8 ⟨ds, x, bl, rfl, O5, I5, hAQ, hc5, hg5⟩
        obtain ⟨AX, mX, cX, hds, -, -⟩ := rdAlgebra (shAlgebra.ord O5)
        subst hds
        replace hE := hE.go hg5 (by omega)
        replace hgr := growB_trans hgr hg5
        replace B2 := B2.grownG hg5 (by omega)
        obtain ⟨wf, HWF⟩ : ∃ wb, Hid (wb = (w8.setCell ⟨r, 0, none⟩ (.int .i64 x.1)).setCell ⟨r, 1, none⟩ (.slice AX mX cX)) := ⟨_, Lib.hid rfl⟩
        have hrn : r ∉ bl := fun hh => by have := (I5.2 _ hh).1; omega
        have HFIN : Blk wf r 27 #[.int .i64 x.1, .slice AX mX cX] ∧ NofD w (.returned (.tuple #[.slice (some ⟨q, 0, none⟩) xs.length cq, .agg #[.int .i64 x.1, .slice AX mX cX]])) wf := by
          rw [HWF.out]
          refine ⟨by simpa using (B2.set_ 0 (.int .i64 x.1)).set_ 1 (.slice AX mX cX), _, xs, _, x, rfl, ((hE.low (p := ⟨r, 0, none⟩) (show r < _ by omega) _).low (p := ⟨r, 1, none⟩) (show r < _ by omega) _).r hxl HQ.out, shAlgebra.ord (Sh.oset' (p := ⟨r, 1, none⟩) (Sh.oset' (p := ⟨r, 0, none⟩) O5 hrn _) hrn _), hAQ, ?_⟩
          rw [HR.out]
          exact ((hT1'.grown hgr (by omega) (fun k e => by injection e with e; omega)).setCell (p := ⟨r, 0, none⟩) (Nat.le_refl _) _).setCell (p := ⟨r, 1, none⟩) (Nat.le_refl _) _
        have HFI := Lib.hid HFIN
        have cR0 := B2.cell 0
        have cR1 := B2.cell 1
        simp at cR0 cR1
        have fR0 := B2.frozen 0
        have fR1 := B2.frozen 1
        clear HAL hE hgr B2 O5 I5 hc5 hg5 HFIN
        go_wp2_with fail
        rw [← HWF.out]
        (try simp only [Exit.inBlock, Exit.then])
        refine bodyPost_ret (v := .tuple #[.slice (some ⟨q, 0, none⟩) xs.length cq, .agg #[.int .i64 x.1, .slice AX mX cX]]) (res_t_row rfl _ _ r 27 #[.int .i64 x.1, .slice AX mX cX] (0, 0) _ _ (by simp) (by simp) HFI.out.1 Try.underlying27 rfl (by kernel_rfl)) rfl ?_
        exact HFI.out.2
      · obtain ⟨pb, HPB⟩ : ∃ b, Hid (permB n9 L = b) := ⟨_, Lib.hid rfl⟩
        have HPM : Hid (Calls Try.prog 61 #[.slice N p cN, .int .i64 (n9 : Int)] w8 (Bl w8 (.bool pb))) := by
          have := l2PermB_any N p cN n9 L w8 hrdN (by omega)
          rw [HPB.out] at this
          exact this
        go_wp2_with fail
        refine HPM.out.mono ?_
        rintro e w9 ⟨rfl, hb9⟩
        replace hE := hE.next hb9
        replace hgr := growB_trans hgr (toGr (r := some g) hb9)
        replace B2 := B2.next hb9
        replace BX := BX.next hb9
        replace hc := hc.next_ hb9
        have hz9 := hb9.size
        have HF9 : Hid (FarE g lo w9 fun w => shAlgebra.rd w [.int .i64 (n9 : Int), .slice Ay ny cy] ((n9 : Int), yo)) := HF8.out.go (AgE.next hb9)
        replace hrdN := hrdN.next stab_RI hb9
        clear HPM HF8 cX0 cX1 hb9
        have cX0 := BX.cell 0
        have cX1 := BX.cell 1
        simp at cX0 cX1
        rcases pb with _ | _
        · skip
          have hc8 : CurB B w9 g 30000 := hc.mono (by omega)
          have HAL := Lib.hid (alg31 B g 30000 w9 hc8 (by omega) (by omega))
          clear hc hc8
          go_wp2_with fail
          refine HAL.out.mono ?_
          rintro e w8 ⟨ds, x, bl, rfl, O5, I5, hAQ, hc5, hg5⟩
          obtain ⟨AX, mX, cX, hds, -, -⟩ := rdAlgebra (shAlgebra.ord O5)
          subst hds
          replace hE := hE.go hg5 (by omega)
          replace hgr := growB_trans hgr hg5
          replace B2 := B2.grownG hg5 (by omega)
          obtain ⟨wf, HWF⟩ : ∃ wb, Hid (wb = (w8.setCell ⟨r, 0, none⟩ (.int .i64 x.1)).setCell ⟨r, 1, none⟩ (.slice AX mX cX)) := ⟨_, Lib.hid rfl⟩
          have hrn : r ∉ bl := fun hh => by have := (I5.2 _ hh).1; omega
          have HFIN : Blk wf r 27 #[.int .i64 x.1, .slice AX mX cX] ∧ NofD w (.returned (.tuple #[.slice (some ⟨q, 0, none⟩) xs.length cq, .agg #[.int .i64 x.1, .slice AX mX cX]])) wf := by
            rw [HWF.out]
            refine ⟨by simpa using (B2.set_ 0 (.int .i64 x.1)).set_ 1 (.slice AX mX cX), _, xs, _, x, rfl, ((hE.low (p := ⟨r, 0, none⟩) (show r < _ by omega) _).low (p := ⟨r, 1, none⟩) (show r < _ by omega) _).r hxl HQ.out, shAlgebra.ord (Sh.oset' (p := ⟨r, 1, none⟩) (Sh.oset' (p := ⟨r, 0, none⟩) O5 hrn _) hrn _), hAQ, ?_⟩
            rw [HR.out]
            exact ((hT1'.grown hgr (by omega) (fun k e => by injection e with e; omega)).setCell (p := ⟨r, 0, none⟩) (Nat.le_refl _) _).setCell (p := ⟨r, 1, none⟩) (Nat.le_refl _) _
          have HFI := Lib.hid HFIN
          have cR0 := B2.cell 0
          have cR1 := B2.cell 1
          simp at cR0 cR1
          have fR0 := B2.frozen 0
          have fR1 := B2.frozen 1
          clear HAL hE hgr B2 O5 I5 hc5 hg5 HFIN
          go_wp2_with fail
          rw [← HWF.out]
          (try simp only [Exit.inBlock, Exit.then])
          refine bodyPost_ret (v := .tuple #[.slice (some ⟨q, 0, none⟩) xs.length cq, .agg #[.int .i64 x.1, .slice AX mX cX]]) (res_t_row rfl _ _ r 27 #[.int .i64 x.1, .slice AX mX cX] (0, 0) _ _ (by simp) (by simp) HFI.out.1 Try.underlying27 rfl (by kernel_rfl)) rfl ?_
          exact HFI.out.2
        · have hax : AlgP ((n9 : Int), yo) := alg_iff.1 HGB.out
          have hpm : PermL n9 L := tt_iff.1 HPB.out
          have HRN : Hid (Calls Try.prog 62 #[.agg #[.int .i64 (n9 : Int), .slice Ay ny cy], .slice N p cN] w9 (AlgE w9 (ren ((n9 : Int), yo) L))) := l2Rename8_any [.int .i64 (n9 : Int), .slice Ay ny cy] ((n9 : Int), yo) N p cN L w9 HF9.out.self hrdN hax (by simpa using hpm)
          have HRA := Lib.hid (ren_alg (x := ((n9 : Int), yo)) (s := L) (by simpa using hpm) hax)
          have hn8 : n9 ≤ 8 := by have h1 : (n9 : Int) ≤ 8 := hax.2.1; omega
          clear hpm hax
          go_wp2_with fail
          refine HRN.out.mono ?_
          rintro e w10 ⟨v8, cs8, bl8, rfl, PX, hb10⟩
          replace hE := hE.next hb10
          replace hgr := growB_trans hgr (toGr (r := some g) hb10)
          replace B2 := B2.next hb10
          have hz10 := hb10.size
          obtain ⟨AX, cX, rfl⟩ := own_slice PX.2.1
          obtain ⟨x, HX⟩ : ∃ x, Hid (ren ((n9 : Int), yo) L = x) := ⟨_, Lib.hid rfl⟩
          have hx1' : x.1 = (n9 : Int) := by rw [← HX.out]; rfl
          have HXR : Hid (InR x.1) := by rw [hx1']; exact ⟨by omega, by omega⟩
          rw [HX.out] at PX HRA ⊢
          have O5 := PX.algK (a := x.1) HXR.out
          have I5 := PX.2.2
          obtain ⟨mX, HMX⟩ : ∃ m, Hid (x.2.length = m) := ⟨_, Lib.hid rfl⟩
          rw [HMX.out] at O5 I5 ⊢
          have hrn : r ∉ obl (Value.slice AX mX cX) ++ bl8.flatten := fun hh => by have := (I5.2 _ hh).1; omega
          obtain ⟨wf, HWF⟩ : ∃ wb, Hid (wb = (w10.setCell ⟨r, 0, none⟩ (.int .i64 x.1)).setCell ⟨r, 1, none⟩ (.slice AX mX cX)) := ⟨_, Lib.hid rfl⟩
          have HFIN : Blk wf r 27 #[.int .i64 x.1, .slice AX mX cX] ∧ NofD w (.returned (.tuple #[.slice (some ⟨q, 0, none⟩) xs.length cq, .agg #[.int .i64 x.1, .slice AX mX cX]])) wf := by
            rw [HWF.out]
            refine ⟨by simpa using (B2.set_ 0 (.int .i64 x.1)).set_ 1 (.slice AX mX cX), _, xs, _, x, rfl, ((hE.low (p := ⟨r, 0, none⟩) (show r < _ by omega) _).low (p := ⟨r, 1, none⟩) (show r < _ by omega) _).r hxl HQ.out, shAlgebra.ord (Sh.oset' (p := ⟨r, 1, none⟩) (Sh.oset' (p := ⟨r, 0, none⟩) O5 hrn _) hrn _), algP_q HRA.out, ?_⟩
            rw [HR.out]
            exact ((hT1'.grown hgr (by omega) (fun k e => by injection e with e; omega)).setCell (p := ⟨r, 0, none⟩) (Nat.le_refl _) _).setCell (p := ⟨r, 1, none⟩) (Nat.le_refl _) _
          have HFI := Lib.hid HFIN
          have cR0 := B2.cell 0
          have cR1 := B2.cell 1
          simp at cR0 cR1
          have fR0 := B2.frozen 0
          have fR1 := B2.frozen 1
          clear HRN hE hgr B2 BX O5 I5 hc PX HFIN hx1' cX0 cX1 hb10 hrdN
          go_wp2_with fail
          rw [← HWF.out]
          (try simp only [Exit.inBlock, Exit.then])
          refine bodyPost_ret (v := .tuple #[.slice (some ⟨q, 0, none⟩) xs.length cq, .agg #[.int .i64 x.1, .slice AX mX cX]]) (res_t_row rfl _ _ r 27 #[.int .i64 x.1, .slice AX mX cX] (0, 0) _ _ (by simp) (by simp) HFI.out.1 Try.underlying27 rfl (by kernel_rfl)) rfl ?_
          exact HFI.out.2
end Go.Proofs.Ytkmgbdljiajlaaa
namespace Go.Proofs.Ytkmgbdljiajlaaa
open Go.RowKit

theorem lex_tr : ∀ {xs ys zs : List Int}, lexL xs ys < 0 → lexL ys zs < 0 → lexL xs zs < 0
  | [], [], _, h, _ => by simp [lexL] at h
  | [], _ :: _, [], _, h => by simp [lexL] at h
  | [], _ :: _, _ :: _, _, _ => by simp [lexL]
  | _ :: _, [], _, h, _ => by simp [lexL] at h
  | _ :: _, _ :: _, [], _, h => by simp [lexL] at h
  | x :: l, y :: m, z :: n, h1, h2 => by
    rw [lexL] at h1 h2 ⊢
    split at h1
    · rename_i e1
      have e1 := eq_of_beq e1
      subst e1
      split at h2
      · rename_i e2
        rw [if_pos e2]
        exact lex_tr h1 h2
      · rename_i e2
        rw [if_neg e2]
        split at h2
        · rename_i e3
          rw [if_pos e3]; omega
        · omega
    · rename_i e1
      split at h1
      · rename_i e3
        split at h2
        · rename_i e2
          have e2 := eq_of_beq e2
          subst e2
          rw [if_neg e1, if_pos e3]; omega
        · split at h2
          · rename_i e4
            have e5 : ¬ (x == z) = true := fun e => by have := eq_of_beq e; omega
            rw [if_neg e5, if_pos (by omega)]; omega
          · omega
      · omega
theorem lex_anti : ∀ (xs ys : List Int), lexL xs ys = - lexL ys xs
  | [], [] => by simp [lexL]
  | [], _ :: _ => by simp [lexL]
  | _ :: _, [] => by simp [lexL]
  | x :: l, y :: m => by
    rw [lexL, lexL]
    by_cases h : x = y
    · subst h
      simp
      exact lex_anti l m
    · have h1 : (x == y) = false := beq_eq_false_iff_ne.2 h
      have h2 : (y == x) = false := beq_eq_false_iff_ne.2 (fun e => h e.symm)
      rw [h1, h2]
      simp only [Bool.false_eq_true, if_false]
      by_cases h3 : x < y
      · rw [if_pos h3, if_neg (by omega)]
      · rw [if_neg h3, if_pos (by omega)]
        omega
theorem bef_iff {x y : AlgebraM} : befB x y = true ↔ x.1 < y.1 ∨ (x.1 = y.1 ∧ (lexL (tyL x.2) (tyL y.2) < 0 ∨ (tyL x.2 = tyL y.2 ∧ lexL (codeL x.2) (codeL y.2) < 0))) := by
  unfold befB
  by_cases h1 : x.1 = y.1
  · rw [if_pos (by simp [h1])]
    by_cases h2 : tyL x.2 = tyL y.2
    · have e : lexL (tyL x.2) (tyL y.2) = 0 := lexL_zero.2 h2
      rw [if_pos (by simp [e]), decide_eq_true_eq]
      constructor
      · intro h; exact .inr ⟨h1, .inr ⟨h2, h⟩⟩
      · rintro (h | ⟨-, h | ⟨-, h⟩⟩)
        · omega
        · omega
        · exact h
    · have e : ¬ lexL (tyL x.2) (tyL y.2) = 0 := fun e => h2 (lexL_zero.1 e)
      rw [if_neg (by simp [e]), decide_eq_true_eq]
      constructor
      · intro h; exact .inr ⟨h1, .inl h⟩
      · rintro (h | ⟨-, h | ⟨h, -⟩⟩)
        · omega
        · exact h
        · exact absurd h h2
  · rw [if_neg (by simp [h1]), decide_eq_true_eq]
    constructor
    · intro h; exact .inl h
    · rintro (h | ⟨h, -⟩)
      · exact h
      · exact absurd h h1
theorem bef_tr {x y z : AlgebraM} (h1 : befB x y = true) (h2 : befB y z = true) : befB x z = true := by
  rw [bef_iff] at *
  rcases h1 with h1 | ⟨e1, h1⟩
  · rcases h2 with h2 | ⟨e2, -⟩
    · exact .inl (by omega)
    · exact .inl (by omega)
  · rcases h2 with h2 | ⟨e2, h2⟩
    · exact .inl (by omega)
    · refine .inr ⟨by omega, ?_⟩
      rcases h1 with h1 | ⟨t1, h1⟩
      · rcases h2 with h2 | ⟨t2, -⟩
        · exact .inl (lex_tr h1 h2)
        · exact .inl (by rw [← t2]; exact h1)
      · rcases h2 with h2 | ⟨t2, h2⟩
        · exact .inl (by rw [t1]; exact h2)
        · exact .inr ⟨by rw [t1, t2], lex_tr h1 h2⟩
theorem bef_total {x y : AlgebraM} (hx : SmallP x) (hy : SmallP y) (h : befB x y = false) (hne : x ≠ y) : befB y x = true := by
  have h0 : ¬ cmpI x y = 0 := fun e => hne ((cmpI_zero hx hy).1 e)
  rw [befB_cmp] at h ⊢
  have h1 := of_decide_eq_false h
  refine decide_eq_true ?_
  unfold cmpI at *
  by_cases e1 : x.1 = y.1
  · rw [if_pos (by simp [e1])] at h0 h1
    rw [if_pos (by simp [e1]), lex_anti (tyL y.2), lex_anti (codeL y.2)]
    by_cases e2 : lexL (tyL x.2) (tyL y.2) = 0
    · rw [if_pos (by simp [e2])] at h0 h1
      rw [if_pos (by simp [e2])]
      omega
    · rw [if_neg (by simp [e2])] at h0 h1
      rw [if_neg (by simp [e2])]
      omega
  · rw [if_neg (by simp [e1])] at h0 h1
    rw [if_neg (by simp; omega)]
    omega

/-! ## A catalogue in one line -/
def Fine (e : EntryM) : Prop := nameB e.1 = true ∧ SmallP e.2 ∧ canA e.2 = e.2
def PwB (xs : List EntryM) : Prop := xs.Pairwise fun a b => befB a.2 b.2 = true
theorem catF_iff : ∀ {xs pre : List EntryM}, catF pre xs = true ↔ (∀ e ∈ xs, Fine e) ∧ (∀ e ∈ xs, e.1 ∉ pre.map (·.1)) ∧ (xs.map (·.1)).Nodup ∧ PwB xs ∧ ∀ p, pre.getLast? = some p → ∀ e ∈ xs, befB p.2 e.2 = true
  | [], pre => by simp [catF, PwB]
  | e :: l, pre => by
    have ok : okE pre e = true ↔ Fine e ∧ e.1 ∉ pre.map (·.1) ∧ ∀ p, pre.getLast? = some p → befB p.2 e.2 = true := by
      unfold okE Fine lastB
      simp only [Bool.and_eq_true, Bool.not_eq_true']
      have hs : hasS e.1 (pre.map (·.1)) = false ↔ e.1 ∉ pre.map (·.1) := by
        rw [← Bool.not_eq_true, hasS_iff]
      rw [hs, small_iff, eqC_iff]
      cases hp : pre.getLast? with
      | none => simp; grind
      | some p => simp; grind
    rw [catF, Bool.and_eq_true, ok, catF_iff]
    unfold PwB
    simp only [List.map_append, List.mem_append, List.map_cons, List.map_nil, List.getLast?_append, List.getLast?_singleton, Option.some_or, Option.some.injEq, List.mem_cons, List.nodup_cons, List.pairwise_cons, forall_eq', forall_eq_or_imp]
    constructor
    · rintro ⟨⟨f1, f2, f3⟩, g1, g2, g3, g4, g5⟩
      refine ⟨⟨f1, g1⟩, ⟨f2, fun a ha => fun h => g2 a ha (.inl h)⟩, ⟨fun h => ?_, g3⟩, ⟨g5, g4⟩, fun p hp => ⟨f3 p hp, fun a ha => bef_tr (f3 p hp) (g5 a ha)⟩⟩
      obtain ⟨a, ha, e1⟩ := List.mem_map.1 h
      exact g2 a ha (.inr (.inl e1))
    · rintro ⟨⟨f1, g1⟩, ⟨f2, g2⟩, ⟨h1, g3⟩, ⟨g5, g4⟩, g6⟩
      refine ⟨⟨f1, f2, fun p hp => (g6 p hp).1⟩, g1, fun a ha h => ?_, g3, g4, g5⟩
      rcases h with h | h
      · exact g2 a ha h
      · rcases h with h | h
        · exact h1 (List.mem_map.2 ⟨a, ha, h⟩)
        · simp at h
theorem cat_iff {xs : List EntryM} : catB xs = true ↔ xs.length ≤ 12 ∧ (∀ e ∈ xs, Fine e) ∧ (xs.map (·.1)).Nodup ∧ PwB xs := by
  unfold catB
  rw [Bool.and_eq_true, decide_eq_true_eq, catF_iff]
  simp
theorem pos_take {y : AlgebraM} : ∀ {xs : List EntryM}, ∀ x ∈ xs.take (posL y xs), befB x.2 y = true
  | [], x, hx => by simp at hx
  | z :: l, x, hx => by
    rw [posL] at hx
    split at hx
    · rename_i h
      rw [List.take_succ_cons, List.mem_cons] at hx
      rcases hx with rfl | hx
      · exact h
      · exact pos_take x hx
    · simp at hx
theorem pos_drop {y : AlgebraM} : ∀ {xs : List EntryM} {x : EntryM} {l : List EntryM}, xs.drop (posL y xs) = x :: l → befB x.2 y = false
  | [], x, l, h => by simp at h
  | z :: m, x, l, h => by
    rw [posL] at h
    split at h
    · rw [List.drop_succ_cons] at h
      exact pos_drop h
    · rename_i h1
      rw [List.drop_zero] at h
      injection h with h2 _
      subst h2
      simpa using h1
theorem insM_perm (xs : List EntryM) (e : EntryM) : (insM xs e).Perm (e :: xs) := by
  unfold insM
  have h : xs.take (posL e.2 xs) ++ e :: xs.drop (posL e.2 xs) = xs.take (posL e.2 xs) ++ ([e] ++ xs.drop (posL e.2 xs)) := rfl
  rw [h]
  refine (List.perm_append_comm_assoc ..).trans ?_
  rw [List.take_append_drop]
  exact List.Perm.refl _
theorem ins_pw {xs : List EntryM} {e : EntryM} (h : PwB xs) (hs : ∀ x ∈ xs, SmallP x.2) (he : SmallP e.2) (hn : ∀ x ∈ xs, x.2 ≠ e.2) : PwB (insM xs e) := by
  unfold PwB insM at *
  have h0 := h
  rw [← List.take_append_drop (posL e.2 xs) xs, List.pairwise_append] at h0
  rw [List.pairwise_append, List.pairwise_cons]
  have hd : ∀ b ∈ xs.drop (posL e.2 xs), befB e.2 b.2 = true := by
    cases hq : xs.drop (posL e.2 xs) with
    | nil => intro b hb; simp at hb
    | cons x l =>
      have hx : x ∈ xs := List.mem_of_mem_drop (by rw [hq]; exact List.mem_cons_self ..)
      have h1 := bef_total (hs x hx) he (pos_drop hq) (hn x hx)
      have h2 := h0.2.1
      rw [hq, List.pairwise_cons] at h2
      intro b hb
      rcases List.mem_cons.1 hb with rfl | hb
      · exact h1
      · exact bef_tr h1 (h2.1 b hb)
  refine ⟨h0.1, ⟨hd, h0.2.1⟩, fun a ha b hb => ?_⟩
  rcases List.mem_cons.1 hb with rfl | hb
  · exact pos_take a ha
  · exact h0.2.2 a ha b hb
theorem ins_cat {xs : List EntryM} {e : EntryM} (h : catB xs = true) (he : Fine e) (hn : ∀ x ∈ xs, x.2 ≠ e.2) (hm : e.1 ∉ xs.map (·.1)) (hl : xs.length + 1 ≤ 12) : catB (insM xs e) = true := by
  obtain ⟨-, h2, h3, h4⟩ := cat_iff.1 h
  refine cat_iff.2 ⟨by rw [insM_len]; exact hl, fun x hx => ?_, ?_, ins_pw h4 (fun x hx => (h2 x hx).2.1) he.2.1 hn⟩
  · rcases insM_mem.1 hx with rfl | hx
    · exact he
    · exact h2 x hx
  · rw [((insM_perm xs e).map _).nodup_iff, List.map_cons, List.nodup_cons]
    exact ⟨hm, h3⟩
theorem dup_mem {xs : List EntryM} {e : EntryM} (h : dupB xs e = true) : ∃ x ∈ xs, x.2 = e.2 := by
  unfold dupB at h
  cases hx : xs[posL e.2 xs]? with
  | none => rw [hx] at h; cases h
  | some x => rw [hx] at h; exact ⟨x, List.mem_of_getElem? hx, eqC_iff.1 h⟩
theorem mem_dup {e : EntryM} (he : SmallP e.2) : ∀ {xs : List EntryM}, PwB xs → (∃ x ∈ xs, x.2 = e.2) → dupB xs e = true
  | [], _, h => by obtain ⟨x, hx, -⟩ := h; simp at hx
  | z :: l, hp, h => by
    unfold PwB at hp
    rw [List.pairwise_cons] at hp
    by_cases hz : z.2 = e.2
    · have hb := befB_self hz (by rw [hz]; exact he)
      unfold dupB
      rw [posL, if_neg (by rw [hb]; decide)]
      show eqC z.2 e.2 = true
      exact eqC_iff.2 hz
    · obtain ⟨x, hx, hxe⟩ := h
      have hxl : x ∈ l := by
        rcases List.mem_cons.1 hx with rfl | hx
        · exact absurd hxe hz
        · exact hx
      have hb : befB z.2 e.2 = true := by rw [← hxe]; exact hp.1 x hxl
      have ih := mem_dup he hp.2 ⟨x, hxl, hxe⟩
      unfold dupB at ih ⊢
      rw [posL, if_pos hb, List.getElem?_cons_succ]
      exact ih

/-! ## Merging -/
noncomputable def hasM (X : List EntryM) (m : AlgebraM) : Bool := X.any fun x => eqC x.2 m
theorem hasM_iff {X : List EntryM} {m : AlgebraM} : hasM X m = true ↔ ∃ x ∈ X, x.2 = m := by
  unfold hasM
  rw [List.any_eq_true]
  constructor
  · rintro ⟨x, hx, h⟩; exact ⟨x, hx, eqC_iff.1 h⟩
  · rintro ⟨x, hx, h⟩; exact ⟨x, hx, eqC_iff.2 h⟩
noncomputable def mgS (X : List EntryM) : List EntryM → List EntryM → List EntryM × Bool
  | [], out => (out, true)
  | y :: l, out => if hasM X y.2 then mgS X l out else if catB (insM out y) then mgS X l (insM out y) else ([], false)
noncomputable def wiM (xs : List EntryM) (e : EntryM) : List EntryM := if dupB xs e then xs else insM xs e
noncomputable def mgI : List EntryM → List EntryM → List EntryM
  | [], L => L
  | y :: l, L => mgI l (wiM L y)
def Bad (L : List EntryM) : Prop := 12 < L.length ∨ ¬ (L.map (·.1)).Nodup
theorem Bad.no {L : List EntryM} (h : Bad L) : catB L = false := by
  cases hc : catB L with
  | false => rfl
  | true =>
    obtain ⟨h1, -, h3, -⟩ := cat_iff.1 hc
    rcases h with h | h
    · omega
    · exact absurd h3 h
theorem Bad.wi {L : List EntryM} (h : Bad L) (e : EntryM) : Bad (wiM L e) := by
  unfold wiM
  split
  · exact h
  · rcases h with h | h
    · exact .inl (by rw [insM_len]; omega)
    · refine .inr fun hn => h ?_
      rw [((insM_perm L e).map _).nodup_iff, List.map_cons, List.nodup_cons] at hn
      exact hn.2
theorem Bad.mg : ∀ {l L : List EntryM}, Bad L → Bad (mgI l L)
  | [], _, h => h
  | y :: l, L, h => by rw [mgI]; exact Bad.mg (h.wi y)
theorem mg_eq {X : List EntryM} : ∀ {l out : List EntryM}, catB out = true → (∀ e ∈ l, Fine e) → PwB l → (∀ e ∈ l, (∃ o ∈ out, o.2 = e.2) ↔ hasM X e.2 = true) → mgS X l out = if catB (mgI l out) then (mgI l out, true) else ([], false)
  | [], out, h, _, _, _ => by rw [mgS, mgI, if_pos h]
  | e :: l, out, h, hf, hp, hm => by
    have hfe := hf e (List.mem_cons_self ..)
    have hp' := hp
    unfold PwB at hp'
    rw [List.pairwise_cons] at hp'
    obtain ⟨-, c2, c3, c4⟩ := cat_iff.1 h
    rw [mgS, mgI, wiM]
    cases hh : hasM X e.2 with
    | true =>
      have hd := mem_dup hfe.2.1 c4 ((hm e (List.mem_cons_self ..)).2 hh)
      rw [if_pos rfl, if_pos hd]
      exact mg_eq h (fun a ha => hf a (List.mem_cons_of_mem _ ha)) hp'.2 fun a ha => hm a (List.mem_cons_of_mem _ ha)
    | false =>
      have hn : ¬ ∃ o ∈ out, o.2 = e.2 := fun hx => by rw [hm e (List.mem_cons_self ..), hh] at hx; cases hx
      have hd : ¬ dupB out e = true := fun hd => hn (dup_mem hd)
      rw [if_neg (by decide), if_neg hd]
      cases hc : catB (insM out e) with
      | true =>
        rw [if_pos rfl]
        refine mg_eq hc (fun a ha => hf a (List.mem_cons_of_mem _ ha)) hp'.2 fun a ha => ?_
        rw [← hm a (List.mem_cons_of_mem _ ha)]
        constructor
        · rintro ⟨o, ho, e1⟩
          rcases insM_mem.1 ho with rfl | ho
          · have := hp'.1 a ha
            rw [befB_self e1 hfe.2.1] at this
            cases this
          · exact ⟨o, ho, e1⟩
        · rintro ⟨o, ho, e1⟩
          exact ⟨o, insM_mem.2 (.inr ho), e1⟩
      | false =>
        have hb : Bad (insM out e) := by
          rcases Nat.lt_or_ge 12 (insM out e).length with h1 | h1
          · exact .inl h1
          · refine .inr fun hnd => ?_
            rw [((insM_perm out e).map _).nodup_iff, List.map_cons, List.nodup_cons] at hnd
            rw [insM_len] at h1
            have := ins_cat h hfe (fun x hx e1 => hn ⟨x, hx, e1⟩) hnd.1 h1
            rw [hc] at this
            cases this
        rw [if_neg (by decide), (Bad.mg hb).no, if_neg (by decide)]
noncomputable def mgP (xs ys : List EntryM) : List EntryM × Bool := if catB xs && (catB ys && catB (mgI ys xs)) then (mgI ys xs, true) else ([], false)
theorem mg_no1 {xs ys : List EntryM} (h : catB xs = false) : mgP xs ys = ([], false) := by unfold mgP; rw [h]; rfl
theorem mg_no2 {xs ys : List EntryM} (h : catB ys = false) : mgP xs ys = ([], false) := by unfold mgP; rw [h, Bool.false_and, Bool.and_false]; rfl
theorem mg_no3 {xs ys : List EntryM} (h : catB (mgI ys xs) = false) : mgP xs ys = ([], false) := by unfold mgP; rw [h, Bool.and_false, Bool.and_false]; rfl
theorem mg_yes {xs ys : List EntryM} (h1 : catB xs = true) (h2 : catB ys = true) (h3 : catB (mgI ys xs) = true) : mgP xs ys = (mgI ys xs, true) := by unfold mgP; rw [h1, h2, h3]; rfl
theorem mg_spec {xs ys : List EntryM} (h1 : catB xs = true) (h2 : catB ys = true) : mgS xs ys xs = mgP xs ys := by
  obtain ⟨-, c2, -, c4⟩ := cat_iff.1 h2
  rw [mg_eq h1 c2 c4 fun e he => hasM_iff.symm]
  unfold mgP
  rw [h1, h2]
  rfl
end Go.Proofs.Ytkmgbdljiajlaaa
namespace Go.Proofs.Ytkmgbdljiajlaaa
open Go.RowKit

theorem pw_mem {xs : List EntryM} (h : PwB xs) (hs : ∀ x ∈ xs, SmallP x.2) : ∀ {a b : EntryM}, a ∈ xs → b ∈ xs → a.2 = b.2 → a = b := by
  induction xs with
  | nil => intro a b ha; cases ha
  | cons x l ih =>
    unfold PwB at h
    rw [List.pairwise_cons] at h
    intro a b ha hb e
    rcases List.mem_cons.1 ha with rfl | ha' <;> rcases List.mem_cons.1 hb with rfl | hb'
    · rfl
    · have := h.1 b hb'
      rw [befB_self e (hs _ (List.mem_cons_self ..))] at this
      cases this
    · have := h.1 a ha'
      rw [befB_self e.symm (hs _ (List.mem_cons_self ..))] at this
      cases this
    · exact ih h.2 (fun y hy => hs y (List.mem_cons_of_mem _ hy)) ha' hb' e
theorem find_in {y : AlgebraM} : ∀ {xs : List EntryM}, (∃ e ∈ xs, e.2 = y) → ∃ e ∈ xs, e.2 = y ∧ findN y xs = (e.1, true)
  | [], h => by obtain ⟨e, he, -⟩ := h; cases he
  | x :: l, h => by
    rw [findN]
    cases hx : eqC x.2 y with
    | true => exact ⟨x, List.mem_cons_self .., eqC_iff.1 hx, if_pos rfl⟩
    | false =>
      obtain ⟨e, he, e1⟩ := h
      rcases List.mem_cons.1 he with rfl | he
      · rw [eqC_iff.2 e1] at hx; cases hx
      · obtain ⟨f, hf, e2, e3⟩ := find_in ⟨e, he, e1⟩
        exact ⟨f, List.mem_cons_of_mem _ hf, e2, by rw [if_neg (by decide)]; exact e3⟩
theorem find_eq {xs : List EntryM} {e : EntryM} (h : catB xs = true) (he : e ∈ xs) : findN e.2 xs = (e.1, true) := by
  obtain ⟨-, c2, -, c4⟩ := cat_iff.1 h
  obtain ⟨f, hf, e1, e2⟩ := find_in (y := e.2) ⟨e, he, rfl⟩
  rw [pw_mem c4 (fun x hx => (c2 x hx).2.1) hf he e1] at e2
  exact e2
theorem dup_old {xs : List EntryM} {e : EntryM} (h : catB xs = true) (he : e ∈ xs) : dupB xs e = true := by
  obtain ⟨-, c2, -, c4⟩ := cat_iff.1 h
  exact mem_dup (c2 e he).2.1 c4 ⟨e, he, rfl⟩
theorem mg_old {xs : List EntryM} (h : catB xs = true) : ∀ {l : List EntryM}, (∀ e ∈ l, e ∈ xs) → mgI l xs = xs
  | [], _ => rfl
  | e :: l, hl => by
    rw [mgI, wiM, if_pos (dup_old h (hl e (List.mem_cons_self ..)))]
    exact mg_old h fun a ha => hl a (List.mem_cons_of_mem _ ha)
theorem mg_one {xs : List EntryM} {e : EntryM} (h : catB xs = true) (h2 : catB (insM xs e) = true) (hd : dupB xs e = false) : ∀ {l : List EntryM}, (∀ a ∈ l, a = e ∨ a ∈ xs) → e ∈ l → mgI l xs = insM xs e
  | [], _, he => by cases he
  | a :: l, hl, he => by
    rw [mgI, wiM]
    by_cases hae : a = e
    · subst hae
      rw [if_neg (by rw [hd]; decide)]
      exact mg_old h2 fun b hb => insM_mem.2 (hl b (List.mem_cons_of_mem _ hb))
    · have ha : a ∈ xs := (hl a (List.mem_cons_self ..)).resolve_left hae
      rw [if_pos (dup_old h ha)]
      exact mg_one h h2 hd (fun b hb => hl b (List.mem_cons_of_mem _ hb)) ((List.mem_cons.1 he).resolve_left fun e1 => hae e1.symm)
/-- What adding an entry brings, when it is possible. -/
theorem ad_law {xs : List EntryM} {s : ByteArray} {a : AlgebraM} (h : (adP xs s a).2 = true) :
    catB (adP xs s a).1 = true ∧ (adP xs s a).1.length = xs.length + 1 ∧ noP (adP xs s a).1 a = (s, true) ∧ rmP (adP xs s a).1 s = (xs, true) ∧ (mgP xs (adP xs s a).1).2 = true ∧ (mgP xs (adP xs s a).1).1.length = (adP xs s a).1.length ∧
      (mgP (adP xs s a).1 (adP xs s a).1).2 = true ∧ (mgP (adP xs s a).1 (adP xs s a).1).1.length = (adP xs s a).1.length := by
  cases h1 : catB xs with
  | false => rw [ad_no1 h1] at h; cases h
  | true =>
  cases h2 : nameB s with
  | false => rw [ad_no2 h2] at h; cases h
  | true =>
  cases h3 : smallB a with
  | false => rw [ad_no3 h3] at h; cases h
  | true =>
  cases h4 : catB (insM xs (s, canA a)) with
  | false => rw [ad_no4 h4] at h; cases h
  | true =>
  rw [ad_yes h1 h2 h3 h4]
  have hd : dupB xs (s, canA a) = false := by
    cases hd : dupB xs (s, canA a) with
    | false => rfl
    | true =>
      have := dup_cat hd (canA_small (small_iff.1 h3))
      rw [h4] at this
      cases this
  have hm1 := mg_one h1 h4 hd (l := insM xs (s, canA a)) (fun b hb => insM_mem.1 hb) (insM_mem.2 (.inl rfl))
  have hm2 := mg_old h4 (l := insM xs (s, canA a)) fun b hb => hb
  refine ⟨h4, insM_len _ _, ?_, ?_, ?_, ?_, ?_, ?_⟩
  · unfold noP
    rw [h4, h3]
    exact find_eq h4 (insM_mem.2 (.inl rfl))
  · unfold rmP
    have hs : hasS s ((insM xs (s, canA a)).map (·.1)) = true := hasS_iff.2 (List.mem_map.2 ⟨(s, canA a), insM_mem.2 (.inl rfl), rfl⟩)
    rw [h4, hs]
    show (rmL s (insM xs (s, canA a)), true) = (xs, true)
    obtain ⟨-, -, c3, -⟩ := cat_iff.1 h4
    rw [((insM_perm xs (s, canA a)).map _).nodup_iff, List.map_cons, List.nodup_cons] at c3
    have keep : ∀ l : List EntryM, (∀ e ∈ l, e ∈ xs) → rmL s l = l := fun l hl => by
      unfold rmL
      rw [List.filter_eq_self]
      intro e he
      have : ¬ e.1 = s := fun e1 => c3.1 (List.mem_map.2 ⟨e, hl e he, e1⟩)
      rw [eqC_no.2 this]
      rfl
    have e1 : rmL s (insM xs (s, canA a)) = xs.take (posL (canA a) xs) ++ xs.drop (posL (canA a) xs) := by
      have hk1 := keep (xs.take (posL (canA a) xs)) fun e he => List.mem_of_mem_take he
      have hk2 := keep (xs.drop (posL (canA a) xs)) fun e he => List.mem_of_mem_drop he
      unfold rmL at hk1 hk2 ⊢
      unfold insM
      rw [List.filter_append, hk1, List.filter_cons, if_neg (by rw [eqC_self]; decide), hk2]
    rw [e1, List.take_append_drop]
  · rw [mg_yes h1 h4 (by rw [hm1]; exact h4)]
  · rw [mg_yes h1 h4 (by rw [hm1]; exact h4), hm1]
  · rw [mg_yes h4 h4 (by rw [hm2]; exact h4)]
  · rw [mg_yes h4 h4 (by rw [hm2]; exact h4), hm2]
theorem wi_keeps {L : List EntryM} {e x : EntryM} (h : x ∈ L) : x ∈ wiM L e := by
  unfold wiM
  split
  · exact h
  · exact insM_mem.2 (.inr h)
theorem mg_keeps : ∀ {l L : List EntryM} {x : EntryM}, x ∈ L → x ∈ mgI l L
  | [], _, _, h => h
  | e :: l, L, x, h => by rw [mgI]; exact mg_keeps (wi_keeps h)
theorem mg_has : ∀ {l L : List EntryM} {x : EntryM}, x ∈ l → ∃ y ∈ mgI l L, y.2 = x.2
  | [], _, _, h => by cases h
  | e :: l, L, x, h => by
    rw [mgI]
    rcases List.mem_cons.1 h with rfl | h
    · cases hd : dupB L x with
      | true =>
        obtain ⟨y, hy, e1⟩ := dup_mem hd
        exact ⟨y, mg_keeps (wi_keeps hy), e1⟩
      | false => exact ⟨x, mg_keeps (by unfold wiM; rw [hd, if_neg (by decide)]; exact insM_mem.2 (.inl rfl)), rfl⟩
    · exact mg_has h
/-- Each entry of the second catalogue is found in the merged one. -/
theorem mg_law {xs ys : List EntryM} (h : (mgP xs ys).2 = true) {y : EntryM} (hy : y ∈ ys) : (noP (mgP xs ys).1 y.2).2 = true := by
  cases h1 : catB xs with
  | false => rw [mg_no1 h1] at h; cases h
  | true =>
  cases h2 : catB ys with
  | false => rw [mg_no2 h2] at h; cases h
  | true =>
  cases h3 : catB (mgI ys xs) with
  | false => rw [mg_no3 h3] at h; cases h
  | true =>
  rw [mg_yes h1 h2 h3]
  obtain ⟨-, c2, -, -⟩ := cat_iff.1 h2
  have hf := c2 y hy
  unfold noP
  rw [h3, small_iff.2 hf.2.1]
  show (findN (canA y.2) (mgI ys xs)).2 = true
  rw [hf.2.2]
  obtain ⟨f, -, -, e2⟩ := find_in (mg_has (L := xs) hy)
  rw [e2]
end Go.Proofs.Ytkmgbdljiajlaaa
namespace Go.Proofs.Ytkmgbdljiajlaaa
open Go.RowKit

set_option maxHeartbeats 400000 in
theorem rInts_any (A B : Option Addr) (n m c d : Nat) (xs ys : List Int) (w : World) (h : RdL RI w A n xs) (h' : RdL RI w B m ys) :
    Calls Try.prog 71 #[.slice A n c, .slice B m d] w (Qt w (.bool (eqL xs ys))) := by
  have hle := h.le
  have hle' := h'.le
  by_cases hnm : n = m
  · subst hnm
    go_enter Try.func71, Try.ntmps71
    go_wp2
    go_loopw [5] (fun i wr => ∃ k : Nat, k ≤ n ∧ i = .int .i64 k ∧ At2 eqL xs ys k ∧ Drawn w wr) (fun i _ => n - (intOf i).toNat)
    case atStart => exact ⟨0, Nat.zero_le _, rfl, rfl, Drawn.zero _⟩
    case round =>
      obtain ⟨k, hk, rfl, H, z, rfl⟩ := hrel
      by_cases hlt : k < n
      · obtain ⟨b, o, v, x, rfl, hc, ⟨rfl, -⟩, hd, -⟩ := h.at hlt
        obtain ⟨b', o', v', y, rfl, hc', ⟨rfl, -⟩, hd', -⟩ := h'.at hlt
        have H1 := Lib.hid hd
        have H2 := Lib.hid hd'
        clear hd hd'
        go_wp2
        go_quiet (fail)
        go_wp2
        all_goals first
          | (go_ret
             exact ⟨ret_bool (H.stop H1.out H2.out (by rw [eqL, show (x == y) = false from (by first | assumption | exact bf1 (by assumption) | exact bf2 (by assumption) | exact nef (by assumption) | exact nefc (by assumption) | exact eqc (by assumption))]; rfl)), (by first | exact Drawn.zero _ | exact Drawn.at_ _ _ | exact (Drawn.at_ _ _).more _ | exact ((Drawn.at_ _ _).more _).more _)⟩)
          | (go_roundw
             case rel => exact ⟨k + 1, by omega, by go_num, H.step H1.out H2.out (by rw [eqL, show (x == y) = true from (by first | assumption | exact bt2 (by assumption) | exact net (by assumption) | exact netc (by assumption) | exact eqc (by assumption))]; rfl), (by first | exact Drawn.zero _ | exact Drawn.at_ _ _ | exact (Drawn.at_ _ _).more _ | exact ((Drawn.at_ _ _).more _).more _)⟩
             case measure => simp [intOf]; omega)
      · go_wp2
        go_ret
        exact ⟨ret_bool (H.done (h.drop_end hlt) (h'.drop_end hlt) rfl), (by first | exact Drawn.zero _ | exact Drawn.at_ _ _ | exact (Drawn.at_ _ _).more _ | exact ((Drawn.at_ _ _).more _).more _)⟩
  · have hne : ((n : Int) != (m : Int)) = true := by rw [bne_iff_ne]; omega
    go_enter Try.func71, Try.ntmps71
    go_wp2
    go_ret
    exact ⟨ret_bool (eqL_len (by rw [h.len, h'.len]; omega)), (by first | exact Drawn.zero _ | exact Drawn.at_ _ _ | exact (Drawn.at_ _ _).more _ | exact ((Drawn.at_ _ _).more _).more _)⟩

end Go.Proofs.Ytkmgbdljiajlaaa
namespace Go.Proofs.Ytkmgbdljiajlaaa
open Go.RowKit
set_option linter.unusedVariables false
set_option linter.unusedSimpArgs false

set_option maxHeartbeats 2000000 in
theorem rOp_any (cs ds : List Value) (x y : OpM) (w : World) (h : shOp.rd w cs x) (h' : shOp.rd w ds y) :
    Calls Try.prog 91 #[.agg cs.toArray, .agg ds.toArray] w (Bl w (.bool (eqC x y))) := by
  obtain ⟨A, n, c, rfl, -, q⟩ := rdOp h
  obtain ⟨A', n', c', rfl, -, q'⟩ := rdOp h'
  obtain ⟨w0, hw0, T0, hsz0, BP, BQ⟩ := boxes2 w #[.int .i64 x.1, .slice A n c] #[.int .i64 y.1, .slice A' n' c'] 92 92
  replace q := q.next stab_RI T0
  replace q' := q'.next stab_RI T0
  have HD : Hid (eqC x y = (eqC x.1 y.1 && eqL x.2 y.2)) := by show _ = _; rw [eqL_dec]; exact dec_pair ..
  have HW0 := Lib.hid hw0
  have cP0 := BP.cell 0
  have cP1 := BP.cell 1
  have cQ0 := BQ.cell 0
  have cQ1 := BQ.cell 1
  simp at cP0 cP1 cQ0 cQ1
  have HC := Lib.hid (bl_of_quiet (rInts_any A A' n n' c c' x.2 y.2 w0 q q'))
  clear hw0 hsz0
  go_enter Try.func91, Try.ntmps91
  go_upto_region 1 with fail
  rw [← HW0.out]
  rcases hd0 : eqC x.1 y.1 with _ | _
  · have ht : (x.1 == y.1) = false := by have := eqC_no.1 hd0; simpa using this
    have HH := Lib.hid hd0
    clear hd0
    go_wp2_with fail
    go_ret
    exact ⟨ret_bool (by rw [HD.out, HH.out]; rfl), T0⟩
  · have ht : (x.1 == y.1) = true := by have := eqC_iff.1 hd0; simpa using this
    have HH := Lib.hid hd0
    clear hd0
    go_wp2_with fail
    refine HC.out.mono ?_
    rintro e w1 ⟨rfl, hb1⟩
    go_wp2_with fail
    go_ret
    exact ⟨ret_bool (by rw [HD.out, HH.out]; simp), below_next T0 hb1 rfl⟩
set_option maxRecDepth 20000 in
set_option maxHeartbeats 8000000 in
theorem rOps_any (A B : Option Addr) (n m c d : Nat) (xs ys : List OpM) (w : World) (h : RdN shOp.m shOp.rd w A n xs) (h' : RdN shOp.m shOp.rd w B m ys) :
    Calls Try.prog 52 #[.slice A n c, .slice B m d] w (Bl w (.bool (eqC xs ys))) := by
  have hle := h.le
  have hle' := h'.le
  by_cases hnm : n = m
  · subst hnm
    go_enter Try.func52, Try.ntmps52
    go_wp2
    go_loopw [5] (fun i wr => ∃ k : Nat, k ≤ n ∧ i = .int .i64 k ∧ EqdAt xs ys k ∧ Below w.heap.size w wr) (fun i _ => n - (intOf i).toNat)
    case atStart => exact ⟨0, Nat.zero_le _, rfl, EqdAt.start _ _, Below.refl _ _⟩
    case round =>
      obtain ⟨k, hk, rfl, H, hT⟩ := hrel
      replace h := h.next hT
      replace h' := h'.next hT
      by_cases hlt : k < n
      · obtain ⟨b, o, vs, x, rfl, -, hc, hr, hd, -⟩ := h.at hlt
        obtain ⟨b', o', vs', y, rfl, -, hc', hr', hd', -⟩ := h'.at hlt
        obtain ⟨ATable, nTable, cTable, rfl, qArity, qTable⟩ := rdOp hr
        obtain ⟨AyTable, nyTable, cyTable, rfl, qyArity, qyTable⟩ := rdOp hr'
        have cc0 : wr.cell? ⟨b, o + k * 2, none⟩ = some (.int .i64 x.1) := hc 0 _ rfl
        have dd0 : wr.cell? ⟨b', o' + k * 2, none⟩ = some (.int .i64 y.1) := hc' 0 _ rfl
        have cc1 : wr.cell? ⟨b, o + k * 2 + 1, none⟩ = some (.slice ATable nTable cTable) := hc 1 _ rfl
        have dd1 : wr.cell? ⟨b', o' + k * 2 + 1, none⟩ = some (.slice AyTable nyTable cyTable) := hc' 1 _ rfl
        clear hc hc'
        have H1 := Lib.hid hd
        have H2 := Lib.hid hd'
        clear hd hd'
        have hk0 : (0 : Int) ≤ (k : Int) := by omega
        have hk1 : (k : Int) < (n : Int) := by omega
        obtain ⟨e0, HE⟩ : ∃ e0, Hid (eqC x y = e0) := ⟨_, rfl⟩
        have Tk : Below wr.heap.size wr wr := Below.refl _ _
        go_upto_region 6 with fail
        go_cut [26] (fun v wx => v = .bool (!e0) ∧ Below wr.heap.size wr wx)
        case first =>
          go_region_held3 (fun w' => w'.cell? ⟨b, o + k * 2, none⟩ = some (.int .i64 x.1) ∧ w'.cell? ⟨b', o' + k * 2, none⟩ = some (.int .i64 y.1) ∧ w'.cell? ⟨b, o + k * 2 + 1, none⟩ = some (.slice ATable nTable cTable) ∧ w'.cell? ⟨b', o' + k * 2 + 1, none⟩ = some (.slice AyTable nyTable cyTable)) (first | go_keep | exact ⟨keepc Tk cc0, keepc Tk dd0, keepc Tk cc1, keepc Tk dd1⟩) ((go_at_call 91; refine (rOp_any [.int .i64 x.1, .slice ATable nTable cTable] [.int .i64 y.1, .slice AyTable nyTable cyTable] x y _ (shOp.stab hr (by first | exact Tk.block | exact (Below.drew Tk).block)) (shOp.stab hr' (by first | exact Tk.block | exact (Below.drew Tk).block))).mono ?_; rintro e wn ⟨rfl, hbn⟩; replace Tk := below_next (by first | exact Tk | exact Below.drew Tk) hbn rfl; rw [HE.out]))
          all_goals (go_wp2_with fail; go_meet; exact ⟨rfl, Tk⟩)
        case rest =>
          obtain ⟨rfl, hb4⟩ := hcut
          have hT4 := below_next hT hb4 rfl
          clear hb4 Tk cc0 dd0 cc1 dd1
          rcases e0 with _ | _
          · go_wp2_with fail
            go_ret
            exact ⟨ret_bool (H.stop H1.out H2.out HE.out), hT4⟩
          · go_wp2_with fail
            go_roundw
            case rel => exact ⟨k + 1, by omega, by go_num, H.step H1.out H2.out HE.out, hT4⟩
            case measure => simp [intOf]; omega
      · have hlt' : ¬ (k : Int) < (n : Int) := by omega
        go_wp2_with fail
        go_ret
        exact ⟨ret_bool (H.done (h.drop_end hlt) (h'.drop_end hlt)), hT⟩
  · have hne : ((n : Int) != (m : Int)) = true := by rw [bne_iff_ne]; omega
    have HL := Lib.hid (eqd_len h.len h'.len hnm)
    go_enter Try.func52, Try.ntmps52
    go_wp2_with fail
    go_ret
    exact ⟨ret_bool HL.out, Below.refl _ _⟩
set_option maxHeartbeats 4000000 in
theorem rAlgebra_any (cs ds : List Value) (x y : AlgebraM) (w : World) (h : shAlgebra.rd w cs x) (h' : shAlgebra.rd w ds y) :
    Calls Try.prog 9 #[.agg cs.toArray, .agg ds.toArray] w (Bl w (.bool (eqC x y))) := by
  obtain ⟨A, n, c, rfl, -, q⟩ := rdAlgebra h
  obtain ⟨A', n', c', rfl, -, q'⟩ := rdAlgebra h'
  obtain ⟨w0, hw0, T0, hsz0, BP, BQ⟩ := boxes2 w #[.int .i64 x.1, .slice A n c] #[.int .i64 y.1, .slice A' n' c'] 27 27
  replace q := q.next T0
  replace q' := q'.next T0
  have HD : Hid (eqC x y = (eqC x.1 y.1 && eqC x.2 y.2)) := by show _ = _; exact dec_pair ..
  have HW0 := Lib.hid hw0
  have cP0 := BP.cell 0
  have cP1 := BP.cell 1
  have cQ0 := BQ.cell 0
  have cQ1 := BQ.cell 1
  simp at cP0 cP1 cQ0 cQ1
  have HC := Lib.hid (rOps_any A A' n n' c c' x.2 y.2 w0 q q')
  clear hw0 hsz0
  go_enter Try.func9, Try.ntmps9
  go_upto_region 1 with fail
  rw [← HW0.out]
  rcases hd0 : eqC x.1 y.1 with _ | _
  · have ht : (x.1 == y.1) = false := by have := eqC_no.1 hd0; simpa using this
    have HH := Lib.hid hd0
    clear hd0
    go_wp2_with fail
    go_ret
    exact ⟨ret_bool (by rw [HD.out, HH.out]; rfl), T0⟩
  · have ht : (x.1 == y.1) = true := by have := eqC_iff.1 hd0; simpa using this
    have HH := Lib.hid hd0
    clear hd0
    go_wp2_with fail
    refine HC.out.mono ?_
    rintro e w1 ⟨rfl, hb1⟩
    go_wp2_with fail
    go_ret
    exact ⟨ret_bool (by rw [HD.out, HH.out]; simp), below_next T0 hb1 rfl⟩
end Go.Proofs.Ytkmgbdljiajlaaa
namespace Go.Proofs.Ytkmgbdljiajlaaa
open Go.RowKit

def RU8 (_ : World) (v : Value) (x : Int) : Prop := v = .int .u8 x ∧ 0 ≤ x ∧ x < 256
theorem code_inB {w : World} {A : Option Addr} {n : Nat} {xs : List Int} (h : RdL RU8 w A n xs) (hn : n ≤ 65536) : CodeB w A n := by
  refine ⟨hn, fun h0 => ?_⟩
  obtain ⟨b, o, v, x, e, -⟩ := h.at h0
  subst e
  refine ⟨b, o, rfl, fun i hi => ?_⟩
  obtain ⟨v, x, hc, ⟨rfl, h1, h2⟩, -, -⟩ := h.at' hi
  exact ⟨x.toNat, by omega, by rw [hc, Int.toNat_of_nonneg h1]⟩
set_option maxHeartbeats 400000 in
theorem rBig_any (A : Option Addr) (n c : Nat) (w : World) (hn : n ≤ 9223372036854775807) : Calls Try.prog 5 #[.slice A n c] w fun e w' => e = .returned (.bool (decide (65536 < n))) ∧ w = w' := by
  go_enter Try.func5, Try.ntmps5
  go_wp2
  go_ret
  exact ⟨ret_bool (decide_eq_decide.2 (by omega)), rfl⟩
end Go.Proofs.Ytkmgbdljiajlaaa
namespace Go.Proofs.Ytkmgbdljiajlaaa
open Go.RowKit

theorem PO.iv {lo : Nat} {w : World} {v : Value} {xs : List OpM} {css : List (List Value)} {bls : List (List Nat)} (h : PO lo w v xs css bls) : Iv lo w.heap.size (obl v ++ bls.flatten) := h.2.2
theorem canonO {cs : List Value} {x : AlgebraM} {w : World} (h : shAlgebra.rd w cs x) (hx : SmallP x) :
    Calls Try.prog 43 #[.agg cs.toArray] w (fun e w' => ∃ V L vc u bk, e = .returned (.tuple #[.agg #[.int .i64 (canA x).1, .slice V L vc], u]) ∧ shAlgebra.own w' [.int .i64 (canA x).1, .slice V L vc] (canA x) bk ∧ Iv w.heap.size w'.heap.size bk ∧ Below w.heap.size w w') := by
  obtain ⟨n, hn⟩ : ∃ n : Nat, x.1 = (n : Int) := ⟨x.1.toNat, by have h1 := hx.1; omega⟩
  refine (canonical_any cs x n w h hx hn).mono ?_
  rintro e w' ⟨vb, css, bls, Af, cf, rfl, hP, -, hb⟩
  obtain ⟨V, vc, rfl⟩ := own_slice hP.2.1
  have e1 : (canA x).1 = (n : Int) := by rw [← hn]; rfl
  refine ⟨V, (canA x).2.length, vc, _, _, by rw [e1], ?_, hP.iv, hb⟩
  exact hP.algO (show InR (canA x).1 from small_R (canA_small hx))
theorem PE.rdN {lo n c : Nat} {w : World} {A : Option Addr} {xs : List EntryM} {css : List (List Value)} {bls : List (List Nat)} (h : PE lo w (.slice A n c) xs css bls) : RdN shEntry.m shEntry.rd w A n xs := by
  obtain ⟨B, c', e, r⟩ := h.1.rd
  injection e with e1 e2 _
  subst e1
  subst e2
  exact r
set_option maxRecDepth 100000 in
set_option maxHeartbeats 8000000 in
theorem implAdd_any (A : Option Addr) (n c : Nat) (xs : List EntryM) (s : ByteArray) (ds : List Value) (a : AlgebraM) (w : World) (h : RdN shEntry.m shEntry.rd w A n xs) (hs : s.size ≤ maxLen) (h' : shAlgebra.rd w ds a) (hn : xs.length + cntS shEntry.cnt xs ≤ 1048576) :
    Calls Try.prog 7 #[.slice A n c, .string s, .agg ds.toArray] w (OwV (Sh.rows shEntry 33) w (adP xs s a).1 (adP xs s a).2) := by
  have hle := h.le
  obtain rfl : xs.length = n := h.len
  have hrd' := h'
  obtain ⟨B, m, d, rfl, qs, qo⟩ := rdAlgebra h'
  obtain ⟨w0, hw0, T0, hsz0, BP⟩ := boxes1 w #[.int .i64 a.1, .slice B m d] 27
  have HW0 := Lib.hid hw0
  have h0 := h.next T0
  have hr0 := shAlgebra.stab hrd' T0.block
  clear hw0
  obtain ⟨r1, HR1⟩ : ∃ r, Hid (catB xs = r) := ⟨_, rfl⟩
  rcases r1 with _ | _
  · have HM := Lib.hid (ad_no1 (s := s) (a := a) HR1.out)
    rw [HM.out]
    go_enter Try.func7, Try.ntmps7
    go_wp2_with fail
    rw [← HW0.out]
    refine (isCat_any _ _ _ xs _ h0).mono ?_
    rintro e w1 ⟨rfl, hb1⟩
    rw [HR1.out]
    have T1 := below_next T0 hb1 rfl
    obtain ⟨bl, ho, hiv⟩ := ow_lit T1
    have HO := Lib.hid ho
    clear ho
    have cP := (BP.next hb1).cell 0
    simp at cP
    go_wp2_with fail
    go_ret2
    exact ⟨_, bl, rfl, HO.out, hiv, below_next T1 (below_box _ _) rfl⟩
  · obtain ⟨r2, HR2⟩ : ∃ r, Hid (nameB s = r) := ⟨_, rfl⟩
    rcases r2 with _ | _
    · have HM := Lib.hid (ad_no2 (xs := xs) (a := a) HR2.out)
      rw [HM.out]
      go_enter Try.func7, Try.ntmps7
      go_wp2_with fail
      rw [← HW0.out]
      refine (isCat_any _ _ _ xs _ h0).mono ?_
      rintro e w1 ⟨rfl, hb1⟩
      rw [HR1.out]
      have T1 := below_next T0 hb1 rfl
      have cP := (BP.next hb1).cell 0
      simp at cP
      go_wp2_with fail
      refine (isName_any s _ hs).mono ?_
      rintro e w2 ⟨rfl, rfl⟩
      rw [HR2.out]
      obtain ⟨bl, ho, hiv⟩ := ow_lit T1
      have HO := Lib.hid ho
      clear ho
      go_wp2_with fail
      go_ret2
      exact ⟨_, bl, rfl, HO.out, hiv, below_next T1 (below_box _ _) rfl⟩
    · obtain ⟨r3, HR3⟩ : ∃ r, Hid (smallB a = r) := ⟨_, rfl⟩
      go_enter Try.func7, Try.ntmps7
      go_wp2_with fail
      rw [← HW0.out]
      refine (isCat_any _ _ _ xs _ h0).mono ?_
      rintro e w1 ⟨rfl, hb1⟩
      rw [HR1.out]
      have T1 := below_next T0 hb1 rfl
      have BP1 := BP.next hb1
      have cP0 := BP1.cell 0
      have cP1 := BP1.cell 1
      simp at cP0 cP1
      go_wp2_with fail
      refine (isName_any s _ hs).mono ?_
      rintro e w2 ⟨rfl, rfl⟩
      rw [HR2.out]
      go_wp2_with fail
      refine (isNamed_any _ a _ (shAlgebra.stab hr0 hb1.block)).mono ?_
      rintro e w3 ⟨rfl, hb3⟩
      rw [HR3.out]
      have T3 := below_next T1 hb3 rfl
      have BP3 := BP1.next hb3
      clear cP0 cP1
      have cP0 := BP3.cell 0
      have cP1 := BP3.cell 1
      simp at cP0 cP1
      rcases r3 with _ | _
      · have HM := Lib.hid (ad_no3 (xs := xs) (s := s) HR3.out)
        obtain ⟨bl, ho, hiv⟩ := ow_lit T3
        have HO := Lib.hid ho
        clear ho
        go_wp2_with fail
        go_ret2
        rw [HM.out]
        exact ⟨_, bl, rfl, HO.out, hiv, below_next T3 (below_box _ _) rfl⟩
      · have hsm := small_iff.1 HR3.out
        have HCAN := Lib.hid (canonO (w := w3) (shAlgebra.stab hrd' T3.block) hsm)
        go_wp2_with fail
        refine HCAN.out.mono ?_
        rintro e w4 ⟨V, L, vc, u, bk, rfl, hO4, hiv4, hb4⟩
        have T4 := below_next T3 hb4 rfl
        obtain ⟨w5, HW5⟩ : ∃ wb, Hid (wb = w4.alloc (.cells #[.int .i64 (canA a).1, .slice V L vc] 27)) := ⟨_, rfl⟩
        have hbb : Below w4.heap.size w4 w5 := by rw [HW5.out]; exact below_box _ _
        have BN : Blk w5 w4.heap.size 27 #[.int .i64 (canA a).1, .slice V L vc] := by rw [HW5.out]; exact Blk.new _ _ _
        have T5 := below_next T4 hbb rfl
        have hO5 := shEntry.osame (ent_own hs hO4) fun b hb => hbb.block b (hiv4.2 b hb).2
        have h5 := h.next T5
        have cN0 := BN.cell 0
        have cN1 := BN.cell 1
        simp at cN0 cN1
        have HCL : ∀ wz, Below w5.heap.size w5 wz → Calls Try.prog 45 #[.slice A xs.length c] wz (CpN wz xs) := fun wz hz => cloneEntriesN_any A xs.length c xs wz (h5.next hz) (by omega)
        have Tk : Below w5.heap.size w5 w5 := Below.refl _ _
        have hz3 := T3.size
        have hz5 := hbb.size
        have HIV := Lib.hid hiv4
        have hcs := canA_small hsm
        have HSM : Hid (∀ x ∈ xs, SmallP x.2) := fun x hx => cat_small HR1.out hx
        have hl12 := (cat_two HR1.out).1
        clear hiv4 h0 hrd' hr0 hO4 qs qo
        go_upto_region 4 with fail
        rw [← HW5.out]
        go_region_held3 (fun w' => w'.cell? ⟨w4.heap.size, 0, none⟩ = some (.int .i64 (canA a).1) ∧ w'.cell? ⟨w4.heap.size, 1, none⟩ = some (.slice V L vc)) (first | go_keep | exact ⟨keepc Tk cN0, keepc Tk cN1⟩) (first
          | (go_at_call 45; (with_reducible refine (HCL _ ?_).mono ?_); (first | exact Tk | exact Below.drew Tk); rintro e w6 ⟨g6, n6, c6, css6, bls6, rfl, hP6, hb6⟩; obtain ⟨rfl, hc6⟩ := hP6.ln; replace Tk := below_next (by first | exact Tk | exact Below.drew Tk) hb6 rfl)
          | (go_at_call 44; refine (withEntry_some w.heap.size g6 c6 xs css6 bls6 (s, canA a) V L vc bk _ (hP6.mono (by first | exact Nat.le_trans hz3 (Nat.le_trans hb4.size hz5) | (have := hb4.size; simp; omega))) (shEntry.osame hO5 fun b hb => Tk.block b (by have := (HIV.out.2 b hb).2; omega)) HIV.out.1 (fun b hb => by have h1 := HIV.out.2 b hb; have h2 := Tk.size; omega) (fun b hb hm => by have h1 := (HIV.out.2 b hb).2; have h2 := (hP6.2.2.2 b (List.mem_append_right _ hm)).1; (first | omega | (simp at h2; omega))) (by have := Tk.size; have := T5.size; omega) HSM.out hcs (by omega)).mono ?_; rintro e w7 ⟨A7, n7, c7, css7, bls7, rfl, hP7, hb7, -⟩; replace Tk := below_next Tk hb7 rfl))
        have T7 := below_next T5 Tk rfl
        obtain ⟨dv, HDV⟩ : ∃ dv, Hid (dupB xs (s, canA a) = dv) := ⟨_, rfl⟩
        rw [HDV.out] at hP7 ⊢
        rcases dv with _ | _
        · rw [if_neg (by decide)] at hP7
          obtain ⟨r4, HR4⟩ : ∃ r, Hid (catB (insM xs (s, canA a)) = r) := ⟨_, rfl⟩
          have HP7 := Lib.hid hP7
          have HRD := Lib.hid hP7.rdN
          clear hP7 hP6
          rcases r4 with _ | _
          · have HM := Lib.hid (ad_no4 (xs := xs) (s := s) HR4.out)
            go_wp2_with fail
            refine (isCat_any _ _ _ _ _ HRD.out).mono ?_
            rintro e w8 ⟨rfl, hb8⟩
            rw [HR4.out]
            have T8 := below_next T7 hb8 rfl
            obtain ⟨bl, ho, hiv⟩ := ow_lit T8
            have HO := Lib.hid ho
            clear ho
            go_wp2_with fail
            go_ret2
            rw [HM.out]
            exact ⟨_, bl, rfl, HO.out, hiv, below_next T8 (below_box _ _) rfl⟩
          · have HM := Lib.hid (ad_yes HR1.out HR2.out HR3.out HR4.out)
            go_wp2_with fail
            refine (isCat_any _ _ _ _ _ HRD.out).mono ?_
            rintro e w8 ⟨rfl, hb8⟩
            rw [HR4.out]
            have T8 := below_next T7 hb8 rfl
            have HP8 := Lib.hid (HP7.out.next hb8)
            go_wp2_with fail
            go_ret2
            rw [HM.out]
            exact ⟨_, _, rfl, HP8.out.own, HP8.out.2.2, T8⟩
        · have HM := Lib.hid (ad_no4 (xs := xs) (s := s) (dup_cat HDV.out hcs))
          clear hP7 hP6
          obtain ⟨bl, ho, hiv⟩ := ow_lit T7
          have HO := Lib.hid ho
          clear ho
          go_wp2_with fail
          go_ret2
          rw [HM.out]
          exact ⟨_, bl, rfl, HO.out, hiv, below_next T7 (below_box _ _) rfl⟩
end Go.Proofs.Ytkmgbdljiajlaaa
namespace Go.Proofs.Ytkmgbdljiajlaaa
open Go.RowKit

theorem mgI_snoc : ∀ (l L : List EntryM) (y : EntryM), mgI (l ++ [y]) L = wiM (mgI l L) y
  | [], _, _ => rfl
  | x :: l, L, y => mgI_snoc l (wiM L x) y
theorem wiM_mem {L : List EntryM} {e z : EntryM} (h : z ∈ wiM L e) : z = e ∨ z ∈ L := by
  unfold wiM at h
  split at h
  · exact .inr h
  · exact insM_mem.1 h
theorem wiM_len (L : List EntryM) (e : EntryM) : (wiM L e).length ≤ L.length + 1 := by
  unfold wiM
  split
  · omega
  · rw [insM_len]; exact Nat.le_refl _
theorem mgI_mem : ∀ {l L : List EntryM} {z : EntryM}, z ∈ mgI l L → z ∈ l ∨ z ∈ L
  | [], _, _, h => .inr h
  | y :: l, L, z, h => by
    rcases mgI_mem (l := l) h with h | h
    · exact .inl (List.mem_cons_of_mem _ h)
    · rcases wiM_mem h with rfl | h
      · exact .inl (List.mem_cons_self ..)
      · exact .inr h
theorem mgI_len : ∀ (l L : List EntryM), (mgI l L).length ≤ L.length + l.length
  | [], _ => Nat.le_refl _
  | y :: l, L => by
    have h1 := mgI_len l (wiM L y)
    have h2 := wiM_len L y
    rw [List.length_cons]
    show (mgI l (wiM L y)).length ≤ _
    omega
theorem wi_pos {L : List EntryM} {e : EntryM} : 0 < (wiM L e).length := by
  unfold wiM
  split
  · rename_i h
    obtain ⟨x, hx, -⟩ := dup_mem h
    exact List.length_pos_of_mem hx
  · rw [insM_len]; omega
set_option maxRecDepth 100000 in
set_option maxHeartbeats 8000000 in
theorem implMg_any (A D : Option Addr) (n c m d : Nat) (xs ys : List EntryM) (w : World) (h : RdN shEntry.m shEntry.rd w A n xs) (h' : RdN shEntry.m shEntry.rd w D m ys) (hn : xs.length + cntS shEntry.cnt xs ≤ 1048576) (hn' : ys.length + cntS shEntry.cnt ys ≤ 1048576) :
    Calls Try.prog 14 #[.slice A n c, .slice D m d] w (OwV (Sh.rows shEntry 33) w (mgP xs ys).1 (mgP xs ys).2) := by
  have hle := h.le
  have hle' := h'.le
  obtain rfl : xs.length = n := h.len
  obtain rfl : ys.length = m := h'.len
  obtain ⟨r1, HR1⟩ : ∃ r, Hid (catB xs = r) := ⟨_, rfl⟩
  rcases r1 with _ | _
  · have HM := Lib.hid (mg_no1 (ys := ys) HR1.out)
    rw [HM.out]
    go_enter Try.func14, Try.ntmps14
    go_wp2_with fail
    refine (isCat_any _ _ _ xs _ h).mono ?_
    rintro e w1 ⟨rfl, hb1⟩
    rw [HR1.out]
    obtain ⟨bl, ho, hiv⟩ := ow_lit hb1
    have HO := Lib.hid ho
    clear ho
    go_wp2_with fail
    go_ret2
    exact ⟨_, bl, rfl, HO.out, hiv, below_next hb1 (below_box _ _) rfl⟩
  · obtain ⟨r2, HR2⟩ : ∃ r, Hid (catB ys = r) := ⟨_, rfl⟩
    rcases r2 with _ | _
    · have HM := Lib.hid (mg_no2 (xs := xs) HR2.out)
      rw [HM.out]
      go_enter Try.func14, Try.ntmps14
      go_wp2_with fail
      refine (isCat_any _ _ _ xs _ h).mono ?_
      rintro e w1 ⟨rfl, hb1⟩
      rw [HR1.out]
      go_wp2_with fail
      refine (isCat_any _ _ _ ys _ (h'.next hb1)).mono ?_
      rintro e w2 ⟨rfl, hb2⟩
      rw [HR2.out]
      have T2 := below_next hb1 hb2 rfl
      obtain ⟨bl, ho, hiv⟩ := ow_lit T2
      have HO := Lib.hid ho
      clear ho
      go_wp2_with fail
      go_ret2
      exact ⟨_, bl, rfl, HO.out, hiv, below_next T2 (below_box _ _) rfl⟩
    · have hx12 := (cat_two HR1.out).1
      have hy12 := (cat_two HR2.out).1
      have HSX : Hid (∀ x ∈ xs, SmallP x.2) := fun x hx => cat_small HR1.out hx
      have HSY : Hid (∀ x ∈ ys, SmallP x.2) := fun x hx => cat_small HR2.out hx
      go_enter Try.func14, Try.ntmps14
      go_wp2_with fail
      refine (isCat_any _ _ _ xs _ h).mono ?_
      rintro e w1 ⟨rfl, hb1⟩
      rw [HR1.out]
      go_wp2_with fail
      refine (isCat_any _ _ _ ys _ (h'.next hb1)).mono ?_
      rintro e w2 ⟨rfl, hb2⟩
      rw [HR2.out]
      have T2 := below_next hb1 hb2 rfl
      have HCX := Lib.hid (cloneEntriesN_any A xs.length c xs w2 (h.next T2) hn)
      go_wp2_with fail
      refine HCX.out.mono ?_
      rintro e w3 ⟨g3, n3, c3, css3, bls3, rfl, hP3, hb3⟩
      obtain ⟨rfl, -⟩ := hP3.ln
      have T3 := below_next T2 hb3 rfl
      have hP3' := hP3.mono T2.size
      have HCY := Lib.hid (cloneEntriesN_any D ys.length d ys w3 (h'.next T3) hn')
      clear hP3 HCX
      go_wp2_with fail
      refine HCY.out.mono ?_
      rintro e w4 ⟨g4, n4, c4, ccss, cbls, rfl, hC, hb4⟩
      obtain ⟨rfl, -⟩ := hC.ln
      have T4 := below_next T3 hb4 rfl
      have hL4 := hP3'.next hb4
      have hsub0 : ∀ b ∈ bls3.flatten, b < w3.heap.size ∨ ∃ j bk, j < 0 ∧ cbls[j]? = some bk ∧ b ∈ bk := fun b hb => .inl (hP3'.2.2.2 b (List.mem_append_right _ hb)).2
      have hz3 := T3.size
      clear hP3' HCY
      go_wp2_with fail
      go_loopw [6, 23] (fun v i wr => ∃ (k : Nat) (css : List (List Value)) (bls : List (List Nat)), k ≤ ys.length ∧ i = .int .i64 k ∧ (∃ g n c, v = .slice (some ⟨g, 0, none⟩) n c) ∧ PE w.heap.size wr v (mgI (ys.take k) xs) css bls ∧ PE w3.heap.size wr (.slice (some ⟨g4, 0, none⟩) ys.length c4) ys ccss cbls ∧ (∀ b ∈ bls.flatten, b < w3.heap.size ∨ ∃ j bk, j < k ∧ cbls[j]? = some bk ∧ b ∈ bk) ∧ Below w.heap.size w wr) (fun _ i _ => ys.length - (intOf i).toNat)
      case atStart => exact ⟨0, css3, bls3, Nat.zero_le _, rfl, ⟨_, _, _, rfl⟩, hL4, hC, hsub0, T4⟩
      case round =>
        clear hL4 hC hsub0 T4 hb4
        obtain ⟨k, css, bls, hk, rfl, ⟨g, nn, c', rfl⟩, hL, hC, hsub, hT⟩ := hrel
        obtain ⟨hnn, -⟩ := hL.ln
        by_cases hlt : k < ys.length
        · have hk0 : (0 : Int) ≤ (k : Int) := by omega
          have hk1 : (k : Int) < (ys.length : Int) := by omega
          have hl1 := hC.1.l1
          have hl2 := hC.1.l2
          have hy : ys[k]? = some (ys[k]'hlt) := List.getElem?_eq_getElem hlt
          generalize ys[k]'hlt = y at hy
          have hcj : ccss[k]? = some (ccss[k]'(by omega)) := List.getElem?_eq_getElem (by omega)
          have hbj : cbls[k]? = some (cbls[k]'(by omega)) := List.getElem?_eq_getElem (by omega)
          generalize ccss[k]'(by omega) = cj at hcj
          generalize cbls[k]'(by omega) = bk at hbj
          have ho := hC.1.el k cj y bk hcj hy hbj
          obtain ⟨B, q, r, rfl, hsz, hIn, hops⟩ := rdEntry (shEntry.ord ho)
          have cc0 : wr.cell? ⟨g4, k * 3, none⟩ = some (.string y.1) := hC.1.cell rfl hcj (i := 0) rfl
          have cc1 : wr.cell? ⟨g4, k * 3 + 1, none⟩ = some (.int .i64 y.2.1) := hC.1.cell rfl hcj (i := 1) rfl
          have cc2 : wr.cell? ⟨g4, k * 3 + 2, none⟩ = some (.slice B q r) := hC.1.cell rfl hcj (i := 2) rfl
          have HTS : Hid (mgI (ys.take (k + 1)) xs = wiM (mgI (ys.take k) xs) y) := by show _ = _; rw [take_snoc hy, mgI_snoc]
          have hlen := mgI_len (ys.take k) xs
          have hlt2 : (ys.take k).length ≤ ys.length := by rw [List.length_take]; omega
          have HSL : Hid (∀ z ∈ mgI (ys.take k) xs, SmallP z.2) := fun z hz => by
            rcases mgI_mem hz with hz | hz
            · exact HSY.out z (List.mem_of_mem_take hz)
            · exact HSX.out z hz
          have hsy := HSY.out y (List.mem_of_getElem? hy)
          obtain ⟨L, HL⟩ : ∃ L, Hid (mgI (ys.take k) xs = L) := ⟨_, rfl⟩
          rw [HL.out] at hL hnn hlen HSL HTS
          obtain ⟨wb, HWB⟩ : ∃ wb, Hid (wb = wr.alloc (.cells #[.string y.1, .int .i64 y.2.1, .slice B q r] 33)) := ⟨_, rfl⟩
          have hbb : Below wr.heap.size wr wb := by rw [HWB.out]; exact below_box _ _
          have BN : Blk wb wr.heap.size 33 #[.string y.1, .int .i64 y.2.1, .slice B q r] := by rw [HWB.out]; exact Blk.new _ _ _
          have Tb := below_next hT hbb rfl
          have hLb := hL.next hbb
          have hCb := hC.next hbb
          have hob := Sh.onext ho hbb
          have hndC := hC.2.2.1
          have hbkn : bk.Nodup := nd_el hndC hbj
          have hbkl : ∀ b ∈ bk, w3.heap.size ≤ b ∧ b < wb.heap.size := fun b hb => by
            have := hC.2.2.2 b (List.mem_append_right _ (List.mem_flatten.2 ⟨bk, List.mem_of_getElem? hbj, hb⟩))
            have h3 := hbb.size
            omega
          have hbkd : ∀ b ∈ bk, b ∉ bls.flatten := fun b hb hm => by
            rcases hsub b hm with h9 | ⟨j, bq, hjk, hbq, hbm⟩
            · have := (hbkl b hb).1; omega
            · exact nd_two (List.nodup_append.1 hndC).2.1 hbq hbj (by omega) hbm hb
          subst hnn
          have HWI := Lib.hid (withEntry_some w.heap.size g c' L css bls y B q r bk wb hLb hob hbkn (fun b hb => by have := hbkl b hb; omega) hbkd Tb.size HSL.out hsy (by omega))
          have cN0 := BN.cell 0
          have cN1 := BN.cell 1
          have cN2 := BN.cell 2
          simp at cN0 cN1 cN2
          have HSUB := Lib.hid hsub
          have HBJ := Lib.hid hbj
          have HCb := Lib.hid hCb
          clear hsub hndC hcj hbj hy ho hops hLb hL hC hCb hob hbkd hbkl hbkn
          go_upto_region 7 with fail
          rw [← HWB.out]
          clear cc0 cc1 cc2
          go_wp2_with fail
          refine HWI.out.mono ?_
          rintro e w5 ⟨A5, n5, c5, css5, bls5, rfl, hP5, hb5, hs5⟩
          have T5 := below_next Tb hb5 rfl
          have hP5' : PE w.heap.size w5 (.slice A5 n5 c5) (wiM L y) css5 bls5 := hP5
          obtain ⟨g5, n5', c5', e5⟩ := hP5'.nn wi_pos
          have HP5 := Lib.hid hP5'
          have HC5 := Lib.hid (HCb.out.next hb5)
          have HS5 := Lib.hid hs5
          injection e5 with e51 e52 e53
          subst e51
          subst e52
          subst e53
          clear hP5 hP5' hs5
          go_wp2_with fail
          go_roundw
          case rel =>
            refine ⟨k + 1, css5, bls5, by omega, by go_num, ⟨_, _, _, rfl⟩, by rw [HTS.out]; exact HP5.out, HC5.out, fun b hb => ?_, T5⟩
            rcases HS5.out b hb with h9 | h9
            · rcases HSUB.out b h9 with h8 | ⟨j, bq, h1, h2, h3⟩
              · exact .inl h8
              · exact .inr ⟨j, bq, by omega, h2, h3⟩
            · exact .inr ⟨k, bk, by omega, HBJ.out, h9⟩
          case measure => simp [intOf]; omega
        · have hlt' : ¬ (k : Int) < (ys.length : Int) := by omega
          have HE : Hid (ys.take k = ys) := List.take_of_length_le (by omega)
          rw [HE.out] at hL
          have HLL := Lib.hid hL
          have HRD := Lib.hid hL.rdN
          obtain ⟨r4, HR4⟩ : ∃ r, Hid (catB (mgI ys xs) = r) := ⟨_, rfl⟩
          clear hC hsub hL hnn
          rcases r4 with _ | _
          · have HM := Lib.hid (mg_no3 HR4.out)
            go_wp2_with fail
            refine (isCat_any _ _ _ _ _ HRD.out).mono ?_
            rintro e w8 ⟨rfl, hb8⟩
            rw [HR4.out]
            have T8 := below_next hT hb8 rfl
            obtain ⟨bl, ho, hiv⟩ := ow_lit T8
            have HO := Lib.hid ho
            clear ho
            go_wp2_with fail
            go_ret2
            rw [HM.out]
            exact ⟨_, bl, rfl, HO.out, hiv, below_next T8 (below_box _ _) rfl⟩
          · have HM := Lib.hid (mg_yes HR1.out HR2.out HR4.out)
            go_wp2_with fail
            refine (isCat_any _ _ _ _ _ HRD.out).mono ?_
            rintro e w8 ⟨rfl, hb8⟩
            rw [HR4.out]
            have T8 := below_next hT hb8 rfl
            have HP8 := Lib.hid (HLL.out.next hb8)
            go_wp2_with fail
            go_ret2
            rw [HM.out]
            exact ⟨_, _, rfl, HP8.out.own, HP8.out.2.2, T8⟩
end Go.Proofs.Ytkmgbdljiajlaaa
