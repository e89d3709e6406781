
/- Walks: drawn maps between posets. -/
import Derived.Test.YtlncpabnlnipoaaLatD
import Derived.Test.YtlncpabnlnipoaaLat9
namespace Go.Proofs.Ytlncpabnlnipoaa
open Go.RowKit

/-- What a drawn map is. -/
def MapD (B n : Nat) (w : World) (g t : Nat) (e : Ending) (w' : World) : Prop := ∃ A m c L, e = .returned (.slice A m c) ∧ w'.ownsRow w.heap.size 3 1 (.slice A m c) m (ints L) ∧ (∀ x ∈ L, -2000 ≤ x ∧ x ≤ 2000) ∧ m ≤ n + 1 ∧ CurB B w' g t ∧ w.grownBy w' (some g)
theorem map_in {n m l : Nat} {xss yss : List (List Int)} {fs : List Int} (h : mapS n m l xss yss fs = true) : GoodP xss ∧ l = n ∧ ∀ x ∈ fs, 0 ≤ x ∧ x ≤ (m : Int) - 1 := by
  unfold mapS mapB at h
  simp only [Bool.and_eq_true, beq_iff_eq] at h
  exact ⟨tt_iff.1 h.1.1, by omega, allIn_iff.1 h.2.2⟩
theorem bound_bd {m : Nat} (hm : m ≤ 1000) (F G : Nat → Nat → Bool) (x : Nat) : -1 ≤ grI F (rowTo G x m) ∧ grI F (rowTo G x m) ≤ 1000 := by
  rcases grI_mem (F := F) (n := m) (xs := rowTo G x m) (fun v hv => by obtain ⟨y, hy, -, rfl⟩ := rowTo_mem.1 hv; omega) with h | h <;> omega
set_option linter.unusedVariables false in
set_option maxRecDepth 20000 in
set_option maxHeartbeats 8000000 in
theorem map30_any (B g t n m c d : Nat) (A Bq : Option Addr) (F G : List (List Int)) (w : World) (h : CurB B w g t) (hB : B ≤ w.heap.size) (ht : t ≤ 999970000) (hP : RdL (RG g) w A n F) (hAo : Off g A) (hQ : RdL (RG g) w Bq m G) (hBo : Off g Bq) (hn : n ≤ 12) (hm : m ≤ 12) :
    Calls Try.prog 20 #[.pointer (some ⟨g, 0, none⟩), .agg #[.slice A n c], .agg #[.slice Bq m d]] w (MapD B n w g (t + 100)) := by
  have hgl := h.lt
  obtain ⟨w0, HW0⟩ : ∃ wb, Hid (wb = (w.alloc (.cells #[.slice A n c] 26)).alloc (.cells #[.slice Bq m d] 26)) := ⟨_, rfl⟩
  have hb0 : Below w.heap.size w w0 := by rw [HW0.out]; exact below_box2 _ _ _
  have hs0 : w0.heap.size = w.heap.size + 1 + 1 := by rw [HW0.out]; simp
  have BP : Blk w0 w.heap.size 26 #[.slice A n c] := by rw [HW0.out]; exact (Blk.new w 26 #[.slice A n c]).alloc _
  have BQ : Blk w0 (w.heap.size + 1) 26 #[.slice Bq m d] := by
    have h1 := Blk.new (w.alloc (.cells #[.slice A n c] 26)) 26 #[.slice Bq m d]
    rw [HW0.out]
    simpa using h1
  obtain ⟨w1, HW1⟩ : ∃ wb, Hid (wb = w0.alloc (.cells #[] 3)) := ⟨_, rfl⟩
  have hb1 : Below w0.heap.size w0 w1 := by rw [HW1.out]; exact below_box _ _
  have hown1 : w1.ownsRow (w.heap.size + 1 + 1) 3 1 (.slice (some ⟨w.heap.size + 1 + 1, 0, none⟩) 0 0) 0 (ints []) := by rw [HW1.out, ← hs0]; exact World.ownsRow_lit w0 #[] 0 (Nat.le_refl _) (Nat.zero_le _) rfl
  have hT1 := below_next hb0 hb1 rfl
  have hc1 := h.next_ hT1
  have hg1 : w0.grownBy w1 (some g) := toGr hb1
  have hP0 := hP.next stab_RG hb0
  have hQ0 := hQ.next stab_RG hb0
  have hz1 : w.heap.size + 1 + 1 ≤ w1.heap.size := by have := hb1.size; omega
  clear hb1 hT1
  go_enter Try.func20, Try.ntmps20
  go_wp2_with fail
  rw [← HW0.out, ← HW1.out]
  go_loopw [7, 8] (fun v i wr => ∃ (x : Nat) (A' : Option Addr) (c' : Nat) (L : List Int), x ≤ n ∧ i = .int .i64 x ∧ v = .slice A' x c' ∧ wr.ownsRow (w.heap.size + 1 + 1) 3 1 (.slice A' x c') x (ints L) ∧ (∀ z ∈ L, -1 ≤ z ∧ z ≤ (m : Int)) ∧ CurB B wr g (t + 4 * x) ∧ w0.grownBy wr (some g)) (fun _ i _ => n - (intOf i).toNat)
  case atStart => exact ⟨0, _, 0, [], Nat.zero_le _, rfl, rfl, hown1, fun z hz => by simp at hz, hc1, hg1⟩
  case round =>
    clear hown1 hc1 hg1
    obtain ⟨x, A', c', L, hx, rfl, rfl, hown, hL, hc, hg⟩ := hrel
    have HL := Lib.hid hL
    clear hL
    have BPr := BP.grown hg (fun e => by injection e with e; omega)
    have BQr := BQ.grown hg (fun e => by injection e with e; omega)
    have kP := BPr.cell 0
    have kQ := BQr.cell 0
    simp at kP kQ
    have hzr : w.heap.size + 1 + 1 ≤ wr.heap.size := by have := hg.size; omega
    by_cases hlx : x < n
    · have hx1 : (x : Int) < (n : Int) := by omega
      have HPT := Lib.hid (point23_any B g (t + 4 * x) m d Bq wr hc (by omega) (by omega))
      go_wp2_with fail
      refine HPT.out.mono ?_
      rintro e w2 ⟨z, hz, rfl, hc2, hg2⟩
      have hown2 := own_grownG hown hg2 (by omega)
      have hg12 := growB_trans hg hg2
      have hz2 : w.heap.size + 1 + 1 ≤ w2.heap.size := by have := hg12.size; omega
      clear hown HPT
      go_wp2_with (at_builtin; refine app1 w2 rfl _ _ 27 3 rfl (.int .i64 0) 8 Try.underlying27 info_int rfl (by decide) (w.heap.size + 1 + 1) x c' A' (ints L) rfl hown2 (.int .i64 z) rfl rfl (by omega) hz2 ?_; intro A3 c3 w3 hown3 hg3 hb3)
      have hc3 := hc2.grown hg3 fun r hr => by have := (hown2.lt r hr).1; omega
      have hg13 := growB_own hg12 hg3 fun r hr => by have := (hown2.lt r hr).1; omega
      go_roundw
      case rel => exact ⟨x + 1, A3, c3, L ++ [z], by omega, by go_num, rfl, by rw [← ints_snocG]; exact hown3, fun v hv => by
        rcases List.mem_append.1 hv with hv | hv
        · exact HL.out v hv
        · rw [List.mem_singleton.1 hv]; exact hz, hc3.mono (by omega), hg13⟩
      case measure => simp [intOf]; omega
    · obtain rfl : n = x := by omega
      have hx1 : ¬ (n : Int) < (n : Int) := by omega
      have hPr := hP0.grownG hAo hg
      have hQr := hQ0.grownG hBo hg
      have hrd := rd_of_own (R := RI) hown (RI_ints fun y hy => by have := HL.out y hy; omega)
      have HM := Lib.hid (l30Map_any A Bq A' n m n c d c' F G L wr hPr.toRV hQr.toRV hrd)
      obtain ⟨mb, HMB⟩ : ∃ mb, Hid (mapS n m n F G L = mb) := ⟨_, rfl⟩
      rw [HMB.out] at HM
      have HOWN := Lib.hid hown
      have HPR := Lib.hid hPr
      have HQR := Lib.hid hQr
      clear hown hPr hQr hrd
      go_upto_region 6 with fail
      go_cut [38] from 27 to 37 (fun u38 wx => ∃ bb : Bool, u38 = .bool bb ∧ Hid (bb = true → GoodP F ∧ ∀ z ∈ L, 0 ≤ z ∧ z ≤ (m : Int) - 1) ∧ CurB B wx g (t + 4 * n + 2) ∧ wr.grownBy wx (some g))
      case first =>
        go_wp2_with fail
        refine HM.out.mono ?_
        rintro e w2 ⟨rfl, hb2⟩
        have hc2 := hc.next_ hb2
        have k2 := (BQr.next hb2).cell 0
        simp at k2
        rcases mb with _ | _
        · go_wp2_with fail
          go_meet
          exact ⟨false, rfl, (fun h => by cases h), hc2.mono (by omega), toGr hb2⟩
        · have HIN := Lib.hid (map_in HMB.out)
          have HG := Lib.hid (l24Good_any Bq m d G w2 (HQR.out.next stab_RG hb2).toRV)
          obtain ⟨lb, HLB⟩ : ∃ lb, Hid (tt (GoodP G ∧ LatP (leF G) m) = lb) := ⟨_, rfl⟩
          rw [HLB.out] at HG
          go_wp2_with fail
          refine HG.out.mono ?_
          rintro e w3 ⟨rfl, hb3⟩
          have hc3 := hc2.next_ hb3
          have hg3 : wr.grownBy w3 (some g) := growB_trans (toGr hb2) (toGr hb3)
          rcases lb with _ | _
          · go_wp2_with fail
            go_meet
            exact ⟨false, rfl, (fun h => by cases h), hc3.mono (by omega), hg3⟩
          · go_wp2_with fail
            refine (oneB_any g (t + 4 * n) 2 w3 hc3 (by omega) (by omega)).mono ?_
            rintro e w4 ⟨bb, rfl, hc4, hg4⟩
            go_wp2_with fail
            go_meet
            exact ⟨bb, rfl, (fun _ => ⟨HIN.out.1, HIN.out.2.2⟩), hc4, growB_trans hg3 hg4⟩
      case rest =>
        obtain ⟨bb, rfl, HBB, hc6, hg6⟩ := hcut
        obtain ⟨w6, HWC⟩ : ∃ wq : World, wq = wc := ⟨_, rfl⟩
        subst HWC
        have hown6 := own_grownG HOWN.out hg6 (by omega)
        have hP6 := HPR.out.grownG hAo hg6
        have hQ6 := HQR.out.grownG hBo hg6
        have BP6 := BPr.grown hg6 (fun e => by injection e with e; omega)
        have BQ6 := BQr.grown hg6 (fun e => by injection e with e; omega)
        have hg06 := growB_trans hg hg6
        have hz6 := Nat.le_trans hzr hg6.size
        clear BPr BQr HM HMB HOWN HPR HQR kP kQ hc hg6 hg
        go_upto_if 38 with fail
        go_cut [7, 9, 10, 11, 12] from 38 to 78 (fun u7 _ _ _ _ wx => ∃ A5 m5 c5 L5, u7 = .slice A5 m5 c5 ∧ m5 ≤ n ∧ wx.ownsRow (w.heap.size + 1 + 1) 3 1 (.slice A5 m5 c5) m5 (ints L5) ∧ Hid (∀ z ∈ L5, -1 ≤ z ∧ z ≤ 1000) ∧ CurB B wx g (t + 4 * n + 2) ∧ w0.grownBy wx (some g))
        case first =>
          rcases bb with _ | _
          · go_wp2_with fail
            go_meet
            exact ⟨A', n, c', L, rfl, Nat.le_refl _, hown6, fun z hz => by have := HL.out z hz; omega, hc6, hg06⟩
          · obtain ⟨hGF, hLin⟩ := HBB.out (by first | rfl | trivial)
            have HGF := Lib.hid hGF
            have HLI := Lib.hid hLin
            have hFl := hP6.len
            have HFL := Lib.hid hFl
            have hP6v := hP6.toRV
            have hQ6v := hQ6.toRV
            have hb7 := below_box w6 (.cells #[] 3)
            have hown7 : (w6.alloc (.cells #[] 3)).ownsRow w6.heap.size 3 1 (.slice (some ⟨w6.heap.size, 0, none⟩) 0 0) 0 (ints []) := World.ownsRow_lit w6 #[] 0 (Nat.le_refl _) (Nat.zero_le _) rfl
            clear hGF hLin hFl hP6 hQ6
            go_wp2_with fail
            go_loopw [9, 10, 11, 12] (fun v i _ _ wr => ∃ (x : Nat) (A2 : Option Addr) (c2 : Nat) (O : List Int), x ≤ n ∧ i = .int .i64 x ∧ v = .slice A2 x c2 ∧ wr.ownsRow w6.heap.size 3 1 (.slice A2 x c2) x (ints O) ∧ (∀ z ∈ O, -1 ≤ z ∧ z ≤ 1000) ∧ Below w6.heap.size w6 wr) (fun _ i _ _ _ => n - (intOf i).toNat)
            case atStart => exact ⟨0, _, 0, [], Nat.zero_le _, rfl, rfl, hown7, fun z hz => by simp at hz, hb7⟩
            case round =>
              clear hown7 hb7
              obtain ⟨x, A2, c2, O, hx, rfl, rfl, howO, hO, hT⟩ := hrel
              have HO := Lib.hid hO
              clear hO
              by_cases hlx : x < n
              · have hx0 : (0 : Int) ≤ (x : Int) := by omega
                have hx1 : (x : Int) < (n : Int) := by omega
                obtain ⟨wy, HWY⟩ : ∃ wy : World, wy = wr := ⟨_, rfl⟩
                subst HWY
                have hzy := hT.size
                obtain ⟨pb, po, vp, p, rfl, hcp, ⟨P1, lp, dp, rfl, hp⟩, -, hpx⟩ := (hP6v.next stab_RVI hT).at hlx
                have hpin : ∀ u ∈ p, 0 ≤ u ∧ u < (n : Int) := fun u hu => by
                  have h1 := (HGF.out.2.1 x (by rw [HFL.out]; exact hlx)).2
                  rw [rowOf_get hpx, HFL.out] at h1
                  have := allIn_iff.1 h1 u hu
                  omega
                have hlpn : lp ≤ n := by
                  have h1 := HGF.out.2.1 x (by rw [HFL.out]; exact hlx)
                  unfold RowP at h1
                  rw [rowOf_get hpx, HFL.out] at h1
                  have h2 : setB (n : Int) p = true := by unfold setB; rw [h1.1, h1.2]; rfl
                  have := isSet_len (setB_iff.1 h2)
                  rw [hp.len] at this
                  exact this
                have HPI := Lib.hid hpin
                have kP := (BP6.next hT).cell 0
                simp at kP
                have hbx := below_box wy (.cells #[] 3)
                have hownS : (wy.alloc (.cells #[] 3)).ownsRow wy.heap.size 3 1 (.slice (some ⟨wy.heap.size, 0, none⟩) 0 0) 0 (ints []) := World.ownsRow_lit wy #[] 0 (Nat.le_refl _) (Nat.zero_le _) rfl
                have hownF := own_next hown6 hT
                have hle := hp.le
                clear hpx hpin
                go_wp2_with fail
                go_loopw [11, 12] (fun v i wr => ∃ (k : Nat) (A3 : Option Addr) (c3 : Nat) (S : List Int), k ≤ lp ∧ i = .int .i64 k ∧ v = .slice A3 k c3 ∧ wr.ownsRow wy.heap.size 3 1 (.slice A3 k c3) k (ints S) ∧ (∀ z ∈ S, 0 ≤ z ∧ z ≤ (m : Int) - 1) ∧ Below wy.heap.size wy wr) (fun _ i _ => lp - (intOf i).toNat)
                case atStart => exact ⟨0, _, 0, [], Nat.zero_le _, rfl, rfl, hownS, fun z hz => by simp at hz, hbx⟩
                case round =>
                  clear hownS hbx
                  obtain ⟨k, A3, c3, S, hk, rfl, rfl, howS, hS, hTk⟩ := hrel
                  have HS := Lib.hid hS
                  clear hS
                  have hcpr := keepP hTk hcp
                  have kPr := keepP hTk kP
                  have hzk := hTk.size
                  by_cases hlk : k < lp
                  · have hk0 : (0 : Int) ≤ (k : Int) := by omega
                    have hk1 : (k : Int) < (lp : Int) := by omega
                    obtain ⟨b1, o1, v1, u, rfl, hcu, ⟨rfl, -, -⟩, -, hux⟩ := (hp.next stab_RI hTk).at hlk
                    have hu := HPI.out u (List.mem_of_getElem? hux)
                    obtain ⟨u', rfl⟩ := Int.eq_ofNat_of_zero_le hu.1
                    have hu' : u' < n := by omega
                    have hownFr := own_next hownF hTk
                    obtain ⟨fb, rfl, -, -⟩ := own_form hownFr (by omega)
                    have hLl : L.length = n := by have := hownFr.1; simpa [ints] using this
                    have hLu := HLI.out _ (List.getElem_mem (l := L) (n := u') (by omega))
                    have hcf : wr.cell? ⟨fb, u', none⟩ = some (.int .i64 (L[u']'(by omega))) := by rw [hownFr.cellAt u' (by omega), ints, List.getElem?_map, List.getElem?_eq_getElem (by omega)]; rfl
                    generalize L[u']'(by omega) = z at hLu hcf
                    have hu0 : (0 : Int) ≤ (u' : Int) := by omega
                    have hu1 : (u' : Int) < (n : Int) := by omega
                    clear hux hownFr hLl hu
                    go_wp2_with (at_builtin; refine app1 wr rfl _ _ 27 3 rfl (.int .i64 0) 8 Try.underlying27 info_int rfl (by decide) wy.heap.size k c3 A3 (ints S) rfl howS (.int .i64 z) rfl rfl (by omega) hzk ?_; intro A9 c9 w9 hown9 hg9 hb9)
                    go_roundw
                    case rel => exact ⟨k + 1, A9, c9, S ++ [z], by omega, by go_num, rfl, by rw [← ints_snocG]; exact hown9, fun v hv => by
                      rcases List.mem_append.1 hv with hv | hv
                      · exact HS.out v hv
                      · rw [List.mem_singleton.1 hv]; exact hLu, hTk.trans hb9⟩
                    case measure => simp [intOf]; omega
                  · obtain rfl : lp = k := by omega
                    have hk1 : ¬ (lp : Int) < (lp : Int) := by omega
                    have hTw := below_next hT hTk rfl
                    have kQ := (BQ6.next hTw).cell 0
                    simp at kQ
                    have HD := Lib.hid (l23Dual_any Bq m d G wr (hQ6v.next stab_RVI hTw) (by omega))
                    have howO2 := own_next howO hTk
                    clear howO
                    go_wp2_with fail
                    refine HD.out.mono ?_
                    rintro e w8 ⟨A8, c8, rfl, hr8, hT8⟩
                    have hS8 := rd_of_own (R := RI) (own_next howS hT8) (RI_ints fun y hy => by have := HS.out y hy; omega)
                    have HBD := Lib.hid (l24Bound_any A8 A3 m c8 lp c3 _ S w8 hr8 hS8 HS.out (by omega))
                    have howO3 := own_next howO2 hT8
                    clear hr8 hS8 howO2 HD
                    go_wp2_with fail
                    refine HBD.out.mono ?_
                    rintro e w9 ⟨rfl, hT9⟩
                    have howO4 := own_next howO3 hT9
                    have hT69 := below_next (below_next hTw hT8 rfl) hT9 rfl
                    have hz9 := hT69.size
                    obtain ⟨gv, HGV⟩ : ∃ gv, Hid (grI (leF (posTo m (duF (leF G)) m)) (rowTo (alB (leF (posTo m (duF (leF G)) m)) S) 0 m) = gv) := ⟨_, rfl⟩
                    have hgv : -1 ≤ gv ∧ gv ≤ 1000 := by rw [← HGV.out]; exact bound_bd (by omega) _ _ _
                    rw [HGV.out]
                    clear howO3 HBD
                    go_wp2_with (at_builtin; refine app1 w9 rfl _ _ 27 3 rfl (.int .i64 0) 8 Try.underlying27 info_int rfl (by decide) w6.heap.size x c2 A2 (ints O) rfl howO4 (.int .i64 gv) rfl rfl (by omega) hz9 ?_; intro A10 c10 w10 hown10 hg10 hb10)
                    go_roundw
                    case rel => exact ⟨x + 1, A10, c10, O ++ [gv], by omega, by go_num, rfl, by rw [← ints_snocG]; exact hown10, fun v hv => by
                      rcases List.mem_append.1 hv with hv | hv
                      · exact HO.out v hv
                      · rw [List.mem_singleton.1 hv]; exact hgv, hT69.trans hb10⟩
                    case measure => simp [intOf]; omega
              · obtain rfl : n = x := by omega
                have hx1 : ¬ (n : Int) < (n : Int) := by omega
                have hcm := hc6.next_ hT
                have hgm := growB_trans hg06 (toGr (r := some g) hT)
                have HOWN := Lib.hid (own_mono (base' := w.heap.size + 1 + 1) howO hz6)
                clear howO
                go_wp2_with fail
                go_meet
                exact ⟨A2, n, c2, O, rfl, Nat.le_refl _, HOWN.out, HO.out, hcm, hgm⟩
        case rest =>
          obtain ⟨A5, m5, c5, L5, rfl, hm5, hown7, HL5, hc7, hg7⟩ := hcut
          obtain ⟨w7, HWC⟩ : ∃ wq : World, wq = wc := ⟨_, rfl⟩
          subst HWC
          clear hown6 hP6 hQ6 BP6 BQ6 hg06 hc6 HL HBB
          have H1 := Lib.hid (oneB_any g (t + 4 * n + 2) 24 w7 hc7 (by omega) (by omega))
          go_wp2_with fail
          refine H1.out.mono ?_
          rintro e w8 ⟨bb, rfl, hc8, hg8⟩
          have hown8 := own_grownG hown7 hg8 (by omega)
          have hg08 := growB_trans hg7 hg8
          have hz8 : w.heap.size + 1 + 1 ≤ w8.heap.size := by have := hg08.size; omega
          have hgw8 := growB_trans (toGr (r := some g) hb0) hg08
          clear hown7 H1
          rcases bb with _ | _
          · have HO := Lib.hid hown8
            clear hown8
            go_wp2_with fail
            go_ret
            exact ⟨A5, m5, c5, L5, rfl, own_mono HO.out (by omega), fun z hz => by have := HL5.out z hz; omega, by omega, hc8.mono (by omega), hgw8⟩
          · go_wp2_with (at_builtin; refine app1 w8 rfl _ _ 27 3 rfl (.int .i64 0) 8 Try.underlying27 info_int rfl (by decide) (w.heap.size + 1 + 1) m5 c5 A5 (ints L5) rfl hown8 (.int .i64 0) rfl rfl (by omega) hz8 ?_; intro A9 c9 w9 hown9 hg9 hb9)
            have hc9 := hc8.grown hg9 fun r hr => by have := (hown8.lt r hr).1; omega
            have hg9' := growB_own hgw8 hg9 fun r hr => by have := (hown8.lt r hr).1; omega
            have HO := Lib.hid hown9
            clear hown9 hown8 hg9
            go_ret
            exact ⟨A9, m5 + 1, c9, L5 ++ [0], rfl, by rw [← ints_snocG]; exact own_mono HO.out (by omega), fun z hz => by
              rcases List.mem_append.1 hz with hz | hz
              · have := HL5.out z hz; omega
              · rw [List.mem_singleton.1 hz]; omega, by omega, hc9.mono (by omega), hg9'⟩
end Go.Proofs.Ytlncpabnlnipoaa
