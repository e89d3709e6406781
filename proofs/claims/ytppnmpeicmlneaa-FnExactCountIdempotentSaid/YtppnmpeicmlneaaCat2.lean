
/- Walks: IsCatalogue of the program. -/
import Derived.Test.YtppnmpeicmlneaaCat1
import Derived.Test.YtppnmpeicmlneaaHEntry
namespace Go.Proofs.Ytppnmpeicmlneaa
open Go.RowKit

def lastB (pre : List EntryM) (e : EntryM) : Bool := match pre.getLast? with | none => true | some p => befB p.2 e.2
noncomputable def okE (pre : List EntryM) (e : EntryM) : Bool := nameB e.1 && (!(hasS e.1 (pre.map (·.1))) && (smallB e.2 && (eqC (canA e.2) e.2 && lastB pre e)))
noncomputable def catF : List EntryM → List EntryM → Bool
  | _, [] => true
  | pre, e :: l => okE pre e && catF (pre ++ [e]) l
noncomputable def catB (xs : List EntryM) : Bool := decide (xs.length ≤ 12) && catF [] xs
def CatAt (xs : List EntryM) (k : Nat) : Prop := catF (xs.take k) (xs.drop k) = catF [] xs
theorem CatAt.step {xs : List EntryM} {k : Nat} {e : EntryM} (h : CatAt xs k) (hd : xs.drop k = e :: xs.drop (k + 1)) (hx : xs[k]? = some e) (ho : okE (xs.take k) e = true) : CatAt xs (k + 1) := by
  unfold CatAt at *
  rw [hd, catF, ho, Bool.true_and] at h
  rw [take_snoc hx]
  exact h
theorem CatAt.stop {xs : List EntryM} {k : Nat} {e : EntryM} (h : CatAt xs k) (hd : xs.drop k = e :: xs.drop (k + 1)) (ho : okE (xs.take k) e = false) : false = catB xs := by
  unfold CatAt at *
  rw [hd, catF, ho, Bool.false_and] at h
  unfold catB
  rw [← h, Bool.and_false]
theorem CatAt.done {xs : List EntryM} {k : Nat} (h : CatAt xs k) (hl : xs.length ≤ 12) (hk : ¬ k < xs.length) : true = catB xs := by
  unfold CatAt at *
  rw [List.drop_eq_nil_of_le (by omega), catF] at h
  unfold catB
  rw [← h, Bool.and_true]
  exact (decide_eq_true hl).symm
theorem catB_big {xs : List EntryM} (h : ¬ xs.length ≤ 12) : false = catB xs := by unfold catB; rw [decide_eq_false h, Bool.false_and]
theorem Below.keptMap {B : Nat} {w w1 w2 : World} (h : Below B w w1) {b : Nat} (hg : w1.grownBy w2 (some b)) (hB : B ≤ b) (hz : B ≤ w1.heap.size) : Below B w w2 := h.grown hg hz fun j hj => by cases hj; exact hB

set_option maxRecDepth 100000 in
set_option maxHeartbeats 16000000 in
theorem isCat_any (A : Option Addr) (n c : Nat) (xs : List EntryM) (w : World) (h : RdN shEntry.m shEntry.rd w A n xs) :
    Calls Try.prog 55 #[.slice A n c] w (Bl w (.bool (catB xs))) := by
  obtain rfl : xs.length = n := h.len
  have hle := h.le
  have hmm := @run_makeMap Try.prog
  by_cases hn : xs.length ≤ 12
  · have hn' : ¬ (12 : Int) < (xs.length : Int) := by omega
    obtain ⟨w0, hw0⟩ : ∃ w0, w0 = w.alloc (.map #[] 0) := ⟨_, rfl⟩
    have M0 : MapS w0 w.heap.size [] := by rw [hw0]; exact MapS.made _
    have T0 : Below w.heap.size w w0 := by rw [hw0]; exact below_box _ _
    have HW0 := Lib.hid hw0
    clear hw0
    go_enter Try.func55, Try.ntmps55
    go_wp2_with fail
    rw [← HW0.out]
    go_loopw [14] (fun i wr => ∃ k : Nat, k ≤ xs.length ∧ i = .int .i64 k ∧ CatAt xs k ∧ (∀ e ∈ xs.take k, SmallP e.2) ∧ MapS wr w.heap.size ((xs.take k).map (·.1)) ∧ Below w.heap.size w wr) (fun i _ => xs.length - (intOf i).toNat)
    case atStart => exact ⟨0, Nat.zero_le _, rfl, rfl, (fun e he => by simp at he), M0, T0⟩
    case round =>
      clear M0 T0
      obtain ⟨k, hk, rfl, H, hS, hM, hTw⟩ := hrel
      have hmb := hM.lt
      by_cases hlt : k < xs.length
      · obtain ⟨b, o, vs, e, hA, -, hc, hr, hd, hxe⟩ := h.at hlt
        obtain ⟨Bm, m, d, rfl, hsz, hIn, hops⟩ := rdEntry hr
        have cc0 : wr.cell? ⟨b, o + k * 3, none⟩ = some (.string e.1) := keepc hTw (hc 0 _ rfl)
        have cc1 : wr.cell? ⟨b, o + k * 3 + 1, none⟩ = some (.int .i64 e.2.1) := keepc hTw (hc 1 _ rfl)
        have cc2 : wr.cell? ⟨b, o + k * 3 + 2, none⟩ = some (.slice Bm m d) := keepc hTw (hc 2 _ rfl)
        have hral := mkAlgebra (cOps := d) hIn hops
        obtain ⟨wb, HWB⟩ : ∃ wb, Hid (wb = wr.alloc (.cells #[.string e.1, .int .i64 e.2.1, .slice Bm m d] 117)) := ⟨_, rfl⟩
        have hb1 : Below wr.heap.size wr wb := by rw [HWB.out]; exact below_box _ _
        have BN : Blk wb wr.heap.size 117 #[.string e.1, .int .i64 e.2.1, .slice Bm m d] := by rw [HWB.out]; exact Blk.new _ _ _
        have Tb := below_next hTw hb1 rfl
        have Mb := hM.next hb1
        have hra := shAlgebra.stab hral Tb.block
        have cN0 := BN.cell 0
        have cN1 := BN.cell 1
        have cN2 := BN.cell 2
        simp at cN0 cN1 cN2
        have HL := Lib.hid Mb
        have HST := Lib.hid hS
        have HH := Lib.hid H
        have HD := Lib.hid hd
        have HX := Lib.hid hxe
        have hk0 : (0 : Int) ≤ (k : Int) := by omega
        have hk1 : (k : Int) < (xs.length : Int) := by omega
        subst hA
        obtain ⟨pre, HP⟩ : ∃ pre, Hid (xs.take k = pre) := ⟨_, rfl⟩
        have hpl : pre.length = k := by rw [← HP.out, List.length_take]; omega
        have HPL := Lib.hid hpl
        rw [HP.out] at Mb
        obtain ⟨r1, HR1⟩ : ∃ r, Hid (nameB e.1 = r) := ⟨_, rfl⟩
        obtain ⟨r2, HR2⟩ : ∃ r, Hid (hasS e.1 (pre.map (·.1)) = r) := ⟨_, rfl⟩
        obtain ⟨r3, HR3⟩ : ∃ r, Hid (smallB e.2 = r) := ⟨_, rfl⟩
        have HOK : Hid (okE (xs.take k) e = (r1 && (!r2 && (r3 && (eqC (canA e.2) e.2 && lastB pre e))))) := by show _ = _; rw [HP.out]; unfold okE; rw [HR1.out, HR2.out, HR3.out]
        have hlook := Mb.look hsz
        rw [HR2.out] at hlook
        clear hS H hd hxe hc hr hpl
        rcases r1 with _ | _
        · go_wp2_with fail
          rw [← HWB.out]
          go_wp2_with (go_at_call 99; refine (isName_any _ _ hsz).mono ?_; rintro e' w' ⟨rfl, rfl⟩; rw [HR1.out])
          go_ret
          exact ⟨ret_bool (HH.out.stop HD.out (by rw [HOK.out]; rfl)), Tb⟩
        · rcases r2 with _ | _
          · rcases r3 with _ | _
            · go_wp2_with fail
              rw [← HWB.out]
              go_wp2_with (go_at_call 99; refine (isName_any _ _ hsz).mono ?_; rintro e' w' ⟨rfl, rfl⟩; rw [HR1.out])
              refine (isNamed_any _ e.2 _ hra).mono ?_
              rintro e' w1 ⟨rfl, hb2⟩
              rw [HR3.out]
              have T1 := below_next Tb hb2 rfl
              go_wp2_with fail
              go_ret
              exact ⟨ret_bool (HH.out.stop HD.out (by rw [HOK.out]; rfl)), T1⟩
            · have hsm := small_iff.1 HR3.out
              go_wp2_with fail
              rw [← HWB.out]
              go_wp2_with (go_at_call 99; refine (isName_any _ _ hsz).mono ?_; rintro e' w' ⟨rfl, rfl⟩; rw [HR1.out])
              refine (isNamed_any _ e.2 _ hra).mono ?_
              rintro e' w1 ⟨rfl, hb2⟩
              rw [HR3.out]
              have T1 := below_next Tb hb2 rfl
              have M1 := Mb.next hb2
              have BN1 := BN.next hb2
              obtain ⟨w2, hput, M2, g2⟩ := M1.put hsz (by rw [List.length_map, HPL.out]; unfold maxLen; omega)
              have T2 : Below w.heap.size w w2 := Below.keptMap T1 g2 (Nat.le_refl _) T1.size
              have BN2 : Blk w2 wr.heap.size 117 #[.string e.1, .int .i64 e.2.1, .slice Bm m d] := BN1.grown g2 (by intro hh; injection hh with hh; omega)
              have M2' : MapS w2 w.heap.size ((pre ++ [e]).map (·.1)) := by rw [List.map_append]; exact M2
              have HPS : Hid (xs.take (k + 1) = pre ++ [e]) := by show _ = _; rw [take_snoc HX.out, HP.out]
              obtain ⟨n, hne⟩ : ∃ n : Nat, e.2.1 = (n : Int) := ⟨e.2.1.toNat, by have h1 := hsm.1; omega⟩
              have HCAN := Lib.hid (canonical_any [.int .i64 e.2.1, .slice Bm m d] e.2 n w2 (shAlgebra.stab hral T2.block) hsm hne)
              have HEX : Hid (((n : Int), (canA e.2).2) = canA e.2) := by show _ = _; rw [← hne]; rfl
              have HRX : Hid (InR (n : Int)) := by show InR _; rw [← hne]; exact small_R hsm
              clear cN0 cN1 cN2 hlook hne
              have cL0 := BN1.cell 0
              clear M2 M1 Mb BN BN1 cc0 cc1 cc2 hM
              have cN0 := BN2.cell 0
              have cN1 := BN2.cell 1
              have cN2 := BN2.cell 2
              simp at cN0 cN1 cN2 cL0
              go_wp2_with fail
              clear cN0 cN1 cN2 cL0 hput
              refine HCAN.out.mono ?_
              rintro e' w3 ⟨vb, css, bls, Af, cf, rfl, hP, -, hb3⟩
              have T3 := below_next T2 hb3 rfl
              have BN3 := BN2.next hb3
              have M3 := M2'.next hb3
              obtain ⟨VX, vcx, rfl⟩ := own_slice hP.2.1
              obtain ⟨LX, HLX⟩ : ∃ L, Hid ((canA e.2).2.length = L) := ⟨_, rfl⟩
              rw [HLX.out] at hP
              rw [HLX.out]
              obtain ⟨w4, hw4, T4', -, BX⟩ := boxes1 w3 #[.int .i64 (n : Int), .slice VX LX vcx] 41
              have HW4 := Lib.hid hw4
              have T4 := below_next T3 T4' rfl
              have BN4 := BN3.next T4'
              have M4 := M3.next T4'
              have rdx : shAlgebra.rd w4 [.int .i64 (n : Int), .slice VX LX vcx] (canA e.2) := by
                have := (hP.next T4').alg HRX.out
                rw [HEX.out] at this
                exact this
              have rdm := shAlgebra.stab hral T4.block
              clear hw4 hP BN2 M2'
              go_upto_region 11 with fail
              rw [← HW4.out]
              have cX0 := BX.cell 0
              have cX1 := BX.cell 1
              have cN1 := BN4.cell 1
              have cN2 := BN4.cell 2
              simp at cX0 cX1 cN1 cN2
              go_wp2_with fail
              refine (sameAlgebra_any _ _ _ _ _ rdx rdm).mono ?_
              rintro e' w5 ⟨rfl, hb5⟩
              have T5 := below_next T4 hb5 rfl
              have M5 := M4.next hb5
              have BN5 := BN4.next hb5
              obtain ⟨r4, HR4⟩ : ∃ r, Hid (eqC (canA e.2) e.2 = r) := ⟨_, rfl⟩
              rw [HR4.out]
              rw [HR4.out] at HOK
              clear cX0 cX1 cN1 cN2
              rcases r4 with _ | _
              · go_wp2_with fail
                go_ret
                exact ⟨ret_bool (HH.out.stop HD.out (by rw [HOK.out]; rfl)), T5⟩
              · have HSN : Hid (∀ e' ∈ xs.take (k + 1), SmallP e'.2) := by
                  show ∀ e' ∈ xs.take (k + 1), SmallP e'.2
                  intro e' he'
                  rw [HPS.out, List.mem_append] at he'
                  rcases he' with h1 | h1
                  · exact HST.out e' (by rw [HP.out]; exact h1)
                  · rw [List.mem_singleton] at h1
                    subst h1
                    exact hsm
                by_cases hk00 : k = 0
                · have hkz : ¬ (0 : Int) < (k : Int) := by omega
                  have HLB : Hid (lastB pre e = true) := by
                    show _ = _
                    have : pre = [] := List.eq_nil_of_length_eq_zero (by rw [HPL.out]; exact hk00)
                    rw [this]
                    rfl
                  clear hk00
                  go_upto_region 13 with fail
                  have hkz2 : decide (0 < k) = false := decide_eq_false (by omega)
                  go_quiet (fail)
                  clear hkz2
                  go_wp2_with fail
                  go_roundw
                  case rel => exact ⟨k + 1, by omega, by go_num, HH.out.step HD.out HX.out (by rw [HOK.out, HLB.out]; rfl), HSN.out, by rw [HPS.out]; exact M5, below_drewN T5 _⟩
                  case measure => simp [intOf]; omega
                · have hkz : (0 : Int) < (k : Int) := by omega
                  obtain ⟨b', o', vs', p, hA', -, hc', hr', -, hxp⟩ := h.at (k := k - 1) (by omega)
                  have hA2 := hA'
                  simp only [Option.some.injEq, Addr.mk.injEq, and_true] at hA2
                  obtain ⟨rfl, rfl⟩ := hA2
                  obtain ⟨Bp, mp, dp, rfl, -, hIp, hops'⟩ := rdEntry hr'
                  have hpm : p ∈ xs.take k := by
                    have : (xs.take k)[k - 1]? = some p := by rw [List.getElem?_take, if_pos (by omega)]; exact hxp
                    exact List.mem_of_getElem? this
                  have hsp := HST.out p hpm
                  have HLB : Hid (lastB pre e = befB p.2 e.2) := by
                    show _ = _
                    unfold lastB
                    rw [← HP.out, List.getLast?_take, if_neg hk00, hxp]
                    rfl
                  have hral' := mkAlgebra (cOps := dp) hIp hops'
                  have d1 : w5.cell? ⟨b, o + (k - 1) * 3 + 1, none⟩ = some (.int .i64 p.2.1) := keepc T5 (hc' 1 _ rfl)
                  have d2 : w5.cell? ⟨b, o + (k - 1) * 3 + 2, none⟩ = some (.slice Bp mp dp) := keepc T5 (hc' 2 _ rfl)
                  have hB := befB_cmp p.2 e.2
                  obtain ⟨cv, HCV⟩ : ∃ cv, Hid (cmpI p.2 e.2 = cv) := ⟨_, rfl⟩
                  rw [HCV.out] at hB
                  have HB := Lib.hid hB
                  have HC1 : ∀ wz, Below w5.heap.size w5 wz → Calls Try.prog 100 #[.agg #[.int .i64 p.2.1, .slice Bp mp dp], .agg #[.int .i64 e.2.1, .slice Bm m d]] wz (Bl wz (.int .i64 cv)) := fun wz hz => by
                    have T := below_next T5 hz rfl
                    have := compareModels_any [.int .i64 p.2.1, .slice Bp mp dp] [.int .i64 e.2.1, .slice Bm m d] p.2 e.2 wz (shAlgebra.stab hral' T.block) (shAlgebra.stab hral T.block) hsp hsm
                    rw [HCV.out] at this
                    exact this
                  clear hk00 hA' hc' hr' hxp hpm hB hops' hops hIp
                  go_upto_region 13 with fail
                  have Tk : Below w5.heap.size w5 w5 := Below.refl _ _
                  have cN1 := BN5.cell 1
                  have cN2 := BN5.cell 2
                  simp at cN1 cN2
                  have hw1 : IntKind.i64.wrap ((k : Int) - 1) = (k : Int) - 1 := IntWalk.i64_in _ ⟨by omega, by omega⟩
                  have hw2 : ((k : Int) - 1).toNat = k - 1 := by omega
                  have hw3 : (0 : Int) ≤ (k : Int) - 1 := by omega
                  have hw4 : (k : Int) - 1 < (xs.length : Int) := by omega
                  have hkz2 : decide (0 < k) = true := decide_eq_true (by omega)
                  have hw5 : (1 : Int) ≤ (k : Int) := by omega
                  have hw6 : (k : Int) ≤ (xs.length : Int) := by omega
                  have hw7 : 1 ≤ k := by omega
                  have hw8 : 0 < k := by omega
                  go_cut [62] (fun v62 wx => v62 = .bool (decide (0 ≤ cv)) ∧ Below w5.heap.size w5 wx)
                  case first =>
                    go_region_held3 (fun w' => w'.cell? ⟨wr.heap.size, 1, none⟩ = some (.int .i64 e.2.1) ∧ w'.cell? ⟨wr.heap.size, 2, none⟩ = some (.slice Bm m d) ∧ w'.cell? ⟨b, o + (k - 1) * 3 + 1, none⟩ = some (.int .i64 p.2.1) ∧ w'.cell? ⟨b, o + (k - 1) * 3 + 2, none⟩ = some (.slice Bp mp dp)) (first | go_keep | exact ⟨keepc Tk cN1, keepc Tk cN2, keepc Tk d1, keepc Tk d2⟩) (first
                      | (go_at_call 100; (with_reducible refine (HC1 _ ?_).mono ?_); (first | exact Tk | exact Below.drew Tk); rintro e' wn ⟨rfl, hbn⟩; replace Tk := below_next (by first | exact Tk | exact Below.drew Tk) hbn rfl))
                    all_goals
                      go_wp2_with fail
                      go_meet
                      exact ⟨rfl, by first | exact Tk | exact Below.drew Tk⟩
                  case rest =>
                    obtain ⟨rfl, hTc⟩ := hcut
                    have T6 := below_next T5 hTc rfl
                    have M6 := M5.next hTc
                    clear cN1 cN2 d1 d2 HC1 Tk hw1 hw2 hw3 hw4 hw5 hw6 hw7 hw8 hkz2
                    by_cases hcv : cv < 0
                    · have hcv' : decide (0 ≤ cv) = false := decide_eq_false (by omega)
                      have HB2 : Hid (befB p.2 e.2 = true) := by show _ = _; rw [HB.out]; exact decide_eq_true hcv
                      go_wp2_with fail
                      go_roundw
                      case rel => exact ⟨k + 1, by omega, by go_num, HH.out.step HD.out HX.out (by rw [HOK.out, HLB.out, HB2.out]; rfl), HSN.out, by rw [HPS.out]; exact M6, T6⟩
                      case measure => simp [intOf]; omega
                    · have hcv' : decide (0 ≤ cv) = true := decide_eq_true (by omega)
                      have HB2 : Hid (befB p.2 e.2 = false) := by show _ = _; rw [HB.out]; exact decide_eq_false hcv
                      go_wp2_with fail
                      go_ret
                      exact ⟨ret_bool (HH.out.stop HD.out (by rw [HOK.out, HLB.out, HB2.out]; rfl)), T6⟩
          · go_wp2_with fail
            rw [← HWB.out]
            go_wp2_with (go_at_call 99; refine (isName_any _ _ hsz).mono ?_; rintro e' w' ⟨rfl, rfl⟩; rw [HR1.out])
            go_ret
            exact ⟨ret_bool (HH.out.stop HD.out (by rw [HOK.out]; rfl)), Tb⟩
      · have hlt' : ¬ (k : Int) < (xs.length : Int) := by omega
        have HH := Lib.hid H
        clear H hS hM
        go_wp2_with fail
        go_ret
        exact ⟨ret_bool (HH.out.done hn hlt), hTw⟩
  · have hn' : (12 : Int) < (xs.length : Int) := by omega
    go_enter Try.func55, Try.ntmps55
    go_wp2_with fail
    go_ret
    exact ⟨ret_bool (catB_big hn), Below.refl _ _⟩
end Go.Proofs.Ytppnmpeicmlneaa
