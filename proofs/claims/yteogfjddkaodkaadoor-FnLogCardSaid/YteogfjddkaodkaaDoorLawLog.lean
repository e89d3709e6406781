
/- The walk of the law FnLog: what is appended is read back, the rest stands. -/
import Derived.Test.YteogfjddkaodkaaDoorDrawP
import Derived.Test.YteogfjddkaodkaaDoorDrawC
import Derived.Test.YteogfjddkaodkaaDoorCrashL
import Derived.Test.YteogfjddkaodkaaDoorLawLogLines
namespace Go.Proofs.YteogfjddkaodkaaDoor
open Go.RowKit

theorem boxLR2 (w : World) (d p : ByteArray) (n : Int) (c r : ByteArray) : ∃ w3, w3 = (w.alloc (.cells #[.string d, .string p, .int .i64 n] 31)).alloc (.cells #[.string c, .string r] 27) ∧ Below w.heap.size w w3 ∧ w3.heap.size = w.heap.size + 2 ∧ Blk w3 w.heap.size 31 #[.string d, .string p, .int .i64 n] ∧ Blk w3 (w.heap.size + 1) 27 #[.string c, .string r] := by
  refine ⟨_, rfl, below_box2 _ _ _, by simp, (Blk.new w _ _).next (below_box _ _), ?_⟩
  have := Blk.new (w.alloc (.cells #[.string d, .string p, .int .i64 n] 31)) 27 #[.string c, .string r]
  rwa [World.size_alloc] at this
theorem app_no {d p : ByteArray} {n : Int} {c r : ByteArray} (h : apC d p n c r ≠ 0) : apP d p n c r = p ∧ apN d p n c r = n := ⟨by unfold apP; rw [if_neg h], by unfold apN; rw [if_neg h]⟩
/-- The plain facts of a record appended. -/
theorem log_facts {d p : ByteArray} {n : Int} {c r : ByteArray} (h : apC d p n c r = 0) :
    vS (d ++ apP d p n c r) d (apN d p n c r) = true ∧ lrEs d (apP d p n c r) (apN d p n c r) = lrEs d p n ++ [(bs c, bs r)] ∧ apN d p n c r = ((lrEs d p n).length + 1 : Nat)
      ∧ recD (d ++ apP d p n c r) = d ++ apP d p n c r ∧ (recN (d ++ apP d p n c r) : Int) = apN d p n c r ∧ recE (d ++ apP d p n c r) = (d ++ apP d p n c r).size ∧ recB (d ++ apP d p n c r) = true
      ∧ syncD d (apP d p n c r) (apN d p n c r) = d ++ apP d p n c r ∧ syncN d (apP d p n c r) (apN d p n c r) = apN d p n c r ∧ (d ++ apP d p n c r).size ≤ 30000 := by
  obtain ⟨hv, hg, hn0, hn1, hP, hN⟩ := app_facts h
  obtain ⟨a1, a2, a3, a4, a5⟩ := app_valid h
  have e1 : lrEs d (apP d p n c r) (apN d p n c r) = recsOf (readAll (bs (d ++ apP d p n c r))) := by unfold lrEs; rw [if_pos a1]
  have e2 : lrEs d p n = recsOf (readAll (bs (d ++ p))) := by unfold lrEs; rw [if_pos hv]
  obtain ⟨v1, v2, v3, v4⟩ := vS_parts hv
  have hlen : ((lrEs d p n).length : Int) = n := by rw [e2, recsOf_len]; exact v4
  have hb : ¬ 30000 < (d ++ apP d p n c r).size := by omega
  refine ⟨a1, by rw [e1, e2]; exact a2, by omega, ?_, ?_, ?_, ?_, ?_, ?_, a5⟩
  · unfold recD; rw [if_neg hb, a3]; exact ByteArray.extract_zero_size
  · unfold recN; rw [if_neg hb, hN]; exact a4
  · unfold recE; rw [if_neg hb]; exact a3
  · unfold recB; simpa using a5
  · unfold syncD; rw [if_pos a1]
  · unfold syncN; rw [if_pos a1]

set_option maxRecDepth 100000 in
set_option maxHeartbeats 16000000 in
theorem lawLog (A : Option Addr) (n c : Nat) (xs : List Int) (w : World) (h : RdL RU8 w A n xs) (ht : Tab w) :
    Calls Tryd.prog 11 #[.slice A n c] w (Bl w (.bool true)) := by
  have hle := h.le
  by_cases hbig : 65536 < n
  · go_enter Tryd.func11, Tryd.ntmps11
    have hd : decide (65536 < n) = true := by simpa using hbig
    go_wp2_with fail
    refine (vBig_any A n c _ hle).mono ?_
    rintro e w' ⟨rfl, rfl⟩
    rw [hd]
    go_wp2_with fail
    go_ret
    exact ⟨rfl, Below.refl _ _⟩
  have hC := code_in h (by omega)
  have HDb : Hid (decide (65536 < n) = false) := by show _ = _; simpa using hbig
  clear hbig
  go_enter Tryd.func11, Tryd.ntmps11
  go_wp2_with fail
  refine (vBig_any A n c _ hle).mono ?_
  rintro e w' ⟨rfl, rfl⟩
  rw [HDb.out]
  go_wp2_with fail
  refine (drawAppend_any A n c _ hC).mono ?_
  rintro e w1 ⟨d, p, m, x, y, hdp, hx, hy, rfl, T1⟩
  obtain ⟨w2, hw2, T2', hsz2, BL, BE⟩ := boxLR2 w1 d p m x y
  have T2 := below_next T1 T2' rfl
  have HW2 := Lib.hid hw2
  have hno : apC d p m x y ≠ 0 → Hid (apP d p m x y = p ∧ apN d p m x y = m) := fun hh => app_no hh
  have hyes : apC d p m x y = 0 → Hid _ := fun hh => log_facts hh
  have hPs : (apP d p m x y).size ≤ p.size + 30000 := by
    by_cases hh : apC d p m x y = 0
    · obtain ⟨-, -, h1, h2, -, -⟩ := app_facts hh
      have := apP_size (d := d) (p := p) (n := m) hx hy (by omega)
      omega
    · rw [(app_no hh).1]; omega
  obtain ⟨P, HP⟩ : ∃ P, Hid (apP d p m x y = P) := ⟨_, rfl⟩
  obtain ⟨M, HM⟩ : ∃ P, Hid (apN d p m x y = P) := ⟨_, rfl⟩
  obtain ⟨C, HC⟩ : ∃ P, Hid (apC d p m x y = P) := ⟨_, rfl⟩
  rw [HP.out] at hPs
  rw [HP.out, HM.out, HC.out] at hno hyes
  have cL0 := BL.cell 0
  have cL1 := BL.cell 1
  have cL2 := BL.cell 2
  have cE0 := BE.cell 0
  have cE1 := BE.cell 1
  simp at cL0 cL1 cL2 cE0 cE1
  rw [HW2.out] at cL0 cL1 cL2 cE0 cE1
  clear hw2
  go_wp2_with fail
  rw [← HW2.out]
  refine (implApp_any d p m x y _ (by omega) (by unfold maxLen; omega) (by unfold maxLen; omega) (ht.next T2)).mono ?_
  rintro e w3 ⟨rfl, hb3⟩
  rw [HP.out, HM.out, HC.out]
  have T3 := below_next T2 hb3 rfl
  obtain ⟨w4, hw4, T4', hsz4, BM⟩ := boxL w3 d P M
  have T4 := below_next T3 T4' rfl
  replace BL := (BL.next hb3).next T4'
  replace BE := (BE.next hb3).next T4'
  have HW4 := Lib.hid hw4
  clear cL0 cL1 cL2 cE0 cE1 hb3
  have cL0 := BL.cell 0
  have cL1 := BL.cell 1
  have cL2 := BL.cell 2
  have cE0 := BE.cell 0
  have cE1 := BE.cell 1
  simp at cL0 cL1 cL2 cE0 cE1
  rw [HW4.out] at cL0 cL1 cL2 cE0 cE1
  clear hw4
  go_wp2_with fail
  rw [← HW4.out]
  refine (specApp_any d p m x y _ (by omega) (by unfold maxLen; omega) (by unfold maxLen; omega)).mono ?_
  rintro e w5 ⟨rfl, hb5⟩
  rw [HP.out, HM.out, HC.out]
  have T5 := below_next T4 hb5 rfl
  obtain ⟨w6, hw6, T6', hsz6, BN⟩ := boxL w5 d P M
  have T6 := below_next T5 T6' rfl
  replace BL := (BL.next hb5).next T6'
  replace BE := (BE.next hb5).next T6'
  replace BM := (BM.next hb5).next T6'
  have HW6 := Lib.hid hw6
  clear cL0 cL1 cL2 cE0 cE1 hb5
  have cL0 := BL.cell 0
  have cL1 := BL.cell 1
  have cL2 := BL.cell 2
  have cE0 := BE.cell 0
  have cE1 := BE.cell 1
  have cM0 := BM.cell 0
  have cM1 := BM.cell 1
  have cM2 := BM.cell 2
  have cN0 := BN.cell 0
  have cN1 := BN.cell 1
  have cN2 := BN.cell 2
  simp at cL0 cL1 cL2 cE0 cE1 cM0 cM1 cM2 cN0 cN1 cN2
  obtain ⟨V, HV⟩ : ∃ V, Hid (vS (d ++ p) d m = V) := ⟨_, rfl⟩
  obtain ⟨G, HG⟩ : ∃ V, Hid (goodB x y = V) := ⟨_, rfl⟩
  have hv1 : (V != V) = false := by cases V <;> rfl
  have hg1 : (G != G) = false := by cases G <;> rfl
  clear hw6
  have HWa := HW6
  have HT6 : Tab w6 := ht.next T6
  obtain ⟨L, hL⟩ : ∃ L, Hid (w1.heap.size = L) := ⟨_, rfl⟩
  obtain ⟨K, hK⟩ : ∃ L, Hid (w3.heap.size = L) := ⟨_, rfl⟩
  obtain ⟨K', hK'⟩ : ∃ L, Hid (w5.heap.size = L) := ⟨_, rfl⟩
  have Tk : Below w6.heap.size w6 w6 := Below.refl _ _
  have hms : d.size + p.size ≤ 1048576 := by omega
  have hxm : x.size ≤ maxLen := by unfold maxLen; omega
  have hym : y.size ≤ maxLen := by unfold maxLen; omega
  have hmm : ((M : Int) == M) = true := by simp
  go_upto_region 6 with fail
  rw [← HW6.out]
  clear cL0 cL1 cL2 cE0 cE1 cM0 cM1 cM2 cN0 cN1 cN2 HW2 HW4 HW6 HWa
  go_cut [59] (fun v59 wx => v59 = .bool false ∧ Below w6.heap.size w6 wx)
  case first =>
    have cL0 : w6.cell? ⟨w1.heap.size, 0, none⟩ = some (.string d) := BL.cell 0
    have cL1 : w6.cell? ⟨w1.heap.size, 1, none⟩ = some (.string p) := BL.cell 1
    have cL2 : w6.cell? ⟨w1.heap.size, 2, none⟩ = some (.int .i64 m) := BL.cell 2
    have cE0 : w6.cell? ⟨w1.heap.size + 1, 0, none⟩ = some (.string x) := BE.cell 0
    have cE1 : w6.cell? ⟨w1.heap.size + 1, 1, none⟩ = some (.string y) := BE.cell 1
    have cM0 : w6.cell? ⟨w3.heap.size, 0, none⟩ = some (.string d) := BM.cell 0
    have cM1 : w6.cell? ⟨w3.heap.size, 1, none⟩ = some (.string P) := BM.cell 1
    have cM2 : w6.cell? ⟨w3.heap.size, 2, none⟩ = some (.int .i64 M) := BM.cell 2
    have cN0 : w6.cell? ⟨w5.heap.size, 0, none⟩ = some (.string d) := BN.cell 0
    have cN1 : w6.cell? ⟨w5.heap.size, 1, none⟩ = some (.string P) := BN.cell 1
    have cN2 : w6.cell? ⟨w5.heap.size, 2, none⟩ = some (.int .i64 M) := BN.cell 2
    go_region_held3 (fun w' => w'.cell? ⟨w1.heap.size, 0, none⟩ = some (.string d) ∧ w'.cell? ⟨w1.heap.size, 1, none⟩ = some (.string p) ∧ w'.cell? ⟨w1.heap.size, 2, none⟩ = some (.int .i64 m) ∧ w'.cell? ⟨w1.heap.size + 1, 0, none⟩ = some (.string x) ∧ w'.cell? ⟨w1.heap.size + 1, 1, none⟩ = some (.string y) ∧ w'.cell? ⟨w3.heap.size, 0, none⟩ = some (.string d) ∧ w'.cell? ⟨w3.heap.size, 1, none⟩ = some (.string P) ∧ w'.cell? ⟨w3.heap.size, 2, none⟩ = some (.int .i64 M) ∧ w'.cell? ⟨w5.heap.size, 0, none⟩ = some (.string d) ∧ w'.cell? ⟨w5.heap.size, 1, none⟩ = some (.string P) ∧ w'.cell? ⟨w5.heap.size, 2, none⟩ = some (.int .i64 M)) (first | go_keep | exact ⟨keepc Tk cL0, keepc Tk cL1, keepc Tk cL2, keepc Tk cE0, keepc Tk cE1, keepc Tk cM0, keepc Tk cM1, keepc Tk cM2, keepc Tk cN0, keepc Tk cN1, keepc Tk cN2⟩) (first
      | (go_at_call 23; refine (implValidLog_any d p m _ hms (HT6.next (by first | exact Tk | exact Below.drew Tk))).mono ?_; rintro e wn ⟨rfl, hbn⟩; rw [HV.out]; replace Tk := below_next (by first | exact Tk | exact Below.drew Tk) hbn rfl)
      | (go_at_call 21; refine (specValidLog_any d p m _ hms).mono ?_; rintro e wn ⟨rfl, hbn⟩; rw [HV.out]; replace Tk := below_next (by first | exact Tk | exact Below.drew Tk) hbn rfl)
      | (go_at_call 39; refine (implValid_any x y _ hxm hym).mono ?_; rintro e wn ⟨rfl, hbn⟩; rw [HG.out]; replace Tk := below_next (by first | exact Tk | exact Below.drew Tk) hbn rfl)
      | (go_at_call 40; refine (specValid_any x y _ hxm hym).mono ?_; rintro e wn ⟨rfl, hbn⟩; rw [HG.out]; replace Tk := below_next (by first | exact Tk | exact Below.drew Tk) hbn rfl)
      | fail)
    all_goals
      go_wp2_with fail
      go_meet
      exact ⟨rfl, by first | exact Tk | exact Below.drew Tk⟩
  case rest =>
    obtain ⟨rfl, hb7⟩ := hcut
    have T7 := below_next T6 hb7 rfl
    replace BL := BL.next hb7
    replace BE := BE.next hb7
    replace BM := BM.next hb7
    clear hb7 Tk BN hv1 hg1 hmm
    by_cases hC0 : C ≠ 0
    · obtain ⟨rfl, rfl⟩ := (hno hC0).out
      have hCi : (C != 0) = true := by simpa using hC0
      have cL0 := BL.cell 0
      have cL1 := BL.cell 1
      have cL2 := BL.cell 2
      have cM0 := BM.cell 0
      have cM1 := BM.cell 1
      have cM2 := BM.cell 2
      simp at cL0 cL1 cL2 cM0 cM1 cM2
      go_wp2_with fail
      go_ret
      exact ⟨by first | rfl | simp, T7⟩
    · obtain rfl : C = 0 := by omega
      obtain ⟨f1, f2, f3, f4, f5, f6, f7, f8, f9, f10⟩ := (hyes rfl).out
      clear hyes hno
      have kc := cat d P (by omega)
      have ha60 := lrEs_len d P M
      obtain ⟨S, HS⟩ : ∃ S, Hid (d ++ P = S) := ⟨_, rfl⟩
      rw [HS.out] at f1 f4 f5 f6 f7 f8 f10 kc
      obtain ⟨es, HES⟩ : ∃ es, Hid (lrEs d P M = es) := ⟨_, rfl⟩
      obtain ⟨os, HOS⟩ : ∃ es, Hid (lrEs d p m = es) := ⟨_, rfl⟩
      rw [HES.out] at f2 ha60
      rw [HOS.out] at f2 f3
      obtain ⟨k, HK⟩ : ∃ k, Hid (os.length = k) := ⟨_, rfl⟩
      rw [HK.out] at f3
      have hesl : es.length = k + 1 := by rw [f2, List.length_append, HK.out]; rfl
      rw [hesl] at ha60
      have HESL := Lib.hid hesl
      have F2 := Lib.hid f2
      have F4 := Lib.hid f4
      have F6 := Lib.hid f6
      have F7 := Lib.hid f7
      have F8 := Lib.hid f8
      have F9 := Lib.hid f9
      have F5 := Lib.hid f5
      have F1 := Lib.hid f1
      have F3 := Lib.hid f3
      clear f1 f2 f3 f4 f5 f6 f7 f8 f9 hesl
      have cM0 := BM.cell 0
      have cM1 := BM.cell 1
      have cM2 := BM.cell 2
      simp at cM0 cM1 cM2
      go_wp2_with fail
      refine (implLogRecs_any d P M _ (by omega) (ht.next T7)).mono ?_
      rintro e w8 ⟨A8, c8, rfl, ho8, hb8⟩
      rw [HS.out, F1.out, HES.out, HESL.out]
      rw [HES.out, HESL.out] at ho8
      have T8 := below_next T7 hb8 rfl
      replace BL := BL.next hb8
      replace BE := BE.next hb8
      replace BM := BM.next hb8
      have R8 := R2.ofOwn ho8 HESL.out
      clear ho8 hb8 cM0 cM1 cM2
      have cL0 := BL.cell 0
      have cL1 := BL.cell 1
      have cL2 := BL.cell 2
      simp at cL0 cL1 cL2
      go_wp2_with fail
      refine (implLogRecs_any d p m _ hms (ht.next T8)).mono ?_
      rintro e w9 ⟨A9, c9, rfl, ho9, hb9⟩
      rw [HOS.out, HK.out]
      rw [HOS.out, HK.out] at ho9
      have T9 := below_next T8 hb9 rfl
      replace BE := BE.next hb9
      replace BM := BM.next hb9
      replace R8 := R8.next hb9
      have R9 := R2.ofOwn ho9 HK.out
      clear ho9 hb9 cL0 cL1 cL2 BL
      have cM0 := BM.cell 0
      have cM1 := BM.cell 1
      have cM2 := BM.cell 2
      simp at cM0 cM1 cM2
      go_wp2_with fail
      refine (implRecov_any S _ (by omega) (ht.next T9)).mono ?_
      rintro e w10 ⟨rfl, hb10⟩
      rw [F4.out, F5.out, F6.out, F7.out]
      have T10 := below_next T9 hb10 rfl
      replace BE := BE.next hb10
      replace BM := BM.next hb10
      replace R8 := R8.next hb10
      replace R9 := R9.next hb10
      obtain ⟨w11, hw11, T11', hsz11, BB⟩ := boxL w10 S ⟨#[]⟩ M
      have T11 := below_next T10 T11' rfl
      replace BE := BE.next T11'
      replace BM := BM.next T11'
      replace R8 := R8.next T11'
      replace R9 := R9.next T11'
      have HW11 := Lib.hid hw11
      clear cM0 cM1 cM2 hb10
      have cM0 := BM.cell 0
      have cM1 := BM.cell 1
      have cM2 := BM.cell 2
      simp at cM0 cM1 cM2
      rw [HW11.out] at cM0 cM1 cM2
      clear hw11
      go_wp2_with fail
      rw [← HW11.out]
      refine (implSync_any d P M _ (by omega) (ht.next T11)).mono ?_
      rintro e w12 ⟨rfl, hb12⟩
      rw [HS.out, F1.out, F8.out, F9.out]
      have T12 := below_next T11 hb12 rfl
      obtain ⟨w13, hw13, T13', hsz13, BY⟩ := boxL w12 S ⟨#[]⟩ M
      have T13 := below_next T12 T13' rfl
      replace BE := (BE.next hb12).next T13'
      replace BM := (BM.next hb12).next T13'
      replace BB := (BB.next hb12).next T13'
      replace R8 := (R8.next hb12).next T13'
      replace R9 := (R9.next hb12).next T13'
      have HW13 := Lib.hid hw13
      clear cM0 cM1 cM2 hb12 hw13 HW11
      have HM2 : Hid (M = (k : Int) + 1) := by show _ = _; rw [F3.out]; rfl
      have cM2 := BM.cell 2
      simp at cM2
      rw [HW13.out] at cM2
      have hne1 : ((((k + 1 : Nat) : Int)) != (k : Int) + 1) = false := by simp
      have hne2 : (M != (((k + 1 : Nat) : Int))) = false := by rw [HM2.out]; simp
      have hne2' : (M != (k : Int) + 1) = false := by rw [HM2.out]; simp
      go_upto_region 14 with fail
      rw [← HW13.out]
      rw [HW13.out.symm] at cM2
      go_wp2
      clear cM2 hne1 hne2 hne2'
      go_loopw [18] (fun i wr => ∃ (j : Nat), i = .int .i64 j ∧ j ≤ k ∧ Below w13.heap.size w13 wr) (fun i _ => k - (intOf i).toNat)
      case atStart => exact ⟨0, rfl, Nat.zero_le _, Below.refl _ _⟩
      case round =>
        obtain ⟨j, rfl, hj, hTr⟩ := hrel
        replace R8 := R8.next hTr
        replace R9 := R9.next hTr
        replace BM := BM.next hTr
        replace BE := BE.next hTr
        replace BB := BB.next hTr
        replace BY := BY.next hTr
        have T14 := below_next T13 hTr rfl
        obtain ⟨g, rfl, hc⟩ := R8.2 (by omega)
        by_cases hlt : j < k
        · obtain ⟨g2, rfl, hc2⟩ := R9.2 (by omega)
          obtain ⟨⟨a, b⟩, hxy⟩ : ∃ e, os[j]? = some e := ⟨_, List.getElem?_eq_getElem (by rw [HK.out]; exact hlt)⟩
          have hxy2 : es[j]? = some (a, b) := by rw [F2.out, List.getElem?_append_left (by rw [HK.out]; exact hlt), hxy]
          obtain ⟨a0, a1⟩ := hc j a b hxy2
          obtain ⟨b0, b1⟩ := hc2 j a b hxy
          have hj0 : (0 : Int) ≤ (j : Int) := by omega
          have hj1 : (j : Int) < (k : Int) := by omega
          have hj2 : (j : Int) < (k : Int) + 1 := by omega
          have hj3 : (j : Int) < ((k + 1 : Nat) : Int) := by omega
          clear hc hc2 hxy hxy2
          have Tk : Below wr.heap.size wr wr := Below.refl _ _
          go_upto_region 19 with fail
          go_region_held3 (fun w' => w'.cell? ⟨g, j * 2, none⟩ = some (.string (mk a)) ∧ w'.cell? ⟨g, j * 2 + 1, none⟩ = some (.string (mk b)) ∧ w'.cell? ⟨g2, j * 2, none⟩ = some (.string (mk a)) ∧ w'.cell? ⟨g2, j * 2 + 1, none⟩ = some (.string (mk b))) (first | go_keep | exact ⟨keepc Tk a0, keepc Tk a1, keepc Tk b0, keepc Tk b1⟩) (first | fail)
          go_wp2_with fail
          go_roundw
          case rel => exact ⟨j + 1, by go_num, by omega, by first | exact below_next hTr Tk rfl | exact Below.drew (below_next hTr Tk rfl) | exact Below.drew (Below.drew (below_next hTr Tk rfl)) | exact below_drewN (below_next hTr Tk rfl) _⟩
          case measure => simp [intOf]; omega
        · have hlt' : ¬ (j : Int) < (k : Int) := by omega
          have hxy : es[k]? = some (bs x, bs y) := by rw [F2.out, List.getElem?_append_right (by rw [HK.out]; exact Nat.le_refl _), HK.out]; simp
          obtain ⟨a0, a1⟩ := hc k _ _ hxy
          replace a0 : wr.cell? ⟨g, k * 2, none⟩ = some (.string x) := a0
          replace a1 : wr.cell? ⟨g, k * 2 + 1, none⟩ = some (.string y) := a1
          have e0 : wr.cell? ⟨w1.heap.size + 1, 0, none⟩ = some (.string x) := BE.cell 0
          have e1 : wr.cell? ⟨w1.heap.size + 1, 1, none⟩ = some (.string y) := BE.cell 1
          have m0 : wr.cell? ⟨w3.heap.size, 0, none⟩ = some (.string d) := BM.cell 0
          have m1 : wr.cell? ⟨w3.heap.size, 1, none⟩ = some (.string P) := BM.cell 1
          have m2 : wr.cell? ⟨w3.heap.size, 2, none⟩ = some (.int .i64 M) := BM.cell 2
          have b0 : wr.cell? ⟨w10.heap.size, 0, none⟩ = some (.string S) := BB.cell 0
          have b1 : wr.cell? ⟨w10.heap.size, 1, none⟩ = some (.string ⟨#[]⟩) := BB.cell 1
          have b2 : wr.cell? ⟨w10.heap.size, 2, none⟩ = some (.int .i64 M) := BB.cell 2
          have y0 : wr.cell? ⟨w12.heap.size, 0, none⟩ = some (.string S) := BY.cell 0
          have y1 : wr.cell? ⟨w12.heap.size, 1, none⟩ = some (.string ⟨#[]⟩) := BY.cell 1
          have y2 : wr.cell? ⟨w12.heap.size, 2, none⟩ = some (.int .i64 M) := BY.cell 2
          have hj0 : (0 : Int) ≤ (k : Int) := by omega
          have hj2 : (k : Int) < (k : Int) + 1 := by omega
          have hj3 : (k : Int) < ((k + 1 : Nat) : Int) := by omega
          have HT14 : Tab wr := ht.next T14
          have Tk : Below wr.heap.size wr wr := Below.refl _ _
          have hdP : d.size + P.size ≤ 1048576 := by omega
          clear hc hxy
          go_upto_region 21 with fail
          go_region_held3 (fun w' => w'.cell? ⟨g, k * 2, none⟩ = some (.string x) ∧ w'.cell? ⟨g, k * 2 + 1, none⟩ = some (.string y) ∧ w'.cell? ⟨w1.heap.size + 1, 0, none⟩ = some (.string x) ∧ w'.cell? ⟨w1.heap.size + 1, 1, none⟩ = some (.string y) ∧ w'.cell? ⟨w3.heap.size, 0, none⟩ = some (.string d) ∧ w'.cell? ⟨w3.heap.size, 1, none⟩ = some (.string P) ∧ w'.cell? ⟨w3.heap.size, 2, none⟩ = some (.int .i64 M) ∧ w'.cell? ⟨w10.heap.size, 0, none⟩ = some (.string S) ∧ w'.cell? ⟨w10.heap.size, 1, none⟩ = some (.string ⟨#[]⟩) ∧ w'.cell? ⟨w10.heap.size, 2, none⟩ = some (.int .i64 M) ∧ w'.cell? ⟨w12.heap.size, 0, none⟩ = some (.string S) ∧ w'.cell? ⟨w12.heap.size, 1, none⟩ = some (.string ⟨#[]⟩) ∧ w'.cell? ⟨w12.heap.size, 2, none⟩ = some (.int .i64 M)) (first | go_keep | exact ⟨keepc Tk a0, keepc Tk a1, keepc Tk e0, keepc Tk e1, keepc Tk m0, keepc Tk m1, keepc Tk m2, keepc Tk b0, keepc Tk b1, keepc Tk b2, keepc Tk y0, keepc Tk y1, keepc Tk y2⟩) (first
            | (go_at_call 23; refine (implValidLog_any d P M _ hdP (HT14.next (by first | exact Tk | exact Below.drew Tk))).mono ?_; rintro e wn ⟨rfl, hbn⟩; rw [HS.out, F1.out]; replace Tk := below_next (by first | exact Tk | exact Below.drew Tk) hbn rfl)
            | fail)
          all_goals
            go_wp2_with fail
            go_ret
            exact ⟨by first | rfl | (simp; done) | (simp; rfl), below_next T14 (by first | exact Tk | exact Below.drew Tk) rfl⟩
end Go.Proofs.YteogfjddkaodkaaDoor
