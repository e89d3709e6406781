
/- The walk of the law FnCrashRecovery: recovery after a crash gives all durable records and a beginning of the pending ones. -/
import Derived.Test.YteogfjddkaodkaaDoorDrawC
import Derived.Test.YteogfjddkaodkaaDoorCrashL
import Derived.Test.YteogfjddkaodkaaDoorLawLogLines
namespace Go.Proofs.YteogfjddkaodkaaDoor
open Go.RowKit

theorem crS_no {d p : ByteArray} {n k : Int} {t : Bool} (h : crB d p n k = false) : crS d p n k t = ⟨#[]⟩ := by unfold crS; rw [h]; rfl
theorem crS_size {d p : ByteArray} {n k : Int} {t : Bool} : (crS d p n k t).size ≤ 30000 := by
  rcases e : crB d p n k with _ | _
  · rw [crS_no e]; exact Nat.zero_le _
  · exact (crash_facts e).1
theorem lrEs_of {d p : ByteArray} {n k : Int} (h : crB d p n k = true) : lrEs d p n = recsOf (readAll (bs (d ++ p))) := by
  unfold lrEs
  rw [if_pos]
  unfold crB at h
  rw [Bool.and_eq_true] at h
  exact h.1

set_option maxRecDepth 100000 in
set_option maxHeartbeats 16000000 in
theorem lawCrash (A : Option Addr) (n c : Nat) (xs : List Int) (w : World) (h : RdL RU8 w A n xs) (ht : Tab w) :
    Calls Tryd.prog 12 #[.slice A n c] w (Bl w (.bool true)) := by
  have hle := h.le
  by_cases hbig : 65536 < n
  · go_enter Tryd.func12, Tryd.ntmps12
    have hd : decide (65536 < n) = true := by simpa using hbig
    go_wp2_with fail
    refine (vBig_any A n c _ hle).mono ?_
    rintro e w' ⟨rfl, rfl⟩
    rw [hd]
    go_wp2_with fail
    go_ret
    exact ⟨rfl, Below.refl _ _⟩
  have hC := code_in h (by omega)
  have HDb : Hid (decide (65536 < n) = false) := by show _ = _; simpa using hbig
  clear hbig
  go_enter Tryd.func12, Tryd.ntmps12
  go_wp2_with fail
  refine (vBig_any A n c _ hle).mono ?_
  rintro e w' ⟨rfl, rfl⟩
  rw [HDb.out]
  go_wp2_with fail
  refine (drawCrash_any A n c _ hC).mono ?_
  rintro e w1 ⟨d, p, m, k, torn, hdp, hm0, hm8, hk0, hk1, rfl, T1⟩
  obtain ⟨w2, hw2, T2', hsz2, BL⟩ := boxL w1 d p m
  have T2 := below_next T1 T2' rfl
  have HW2 := Lib.hid hw2
  have hSs := crS_size (d := d) (p := p) (n := m) (k := k) (t := torn)
  have hcf : crB d p m k = true → Hid (d.size ≤ endA (crS d p m k torn) ∧ ∃ rest, lrEs d p m = recsOf (readAll (bs (crS d p m k torn))) ++ rest) := fun hh => by
    obtain ⟨-, h2, h3⟩ := crash_facts (torn := torn) hh
    refine ⟨h2, ?_⟩
    rw [lrEs_of hh]
    exact h3
  obtain ⟨ok, HOK⟩ : ∃ b, Hid (crB d p m k = b) := ⟨_, rfl⟩
  have hno : crB d p m k = false → Hid (crS d p m k torn = ⟨#[]⟩) := fun hh => crS_no hh
  obtain ⟨S, HS⟩ : ∃ S, Hid (crS d p m k torn = S) := ⟨_, rfl⟩
  rw [HS.out] at hSs hcf hno
  rw [HOK.out] at hcf hno
  have cL0 := BL.cell 0
  have cL1 := BL.cell 1
  have cL2 := BL.cell 2
  simp at cL0 cL1 cL2
  rw [HW2.out] at cL0 cL1 cL2
  clear hw2
  go_wp2_with fail
  rw [← HW2.out]
  refine (implCrash_any d p m k torn _ (by omega) (by omega) (by omega) (ht.next T2)).mono ?_
  rintro e w3 ⟨rfl, hb3⟩
  rw [HS.out, HOK.out]
  have T3 := below_next T2 hb3 rfl
  replace BL := BL.next hb3
  clear cL0 cL1 cL2 hb3
  have cL0 := BL.cell 0
  have cL1 := BL.cell 1
  have cL2 := BL.cell 2
  simp at cL0 cL1 cL2
  go_wp2_with fail
  refine (specCrash_any d p m k torn _ (by omega) (by omega) (by omega)).mono ?_
  rintro e w4 ⟨rfl, hb4⟩
  rw [HS.out, HOK.out]
  have T4 := below_next T3 hb4 rfl
  replace BL := BL.next hb4
  clear cL0 cL1 cL2 hb4
  have hok1 : (ok != ok) = false := by cases ok <;> rfl
  rcases ok with _ | _
  · obtain rfl : S = ⟨#[]⟩ := (hno rfl).out
    have hse : (⟨#[]⟩ : ByteArray).toList.isEmpty = true := by kernel_rfl
    go_wp2_with fail
    go_ret
    exact ⟨rfl, T4⟩
  obtain ⟨hd1, rest, hrest⟩ := (hcf rfl).out
  have hrl := rec_len S
  have hes := rec_records hSs
  have hvv := rec_valid (s := S) (by omega)
  have hE : recE S = endA S := by unfold recE; rw [if_neg (by omega)]
  have hMd : recD S = S.extract 0 (recE S) := by unfold recD recE; rw [if_neg (by omega), if_neg (by omega)]
  have hTo : recB S = true := by unfold recB; simp; omega
  have hMs := recD_size S
  rw [← hes] at hrest
  rw [← hE] at hd1
  clear hcf hno hE hes
  obtain ⟨M, HM⟩ : ∃ M, Hid (recD S = M) := ⟨_, rfl⟩
  obtain ⟨N, HN⟩ : ∃ N, Hid (recN S = N) := ⟨_, rfl⟩
  obtain ⟨E, HE⟩ : ∃ E, Hid (recE S = E) := ⟨_, rfl⟩
  have HTo := Lib.hid hTo
  rw [HE.out] at hd1 hrl hMd
  rw [HM.out] at hMd hMs
  rw [HM.out, HN.out] at hrest hvv
  have HMd := Lib.hid hMd
  have HV := Lib.hid hvv
  clear hTo hMd hvv
  go_wp2_with fail
  refine (implRecov_any S _ (by omega) (ht.next T4)).mono ?_
  rintro e w5 ⟨rfl, hb5⟩
  rw [HM.out, HN.out, HE.out, HTo.out]
  have T5 := below_next T4 hb5 rfl
  replace BL := BL.next hb5
  obtain ⟨w6, hw6, T6', hsz6, BM⟩ := boxL w5 M ⟨#[]⟩ N
  have T6 := below_next T5 T6' rfl
  replace BL := BL.next T6'
  have HW6 := Lib.hid hw6
  have cM0 := BM.cell 0
  have cM1 := BM.cell 1
  have cM2 := BM.cell 2
  simp at cM0 cM1 cM2
  rw [HW6.out] at cM0 cM1 cM2
  clear hw6
  go_wp2_with fail
  rw [← HW6.out]
  refine (implLogRecs_any M ⟨#[]⟩ N _ (by show M.size + 0 ≤ _; omega) (ht.next T6)).mono ?_
  rintro e w7 ⟨A7, c7, rfl, ho7, hb7⟩
  rw [HV.out]
  have T7 := below_next T6 hb7 rfl
  replace BL := BL.next hb7
  replace BM := BM.next hb7
  have ha60 := lrEs_len M ⟨#[]⟩ N
  have hb60 := lrEs_len d p m
  have hlen : (lrEs M ⟨#[]⟩ N).length ≤ (lrEs d p m).length := by
    have := congrArg List.length hrest
    rw [List.length_append] at this
    omega
  have R7 := R2.ofOwn ho7 rfl
  obtain ⟨es, HES⟩ : ∃ es, Hid (lrEs M ⟨#[]⟩ N = es) := ⟨_, rfl⟩
  obtain ⟨os, HOS⟩ : ∃ es, Hid (lrEs d p m = es) := ⟨_, rfl⟩
  rw [HES.out] at hrest hlen ha60 R7 ⊢
  rw [HOS.out] at hrest hlen hb60
  clear cM0 cM1 cM2 ho7 hb7
  have cL0 := BL.cell 0
  have cL1 := BL.cell 1
  have cL2 := BL.cell 2
  simp at cL0 cL1 cL2
  go_wp2_with fail
  refine (specLogRecs_any d p m _ (by omega)).mono ?_
  rintro e w8 ⟨A8, c8, rfl, ho8, hb8⟩
  have T8 := below_next T7 hb8 rfl
  replace BL := BL.next hb8
  replace BM := BM.next hb8
  replace R7 := R7.next hb8
  have R8 := R2.ofOwn ho8 rfl
  rw [HOS.out] at R8 ⊢
  have HREST := Lib.hid hrest
  have hE1 : ¬ (S.size : Int) < (E : Int) := by omega
  have hE2 : ¬ (E : Int) < (d.size : Int) := by omega
  have hE3 : ¬ (os.length : Int) < (es.length : Int) := by omega
  clear cL0 cL1 cL2 ho8 hb8 hrest
  have cL0 := BL.cell 0
  simp at cL0
  go_wp2
  go_loopw [17] (fun i wr => ∃ (j : Nat), i = .int .i64 j ∧ j ≤ es.length ∧ Below w8.heap.size w8 wr) (fun i _ => es.length - (intOf i).toNat)
  case atStart => exact ⟨0, rfl, Nat.zero_le _, Below.refl _ _⟩
  case round =>
    obtain ⟨j, rfl, hj, hTr⟩ := hrel
    replace R7 := R7.next hTr
    replace R8 := R8.next hTr
    replace BM := BM.next hTr
    have T9 := below_next T8 hTr rfl
    by_cases hlt : j < es.length
    · obtain ⟨g, rfl, hc⟩ := R7.2 (by omega)
      obtain ⟨g2, rfl, hc2⟩ := R8.2 (by omega)
      obtain ⟨⟨x, y⟩, hxy⟩ : ∃ e, es[j]? = some e := ⟨_, List.getElem?_eq_getElem hlt⟩
      have hxy2 : os[j]? = some (x, y) := by rw [HREST.out, List.getElem?_append_left hlt, hxy]
      obtain ⟨a0, a1⟩ := hc j x y hxy
      obtain ⟨b0, b1⟩ := hc2 j x y hxy2
      have hj0 : (0 : Int) ≤ (j : Int) := by omega
      have hj1 : (j : Int) < (es.length : Int) := by omega
      have hj2 : (j : Int) < (os.length : Int) := by omega
      clear hc hc2 hxy hxy2
      have Tk : Below wr.heap.size wr wr := Below.refl _ _
      go_upto_region 18 with fail
      go_region_held3 (fun w' => w'.cell? ⟨g, j * 2, none⟩ = some (.string (mk x)) ∧ w'.cell? ⟨g, j * 2 + 1, none⟩ = some (.string (mk y)) ∧ w'.cell? ⟨g2, j * 2, none⟩ = some (.string (mk x)) ∧ w'.cell? ⟨g2, j * 2 + 1, none⟩ = some (.string (mk y))) (first | go_keep | exact ⟨keepc Tk a0, keepc Tk a1, keepc Tk b0, keepc Tk b1⟩) (first | fail)
      go_wp2_with fail
      go_roundw
      case rel => exact ⟨j + 1, by go_num, by omega, by first | exact below_next hTr Tk rfl | exact Below.drew (below_next hTr Tk rfl) | exact Below.drew (Below.drew (below_next hTr Tk rfl)) | exact below_drewN (below_next hTr Tk rfl) _⟩
      case measure => simp [intOf]; omega
    · have cM0 := BM.cell 0
      have cM1 := BM.cell 1
      have cM2 := BM.cell 2
      simp at cM0 cM1 cM2
      have hlt' : ¬ (j : Int) < (es.length : Int) := by omega
      have c0 : (0 : Int) ≤ (E : Int) := by omega
      have c1 : (E : Int) ≤ (S.size : Int) := by omega
      have BMd := BM.drew
      have hTabd : Tab wr.drew := (ht.next T9).next (Below.drew (Below.refl _ _))
      go_upto_region 20 with fail
      go_region_with (go_at_call 23; refine (implValidLog_any M ⟨#[]⟩ N _ (by show M.size + 0 ≤ _; omega) hTabd).mono ?_; rintro e w10 ⟨rfl, hb10⟩; rw [HV.out]; have BM10 := BMd.next hb10; have T10 := below_next (Below.drew T9) hb10 rfl; have c100 := BM10.cell 0; simp at c100)
      all_goals
        go_wp2_with fail
        go_ret
        refine ⟨?_, by first | exact T10 | exact Below.drew T10⟩
        (try rw [← HMd.out])
        first
          | rfl
          | (simp; done)
          | (simp; rfl)
end Go.Proofs.YteogfjddkaodkaaDoor
