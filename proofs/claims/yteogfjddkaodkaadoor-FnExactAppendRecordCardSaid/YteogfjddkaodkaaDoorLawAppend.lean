/- The law FnExactAppendRecord. -/
import Derived.Test.YteogfjddkaodkaaDoorAppL
namespace Go.Proofs.YteogfjddkaodkaaDoor
open Go.RowKit

theorem ne_new {g B : Nat} {w w' : World} (h : g < B) (hb : Below B w w') (hB : B = w.heap.size := by rfl) : g ≠ w'.heap.size := by have := hb.size; omega
theorem Tka {B : Nat} {w w' : World} (h : Below B w w') (o : Obj) (hB : B = w.heap.size := by rfl) : Below B w (w'.alloc o) := h.alloc (by rw [hB]; exact hB ▸ h.size) o
def W2 (w : World) (d p : ByteArray) (n : Int) (c r : ByteArray) : World := (w.alloc (.cells #[.string d, .string p, .int .i64 n] 36)).alloc (.cells #[.string c, .string r] 23)
theorem W2_facts (w : World) (d p : ByteArray) (n : Int) (c r : ByteArray) : Below w.heap.size w (W2 w d p n c r) ∧ Blk (W2 w d p n c r) w.heap.size 36 #[.string d, .string p, .int .i64 n] ∧ Blk (W2 w d p n c r) (w.heap.size + 1) 23 #[.string c, .string r] := by
  refine ⟨below_box2 _ _ _, (Blk.new w _ _).next (below_box _ _), ?_⟩
  have := Blk.new (w.alloc (.cells #[.string d, .string p, .int .i64 n] 36)) 23 #[.string c, .string r]
  rwa [World.size_alloc] at this

set_option maxRecDepth 100000 in
set_option maxHeartbeats 8000000 in
theorem lawAppendRecord (d p : ByteArray) (n : Int) (c r : ByteArray) (w : World) (hd : d.size ≤ maxLen) (hp : p.size ≤ maxLen) (_l : -9223372036854775808 ≤ n) (_u : n ≤ 9223372036854775807) (hc : c.size ≤ maxLen) (hr : r.size ≤ maxLen) (ht : Tab w) :
    Calls Tryd.prog 8 #[logV d p n, .agg #[.string c, .string r]] w (Bl w (.bool true)) := by
  obtain ⟨hT0, BA, BR⟩ := W2_facts w d p n c r
  obtain ⟨P, HP⟩ : ∃ s, Hid (apP d p n c r = s) := ⟨_, rfl⟩
  obtain ⟨N, HN⟩ : ∃ s, Hid (apN d p n c r = s) := ⟨_, rfl⟩
  obtain ⟨C, HC⟩ : ∃ s, Hid (apC d p n c r = s) := ⟨_, rfl⟩
  go_enter Tryd.func8, Tryd.ntmps8
  go_wp2_with fail
  refine (szLog_any d p n _ _ hd hp (by omega) (by omega)).mono ?_
  rintro e w1 ⟨rfl, hb1⟩
  have hT1 := below_next hT0 hb1 rfl
  replace BA := BA.next hb1
  replace BR := BR.next hb1
  clear hb1 hT0
  have cA0 := BA.cell 0
  have cA1 := BA.cell 1
  have cA2 := BA.cell 2
  have cR0 := BR.cell 0
  have cR1 := BR.cell 1
  simp at cA0 cA1 cA2 cR0 cR1
  by_cases h1 : recSize d p 1048576 < 0
  · go_wp2_with fail
    go_ret
    exact ⟨rfl, hT1⟩
  have hsz := recSize_ok h1
  have h1' : 0 ≤ recSize d p 1048576 ∧ recSize d p 1048576 ≤ 1048576 := by
    refine ⟨by omega, ?_⟩
    unfold recSize
    split
    · omega
    · split <;> omega
  obtain ⟨L1, HL1⟩ : ∃ L, Hid (recSize d p 1048576 = L) := ⟨_, rfl⟩
  rw [HL1.out] at h1 h1' ⊢
  go_wp2_with fail
  refine (szRec_any _ _ _ _ hc hr (by omega) (by omega)).mono ?_
  rintro e w2 ⟨rfl, hb2⟩
  have hT2 := below_next hT1 hb2 rfl
  replace BA := BA.next hb2
  replace BR := BR.next hb2
  clear hb2 hT1 cA0 cA1 cA2 cR0 cR1
  obtain ⟨L2, HL2⟩ : ∃ L, Hid (recSize c r L1 = L) := ⟨_, rfl⟩
  rw [HL2.out]
  have hL2 : -9223372036854775808 ≤ L2 ∧ L2 ≤ 9223372036854775807 := by
    rw [← HL2.out]
    unfold recSize
    split
    · omega
    · split <;> omega
  have cA0 := BA.cell 0
  have cA1 := BA.cell 1
  have cA2 := BA.cell 2
  have cR0 := BR.cell 0
  have cR1 := BR.cell 1
  simp at cA0 cA1 cA2 cR0 cR1
  by_cases h2 : L2 < 0
  · go_wp2_with fail
    go_ret
    exact ⟨rfl, hT2⟩
  have hdp : d.size + p.size ≤ 1048576 := by omega
  go_upto_region 8 with fail
  go_cut [6, 7] (fun v6 v7 wx => ∃ g, v6 = .pointer (some ⟨g, 0, none⟩) ∧ v7 = .int .i64 C ∧ Below w2.heap.size w2 wx ∧ Blk wx g 31 #[.string d, .string P, .int .i64 N])
  case first =>
    have z0 := keepc (below_box w2 (.cells #[.string ⟨#[]⟩, .string ⟨#[]⟩, .int .i64 0] 31)) cA0
    have z1 := keepc (below_box w2 (.cells #[.string ⟨#[]⟩, .string ⟨#[]⟩, .int .i64 0] 31)) cA1
    have z2 := keepc (below_box w2 (.cells #[.string ⟨#[]⟩, .string ⟨#[]⟩, .int .i64 0] 31)) cA2
    have z3 := keepc (below_box w2 (.cells #[.string ⟨#[]⟩, .string ⟨#[]⟩, .int .i64 0] 31)) cR0
    have z4 := keepc (below_box w2 (.cells #[.string ⟨#[]⟩, .string ⟨#[]⟩, .int .i64 0] 31)) cR1
    have T0d : Below w2.heap.size w2 w2.drew := Below.drew (Below.refl _ _)
    have T0a : Below w2.heap.size w2 (w2.alloc (.cells #[.string ⟨#[]⟩, .string ⟨#[]⟩, .int .i64 0] 31)).drew := Below.drew (below_box w2 (.cells #[.string ⟨#[]⟩, .string ⟨#[]⟩, .int .i64 0] 31))
    go_region_with (first
      | (go_at_call 22; refine (toLog_any d p n _).mono ?_; rintro e wl ⟨rfl, hbl⟩; have Tl := below_next (by first | exact T0d | exact T0a) hbl rfl; have cl0 := keepc Tl cR0; have cl1 := keepc Tl cR1; (try have BL := (Blk.new w2 31 #[.string ⟨#[]⟩, .string ⟨#[]⟩, .int .i64 0]).drew.next hbl); have zl0 := keepc (below_box wl (.cells #[.string ⟨#[]⟩, .string ⟨#[]⟩, .int .i64 0] 31)) cl0; have zl1 := keepc (below_box wl (.cells #[.string ⟨#[]⟩, .string ⟨#[]⟩, .int .i64 0] 31)) cl1)
      | (go_at_call 15; refine (toRec_any c r _).mono ?_; rintro e wr ⟨rfl, hbr⟩; have Tr := below_next (by first | exact Tl | exact Tka Tl (.cells #[.string ⟨#[]⟩, .string ⟨#[]⟩, .int .i64 0] 31)) hbr rfl; (try replace BL := BL.next hbr); (try have BL := (Blk.new wl 31 #[.string ⟨#[]⟩, .string ⟨#[]⟩, .int .i64 0]).next hbr))
      | (go_at_call 28; refine (specApp_any d p n c r _ hdp hc hr).mono ?_; rintro e wa ⟨rfl, hba⟩; rw [HP.out, HN.out, HC.out]; have Ta := below_next (by first | exact Tr | exact Tka Tr (.cells #[.string ⟨#[]⟩, .string ⟨#[]⟩, .int .i64 0] 31)) hba rfl; (try replace BL := BL.next hba); (try have BL := (Blk.new wr 31 #[.string ⟨#[]⟩, .string ⟨#[]⟩, .int .i64 0]).next hba); (try (have cL0 := BL.cell 0; have cL1 := BL.cell 1; have cL2 := BL.cell 2; have fL0 := BL.frozen 0; have fL1 := BL.frozen 1; have fL2 := BL.frozen 2; simp at cL0 cL1 cL2)))
      | fail)
    all_goals (go_wp2_with fail; go_meet; first | exact ⟨_, rfl, rfl, Tka Ta _, Blk.new _ _ _⟩ | exact ⟨_, rfl, rfl, ((Ta.setCell (Nat.le_refl _) _).setCell (Nat.le_refl _) _).setCell (Nat.le_refl _) _, BL.set3'⟩ | exact ⟨_, rfl, rfl, ((Ta.setCell Tl.size _).setCell Tl.size _).setCell Tl.size _, BL.set3'⟩ | exact ⟨_, rfl, rfl, ((Ta.setCell Tr.size _).setCell Tr.size _).setCell Tr.size _, BL.set3'⟩)
  case rest =>
    obtain ⟨g, rfl, rfl, hb3, BS⟩ := hcut
    obtain ⟨w3, hw3⟩ : ∃ w3 : World, w3 = wc := ⟨_, rfl⟩
    subst hw3
    have hT3 := below_next hT2 hb3 rfl
    replace BA := BA.next hb3
    replace BR := BR.next hb3
    have htw := ht.next hT3
    clear hb3 cA0 cA1 cA2 cR0 cR1
    have cA0 := BA.cell 0
    have cA1 := BA.cell 1
    have cA2 := BA.cell 2
    have cR0 := BR.cell 0
    have cR1 := BR.cell 1
    simp at cA0 cA1 cA2 cR0 cR1
    go_upto_region 9 with fail
    go_cut [8, 9] (fun v8 v9 wx => ∃ g, v8 = .pointer (some ⟨g, 0, none⟩) ∧ v9 = .int .i64 C ∧ Below w3.heap.size w3 wx ∧ Blk wx g 31 #[.string d, .string P, .int .i64 N])
    case first =>
      have z0 := keepc (below_box w3 (.cells #[.string ⟨#[]⟩, .string ⟨#[]⟩, .int .i64 0] 31)) cA0
      have z1 := keepc (below_box w3 (.cells #[.string ⟨#[]⟩, .string ⟨#[]⟩, .int .i64 0] 31)) cA1
      have z2 := keepc (below_box w3 (.cells #[.string ⟨#[]⟩, .string ⟨#[]⟩, .int .i64 0] 31)) cA2
      have z3 := keepc (below_box w3 (.cells #[.string ⟨#[]⟩, .string ⟨#[]⟩, .int .i64 0] 31)) cR0
      have z4 := keepc (below_box w3 (.cells #[.string ⟨#[]⟩, .string ⟨#[]⟩, .int .i64 0] 31)) cR1
      have T0d : Below w3.heap.size w3 w3.drew := Below.drew (Below.refl _ _)
      have T0a : Below w3.heap.size w3 (w3.alloc (.cells #[.string ⟨#[]⟩, .string ⟨#[]⟩, .int .i64 0] 31)).drew := Below.drew (below_box w3 (.cells #[.string ⟨#[]⟩, .string ⟨#[]⟩, .int .i64 0] 31))
      go_region_with (first
        | (go_at_call 22; refine (toLog_any d p n _).mono ?_; rintro e wl ⟨rfl, hbl⟩; have Tl := below_next (by first | exact T0d | exact T0a) hbl rfl; have cl0 := keepc Tl cR0; have cl1 := keepc Tl cR1; (try have BL := (Blk.new w3 31 #[.string ⟨#[]⟩, .string ⟨#[]⟩, .int .i64 0]).drew.next hbl); have zl0 := keepc (below_box wl (.cells #[.string ⟨#[]⟩, .string ⟨#[]⟩, .int .i64 0] 31)) cl0; have zl1 := keepc (below_box wl (.cells #[.string ⟨#[]⟩, .string ⟨#[]⟩, .int .i64 0] 31)) cl1)
        | (go_at_call 15; refine (toRec_any c r _).mono ?_; rintro e wr ⟨rfl, hbr⟩; have Tr := below_next (by first | exact Tl | exact Tka Tl (.cells #[.string ⟨#[]⟩, .string ⟨#[]⟩, .int .i64 0] 31)) hbr rfl; (try replace BL := BL.next hbr); (try have BL := (Blk.new wl 31 #[.string ⟨#[]⟩, .string ⟨#[]⟩, .int .i64 0]).next hbr))
        | (go_at_call 29; refine (implApp_any d p n c r _ hdp hc hr (by first | exact htw.next Tr | exact htw.next (Tka Tr (.cells #[.string ⟨#[]⟩, .string ⟨#[]⟩, .int .i64 0] 31)))).mono ?_; rintro e wa ⟨rfl, hba⟩; rw [HP.out, HN.out, HC.out]; have Ta := below_next (by first | exact Tr | exact Tka Tr (.cells #[.string ⟨#[]⟩, .string ⟨#[]⟩, .int .i64 0] 31)) hba rfl; (try replace BL := BL.next hba); (try have BL := (Blk.new wr 31 #[.string ⟨#[]⟩, .string ⟨#[]⟩, .int .i64 0]).next hba); (try (have cL0 := BL.cell 0; have cL1 := BL.cell 1; have cL2 := BL.cell 2; have fL0 := BL.frozen 0; have fL1 := BL.frozen 1; have fL2 := BL.frozen 2; simp at cL0 cL1 cL2)))
        | fail)
      all_goals (go_wp2_with fail; go_meet; first | exact ⟨_, rfl, rfl, Tka Ta _, Blk.new _ _ _⟩ | exact ⟨_, rfl, rfl, ((Ta.setCell (Nat.le_refl _) _).setCell (Nat.le_refl _) _).setCell (Nat.le_refl _) _, BL.set3'⟩ | exact ⟨_, rfl, rfl, ((Ta.setCell Tl.size _).setCell Tl.size _).setCell Tl.size _, BL.set3'⟩ | exact ⟨_, rfl, rfl, ((Ta.setCell Tr.size _).setCell Tr.size _).setCell Tr.size _, BL.set3'⟩)
    case rest =>
      obtain ⟨g2, rfl, rfl, hb4, BI⟩ := hcut
      have hT4 := below_next hT3 hb4 rfl
      replace BS := BS.next hb4
      clear hb4 cA0 cA1 cA2 cR0 cR1
      have cS0 := BS.cell 0
      have cS1 := BS.cell 1
      have cS2 := BS.cell 2
      have cI0 := BI.cell 0
      have cI1 := BI.cell 1
      have cI2 := BI.cell 2
      simp at cS0 cS1 cS2 cI0 cI1 cI2
      go_wp2_with fail
      refine (eqLog_self d P N _).mono ?_
      rintro e w5 ⟨rfl, hb5⟩
      have hT5 := below_next hT4 hb5 rfl
      go_wp2_with fail
      go_ret
      exact ⟨rfl, hT5⟩
end Go.Proofs.YteogfjddkaodkaaDoor
