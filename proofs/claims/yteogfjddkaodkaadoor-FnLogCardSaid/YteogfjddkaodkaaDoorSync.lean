
/- Walks and laws: IsValidLog, SyncLog. -/
import Derived.Test.YteogfjddkaodkaaDoorValid
namespace Go.Proofs.YteogfjddkaodkaaDoor
open Go.RowKit

set_option maxHeartbeats 1000000 in
theorem lawIsValidLog (d p : ByteArray) (n : Int) (w : World) (hd : d.size ≤ maxLen) (hp : p.size ≤ maxLen) (_l : -9223372036854775808 ≤ n) (_u : n ≤ 9223372036854775807) (ht : Tab w) :
    Calls Tryd.prog 5 #[logV d p n] w (Bl w (.bool true)) := by
  have hT0 := below_box w (.cells #[.string d, .string p, .int .i64 n] 36)
  have BX := Blk.new w 36 #[.string d, .string p, .int .i64 n]
  rcases h1 : decide (recSize d p 1048576 < 0) with _ | _
  · have h2 : ¬ recSize d p 1048576 < 0 := by simpa using h1
    have hsz := recSize_ok h2
    clear h1
    obtain ⟨v, HV⟩ : ∃ s, Hid (vS (d ++ p) d n = s) := ⟨_, rfl⟩
    go_enter Tryd.func5, Tryd.ntmps5
    go_wp2_with fail
    refine (szLog_any d p n _ _ hd hp (by omega) (by omega)).mono ?_
    rintro e w1 ⟨rfl, hb1⟩
    have hT1 := below_next hT0 hb1 rfl
    replace BX := BX.next hb1
    have cN0 := BX.cell 0
    have cN1 := BX.cell 1
    have cN2 := BX.cell 2
    simp at cN0 cN1 cN2
    clear hb1
    go_wp2_with fail
    refine (toLog_any _ _ _ _).mono ?_
    rintro e w2 ⟨rfl, hb2⟩
    have hT2 := below_next hT1 hb2 rfl
    replace BX := BX.next hb2
    clear hb2 cN0 cN1 cN2
    go_wp2_with fail
    refine (specValidLog_any _ _ _ _ (by omega)).mono ?_
    rintro e w3 ⟨rfl, hb3⟩
    rw [HV.out]
    have hT3 := below_next hT2 hb3 rfl
    replace BX := BX.next hb3
    have cN0 := BX.cell 0
    have cN1 := BX.cell 1
    have cN2 := BX.cell 2
    simp at cN0 cN1 cN2
    clear hb3
    go_wp2_with fail
    refine (toLog_any _ _ _ _).mono ?_
    rintro e w4 ⟨rfl, hb4⟩
    have hT4 := below_next hT3 hb4 rfl
    clear hb4 cN0 cN1 cN2
    go_wp2_with fail
    refine (implValidLog_any _ _ _ _ (by omega) (ht.next hT4)).mono ?_
    rintro e w5 ⟨rfl, hb5⟩
    rw [HV.out]
    have hT5 := below_next hT4 hb5 rfl
    rcases v with _ | _
    all_goals
      go_wp2_with fail
      go_ret
      exact ⟨rfl, hT5⟩
  · have h2 : recSize d p 1048576 < 0 := by simpa using h1
    go_enter Tryd.func5, Tryd.ntmps5
    go_wp2_with fail
    refine (szLog_any d p n _ _ hd hp (by omega) (by omega)).mono ?_
    rintro e w1 ⟨rfl, hb1⟩
    have hT1 := below_next hT0 hb1 rfl
    go_wp2_with fail
    go_ret
    exact ⟨rfl, hT1⟩

/-! ## SyncLog -/
def syncD (d p : ByteArray) (n : Int) : ByteArray := if vS (d ++ p) d n then d ++ p else ⟨#[]⟩
def syncN (d p : ByteArray) (n : Int) : Int := if vS (d ++ p) d n then n else 0
def SyncE (w : World) (d p : ByteArray) (n : Int) (e : Ending) (w' : World) : Prop := e = .returned (.tuple #[logV (syncD d p n) ⟨#[]⟩ (syncN d p n), .bool (vS (d ++ p) d n)]) ∧ Below w.heap.size w w'
theorem ret_sync {d d' p : ByteArray} {n n' : Int} {b b' : Bool} (h : d = d') (h2 : n = n') (h4 : b = b') : Ending.returned (.tuple #[logV d p n, .bool b]) = .returned (.tuple #[logV d' p n', .bool b']) := by rw [h, h2, h4]

set_option maxHeartbeats 1000000 in
theorem specSync_any (d p : ByteArray) (n : Int) (w : World) (hs : d.size + p.size ≤ 1048576) :
    Calls Tryd.prog 26 #[logV d p n] w (SyncE w d p n) := by
  have hT := below_box2 w (.cells #[.string d, .string p, .int .i64 n] 31) (.cells #[.string ⟨#[]⟩, .string ⟨#[]⟩, .int .i64 0] 31)
  have BA : Blk ((w.alloc (.cells #[.string d, .string p, .int .i64 n] 31)).alloc (.cells #[.string ⟨#[]⟩, .string ⟨#[]⟩, .int .i64 0] 31)) w.heap.size 31 #[.string d, .string p, .int .i64 n] := (Blk.new w _ _).next (below_box _ _)
  have BX : Blk ((w.alloc (.cells #[.string d, .string p, .int .i64 n] 31)).alloc (.cells #[.string ⟨#[]⟩, .string ⟨#[]⟩, .int .i64 0] 31)) (w.heap.size + 1) 31 #[.string ⟨#[]⟩, .string ⟨#[]⟩, .int .i64 0] := by
    have := Blk.new (w.alloc (.cells #[.string d, .string p, .int .i64 n] 31)) 31 #[.string ⟨#[]⟩, .string ⟨#[]⟩, .int .i64 0]
    rwa [World.size_alloc] at this
  have kc := cat d p (by omega)
  obtain ⟨v, HV⟩ : ∃ s, Hid (vS (d ++ p) d n = s) := ⟨_, rfl⟩
  unfold SyncE syncD syncN
  rw [HV.out]
  go_enter Tryd.func26, Tryd.ntmps26
  go_wp2_with fail
  refine (l33Log_any d p n _ hs).mono ?_
  rintro e w3 ⟨rfl, hb3⟩
  rw [HV.out]
  have hT3 := below_next hT hb3 rfl
  replace BX := BX.next hb3
  replace BA := BA.next hb3
  have cA0 := BA.cell 0
  have cA1 := BA.cell 1
  have cA2 := BA.cell 2
  have cN0 := BX.cell 0
  have cN1 := BX.cell 1
  have cN2 := BX.cell 2
  have fN0 := BX.frozen 0
  have fN1 := BX.frozen 1
  have fN2 := BX.frozen 2
  simp at cA0 cA1 cA2 cN0 cN1 cN2
  rcases v with _ | _
  · go_wp2_with fail
    (try simp only [Exit.inBlock, Exit.then])
    refine bodyPost_ret (v := .tuple #[logV ⟨#[]⟩ ⟨#[]⟩ 0, .bool false]) (res_row_tmp rfl _ _ (w.heap.size + 1) 31 #[.string ⟨#[]⟩, .string ⟨#[]⟩, .int .i64 0] (0, 0) _ _ (by simp) BX.set3 Tryd.underlying31 rfl (by kernel_rfl) (by simp)) rfl ?_
    exact ⟨rfl, ((hT3.setCell (Nat.le_succ _) _).setCell (Nat.le_succ _) _).setCell (Nat.le_succ _) _⟩
  · go_wp2_with fail
    (try simp only [Exit.inBlock, Exit.then])
    refine bodyPost_ret (v := .tuple #[logV (d ++ p) ⟨#[]⟩ n, .bool true]) (res_row_tmp rfl _ _ (w.heap.size + 1) 31 #[.string (d ++ p), .string ⟨#[]⟩, .int .i64 n] (0, 0) _ _ (by simp) BX.set3 Tryd.underlying31 rfl (by kernel_rfl) (by simp)) rfl ?_
    exact ⟨rfl, ((hT3.setCell (Nat.le_succ _) _).setCell (Nat.le_succ _) _).setCell (Nat.le_succ _) _⟩

set_option maxHeartbeats 1000000 in
theorem implSync_any (d p : ByteArray) (n : Int) (w : World) (hs : d.size + p.size ≤ 1048576) (ht : Tab w) :
    Calls Tryd.prog 27 #[logV d p n] w (SyncE w d p n) := by
  have hT := below_box2 w (.cells #[.string d, .string p, .int .i64 n] 31) (.cells #[.string ⟨#[]⟩, .string ⟨#[]⟩, .int .i64 0] 31)
  have BA : Blk ((w.alloc (.cells #[.string d, .string p, .int .i64 n] 31)).alloc (.cells #[.string ⟨#[]⟩, .string ⟨#[]⟩, .int .i64 0] 31)) w.heap.size 31 #[.string d, .string p, .int .i64 n] := (Blk.new w _ _).next (below_box _ _)
  have BX : Blk ((w.alloc (.cells #[.string d, .string p, .int .i64 n] 31)).alloc (.cells #[.string ⟨#[]⟩, .string ⟨#[]⟩, .int .i64 0] 31)) (w.heap.size + 1) 31 #[.string ⟨#[]⟩, .string ⟨#[]⟩, .int .i64 0] := by
    have := Blk.new (w.alloc (.cells #[.string d, .string p, .int .i64 n] 31)) 31 #[.string ⟨#[]⟩, .string ⟨#[]⟩, .int .i64 0]
    rwa [World.size_alloc] at this
  have kc := cat d p (by omega)
  obtain ⟨v, HV⟩ : ∃ s, Hid (vS (d ++ p) d n = s) := ⟨_, rfl⟩
  unfold SyncE syncD syncN
  rw [HV.out]
  go_enter Tryd.func27, Tryd.ntmps27
  go_wp2_with fail
  refine (implValidLog_any d p n _ hs (ht.next hT)).mono ?_
  rintro e w3 ⟨rfl, hb3⟩
  rw [HV.out]
  have hT3 := below_next hT hb3 rfl
  replace BX := BX.next hb3
  replace BA := BA.next hb3
  have cA0 := BA.cell 0
  have cA1 := BA.cell 1
  have cA2 := BA.cell 2
  have cN0 := BX.cell 0
  have cN1 := BX.cell 1
  have cN2 := BX.cell 2
  have fN0 := BX.frozen 0
  have fN1 := BX.frozen 1
  have fN2 := BX.frozen 2
  simp at cA0 cA1 cA2 cN0 cN1 cN2
  rcases v with _ | _
  · go_wp2_with fail
    (try simp only [Exit.inBlock, Exit.then])
    refine bodyPost_ret (v := .tuple #[logV ⟨#[]⟩ ⟨#[]⟩ 0, .bool false]) (res_row_tmp rfl _ _ (w.heap.size + 1) 31 #[.string ⟨#[]⟩, .string ⟨#[]⟩, .int .i64 0] (0, 0) _ _ (by simp) BX.set3 Tryd.underlying31 rfl (by kernel_rfl) (by simp)) rfl ?_
    exact ⟨rfl, ((hT3.setCell (Nat.le_succ _) _).setCell (Nat.le_succ _) _).setCell (Nat.le_succ _) _⟩
  · go_wp2_with fail
    (try simp only [Exit.inBlock, Exit.then])
    refine bodyPost_ret (v := .tuple #[logV (d ++ p) ⟨#[]⟩ n, .bool true]) (res_row_tmp rfl _ _ (w.heap.size + 1) 31 #[.string (d ++ p), .string ⟨#[]⟩, .int .i64 n] (0, 0) _ _ (by simp) BX.set3 Tryd.underlying31 rfl (by kernel_rfl) (by simp)) rfl ?_
    exact ⟨rfl, ((hT3.setCell (Nat.le_succ _) _).setCell (Nat.le_succ _) _).setCell (Nat.le_succ _) _⟩

set_option maxHeartbeats 1000000 in
theorem lawSyncLog (d p : ByteArray) (n : Int) (w : World) (hd : d.size ≤ maxLen) (hp : p.size ≤ maxLen) (_l : -9223372036854775808 ≤ n) (_u : n ≤ 9223372036854775807) (ht : Tab w) :
    Calls Tryd.prog 7 #[logV d p n] w (Bl w (.bool true)) := by
  have hT0 := below_box w (.cells #[.string d, .string p, .int .i64 n] 36)
  have BX := Blk.new w 36 #[.string d, .string p, .int .i64 n]
  rcases h1 : decide (recSize d p 1048576 < 0) with _ | _
  · have h2 : ¬ recSize d p 1048576 < 0 := by simpa using h1
    have hsz := recSize_ok h2
    clear h1
    obtain ⟨v, HV⟩ : ∃ s, Hid (vS (d ++ p) d n = s) := ⟨_, rfl⟩
    obtain ⟨D, HD⟩ : ∃ s, Hid (syncD d p n = s) := ⟨_, rfl⟩
    obtain ⟨N, HN⟩ : ∃ s, Hid (syncN d p n = s) := ⟨_, rfl⟩
    go_enter Tryd.func7, Tryd.ntmps7
    go_wp2_with fail
    refine (szLog_any d p n _ _ hd hp (by omega) (by omega)).mono ?_
    rintro e w1 ⟨rfl, hb1⟩
    have hT1 := below_next hT0 hb1 rfl
    replace BX := BX.next hb1
    have cN0 := BX.cell 0
    have cN1 := BX.cell 1
    have cN2 := BX.cell 2
    simp at cN0 cN1 cN2
    clear hb1
    go_wp2_with fail
    refine (toLog_any _ _ _ _).mono ?_
    rintro e w2 ⟨rfl, hb2⟩
    have hT2 := below_next hT1 hb2 rfl
    replace BX := BX.next hb2
    clear hb2 cN0 cN1 cN2
    go_wp2_with fail
    refine (specSync_any _ _ _ _ (by omega)).mono ?_
    rintro e w3 ⟨rfl, hb3⟩
    rw [HV.out, HD.out, HN.out]
    have hT3 := below_next hT2 hb3 rfl
    replace BX := BX.next hb3
    have hbe := below_box w3 (.cells #[.string D, .string ⟨#[]⟩, .int .i64 N] 31)
    have BS := Blk.new w3 31 #[.string D, .string ⟨#[]⟩, .int .i64 N]
    have hT4 := below_next hT3 hbe rfl
    replace BX := BX.next hbe
    obtain ⟨w4, hw4⟩ : ∃ w4, Hid (w4 = w3.alloc (.cells #[.string D, .string ⟨#[]⟩, .int .i64 N] 31)) := ⟨_, rfl⟩
    rw [← hw4.out] at hT4 BX BS
    have cN0 := BX.cell 0
    have cN1 := BX.cell 1
    have cN2 := BX.cell 2
    simp at cN0 cN1 cN2
    clear hb3 hbe
    go_wp2_with (rw [← hw4.out]; clear hw4)
    refine (toLog_any _ _ _ _).mono ?_
    rintro e w5 ⟨rfl, hb5⟩
    have hT5 := below_next hT4 hb5 rfl
    replace BS := BS.next hb5
    clear hb5 cN0 cN1 cN2 BX
    go_wp2_with fail
    refine (implSync_any _ _ _ _ (by omega) (ht.next hT5)).mono ?_
    rintro e w6 ⟨rfl, hb6⟩
    rw [HV.out, HD.out, HN.out]
    have hT6 := below_next hT5 hb6 rfl
    replace BS := BS.next hb6
    have hbe := below_box w6 (.cells #[.string D, .string ⟨#[]⟩, .int .i64 N] 31)
    have BI := Blk.new w6 31 #[.string D, .string ⟨#[]⟩, .int .i64 N]
    have hT7 := below_next hT6 hbe rfl
    replace BS := BS.next hbe
    obtain ⟨w7, hw7⟩ : ∃ w7, Hid (w7 = w6.alloc (.cells #[.string D, .string ⟨#[]⟩, .int .i64 N] 31)) := ⟨_, rfl⟩
    rw [← hw7.out] at hT7 BS BI
    have cS0 := BS.cell 0
    have cS1 := BS.cell 1
    have cS2 := BS.cell 2
    have cI0 := BI.cell 0
    have cI1 := BI.cell 1
    have cI2 := BI.cell 2
    simp at cS0 cS1 cS2 cI0 cI1 cI2
    clear hb6 hbe
    go_wp2_with (rw [← hw7.out]; clear hw7)
    refine (eqLog_self D ⟨#[]⟩ N _).mono ?_
    rintro e w8 ⟨rfl, hb8⟩
    have hT8 := below_next hT7 hb8 rfl
    clear hb8
    rcases v with _ | _
    all_goals
      go_wp2_with fail
      go_ret
      exact ⟨rfl, hT8⟩
  · have h2 : recSize d p 1048576 < 0 := by simpa using h1
    go_enter Tryd.func7, Tryd.ntmps7
    go_wp2_with fail
    refine (szLog_any d p n _ _ hd hp (by omega) (by omega)).mono ?_
    rintro e w1 ⟨rfl, hb1⟩
    have hT1 := below_next hT0 hb1 rfl
    go_wp2_with fail
    go_ret
    exact ⟨rfl, hT1⟩
end Go.Proofs.YteogfjddkaodkaaDoor
