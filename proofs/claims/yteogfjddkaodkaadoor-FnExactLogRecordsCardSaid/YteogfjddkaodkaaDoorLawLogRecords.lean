/- The law FnExactLogRecords. -/
import Derived.Test.YteogfjddkaodkaaDoorLogRecs
namespace Go.Proofs.YteogfjddkaodkaaDoor
open Go.RowKit

theorem below_wide {B C : Nat} {a w w' : World} (h : Below B a w) (k : Below C w w') (hB : B ≤ C) : Below B a w' := ⟨k.os.trans h.os, k.tape.trans h.tape, k.output.trans h.output, Nat.le_trans h.size k.size, fun b hb => (k.block b (Nat.lt_of_lt_of_le hb hB)).trans (h.block b hb)⟩

set_option maxRecDepth 20000 in
set_option maxHeartbeats 8000000 in
theorem lawLogRecords (d p : ByteArray) (n : Int) (w : World) (hd : d.size ≤ maxLen) (hp : p.size ≤ maxLen) (_l : -9223372036854775808 ≤ n) (_u : n ≤ 9223372036854775807) (ht : Tab w) :
    Calls Tryd.prog 9 #[logV d p n] w (Bl w (.bool true)) := by
  have hT0 := below_box w (.cells #[.string d, .string p, .int .i64 n] 36)
  have BX := Blk.new w 36 #[.string d, .string p, .int .i64 n]
  have hm := lrEs_len d p n
  obtain ⟨es, HES⟩ : ∃ s, Hid (lrEs d p n = s) := ⟨_, rfl⟩
  obtain ⟨m, HM⟩ : ∃ s, Hid (es.length = s) := ⟨_, rfl⟩
  obtain ⟨v, HV⟩ : ∃ s, Hid (vS (d ++ p) d n = s) := ⟨_, rfl⟩
  rw [HES.out, HM.out] at hm
  go_enter Tryd.func9, Tryd.ntmps9
  go_wp2_with fail
  refine (szLog_any d p n _ _ hd hp (by omega) (by omega)).mono ?_
  rintro e w1 ⟨rfl, hb1⟩
  have hT1 := below_next hT0 hb1 rfl
  replace BX := BX.next hb1
  clear hb1
  by_cases h1 : recSize d p 1048576 < 0
  · go_wp2_with fail
    go_ret
    exact ⟨rfl, hT1⟩
  have hsz := recSize_ok h1
  have cN0 := BX.cell 0
  have cN1 := BX.cell 1
  have cN2 := BX.cell 2
  simp at cN0 cN1 cN2
  go_wp2_with fail
  refine (toLog_any _ _ _ _).mono ?_
  rintro e w2 ⟨rfl, hb2⟩
  have hT2 := below_next hT1 hb2 rfl
  replace BX := BX.next hb2
  clear hb2 cN0 cN1 cN2
  go_wp2_with fail
  refine (specLogRecs_any _ _ _ _ (by omega)).mono ?_
  rintro e w3 ⟨A, c, rfl, hoA, hb3⟩
  rw [HES.out, HM.out] at hoA
  rw [HES.out, HV.out, HM.out]
  have hT3 := below_next hT2 hb3 rfl
  replace BX := BX.next hb3
  clear hb3
  have cN0 := BX.cell 0
  have cN1 := BX.cell 1
  have cN2 := BX.cell 2
  simp at cN0 cN1 cN2
  have hltA : ∀ b, (Value.slice A m c).ownBlock = some b → b < w3.heap.size := fun b hb => (hoA.lt b hb).2
  go_wp2_with fail
  refine (toLog_any _ _ _ _).mono ?_
  rintro e w4 ⟨rfl, hb4⟩
  have hT4 := below_next hT3 hb4 rfl
  replace BX := BX.next hb4
  replace hoA := own_next hoA hb4
  have h34 := hb4.size
  have hltX := BX.lt
  clear hb4 cN0 cN1 cN2
  go_wp2_with fail
  refine (implLogRecs_any _ _ _ _ (by omega) (ht.next hT4)).mono ?_
  rintro e w5 ⟨B, c2, rfl, hoB, hb5⟩
  rw [HES.out, HM.out] at hoB
  rw [HES.out, HV.out, HM.out]
  have hT5 := below_next hT4 hb5 rfl
  replace BX := BX.next hb5
  replace hoA := own_next hoA hb5
  have h45 := hb5.size
  have hlt4 := hT4.size
  clear hb5
  go_wp2_with fail
  refine (eqRecs_self B A m c2 c es w5 (R2.ofOwn hoB HM.out) (R2.ofOwn hoA HM.out) hm).mono ?_
  rintro e w6 ⟨rfl, hb6⟩
  have hT6 := below_next hT5 hb6 rfl
  replace BX := BX.next hb6
  replace hoA := own_next hoA hb6
  replace hoB := own_next hoB hb6
  have h56 := hb6.size
  clear hb6
  have hbb : (v != v) = false := by simp
  go_wp2_with fail
  refine (markRecs_any w4.heap.size B m c2 1 w6 (MRow.start hoB) (by omega) hm (by decide) (by decide)).mono ?_
  rintro e w7 ⟨rfl, HMR, hb7⟩
  have hT7 := below_wide hT6 hb7 hlt4
  obtain ⟨Q, HQ⟩ : ∃ Q, Hid ((((1 : Nat) : Int) + 2 * (m : Int)) = Q) := ⟨_, rfl⟩
  have hQ0 : ¬ Q < 0 := by rw [← HQ.out]; omega
  have hQ1 : Q ≤ 9223372036854775807 := by rw [← HQ.out]; omega
  rw [HQ.out]
  replace BX := BX.below hb7 hltX
  replace hoA := own_below hoA hb7 (fun b hb => Nat.lt_of_lt_of_le (hltA b hb) h34)
  clear hb7 hoB
  go_wp2_with fail
  refine (heldRecs_any w4.heap.size B m c2 1 w7 HMR hm (by decide) (by decide)).mono ?_
  rintro e w8 ⟨rfl, hb8⟩
  rw [HQ.out]
  have hT8 := below_next hT7 hb8 rfl
  replace BX := BX.next hb8
  replace hoA := own_next hoA hb8
  replace HMR := HMR.next hb8
  clear hb8
  have cN0 := BX.cell 0
  have cN1 := BX.cell 1
  have cN2 := BX.cell 2
  simp at cN0 cN1 cN2
  go_wp2_with fail
  refine (toLog_any _ _ _ _).mono ?_
  rintro e w9 ⟨rfl, hb9⟩
  have hT9 := below_next hT8 hb9 rfl
  replace hoA := own_next hoA hb9
  replace HMR := HMR.next hb9
  clear hb9 cN0 cN1 cN2
  go_wp2_with fail
  refine (implLogRecs_any _ _ _ _ (by omega) (ht.next hT9)).mono ?_
  rintro e w10 ⟨C, c3, rfl, hoC, hb10⟩
  rw [HES.out, HM.out] at hoC
  rw [HES.out, HV.out, HM.out]
  have hT10 := below_next hT9 hb10 rfl
  replace hoA := own_next hoA hb10
  replace HMR := HMR.next hb10
  clear hb10
  go_wp2_with fail
  refine (eqRecs_self C A m c3 c es w10 (R2.ofOwn hoC HM.out) (R2.ofOwn hoA HM.out) hm).mono ?_
  rintro e w11 ⟨rfl, hb11⟩
  have hT11 := below_next hT10 hb11 rfl
  replace HMR := HMR.next hb11
  clear hb11
  go_wp2_with fail
  refine (heldRecs_any w4.heap.size B m c2 1 w11 HMR hm (by decide) (by decide)).mono ?_
  rintro e w12 ⟨rfl, hb12⟩
  rw [HQ.out]
  have hT12 := below_next hT11 hb12 rfl
  clear hb12
  go_wp2_with fail
  go_ret
  exact ⟨rfl, hT12⟩
end Go.Proofs.YteogfjddkaodkaaDoor
