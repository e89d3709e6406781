/- The walk of the law FnExactIsValidRecord: whatever the record, it answers true. -/
import Derived.Test.YteogfjddkaodkaaRec
namespace Go.Proofs.Yteogfjddkaodkaa
open Go.RowKit

set_option maxHeartbeats 400000 in
theorem lawIsValidRecord (c r : ByteArray) (w : World) (hc : c.size ≤ maxLen) (hr : r.size ≤ maxLen) :
    Calls Try.prog 3 #[.agg #[.string c, .string r]] w (Bl w (.bool true)) := by
  have hT0 := below_box w (.cells #[.string c, .string r] 23)
  have hK0 := Blk.new w 23 #[.string c, .string r]
  rcases h1 : decide (recSize c r 1048576 < 0) with _ | _
  · have h2 : ¬ recSize c r 1048576 < 0 := by simpa using h1
    go_enter Try.func3, Try.ntmps3
    go_wp2_with fail
    refine (szRec_any _ _ _ _ hc hr (by omega) (by omega)).mono ?_
    rintro e w1 ⟨rfl, hb1⟩
    have hT1 := below_next hT0 hb1 rfl
    have hK1 := hK0.next hb1
    have c10 : w1.cell? ⟨w.heap.size, 0, none⟩ = some (.string c) := hK1.cell 0
    have c11 : w1.cell? ⟨w.heap.size, 1, none⟩ = some (.string r) := hK1.cell 1
    go_wp2_with fail
    refine (toRec_any _ _ _).mono ?_
    rintro e w2 ⟨rfl, hb2⟩
    have hT2 := below_next hT1 hb2 rfl
    have hK2 := hK1.next hb2
    go_wp2_with fail
    refine (specValid_any _ _ _ hc hr).mono ?_
    rintro e w3 ⟨rfl, hb3⟩
    have hT3 := below_next hT2 hb3 rfl
    have hK3 := hK2.next hb3
    have c30 : w3.cell? ⟨w.heap.size, 0, none⟩ = some (.string c) := hK3.cell 0
    have c31 : w3.cell? ⟨w.heap.size, 1, none⟩ = some (.string r) := hK3.cell 1
    go_wp2_with fail
    refine (toRec_any _ _ _).mono ?_
    rintro e w4 ⟨rfl, hb4⟩
    have hT4 := below_next hT3 hb4 rfl
    go_wp2_with fail
    refine (implValid_any _ _ _ hc hr).mono ?_
    rintro e w5 ⟨rfl, hb5⟩
    have hT5 := below_next hT4 hb5 rfl
    go_wp2_with fail
    go_ret
    exact ⟨rfl, hT5⟩
  · have h2 : recSize c r 1048576 < 0 := by simpa using h1
    go_enter Try.func3, Try.ntmps3
    go_wp2_with fail
    refine (szRec_any _ _ _ _ hc hr (by omega) (by omega)).mono ?_
    rintro e w1 ⟨rfl, hb1⟩
    have hT1 := below_next hT0 hb1 rfl
    go_wp2_with fail
    go_ret
    exact ⟨rfl, hT1⟩
end Go.Proofs.Yteogfjddkaodkaa
