
/- Walks: IsValidConsole, in the program and in the reference. -/
import Derived.Test.YtbonebpheimbaaaGreatDoorLabW
import Derived.Test.YtbonebpheimbaaaGreatDoorLg3
import Derived.Test.YtbonebpheimbaaaGreatDoorHLog
namespace Go.Proofs.YtbonebpheimbaaaGreatDoor
open Go.RowKit
set_option linter.unusedVariables false

noncomputable def conB (x : ConsoleM) : Bool := labB x.1 && Lg.vS (x.2.1 ++ x.2.2.1) x.2.1 x.2.2.2
theorem capConsole {w : World} {cs : List Value} {x : ConsoleM} {bl : List Nat} (h : shConsole.own w cs x bl) : LabCap cs := by
  obtain ⟨c1, c2, _, _, rfl, -, hL, -⟩ := h
  have hlen := shLab.rd_len (shLab.ord hL)
  have hc := capLab hL
  intro F n c e
  refine hc F n c ?_
  rw [List.getElem?_append_left (by rw [hlen]; decide)] at e
  exact e
theorem console_cnt {x : ConsoleM} (h : shConsole.cnt x ≤ 1048576) : x.2.1.size + x.2.2.1.size ≤ 1048576 := by
  have : shLab.cnt x.1 + (x.2.1.size + (x.2.2.1.size + 0)) ≤ 1048576 := h
  omega
set_option maxRecDepth 20000 in
set_option maxHeartbeats 4000000 in
theorem implIVC_any (cs : List Value) (x : ConsoleM) (w : World) (h : shConsole.rd w cs x) (hcap : LabCap cs) (hs : x.2.1.size + x.2.2.1.size ≤ 1048576) (tab : Lg.Tab w) :
    Calls Tryz.prog 8 #[.agg cs.toArray] w (Bl w (.bool (conB x))) := by
  have hrd := h
  obtain ⟨B, k, d, F, n, c, rfl, q1, q2, q3, q4, q5⟩ := rdConsole h
  obtain ⟨w0, hw0, T0, hsz0, BP⟩ := boxes1 w #[.bool x.1.1, .int .i64 x.1.2.1.1, .slice B k d, .slice F n c, .int .i64 x.1.2.2.2, .string x.2.1, .string x.2.2.1, .int .i64 x.2.2.2] 42
  have HW0 := Lib.hid hw0
  have qL : shLab.rd w [.bool x.1.1, .int .i64 x.1.2.1.1, .slice B k d, .slice F n c, .int .i64 x.1.2.2.2] x.1 := mkLab q1 q2 q3 q4
  have HG := Lib.hid (implIsLabv_any _ x.1 w0 (shLab.stab qL T0.block) (fun F n c e => hcap F n c e))
  have HV : Hid (∀ wz, Below w0.heap.size w0 wz → Calls Tryz.prog 18 #[.agg #[.string x.2.1, .string x.2.2.1, .int .i64 x.2.2.2]] wz (Bl wz (.bool (Lg.vS (x.2.1 ++ x.2.2.1) x.2.1 x.2.2.2)))) := fun wz hz => Lg.implValidLog_any x.2.1 x.2.2.1 x.2.2.2 wz hs ((tab.next T0).next hz)
  obtain ⟨lb, HLB⟩ : ∃ b, Hid (labB x.1 = b) := ⟨_, rfl⟩
  obtain ⟨vb, HVB⟩ : ∃ b, Hid (Lg.vS (x.2.1 ++ x.2.2.1) x.2.1 x.2.2.2 = b) := ⟨_, rfl⟩
  rw [HLB.out] at HG
  rw [HVB.out] at HV
  have HC : Hid ((lb && vb) = conB x) := by show _ = _; unfold conB; rw [HLB.out, HVB.out]
  have cP0 := BP.cell 0
  have cP1 := BP.cell 1
  have cP2 := BP.cell 2
  have cP3 := BP.cell 3
  have cP4 := BP.cell 4
  have cP5 := BP.cell 5
  have cP6 := BP.cell 6
  have cP7 := BP.cell 7
  simp at cP0 cP1 cP2 cP3 cP4 cP5 cP6 cP7
  clear hw0 hsz0 hrd h q1 q2 q3 q4 q5 qL hcap tab hs
  go_enter Tryz.func8, Tryz.ntmps8
  go_upto_region 1 with fail
  rw [← HW0.out]
  go_wp2_with fail
  refine HG.out.mono ?_
  rintro e w1 ⟨rfl, hb1⟩
  have kP5 := keepc hb1 cP5
  have kP6 := keepc hb1 cP6
  have kP7 := keepc hb1 cP7
  have T1 := below_next T0 hb1 rfl
  rcases lb with _ | _
  · go_wp2_with fail
    go_ret
    exact ⟨ret_bool HC.out, T1⟩
  · go_wp2_with fail
    refine (HV.out _ hb1).mono ?_
    rintro e w2 ⟨rfl, hb2⟩
    go_wp2_with fail
    go_ret
    exact ⟨ret_bool HC.out, below_next T1 hb2 rfl⟩
set_option maxRecDepth 20000 in
set_option maxHeartbeats 4000000 in
theorem l34Good_any (cs : List Value) (x : ConsoleM) (w : World) (h : shConsole.rd w cs x) (hs : x.2.1.size + x.2.2.1.size ≤ 1048576) :
    Calls Tryz.prog 14 #[.agg cs.toArray] w (Bl w (.bool (conB x))) := by
  have hrd := h
  obtain ⟨B, k, d, F, n, c, rfl, q1, q2, q3, q4, q5⟩ := rdConsole h
  obtain ⟨w0, hw0, T0, hsz0, BP⟩ := boxes1 w #[.bool x.1.1, .int .i64 x.1.2.1.1, .slice B k d, .slice F n c, .int .i64 x.1.2.2.2, .string x.2.1, .string x.2.2.1, .int .i64 x.2.2.2] 42
  have HW0 := Lib.hid hw0
  have qL : shLab.rd w [.bool x.1.1, .int .i64 x.1.2.1.1, .slice B k d, .slice F n c, .int .i64 x.1.2.2.2] x.1 := mkLab q1 q2 q3 q4
  have HG := Lib.hid (l32Good_any _ x.1 w0 (shLab.stab qL T0.block))
  have HV : Hid (∀ wz, Below w0.heap.size w0 wz → Calls Tryz.prog 32 #[.agg #[.string x.2.1, .string x.2.2.1, .int .i64 x.2.2.2]] wz (Bl wz (.bool (Lg.vS (x.2.1 ++ x.2.2.1) x.2.1 x.2.2.2)))) := fun wz hz => Lg.l33Log_any x.2.1 x.2.2.1 x.2.2.2 wz hs
  obtain ⟨lb, HLB⟩ : ∃ b, Hid (labB x.1 = b) := ⟨_, rfl⟩
  obtain ⟨vb, HVB⟩ : ∃ b, Hid (Lg.vS (x.2.1 ++ x.2.2.1) x.2.1 x.2.2.2 = b) := ⟨_, rfl⟩
  rw [HLB.out] at HG
  rw [HVB.out] at HV
  have HC : Hid ((lb && vb) = conB x) := by show _ = _; unfold conB; rw [HLB.out, HVB.out]
  have cP0 := BP.cell 0
  have cP1 := BP.cell 1
  have cP2 := BP.cell 2
  have cP3 := BP.cell 3
  have cP4 := BP.cell 4
  have cP5 := BP.cell 5
  have cP6 := BP.cell 6
  have cP7 := BP.cell 7
  simp at cP0 cP1 cP2 cP3 cP4 cP5 cP6 cP7
  clear hw0 hsz0 hrd h q1 q2 q3 q4 q5 qL hs
  go_enter Tryz.func14, Tryz.ntmps14
  go_upto_region 1 with fail
  rw [← HW0.out]
  go_wp2_with fail
  refine HG.out.mono ?_
  rintro e w1 ⟨rfl, hb1⟩
  have kP5 := keepc hb1 cP5
  have kP6 := keepc hb1 cP6
  have kP7 := keepc hb1 cP7
  have T1 := below_next T0 hb1 rfl
  rcases lb with _ | _
  · go_wp2_with fail
    go_ret
    exact ⟨ret_bool HC.out, T1⟩
  · go_wp2_with fail
    refine (HV.out _ hb1).mono ?_
    rintro e w2 ⟨rfl, hb2⟩
    go_wp2_with fail
    go_ret
    exact ⟨ret_bool HC.out, below_next T1 hb2 rfl⟩
set_option maxHeartbeats 2000000 in
theorem specIVC_any (cs : List Value) (x : ConsoleM) (w : World) (h : shConsole.rd w cs x) (hs : x.2.1.size + x.2.2.1.size ≤ 1048576) : Calls Tryz.prog 6 #[.agg cs.toArray] w (Bl w (.bool (conB x))) := by
  have hrd := h
  obtain ⟨B, k, d, F, n, c, rfl, -, -, -, -, -⟩ := rdConsole h
  obtain ⟨w0, hw0, T0, hsz0, BP⟩ := boxes1 w #[.bool x.1.1, .int .i64 x.1.2.1.1, .slice B k d, .slice F n c, .int .i64 x.1.2.2.2, .string x.2.1, .string x.2.2.1, .int .i64 x.2.2.2] 42
  have HG := Lib.hid (l34Good_any _ x w0 (shConsole.stab hrd T0.block) hs)
  have HW0 := Lib.hid hw0
  clear hw0 hrd h hsz0 hs
  go_enter Tryz.func6, Tryz.ntmps6
  go_wp2_with fail
  rw [← HW0.out]
  refine HG.out.mono ?_
  rintro e w1 ⟨rfl, hb1⟩
  go_wp2_with fail
  go_ret
  exact ⟨rfl, below_next T0 hb1 rfl⟩
end Go.Proofs.YtbonebpheimbaaaGreatDoor
