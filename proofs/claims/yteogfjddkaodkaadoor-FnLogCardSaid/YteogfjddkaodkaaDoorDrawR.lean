
/- Walk: DrawRecoverLog: how long a text it may draw. -/
import Derived.Test.YteogfjddkaodkaaDoorDrawL
import Derived.Test.YteogfjddkaodkaaDoorSpoilt
import Derived.Test.YteogfjddkaodkaaDoorDrawE
namespace Go.Proofs.YteogfjddkaodkaaDoor
open Go.RowKit

theorem makeN (w : World) (n : Nat) (hn : n ≤ 100000) : (Instr.makeSlice 53 (.int .i64 n) (.int .i64 n)).run Tryd.prog w = .ok (.slice (some ⟨w.heap.size, 0, none⟩) n n) (w.alloc (.cells (madeCells #[.int .u8 0] n) 5)) := by
  obtain ⟨i, hi, hz, hsize, hby⟩ := info_parts info_u8
  have h := run_makeSlice (P := Tryd.prog) w 53 5 i (.int .u8 0) Tryd.underlying53 hi hz .i64 .i64 n n (by omega) (by omega) (by rw [hsize]; omega) (by rw [hby]; omega) (by omega)
  rw [hsize] at h
  rw [show Int.toNat (n : Int) * 1 = n by omega] at h
  exact h
theorem add0 (b j : Nat) : (⟨b, 0, none⟩ : Addr).add j = ⟨b, j, none⟩ := by
  unfold Addr.add
  split
  · rename_i h; rw [h]
  · rw [Nat.zero_add]
theorem convN (w : World) (n : Nat) : (convert 53 9 (.slice (some ⟨w.heap.size, 0, none⟩) n n)).run Tryd.prog (w.alloc (.cells (madeCells #[.int .u8 0] n) 5)) = .ok (.string (mk (List.replicate n 0))) (w.alloc (.cells (madeCells #[.int .u8 0] n) 5)) := by
  have h := run_convert_bytes_back (P := Tryd.prog) (w.alloc (.cells (madeCells #[.int .u8 0] n) 5)) 53 9 5 ⟨w.heap.size, 0, none⟩ n (List.replicate n 0) Tryd.underlying53 Tryd.underlying5 Tryd.underlying9 (fun j hj => by
    have hj' : j < n := by simpa using hj
    rw [add0, (Blk.new w 5 (madeCells #[.int .u8 0] n)).cell j, List.getElem_replicate]
    have hl := congrArg (fun l => l[j]?) (toList_madeCells_one (.int .u8 0) n)
    simp only [Array.getElem?_toList] at hl
    rw [hl, List.getElem?_replicate, if_pos hj']
    rfl)
  rw [List.length_replicate] at h
  exact h

theorem boxes1' (w : World) (cp : Array Value) (tp : TypeId) : ∃ w3, w3 = w.alloc (.cells cp tp) ∧ Below w.heap.size w w3 ∧ w3.heap.size = w.heap.size + 1 ∧ Blk w3 w.heap.size tp cp := ⟨_, rfl, below_box _ _, by simp, Blk.new _ _ _⟩
set_option maxRecDepth 20000 in
set_option maxHeartbeats 8000000 in
theorem drawRecover_any (A : Option Addr) (n c : Nat) (w : World) (h : CodeIn w A n) :
    Calls Tryd.prog 37 #[.slice A n c] w (fun e w' => ∃ s : ByteArray, s.size ≤ 30001 ∧ e = .returned (.string s) ∧ Below w.heap.size w w') := by
  have H0 := CurOk.made (c := c) h rfl
  have T0 := below_box w (.cells #[.slice A n c, .int .i64 0, .int .u64 0] 75)
  go_enter Tryd.func37, Tryd.ntmps37
  go_wp2_with fail
  refine (log_any w.heap.size 0 _ H0 (by omega)).mono ?_
  rintro e w1 ⟨d, p, k, hdp, hk0, hk1, rfl, H1, g1⟩
  have T1 := below_grown T0 g1 (Nat.le_refl _) T0.size
  obtain ⟨w2, hw2, T2', hsz2, BL⟩ := boxes1' w1 #[.string d, .string p, .int .i64 k] 31
  have H2 := H1.next_ T2'
  have T2 := below_next T1 T2' rfl
  have HW2 := Lib.hid hw2
  have kc := cat d p (by omega)
  have hS : (d ++ p).size ≤ 420 := by rw [size_app]; exact hdp
  obtain ⟨S, HS⟩ : ∃ S, Hid (d ++ p = S) := ⟨_, rfl⟩
  rw [HS.out] at kc hS
  clear hw2 BL
  go_wp2_with fail
  rw [← HW2.out]
  refine (pick_any w.heap.size (0 + 100) 4 _ H2 (by omega) (by decide)).mono ?_
  rintro e w3 ⟨x, hx, rfl, H3, g3⟩
  have T3 := below_grown T2 g3 (Nat.le_refl _) T2.size
  have hx4 : x = 0 ∨ x = 1 ∨ x = 2 ∨ x = 3 := by omega
  clear hx
  rcases hx4 with rfl | rfl | rfl | rfl
  · go_wp2_with fail
    refine (spoilt_any w.heap.size (0 + 100 + 2) S ⟨#[35, 64, 10, 48, 49]⟩ _ H3 (by omega) (by omega) (by decide) (by decide)).mono ?_
    rintro e w4 ⟨s, hs, rfl, HC, g4⟩
    have TT := below_grown T3 g4 (Nat.le_refl _) T3.size
    have HTs : s.size ≤ 30001 := by omega
    have HT := Lib.hid HTs
    clear HTs
    go_wp2_with fail
    refine (one_any w.heap.size ((0 + 100 + 2 + 6)) 40 _ HC (by omega) (by decide)).mono ?_
    rintro e wA ⟨b, rfl, HA, gA⟩
    have TA := below_grown TT gA (Nat.le_refl _) TT.size
    rcases b with _ | _
    · go_wp2_with fail
      go_ret
      exact ⟨_, HT.out, rfl, TA⟩
    · go_wp2_with fail
      refine (pick_any w.heap.size ((0 + 100 + 2 + 6) + 2) 2 _ HA (by omega) (by decide)).mono ?_
      rintro e wB ⟨y, hy, rfl, HB, gB⟩
      have TB := below_grown TA gB (Nat.le_refl _) TA.size
      have hy1 : y = 0 ∨ y = 1 := by omega
      clear hy
      rcases hy1 with rfl | rfl
      · have hmk : (Instr.makeSlice 53 (.int .i64 30000) (.int .i64 30000)).run Tryd.prog wB = .ok (.slice (some ⟨wB.heap.size, 0, none⟩) 30000 30000) (wB.alloc (.cells (madeCells #[.int .u8 0] 30000) 5)) := makeN wB 30000 (by decide)
        have hcv := convN wB 30000
        obtain ⟨Z, HZ⟩ : ∃ Z, Hid (mk (List.replicate 30000 0) = Z) := ⟨_, rfl⟩
        have hzs : Z.size ≤ 30001 := by rw [← HZ.out, size_mk, List.length_replicate]; decide
        rw [HZ.out] at hcv
        go_wp2_with fail
        go_ret
        exact ⟨_, hzs, rfl, below_next TB (below_box _ _) rfl⟩
      · have hmk : (Instr.makeSlice 53 (.int .i64 30001) (.int .i64 30001)).run Tryd.prog wB = .ok (.slice (some ⟨wB.heap.size, 0, none⟩) 30001 30001) (wB.alloc (.cells (madeCells #[.int .u8 0] 30001) 5)) := makeN wB 30001 (by decide)
        have hcv := convN wB 30001
        obtain ⟨Z, HZ⟩ : ∃ Z, Hid (mk (List.replicate 30001 0) = Z) := ⟨_, rfl⟩
        have hzs : Z.size ≤ 30001 := by rw [← HZ.out, size_mk, List.length_replicate]; exact Nat.le_refl _
        rw [HZ.out] at hcv
        go_wp2_with fail
        go_ret
        exact ⟨_, hzs, rfl, below_next TB (below_box _ _) rfl⟩
  · go_wp2_with fail
    refine (pick_any w.heap.size (0 + 100 + 2) ((S.size : Int) + 1) _ H3 (by omega) (by omega)).mono ?_
    rintro e w4 ⟨y, hy, rfl, HC, g4⟩
    have TT := below_grown T3 g4 (Nat.le_refl _) T3.size
    have hyS : y ≤ S.size := by omega
    have hy0 : (0 : Int) ≤ (y : Int) := by omega
    have hy1 : (y : Int) ≤ (S.size : Int) := by omega
    clear hy
    have HTs : (S.extract 0 y).size ≤ 30001 := by have := size_ext S 0 y (by omega) hyS; omega
    have HT := Lib.hid HTs
    clear HTs
    go_wp2_with fail
    refine (one_any w.heap.size ((0 + 100 + 2 + 2)) 40 _ HC (by omega) (by decide)).mono ?_
    rintro e wA ⟨b, rfl, HA, gA⟩
    have TA := below_grown TT gA (Nat.le_refl _) TT.size
    rcases b with _ | _
    · go_wp2_with fail
      go_ret
      exact ⟨_, HT.out, rfl, TA⟩
    · go_wp2_with fail
      refine (pick_any w.heap.size ((0 + 100 + 2 + 2) + 2) 2 _ HA (by omega) (by decide)).mono ?_
      rintro e wB ⟨y, hy, rfl, HB, gB⟩
      have TB := below_grown TA gB (Nat.le_refl _) TA.size
      have hy1 : y = 0 ∨ y = 1 := by omega
      clear hy
      rcases hy1 with rfl | rfl
      · have hmk : (Instr.makeSlice 53 (.int .i64 30000) (.int .i64 30000)).run Tryd.prog wB = .ok (.slice (some ⟨wB.heap.size, 0, none⟩) 30000 30000) (wB.alloc (.cells (madeCells #[.int .u8 0] 30000) 5)) := makeN wB 30000 (by decide)
        have hcv := convN wB 30000
        obtain ⟨Z, HZ⟩ : ∃ Z, Hid (mk (List.replicate 30000 0) = Z) := ⟨_, rfl⟩
        have hzs : Z.size ≤ 30001 := by rw [← HZ.out, size_mk, List.length_replicate]; decide
        rw [HZ.out] at hcv
        go_wp2_with fail
        go_ret
        exact ⟨_, hzs, rfl, below_next TB (below_box _ _) rfl⟩
      · have hmk : (Instr.makeSlice 53 (.int .i64 30001) (.int .i64 30001)).run Tryd.prog wB = .ok (.slice (some ⟨wB.heap.size, 0, none⟩) 30001 30001) (wB.alloc (.cells (madeCells #[.int .u8 0] 30001) 5)) := makeN wB 30001 (by decide)
        have hcv := convN wB 30001
        obtain ⟨Z, HZ⟩ : ∃ Z, Hid (mk (List.replicate 30001 0) = Z) := ⟨_, rfl⟩
        have hzs : Z.size ≤ 30001 := by rw [← HZ.out, size_mk, List.length_replicate]; exact Nat.le_refl _
        rw [HZ.out] at hcv
        go_wp2_with fail
        go_ret
        exact ⟨_, hzs, rfl, below_next TB (below_box _ _) rfl⟩
  · go_wp2_with fail
    refine (pick_any w.heap.size (0 + 100 + 2) 4 _ H3 (by omega) (by decide)).mono ?_
    rintro e w4 ⟨y, hy, rfl, H4, g4⟩
    have T4 := below_grown T3 g4 (Nat.le_refl _) T3.size
    have hy4 : y ≤ 3 := by omega
    clear hy
    go_wp2_with fail
    refine (logRecord_any w.heap.size (0 + 100 + 2 + 2) _ H4 (by omega)).mono ?_
    rintro e w5 ⟨a, r, ha, hr, rfl, H5, g5⟩
    have T5 := below_grown T4 g5 (Nat.le_refl _) T4.size
    go_wp2_with fail
    refine (l33Line_any y a r _ (by omega) (by omega) (by omega)).mono ?_
    rintro e w6 ⟨rfl, hb6⟩
    have HC := H5.next_ hb6
    have TT := below_next T5 hb6 rfl
    have hln : (mk (lineL y (bs a) (bs r))).size ≤ 1000 := by
      have h1 : (bs a).length ≤ 20 := ha
      have h2 : (bs r).length ≤ 20 := hr
      have h3 := dec_len (u := y) (by omega)
      have h4 := seal_len (l := bodyL y (bs a) (bs r))
      rw [size_mk]
      simp only [lineL, bodyL, List.length_append, List.length_cons, List.length_nil] at h4 ⊢
      omega
    have kl := cat S (mk (lineL y (bs a) (bs r))) (by omega)
    have HTs : (S ++ mk (lineL y (bs a) (bs r))).size ≤ 30001 := by rw [size_app]; omega
    have HT := Lib.hid HTs
    clear HTs
    go_wp2_with fail
    refine (one_any w.heap.size ((0 + 100 + 2 + 2 + 8)) 40 _ HC (by omega) (by decide)).mono ?_
    rintro e wA ⟨b, rfl, HA, gA⟩
    have TA := below_grown TT gA (Nat.le_refl _) TT.size
    rcases b with _ | _
    · go_wp2_with fail
      go_ret
      exact ⟨_, HT.out, rfl, TA⟩
    · go_wp2_with fail
      refine (pick_any w.heap.size ((0 + 100 + 2 + 2 + 8) + 2) 2 _ HA (by omega) (by decide)).mono ?_
      rintro e wB ⟨y, hy, rfl, HB, gB⟩
      have TB := below_grown TA gB (Nat.le_refl _) TA.size
      have hy1 : y = 0 ∨ y = 1 := by omega
      clear hy
      rcases hy1 with rfl | rfl
      · have hmk : (Instr.makeSlice 53 (.int .i64 30000) (.int .i64 30000)).run Tryd.prog wB = .ok (.slice (some ⟨wB.heap.size, 0, none⟩) 30000 30000) (wB.alloc (.cells (madeCells #[.int .u8 0] 30000) 5)) := makeN wB 30000 (by decide)
        have hcv := convN wB 30000
        obtain ⟨Z, HZ⟩ : ∃ Z, Hid (mk (List.replicate 30000 0) = Z) := ⟨_, rfl⟩
        have hzs : Z.size ≤ 30001 := by rw [← HZ.out, size_mk, List.length_replicate]; decide
        rw [HZ.out] at hcv
        go_wp2_with fail
        go_ret
        exact ⟨_, hzs, rfl, below_next TB (below_box _ _) rfl⟩
      · have hmk : (Instr.makeSlice 53 (.int .i64 30001) (.int .i64 30001)).run Tryd.prog wB = .ok (.slice (some ⟨wB.heap.size, 0, none⟩) 30001 30001) (wB.alloc (.cells (madeCells #[.int .u8 0] 30001) 5)) := makeN wB 30001 (by decide)
        have hcv := convN wB 30001
        obtain ⟨Z, HZ⟩ : ∃ Z, Hid (mk (List.replicate 30001 0) = Z) := ⟨_, rfl⟩
        have hzs : Z.size ≤ 30001 := by rw [← HZ.out, size_mk, List.length_replicate]; exact Nat.le_refl _
        rw [HZ.out] at hcv
        go_wp2_with fail
        go_ret
        exact ⟨_, hzs, rfl, below_next TB (below_box _ _) rfl⟩
  · have HC := H3
    have TT := T3
    have HTs : S.size ≤ 30001 := by omega
    have HT := Lib.hid HTs
    clear HTs
    go_wp2_with fail
    refine (one_any w.heap.size ((0 + 100 + 2)) 40 _ HC (by omega) (by decide)).mono ?_
    rintro e wA ⟨b, rfl, HA, gA⟩
    have TA := below_grown TT gA (Nat.le_refl _) TT.size
    rcases b with _ | _
    · go_wp2_with fail
      go_ret
      exact ⟨_, HT.out, rfl, TA⟩
    · go_wp2_with fail
      refine (pick_any w.heap.size ((0 + 100 + 2) + 2) 2 _ HA (by omega) (by decide)).mono ?_
      rintro e wB ⟨y, hy, rfl, HB, gB⟩
      have TB := below_grown TA gB (Nat.le_refl _) TA.size
      have hy1 : y = 0 ∨ y = 1 := by omega
      clear hy
      rcases hy1 with rfl | rfl
      · have hmk : (Instr.makeSlice 53 (.int .i64 30000) (.int .i64 30000)).run Tryd.prog wB = .ok (.slice (some ⟨wB.heap.size, 0, none⟩) 30000 30000) (wB.alloc (.cells (madeCells #[.int .u8 0] 30000) 5)) := makeN wB 30000 (by decide)
        have hcv := convN wB 30000
        obtain ⟨Z, HZ⟩ : ∃ Z, Hid (mk (List.replicate 30000 0) = Z) := ⟨_, rfl⟩
        have hzs : Z.size ≤ 30001 := by rw [← HZ.out, size_mk, List.length_replicate]; decide
        rw [HZ.out] at hcv
        go_wp2_with fail
        go_ret
        exact ⟨_, hzs, rfl, below_next TB (below_box _ _) rfl⟩
      · have hmk : (Instr.makeSlice 53 (.int .i64 30001) (.int .i64 30001)).run Tryd.prog wB = .ok (.slice (some ⟨wB.heap.size, 0, none⟩) 30001 30001) (wB.alloc (.cells (madeCells #[.int .u8 0] 30001) 5)) := makeN wB 30001 (by decide)
        have hcv := convN wB 30001
        obtain ⟨Z, HZ⟩ : ∃ Z, Hid (mk (List.replicate 30001 0) = Z) := ⟨_, rfl⟩
        have hzs : Z.size ≤ 30001 := by rw [← HZ.out, size_mk, List.length_replicate]; exact Nat.le_refl _
        rw [HZ.out] at hcv
        go_wp2_with fail
        go_ret
        exact ⟨_, hzs, rfl, below_next TB (below_box _ _) rfl⟩
end Go.Proofs.YteogfjddkaodkaaDoor
