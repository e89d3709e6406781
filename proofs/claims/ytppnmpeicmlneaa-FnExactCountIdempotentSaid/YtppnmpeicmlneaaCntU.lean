
/- Walks: CountUnary of the program and of the reference. -/
import Derived.Test.YtppnmpeicmlneaaCnt
import Derived.Deep.RegionHeld3
import Derived.Deep.DeepCutAuto
namespace Go.Proofs.Ytppnmpeicmlneaa
open Go.RowKit

noncomputable def cuM (x : Int) : Int := if inB x 1 4 then ((famC x.toNat 1 (x.toNat ^ x.toNat) (uniT x.toNat) : Nat) : Int) else 0
theorem cu_no {x : Int} (h : inB x 1 4 = false) : cuM x = 0 := by unfold cuM; rw [h]; rfl
theorem cu_yes {n : Nat} (h : inB (n : Int) 1 4 = true) : cuM (n : Int) = ((famC n 1 (n ^ n) (uniT n) : Nat) : Int) := by unfold cuM; rw [h, if_pos rfl, Int.toNat_natCast]
theorem digs_bd {n k i : Nat} (hn : 0 < n) (hn8 : n ≤ 1048576) : ∀ x ∈ nats (digs n k i), -9223372036854775808 ≤ x ∧ x ≤ 9223372036854775807 := fun x hx => by
  obtain ⟨d, hd, rfl⟩ := List.mem_map.1 hx
  have := digs_lt hn hd
  omega
set_option maxRecDepth 100000 in
theorem cuEnter (args : Array Value) (w : World) : (callFunc 84 args).run Try.prog w = .ok (.enter 84 args) w := rfl
set_option maxHeartbeats 1000000 in
theorem cuTab (i n g : Nat) (w : World) (hc : w.cell? ⟨g, 0, none⟩ = some (.int .i64 (n : Int))) (h1 : 1 ≤ n) (h4 : n ≤ 4) (hi : i ≤ 1000) :
    Calls Try.prog 84 #[.int .i64 (i : Int), .pointer (some ⟨g, 0, none⟩)] w fun e w' => ∃ A c, e = .returned (.slice A n c) ∧ RdL RI w' A n (uniT n i) ∧ Below w.heap.size w w' := by
  go_enter Try.func84, Try.ntmps84
  go_wp2_with (go_at_call 85; refine (argsAt_any i n n _ (by omega) (by omega) (by omega) (by omega)).mono ?_; rintro e w1 ⟨g1, rfl, how, hb⟩)
  go_ret
  exact ⟨_, n, rfl, rd_of_own (R := RI) how (RI_ints (digs_bd (by omega) (by omega))), hb⟩
set_option maxRecDepth 100000 in
set_option maxHeartbeats 4000000 in
theorem implCU_any (x : Int) (w : World) (hx : InR x) :
    Calls Try.prog 35 #[.int .i64 x] w (Bl w (.tuple #[.int .i64 (cuM x), .bool (inB x 1 4)])) := by
  have hx1 := hx.1
  have hx2 := hx.2
  rcases h1 : inB x 1 4 with _ | _
  · have HC := Lib.hid (cu_no h1)
    have hr : x < 1 ∨ 4 < x := by unfold inB at h1; simp at h1; omega
    rw [HC.out]
    clear h1
    by_cases hlo : x < 1
    · clear hr
      go_enter Try.func35, Try.ntmps35
      go_wp2_with fail
      go_ret2
      exact ⟨rfl, below_box _ _⟩
    · have hhi : 4 < x := by omega
      clear hr
      go_enter Try.func35, Try.ntmps35
      go_wp2_with fail
      go_ret2
      exact ⟨rfl, below_box _ _⟩
  · have hr : 1 ≤ x ∧ x ≤ 4 := by unfold inB at h1; simpa using h1
    obtain ⟨n, rfl⟩ := Int.eq_ofNat_of_zero_le (show 0 ≤ x by omega)
    have n1 : 1 ≤ n := by omega
    have n4 : n ≤ 4 := by omega
    have HC := Lib.hid (cu_yes h1)
    obtain ⟨N, HN⟩ : ∃ N, Hid (n ^ n = N) := ⟨_, rfl⟩
    have hN : N ≤ 256 := by
      rw [← HN.out]
      have h1 : n ^ n ≤ 4 ^ n := Nat.pow_le_pow_left n4 n
      have h2 : 4 ^ n ≤ 4 ^ 4 := Nat.pow_le_pow_right (by decide) n4
      omega
    have HF : Hid (FamOk n 1 N (uniT n)) := by show FamOk _ _ _ _; rw [← HN.out]; exact uni_ok n1 (by omega)
    rw [HC.out, HN.out]
    obtain ⟨fc, HFC⟩ : ∃ fc, Hid (famC n 1 N (uniT n) = fc) := ⟨_, rfl⟩
    rw [HFC.out]
    obtain ⟨w0, hw0⟩ : ∃ w0, w0 = w.alloc (.cells #[.int .i64 (n : Int)] 3) := ⟨_, rfl⟩
    have T0 : Below w.heap.size w w0 := by rw [hw0]; exact below_box _ _
    have BP : Blk w0 w.heap.size 3 #[.int .i64 (n : Int)] := by rw [hw0]; exact Blk.new _ _ _
    have cP := BP.cell 0
    simp at cP
    have HCF : ∀ wz, Below w0.heap.size w0 wz → Calls Try.prog 82 #[.int .i64 (n : Int), .int .i64 1, .int .i64 (N : Int), .func (.func 84) #[] #[.pointer (some ⟨w.heap.size, 0, none⟩)]] wz (Bl wz (.int .i64 (fc : Int))) := fun wz hz => by
      have := countForms_any (k := 1) (L := n) (caps := #[.pointer (some ⟨w.heap.size, 0, none⟩)]) HF.out wz cuEnter (fun i wy hi hy => by
        have hc := (BP.next hz).next hy
        have hc0 := hc.cell 0
        simp at hc0
        exact cuTab i n w.heap.size wy hc0 n1 n4 (by omega)) (by omega)
      rw [HFC.out] at this
      exact this
    have HW0 := Lib.hid hw0
    have Tk : Below w0.heap.size w0 w0 := Below.refl _ _
    clear hw0 h1 hr hx hx1 hx2
    go_enter Try.func35, Try.ntmps35
    go_upto_region 3 with fail
    rw [← HW0.out]
    go_cut [2, 3] (fun v2 v3 wx => v2 = .int .i64 (fc : Int) ∧ v3 = .bool true ∧ Below w0.heap.size w0 wx)
    case first =>
      go_region_held3 (fun w' => w'.cell? ⟨w.heap.size, 0, none⟩ = some (.int .i64 (n : Int))) (first | go_keep | exact keepc Tk cP) (first
        | (go_at_call 83; refine (power_any n n N _ HN.out (by omega) n4).mono ?_; rintro e wn ⟨rfl, rfl⟩)
        | (go_at_call 82; (with_reducible refine (HCF _ ?_).mono ?_); (first | exact Tk | exact Below.drew Tk); rintro e wn ⟨rfl, hbn⟩; replace Tk := below_next (by first | exact Tk | exact Below.drew Tk) hbn rfl))
      all_goals
        go_wp2_with fail
        go_meet
        exact ⟨rfl, rfl, by first | exact Tk | exact Below.drew Tk⟩
    case rest =>
      obtain ⟨rfl, rfl, hb⟩ := hcut
      have T1 := below_next T0 hb rfl
      go_wp2_with fail
      go_ret2
      exact ⟨rfl, T1⟩
set_option maxRecDepth 100000 in
set_option maxHeartbeats 4000000 in
theorem specCU_any (x : Int) (w : World) (hx : InR x) :
    Calls Try.prog 34 #[.int .i64 x] w (Bl w (.tuple #[.int .i64 (cuM x), .bool (inB x 1 4)])) := by
  have hx1 := hx.1
  have hx2 := hx.2
  rcases h1 : inB x 1 4 with _ | _
  · have HC := Lib.hid (cu_no h1)
    have HI := Lib.hid h1
    rw [HC.out]
    clear h1
    go_enter Try.func34, Try.ntmps34
    go_wp2_with (go_at_call 66; refine (l1In_any _ _ _ _).mono ?_; rintro e w' ⟨rfl, rfl⟩; rw [HI.out])
    go_ret2
    exact ⟨rfl, Below.refl _ _⟩
  · have hr : 1 ≤ x ∧ x ≤ 4 := by unfold inB at h1; simpa using h1
    have HI := Lib.hid h1
    obtain ⟨n, rfl⟩ := Int.eq_ofNat_of_zero_le (show 0 ≤ x by omega)
    have n1 : 1 ≤ n := by omega
    have n4 : n ≤ 4 := by omega
    have HC := Lib.hid (cu_yes h1)
    obtain ⟨N, HN⟩ : ∃ N, Hid (n ^ n = N) := ⟨_, rfl⟩
    have hN : N ≤ 256 := by
      rw [← HN.out]
      have h1 : n ^ n ≤ 4 ^ n := Nat.pow_le_pow_left n4 n
      have h2 : 4 ^ n ≤ 4 ^ 4 := Nat.pow_le_pow_right (by decide) n4
      omega
    have HF : Hid (FamOk n 1 N (uniT n)) := by show FamOk _ _ _ _; rw [← HN.out]; exact uni_ok n1 (by omega)
    rw [HC.out, HN.out]
    clear h1 hr hx hx1 hx2
    go_enter Try.func34, Try.ntmps34
    go_wp2_with (go_at_call 66; refine (l1In_any _ _ _ _).mono ?_; rintro e w' ⟨rfl, rfl⟩; rw [HI.out])
    go_loopw [4, 5] (fun ct i wr => ∃ k : Nat, k ≤ N ∧ i = .int .i64 k ∧ ct = .int .i64 ((famT n 1 (uniT n) k : Nat) : Int) ∧ Below w.heap.size w wr) (fun _ i _ => N - (intOf i).toNat)
    case atStart => exact ⟨0, Nat.zero_le _, rfl, rfl, Below.refl _ _⟩
    case round =>
      obtain ⟨k, hk, rfl, rfl, hT⟩ := hrel
      obtain ⟨fk, HFK⟩ : ∃ fk, Hid (famT n 1 (uniT n) k = fk) := ⟨_, rfl⟩
      have hfk : fk ≤ k := by rw [← HFK.out]; exact famT_le _ _ _ _
      rw [HFK.out]
      by_cases hlt : k < N
      · have hk1 : (k : Int) < (N : Int) := by omega
        have HSM := Lib.hid (HF.out.small hlt)
        have HSUC := Lib.hid (famT_succ n 1 (uniT n) k)
        obtain ⟨y, HY⟩ : ∃ y, Hid (famA n 1 (uniT n) k = y) := ⟨_, rfl⟩
        obtain ⟨sv, HSV⟩ : ∃ b, Hid (eqC (canA y) y = b) := ⟨_, rfl⟩
        rw [HFK.out, HY.out, HSV.out] at HSUC
        rw [HY.out] at HSM
        have HSC := Lib.hid (canA_small HSM.out)
        have HRC := Lib.hid (small_R HSC.out)
        have HY1 : Hid (y.1 = (n : Int)) := by show _ = _; rw [← HY.out]; rfl
        go_upto_region 7 with (go_at_call 78; refine (l2Pow_any n n N _ HN.out (by omega) n4).mono ?_; rintro e w' ⟨rfl, rfl⟩)
        go_upto_region 8 with (go_at_call 79; refine (l2Args_any k n n _ (by omega) (by omega) (by omega) (by omega)).mono ?_; rintro e w1 ⟨g1, rfl, how, hb1⟩)
        have T1 := below_next hT hb1 rfl
        obtain ⟨w2, hw2⟩ : ∃ w2, w2 = w1.alloc (.cells #[.int .i64 1, .slice (some ⟨g1, 0, none⟩) n n] 102) := ⟨_, rfl⟩
        have hb2 : Below w1.heap.size w1 w2 := by rw [hw2]; exact below_box _ _
        have hz2 : w2.heap.size = w1.heap.size + 1 := by rw [hw2]; simp
        have B2 : Blk w2 w1.heap.size 102 #[.int .i64 ((1 : Nat) : Int), .slice (some ⟨g1, 0, none⟩) n n] := by rw [hw2]; exact Blk.new _ _ _
        obtain ⟨w3, hw3⟩ : ∃ w3, w3 = w2.alloc (.cells #[.int .i64 (n : Int), .slice (some ⟨w1.heap.size, 0, none⟩) 1 1] 41) := ⟨_, rfl⟩
        have hb3 : Below w2.heap.size w2 w3 := by rw [hw3]; exact below_box _ _
        have BX : Blk w3 (w1.heap.size + 1) 41 #[.int .i64 (n : Int), .slice (some ⟨w1.heap.size, 0, none⟩) 1 1] := by rw [hw3, ← hz2]; exact Blk.new _ _ _
        have T2 := below_next T1 hb2 rfl
        have T3 := below_next T2 hb3 rfl
        have hT1 : RdL RI w1 (some ⟨g1, 0, none⟩) n (uniT n k) := rd_of_own (R := RI) how (RI_ints (digs_bd (by omega) (by omega)))
        have hal : shAlgebra.rd w3 [.int .i64 (n : Int), .slice (some ⟨w1.heap.size, 0, none⟩) 1 1] y := by
          rw [← HY.out]
          exact shAlgebra.stab (rdFam (tab := uniT n) B2 (by omega) (by omega) (hT1.next stab_RI hb2)) hb3.block
        have HW3 : Hid (w3 = (w1.alloc (.cells #[.int .i64 1, .slice (some ⟨g1, 0, none⟩) n n] 102)).alloc (.cells #[.int .i64 (n : Int), .slice (some ⟨w1.heap.size, 0, none⟩) 1 1] 41)) := by show _ = _; rw [hw3, hw2]
        have HC1 : ∀ wz, Below w3.heap.size w3 wz → Calls Try.prog 81 #[.agg #[.int .i64 (n : Int), .slice (some ⟨w1.heap.size, 0, none⟩) 1 1]] wz (fun e w' => ∃ V L vc, e = .returned (.agg #[.int .i64 (canA y).1, .slice V L vc]) ∧ FormR y wz V L vc w') := fun wz hz => formR (shAlgebra.stab hal hz.block) HSM.out
        have HC2 : ∀ wz V L vc, Below w3.heap.size w3 wz → shAlgebra.rd wz [.int .i64 (canA y).1, .slice V L vc] (canA y) → Calls Try.prog 80 #[.agg #[.int .i64 (canA y).1, .slice V L vc], .agg #[.int .i64 (n : Int), .slice (some ⟨w1.heap.size, 0, none⟩) 1 1]] wz (Bl wz (.bool sv)) := fun wz V L vc hz hr => by
          have := l31Same_any [.int .i64 (canA y).1, .slice V L vc] [.int .i64 (n : Int), .slice (some ⟨w1.heap.size, 0, none⟩) 1 1] (canA y) y wz hr (shAlgebra.stab hal hz.block) HSC.out HSM.out
          rw [HSV.out] at this
          exact this
        have cX0 := BX.cell 0
        have cX1 := BX.cell 1
        simp at cX0 cX1
        have Tk : Below w3.heap.size w3 w3 := Below.refl _ _
        clear hw2 hw3 hb2 hb3 hz2 B2 hal hT1 how hb1
        rw [← HW3.out]
        go_cut [28] from 10 to 30 (fun v28 wx => v28 = .bool sv ∧ Below w3.heap.size w3 wx)
        case first =>
          go_region_held3 (fun w' => w'.cell? ⟨w1.heap.size + 1, 0, none⟩ = some (.int .i64 (n : Int)) ∧ w'.cell? ⟨w1.heap.size + 1, 1, none⟩ = some (.slice (some ⟨w1.heap.size, 0, none⟩) 1 1)) (first | go_keep | exact ⟨keepc Tk cX0, keepc Tk cX1⟩) (first
            | (go_at_call 81; (with_reducible refine (HC1 _ ?_).mono ?_); (first | exact Tk | exact Below.drew Tk); rintro e wn ⟨V, Lx, vc, rfl, hFr, hbn⟩; replace Tk := below_next (by first | exact Tk | exact Below.drew Tk) hbn rfl)
            | (go_at_call 80; refine (HC2 _ _ _ _ (by first | exact Tk | exact Below.drew Tk) (by first | exact hFr | exact shAlgebra.stab hFr (fun _ _ => rfl))).mono ?_; rintro e wm ⟨rfl, hbm⟩; replace Tk := below_next (by first | exact Tk | exact Below.drew Tk) hbm rfl))
          all_goals
            go_wp2_with fail
            go_meet
            exact ⟨rfl, by first | exact Tk | exact Below.drew Tk⟩
        case rest =>
          obtain ⟨rfl, hTc⟩ := hcut
          have T4 := below_next T3 hTc rfl
          clear cX0 cX1 HC1 HC2 Tk
          rcases sv with _ | _
          · have HS2 : Hid (famT n 1 (uniT n) (k + 1) = fk) := HSUC.out
            go_wp2_with fail
            go_roundw
            case rel => exact ⟨k + 1, by omega, by go_num, by rw [HS2.out], T4⟩
            case measure => simp [intOf]; omega
          · have HS2 : Hid (famT n 1 (uniT n) (k + 1) = fk + 1) := HSUC.out
            go_wp2_with fail
            go_roundw
            case rel => exact ⟨k + 1, by omega, by go_num, by rw [HS2.out]; go_num, T4⟩
            case measure => simp [intOf]; omega
      · obtain rfl : k = N := by omega
        have hk1 : ¬ (k : Int) < (k : Int) := by omega
        have HE : Hid (famC n 1 k (uniT n) = fk) := HFK.out
        go_wp2_with (go_at_call 78; refine (l2Pow_any n n k _ HN.out (by omega) n4).mono ?_; rintro e w' ⟨rfl, rfl⟩)
        go_ret2
        exact ⟨by rw [HE.out]; rfl, hT⟩
end Go.Proofs.Ytppnmpeicmlneaa
