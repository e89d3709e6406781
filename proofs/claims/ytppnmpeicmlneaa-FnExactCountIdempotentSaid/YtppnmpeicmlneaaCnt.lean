
/- Walks: countForms of the program. -/
import Derived.Test.YtppnmpeicmlneaaCntK
import Derived.Deep.RegionHeld3
import Derived.Deep.DeepCutAuto
namespace Go.Proofs.Ytppnmpeicmlneaa
open Go.RowKit

/-! ## countForms -/
theorem rdOne {w : World} {g n k : Nat} {A : Option Addr} {c : Nat} {T : List Int} (B : Blk w g 102 #[.int .i64 (k : Int), .slice A n c]) (hk : k ≤ 3) (h : RdL RI w A n T) : RdN shOp.m shOp.rd w (some ⟨g, 0, none⟩) 1 [((k : Int), T)] := by
  refine ⟨rfl, by decide, fun j x hj => ?_⟩
  match j, hj with
  | 0, hj =>
    obtain rfl : ((k : Int), T) = x := by simpa using hj
    refine ⟨g, 0, [.int .i64 (k : Int), .slice A n c], rfl, rfl, fun i v hi => ?_, mkOp (x := ((k : Int), T)) ⟨by show _ ≤ (k : Int); omega, by show (k : Int) ≤ _; omega⟩ h⟩
    have := B.cell i
    rw [show 0 + 0 * shOp.m + i = i by rw [Nat.zero_mul]; omega, this]
    simpa using hi
  | j + 1, hj => simp at hj
theorem rdFam {w : World} {g n L k i c : Nat} {tab : Nat → List Int} {A : Option Addr} (B : Blk w g 102 #[.int .i64 (k : Int), .slice A L c]) (hk : k ≤ 3) (hn : n ≤ 5) (h : RdL RI w A L (tab i)) : shAlgebra.rd w [.int .i64 (n : Int), .slice (some ⟨g, 0, none⟩) 1 1] (famA n k tab i) :=
  mkAlgebra (x := famA n k tab i) ⟨by show _ ≤ (n : Int); omega, by show (n : Int) ≤ _; omega⟩ (rdOne B hk h)
theorem code_256 {x : AlgebraM} (h : SmallP x) : ∀ v ∈ codeL x.2, 0 ≤ v ∧ v < 256 := by
  have h5 := h.2.1
  have h1 := h.1
  have key : ∀ l : List OpM, (∀ o ∈ l, OpP x.1.toNat o) → ∀ v ∈ codeL l, 0 ≤ v ∧ v < 256 := by
    intro l
    induction l with
    | nil => intro _ v hv; simp [codeL] at hv
    | cons o l ih =>
      intro ho v hv
      rw [codeL, List.mem_append] at hv
      rcases hv with hv | hv
      · have := (ho o (by simp)).2.2.2 v hv
        omega
      · exact ih (fun q hq => ho q (by simp [hq])) v hv
  exact key x.2 h.2.2.2
set_option maxRecDepth 100000 in
set_option maxHeartbeats 4000000 in
theorem countForms_any {n k many fid L : Nat} {tab : Nat → List Int} {caps : Array Value} (F : FamOk n k many tab) (w : World)
    (hent : ∀ (args : Array Value) (w : World), (callFunc fid args).run Try.prog w = .ok (.enter fid args) w)
    (hC : ∀ (i : Nat) (wz : World), i < many → Below w.heap.size w wz → Calls Try.prog fid (#[.int .i64 (i : Int)] ++ caps) wz fun e w' => ∃ A c, e = .returned (.slice A L c) ∧ RdL RI w' A L (tab i) ∧ Below wz.heap.size wz w')
    (hm : many ≤ 1000) :
    Calls Try.prog 82 #[.int .i64 (n : Int), .int .i64 (k : Int), .int .i64 (many : Int), .func (.func fid) #[] caps] w (Bl w (.int .i64 ((famC n k many tab : Nat) : Int))) := by
  have hmm := @run_makeMap Try.prog
  obtain ⟨w0, hw0⟩ : ∃ w0, w0 = w.alloc (.map #[] 0) := ⟨_, rfl⟩
  have M0 : MapS w0 w.heap.size [] := by rw [hw0]; exact MapS.made _
  have T0 : Below w.heap.size w w0 := by rw [hw0]; exact below_box _ _
  have HW0 := Lib.hid hw0
  have hk3 := F.k3
  have hn5 := F.n5
  clear hw0
  go_enter Try.func82, Try.ntmps82
  go_wp2_with fail
  rw [← HW0.out]
  go_loopw [10] (fun i wr => ∃ j : Nat, j ≤ many ∧ i = .int .i64 j ∧ MapS wr w.heap.size ((List.range j).map (famK n k tab)) ∧ Below w.heap.size w wr) (fun i _ => many - (intOf i).toNat)
  case atStart => exact ⟨0, Nat.zero_le _, rfl, M0, T0⟩
  case round =>
    clear M0 T0
    obtain ⟨j, hj, rfl, hM, hTw⟩ := hrel
    by_cases hlt : j < many
    · have hj0 : (0 : Int) ≤ (j : Int) := by omega
      have hj1 : (j : Int) < (many : Int) := by omega
      have HSM := Lib.hid (F.small hlt)
      have HC := Lib.hid (hC j wr hlt hTw)
      have HMM := Lib.hid hM
      clear hC F hM
      go_wp2_with fail
      refine HC.out.mono ?_
      rintro e w1 ⟨A, c, rfl, hT1, hb1⟩
      have T1 := below_next hTw hb1 rfl
      obtain ⟨w2, HW2⟩ : ∃ wb, Hid (wb = w1.alloc (.cells #[.int .i64 (k : Int), .slice A L c] 102)) := ⟨_, rfl⟩
      have hb2 : Below w1.heap.size w1 w2 := by rw [HW2.out]; exact below_box _ _
      have B2 : Blk w2 w1.heap.size 102 #[.int .i64 (k : Int), .slice A L c] := by rw [HW2.out]; exact Blk.new _ _ _
      have T2 := below_next T1 hb2 rfl
      have U2 := below_next hb1 hb2 rfl
      have hal := rdFam (n := n) B2 hk3 hn5 (hT1.next stab_RI hb2)
      have HCN := Lib.hid (canonR hal HSM.out)
      obtain ⟨x, HX⟩ : ∃ x, Hid (famA n k tab j = x) := ⟨_, rfl⟩
      rw [HX.out] at HCN HSM
      clear hal B2 hb1 hb2 hT1
      go_wp2_with fail
      rw [← HW2.out]
      refine HCN.out.mono ?_
      rintro e w3 ⟨V, Lx, vc, uu, rfl, hF⟩
      have T3 := below_next T2 hF.2 rfl
      have U3 := below_next U2 hF.2 rfl
      obtain ⟨w4, hw4, T4', -, BX⟩ := boxes1 w3 #[.int .i64 (canA x).1, .slice V Lx vc] 41
      have HW4 := Lib.hid hw4
      have T4 := below_next T3 T4' rfl
      have U4 := below_next U3 T4' rfl
      have hsx := canA_small HSM.out
      have hral := shAlgebra.stab hF.1 T4'.block
      have hcx : shAlgebra.cnt (canA x) ≤ 1048576 := by have := small_ops hsx; show 0 + ((canA x).2.length + cntS shOp.cnt (canA x).2) ≤ _; omega
      have HRX := Lib.hid (code_R hsx)
      have hCO := (codeOf_any [.int .i64 (canA x).1, .slice V Lx vc] (canA x) w4 hral hcx)
      have hcl := code_small hsx
      obtain ⟨ln, HLN⟩ : ∃ ln, Hid ((codeL (canA x).2).length = ln) := ⟨_, rfl⟩
      have HCO : Hid (Calls Try.prog 75 #[.agg #[.int .i64 (canA x).1, .slice V Lx vc]] w4 (fun e w' => ∃ A c, e = .returned (.slice A ln c) ∧ RdL RI w' A ln (codeL (canA x).2) ∧ Below w4.heap.size w4 w')) :=
        hCO.mono fun e w' ⟨A, c, h1, h2, h3⟩ => by
          rw [HLN.out] at h1 h2
          exact ⟨A, c, h1, rd_of_own (R := RI) h2 (RI_ints HRX.out), h3⟩
      have hln : ln ≤ 1048576 := by rw [← HLN.out]; omega
      have HBD : Hid (∀ v ∈ codeL (canA x).2, 0 ≤ v ∧ v < 256) := fun v hv => code_256 hsx v hv
      have HKEY : Hid (keyS (codeL (canA x).2) = famK n k tab j) := by show _ = _; rw [← HX.out]; rfl
      have HKS : Hid ((keyS (codeL (canA x).2)).size ≤ maxLen) := by
        show (keyB (codeL (canA x).2)).length ≤ _
        rw [keyB_len, HLN.out]
        unfold maxLen
        omega
      obtain ⟨ks, HKK⟩ : ∃ ks, Hid (keyS (codeL (canA x).2) = ks) := ⟨_, rfl⟩
      rw [HKK.out] at HKEY HKS
      have HRl : Hid (((List.range j).map (famK n k tab)).length = j) := by show _ = _; rw [List.length_map, List.length_range]
      clear hw4 hF hral hcx hCO hcl hsx
      go_upto_region 6 with fail
      rw [← HW4.out]
      have cX0 := BX.cell 0
      have cX1 := BX.cell 1
      simp at cX0 cX1
      go_wp2_with fail
      refine HCO.out.mono ?_
      rintro e w5 ⟨A5, c5, rfl, hr5, hb5⟩
      have T5 := below_next T4 hb5 rfl
      have U5 := below_next U4 hb5 rfl
      clear cX0 cX1
      go_wp2_with fail
      refine (keyOf_any _ _ _ _ _ hr5 HBD.out hln).mono ?_
      rintro e w6 ⟨rfl, hb6⟩
      rw [HKK.out]
      have T6 := below_next T5 hb6 rfl
      have U6 := below_next U5 hb6 rfl
      have hM6 := HMM.out.next U6
      obtain ⟨w7, hput, hM7, hg7⟩ := hM6.put HKS.out (by rw [HRl.out]; unfold maxLen; omega)
      rw [HKEY.out] at hM7
      have HM7 := Lib.hid hM7
      have hz6 := T6.size
      clear hM6 hM7
      go_wp2_with fail
      clear hput
      go_roundw
      case rel => exact ⟨j + 1, by omega, by go_num, by rw [List.range_succ, List.map_append]; exact HM7.out, Below.keptMap T6 hg7 (Nat.le_refl _) hz6⟩
      case measure => simp [intOf]; omega
    · obtain rfl : j = many := by omega
      have hj1 : ¬ (j : Int) < (j : Int) := by omega
      have hlen := hM.len 3
      rw [size_once, fam_count F] at hlen
      have HML := Lib.hid hlen
      clear F hC hM hlen
      have hlen := HML.out
      go_wp2_with fail
      go_ret
      exact ⟨rfl, hTw⟩
end Go.Proofs.Ytppnmpeicmlneaa
