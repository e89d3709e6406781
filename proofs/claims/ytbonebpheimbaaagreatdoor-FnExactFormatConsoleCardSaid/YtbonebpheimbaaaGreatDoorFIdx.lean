
/- Walks: where a fact stands in a list, in the program and in the reference. -/
import Derived.Test.YtbonebpheimbaaaGreatDoorTermP
import Derived.Test.YtbonebpheimbaaaGreatDoorHLab
import Derived.Test.YtbonebpheimbaaaGreatDoorAlg
namespace Go.Proofs.YtbonebpheimbaaaGreatDoor
open Go.RowKit
set_option linter.unusedVariables false

noncomputable def posFr (f : FactM) : List FactM → Int → Int
  | [], _ => -1
  | g :: l, k => if eqC f g then k else posFr f l (k + 1)
noncomputable def posF (xs : List FactM) (f : FactM) : Int := posFr f xs 0
def PfAt (xs : List FactM) (f : FactM) (k : Nat) : Prop := posFr f (xs.drop k) k = posF xs f
theorem PfAt.step {xs : List FactM} {f g : FactM} {k : Nat} (h : PfAt xs f k) (hd : xs.drop k = g :: xs.drop (k + 1)) (he : eqC f g = false) : PfAt xs f (k + 1) := by
  unfold PfAt at *
  rw [← h, hd, posFr, if_neg (by rw [he]; decide)]
  rfl
theorem PfAt.stop {xs : List FactM} {f g : FactM} {k : Nat} (h : PfAt xs f k) (hd : xs.drop k = g :: xs.drop (k + 1)) (he : eqC f g = true) : (k : Int) = posF xs f := by
  unfold PfAt at *
  rw [← h, hd, posFr, if_pos he]
theorem PfAt.done {xs : List FactM} {f : FactM} {k : Nat} (h : PfAt xs f k) (hd : xs.drop k = []) : -1 = posF xs f := by
  unfold PfAt at *
  rw [← h, hd]
  rfl
theorem eqC_comm {α : Type} (a b : α) : eqC a b = eqC b a := by
  rw [Bool.eq_iff_iff]
  unfold eqC
  simp only [decide_eq_true_iff]
  exact ⟨Eq.symm, Eq.symm⟩
set_option maxHeartbeats 4000000 in
theorem factIndex_any (A : Option Addr) (n c : Nat) (ds : List Value) (xs : List FactM) (f : FactM) (w : World) (h : RdN shFact.m shFact.rd w A n xs) (h' : shFact.rd w ds f) :
    Calls Tryz.prog 37 #[.slice A n c, .agg ds.toArray] w (Bl w (.int .i64 (posF xs f))) := by
  have hrd' := h'
  obtain ⟨AL, nL, cL, AR, nR, cR, AV, nV, cV, rfl, -, -, -, -⟩ := rdFact h'
  have hle := h.le
  obtain ⟨w0, hw0, T0, hsz0, BP⟩ := boxes1 w #[.int .i64 f.1, .slice AL nL cL, .slice AR nR cR, .slice AV nV cV] 62
  have HW0 := Lib.hid hw0
  replace h := h.next T0
  have HF : Hid (∀ wz, Below w0.heap.size w0 wz → shFact.rd wz [.int .i64 f.1, .slice AL nL cL, .slice AR nR cR, .slice AV nV cV] f) := fun wz hz => shFact.stab (shFact.stab hrd' T0.block) hz.block
  have cP0 := BP.cell 0
  have cP1 := BP.cell 1
  have cP2 := BP.cell 2
  have cP3 := BP.cell 3
  simp at cP0 cP1 cP2 cP3
  clear hw0 hsz0 hrd' h'
  go_enter Tryz.func37, Tryz.ntmps37
  go_upto_region 1 with fail
  rw [← HW0.out]
  go_wp2_with fail
  go_loopw [9] (fun i wr => ∃ k : Nat, k ≤ n ∧ i = .int .i64 k ∧ Hid (PfAt xs f k) ∧ Below w0.heap.size w0 wr) (fun i _ => n - (intOf i).toNat)
  case atStart => exact ⟨0, Nat.zero_le _, rfl, rfl, Below.refl _ _⟩
  case round =>
    obtain ⟨k, hk, rfl, HA, hTr⟩ := hrel
    by_cases hlt : k < n
    · have hk0 : (0 : Int) ≤ (k : Int) := by omega
      have hk1 : (k : Int) < (n : Int) := by omega
      obtain ⟨b, o, vs, g, rfl, -, hc, hr, hd, -⟩ := (h.next hTr).at hlt
      have hrg := hr
      obtain ⟨BL, mL, eL, BR, mR, eR, BV, mV, eV, rfl, -, -, -, -⟩ := rdFact hr
      have cc0 : wr.cell? ⟨b, o + k * 4, none⟩ = some (.int .i64 g.1) := hc 0 _ rfl
      have cc1 : wr.cell? ⟨b, o + k * 4 + 1, none⟩ = some (.slice BL mL eL) := hc 1 _ rfl
      have cc2 : wr.cell? ⟨b, o + k * 4 + 2, none⟩ = some (.slice BR mR eR) := hc 2 _ rfl
      have cc3 : wr.cell? ⟨b, o + k * 4 + 3, none⟩ = some (.slice BV mV eV) := hc 3 _ rfl
      have HD := Lib.hid hd
      obtain ⟨w1, hw1, T1, hsz1, BX⟩ := boxes1 wr #[.int .i64 g.1, .slice BL mL eL, .slice BR mR eR, .slice BV mV eV] 62
      have HW1 := Lib.hid hw1
      have T01 := below_next hTr T1 rfl
      have HS := Lib.hid (sameFact_any _ _ f g w1 (HF.out _ T01) (shFact.stab hrg T1.block))
      obtain ⟨bb, HBB⟩ : ∃ z, Hid (eqC f g = z) := ⟨_, rfl⟩
      rw [HBB.out] at HS
      have kP0 := keepc T01 cP0
      have kP1 := keepc T01 cP1
      have kP2 := keepc T01 cP2
      have kP3 := keepc T01 cP3
      have cX0 := BX.cell 0
      have cX1 := BX.cell 1
      have cX2 := BX.cell 2
      have cX3 := BX.cell 3
      simp at cX0 cX1 cX2 cX3
      clear hc hr hrg hd hw1 hsz1
      go_upto_region 4 with fail
      rw [← HW1.out]
      go_wp2_with fail
      refine HS.out.mono ?_
      rintro e w2 ⟨rfl, hb2⟩
      have T2 := below_next T01 hb2 rfl
      rcases bb with _ | _
      · have HA2 := Lib.hid (HA.out.step HD.out HBB.out)
        go_wp2_with fail
        go_roundw
        case rel => exact ⟨k + 1, by omega, by go_num, HA2, T2⟩
        case measure => simp [intOf]; try omega
      · go_wp2_with fail
        go_ret
        exact ⟨ret_int (HA.out.stop HD.out HBB.out), below_next T0 T2 rfl⟩
    · have hk1 : ¬ (k : Int) < (n : Int) := by omega
      have HE : Hid (xs.drop k = []) := List.drop_eq_nil_of_le (by rw [h.len]; omega)
      go_wp2_with fail
      go_ret
      exact ⟨ret_int (HA.out.done HE.out), below_next T0 hTr rfl⟩
end Go.Proofs.YtbonebpheimbaaaGreatDoor
namespace Go.Proofs.YtbonebpheimbaaaGreatDoor
open Go.RowKit
set_option linter.unusedVariables false

set_option maxHeartbeats 2000000 in
theorem l4Same_any (cs ds : List Value) (x y : IdentityM) (w : World) (h : shIdentity.rd w cs x) (h' : shIdentity.rd w ds y) : Calls Tryz.prog 132 #[.agg cs.toArray, .agg ds.toArray] w (Bl w (.bool (eqC x y))) := by
  obtain ⟨ALeft, nLeft, cLeft, ARight, nRight, cRight, rfl, qLeft, qRight⟩ := rdIdentity h
  obtain ⟨AyLeft, nyLeft, cyLeft, AyRight, nyRight, cyRight, rfl, qyLeft, qyRight⟩ := rdIdentity h'
  obtain ⟨w0, hw0, T0, hsz0, BP, BQ⟩ := boxes2 w #[.slice ALeft nLeft cLeft, .slice ARight nRight cRight] #[.slice AyLeft nyLeft cyLeft, .slice AyRight nyRight cyRight] 60 60
  have HD := Lib.hid (eqPIdentity x y)
  rcases h1 : eqC x.1 y.1 with _ | _
  · have H1 := Lib.hid h1
    clear h1
    go_enter Tryz.func132, Tryz.ntmps132
    go_wp2_with fail
    rw [← hw0]
    refine (bl_of_quiet (l1Same_any _ _ _ _ _ _ _ _ _ (qLeft.next stab_RI T0) (qyLeft.next stab_RI T0))).mono ?_
    rintro e w1 ⟨rfl, hb1⟩
    rw [eqL_dec, H1.out]
    have T1 := below_next T0 hb1 rfl
    go_wp2_with fail
    go_ret
    exact ⟨ret_bool (by rw [HD.out, H1.out]; rfl), T1⟩
  · rcases h2 : eqC x.2 y.2 with _ | _
    all_goals
      have H1 := Lib.hid h1
      have H2 := Lib.hid h2
      clear h2
      go_enter Tryz.func132, Tryz.ntmps132
      go_wp2_with fail
      rw [← hw0]
      refine (bl_of_quiet (l1Same_any _ _ _ _ _ _ _ _ _ (qLeft.next stab_RI T0) (qyLeft.next stab_RI T0))).mono ?_
      rintro e w1 ⟨rfl, hb1⟩
      rw [eqL_dec, H1.out]
      have T1 := below_next T0 hb1 rfl
      have BP1 := BP.next hb1
      have BQ1 := BQ.next hb1
      have cP := BP1.cell 1
      have cQ := BQ1.cell 1
      simp at cP cQ
      go_wp2_with fail
      refine (bl_of_quiet (l1Same_any _ _ _ _ _ _ _ _ _ (qRight.next stab_RI T1) (qyRight.next stab_RI T1))).mono ?_
      rintro e w2 ⟨rfl, hb2⟩
      rw [eqL_dec, H2.out]
      have T2 := below_next T1 hb2 rfl
      go_wp2_with fail
      go_ret
      exact ⟨ret_bool (by rw [HD.out, H1.out, H2.out]; rfl), T2⟩
set_option maxHeartbeats 4000000 in
theorem l32Same_any (cs ds : List Value) (x y : FactM) (w : World) (h : shFact.rd w cs x) (h' : shFact.rd w ds y) : Calls Tryz.prog 86 #[.agg cs.toArray, .agg ds.toArray] w (Bl w (.bool (eqC x y))) := by
  obtain ⟨AEqLeft, nEqLeft, cEqLeft, AEqRight, nEqRight, cEqRight, AList, nList, cList, rfl, qKind, qEqLeft, qEqRight, qList⟩ := rdFact h
  obtain ⟨AyEqLeft, nyEqLeft, cyEqLeft, AyEqRight, nyEqRight, cyEqRight, AyList, nyList, cyList, rfl, qyKind, qyEqLeft, qyEqRight, qyList⟩ := rdFact h'
  obtain ⟨w0, hw0, T0, hsz0, BP, BQ⟩ := boxes2 w #[.int .i64 x.1, .slice AEqLeft nEqLeft cEqLeft, .slice AEqRight nEqRight cEqRight, .slice AList nList cList] #[.int .i64 y.1, .slice AyEqLeft nyEqLeft cyEqLeft, .slice AyEqRight nyEqRight cyEqRight, .slice AyList nyList cyList] 62 62
  have HD := Lib.hid (eqPFact x y)
  have rE := mkIdentity (x := x.2.1) (cLeft := cEqLeft) (cRight := cEqRight) (qEqLeft.next stab_RI T0) (qEqRight.next stab_RI T0)
  have rE' := mkIdentity (x := y.2.1) (cLeft := cyEqLeft) (cRight := cyEqRight) (qyEqLeft.next stab_RI T0) (qyEqRight.next stab_RI T0)
  rcases h0 : eqC x.1 y.1 with _ | _
  · have H0 := Lib.hid h0
    have ht : (x.1 == y.1) = false := by rw [← h0, eqC_dec]; rfl
    clear h0
    go_enter Tryz.func86, Tryz.ntmps86
    go_wp2_with fail
    go_ret
    exact ⟨ret_bool (by rw [HD.out, H0.out]; rfl), by rw [← hw0]; exact T0⟩
  · have H0 := Lib.hid h0
    have ht : (x.1 == y.1) = true := by rw [← h0, eqC_dec]; rfl
    clear h0
    rcases h1 : eqC x.2.1 y.2.1 with _ | _
    · have H1 := Lib.hid h1
      clear h1
      go_enter Tryz.func86, Tryz.ntmps86
      go_wp2_with fail
      rw [← hw0]
      refine (l4Same_any _ _ _ _ _ rE rE').mono ?_
      rintro e w1 ⟨rfl, hb1⟩
      rw [H1.out]
      have T1 := below_next T0 hb1 rfl
      go_wp2_with fail
      go_ret
      exact ⟨ret_bool (by rw [HD.out, H0.out, H1.out]; rfl), T1⟩
    · rcases h2 : eqC x.2.2 y.2.2 with _ | _
      all_goals
        have H1 := Lib.hid h1
        have H2 := Lib.hid h2
        clear h2
        go_enter Tryz.func86, Tryz.ntmps86
        go_wp2_with fail
        rw [← hw0]
        refine (l4Same_any _ _ _ _ _ rE rE').mono ?_
        rintro e w1 ⟨rfl, hb1⟩
        rw [H1.out]
        have T1 := below_next T0 hb1 rfl
        have BP1 := BP.next hb1
        have BQ1 := BQ.next hb1
        have cP := BP1.cell 3
        have cQ := BQ1.cell 3
        simp at cP cQ
        go_wp2_with fail
        refine (bl_of_quiet (l1Same_any _ _ _ _ _ _ _ _ _ (qList.next stab_RI T1) (qyList.next stab_RI T1))).mono ?_
        rintro e w2 ⟨rfl, hb2⟩
        rw [eqL_dec, H2.out]
        have T2 := below_next T1 hb2 rfl
        go_wp2_with fail
        go_ret
        exact ⟨ret_bool (by rw [HD.out, H0.out, H1.out, H2.out]; rfl), T2⟩
set_option maxHeartbeats 4000000 in
theorem l32Find_any (A : Option Addr) (n c : Nat) (ds : List Value) (xs : List FactM) (f : FactM) (w : World) (h : RdN shFact.m shFact.rd w A n xs) (h' : shFact.rd w ds f) :
    Calls Tryz.prog 50 #[.slice A n c, .agg ds.toArray] w (Bl w (.int .i64 (posF xs f))) := by
  have hrd' := h'
  obtain ⟨AL, nL, cL, AR, nR, cR, AV, nV, cV, rfl, -, -, -, -⟩ := rdFact h'
  have hle := h.le
  obtain ⟨w0, hw0, T0, hsz0, BP⟩ := boxes1 w #[.int .i64 f.1, .slice AL nL cL, .slice AR nR cR, .slice AV nV cV] 62
  have HW0 := Lib.hid hw0
  replace h := h.next T0
  have HF : Hid (∀ wz, Below w0.heap.size w0 wz → shFact.rd wz [.int .i64 f.1, .slice AL nL cL, .slice AR nR cR, .slice AV nV cV] f) := fun wz hz => shFact.stab (shFact.stab hrd' T0.block) hz.block
  have cP0 := BP.cell 0
  have cP1 := BP.cell 1
  have cP2 := BP.cell 2
  have cP3 := BP.cell 3
  simp at cP0 cP1 cP2 cP3
  clear hw0 hsz0 hrd' h'
  go_enter Tryz.func50, Tryz.ntmps50
  go_upto_region 1 with fail
  rw [← HW0.out]
  go_wp2_with fail
  go_loopw [5] (fun i wr => ∃ k : Nat, k ≤ n ∧ i = .int .i64 k ∧ Hid (PfAt xs f k) ∧ Below w0.heap.size w0 wr) (fun i _ => n - (intOf i).toNat)
  case atStart => exact ⟨0, Nat.zero_le _, rfl, rfl, Below.refl _ _⟩
  case round =>
    obtain ⟨k, hk, rfl, HA, hTr⟩ := hrel
    by_cases hlt : k < n
    · have hk0 : (0 : Int) ≤ (k : Int) := by omega
      have hk1 : (k : Int) < (n : Int) := by omega
      obtain ⟨b, o, vs, g, rfl, -, hc, hr, hd, -⟩ := (h.next hTr).at hlt
      have hrg := hr
      obtain ⟨BL, mL, eL, BR, mR, eR, BV, mV, eV, rfl, -, -, -, -⟩ := rdFact hr
      have cc0 : wr.cell? ⟨b, o + k * 4, none⟩ = some (.int .i64 g.1) := hc 0 _ rfl
      have cc1 : wr.cell? ⟨b, o + k * 4 + 1, none⟩ = some (.slice BL mL eL) := hc 1 _ rfl
      have cc2 : wr.cell? ⟨b, o + k * 4 + 2, none⟩ = some (.slice BR mR eR) := hc 2 _ rfl
      have cc3 : wr.cell? ⟨b, o + k * 4 + 3, none⟩ = some (.slice BV mV eV) := hc 3 _ rfl
      have HD := Lib.hid hd
      have kP0 := keepc hTr cP0
      have kP1 := keepc hTr cP1
      have kP2 := keepc hTr cP2
      have kP3 := keepc hTr cP3
      obtain ⟨bb, HBB⟩ : ∃ z, Hid (eqC g f = z) := ⟨_, rfl⟩
      have HBC : Hid (eqC f g = bb) := by show _ = _; rw [eqC_comm]; exact HBB.out
      have HS : Hid (∀ wz, Below wr.heap.size wr wz → Calls Tryz.prog 86 #[.agg #[.int .i64 g.1, .slice BL mL eL, .slice BR mR eR, .slice BV mV eV], .agg #[.int .i64 f.1, .slice AL nL cL, .slice AR nR cR, .slice AV nV cV]] wz (Bl wz (.bool bb))) := fun wz hz => by
        have := l32Same_any _ _ g f wz (shFact.stab hrg hz.block) (shFact.stab (HF.out wr hTr) hz.block)
        rwa [HBB.out] at this
      clear hc hr hrg hd
      have Tk : Below wr.heap.size wr wr := Below.refl _ _
      go_wp2_with fail
      go_region_law (first
        | (go_simp; go_at_call 86; (with_reducible refine (HS.out _ ?_).mono ?_); (first | exact Tk | exact below_drewN Tk _); rintro e2 w2 ⟨rfl, hb2⟩; replace Tk := below_next (by first | exact Tk | exact below_drewN Tk _) hb2 rfl))
      all_goals
        rcases bb with _ | _
        · have HA2 := Lib.hid (HA.out.step HD.out HBC.out)
          go_wp2_with fail
          go_roundw
          case rel => exact ⟨k + 1, by omega, by go_num, HA2, below_next hTr Tk rfl⟩
          case measure => simp [intOf]; try omega
        · go_wp2_with fail
          go_ret
          exact ⟨ret_int (HA.out.stop HD.out HBC.out), below_next T0 (below_next hTr Tk rfl) rfl⟩
    · have hk1 : ¬ (k : Int) < (n : Int) := by omega
      have HE : Hid (xs.drop k = []) := List.drop_eq_nil_of_le (by rw [h.len]; omega)
      go_wp2_with fail
      go_ret
      exact ⟨ret_int (HA.out.done HE.out), below_next T0 hTr rfl⟩
end Go.Proofs.YtbonebpheimbaaaGreatDoor
namespace Go.Proofs.YtbonebpheimbaaaGreatDoor
open Go.RowKit
set_option linter.unusedVariables false

noncomputable def memF (pre : List FactM) (f : FactM) : Bool := decide (0 ≤ posF pre f)
noncomputable def goFs (x : AlgebraM) : List FactM → List FactM → Bool
  | _, [] => true
  | pre, f :: r => trueB x f && !memF pre f && goFs x (pre ++ [f]) r
noncomputable def labB (x : LabM) : Bool :=
  decide (0 ≤ x.2.2.2) && decide (x.2.2.2 ≤ 9999) && (if x.1 = true then algB x.2.1 && decide (x.2.2.1.length ≤ 12) && goFs x.2.1 [] x.2.2.1 else decide (x.2.1.1 = 0) && decide (x.2.1.2.length = 0) && decide (x.2.2.1.length = 0))
theorem labB_lo {x : LabM} (h : x.2.2.2 < 0) : labB x = false := by unfold labB; rw [decide_eq_false (show ¬ 0 ≤ x.2.2.2 by omega)]; rfl
theorem labB_hi {x : LabM} (h : 9999 < x.2.2.2) : labB x = false := by unfold labB; rw [decide_eq_false (show ¬ x.2.2.2 ≤ 9999 by omega), Bool.and_false]; rfl
theorem labB_shut {x : LabM} (h0 : 0 ≤ x.2.2.2) (h1 : x.2.2.2 ≤ 9999) (ho : x.1 = false) : labB x = (decide (x.2.1.1 = 0) && decide (x.2.1.2.length = 0) && decide (x.2.2.1.length = 0)) := by
  unfold labB; rw [decide_eq_true h0, decide_eq_true h1, ho]; rfl
theorem labB_open {x : LabM} (h0 : 0 ≤ x.2.2.2) (h1 : x.2.2.2 ≤ 9999) (ho : x.1 = true) : labB x = (algB x.2.1 && decide (x.2.2.1.length ≤ 12) && goFs x.2.1 [] x.2.2.1) := by
  unfold labB; rw [decide_eq_true h0, decide_eq_true h1, ho]; rfl
def FsAt (x : AlgebraM) (fs : List FactM) (k : Nat) : Prop := goFs x (fs.take k) (fs.drop k) = goFs x [] fs
theorem FsAt.zero (x : AlgebraM) (fs : List FactM) : FsAt x fs 0 := rfl
theorem take_next {α : Type} {xs : List α} {g : α} {k : Nat} (hd : xs.drop k = g :: xs.drop (k + 1)) : xs.take (k + 1) = xs.take k ++ [g] := by
  have hk : xs[k]? = some g := by
    have := congrArg (fun l => l[0]?) hd
    simpa using this
  rw [List.take_add_one, hk]
  rfl
theorem FsAt.step {x : AlgebraM} {fs : List FactM} {k : Nat} {g : FactM} (h : FsAt x fs k) (hd : fs.drop k = g :: fs.drop (k + 1)) (h1 : trueB x g = true) (h2 : memF (fs.take k) g = false) : FsAt x fs (k + 1) := by
  unfold FsAt at *
  rw [← h, hd, goFs, h1, h2, take_next hd]
  rfl
theorem FsAt.stop1 {x : AlgebraM} {fs : List FactM} {k : Nat} {g : FactM} (h : FsAt x fs k) (hd : fs.drop k = g :: fs.drop (k + 1)) (h1 : trueB x g = false) : false = goFs x [] fs := by
  unfold FsAt at *
  rw [← h, hd, goFs, h1]
  rfl
theorem FsAt.stop2 {x : AlgebraM} {fs : List FactM} {k : Nat} {g : FactM} (h : FsAt x fs k) (hd : fs.drop k = g :: fs.drop (k + 1)) (h2 : memF (fs.take k) g = true) : false = goFs x [] fs := by
  unfold FsAt at *
  rw [← h, hd, goFs, h2, Bool.not_true, Bool.and_false]
  rfl
theorem FsAt.done {x : AlgebraM} {fs : List FactM} {k : Nat} (h : FsAt x fs k) (hd : fs.drop k = []) : true = goFs x [] fs := by
  unfold FsAt at *
  rw [← h, hd]
  rfl
theorem posFr_parts (f : FactM) (l r : List FactM) (k : Int) : posFr f (l ++ r) k = (if posFr f l k = -1 then posFr f r (k + l.length) else posFr f l k) ∨ k < 0 := by
  induction l generalizing k with
  | nil => exact .inl (by simp [posFr])
  | cons g l ih =>
    by_cases hk : k < 0
    · exact .inr hk
    · refine .inl ?_
      rw [List.cons_append, posFr, posFr]
      by_cases hg : eqC f g = true
      · rw [if_pos hg, if_pos hg, if_neg (by omega)]
      · rw [if_neg hg, if_neg hg]
        rcases ih (k + 1) with h | h
        · rw [h, List.length_cons]
          congr 2
          omega
        · omega
theorem posFr_lt (f : FactM) (l : List FactM) (k : Int) (hk : 0 ≤ k) : posFr f l k = -1 ∨ (k ≤ posFr f l k ∧ posFr f l k < k + l.length) := by
  induction l generalizing k with
  | nil => exact .inl rfl
  | cons g l ih =>
    rw [posFr, List.length_cons]
    by_cases hg : eqC f g = true
    · rw [if_pos hg]; exact .inr ⟨Int.le_refl _, by omega⟩
    · rw [if_neg hg]
      rcases ih (k + 1) (by omega) with h | h
      · exact .inl h
      · exact .inr (by omega)
/-- The first place of a member is its own, or it stands ahead. -/
theorem posF_mem {fs : List FactM} {k : Nat} {g : FactM} (hd : fs.drop k = g :: fs.drop (k + 1)) : (posF fs g = (k : Int)) ↔ memF (fs.take k) g = false := by
  have hlen : (fs.take k).length = k := by
    rw [List.length_take]
    have : (fs.drop k).length ≠ 0 := by rw [hd]; simp
    rw [List.length_drop] at this
    omega
  have e : fs = fs.take k ++ g :: fs.drop (k + 1) := by rw [← hd, List.take_append_drop]
  have h := (posFr_parts g (fs.take k) (g :: fs.drop (k + 1)) 0).resolve_right (by omega)
  rw [← e] at h
  have hb := posFr_lt g (fs.take k) 0 (Int.le_refl _)
  have he : eqC g g = true := by rw [eqC_iff]
  rw [posFr, if_pos he, hlen] at h
  rw [hlen] at hb
  unfold memF posF
  rw [decide_eq_false_iff_not, h]
  by_cases hm : posFr g (fs.take k) 0 = -1
  · rw [if_pos hm]; exact ⟨fun _ => by omega, fun _ => by omega⟩
  · rw [if_neg hm]; exact ⟨fun _ => by omega, fun _ => by omega⟩
end Go.Proofs.YtbonebpheimbaaaGreatDoor
