
/- Walks: FormatConsole, in the program and in the reference. -/
import Derived.Test.YtbonebpheimbaaaGreatDoorCons
import Derived.Test.YtbonebpheimbaaaGreatDoorTxtI
import Derived.Test.YtbonebpheimbaaaGreatDoorLine
import Derived.Deep.RegionHeld3
import Derived.Deep.DeepCutAuto
namespace Go.Proofs.YtbonebpheimbaaaGreatDoor
open Go.RowKit
set_option linter.unusedVariables false
set_option linter.unusedSimpArgs false

theorem capConsoleF {w : World} {cs : List Value} {x : ConsoleM} {bl : List Nat} (h : shConsole.own w cs x bl) : LabFCap w cs := by
  obtain ⟨c1, c2, _, _, rfl, -, hL, -⟩ := h
  have hlen := shLab.rd_len (shLab.ord hL)
  have hc := capLabF hL
  intro b o n c e
  refine hc b o n c ?_
  rw [List.getElem?_append_left (by rw [hlen]; decide)] at e
  exact e
theorem con_parts {x : ConsoleM} (h : conB x = true) : labB x.1 = true ∧ 0 ≤ x.2.2.2 ∧ x.2.2.2 ≤ 60 := by
  unfold conB at h
  rw [Bool.and_eq_true] at h
  obtain ⟨-, -, -, h4⟩ := (Lg.vS_iff (Lg.bs_app x.2.1 x.2.2.1)).1 h.2
  have := (Lg.readAll_split (bs x.2.1 ++ bs x.2.2.1)).2.1
  exact ⟨h.1, by omega, by omega⟩
def fbB (ops : List OpM) : List FactM → Bs
  | [] => []
  | f :: l => [10] ++ ftB ops f ++ fbB ops l
theorem fbB_app (ops : List OpM) : ∀ a b : List FactM, fbB ops (a ++ b) = fbB ops a ++ fbB ops b
  | [], b => rfl
  | f :: a, b => by rw [List.cons_append, fbB, fbB, fbB_app ops a b]; simp only [List.append_assoc]
def fmtB (x : ConsoleM) : Bs := bs (lineS x.1) ++ fbB x.1.2.1.2 x.1.2.2.1 ++ [10, 114, 101, 99, 111, 114, 100, 115, 32] ++ Lib.decDigits x.2.2.2.toNat ++ [10]
noncomputable def fmtM (x : ConsoleM) : ByteArray × Bool := if conB x then (mk (fmtB x), true) else (⟨#[]⟩, false)
theorem fmtM_no {x : ConsoleM} (h : conB x = false) : fmtM x = (⟨#[]⟩, false) := by unfold fmtM; rw [h]; rfl
theorem fmtM_yes {x : ConsoleM} (h : conB x = true) : fmtM x = (mk (fmtB x), true) := by unfold fmtM; rw [h]; rfl
theorem ftB_len {x : AlgebraM} {f : FactM} (hx : AlgP x) (h : trueB x f = true) : (ftB x.2 f).length ≤ 1600 := by
  obtain ⟨hin, -, -, -, -, -⟩ := true_in h
  obtain ⟨h8, ht⟩ := true_txt hx h
  have h1 := kindB_len f.1
  have h2 : (eqB x.2 f).length ≤ 1441 := by
    unfold eqB
    split
    · rename_i hh
      have zL := txT_len hx (ht hh).1
      have zR := txT_len hx (ht hh).2
      rw [List.length_append, List.length_append]
      simp only [List.length_singleton]
      omega
    · simp
  have h3 : (colB f).length ≤ 1 := by unfold colB; split <;> simp
  have h4 := numsB_len (n := x.1.toNat) (by have := hx.2.1; omega) hin
  unfold ftB
  rw [List.length_append, List.length_append, List.length_append]
  omega
theorem lineS_size {x : LabM} (h : labB x = true) : (lineS x).size ≤ 100 := by
  obtain ⟨h0, h1, h12, ha⟩ := lab_parts h
  have zH : (headS x).size ≤ 40 := by
    unfold headS
    split
    · rename_i e
      have a := ha e
      have e1 : (numS x.2.1.1.toNat).size ≤ 6 := numS_size (by have := a.2.1; omega)
      have e2 : (numS x.2.1.2.length).size ≤ 6 := numS_size (by have := a.2.2.1; omega)
      have e3 : sSize.size = 5 := rfl
      have e4 : sOps.size = 6 := rfl
      rw [size_app, size_app, size_app]
      omega
    · decide
  have e1 : (numS x.2.2.1.length).size ≤ 6 := numS_size (by omega)
  have e2 : (numS x.2.2.2.toNat).size ≤ 6 := numS_size (by omega)
  have e3 : sFacts.size = 8 := rfl
  have e4 : sRef.size = 10 := rfl
  unfold lineS
  rw [size_app, size_app, size_app, size_app]
  omega
theorem fbB_len {x : AlgebraM} (hx : AlgP x) : ∀ {fs : List FactM}, (∀ f ∈ fs, trueB x f = true) → (fbB x.2 fs).length ≤ 1601 * fs.length
  | [], _ => by simp [fbB]
  | f :: l, h => by
    have ih := fbB_len hx (fs := l) fun g hg => h g (List.mem_cons_of_mem _ hg)
    have := ftB_len hx (h f (List.mem_cons_self ..))
    simp only [fbB, List.length_append, List.length_cons, List.length_nil]
    omega
/-- Bytes that are ahead when q facts have been written, and how many. -/
theorem fb_room {x : LabM} (h : labB x = true) (q : Nat) : (bs (lineS x) ++ fbB x.2.1.2 (x.2.2.1.take q)).length ≤ 30000 := by
  have h1 := lineS_size h
  rw [List.length_append, ← size_bs]
  obtain ⟨-, -, h12, -⟩ := lab_parts h
  rcases e : x.2.2.1.take q with _ | ⟨f, l⟩
  · simp [fbB]; omega
  · have hA := (lab_facts h f (List.mem_of_mem_take (by rw [e]; exact List.mem_cons_self ..))).2
    have := fbB_len hA (fs := x.2.2.1.take q) fun g hg => (lab_facts h g (List.mem_of_mem_take hg)).1
    rw [List.length_take] at this
    rw [← e]
    omega
theorem fb_next {x : LabM} {g : FactM} {q : Nat} (hg : x.2.2.1[q]? = some g) : fbB x.2.1.2 (x.2.2.1.take (q + 1)) = fbB x.2.1.2 (x.2.2.1.take q) ++ ([10] ++ ftB x.2.1.2 g) := by
  rw [List.take_add_one, hg, fbB_app]
  congr 1
  show [10] ++ ftB x.2.1.2 g ++ fbB _ [] = _
  rw [fbB, List.append_nil]
set_option maxRecDepth 20000 in
set_option maxHeartbeats 16000000 in
theorem implFC_any (cs : List Value) (x : ConsoleM) (w : World) (h : shConsole.rd w cs x) (hcap : LabCap cs) (hs : x.2.1.size + x.2.2.1.size ≤ 1048576) (tab : Tab w) :
    Calls Tryz.prog 11 #[.agg cs.toArray] w (Bl w (.tuple #[.string (fmtM x).1, .bool (fmtM x).2])) := by
  have hrd := h
  obtain ⟨B, k, d, F, n, c, rfl, q1, q2, q3, q4, q5⟩ := rdConsole h
  have hle := q3.le
  have HLN := Lib.hid q3.len
  obtain ⟨w0, hw0, T0, hsz0, BP⟩ := boxes1 w #[.bool x.1.1, .int .i64 x.1.2.1.1, .slice B k d, .slice F n c, .int .i64 x.1.2.2.2, .string x.2.1, .string x.2.2.1, .int .i64 x.2.2.2] 42
  have HW0 := Lib.hid hw0
  have qL : shLab.rd w [.bool x.1.1, .int .i64 x.1.2.1.1, .slice B k d, .slice F n c, .int .i64 x.1.2.2.2] x.1 := mkLab q1 q2 q3 q4
  have qA : shAlgebra.rd w [.int .i64 x.1.2.1.1, .slice B k d] x.1.2.1 := mkAlgebra q1 q2
  have HG := Lib.hid (implIVC_any _ x w0 (shConsole.stab hrd T0.block) hcap hs (tab.next T0))
  obtain ⟨cb, HCB⟩ : ∃ b, Hid (conB x = b) := ⟨_, rfl⟩
  rw [HCB.out] at HG
  have cP0 := BP.cell 0
  have cP1 := BP.cell 1
  have cP2 := BP.cell 2
  have cP3 := BP.cell 3
  have cP4 := BP.cell 4
  have cP5 := BP.cell 5
  have cP6 := BP.cell 6
  have cP7 := BP.cell 7
  simp at cP0 cP1 cP2 cP3 cP4 cP5 cP6 cP7
  rcases cb with _ | _
  · have HE := Lib.hid (fmtM_no HCB.out)
    clear hw0 hsz0
    go_enter Tryz.func11, Tryz.ntmps11
    go_upto_region 1 with fail
    rw [← HW0.out]
    go_wp2_with fail
    refine HG.out.mono ?_
    rintro e w1 ⟨rfl, hb1⟩
    have T1 := below_next T0 hb1 rfl
    go_wp2_with fail
    go_ret2
    exact ⟨by rw [HE.out]; rfl, T1⟩
  obtain ⟨hlab, hcnt0, hcnt6⟩ := con_parts HCB.out
  have HLB := Lib.hid hlab
  obtain ⟨cn, hcn⟩ := Int.eq_ofNat_of_zero_le hcnt0
  have hcn6 : cn ≤ 60 := by omega
  have HCN := Lib.hid hcn
  have HE := Lib.hid (fmtM_yes HCB.out)
  have HT0 := Lib.hid T0
  have HQ0 := Lib.hid q3
  have HQA : Hid (∀ wz, Below w0.heap.size w0 wz → shAlgebra.rd wz [.int .i64 x.1.2.1.1, .slice B k d] x.1.2.1) := fun wz hz => shAlgebra.stab (shAlgebra.stab qA T0.block) hz.block
  have HQL : Hid (∀ wz, Below w0.heap.size w0 wz → shLab.rd wz [.bool x.1.1, .int .i64 x.1.2.1.1, .slice B k d, .slice F n c, .int .i64 x.1.2.2.2] x.1) := fun wz hz => shLab.stab (shLab.stab qL T0.block) hz.block
  have HQF : Hid (∀ wz, Below w0.heap.size w0 wz → RdN shFact.m shFact.rd wz F n x.1.2.2.1) := fun wz hz => (q3.next T0).next hz
  have HTB : Hid (∀ wz, Below w0.heap.size w0 wz → Tab wz) := fun wz hz => (tab.next T0).next hz
  have HLL := Lib.hid (lineS_size hlab)
  obtain ⟨LS, HLS⟩ : ∃ s, Hid (lineS x.1 = s) := ⟨_, rfl⟩
  have zLS : LS.size ≤ 100 := by rw [← HLS.out]; exact HLL.out
  obtain ⟨Nm, HN⟩ : ∃ s, Hid (numS cn = s) := ⟨_, rfl⟩
  have zN : Nm.size ≤ 6 := by rw [← HN.out]; exact numS_size (by omega)
  obtain ⟨S1, HS1, k1, z1⟩ := catx ⟨#[10, 114, 101, 99, 111, 114, 100, 115, 32]⟩ Nm 9 _ (by decide) zN (by decide)
  obtain ⟨S2, HS2, k2, z2⟩ := catx S1 ⟨#[10]⟩ _ 1 z1 (by decide) (by decide)
  have HFIN : Hid (bs LS ++ fbB x.1.2.1.2 x.1.2.2.1 ++ bs S2 = fmtB x) := by
    show _ = _
    unfold fmtB
    rw [← HS2.out, bs_app, ← HS1.out, bs_app, ← HN.out, HLS.out, hcn, Int.toNat_natCast]
    simp only [List.append_assoc]
    rfl
  have hbw : w.heap.size < w0.heap.size := by omega
  have HSZ := Lib.hid hsz0
  clear hw0 hrd h q1 q2 q3 q4 q5 qL qA hcap hs tab hlab hcn hcnt0 hcnt6 BP T0 hsz0
  go_enter Tryz.func11, Tryz.ntmps11
  go_upto_region 1 with fail
  rw [← HW0.out]
  go_wp2_with fail
  refine HG.out.mono ?_
  rintro e w1 ⟨rfl, hb1⟩
  have T1 := below_next (Below.refl w0.heap.size w0) hb1 rfl
  have hw10 := hb1.size
  obtain ⟨w2, hw2⟩ : ∃ wb, wb = w1.alloc (.cells #[.pointer none, .slice none 0 0] 67) := ⟨_, rfl⟩
  have hb12 : Below w1.heap.size w1 w2 := by rw [hw2]; exact below_box _ _
  have T2 := below_next T1 hb12 rfl
  have hB2 : Bd w2 w1.heap.size [] := by rw [hw2]; exact Bd.new _
  have HW2 := Lib.hid hw2
  have HBW : Hid (∀ wz, Below w1.heap.size w2 wz → Below w0.heap.size w0 wz) := fun wz hz => T2.trans (hz.mono hw10)
  have dP0 := keepc T2 cP0
  have dP1 := keepc T2 cP1
  have dP2 := keepc T2 cP2
  have dP3 := keepc T2 cP3
  have dP4 := keepc T2 cP4
  have dP7 := keepc T2 cP7
  have HLI := Lib.hid (labLine_any _ x.1 w2 (HQL.out w2 T2) HLB.out (HTB.out w2 T2))
  rw [HLS.out] at HLI
  have hpw : w.heap.size < w1.heap.size := by omega
  clear hw2 hb12
  go_upto_region 4 with fail
  rw [← HW2.out]
  go_wp2_with fail
  refine HLI.out.mono ?_
  rintro e w3 ⟨rfl, hb3⟩
  have HWS := Lib.hid (writeString_any _ [] LS w3 (hB2.next hb3) (by simp; omega))
  have T23 : Below w1.heap.size w2 w3 := belowB_next (Below.refl _ _) hb3 (Nat.le_of_lt hB2.lt)
  go_wp2_with fail
  refine HWS.out.mono ?_
  rintro e w4 ⟨rfl, hB4, hk4⟩
  rw [List.nil_append] at hB4
  have T24 := T23.trans hk4.1
  have eP3 := keepB T24 hpw dP3
  go_wp2_with fail
  go_loopw [18] (fun i wr => ∃ q : Nat, q ≤ n ∧ i = .int .i64 (q : Int) ∧ Bd wr w1.heap.size (bs LS ++ fbB x.1.2.1.2 (x.1.2.2.1.take q)) ∧ Below w1.heap.size w2 wr) (fun i _ => n - (intOf i).toNat)
  case atStart => exact ⟨0, Nat.zero_le _, rfl, by rw [List.take_zero, fbB, List.append_nil]; exact hB4, T24⟩
  case round =>
    clear hB4 T24 eP3 hk4 T23 hb3 HWS HLI
    obtain ⟨q, hq, rfl, hBq, hTq⟩ := hrel
    have hbl := hBq.lt
    have hrm := fb_room HLB.out q
    rw [HLS.out] at hrm
    have eP1 := keepB hTq hpw dP1
    have eP2 := keepB hTq hpw dP2
    have eP7 := keepB hTq hpw dP7
    by_cases hlt : q < n
    · have hq0 : (0 : Int) ≤ (q : Int) := by omega
      have hq1 : (q : Int) < (n : Int) := by omega
      obtain ⟨b, o, vs, g, rfl, -, hc, hrr, hd, hxg⟩ := (HQF.out wr (HBW.out wr hTq)).at hlt
      obtain ⟨htr, hAP⟩ := lab_facts HLB.out g (List.mem_of_getElem? hxg)
      have hrg := hrr
      obtain ⟨AL, nL, cL, AR, nR, cR, AV, nV, cV, rfl, -, -, -, -⟩ := rdFact hrr
      have cc0 : wr.cell? ⟨b, o + q * 4, none⟩ = some (.int .i64 g.1) := hc 0 _ rfl
      have cc1 : wr.cell? ⟨b, o + q * 4 + 1, none⟩ = some (.slice AL nL cL) := hc 1 _ rfl
      have cc2 : wr.cell? ⟨b, o + q * 4 + 2, none⟩ = some (.slice AR nR cR) := hc 2 _ rfl
      have cc3 : wr.cell? ⟨b, o + q * 4 + 3, none⟩ = some (.slice AV nV cV) := hc 3 _ rfl
      obtain ⟨w5, hw5, T5, hsz5, BX⟩ := boxes1 wr #[.int .i64 g.1, .slice AL nL cL, .slice AR nR cR, .slice AV nV cV] 62
      have HW5 := Lib.hid hw5
      have T25 := belowB_next hTq T5 (Nat.le_of_lt hbl)
      have hB5 := hBq.next T5
      have HFT := Lib.hid (factText_any _ _ x.1.2.1 g w5 (HQA.out w5 (HBW.out w5 T25)) (shFact.stab hrg T5.block) hAP htr (HTB.out w5 (HBW.out w5 T25)))
      obtain ⟨TS, HTS⟩ : ∃ s, Hid (mk (ftB x.1.2.1.2 g) = s) := ⟨_, rfl⟩
      rw [HTS.out] at HFT
      have zTS : TS.size ≤ 1600 := by rw [← HTS.out, size_mk]; exact ftB_len hAP htr
      obtain ⟨S5, HS5, k5, z5⟩ := catx ⟨#[10]⟩ TS 1 _ (by decide) zTS (by decide)
      have HNX : Hid (bs LS ++ fbB x.1.2.1.2 (x.1.2.2.1.take (q + 1)) = bs LS ++ fbB x.1.2.1.2 (x.1.2.2.1.take q) ++ bs S5) := by
        show _ = _
        rw [fb_next hxg, ← HS5.out, bs_app, ← HTS.out, ← List.append_assoc]
        rfl
      have cX0 := BX.cell 0
      have cX1 := BX.cell 1
      have cX2 := BX.cell 2
      have cX3 := BX.cell 3
      simp at cX0 cX1 cX2 cX3
      have fP1 := keepB T25 hpw dP1
      have fP2 := keepB T25 hpw dP2
      clear hc hrr hrg hd hxg hw5 hsz5 htr hAP
      go_upto_region 8 with fail
      rw [← HW5.out]
      go_wp2_with fail
      refine HFT.out.mono ?_
      rintro e w6 ⟨rfl, hb6⟩
      have HW6 := Lib.hid (writeString_any _ _ S5 w6 (hB5.next hb6) (by omega))
      have T26 := belowB_next T25 hb6 (Nat.le_of_lt hB5.lt)
      go_wp2_with fail
      refine HW6.out.mono ?_
      rintro e w7 ⟨rfl, hB7, hk7⟩
      go_wp2_with fail
      go_roundw
      case rel => exact ⟨q + 1, by omega, by go_num, by rw [HNX.out]; exact hB7, T26.trans hk7.1⟩
      case measure => simp [intOf]; try omega
    · obtain rfl : q = n := by omega
      have hq1 : ¬ (q : Int) < (q : Int) := by omega
      rw [List.take_of_length_le (by rw [HLN.out]; exact Nat.le_refl _)] at hBq hrm
      have hi0 := itoa_any cn (by omega) wr (HTB.out wr (HBW.out wr hTq))
      rw [show mk (Lib.decDigits cn) = Nm from HN.out, ← HCN.out] at hi0
      have HI := Lib.hid hi0
      clear hi0
      go_wp2_with fail
      refine HI.out.mono ?_
      rintro e w6 ⟨rfl, hb6⟩
      have HW6 := Lib.hid (writeString_any _ _ S2 w6 (hBq.next hb6) (by omega))
      have T26 := belowB_next hTq hb6 (Nat.le_of_lt hbl)
      go_wp2_with fail
      refine HW6.out.mono ?_
      rintro e w7 ⟨rfl, hB7, hk7⟩
      rw [HFIN.out] at hB7
      have HSX := Lib.hid (string_any _ _ w7 hB7)
      go_wp2_with fail
      refine HSX.out.mono ?_
      rintro e w8 ⟨rfl, hb8⟩
      go_wp2_with fail
      go_ret2
      exact ⟨by rw [HE.out]; rfl, below_next HT0.out (HBW.out _ ((T26.trans hk7.1).trans hb8)) rfl⟩
set_option maxRecDepth 20000 in
set_option maxHeartbeats 16000000 in
theorem specFC_any (cs : List Value) (x : ConsoleM) (w : World) (h : shConsole.rd w cs x) (hs : x.2.1.size + x.2.2.1.size ≤ 1048576) (hcapF : LabFCap w cs) :
    Calls Tryz.prog 10 #[.agg cs.toArray] w (Bl w (.tuple #[.string (fmtM x).1, .bool (fmtM x).2])) := by
  have hrd := h
  obtain ⟨B, k, d, F, n, c, rfl, q1, q2, q3, q4, q5⟩ := rdConsole h
  have hle := q3.le
  have HLN := Lib.hid q3.len
  obtain ⟨w0, hw0, T0, hsz0, BP⟩ := boxes1 w #[.bool x.1.1, .int .i64 x.1.2.1.1, .slice B k d, .slice F n c, .int .i64 x.1.2.2.2, .string x.2.1, .string x.2.2.1, .int .i64 x.2.2.2] 42
  have HW0 := Lib.hid hw0
  have qL : shLab.rd w [.bool x.1.1, .int .i64 x.1.2.1.1, .slice B k d, .slice F n c, .int .i64 x.1.2.2.2] x.1 := mkLab q1 q2 q3 q4
  have qA : shAlgebra.rd w [.int .i64 x.1.2.1.1, .slice B k d] x.1.2.1 := mkAlgebra q1 q2
  have HG := Lib.hid (l34Good_any _ x w0 (shConsole.stab hrd T0.block) hs)
  obtain ⟨cb, HCB⟩ : ∃ b, Hid (conB x = b) := ⟨_, rfl⟩
  rw [HCB.out] at HG
  have cP0 := BP.cell 0
  have cP1 := BP.cell 1
  have cP2 := BP.cell 2
  have cP3 := BP.cell 3
  have cP4 := BP.cell 4
  have cP5 := BP.cell 5
  have cP6 := BP.cell 6
  have cP7 := BP.cell 7
  simp at cP0 cP1 cP2 cP3 cP4 cP5 cP6 cP7
  rcases cb with _ | _
  · have HE := Lib.hid (fmtM_no HCB.out)
    clear hw0 hsz0
    go_enter Tryz.func10, Tryz.ntmps10
    go_upto_region 1 with fail
    rw [← HW0.out]
    go_wp2_with fail
    refine HG.out.mono ?_
    rintro e w1 ⟨rfl, hb1⟩
    have T1 := below_next T0 hb1 rfl
    go_wp2_with fail
    go_ret2
    exact ⟨by rw [HE.out]; rfl, T1⟩
  obtain ⟨hlab, hcnt0, hcnt6⟩ := con_parts HCB.out
  have HLB := Lib.hid hlab
  obtain ⟨cn, hcn⟩ := Int.eq_ofNat_of_zero_le hcnt0
  have hcn6 : cn ≤ 60 := by omega
  have HCN := Lib.hid hcn
  have HE := Lib.hid (fmtM_yes HCB.out)
  have HT0 := Lib.hid T0
  have HQ0 := Lib.hid q3
  have HQA : Hid (∀ wz, Below w0.heap.size w0 wz → shAlgebra.rd wz [.int .i64 x.1.2.1.1, .slice B k d] x.1.2.1) := fun wz hz => shAlgebra.stab (shAlgebra.stab qA T0.block) hz.block
  have HQL : Hid (∀ wz, Below w0.heap.size w0 wz → shLab.rd wz [.bool x.1.1, .int .i64 x.1.2.1.1, .slice B k d, .slice F n c, .int .i64 x.1.2.2.2] x.1) := fun wz hz => shLab.stab (shLab.stab qL T0.block) hz.block
  have HQF : Hid (∀ wz, Below w0.heap.size w0 wz → RdN shFact.m shFact.rd wz F n x.1.2.2.1) := fun wz hz => (q3.next T0).next hz
  have HFC := Lib.hid hcapF
  have HLL := Lib.hid (lineS_size hlab)
  obtain ⟨LS, HLS⟩ : ∃ s, Hid (lineS x.1 = s) := ⟨_, rfl⟩
  have zLS : LS.size ≤ 100 := by rw [← HLS.out]; exact HLL.out
  obtain ⟨Nm, HN⟩ : ∃ s, Hid (numS cn = s) := ⟨_, rfl⟩
  have zN : Nm.size ≤ 6 := by rw [← HN.out]; exact numS_size (by omega)
  have HFIN : Hid (bs LS ++ fbB x.1.2.1.2 x.1.2.2.1 ++ [10, 114, 101, 99, 111, 114, 100, 115, 32] ++ bs Nm ++ [10] = fmtB x) := by
    show _ = _
    unfold fmtB
    rw [← HN.out, HLS.out, hcn, Int.toNat_natCast]
    rfl
  clear hw0 hrd h q1 q2 q3 q4 q5 qL qA hs hlab hcapF hsz0 hcn hcnt0 hcnt6 BP T0
  go_enter Tryz.func10, Tryz.ntmps10
  go_upto_region 1 with fail
  rw [← HW0.out]
  go_wp2_with fail
  refine HG.out.mono ?_
  rintro e w1 ⟨rfl, hb1⟩
  have HLI := Lib.hid (l32Line_any _ x.1 w1 (HQL.out w1 hb1) HLB.out)
  rw [HLS.out] at HLI
  have dP0 := keepc hb1 cP0
  have dP1 := keepc hb1 cP1
  have dP2 := keepc hb1 cP2
  have dP3 := keepc hb1 cP3
  have dP4 := keepc hb1 cP4
  go_wp2_with fail
  refine HLI.out.mono ?_
  rintro e w3 ⟨rfl, hb3⟩
  have T3 := below_next hb1 hb3 rfl
  go_wp2_with fail
  go_loopw [4, 5] (fun s i wr => ∃ (q : Nat) (S : ByteArray), q ≤ n ∧ i = .int .i64 (q : Int) ∧ s = .string S ∧ Hid (bs S = bs LS ++ fbB x.1.2.1.2 (x.1.2.2.1.take q)) ∧ Below w0.heap.size w0 wr) (fun _ i _ => n - (intOf i).toNat)
  case atStart => exact ⟨0, LS, Nat.zero_le _, rfl, rfl, (by show _ = _; rw [List.take_zero, fbB, List.append_nil]), T3⟩
  case round =>
    clear T3 hb3 HLI dP0 dP1 dP2 dP3 dP4
    obtain ⟨q, S, hq, rfl, rfl, HSq, hTq⟩ := hrel
    have hrm := fb_room HLB.out q
    rw [HLS.out, ← HSq.out, bs_len] at hrm
    have eP1 := keepc hTq cP1
    have eP2 := keepc hTq cP2
    have eP3 := keepc hTq cP3
    have eP7 := keepc hTq cP7
    by_cases hlt : q < n
    · have hq0 : (0 : Int) ≤ (q : Int) := by omega
      have hq1 : (q : Int) < (n : Int) := by omega
      obtain ⟨b, o, vs, g, rfl, -, hc, hrr, hd, hxg⟩ := (HQF.out wr hTq).at hlt
      obtain ⟨b', o', vs', g', e1, hlen', hc', -, -, -⟩ := HQ0.out.at hlt
      injection e1 with e1
      injection e1 with e1 e2
      subst e1
      subst e2
      have hrl := shFact.rd_len hrr
      have TT := HT0.out.trans (hTq.mono HT0.out.size)
      obtain rfl : vs' = vs := by
        apply List.ext_getElem?
        intro i
        by_cases hi : i < shFact.m
        · have h1 := hc i _ (List.getElem?_eq_getElem (by omega))
          have h2 := (TT.cell (cell_lt (hc' i _ (List.getElem?_eq_getElem (by omega))))).trans (hc' i _ (List.getElem?_eq_getElem (by omega)))
          rw [h1] at h2
          rw [List.getElem?_eq_getElem (by omega), List.getElem?_eq_getElem (by omega)]
          exact h2.symm
        · rw [List.getElem?_eq_none (by omega), List.getElem?_eq_none (by omega)]
      have hfc := HFC.out b o n c rfl q hlt _ hlen' (fun i v hiv => hc' i v hiv)
      obtain ⟨htr, hAP⟩ := lab_facts HLB.out g (List.mem_of_getElem? hxg)
      have hrg := hrr
      obtain ⟨AL, nL, cL, AR, nR, cR, AV, nV, cV, rfl, -, -, -, -⟩ := rdFact hrr
      have cc0 : wr.cell? ⟨b, o + q * 4, none⟩ = some (.int .i64 g.1) := hc 0 _ rfl
      have cc1 : wr.cell? ⟨b, o + q * 4 + 1, none⟩ = some (.slice AL nL cL) := hc 1 _ rfl
      have cc2 : wr.cell? ⟨b, o + q * 4 + 2, none⟩ = some (.slice AR nR cR) := hc 2 _ rfl
      have cc3 : wr.cell? ⟨b, o + q * 4 + 3, none⟩ = some (.slice AV nV cV) := hc 3 _ rfl
      obtain ⟨TS, HTS⟩ : ∃ s, Hid (mk (ftB x.1.2.1.2 g) = s) := ⟨_, rfl⟩
      have HFT : Hid (∀ wz, Below wr.heap.size wr wz → Calls Tryz.prog 22 #[.agg #[.int .i64 x.1.2.1.1, .slice B k d], .agg #[.int .i64 g.1, .slice AL nL cL, .slice AR nR cR, .slice AV nV cV]] wz (Bl wz (.string TS))) := fun wz hz => by
        have := l32Text_any _ _ x.1.2.1 g wz (HQA.out wz (below_next hTq hz rfl)) (shFact.stab hrg hz.block) hAP htr hfc
        rw [HTS.out] at this
        exact this
      have zTS : TS.size ≤ 1600 := by rw [← HTS.out, size_mk]; exact ftB_len hAP htr
      obtain ⟨S5, HS5, k5, z5⟩ := catx S ⟨#[10]⟩ _ 1 hrm (by decide) (by decide)
      obtain ⟨S6, HS6, k6, z6⟩ := catx S5 TS _ _ z5 zTS (by decide)
      have HNX : Hid (bs S6 = bs LS ++ fbB x.1.2.1.2 (x.1.2.2.1.take (q + 1))) := by
        show _ = _
        rw [fb_next hxg, ← HS6.out, bs_app, ← HS5.out, bs_app, HSq.out, ← HTS.out]
        simp only [List.append_assoc]
        rfl
      have Tk : Below wr.heap.size wr wr := Below.refl _ _
      clear hc hc' hrr hrg hd hxg hlen' hfc htr hAP TT hrl
      go_upto_region 7 with fail
      go_region_held3 (fun w' => w'.cell? ⟨w.heap.size, 1, none⟩ = some (.int .i64 x.1.2.1.1) ∧ w'.cell? ⟨w.heap.size, 2, none⟩ = some (.slice B k d) ∧ w'.cell? ⟨w.heap.size, 3, none⟩ = some (.slice (some ⟨b, o, none⟩) n c) ∧ w'.cell? ⟨b, o + q * 4, none⟩ = some (.int .i64 g.1) ∧ w'.cell? ⟨b, o + q * 4 + 1, none⟩ = some (.slice AL nL cL) ∧ w'.cell? ⟨b, o + q * 4 + 2, none⟩ = some (.slice AR nR cR) ∧ w'.cell? ⟨b, o + q * 4 + 3, none⟩ = some (.slice AV nV cV)) (first | go_keep | exact ⟨keepc Tk eP1, keepc Tk eP2, keepc Tk eP3, keepc Tk cc0, keepc Tk cc1, keepc Tk cc2, keepc Tk cc3⟩) (first | (go_at_call 22; (with_reducible refine (HFT.out _ ?_).mono ?_); (first | exact Tk | exact Below.drew Tk); rintro e wn ⟨rfl, hbn⟩; replace Tk := below_next (by first | exact Tk | exact Below.drew Tk) hbn rfl))
      all_goals
        have T6 := below_next hTq Tk rfl
        go_wp2_with fail
        go_roundw
        case rel => exact ⟨q + 1, S6, by omega, by go_num, rfl, HNX, T6⟩
        case measure => simp [intOf]; try omega
    · obtain rfl : q = n := by omega
      have hq1 : ¬ (q : Int) < (q : Int) := by omega
      rw [List.take_of_length_le (by rw [HLN.out]; exact Nat.le_refl _)] at HSq
      have hi0 := bl_of_quiet (l1Num_any cn (by omega) wr)
      rw [show mk (Lib.decDigits cn) = Nm from HN.out, ← HCN.out] at hi0
      have HI := Lib.hid hi0
      clear hi0
      obtain ⟨S5, HS5, k5, z5⟩ := catx S ⟨#[10, 114, 101, 99, 111, 114, 100, 115, 32]⟩ _ 9 hrm (by decide) (by decide)
      obtain ⟨S6, HS6, k6, z6⟩ := catx S5 Nm _ _ z5 zN (by decide)
      obtain ⟨S7, HS7, k7, z7⟩ := catx S6 ⟨#[10]⟩ _ 1 z6 (by decide) (by decide)
      have HRES : Hid (S7 = mk (fmtB x)) := by
        show _ = _
        refine mk_eq ?_
        rw [← HFIN.out, ← HS7.out, bs_app, ← HS6.out, bs_app, ← HS5.out, bs_app, HSq.out]
        rfl
      go_wp2_with fail
      refine HI.out.mono ?_
      rintro e w6 ⟨rfl, hb6⟩
      go_wp2_with fail
      go_ret2
      exact ⟨by rw [HE.out, HRES.out]; rfl, below_next HT0.out (below_next hTq hb6 rfl) rfl⟩
end Go.Proofs.YtbonebpheimbaaaGreatDoor
namespace Go.Proofs.YtbonebpheimbaaaGreatDoor
open Go.RowKit

set_option linter.unusedVariables false in
set_option maxRecDepth 100000 in
set_option maxHeartbeats 16000000 in
theorem lawFormatConsole (cs0 : List Value) (x0 : ConsoleM) (w : World) (h0 : shConsole.rd w cs0 x0) (tab : Tab w) :
    Calls Tryz.prog 4 #[.agg cs0.toArray] w (Bl w (.bool true)) := by
  have HTAB := Lib.hid tab
  clear tab
  have hh0 := h0
  obtain ⟨Aa0LabBaseOps, na0LabBaseOps, ca0LabBaseOps, Aa0LabFacts, na0LabFacts, ca0LabFacts, rfl, qa0LabBaseSize, qa0LabBaseOps, qa0LabFacts, qa0LabRefused, qa0LogDurable, qa0LogPending, qa0LogCount⟩ := rdConsole hh0
  clear hh0
  have T0 : Below w.heap.size w w := Below.refl _ _
  obtain ⟨w1, HW1', hb1, hsz1, P0⟩ := boxes1 w #[.bool x0.1.1, .int .i64 x0.1.2.1.1, .slice Aa0LabBaseOps na0LabBaseOps ca0LabBaseOps, .slice Aa0LabFacts na0LabFacts ca0LabFacts, .int .i64 x0.1.2.2.2, .string x0.2.1, .string x0.2.2.1, .int .i64 x0.2.2.2] 31
  have HW1 := Lib.hid HW1'
  clear HW1'
  have zw1 : w.heap.size ≤ w1.heap.size := hb1.size
  replace T0 := below_next T0 hb1 rfl
  clear hb1
  have L0 : (0 : Int) ≤ 1048576 ∧ (1048576 : Int) ≤ 1048576 := by omega
  go_enter Tryz.func4, Tryz.ntmps4
  have cP0_0 := P0.cell 0
  have cP0_1 := P0.cell 1
  have cP0_2 := P0.cell 2
  have cP0_3 := P0.cell 3
  have cP0_4 := P0.cell 4
  have cP0_5 := P0.cell 5
  have cP0_6 := P0.cell 6
  have cP0_7 := P0.cell 7
  simp only [List.getElem?_toArray, List.getElem?_cons_zero, List.getElem?_cons_succ] at cP0_0 cP0_1 cP0_2 cP0_3 cP0_4 cP0_5 cP0_6 cP0_7
  rw [HW1.out] at cP0_0
  rw [HW1.out] at cP0_1
  rw [HW1.out] at cP0_2
  rw [HW1.out] at cP0_3
  rw [HW1.out] at cP0_4
  rw [HW1.out] at cP0_5
  rw [HW1.out] at cP0_6
  rw [HW1.out] at cP0_7
  go_wp2_with fail
  rw [← HW1.out]
  clear cP0_0 cP0_1 cP0_2 cP0_3 cP0_4 cP0_5 cP0_6 cP0_7
  refine (szConsole_any [.bool x0.1.1, .int .i64 x0.1.2.1.1, .slice Aa0LabBaseOps na0LabBaseOps ca0LabBaseOps, .slice Aa0LabFacts na0LabFacts ca0LabFacts, .int .i64 x0.1.2.2.2, .string x0.2.1, .string x0.2.2.1, .int .i64 x0.2.2.2] x0 1048576 _ (shConsole.stab h0 T0.block) L0.1 L0.2).mono ?_
  rintro e w2 ⟨rfl, hb2⟩
  have zw2 : w1.heap.size ≤ w2.heap.size := hb2.size
  replace T0 := below_next T0 hb2 rfl
  replace P0 := P0.next hb2
  clear hb2
  obtain ⟨l0, HL0⟩ : ∃ l, Hid (szR (shConsole.cnt x0) 1048576 = l) := ⟨_, rfl⟩
  have bd0 := szR_bd (shConsole.cnt x0) (left := 1048576) L0.1
  rw [HL0.out] at bd0 ⊢
  by_cases z0 : l0 < 0
  · go_wp2_with fail
    go_ret
    exact ⟨rfl, T0⟩
  have hn0 : (shConsole.cnt x0) ≤ 1048576 := by have := szR_ok (a := (shConsole.cnt x0)) (left := 1048576) (by rw [HL0.out]; exact z0); omega
  have M0 : 0 ≤ l0 ∧ l0 ≤ 1048576 := by omega
  clear bd0
  obtain ⟨mo0, HMO0⟩ : ∃ b, Hid ((fmtM x0).1 = b) := ⟨_, rfl⟩
  have hbb0 : (mo0.toList == mo0.toList) = true := by simp
  have hbc0 : (mo0.toList != mo0.toList) = false := by simp
  obtain ⟨mo1, HMO1⟩ : ∃ b, Hid ((fmtM x0).2 = b) := ⟨_, rfl⟩
  have hbb1 := bne_self mo1
  have cP0_0 := P0.cell 0
  have cP0_1 := P0.cell 1
  have cP0_2 := P0.cell 2
  have cP0_3 := P0.cell 3
  have cP0_4 := P0.cell 4
  have cP0_5 := P0.cell 5
  have cP0_6 := P0.cell 6
  have cP0_7 := P0.cell 7
  simp only [List.getElem?_toArray, List.getElem?_cons_zero, List.getElem?_cons_succ] at cP0_0 cP0_1 cP0_2 cP0_3 cP0_4 cP0_5 cP0_6 cP0_7
  go_wp2_with fail
  clear cP0_0 cP0_1 cP0_2 cP0_3 cP0_4 cP0_5 cP0_6 cP0_7
  refine (toConsole_any [.bool x0.1.1, .int .i64 x0.1.2.1.1, .slice Aa0LabBaseOps na0LabBaseOps ca0LabBaseOps, .slice Aa0LabFacts na0LabFacts ca0LabFacts, .int .i64 x0.1.2.2.2, .string x0.2.1, .string x0.2.2.1, .int .i64 x0.2.2.2] x0 _ (shConsole.stab h0 T0.block) hn0).mono ?_
  rintro e w3 ⟨csn0, bln0, rfl, On0, In0, hb3⟩
  have zw3 : w2.heap.size ≤ w3.heap.size := hb3.size
  replace T0 := below_next T0 hb3 rfl
  replace P0 := P0.next hb3
  clear hb3
  obtain ⟨An0LabBaseOps, nn0LabBaseOps, cn0LabBaseOps, An0LabFacts, nn0LabFacts, cn0LabFacts, rfl, -, -, -, -, -, -, -⟩ := rdConsole (shConsole.ord On0)
  have cP0_0 := P0.cell 0
  have cP0_1 := P0.cell 1
  have cP0_2 := P0.cell 2
  have cP0_3 := P0.cell 3
  have cP0_4 := P0.cell 4
  have cP0_5 := P0.cell 5
  have cP0_6 := P0.cell 6
  have cP0_7 := P0.cell 7
  simp only [List.getElem?_toArray, List.getElem?_cons_zero, List.getElem?_cons_succ] at cP0_0 cP0_1 cP0_2 cP0_3 cP0_4 cP0_5 cP0_6 cP0_7
  go_wp2_with fail
  clear cP0_0 cP0_1 cP0_2 cP0_3 cP0_4 cP0_5 cP0_6 cP0_7
  refine (specFC_any [.bool x0.1.1, .int .i64 x0.1.2.1.1, .slice An0LabBaseOps nn0LabBaseOps cn0LabBaseOps, .slice An0LabFacts nn0LabFacts cn0LabFacts, .int .i64 x0.1.2.2.2, .string x0.2.1, .string x0.2.2.1, .int .i64 x0.2.2.2] x0 _ (shConsole.ord On0) (console_cnt hn0) (capConsoleF On0)).mono ?_
  rintro e w4 ⟨rfl, hb4⟩
  rw [HMO0.out, HMO1.out]
  have zw4 : w3.heap.size ≤ w4.heap.size := hb4.size
  replace T0 := below_next T0 hb4 rfl
  replace On0 := Sh.onext On0 hb4
  replace P0 := P0.next hb4
  clear hb4
  clear On0 In0
  have cP0_0 := P0.cell 0
  have cP0_1 := P0.cell 1
  have cP0_2 := P0.cell 2
  have cP0_3 := P0.cell 3
  have cP0_4 := P0.cell 4
  have cP0_5 := P0.cell 5
  have cP0_6 := P0.cell 6
  have cP0_7 := P0.cell 7
  simp only [List.getElem?_toArray, List.getElem?_cons_zero, List.getElem?_cons_succ] at cP0_0 cP0_1 cP0_2 cP0_3 cP0_4 cP0_5 cP0_6 cP0_7
  go_wp2_with fail
  clear cP0_0 cP0_1 cP0_2 cP0_3 cP0_4 cP0_5 cP0_6 cP0_7
  refine (toConsole_any [.bool x0.1.1, .int .i64 x0.1.2.1.1, .slice Aa0LabBaseOps na0LabBaseOps ca0LabBaseOps, .slice Aa0LabFacts na0LabFacts ca0LabFacts, .int .i64 x0.1.2.2.2, .string x0.2.1, .string x0.2.2.1, .int .i64 x0.2.2.2] x0 _ (shConsole.stab h0 T0.block) hn0).mono ?_
  rintro e w5 ⟨csx0, blx0, rfl, Ox0, Ix0, hb5⟩
  have zw5 : w4.heap.size ≤ w5.heap.size := hb5.size
  replace T0 := below_next T0 hb5 rfl
  replace P0 := P0.next hb5
  clear hb5
  obtain ⟨Ax0LabBaseOps, nx0LabBaseOps, cx0LabBaseOps, Ax0LabFacts, nx0LabFacts, cx0LabFacts, rfl, -, -, -, -, -, -, -⟩ := rdConsole (shConsole.ord Ox0)
  obtain ⟨w6, HW6⟩ : ∃ wb, Hid (wb = w5.alloc (.cells #[.bool x0.1.1, .int .i64 x0.1.2.1.1, .slice Ax0LabBaseOps nx0LabBaseOps cx0LabBaseOps, .slice Ax0LabFacts nx0LabFacts cx0LabFacts, .int .i64 x0.1.2.2.2, .string x0.2.1, .string x0.2.2.1, .int .i64 x0.2.2.2] 42)) := ⟨_, rfl⟩
  have hb6 : Below w5.heap.size w5 w6 := by rw [HW6.out]; exact below_box _ _
  have X0 : Blk w6 w5.heap.size 42 #[.bool x0.1.1, .int .i64 x0.1.2.1.1, .slice Ax0LabBaseOps nx0LabBaseOps cx0LabBaseOps, .slice Ax0LabFacts nx0LabFacts cx0LabFacts, .int .i64 x0.1.2.2.2, .string x0.2.1, .string x0.2.2.1, .int .i64 x0.2.2.2] := by rw [HW6.out]; exact Blk.new _ _ _
  have yw6 : w5.heap.size < w6.heap.size := X0.lt
  have zw6 : w5.heap.size ≤ w6.heap.size := hb6.size
  replace T0 := below_next T0 hb6 rfl
  replace Ox0 := Sh.onext Ox0 hb6
  replace P0 := P0.next hb6
  clear hb6
  have cP0_0 := P0.cell 0
  have cP0_1 := P0.cell 1
  have cP0_2 := P0.cell 2
  have cP0_3 := P0.cell 3
  have cP0_4 := P0.cell 4
  have cP0_5 := P0.cell 5
  have cP0_6 := P0.cell 6
  have cP0_7 := P0.cell 7
  have cX0_0 := X0.cell 0
  have cX0_1 := X0.cell 1
  have cX0_2 := X0.cell 2
  have cX0_3 := X0.cell 3
  have cX0_4 := X0.cell 4
  have cX0_5 := X0.cell 5
  have cX0_6 := X0.cell 6
  have cX0_7 := X0.cell 7
  simp only [List.getElem?_toArray, List.getElem?_cons_zero, List.getElem?_cons_succ] at cP0_0 cP0_1 cP0_2 cP0_3 cP0_4 cP0_5 cP0_6 cP0_7 cX0_0 cX0_1 cX0_2 cX0_3 cX0_4 cX0_5 cX0_6 cX0_7
  rw [HW6.out] at cP0_0
  rw [HW6.out] at cP0_1
  rw [HW6.out] at cP0_2
  rw [HW6.out] at cP0_3
  rw [HW6.out] at cP0_4
  rw [HW6.out] at cP0_5
  rw [HW6.out] at cP0_6
  rw [HW6.out] at cP0_7
  rw [HW6.out] at cX0_0
  rw [HW6.out] at cX0_1
  rw [HW6.out] at cX0_2
  rw [HW6.out] at cX0_3
  rw [HW6.out] at cX0_4
  rw [HW6.out] at cX0_5
  rw [HW6.out] at cX0_6
  rw [HW6.out] at cX0_7
  go_wp2_with fail
  rw [← HW6.out]
  clear cP0_0 cP0_1 cP0_2 cP0_3 cP0_4 cP0_5 cP0_6 cP0_7 cX0_0 cX0_1 cX0_2 cX0_3 cX0_4 cX0_5 cX0_6 cX0_7
  refine (implFC_any [.bool x0.1.1, .int .i64 x0.1.2.1.1, .slice Ax0LabBaseOps nx0LabBaseOps cx0LabBaseOps, .slice Ax0LabFacts nx0LabFacts cx0LabFacts, .int .i64 x0.1.2.2.2, .string x0.2.1, .string x0.2.2.1, .int .i64 x0.2.2.2] x0 _ (shConsole.ord Ox0) (capConsole Ox0) (console_cnt hn0) (HTAB.out.next T0)).mono ?_
  rintro e w7 ⟨rfl, hb7⟩
  rw [HMO0.out, HMO1.out]
  have zw7 : w6.heap.size ≤ w7.heap.size := hb7.size
  replace T0 := below_next T0 hb7 rfl
  replace Ox0 := Sh.onext Ox0 hb7
  replace P0 := P0.next hb7
  replace X0 := X0.next hb7
  clear hb7
  have g0 := (shConsole.stab h0 T0.block)
  have Rx0 := shConsole.ord Ox0
  have cP0_0 := P0.cell 0
  have cP0_1 := P0.cell 1
  have cP0_2 := P0.cell 2
  have cP0_3 := P0.cell 3
  have cP0_4 := P0.cell 4
  have cP0_5 := P0.cell 5
  have cP0_6 := P0.cell 6
  have cP0_7 := P0.cell 7
  have cX0_0 := X0.cell 0
  have cX0_1 := X0.cell 1
  have cX0_2 := X0.cell 2
  have cX0_3 := X0.cell 3
  have cX0_4 := X0.cell 4
  have cX0_5 := X0.cell 5
  have cX0_6 := X0.cell 6
  have cX0_7 := X0.cell 7
  simp only [List.getElem?_toArray, List.getElem?_cons_zero, List.getElem?_cons_succ] at cP0_0 cP0_1 cP0_2 cP0_3 cP0_4 cP0_5 cP0_6 cP0_7 cX0_0 cX0_1 cX0_2 cX0_3 cX0_4 cX0_5 cX0_6 cX0_7
  go_upto_region 10 with fail
  clear cP0_0 cP0_1 cP0_2 cP0_3 cP0_4 cP0_5 cP0_6 cP0_7 cX0_0 cX0_1 cX0_2 cX0_3 cX0_4 cX0_5 cX0_6 cX0_7
  have cP0_0 := P0.cell 0
  have cP0_1 := P0.cell 1
  have cP0_2 := P0.cell 2
  have cP0_3 := P0.cell 3
  have cP0_4 := P0.cell 4
  have cP0_5 := P0.cell 5
  have cP0_6 := P0.cell 6
  have cP0_7 := P0.cell 7
  have cX0_0 := X0.cell 0
  have cX0_1 := X0.cell 1
  have cX0_2 := X0.cell 2
  have cX0_3 := X0.cell 3
  have cX0_4 := X0.cell 4
  have cX0_5 := X0.cell 5
  have cX0_6 := X0.cell 6
  have cX0_7 := X0.cell 7
  simp only [List.getElem?_toArray, List.getElem?_cons_zero, List.getElem?_cons_succ] at cP0_0 cP0_1 cP0_2 cP0_3 cP0_4 cP0_5 cP0_6 cP0_7 cX0_0 cX0_1 cX0_2 cX0_3 cX0_4 cX0_5 cX0_6 cX0_7
  have Tk : Below w7.heap.size w7 w7 := Below.refl _ _
  go_region_held3 (fun w' => w'.cell? ⟨w.heap.size, 0, none⟩ = some (.bool x0.1.1) ∧ w'.cell? ⟨w.heap.size, 1, none⟩ = some (.int .i64 x0.1.2.1.1) ∧ w'.cell? ⟨w.heap.size, 2, none⟩ = some (.slice Aa0LabBaseOps na0LabBaseOps ca0LabBaseOps) ∧ w'.cell? ⟨w.heap.size, 3, none⟩ = some (.slice Aa0LabFacts na0LabFacts ca0LabFacts) ∧ w'.cell? ⟨w.heap.size, 4, none⟩ = some (.int .i64 x0.1.2.2.2) ∧ w'.cell? ⟨w.heap.size, 5, none⟩ = some (.string x0.2.1) ∧ w'.cell? ⟨w.heap.size, 6, none⟩ = some (.string x0.2.2.1) ∧ w'.cell? ⟨w.heap.size, 7, none⟩ = some (.int .i64 x0.2.2.2) ∧ w'.cell? ⟨w5.heap.size, 0, none⟩ = some (.bool x0.1.1) ∧ w'.cell? ⟨w5.heap.size, 1, none⟩ = some (.int .i64 x0.1.2.1.1) ∧ w'.cell? ⟨w5.heap.size, 2, none⟩ = some (.slice Ax0LabBaseOps nx0LabBaseOps cx0LabBaseOps) ∧ w'.cell? ⟨w5.heap.size, 3, none⟩ = some (.slice Ax0LabFacts nx0LabFacts cx0LabFacts) ∧ w'.cell? ⟨w5.heap.size, 4, none⟩ = some (.int .i64 x0.1.2.2.2) ∧ w'.cell? ⟨w5.heap.size, 5, none⟩ = some (.string x0.2.1) ∧ w'.cell? ⟨w5.heap.size, 6, none⟩ = some (.string x0.2.2.1) ∧ w'.cell? ⟨w5.heap.size, 7, none⟩ = some (.int .i64 x0.2.2.2)) (first | go_keep | exact ⟨keepc Tk cP0_0, keepc Tk cP0_1, keepc Tk cP0_2, keepc Tk cP0_3, keepc Tk cP0_4, keepc Tk cP0_5, keepc Tk cP0_6, keepc Tk cP0_7, keepc Tk cX0_0, keepc Tk cX0_1, keepc Tk cX0_2, keepc Tk cX0_3, keepc Tk cX0_4, keepc Tk cX0_5, keepc Tk cX0_6, keepc Tk cX0_7⟩) (first | (go_at_call 7; refine (toConsole_any [.bool x0.1.1, .int .i64 x0.1.2.1.1, .slice Aa0LabBaseOps na0LabBaseOps ca0LabBaseOps, .slice Aa0LabFacts na0LabFacts ca0LabFacts, .int .i64 x0.1.2.2.2, .string x0.2.1, .string x0.2.2.1, .int .i64 x0.2.2.2] x0 _ (shConsole.stab g0 (by first | exact Tk.block | exact (Below.drew Tk).block)) hn0).mono ?_; rintro e wn ⟨csn0, bn0, rfl, On, In, hbn⟩; have Rn0 := shConsole.ord On; clear On In; replace Tk := below_next (by first | exact Tk | exact Below.drew Tk) hbn rfl) | (go_at_call 9; refine (eqConsole_any [.bool x0.1.1, .int .i64 x0.1.2.1.1, .slice Ax0LabBaseOps nx0LabBaseOps cx0LabBaseOps, .slice Ax0LabFacts nx0LabFacts cx0LabFacts, .int .i64 x0.1.2.2.2, .string x0.2.1, .string x0.2.2.1, .int .i64 x0.2.2.2] csn0 x0 x0 _ (shConsole.stab Rx0 (by first | exact Tk.block | exact (Below.drew Tk).block)) (by first | exact Rn0 | exact shConsole.stab Rn0 (below_drewN (Below.refl _ _) 1).block)).mono ?_; rintro e w8 ⟨rfl, hbn⟩; replace Tk := below_next (by first | exact Tk | exact Below.drew Tk) hbn rfl; rw [eqC_self]))
  have hb8 := Tk
  have zw8 : w7.heap.size ≤ w8.heap.size := hb8.size
  replace T0 := below_next T0 hb8 rfl
  replace Ox0 := Sh.onext Ox0 hb8
  replace P0 := P0.next hb8
  replace X0 := X0.next hb8
  clear hb8 Tk cP0_0 cP0_1 cP0_2 cP0_3 cP0_4 cP0_5 cP0_6 cP0_7 cX0_0 cX0_1 cX0_2 cX0_3 cX0_4 cX0_5 cX0_6 cX0_7
  clear g0 Rx0
  try clear Rn0 hbn
  have cP0_0 := P0.cell 0
  have cP0_1 := P0.cell 1
  have cP0_2 := P0.cell 2
  have cP0_3 := P0.cell 3
  have cP0_4 := P0.cell 4
  have cP0_5 := P0.cell 5
  have cP0_6 := P0.cell 6
  have cP0_7 := P0.cell 7
  have cX0_0 := X0.cell 0
  have cX0_1 := X0.cell 1
  have cX0_2 := X0.cell 2
  have cX0_3 := X0.cell 3
  have cX0_4 := X0.cell 4
  have cX0_5 := X0.cell 5
  have cX0_6 := X0.cell 6
  have cX0_7 := X0.cell 7
  simp only [List.getElem?_toArray, List.getElem?_cons_zero, List.getElem?_cons_succ] at cP0_0 cP0_1 cP0_2 cP0_3 cP0_4 cP0_5 cP0_6 cP0_7 cX0_0 cX0_1 cX0_2 cX0_3 cX0_4 cX0_5 cX0_6 cX0_7
  go_wp2_with fail
  clear cP0_0 cP0_1 cP0_2 cP0_3 cP0_4 cP0_5 cP0_6 cP0_7 cX0_0 cX0_1 cX0_2 cX0_3 cX0_4 cX0_5 cX0_6 cX0_7
  go_ret
  exact ⟨rfl, T0⟩
end Go.Proofs.YtbonebpheimbaaaGreatDoor
