
/- Walks: the text of a term, in the program. -/
import Derived.Test.YtbonebpheimbaaaGreatDoorNum
import Derived.Test.YtbonebpheimbaaaGreatDoorTerm
import Derived.Test.YtbonebpheimbaaaGreatDoorHold
import Derived.Test.YtbonebpheimbaaaGreatDoorMat
import Derived.Test.YtbonebpheimbaaaGreatDoorInts
import Derived.Test.YtbonebpheimbaaaGreatDoorGrp
import Derived.Test.YtbonebpheimbaaaGreatDoorLabW
import Derived.Deep.RegionHeld3
import Derived.Deep.DeepCutAuto
namespace Go.Proofs.YtbonebpheimbaaaGreatDoor
open Go.RowKit
set_option linter.unusedVariables false

theorem Kb.blk {b g : Nat} {w w' : World} {ty : TypeId} {cs : Array Value} (h : Kb b w w') (hB : Blk w g ty cs) (hg : g ≠ b) (ht : ty ≠ 5) : Blk w' g ty cs :=
  h.2 g _ hB (fun e => hg (by injection e)) (fun c fz e => ht (by injection e))
theorem int_eq {a b : Int} (h : a = b) : Value.int .i64 a = .int .i64 b := by rw [h]
theorem alg_ops {w : World} {z : Int} {B : Option Addr} {k d : Nat} {x : AlgebraM} (h : shAlgebra.rd w [.int .i64 z, .slice B k d] x) : RdN shOp.m shOp.rd w B k x.2 := by
  obtain ⟨B', k', d', e, -, q⟩ := rdAlgebra h
  injection e with e1 e2
  injection e2 with e2 _
  injection e2 with a1 a2 a3
  subst a1
  subst a2
  exact q
theorem drop_pos {t : List Int} {n a : Nat} (h : a < n) (hl : t.length = n) : ∃ v, t[a]? = some v ∧ t.drop a = v :: t.drop (a + 1) :=
  ⟨t[a], List.getElem?_eq_getElem (by omega), List.drop_eq_getElem_cons (by omega)⟩
set_option maxRecDepth 20000 in
set_option maxHeartbeats 16000000 in
theorem writeTerm_any (b : Nat) (cs : List Value) (x : AlgebraM) (A : Option Addr) (n c : Nat) (t : List Int) (hx : AlgP x) (hn : n ≤ 60) : ∀ (d at_ m : Nat) (l : Bs) (w : World), n - at_ ≤ d → at_ < n → GoodS x.2 (t.drop at_) m → 0 < m → l.length + tot (txS x.2 (t.drop at_)) ≤ 100000 →
    Bd w b l → (∀ wz, Below b w wz → shAlgebra.rd wz cs x) → (∀ wz, Below b w wz → RdL RI wz A n t) → (∀ wz, Below b w wz → Tab wz) →
    Calls Tryz.prog 70 #[.pointer (some ⟨b, 0, none⟩), .agg cs.toArray, .slice A n c, .int .i64 at_] w fun e w' => ∃ q : Nat, endT x.2 (t.drop at_) 1 = some q ∧ e = .returned (.int .i64 ((at_ + q : Nat) : Int)) ∧ Bd w' b (l ++ txT x.2 (t.drop at_)) ∧ Kb b w w' := by
  intro d
  induction d with
  | zero => intro at_ m l w h1 h2; omega
  | succ d ih =>
    intro at_ m l w hd hat hg hm hlen hbd hrd hrt htab
    have hrd0 := hrd w (Below.refl _ _)
    obtain ⟨B, ol, dd, rfl, -, qo0⟩ := rdAlgebra hrd0
    have hol : ol ≤ 4 := by rw [← qo0.len]; exact hx.2.2.1
    have HL := Lib.hid (hrt w (Below.refl _ _)).len
    have hbl := hbd.lt
    obtain ⟨v, hv, hdv⟩ := drop_pos hat HL.out
    rw [hdv] at hg hlen
    obtain ⟨-, hbv, hg1⟩ := hg.cons
    obtain ⟨hv6, hvlo⟩ := badV_parts hbv
    obtain ⟨w0, hw0, T0, hsz0, BP⟩ := boxes1 w #[.int .i64 x.1, .slice B ol dd] 36
    have HW0 := Lib.hid hw0
    have K0 := kb_next hbl T0
    have hb0 := hbd.next T0
    obtain ⟨bb, o, u, v', hAe, hcv, ⟨rfl, -, -⟩, -, hxv⟩ := (hrt w0 K0.1).at hat
    obtain rfl : v' = v := by rw [hv] at hxv; injection hxv with e; exact e.symm
    subst hAe
    have HRD := Lib.hid hrd
    have HRT := Lib.hid hrt
    have HTB := Lib.hid htab
    have HDV := Lib.hid hdv
    have HIH := Lib.hid ih
    have hgb : w.heap.size ≠ b := by omega
    have hl0 : l.length ≤ 100000 := by omega
    have ha0 : (0 : Int) ≤ (at_ : Int) := by omega
    have ha1 : (at_ : Int) < (n : Int) := by omega
    have cP0 := BP.cell 0
    have cP1 := BP.cell 1
    simp at cP0 cP1
    rw [hdv]
    by_cases hv0 : 0 ≤ v'
    · obtain ⟨vn, rfl⟩ := Int.eq_ofNat_of_zero_le hv0
      obtain ⟨htx, htot⟩ := tx_pos (ops := x.2) (l := t.drop (at_ + 1)) hv0
      rw [Int.toNat_natCast] at htx
      have HE : Hid (endT x.2 ((vn : Int) :: t.drop (at_ + 1)) 1 = some 1) := by
        show _ = _
        rw [endT_cons (by decide), hbv]
        have : adV x.2 (vn : Int) = 0 := by unfold adV; rw [if_pos hv0]
        rw [this, endT_zero]
        rfl
      obtain ⟨N, HN⟩ : ∃ s, Hid (numS vn = s) := ⟨_, rfl⟩
      have zN : N.size ≤ 6 := by rw [← HN.out]; exact numS_size (by omega)
      have HI := Lib.hid (itoa_any vn (by omega) w0 (htab w0 K0.1))
      obtain ⟨S1, HS1, k1, z1⟩ := catx ⟨#[120]⟩ N 1 _ (by decide) zN (by decide)
      have HSB : Hid (bs S1 = txT x.2 ((vn : Int) :: t.drop (at_ + 1))) := by
        show _ = _
        rw [htx, ← HS1.out, bs_app, ← HN.out]
        rfl
      rw [show mk (Lib.decDigits vn) = N from HN.out] at HI
      clear hw0 hsz0 hrd hrt htab hrd0 qo0 ih htx hdv hxv hbv hg hg1 hv
      go_enter Tryz.func70, Tryz.ntmps70
      go_upto_region 1 with fail
      rw [← HW0.out]
      go_wp2_with fail
      refine HI.out.mono ?_
      rintro e w1 ⟨rfl, hb1⟩
      have HW := Lib.hid (writeString_any b l S1 w1 (hb0.next hb1) (by omega))
      have K1 := K0.trans (kb_next hb0.lt hb1)
      go_wp2_with fail
      refine HW.out.mono ?_
      rintro e w2 ⟨rfl, hB2, hk2⟩
      go_wp2_with fail
      go_ret
      exact ⟨1, HE.out, ret_int (by push_cast; rfl), by rw [← HSB.out]; exact hB2, K1.trans hk2⟩
    · obtain ⟨ob, hob, hobP, ha2, -, hjl⟩ := op_at hx.2.2.2 hbv hv0
      obtain ⟨ar, tb, rfl, har⟩ := op_nat hobP
      have har2 : arF x.2 v' = ar := by rw [ha2]; simp
      obtain ⟨htx, htot⟩ := tx_neg (ops := x.2) (l := t.drop (at_ + 1)) hv0
      rw [har2] at htx htot
      have hadv : adV x.2 v' = ar := by unfold adV; rw [if_neg hv0, har2]
      rw [hadv] at hg1
      obtain ⟨j, hj⟩ : ∃ j, j = (-1 - v').toNat := ⟨_, rfl⟩
      rw [← hj] at hob hjl htx
      have ej : (-1 : Int) - v' = (j : Int) := by omega
      have hj4 : j < ol := by rw [← qo0.len]; exact hjl
      have hj0 : (0 : Int) ≤ (j : Int) := by omega
      have hj1 : (j : Int) < (ol : Int) := by omega
      obtain ⟨T, hT⟩ : ∃ T, T = txS x.2 (t.drop (at_ + 1)) := ⟨_, rfl⟩
      obtain ⟨ts, hts⟩ : ∃ ts, ts = T.take ar := ⟨_, rfl⟩
      rw [← hT, ← hts] at htx
      rw [← hT] at htot
      have hTl : T.length = m - 1 + ar := by rw [hT]; exact txS_len hg1
      have htl : ts.length = ar := by rw [hts, List.length_take]; omega
      have HTX := Lib.hid htx
      have HTL := Lib.hid htl
      have HT := Lib.hid hT
      have HTS := Lib.hid hts
      have HG1 := Lib.hid hg1
      have HOB := Lib.hid hob
      obtain ⟨N, HN⟩ : ∃ s, Hid (numS j = s) := ⟨_, rfl⟩
      have zN : N.size ≤ 6 := by rw [← HN.out]; exact numS_size (by omega)
      have HI := Lib.hid (itoa_any j (by omega) w0 (htab w0 K0.1))
      obtain ⟨S1, HS1, k1, z1⟩ := catx ⟨#[102]⟩ N 1 _ (by decide) zN (by decide)
      obtain ⟨F, HF⟩ : ∃ F, Hid (bs S1 = F) := ⟨_, rfl⟩
      have HFX : Hid (txT x.2 (v' :: t.drop (at_ + 1)) = F ++ parS ts) := by
        show _ = _
        rw [htx, ← HF.out, ← HS1.out, bs_app, ← HN.out]
        rfl
      have hroom : ∀ k, k < ar → l.length + F.length + (wTo ts ar k).length + 1 + tot (T.drop k) ≤ 100000 := fun k hk => by
        have h1 := wTo_room hts (by omega) hk
        rw [htot, HFX.out, List.length_append] at hlen
        omega
      have HROOM := Lib.hid hroom
      rw [show mk (Lib.decDigits j) = N from HN.out] at HI
      have HBV := Lib.hid hbv
      have HADV := Lib.hid hadv
      clear hw0 hsz0 hrd hrt htab hrd0 qo0 ih htx hxv hbv hg hg1 hv hob hobP hjl hj hT hts hTl htl htot hadv ha2 har2 hroom hlen hdv
      go_enter Tryz.func70, Tryz.ntmps70
      go_upto_region 1 with fail
      rw [← HW0.out]
      go_wp2_with fail
      refine HI.out.mono ?_
      rintro e w1 ⟨rfl, hb1⟩
      have HW := Lib.hid (writeString_any b l S1 w1 (hb0.next hb1) (by omega))
      have K1 := K0.trans (kb_next hb0.lt hb1)
      have BP1 := BP.next hb1
      go_wp2_with fail
      refine HW.out.mono ?_
      rintro e w2 ⟨rfl, hB2, hk2⟩
      rw [HF.out] at hB2
      have K2 := K1.trans hk2
      have BP2 := hk2.blk BP1 hgb (by decide)
      go_wp2_with fail
      go_loopw [3, 10] (fun a i wr => ∃ kk q : Nat, kk ≤ ar ∧ a = .int .i64 ((at_ + 1 + q : Nat) : Int) ∧ i = .int .i64 (kk : Int) ∧ Hid (endT x.2 (t.drop (at_ + 1)) kk = some q) ∧ Bd wr b (l ++ F ++ wTo ts ar kk) ∧ Blk wr w.heap.size 36 #[.int .i64 x.1, .slice B ol dd] ∧ Kb b w wr) (fun _ i _ => ar - (intOf i).toNat)
      case atStart =>
        refine ⟨0, 0, Nat.zero_le _, by push_cast; rfl, rfl, endT_zero _ _, ?_, BP2, K2⟩
        rw [wTo_zero HTL.out, List.append_nil]
        exact hB2
      case round =>
        clear hB2 K2 BP2 hk2 HW BP1 K1 hb1 HI
        obtain ⟨kk, q, hkk, rfl, rfl, HEN, hBd, BPr, Kr⟩ := hrel
        have qr := alg_ops (HRD.out wr Kr.1)
        obtain ⟨b2, o2, vs, y, rfl, -, hc2, hr2, -, hy⟩ := qr.at hj4
        rw [HOB.out] at hy
        injection hy with hy
        subst hy
        obtain ⟨B', m', d', rfl, -, -⟩ := rdOp hr2
        have cc0 : wr.cell? ⟨b2, o2 + j * 2, none⟩ = some (.int .i64 (ar : Int)) := hc2 0 _ rfl
        have cR0 := BPr.cell 0
        have cR1 := BPr.cell 1
        simp at cR0 cR1
        clear hc2 hr2 qr
        by_cases hlt : kk < ar
        · have hk0 : (0 : Int) ≤ (kk : Int) := by omega
          have hk1 : (kk : Int) < (ar : Int) := by omega
          obtain ⟨g1, g2, -⟩ := endT_sub HG1.out (show kk ≤ m - 1 + ar by omega) HEN.out
          rw [List.drop_drop] at g1 g2
          have hq1 : at_ + 1 + q < n := by
            rcases Nat.lt_or_ge (at_ + 1 + q) n with h | h
            · exact h
            · rw [List.drop_eq_nil_of_le (by rw [HL.out]; exact h)] at g1
              have := g1.nil
              omega
          rw [← HT.out] at g2
          have hgetd := getD_of_drop HTS.out hlt
          have HTXT : Hid (txT x.2 (t.drop (at_ + 1 + q)) = ts.getD kk []) := by show _ = _; unfold txT; rw [g2]; exact hgetd
          have hrm := HROOM.out kk hlt
          have HREC : Hid (∀ (sp : Bs) (wz : World), sp.length = 1 → Bd wz b (l ++ F ++ wTo ts ar kk ++ sp) → Kb b w wz → Calls Tryz.prog 70 #[.pointer (some ⟨b, 0, none⟩), .agg #[.int .i64 x.1, .slice (some ⟨b2, o2, none⟩) ol dd], .slice (some ⟨bb, o, none⟩) n c, .int .i64 ((at_ + 1 + q : Nat) : Int)] wz fun e w' => ∃ r : Nat, endT x.2 (t.drop (at_ + 1 + q)) 1 = some r ∧ e = .returned (.int .i64 ((at_ + 1 + q + r : Nat) : Int)) ∧ Bd w' b (l ++ F ++ wTo ts ar kk ++ sp ++ ts.getD kk []) ∧ Kb b wz w') := fun sp wz hsp hbz hkz => by
            have := HIH.out (at_ + 1 + q) (m - 1 + ar - kk) (l ++ F ++ wTo ts ar kk ++ sp) wz (by omega) hq1 g1 (by omega) (by rw [g2, List.length_append, List.length_append, List.length_append, hsp]; omega) hbz (fun wy hy => HRD.out wy (hkz.1.trans hy)) (fun wy hy => HRT.out wy (hkz.1.trans hy)) (fun wy hy => HTB.out wy (hkz.1.trans hy))
            rw [HTXT.out] at this
            exact this
          have HEN2 : Hid (∀ r, endT x.2 (t.drop (at_ + 1 + q)) 1 = some r → endT x.2 (t.drop (at_ + 1)) (kk + 1) = some (q + r)) := fun r hr => endT_add HEN.out (by rw [List.drop_drop]; exact hr)
          have hLB : (l ++ F ++ wTo ts ar kk).length ≤ 100000 := by rw [List.length_append, List.length_append]; omega
          have HLT : Hid (∀ r, endT x.2 (t.drop (at_ + 1 + q)) 1 = some r → at_ + 1 + q + r ≤ n) := fun r hr => by
            have := endT_le hr
            rw [List.length_drop, HL.out] at this
            omega
          have hGD : (l ++ F ++ wTo ts ar kk).length + 1 + (ts.getD kk []).length ≤ 100000 := by
            have h1 := tot_get (T.drop kk) 0
            have h2 : (T.drop kk).getD 0 [] = ts.getD kk [] := by rw [← hgetd]; cases T.drop kk <;> rfl
            rw [h2] at h1
            rw [List.length_append, List.length_append]
            omega
          obtain ⟨L, HLL⟩ : ∃ L, Hid (l ++ F ++ wTo ts ar kk = L) := ⟨_, rfl⟩
          rw [HLL.out] at hBd HREC hLB hGD
          obtain ⟨P, HPP⟩ : ∃ P, Hid (ts.getD kk [] = P) := ⟨_, rfl⟩
          rw [HPP.out] at HREC hGD
          clear g1 g2 hgetd HTXT hrm
          have hsep : Hid (∃ sp : Bs, sp.length = 1 ∧ sp = (if kk = 0 then [40] else [44])) := ⟨_, by split <;> rfl, rfl⟩
          by_cases hz : kk = 0
          · have HSP : Hid ((if kk = 0 then ([40] : Bs) else [44]) = [40]) := if_pos hz
            have hze : ((kk : Int) == 0) = true := by simp [hz]
            have HZ := Lib.hid hz
            have HWS := Lib.hid (writeString_any b L ⟨#[40]⟩ wr hBd (by show _ + 1 ≤ _; omega))
            clear hz
            go_wp2_with fail
            refine HWS.out.mono ?_
            rintro e w3 ⟨rfl, hB3, hk3⟩
            have BP3 := hk3.blk BPr hgb (by decide)
            have cS0 := BP3.cell 0
            have cS1 := BP3.cell 1
            simp at cS0 cS1
            have HC := Lib.hid (HREC.out [40] w3 rfl hB3 (Kr.trans hk3))
            go_wp2_with fail
            refine HC.out.mono ?_
            rintro e w4 ⟨r, hr, rfl, hB4, hk4⟩
            have BP4 := hk4.blk BP3 hgb (by decide)
            have K4 := (Kr.trans hk3).trans hk4
            have HE2 := Lib.hid (HEN2.out r hr)
            have hrn := HLT.out r hr
            have cT1 := BP4.cell 1
            simp at cT1
            have q4 := alg_ops (HRD.out w4 K4.1)
            obtain ⟨b5, o5, vs5, y5, e5, -, hc5, hr5, -, hy5⟩ := q4.at hj4
            injection e5 with e5
            injection e5 with e5 e6
            subst e5
            subst e6
            rw [HOB.out] at hy5
            injection hy5 with hy5
            subst hy5
            obtain ⟨B6, m6, d6, rfl, -, -⟩ := rdOp hr5
            have cc4 : w4.cell? ⟨b2, o2 + j * 2, none⟩ = some (.int .i64 (ar : Int)) := hc5 0 _ rfl
            clear hc5 hr5 q4 hr
            by_cases hla : kk + 1 = ar
            · have hlae : ((kk : Int) == (ar : Int) - 1) = true := by simp; omega
              have HWN : Hid (l ++ F ++ wTo ts ar (kk + 1) = L ++ [40] ++ P ++ [41]) := by
                show _ = _
                rw [wTo_last HTL.out hla, HSP.out, ← HLL.out, HPP.out]
                simp only [List.append_assoc]
              have HWS4 := Lib.hid (writeString_any b (L ++ [40] ++ P) ⟨#[41]⟩ w4 hB4 (by rw [List.length_append, List.length_append]; show _ + 1 + _ + 1 ≤ _; omega))
              go_wp2_with fail
              refine HWS4.out.mono ?_
              rintro e w5 ⟨rfl, hB5, hk5⟩
              have BP5 := hk5.blk BP4 hgb (by decide)
              go_wp2_with fail
              go_roundw
              case rel => exact ⟨kk + 1, q + r, by omega, int_eq (by push_cast; omega), by go_num, HE2, by rw [HWN.out]; exact hB5, BP5, K4.trans hk5⟩
              case measure => simp [intOf]; try omega
            · have hlae : ((kk : Int) == (ar : Int) - 1) = false := by simp; omega
              have HWN : Hid (l ++ F ++ wTo ts ar (kk + 1) = L ++ [40] ++ P) := by
                show _ = _
                rw [wTo_mid (by omega), HSP.out, ← HLL.out, HPP.out]
                simp only [List.append_assoc]
              go_wp2_with fail
              go_roundw
              case rel => exact ⟨kk + 1, q + r, by omega, int_eq (by push_cast; omega), by go_num, HE2, by rw [HWN.out]; exact hB4, BP4, K4⟩
              case measure => simp [intOf]; try omega
          · have HSP : Hid ((if kk = 0 then ([40] : Bs) else [44]) = [44]) := if_neg hz
            have hze : ((kk : Int) == 0) = false := by simp [hz]
            have HZ := Lib.hid hz
            have HWS := Lib.hid (writeString_any b L ⟨#[44]⟩ wr hBd (by show _ + 1 ≤ _; omega))
            clear hz
            go_wp2_with fail
            refine HWS.out.mono ?_
            rintro e w3 ⟨rfl, hB3, hk3⟩
            have BP3 := hk3.blk BPr hgb (by decide)
            have cS0 := BP3.cell 0
            have cS1 := BP3.cell 1
            simp at cS0 cS1
            have HC := Lib.hid (HREC.out [44] w3 rfl hB3 (Kr.trans hk3))
            go_wp2_with fail
            refine HC.out.mono ?_
            rintro e w4 ⟨r, hr, rfl, hB4, hk4⟩
            have BP4 := hk4.blk BP3 hgb (by decide)
            have K4 := (Kr.trans hk3).trans hk4
            have HE2 := Lib.hid (HEN2.out r hr)
            have hrn := HLT.out r hr
            have cT1 := BP4.cell 1
            simp at cT1
            have q4 := alg_ops (HRD.out w4 K4.1)
            obtain ⟨b5, o5, vs5, y5, e5, -, hc5, hr5, -, hy5⟩ := q4.at hj4
            injection e5 with e5
            injection e5 with e5 e6
            subst e5
            subst e6
            rw [HOB.out] at hy5
            injection hy5 with hy5
            subst hy5
            obtain ⟨B6, m6, d6, rfl, -, -⟩ := rdOp hr5
            have cc4 : w4.cell? ⟨b2, o2 + j * 2, none⟩ = some (.int .i64 (ar : Int)) := hc5 0 _ rfl
            clear hc5 hr5 q4 hr
            by_cases hla : kk + 1 = ar
            · have hlae : ((kk : Int) == (ar : Int) - 1) = true := by simp; omega
              have HWN : Hid (l ++ F ++ wTo ts ar (kk + 1) = L ++ [44] ++ P ++ [41]) := by
                show _ = _
                rw [wTo_last HTL.out hla, HSP.out, ← HLL.out, HPP.out]
                simp only [List.append_assoc]
              have HWS4 := Lib.hid (writeString_any b (L ++ [44] ++ P) ⟨#[41]⟩ w4 hB4 (by rw [List.length_append, List.length_append]; show _ + 1 + _ + 1 ≤ _; omega))
              go_wp2_with fail
              refine HWS4.out.mono ?_
              rintro e w5 ⟨rfl, hB5, hk5⟩
              have BP5 := hk5.blk BP4 hgb (by decide)
              go_wp2_with fail
              go_roundw
              case rel => exact ⟨kk + 1, q + r, by omega, int_eq (by push_cast; omega), by go_num, HE2, by rw [HWN.out]; exact hB5, BP5, K4.trans hk5⟩
              case measure => simp [intOf]; try omega
            · have hlae : ((kk : Int) == (ar : Int) - 1) = false := by simp; omega
              have HWN : Hid (l ++ F ++ wTo ts ar (kk + 1) = L ++ [44] ++ P) := by
                show _ = _
                rw [wTo_mid (by omega), HSP.out, ← HLL.out, HPP.out]
                simp only [List.append_assoc]
              go_wp2_with fail
              go_roundw
              case rel => exact ⟨kk + 1, q + r, by omega, int_eq (by push_cast; omega), by go_num, HE2, by rw [HWN.out]; exact hB4, BP4, K4⟩
              case measure => simp [intOf]; try omega
        · obtain rfl : kk = ar := by omega
          have hk1 : ¬ (kk : Int) < (kk : Int) := by omega
          have HE : Hid (endT x.2 (v' :: t.drop (at_ + 1)) 1 = some (1 + q)) := by
            show _ = _
            rw [endT_cons (by decide), HBV.out, HADV.out]
            show (endT x.2 (t.drop (at_ + 1)) (0 + kk)).map (· + 1) = _
            rw [Nat.zero_add, HEN.out]
            show some (q + 1) = _
            rw [Nat.add_comm]
          have HFN : Hid (l ++ F ++ wTo ts kk kk = l ++ txT x.2 (v' :: t.drop (at_ + 1))) := by
            show _ = _
            rw [wTo_end, HFX.out, List.append_assoc]
          go_wp2_with fail
          go_ret
          exact ⟨1 + q, HE.out, ret_int (by push_cast; omega), by rw [← HFN.out]; exact hBd, Kr⟩
set_option maxRecDepth 20000 in
set_option maxHeartbeats 4000000 in
theorem termText_any (cs : List Value) (x : AlgebraM) (A : Option Addr) (n c : Nat) (t : List Int) (w : World) (h : shAlgebra.rd w cs x) (hx : AlgP x) (ht : RdL RI w A n t) (hT : termB x.2 t = true) (tab : Tab w) :
    Calls Tryz.prog 43 #[.agg cs.toArray, .slice A n c] w (Bl w (.string (mk (txT x.2 t)))) := by
  have hrd := h
  obtain ⟨B, k, dd, rfl, -, -⟩ := rdAlgebra h
  obtain ⟨h60, hend⟩ := term_end hT
  have hpos := term_pos hT
  have hn60 : n ≤ 60 := by rw [← ht.len]; exact h60
  have hn0 : 0 < n := by rw [← ht.len]; exact hpos
  have hg : GoodS x.2 (t.drop 0) 1 := by rw [List.drop_zero]; exact hend
  have htot : tot (txS x.2 (t.drop 0)) ≤ 100000 := by
    have := tot_txS hg (fun o ho => (hx.2.2.2 o ho).2.1) (by have := hx.2.2.1; omega)
    rw [List.drop_zero] at this ⊢
    omega
  obtain ⟨w0, hw0, T0, hsz0, BP⟩ := boxes1 w #[.int .i64 x.1, .slice B k dd] 36
  obtain ⟨w1, hw1⟩ : ∃ wb, wb = w0.alloc (.cells #[.pointer none, .slice none 0 0] 67) := ⟨_, rfl⟩
  have hb01 : Below w0.heap.size w0 w1 := by rw [hw1]; exact below_box _ _
  have T1 := below_next T0 hb01 rfl
  have hB1 : Bd w1 w0.heap.size [] := by rw [hw1]; exact Bd.new _
  have BP1 := BP.next hb01
  have cP0 := BP1.cell 0
  have cP1 := BP1.cell 1
  simp at cP0 cP1
  have HC := Lib.hid (writeTerm_any w0.heap.size [.int .i64 x.1, .slice B k dd] x A n c t hx hn60 n 0 1 [] w1 (by omega) hn0 hg (by decide) (by simpa using htot) hB1 (fun wz hz => shAlgebra.stab (shAlgebra.stab hrd T0.block) (hb01.trans hz).block) (fun wz hz => (ht.next stab_RI T0).next stab_RI (hb01.trans hz)) (fun wz hz => (tab.next T0).next (hb01.trans hz)))
  rw [hsz0] at HC
  have HW : Hid (w1 = (w.alloc (.cells #[.int .i64 x.1, .slice B k dd] 36)).alloc (.cells #[.pointer none, .slice none 0 0] 67)) := by show _ = _; rw [hw1, hw0]
  have HSZ := Lib.hid hsz0
  have hT1k : Below w.heap.size w w1 := T1
  clear hw0 hw1 hrd h ht tab hg htot hend hT hsz0 T0 hb01 hB1 BP T1
  go_enter Tryz.func43, Tryz.ntmps43
  go_upto_region 2 with fail
  rw [← HW.out]
  go_wp2_with fail
  refine HC.out.mono ?_
  rintro e w2 ⟨q, -, rfl, hB2, hk2⟩
  rw [List.drop_zero, List.nil_append] at hB2
  have HS := Lib.hid (string_any _ _ w2 hB2)
  have hk2' : Below w.heap.size w1 w2 := ⟨hk2.1.os, hk2.1.tape, hk2.1.output, hk2.1.size, fun i hi => hk2.1.block i (by omega)⟩
  go_wp2_with fail
  refine HS.out.mono ?_
  rintro e w3 ⟨rfl, hb3⟩
  have hb3' : Below w.heap.size w2 w3 := ⟨hb3.os, hb3.tape, hb3.output, hb3.size, fun i hi => hb3.block i (by omega)⟩
  go_wp2_with fail
  go_ret
  exact ⟨rfl, (hT1k.trans hk2').trans hb3'⟩
end Go.Proofs.YtbonebpheimbaaaGreatDoor
namespace Go.Proofs.YtbonebpheimbaaaGreatDoor
open Go.RowKit
set_option linter.unusedVariables false

theorem OwM.row {α : Type} {eo ei : TypeId} {f : α → Value} {lo : Nat} {w : World} {A : Option Addr} {n c k : Nat} {xss : List (List α)} {xs : List α} (h : OwM eo ei f lo w (.slice A n c) n xss) (hk : xss[k]? = some xs) :
    ∃ g A1 c1, A = some ⟨g, 0, none⟩ ∧ w.cell? ⟨g, k, none⟩ = some (.slice A1 xs.length c1) ∧ w.ownsRow lo ei 1 (.slice A1 xs.length c1) xs.length (xs.map f) ∧ xs.length ≤ c1 := by
  obtain ⟨vs, h1, h2, h3, -⟩ := h
  have hkl : k < vs.length := by rw [h2]; exact (List.getElem?_eq_some_iff.1 hk).1
  have hu : vs[k]? = some vs[k] := List.getElem?_eq_getElem hkl
  have ho := h3 k _ xs hu hk
  obtain ⟨A1, c1, e⟩ := own_slice ho
  obtain ⟨g, rfl⟩ : ∃ g, A = some ⟨g, 0, none⟩ := by
    rcases h1.2 with ⟨h0, e0⟩ | ⟨g, cap, cur, h0, _⟩
    · have := h1.1
      omega
    · injection h0 with h0
      exact ⟨g, h0⟩
  rw [e] at ho
  refine ⟨g, A1, c1, rfl, ?_, ho, sort_cap ho⟩
  have hc := h1.cellAt k (by have := h1.1; omega)
  rw [hc, hu, e]
/-- The parts of a term: as many as the arity, each a term by itself. -/
def PtI (ops : List OpM) (n : Nat) (T : List Bs) (xss : List (List Int)) : Prop := ∀ (i : Nat) (xs : List Int), xss[i]? = some xs → GoodS ops xs 1 ∧ txT ops xs = T.getD i [] ∧ xs.length < n ∧ ∀ v ∈ xs, -9223372036854775808 ≤ v ∧ v ≤ 9223372036854775807
theorem PtI.snoc {ops : List OpM} {n : Nat} {T : List Bs} {xss : List (List Int)} {p : List Int} (h : PtI ops n T xss) (h1 : GoodS ops p 1) (h2 : txT ops p = T.getD xss.length []) (h3 : p.length < n) (h4 : ∀ v ∈ p, -9223372036854775808 ≤ v ∧ v ≤ 9223372036854775807) : PtI ops n T (xss ++ [p]) := fun i xs hi => by
  by_cases hl : i < xss.length
  · rw [List.getElem?_append_left hl] at hi
    exact h i xs hi
  · have : i = xss.length := by
      have := (List.getElem?_eq_some_iff.1 hi).1
      rw [List.length_append] at this
      simp at this
      omega
    subst this
    rw [List.getElem?_append_right (Nat.le_refl _), Nat.sub_self] at hi
    simp at hi
    subst hi
    exact ⟨h1, h2, h3, h4⟩
set_option maxRecDepth 20000 in
set_option maxHeartbeats 8000000 in
theorem l3Parts_any (cs : List Value) (x : AlgebraM) (A : Option Addr) (n c : Nat) (v : Int) (l : List Int) (w : World) (h : shAlgebra.rd w cs x) (hx : AlgP x) (ht : RdL RI w A n (v :: l)) (hn : n ≤ 60) (hc : n ≤ c) (hv : ¬ 0 ≤ v) (hg : GoodS x.2 (v :: l) 1) :
    Calls Tryz.prog 68 #[.agg cs.toArray, .slice A n c] w fun e w' => ∃ A' c' xss, e = .returned (.slice A' xss.length c') ∧ OwM 58 3 (.int .i64) w.heap.size w' (.slice A' xss.length c') xss.length xss ∧ xss.length = arF x.2 v ∧ PtI x.2 n (txS x.2 l) xss ∧ Below w.heap.size w w' := by
  have hrd := h
  obtain ⟨B, k, dd, rfl, -, -⟩ := rdAlgebra h
  obtain ⟨-, hbv, hg1⟩ := hg.cons
  have hadv : adV x.2 v = arF x.2 v := by unfold adV; rw [if_neg hv]
  rw [hadv, show 1 - 1 + arF x.2 v = arF x.2 v by omega] at hg1
  obtain ⟨ar, har⟩ : ∃ ar, arF x.2 v = ar := ⟨_, rfl⟩
  rw [har] at hg1 ⊢
  have hll : l.length + 1 = n := ht.len
  have HLL := Lib.hid hll
  have hn1 : 1 ≤ n := by omega
  have har3 : ar ≤ 3 := by rw [← har, ← hadv]; exact adV_le hx.2.2.2 hbv
  have HG := Lib.hid hg1
  obtain ⟨w0, hw0, T0, hsz0, BP⟩ := boxes1 w #[.int .i64 x.1, .slice B k dd] 36
  obtain ⟨w1, hw1⟩ : ∃ wb, wb = w0.alloc (.cells #[] 58) := ⟨_, rfl⟩
  have hb01 : Below w0.heap.size w0 w1 := by rw [hw1]; exact below_box _ _
  have hM1 : OwM 58 3 (.int .i64) w0.heap.size w1 (.slice (some ⟨w0.heap.size, 0, none⟩) 0 0) 0 [] := by rw [hw1]; exact mat_lit (Below.refl _ _)
  rw [hsz0] at hM1
  have HW : Hid (w1 = (w.alloc (.cells #[.int .i64 x.1, .slice B k dd] 36)).alloc (.cells #[] 58)) := by show _ = _; rw [hw1, hw0]
  have HRD : Hid (∀ wz, Below w0.heap.size w0 wz → shAlgebra.rd wz [.int .i64 x.1, .slice B k dd] x) := fun wz hz => shAlgebra.stab (shAlgebra.stab hrd T0.block) hz.block
  have HRT : Hid (∀ wz, Below w0.heap.size w0 wz → RdL RI wz A n (v :: l)) := fun wz hz => (ht.next stab_RI T0).next stab_RI hz
  have cP0 := BP.cell 0
  have cP1 := BP.cell 1
  simp at cP0 cP1
  have HX := Lib.hid hx
  have HSZ := Lib.hid hsz0
  obtain ⟨b, o, -, -, rfl, -, -, -, -⟩ := ht.at (show 0 < n by omega)
  have HBD : Hid (∀ y ∈ v :: l, -9223372036854775808 ≤ y ∧ y ≤ 9223372036854775807) := ht.bounds
  clear hw0 hw1 hsz0 hrd h ht hx hg hg1 hbv hadv har hll
  go_enter Tryz.func68, Tryz.ntmps68
  go_upto_region 2 with fail
  rw [← HW.out]
  go_wp2_with fail
  go_loopw [5, 6] (fun s i wr => ∃ (a0 q : Nat) (xss : List (List Int)) (A1 : Option Addr) (c1 : Nat), i = .int .i64 (a0 : Int) ∧ Hid (a0 = 1 + q) ∧ s = .slice A1 xss.length c1 ∧ xss.length ≤ ar ∧ a0 ≤ n ∧ OwM 58 3 (.int .i64) w0.heap.size wr (.slice A1 xss.length c1) xss.length xss ∧ Hid (endT x.2 l xss.length = some q) ∧ Hid (PtI x.2 n (txS x.2 l) xss) ∧ Below w0.heap.size w0 wr) (fun _ i _ => n - (intOf i).toNat)
  case atStart => exact ⟨1, 0, [], _, 0, rfl, rfl, rfl, Nat.zero_le _, by omega, by rw [HSZ.out]; exact hM1, endT_zero _ _, (fun i xs hi => by simp at hi), hb01⟩
  case round =>
    clear hM1 hb01
    obtain ⟨a0, q, xss, A1, c1, rfl, HA, rfl, hxl, han, hM, HEN, HPI, hTr⟩ := hrel
    obtain ⟨g1, g2, -⟩ := endT_sub HG.out hxl HEN.out
    by_cases hlt : a0 < n
    · have ha0 : (0 : Int) ≤ (a0 : Int) := by omega
      have ha1 : (a0 : Int) < (n : Int) := by omega
      have hql : q < l.length := by have := HA.out; have := HLL.out; omega
      have hkk : xss.length < ar := by
        rcases Nat.lt_or_ge xss.length ar with h | h
        · exact h
        · rw [List.drop_eq_getElem_cons hql] at g1
          have := g1.cons.1
          omega
      obtain ⟨r, hr, hrl⟩ := endT_some g1 (show 1 ≤ ar - xss.length by omega)
      obtain ⟨hp1, hr0⟩ := endT_first g1 (by omega) hr
      rw [List.length_drop] at hrl
      have hdt : (v :: l).drop a0 = l.drop q := by rw [HA.out, Nat.add_comm, List.drop_succ_cons]
      obtain ⟨e0, he0⟩ : ∃ e0, e0 = a0 + r := ⟨_, rfl⟩
      have HEND : Hid (endI x.2 (v :: l) a0 = (e0 : Int)) := by
        show _ = _
        unfold endI
        rw [hdt, hr, he0]
      have hen : e0 ≤ n := by have := HA.out; have := HLL.out; omega
      have h01 : (a0 : Int) ≤ (e0 : Int) := by omega
      have h02 : (e0 : Int) ≤ (n : Int) := by omega
      have h03 : (e0 : Int) ≤ (c : Int) := by omega
      obtain ⟨p, HP⟩ : ∃ p, Hid ((l.drop q).take r = p) := ⟨_, rfl⟩
      have hpl : p.length = r := by rw [← HP.out, List.length_take, List.length_drop]; omega
      have HPL := Lib.hid hpl
      have hsub : e0 - a0 = r := by omega
      have HEND1 : Hid (∀ wz, Below w0.heap.size w0 wz → Calls Tryz.prog 112 #[.agg #[.int .i64 x.1, .slice B k dd], .slice (some ⟨b, o, none⟩) n c, .int .i64 (a0 : Int)] wz (Bl wz (.int .i64 (e0 : Int)))) := fun wz hz => by
        have := l3End_any [.int .i64 x.1, .slice B k dd] x (some ⟨b, o, none⟩) n c (v :: l) a0 wz (HRD.out wz hz) (HRT.out wz hz) x.1.toNat HX.out.2.2.2 HX.out.2.2.1 hn han
        rwa [HEND.out] at this
      have HOWN : Hid (∀ wz, Below w0.heap.size w0 wz → Calls Tryz.prog 113 #[.slice (some ⟨b, o + a0, none⟩) r (c - a0)] wz fun e w' => ∃ A' c', e = .returned (.slice A' r c') ∧ w'.ownsRow wz.heap.size 3 1 (.slice A' r c') r (ints p) ∧ Below wz.heap.size wz w') := fun wz hz => by
        have h1 := ((HRT.out wz hz).drop a0).take (k := r) (by omega)
        rw [hdt, HP.out] at h1
        exact l1Own_any _ r _ p wz h1 (by omega)
      have HPT : Hid (PtI x.2 n (txS x.2 l) (xss ++ [p])) := by
        refine HPI.out.snoc (by rw [← HP.out]; exact hp1) ?_ (by rw [hpl]; have := HLL.out; omega) (fun y hy => HBD.out y ?_)
        · rw [← HP.out, txT_take g1 (by omega) hr]
          unfold txT
          rw [g2, List.headD_eq_head?_getD, List.head?_drop, List.getD_eq_getElem?_getD]
        · rw [← HP.out] at hy
          exact List.mem_cons_of_mem _ (List.mem_of_mem_drop (List.mem_of_mem_take hy))
      have HEN2 : Hid (endT x.2 l (xss ++ [p]).length = some (q + r)) := by
        show _ = _
        rw [List.length_append]
        exact endT_add HEN.out hr
      have HA2 : Hid (e0 = 1 + (q + r)) := by show _ = _; have := HA.out; omega
      have kP0 := keepc hTr cP0
      have kP1 := keepc hTr cP1
      clear g1 g2 hr hrl hp1 hdt hql he0
      go_wp2_with fail
      refine (HEND1.out wr hTr).mono ?_
      rintro e w2 ⟨rfl, hb2⟩
      have T2 := below_next hTr hb2 rfl
      go_wp2_with fail
      refine (HOWN.out w2 T2).mono ?_
      rintro e w3 ⟨A4, c4, rfl, ho4, hb3⟩
      have T3 := below_next T2 hb3 rfl
      have ho4' : w3.ownsRow wr.heap.size 3 1 (.slice A4 r c4) p.length (p.map (.int .i64)) := by
        rw [HPL.out]
        exact own_mono ho4 hb2.size
      obtain ⟨vs, hvs, HPU⟩ := hM.push (by decide) (below_next hb2 hb3 rfl) hTr.size ho4'
      have hz3 := T3.size
      clear ho4 ho4' hM
      go_upto_region 4 with (at_builtin; refine app1 w3 rfl _ _ 113 58 rfl (.slice none 0 0) 24 Tryz.underlying113 info_ints rfl (by decide) w0.heap.size xss.length c1 A1 vs rfl hvs (.slice A4 r c4) rfl rfl (by omega) hz3 ?_; intro A5 c5 w5 hown5 hg5 hb5)
      have T5 := T3.trans hb5
      have HM5 := Lib.hid (HPU hown5 hg5)
      have jP0 := keepc T5 cP0
      have jP1 := keepc T5 cP1
      clear hown5 hg5 hvs HPU
      go_wp2_with fail
      refine (HEND1.out w5 T5).mono ?_
      rintro e w6 ⟨rfl, hb6⟩
      have T6 := below_next T5 hb6 rfl
      go_wp2_with fail
      go_roundw
      case rel => exact ⟨e0, q + r, xss ++ [p], A5, c5, rfl, HA2, by rw [List.length_append]; rfl, by rw [List.length_append]; simp; omega, hen, by rw [List.length_append]; exact HM5.out.next hb6, HEN2, HPT, T6⟩
      case measure => simp [intOf]; omega
    · have ha1 : ¬ (a0 : Int) < (n : Int) := by omega
      have hke : xss.length = ar := by
        have hq : l.length ≤ q := by have := HA.out; have := HLL.out; omega
        rw [List.drop_eq_nil_of_le hq] at g1
        have := g1.nil
        omega
      have HKE := Lib.hid hke
      clear g1 g2 hke
      have T0' := T0.size
      go_wp2_with fail
      go_ret
      exact ⟨A1, c1, xss, rfl, hM.mono T0', HKE.out, HPI.out, below_next T0 hTr rfl⟩
theorem good_one {ops : List OpM} {v : Int} {l : List Int} (h : GoodS ops (v :: l) 1) (hv : 0 ≤ v) : l = [] := by
  obtain ⟨-, -, h1⟩ := h.cons
  have : adV ops v = 0 := by unfold adV; rw [if_pos hv]
  rw [this] at h1
  rcases l with _ | ⟨y, l⟩
  · rfl
  · have := h1.cons.1
    omega
theorem mk_bs {s : ByteArray} {l : Bs} (h : bs s = l) : Ending.returned (.string s) = .returned (.string (mk l)) := by rw [mk_eq h]
set_option maxRecDepth 20000 in
set_option maxHeartbeats 16000000 in
theorem l3Text_any (x : AlgebraM) (hx : AlgP x) : ∀ (N : Nat) (cs : List Value) (A : Option Addr) (n c : Nat) (t : List Int) (w : World), n ≤ N → n ≤ 60 → n ≤ c → shAlgebra.rd w cs x → RdL RI w A n t → GoodS x.2 t 1 →
    Calls Tryz.prog 41 #[.agg cs.toArray, .slice A n c] w (Bl w (.string (mk (txT x.2 t)))) := by
  intro N
  induction N with
  | zero =>
    intro cs A n c t w h0 _ _ _ ht hg
    have := ht.len
    rcases t with _ | ⟨v, l⟩
    · have := hg.nil; omega
    · simp at this; omega
  | succ N ih =>
    intro cs A n c t w hN hn hc h ht hg
    have hlen := ht.len
    rcases t with _ | ⟨v, l⟩
    · have := hg.nil; omega
    have hn0 : 0 < n := by rw [List.length_cons] at hlen; omega
    have hrd := h
    obtain ⟨B, k, dd, rfl, -, -⟩ := rdAlgebra h
    obtain ⟨-, hbv, hg1⟩ := hg.cons
    obtain ⟨hv6, hvlo⟩ := badV_parts hbv
    have hol := hx.2.2.1
    obtain ⟨w0, hw0, T0, hsz0, BP⟩ := boxes1 w #[.int .i64 x.1, .slice B k dd] 36
    have HW0 := Lib.hid hw0
    have HRD : Hid (∀ wz, Below w0.heap.size w0 wz → shAlgebra.rd wz [.int .i64 x.1, .slice B k dd] x) := fun wz hz => shAlgebra.stab (shAlgebra.stab hrd T0.block) hz.block
    have ht0 := ht.next stab_RI T0
    obtain ⟨b, o, u, v', rfl, hcv, ⟨rfl, hv1, hv2⟩, -, hxv⟩ := ht0.at hn0
    obtain rfl : v' = v := by simpa using hxv.symm
    rw [Nat.add_zero] at hcv
    have hn1 : (0 : Int) < (n : Int) := by omega
    have cP0 := BP.cell 0
    have cP1 := BP.cell 1
    simp at cP0 cP1
    by_cases hv0 : 0 ≤ v'
    · obtain rfl := good_one hg hv0
      obtain ⟨vn, rfl⟩ := Int.eq_ofNat_of_zero_le hv0
      obtain ⟨htx, -⟩ := tx_pos (ops := x.2) (l := []) hv0
      rw [Int.toNat_natCast] at htx
      obtain ⟨Nm, HN⟩ : ∃ s, Hid (numS vn = s) := ⟨_, rfl⟩
      have zN : Nm.size ≤ 6 := by rw [← HN.out]; exact numS_size (by omega)
      have HI := Lib.hid (bl_of_quiet (l1Num_any vn (by omega) w0))
      rw [show mk (Lib.decDigits vn) = Nm from HN.out] at HI
      obtain ⟨S1, HS1, k1, z1⟩ := catx ⟨#[120]⟩ Nm 1 _ (by decide) zN (by decide)
      have HSB : Hid (bs S1 = txT x.2 [(vn : Int)]) := by
        show _ = _
        rw [htx, ← HS1.out, bs_app, ← HN.out]
        rfl
      clear hw0 hsz0 hrd h ht ht0 ih htx hxv hbv hg hg1 hlen
      go_enter Tryz.func41, Tryz.ntmps41
      go_upto_region 1 with fail
      rw [← HW0.out]
      go_wp2_with fail
      refine HI.out.mono ?_
      rintro e w1 ⟨rfl, hb1⟩
      go_wp2_with fail
      go_ret
      exact ⟨mk_bs HSB.out, below_next T0 hb1 rfl⟩
    · obtain ⟨htx, -⟩ := tx_neg (ops := x.2) (l := l) hv0
      obtain ⟨ar, har⟩ : ∃ ar, arF x.2 v' = ar := ⟨_, rfl⟩
      have hadv : adV x.2 v' = ar := by unfold adV; rw [if_neg hv0, har]
      rw [hadv, show 1 - 1 + ar = ar by omega] at hg1
      have har3 : ar ≤ 3 := by rw [← hadv]; exact adV_le hx.2.2.2 hbv
      have hTL := txS_len hg1
      rw [har] at htx
      have hTK : (txS x.2 l).take ar = txS x.2 l := List.take_of_length_le (by omega)
      rw [hTK] at htx
      have htot : tot (txS x.2 l) ≤ 720 := by
        have := tot_txS hg1 (fun o ho => (hx.2.2.2 o ho).2.1) (by omega)
        rw [List.length_cons] at hlen
        omega
      obtain ⟨j, hj⟩ : ∃ j, j = (-1 - v').toNat := ⟨_, rfl⟩
      rw [← hj] at htx
      have ej : (-1 : Int) - v' = (j : Int) := by omega
      have hj4 : j ≤ 4 := by omega
      have hwj : IntKind.i64.wrap (j : Int) = (j : Int) := IntWalk.i64_in _ (by omega)
      obtain ⟨Nm, HN⟩ : ∃ s, Hid (numS j = s) := ⟨_, rfl⟩
      have zN : Nm.size ≤ 6 := by rw [← HN.out]; exact numS_size (by omega)
      have HI : Hid (∀ wz, Below w0.heap.size w0 wz → Calls Tryz.prog 23 #[.int .i64 (j : Int)] wz (Bl wz (.string Nm))) := fun wz _ => by
        have := bl_of_quiet (l1Num_any j (by omega) wz)
        rwa [show mk (Lib.decDigits j) = Nm from HN.out] at this
      obtain ⟨S1, HS1, k1, z1⟩ := catx ⟨#[102]⟩ Nm 1 _ (by decide) zN (by decide)
      obtain ⟨F, HF⟩ : ∃ F, Hid (bs S1 = F) := ⟨_, rfl⟩
      obtain ⟨T, hT⟩ : ∃ T, T = txS x.2 l := ⟨_, rfl⟩
      have HFX : Hid (txT x.2 (v' :: l) = F ++ parS T) := by
        show _ = _
        rw [htx, ← HF.out, ← HS1.out, bs_app, ← HN.out, hT]
        rfl
      have HFL : Hid (F.length ≤ 7) := by show _ ≤ _; rw [← HF.out, bs_len]; omega
      rw [← hT] at hTL htot
      have HTL := Lib.hid hTL
      have HTT : Hid (∀ q, q ≤ ar → (parTo T q).length ≤ 730) := fun q hq => by
        rw [parTo_len T q (by omega)]
        have := tot_take T q
        omega
      have HGL : Hid (∀ q, (T.getD q []).length ≤ 720) := fun q => by have := tot_get T q; omega
      have HPC : Hid (∀ wz, Below w0.heap.size w0 wz → Calls Tryz.prog 68 #[.agg #[.int .i64 x.1, .slice B k dd], .slice (some ⟨b, o, none⟩) n c] wz fun e w' => ∃ A' c' xss, e = .returned (.slice A' xss.length c') ∧ OwM 58 3 (.int .i64) wz.heap.size w' (.slice A' xss.length c') xss.length xss ∧ xss.length = ar ∧ PtI x.2 n T xss ∧ Below wz.heap.size wz w') := fun wz hz => by
        have := l3Parts_any [.int .i64 x.1, .slice B k dd] x (some ⟨b, o, none⟩) n c v' l wz (HRD.out wz hz) hx (ht0.next stab_RI hz) hn hc hv0 hg
        rw [har, ← hT] at this
        exact this
      have HIH := Lib.hid ih
      have Tk : Below w0.heap.size w0 w0 := Below.refl _ _
      clear hw0 hsz0 hrd h ht ht0 ih htx hxv hbv hg hg1 hlen hT hTL htot hTK hadv har hj
      go_enter Tryz.func41, Tryz.ntmps41
      go_upto_region 1 with fail
      rw [← HW0.out]
      go_upto_region 3 with fail
      go_region_held3 (fun w' => w'.cell? ⟨w.heap.size, 0, none⟩ = some (.int .i64 x.1) ∧ w'.cell? ⟨w.heap.size, 1, none⟩ = some (.slice B k dd) ∧ w'.cell? ⟨b, o, none⟩ = some (.int .i64 v')) (first | go_keep | exact ⟨keepc Tk cP0, keepc Tk cP1, keepc Tk hcv⟩) (first | (go_at_call 23; (try rw [hwj]); (with_reducible refine (HI.out _ ?_).mono ?_); (first | exact Tk | exact Below.drew Tk); rintro e wn ⟨rfl, hbn⟩; (try replace hM := hM.next hbn); replace Tk := below_next (by first | exact Tk | exact Below.drew Tk) hbn rfl) | (go_at_call 68; (with_reducible refine (HPC.out _ ?_).mono ?_); (first | exact Tk | exact Below.drew Tk); rintro e wn ⟨A5, c5, xss, rfl, hM, hxa, hPI, hbn⟩; replace hM := hM.mono (lo' := w0.heap.size) (by exact Tk.size); replace Tk := below_next (by first | exact Tk | exact Below.drew Tk) hbn rfl))
      all_goals
        have HPI := Lib.hid hPI
        have HXA := Lib.hid hxa
        have HTk := Lib.hid Tk
        rw [hxa] at hM
        clear hPI hxa
        go_wp2_with fail
        go_loopw [5, 7] (fun s i wr => ∃ (kk : Nat) (S : ByteArray), kk ≤ ar ∧ i = .int .i64 (kk : Int) ∧ s = .string S ∧ Hid (bs S = F ++ parTo T kk) ∧ OwM 58 3 (.int .i64) w0.heap.size wr (.slice A5 ar c5) ar xss ∧ Below w0.heap.size w0 wr) (fun _ i _ => ar - (intOf i).toNat)
        case atStart => exact ⟨0, S1, Nat.zero_le _, rfl, rfl, (by show _ = _; rw [HF.out]; simp [parTo]), hM, Tk⟩
        case round =>
          clear hM Tk
          obtain ⟨kk, S, hkk, rfl, rfl, HS, hM, hTr⟩ := hrel
          have zS : S.size ≤ 740 := by
            rw [← bs_len, HS.out, List.length_append]
            have := HFL.out
            have := HTT.out kk hkk
            omega
          by_cases hlt : kk < ar
          · have hk0 : (0 : Int) ≤ (kk : Int) := by omega
            have hk1 : (kk : Int) < (ar : Int) := by omega
            have hkx : kk < xss.length := by rw [HXA.out]; exact hlt
            obtain ⟨p, hp⟩ : ∃ p, xss[kk]? = some p := ⟨_, List.getElem?_eq_getElem hkx⟩
            obtain ⟨g, A6, c6, rfl, hcell, how6, hc6⟩ := hM.row hp
            obtain ⟨hgp, htp, hlp, hbp⟩ := HPI.out kk _ hp
            clear hp
            obtain ⟨pl, HPL⟩ : ∃ pl, Hid (p.length = pl) := ⟨_, rfl⟩
            rw [HPL.out] at hcell how6 hc6 hlp
            have hrp := rd_of_own (R := RI) how6 (fun y hy => ⟨rfl, hbp y hy⟩)
            obtain ⟨TX, HTXB⟩ : ∃ s, Hid (mk (T.getD kk []) = s) := ⟨_, rfl⟩
            have zT : TX.size ≤ 720 := by rw [← HTXB.out, size_mk]; exact HGL.out kk
            have HREC : Hid (∀ wz, Below wr.heap.size wr wz → Calls Tryz.prog 41 #[.agg #[.int .i64 x.1, .slice B k dd], .slice A6 pl c6] wz (Bl wz (.string TX))) := fun wz hz => by
              have := HIH.out [.int .i64 x.1, .slice B k dd] A6 pl c6 p wz (by omega) (by omega) hc6 (HRD.out wz (below_next hTr hz rfl)) (hrp.next stab_RI hz) hgp
              rwa [htp, HTXB.out] at this
            have kP0 := keepc hTr cP0
            have kP1 := keepc hTr cP1
            have Tk : Below wr.heap.size wr wr := Below.refl _ _
            clear hgp htp hlp hbp hrp how6
            by_cases hz : kk = 0
            · have hze : ((kk : Int) == 0) = true := by simp [hz]
              obtain ⟨S2, HS2, k2, z2⟩ := catx S ⟨#[40]⟩ _ 1 zS (by decide) (by decide)
              obtain ⟨S3, HS3, k3, z3⟩ := catx S2 TX _ _ z2 zT (by decide)
              have HN3 : Hid (bs S3 = F ++ parTo T (kk + 1)) := by
                show _ = _
                rw [← HS3.out, bs_app, ← HS2.out, bs_app, HS.out, ← HTXB.out, parTo, if_pos hz]
                simp only [List.append_assoc]
                rfl
              have HZ := Lib.hid hz
              clear hz
              go_upto_region 10 with fail
              go_region_held3 (fun w' => w'.cell? ⟨w.heap.size, 0, none⟩ = some (.int .i64 x.1) ∧ w'.cell? ⟨w.heap.size, 1, none⟩ = some (.slice B k dd) ∧ w'.cell? ⟨g, kk, none⟩ = some (.slice A6 pl c6)) (first | go_keep | exact ⟨keepc Tk kP0, keepc Tk kP1, keepc Tk hcell⟩) (first | (go_at_call 41; (with_reducible refine (HREC.out _ ?_).mono ?_); (first | exact Tk | exact Below.drew Tk); rintro e wn ⟨rfl, hbn⟩; replace Tk := below_next (by first | exact Tk | exact Below.drew Tk) hbn rfl))
              all_goals
                have hM2 := hM.next Tk
                have hT2 := below_next hTr Tk rfl
                go_wp2_with fail
                go_roundw
                case rel => exact ⟨kk + 1, S3, by omega, by go_num, rfl, HN3, hM2, hT2⟩
                case measure => simp [intOf]; try omega
            · have hze : ((kk : Int) == 0) = false := by simp [hz]
              obtain ⟨S2, HS2, k2, z2⟩ := catx S ⟨#[44]⟩ _ 1 zS (by decide) (by decide)
              obtain ⟨S3, HS3, k3, z3⟩ := catx S2 TX _ _ z2 zT (by decide)
              have HN3 : Hid (bs S3 = F ++ parTo T (kk + 1)) := by
                show _ = _
                rw [← HS3.out, bs_app, ← HS2.out, bs_app, HS.out, ← HTXB.out, parTo, if_neg hz]
                simp only [List.append_assoc]
                rfl
              have HZ := Lib.hid hz
              clear hz
              go_upto_region 10 with fail
              go_region_held3 (fun w' => w'.cell? ⟨w.heap.size, 0, none⟩ = some (.int .i64 x.1) ∧ w'.cell? ⟨w.heap.size, 1, none⟩ = some (.slice B k dd) ∧ w'.cell? ⟨g, kk, none⟩ = some (.slice A6 pl c6)) (first | go_keep | exact ⟨keepc Tk kP0, keepc Tk kP1, keepc Tk hcell⟩) (first | (go_at_call 41; (with_reducible refine (HREC.out _ ?_).mono ?_); (first | exact Tk | exact Below.drew Tk); rintro e wn ⟨rfl, hbn⟩; replace Tk := below_next (by first | exact Tk | exact Below.drew Tk) hbn rfl))
              all_goals
                have hM2 := hM.next Tk
                have hT2 := below_next hTr Tk rfl
                go_wp2_with fail
                go_roundw
                case rel => exact ⟨kk + 1, S3, by omega, by go_num, rfl, HN3, hM2, hT2⟩
                case measure => simp [intOf]; try omega
          · obtain rfl : kk = ar := by omega
            have hk1 : ¬ (kk : Int) < (kk : Int) := by omega
            by_cases h0 : kk = 0
            · have hg0 : ¬ (0 : Int) < (kk : Int) := by omega
              have HFN : Hid (bs S = txT x.2 (v' :: l)) := by
                show _ = _
                rw [HS.out, HFX.out]
                unfold parS
                rw [if_pos (by rw [HTL.out]; exact h0), h0]
                rfl
              go_wp2_with fail
              go_ret
              exact ⟨mk_bs HFN.out, below_next T0 hTr rfl⟩
            · have hg0 : (0 : Int) < (kk : Int) := by omega
              obtain ⟨S2, HS2, k2, z2⟩ := catx S ⟨#[41]⟩ _ 1 zS (by decide) (by decide)
              have HFN : Hid (bs S2 = txT x.2 (v' :: l)) := by
                show _ = _
                rw [← HS2.out, bs_app, HS.out, HFX.out]
                unfold parS
                rw [if_neg (by rw [HTL.out]; exact h0), HTL.out, List.append_assoc]
                rfl
              go_wp2_with fail
              go_ret
              exact ⟨mk_bs HFN.out, below_next T0 hTr rfl⟩
end Go.Proofs.YtbonebpheimbaaaGreatDoor
namespace Go.Proofs.YtbonebpheimbaaaGreatDoor
open Go.RowKit
set_option linter.unusedVariables false
set_option linter.unusedSimpArgs false

theorem belowB_next {b : Nat} {w w1 w2 : World} (h : Below b w w1) (k : Below w1.heap.size w1 w2) (hb : b ≤ w1.heap.size) : Below b w w2 := h.trans (k.mono hb)
theorem keepB {b : Nat} {w w' : World} {p : Addr} {v : Value} (hb : Below b w w') (hp : p.block < b) (h : w.cell? p = some v) : w'.cell? p = some v := (hb.cell hp).trans h
/-! ## Plain -/
def kindB (k : Int) : Bs := if k = 1 then [104, 111, 108, 100, 115, 32] else if k = 2 then [102, 97, 105, 108, 115, 32] else if k = 3 then [115, 117, 98] else if k = 4 then [99, 111, 110, 103, 114, 117, 101, 110, 99, 101] else if k = 5 then [103, 101, 110, 101, 114, 97, 116, 101, 115] else [101, 110, 100, 111]
def numsB : List Int → Bs
  | [] => []
  | v :: l => [32] ++ Lib.decDigits v.toNat ++ numsB l
theorem numsB_app : ∀ a b : List Int, numsB (a ++ b) = numsB a ++ numsB b
  | [], b => rfl
  | v :: a, b => by rw [List.cons_append, numsB, numsB, numsB_app a b]; simp only [List.append_assoc]
theorem numsB_len {n : Nat} (hn : n ≤ 1000) : ∀ {V : List Int}, InL n V → (numsB V).length ≤ 7 * V.length
  | [], _ => by simp [numsB]
  | v :: l, h => by
    have ih := numsB_len hn (V := l) fun y hy => h y (List.mem_cons_of_mem _ hy)
    have hv := h v (List.mem_cons_self ..)
    have := dec_len (u := v.toNat) (by omega)
    simp only [numsB, List.length_append, List.length_cons, List.length_nil]
    omega
def eqB (ops : List OpM) (f : FactM) : Bs := if f.1 ≤ 2 then txT ops f.2.1.1 ++ [61] ++ txT ops f.2.1.2 else []
def colB (f : FactM) : Bs := if f.1 = 1 then [] else [58]
def ftB (ops : List OpM) (f : FactM) : Bs := kindB f.1 ++ eqB ops f ++ colB f ++ numsB f.2.2
/-- What a true fact has, as its text asks it. -/
theorem true_txt {x : AlgebraM} {f : FactM} (hx : AlgP x) (h : trueB x f = true) : f.2.2.length ≤ 8 ∧ (f.1 ≤ 2 → termB x.2 f.2.1.1 = true ∧ termB x.2 f.2.1.2 = true) := by
  obtain ⟨hin, h1, h35, h46, hlo, hhi⟩ := true_in h
  have hn8 : x.1.toNat ≤ 8 := by have := hx.2.1; omega
  refine ⟨?_, fun h2 => ?_⟩
  · by_cases e1 : f.1 = 1
    · rw [h1 e1]; simp
    by_cases e35 : f.1 = 3 ∨ f.1 = 5
    · have hr := h35 e35
      have hasc : f.2.2.Pairwise (· < ·) := rises_iff.1 hr
      have hnd : f.2.2.Nodup := hasc.imp fun h => by omega
      have := nodup_sub (m := upTo x.1.toNat) hnd fun y hy => by
        have := hin y hy
        unfold upTo
        exact List.mem_map.2 ⟨y.toNat, List.mem_range.2 (by omega), by omega⟩
      rw [upTo_len] at this
      omega
    by_cases e46 : f.1 = 4 ∨ f.1 = 6
    · rw [h46 e46]; exact hn8
    · have e2 : f.1 = 2 := by omega
      unfold trueB at h
      rw [if_neg e1, if_pos e2, Bool.and_eq_true] at h
      have h3 := h.2
      unfold failB at h3
      rw [Bool.and_eq_true, Bool.and_eq_true, decide_eq_true_iff] at h3
      rw [h3.2.1]
      have := mx_le f.2.1.1 f.2.1.2
      omega
  · unfold trueB at h
    by_cases e1 : f.1 = 1
    · rw [if_pos e1, Bool.and_eq_true] at h
      have h3 := h.1
      unfold holdB askB at h3
      rw [Bool.and_eq_true, Bool.and_eq_true, Bool.and_eq_true] at h3
      exact h3.1.1
    · rw [if_neg e1, if_pos (by omega), Bool.and_eq_true] at h
      have h3 := h.1
      unfold askB at h3
      rw [Bool.and_eq_true, Bool.and_eq_true] at h3
      exact h3.1
/-- The words for the kinds, as a row of seven (the program) and of six (the reference). -/
theorem kind_cell7 (k : Nat) (h1 : 1 ≤ k) (h6 : k ≤ 6) (w : World) : (w.alloc (.cells #[.string ⟨#[]⟩, .string ⟨#[104, 111, 108, 100, 115, 32]⟩, .string ⟨#[102, 97, 105, 108, 115, 32]⟩, .string ⟨#[115, 117, 98]⟩, .string ⟨#[99, 111, 110, 103, 114, 117, 101, 110, 99, 101]⟩, .string ⟨#[103, 101, 110, 101, 114, 97, 116, 101, 115]⟩, .string ⟨#[101, 110, 100, 111]⟩] 9)).cell? ⟨w.heap.size, k, none⟩ = some (.string (mk (kindB k))) := by
  obtain rfl | rfl | rfl | rfl | rfl | rfl : k = 1 ∨ k = 2 ∨ k = 3 ∨ k = 4 ∨ k = 5 ∨ k = 6 := by omega
  all_goals
    rw [(Blk.new w _ _).cell]
    rfl
theorem kind_cell6 (k : Nat) (h1 : 1 ≤ k) (h6 : k ≤ 6) (w : World) : (w.alloc (.cells #[.string ⟨#[104, 111, 108, 100, 115, 32]⟩, .string ⟨#[102, 97, 105, 108, 115, 32]⟩, .string ⟨#[115, 117, 98]⟩, .string ⟨#[99, 111, 110, 103, 114, 117, 101, 110, 99, 101]⟩, .string ⟨#[103, 101, 110, 101, 114, 97, 116, 101, 115]⟩, .string ⟨#[101, 110, 100, 111]⟩] 9)).cell? ⟨w.heap.size, k - 1, none⟩ = some (.string (mk (kindB k))) := by
  obtain rfl | rfl | rfl | rfl | rfl | rfl : k = 1 ∨ k = 2 ∨ k = 3 ∨ k = 4 ∨ k = 5 ∨ k = 6 := by omega
  all_goals
    rw [(Blk.new w _ _).cell]
    rfl
theorem kindB_len (k : Int) : (kindB k).length ≤ 10 := by
  unfold kindB
  split
  · decide
  split
  · decide
  split
  · decide
  split
  · decide
  split
  · decide
  · decide
theorem txT_len {x : AlgebraM} (hx : AlgP x) {t : List Int} (h : termB x.2 t = true) : (txT x.2 t).length ≤ 720 := by
  obtain ⟨h60, he⟩ := term_end h
  have h1 := tot_txS he (fun o ho => (hx.2.2.2 o ho).2.1) (by have := hx.2.2.1; omega)
  have h2 : (txT x.2 t).length ≤ tot (txS x.2 t) := by
    unfold txT
    rcases txS x.2 t with _ | ⟨a, l⟩
    · simp
    · simp [tot]
  omega
set_option maxRecDepth 20000 in
set_option maxHeartbeats 16000000 in
theorem factText_any (cs ds : List Value) (x : AlgebraM) (f : FactM) (w : World) (h : shAlgebra.rd w cs x) (h' : shFact.rd w ds f) (hx : AlgP x) (hf : trueB x f = true) (tab : Tab w) :
    Calls Tryz.prog 26 #[.agg cs.toArray, .agg ds.toArray] w (Bl w (.string (mk (ftB x.2 f)))) := by
  obtain ⟨hin, hf1, -, -, hlo, hhi⟩ := true_in hf
  obtain ⟨hV8, hterm⟩ := true_txt hx hf
  obtain ⟨ki, ⟨L, R⟩, V⟩ := f
  obtain ⟨k, rfl⟩ := Int.eq_ofNat_of_zero_le (show 0 ≤ ki by simp only at hlo; omega)
  simp only at hin hf1 hlo hhi hV8 hterm
  have hk1 : 1 ≤ k := by omega
  have hk6 : k ≤ 6 := by omega
  have hrd := h
  have hrd' := h'
  obtain ⟨B, ol, d, rfl, -, -⟩ := rdAlgebra h
  obtain ⟨AL, nL, cL, AR, nR, cR, AV, nV, cV, rfl, -, rL, rR, rV⟩ := rdFact h'
  simp only at rL rR rV
  have hnV : nV ≤ 8 := by rw [← rV.len]; exact hV8
  obtain ⟨w0, hw0, T0, hsz0, BP, BQ⟩ := boxes2 w #[.int .i64 x.1, .slice B ol d] #[.int .i64 (k : Int), .slice AL nL cL, .slice AR nR cR, .slice AV nV cV] 36 62
  obtain ⟨w1, hw1⟩ : ∃ wb, wb = w0.alloc (.cells #[.pointer none, .slice none 0 0] 67) := ⟨_, rfl⟩
  have hb01 : Below w0.heap.size w0 w1 := by rw [hw1]; exact below_box _ _
  have T1 := below_next T0 hb01 rfl
  have hB1 : Bd w1 w0.heap.size [] := by rw [hw1]; exact Bd.new _
  have hs0 : w0.heap.size = w.heap.size + 1 + 1 := by omega
  rw [hs0] at hB1
  have cP0 := (BP.next hb01).cell 0
  have cP1 := (BP.next hb01).cell 1
  have cQ0 := (BQ.next hb01).cell 0
  have cQ1 := (BQ.next hb01).cell 1
  have cQ2 := (BQ.next hb01).cell 2
  have cQ3 := (BQ.next hb01).cell 3
  simp at cP0 cP1 cQ0 cQ1 cQ2 cQ3
  have HW : Hid (w1 = ((w.alloc (.cells #[.int .i64 x.1, .slice B ol d] 36)).alloc (.cells #[.int .i64 (k : Int), .slice AL nL cL, .slice AR nR cR, .slice AV nV cV] 62)).alloc (.cells #[.pointer none, .slice none 0 0] 67)) := by show _ = _; rw [hw1, hw0]
  have HUP : Hid (∀ wz, Below (w.heap.size + 1 + 1) w1 wz → Below w0.heap.size w0 wz) := fun wz hz => by rw [← hs0] at hz; exact hb01.trans hz
  have HRD : Hid (∀ wz, Below (w.heap.size + 1 + 1) w1 wz → shAlgebra.rd wz [.int .i64 x.1, .slice B ol d] x) := fun wz hz => shAlgebra.stab (shAlgebra.stab hrd T0.block) (HUP.out wz hz).block
  have HTB : Hid (∀ wz, Below (w.heap.size + 1 + 1) w1 wz → Tab wz) := fun wz hz => (tab.next T0).next (HUP.out wz hz)
  have HRV : Hid (∀ wz, Below (w.heap.size + 1 + 1) w1 wz → RdL RI wz AV nV V) := fun wz hz => (rV.next stab_RI T0).next stab_RI (HUP.out wz hz)
  obtain ⟨K, HK⟩ : ∃ s, Hid (mk (kindB (k : Int)) = s) := ⟨_, rfl⟩
  have hkc : ∀ wz : World, (wz.alloc (.cells #[.string ⟨#[]⟩, .string ⟨#[104, 111, 108, 100, 115, 32]⟩, .string ⟨#[102, 97, 105, 108, 115, 32]⟩, .string ⟨#[115, 117, 98]⟩, .string ⟨#[99, 111, 110, 103, 114, 117, 101, 110, 99, 101]⟩, .string ⟨#[103, 101, 110, 101, 114, 97, 116, 101, 115]⟩, .string ⟨#[101, 110, 100, 111]⟩] 9)).cell? ⟨wz.heap.size, k, none⟩ = some (.string K) := fun wz => by rw [← HK.out]; exact kind_cell7 k hk1 hk6 wz
  have zK : K.size ≤ 10 := by rw [← HK.out, size_mk]; exact kindB_len _
  have hKB : bs K = kindB (k : Int) := by rw [← HK.out]; rfl
  have HV := Lib.hid hin
  have HN8 : Hid (x.1.toNat ≤ 1000) := by show _ ≤ _; have := hx.2.1; omega
  have HVL := Lib.hid rV.len
  have hki0 : (0 : Int) ≤ (k : Int) := by omega
  have hki7 : (k : Int) < 7 := by omega
  have hbw : w.heap.size + 1 + 1 ≤ w1.heap.size := by have := hB1.lt; omega
  have hp0 : w.heap.size < w.heap.size + 1 + 1 := by omega
  have hp1 : w.heap.size + 1 < w.heap.size + 1 + 1 := by omega
  have HT1 := Lib.hid T1
  -- what is written ahead of the list
  obtain ⟨PRE, hPRE⟩ : ∃ P, P = kindB (k : Int) ++ eqB x.2 ((k : Int), (L, R), V) ++ colB ((k : Int), (L, R), V) := ⟨_, rfl⟩
  have HFT : Hid (ftB x.2 ((k : Int), (L, R), V) = PRE ++ numsB V) := by show _ = _; rw [hPRE]; rfl
  have HWS := Lib.hid (writeString_any (w.heap.size + 1 + 1) [] K (w1.alloc (.cells #[.string ⟨#[]⟩, .string ⟨#[104, 111, 108, 100, 115, 32]⟩, .string ⟨#[102, 97, 105, 108, 115, 32]⟩, .string ⟨#[115, 117, 98]⟩, .string ⟨#[99, 111, 110, 103, 114, 117, 101, 110, 99, 101]⟩, .string ⟨#[103, 101, 110, 101, 114, 97, 116, 101, 115]⟩, .string ⟨#[101, 110, 100, 111]⟩] 9)) (hB1.next (below_box _ _)) (by simp; omega))
  have TLit : Below (w.heap.size + 1 + 1) w1 (w1.alloc (.cells #[.string ⟨#[]⟩, .string ⟨#[104, 111, 108, 100, 115, 32]⟩, .string ⟨#[102, 97, 105, 108, 115, 32]⟩, .string ⟨#[115, 117, 98]⟩, .string ⟨#[99, 111, 110, 103, 114, 117, 101, 110, 99, 101]⟩, .string ⟨#[103, 101, 110, 101, 114, 97, 116, 101, 115]⟩, .string ⟨#[101, 110, 100, 111]⟩] 9)) := belowB_next (Below.refl _ _) (below_box _ _) hbw
  have cL0 := keepB TLit hp1 cQ0
  have HTM : Hid (k ≤ 2 → ∀ wz, Below (w.heap.size + 1 + 1) w1 wz → Calls Tryz.prog 43 #[.agg #[.int .i64 x.1, .slice B ol d], .slice AL nL cL] wz (Bl wz (.string (mk (txT x.2 L)))) ∧ Calls Tryz.prog 43 #[.agg #[.int .i64 x.1, .slice B ol d], .slice AR nR cR] wz (Bl wz (.string (mk (txT x.2 R))))) := fun hk2 wz hz =>
    ⟨termText_any _ x AL nL cL L wz (HRD.out wz hz) hx ((rL.next stab_RI T0).next stab_RI (HUP.out wz hz)) (hterm (by omega)).1 (HTB.out wz hz), termText_any _ x AR nR cR R wz (HRD.out wz hz) hx ((rR.next stab_RI T0).next stab_RI (HUP.out wz hz)) (hterm (by omega)).2 (HTB.out wz hz)⟩
  have HZT : Hid (k ≤ 2 → (txT x.2 L).length ≤ 720 ∧ (txT x.2 R).length ≤ 720) := fun hk2 => ⟨txT_len hx (hterm (by omega)).1, txT_len hx (hterm (by omega)).2⟩
  have HPZ : Hid (PRE.length ≤ 1500) := by
    show _ ≤ _
    rw [hPRE, List.length_append, List.length_append]
    have h1 := kindB_len (k : Int)
    have h2 : (eqB x.2 ((k : Int), (L, R), V)).length ≤ 1441 := by
      unfold eqB
      split
      · rename_i hh
        have hz := HZT.out (by simp only at hh; omega)
        rw [List.length_append, List.length_append]
        simp only [List.length_singleton]
        omega
      · simp
    have h3 : (colB ((k : Int), (L, R), V)).length ≤ 1 := by unfold colB; split <;> simp
    omega
  have HZL := Lib.hid hPRE
  rw [HFT.out]
  clear hw0 hw1 hsz0 hrd hrd' h h' rL rR rV hin hf hf1 hterm hV8 hx tab T0 hb01 T1 hs0 BP BQ hPRE hlo hhi
  go_enter Tryz.func26, Tryz.ntmps26
  go_upto_region 2 with fail
  rw [← HW.out]
  go_wp2_with fail
  refine HWS.out.mono ?_
  rintro e w3 ⟨rfl, hB3, hk3⟩
  rw [List.nil_append, hKB] at hB3
  have T3 := TLit.trans hk3.1
  replace cP0 := keepB T3 hp0 cP0
  replace cP1 := keepB T3 hp0 cP1
  replace cQ0 := keepB T3 hp1 cQ0
  replace cQ1 := keepB T3 hp1 cQ1
  replace cQ2 := keepB T3 hp1 cQ2
  replace cQ3 := keepB T3 hp1 cQ3
  clear hkc HWS TLit hB1 hKB cL0
  have HCASE : k = 1 ∨ k = 2 ∨ 2 < k := by omega
  have hbw3 : w.heap.size + 1 + 1 ≤ w3.heap.size := by have := hB3.lt; omega
  rcases HCASE with hk | hk | hk
  case' inl =>
    have hle : (k : Int) ≤ 2 := by omega
    have hne : ((k : Int) != 1) = false := by simp; omega
    obtain ⟨zL, zR⟩ := HZT.out (by omega)
    have HTM1 : Hid (∀ wz, Below (w.heap.size + 1 + 1) w1 wz → Calls Tryz.prog 43 #[.agg #[.int .i64 x.1, .slice B ol d], .slice AL nL cL] wz (Bl wz (.string (mk (txT x.2 L))))) := fun wz hz => (HTM.out (by omega) wz hz).1
    have HTM2 : Hid (∀ wz, Below (w.heap.size + 1 + 1) w1 wz → Calls Tryz.prog 43 #[.agg #[.int .i64 x.1, .slice B ol d], .slice AR nR cR] wz (Bl wz (.string (mk (txT x.2 R))))) := fun wz hz => (HTM.out (by omega) wz hz).2
    obtain ⟨TL, HTL⟩ : ∃ s, Hid (mk (txT x.2 L) = s) := ⟨_, rfl⟩
    obtain ⟨TR, HTR⟩ : ∃ s, Hid (mk (txT x.2 R) = s) := ⟨_, rfl⟩
    rw [HTL.out] at HTM1
    rw [HTR.out] at HTM2
    have zL' : TL.size ≤ 720 := by rw [← HTL.out, size_mk]; exact zL
    have zR' : TR.size ≤ 720 := by rw [← HTR.out, size_mk]; exact zR
    obtain ⟨S1, HS1, k1, y1⟩ := catx TL ⟨#[61]⟩ _ 1 zL' (by decide) (by decide)
    obtain ⟨S2, HS2, k2, y2⟩ := catx S1 TR _ _ y1 zR' (by decide)
    have HEQ : Hid (kindB (k : Int) ++ bs S2 = PRE) := by
      show _ = _
      rw [HZL.out, ← HS2.out, bs_app, ← HS1.out, bs_app, ← HTL.out, ← HTR.out]
      unfold eqB colB
      rw [if_pos hle, if_pos (by omega), List.append_nil]
      rfl
    have HBN : Hid (∀ wz, Bd wz (w.heap.size + 1 + 1) (kindB (k : Int)) → Calls Tryz.prog 24 #[.pointer (some ⟨w.heap.size + 1 + 1, 0, none⟩), .string S2] wz fun e w' => e = .returned (.tuple #[.int .i64 S2.size, .nilIface]) ∧ Bd w' (w.heap.size + 1 + 1) PRE ∧ Kb (w.heap.size + 1 + 1) wz w') := fun wz hz => by
      have := writeString_any (w.heap.size + 1 + 1) (kindB (k : Int)) S2 wz hz (by have := kindB_len (k : Int); omega)
      rwa [HEQ.out] at this
    have Tn : Below (w.heap.size + 1 + 1) w3 w3 := Below.refl _ _
    have hB := hB3
    have HKK := Lib.hid hk
    clear hk
    go_upto_region 4 with fail
    go_region_held3 (fun w' => w'.cell? ⟨w.heap.size, 0, none⟩ = some (.int .i64 x.1) ∧ w'.cell? ⟨w.heap.size, 1, none⟩ = some (.slice B ol d) ∧ w'.cell? ⟨w.heap.size + 1, 1, none⟩ = some (.slice AL nL cL) ∧ w'.cell? ⟨w.heap.size + 1, 2, none⟩ = some (.slice AR nR cR)) (first | go_keep | exact ⟨keepB Tn hp0 cP0, keepB Tn hp0 cP1, keepB Tn hp1 cQ1, keepB Tn hp1 cQ2⟩) (first | (go_at_call 43; (with_reducible refine (HTM1.out _ ?_).mono ?_); (first | exact T3.trans Tn | exact T3.trans (Below.drew Tn)); rintro e wn ⟨rfl, hbn⟩; have hblt := hB.lt; replace Tn := belowB_next (by first | exact Tn | exact Below.drew Tn) hbn (by first | exact Nat.le_of_lt hblt | (show _ ≤ _; omega)); replace hB := Bd.next (by first | exact hB | exact hB.drw) hbn) | (go_at_call 43; (with_reducible refine (HTM2.out _ ?_).mono ?_); (first | exact T3.trans Tn | exact T3.trans (Below.drew Tn)); rintro e wn ⟨rfl, hbn⟩; have hblt := hB.lt; replace Tn := belowB_next (by first | exact Tn | exact Below.drew Tn) hbn (by first | exact Nat.le_of_lt hblt | (show _ ≤ _; omega)); replace hB := Bd.next (by first | exact hB | exact hB.drw) hbn) | (go_at_call 24; (with_reducible refine (HBN.out _ ?_).mono ?_); (first | exact hB | exact hB.drw); rintro e wn ⟨rfl, hB2, hk2⟩; replace Tn := (show Below (w.heap.size + 1 + 1) w3 _ by first | exact Tn | exact Below.drew Tn).trans hk2.1))
    all_goals
      have T4 := T3.trans Tn
      have dQ0 := keepB Tn hp1 cQ0
      have dQ3 := keepB Tn hp1 cQ3
      have hB5' := hB2
      have eQ3 := dQ3
      have T5 := T4
      clear hB2
      go_upto_region 7 with fail
  case' inr.inl =>
    have hle : (k : Int) ≤ 2 := by omega
    have hne : ((k : Int) != 1) = true := by simp; omega
    obtain ⟨zL, zR⟩ := HZT.out (by omega)
    have HTM1 : Hid (∀ wz, Below (w.heap.size + 1 + 1) w1 wz → Calls Tryz.prog 43 #[.agg #[.int .i64 x.1, .slice B ol d], .slice AL nL cL] wz (Bl wz (.string (mk (txT x.2 L))))) := fun wz hz => (HTM.out (by omega) wz hz).1
    have HTM2 : Hid (∀ wz, Below (w.heap.size + 1 + 1) w1 wz → Calls Tryz.prog 43 #[.agg #[.int .i64 x.1, .slice B ol d], .slice AR nR cR] wz (Bl wz (.string (mk (txT x.2 R))))) := fun wz hz => (HTM.out (by omega) wz hz).2
    obtain ⟨TL, HTL⟩ : ∃ s, Hid (mk (txT x.2 L) = s) := ⟨_, rfl⟩
    obtain ⟨TR, HTR⟩ : ∃ s, Hid (mk (txT x.2 R) = s) := ⟨_, rfl⟩
    rw [HTL.out] at HTM1
    rw [HTR.out] at HTM2
    have zL' : TL.size ≤ 720 := by rw [← HTL.out, size_mk]; exact zL
    have zR' : TR.size ≤ 720 := by rw [← HTR.out, size_mk]; exact zR
    obtain ⟨S1, HS1, k1, y1⟩ := catx TL ⟨#[61]⟩ _ 1 zL' (by decide) (by decide)
    obtain ⟨S2, HS2, k2, y2⟩ := catx S1 TR _ _ y1 zR' (by decide)
    obtain ⟨PR2, HEQ⟩ : ∃ P, Hid (kindB (k : Int) ++ bs S2 = P) := ⟨_, rfl⟩
    have HPC : Hid (PR2 ++ [58] = PRE) := by
      show _ = _
      rw [HZL.out, ← HEQ.out, ← HS2.out, bs_app, ← HS1.out, bs_app, ← HTL.out, ← HTR.out]
      unfold eqB colB
      rw [if_pos hle, if_neg (by omega)]
      rfl
    have HCL : Hid (PR2.length ≤ 2000) := by
      show _ ≤ _
      have := congrArg List.length HPC.out
      rw [List.length_append] at this
      have := HPZ.out
      omega
    have HBN : Hid (∀ wz, Bd wz (w.heap.size + 1 + 1) (kindB (k : Int)) → Calls Tryz.prog 24 #[.pointer (some ⟨w.heap.size + 1 + 1, 0, none⟩), .string S2] wz fun e w' => e = .returned (.tuple #[.int .i64 S2.size, .nilIface]) ∧ Bd w' (w.heap.size + 1 + 1) PR2 ∧ Kb (w.heap.size + 1 + 1) wz w') := fun wz hz => by
      have := writeString_any (w.heap.size + 1 + 1) (kindB (k : Int)) S2 wz hz (by have := kindB_len (k : Int); omega)
      rwa [HEQ.out] at this
    have Tn : Below (w.heap.size + 1 + 1) w3 w3 := Below.refl _ _
    have hB := hB3
    have HKK := Lib.hid hk
    clear hk
    go_upto_region 4 with fail
    go_region_held3 (fun w' => w'.cell? ⟨w.heap.size, 0, none⟩ = some (.int .i64 x.1) ∧ w'.cell? ⟨w.heap.size, 1, none⟩ = some (.slice B ol d) ∧ w'.cell? ⟨w.heap.size + 1, 1, none⟩ = some (.slice AL nL cL) ∧ w'.cell? ⟨w.heap.size + 1, 2, none⟩ = some (.slice AR nR cR)) (first | go_keep | exact ⟨keepB Tn hp0 cP0, keepB Tn hp0 cP1, keepB Tn hp1 cQ1, keepB Tn hp1 cQ2⟩) (first | (go_at_call 43; (with_reducible refine (HTM1.out _ ?_).mono ?_); (first | exact T3.trans Tn | exact T3.trans (Below.drew Tn)); rintro e wn ⟨rfl, hbn⟩; have hblt := hB.lt; replace Tn := belowB_next (by first | exact Tn | exact Below.drew Tn) hbn (by first | exact Nat.le_of_lt hblt | (show _ ≤ _; omega)); replace hB := Bd.next (by first | exact hB | exact hB.drw) hbn) | (go_at_call 43; (with_reducible refine (HTM2.out _ ?_).mono ?_); (first | exact T3.trans Tn | exact T3.trans (Below.drew Tn)); rintro e wn ⟨rfl, hbn⟩; have hblt := hB.lt; replace Tn := belowB_next (by first | exact Tn | exact Below.drew Tn) hbn (by first | exact Nat.le_of_lt hblt | (show _ ≤ _; omega)); replace hB := Bd.next (by first | exact hB | exact hB.drw) hbn) | (go_at_call 24; (with_reducible refine (HBN.out _ ?_).mono ?_); (first | exact hB | exact hB.drw); rintro e wn ⟨rfl, hB2, hk2⟩; replace Tn := (show Below (w.heap.size + 1 + 1) w3 _ by first | exact Tn | exact Below.drew Tn).trans hk2.1))
    all_goals
      have T4 := T3.trans Tn
      have dQ0 := keepB Tn hp1 cQ0
      have dQ3 := keepB Tn hp1 cQ3
      have HWC := Lib.hid (writeString_any (w.heap.size + 1 + 1) _ ⟨#[58]⟩ _ hB2 (by have := HCL.out; show _ + 1 ≤ _; omega))
      go_wp2_with fail
      refine HWC.out.mono ?_
      rintro e w5 ⟨rfl, hB5, hk5⟩
      have T5 := T4.trans hk5.1
      have eQ3 := keepB hk5.1 hp1 dQ3
      have hB5' : Bd w5 (w.heap.size + 1 + 1) PRE := by rw [← HPC.out]; exact hB5
      clear HWC hB2 hB5
      go_upto_region 7 with fail
  case' inr.inr =>
    have hle : ¬ (k : Int) ≤ 2 := by omega
    have hne : ((k : Int) != 1) = true := by simp; omega
    have HPC : Hid (kindB (k : Int) ++ [58] = PRE) := by
      show _ = _
      rw [HZL.out]
      unfold eqB colB
      rw [if_neg hle, if_neg (by omega), List.append_nil]
    have HCL : Hid ((kindB (k : Int)).length ≤ 2000) := by show _ ≤ _; have := kindB_len (k : Int); omega
    have HKK := Lib.hid hk
    have hB2 := hB3
    have T4 := T3
    have dQ0 := cQ0
    have dQ3 := cQ3
    clear hk
    all_goals
      have HWC := Lib.hid (writeString_any (w.heap.size + 1 + 1) _ ⟨#[58]⟩ _ hB2 (by have := HCL.out; show _ + 1 ≤ _; omega))
      go_wp2_with fail
      refine HWC.out.mono ?_
      rintro e w5 ⟨rfl, hB5, hk5⟩
      have T5 := T4.trans hk5.1
      have eQ3 := keepB hk5.1 hp1 dQ3
      have hB5' : Bd w5 (w.heap.size + 1 + 1) PRE := by rw [← HPC.out]; exact hB5
      clear HWC hB2 hB5
      go_upto_region 7 with fail
  all_goals
    clear HTM HZT HZL hB3 T3
    go_wp2_with fail
    go_loopw [37] (fun i wr => ∃ q : Nat, q ≤ nV ∧ i = .int .i64 (q : Int) ∧ Bd wr (w.heap.size + 1 + 1) (PRE ++ numsB (V.take q)) ∧ Below (w.heap.size + 1 + 1) w1 wr) (fun i _ => nV - (intOf i).toNat)
    case atStart => exact ⟨0, Nat.zero_le _, rfl, by rw [List.take_zero, numsB, List.append_nil]; exact hB5', T5⟩
    case round =>
      clear hB5' T5 eQ3
      obtain ⟨q, hq, rfl, hBq, hTq⟩ := hrel
      by_cases hlt : q < nV
      · have hq0 : (0 : Int) ≤ (q : Int) := by omega
        have hq1 : (q : Int) < (nV : Int) := by omega
        obtain ⟨bb, o, u, v, rfl, hc, ⟨rfl, hv0, hv1⟩, -, hxv⟩ := (HRV.out wr hTq).at hlt
        have hvi := HV.out v (List.mem_of_getElem? hxv)
        obtain ⟨y, rfl⟩ := Int.eq_ofNat_of_zero_le hvi.1
        have hyn : y < 1000 := by have := HN8.out; omega
        obtain ⟨Nm, HN⟩ : ∃ s, Hid (numS y = s) := ⟨_, rfl⟩
        have zN : Nm.size ≤ 6 := by rw [← HN.out]; exact numS_size (by omega)
        have HI := Lib.hid (itoa_any y (by omega) wr (HTB.out wr hTq))
        rw [show mk (Lib.decDigits y) = Nm from HN.out] at HI
        obtain ⟨S5, HS5, k5, y5⟩ := catx ⟨#[32]⟩ Nm 1 _ (by decide) zN (by decide)
        have HNX : Hid (PRE ++ numsB (V.take (q + 1)) = PRE ++ numsB (V.take q) ++ bs S5) := by
          show _ = _
          rw [List.take_add_one, hxv, numsB_app, ← HS5.out, bs_app, ← HN.out, ← List.append_assoc]
          congr 1
          show [32] ++ Lib.decDigits ((y : Int).toNat) ++ numsB [] = _
          rw [Int.toNat_natCast, numsB, List.append_nil]
          rfl
        have hlen : (PRE ++ numsB (V.take q)).length ≤ 2000 := by
          have h1 := numsB_len HN8.out (V := V.take q) fun z hz => HV.out z (List.mem_of_mem_take hz)
          have h2 := HPZ.out
          rw [List.length_append]
          rw [List.length_take] at h1
          omega
        have hbl := hBq.lt
        clear hxv hvi
        go_wp2_with fail
        refine HI.out.mono ?_
        rintro e w6 ⟨rfl, hb6⟩
        have HW6 := Lib.hid (writeString_any _ _ S5 w6 (hBq.next hb6) (by omega))
        have T6 := belowB_next hTq hb6 (Nat.le_of_lt hbl)
        go_wp2_with fail
        refine HW6.out.mono ?_
        rintro e w7 ⟨rfl, hB7, hk7⟩
        have T7 := T6.trans hk7.1
        go_wp2_with fail
        go_roundw
        case rel => exact ⟨q + 1, by omega, by go_num, by rw [HNX.out]; exact hB7, T7⟩
        case measure => simp [intOf]; try omega
      · obtain rfl : q = nV := by omega
        have hq1 : ¬ (q : Int) < (q : Int) := by omega
        rw [List.take_of_length_le (by rw [HVL.out]; exact Nat.le_refl _)] at hBq
        have HSX := Lib.hid (string_any _ _ wr hBq)
        go_wp2_with fail
        refine HSX.out.mono ?_
        rintro e w6 ⟨rfl, hb6⟩
        go_wp2_with fail
        go_ret
        exact ⟨rfl, HT1.out.trans ((hTq.trans hb6).mono (by omega))⟩
end Go.Proofs.YtbonebpheimbaaaGreatDoor
namespace Go.Proofs.YtbonebpheimbaaaGreatDoor
open Go.RowKit
set_option linter.unusedVariables false
set_option linter.unusedSimpArgs false

/-- The slices of a fact have room for their own length. -/
def FactCap (ds : List Value) : Prop := ∀ (i : Nat) B m d, ds[i]? = some (.slice B m d) → m ≤ d
theorem capFact {w : World} {ds : List Value} {f : FactM} {bl : List Nat} (h : shFact.own w ds f bl) : FactCap ds := by
  obtain ⟨c1, _, _, _, rfl, -, ⟨_, rfl, ⟨rfl, -⟩, -⟩, ⟨c2, c3, _, _, rfl, -, ⟨_, _, _, _, rfl, -, ⟨v1, rfl, o1, -⟩, ⟨v2, rfl, o2, -⟩⟩, ⟨v3, rfl, o3, -⟩⟩⟩ := h
  intro i B m d e
  have key : ∀ {v : Value} {xs : List Int}, w.ownsRow 0 3 1 v xs.length (ints xs) → v = .slice B m d → m ≤ d := fun ho ev => by
    rcases ho.2 with ⟨h0, h1⟩ | ⟨g, cap, cur, hv, _, _, hnc, _⟩
    · rw [ev] at h0
      injection h0 with _ a b
      omega
    · rw [ev] at hv
      injection hv with _ a b
      omega
  match i, e with
  | 0, e => simp at e
  | 1, e => simp at e; exact key o1 e
  | 2, e => simp at e; exact key o2 e
  | 3, e => simp at e; exact key o3 e
  | i + 4, e => simp at e
def LabFCap (w : World) (cs : List Value) : Prop := ∀ b o n c, cs[3]? = some (.slice (some ⟨b, o, none⟩) n c) → ∀ k, k < n → ∀ ds : List Value, ds.length = 4 → (∀ i v, ds[i]? = some v → w.cell? ⟨b, o + k * 4 + i, none⟩ = some v) → FactCap ds
theorem capLabF {w : World} {cs : List Value} {x : LabM} {bl : List Nat} (h : shLab.own w cs x bl) : LabFCap w cs := by
  obtain ⟨c1, _, _, _, rfl, -, ⟨_, rfl, -⟩, ⟨c3, c4, _, _, rfl, -, ⟨_, _, _, _, rfl, -, ⟨_, rfl, -⟩, ⟨vo, _, _, rfl, -⟩⟩, ⟨c5, _, _, _, rfl, -, ⟨v, css, bls, rfl, P, -⟩, -⟩⟩⟩ := h
  intro b o n c e k hk ds hl hds
  simp at e
  subst e
  have hn : n = x.2.2.1.length := by
    rcases P.row.2 with ⟨h0, -⟩ | ⟨g, cap, cur, h0, -⟩
    · cases h0
    · injection h0 with _ a
  have ho : o = 0 := by
    rcases P.row.2 with ⟨h0, -⟩ | ⟨g, cap, cur, h0, -⟩
    · cases h0
    · injection h0 with a
      injection a with a
      injection a
  subst ho
  have h1 := P.l1
  have h2 := P.l2
  have hck : css[k]? = some (css[k]'(by omega)) := List.getElem?_eq_getElem (by omega)
  have hel := P.el k _ _ _ hck (List.getElem?_eq_getElem (by omega)) (List.getElem?_eq_getElem (by omega))
  have hcl : (css[k]'(by omega)).length = 4 := shFact.rd_len (shFact.ord hel)
  have he : ds = css[k]'(by omega) := by
    apply List.ext_getElem?
    intro i
    by_cases hi : i < 4
    · have h3 := hds i _ (List.getElem?_eq_getElem (by omega))
      have h4 := P.cell rfl hck (List.getElem?_eq_getElem (i := i) (by omega))
      rw [Nat.zero_add] at h3
      have h5 : w.cell? ⟨b, k * 4 + i, none⟩ = some ((css[k]'(by omega))[i]'(by omega)) := h4
      rw [h3] at h5
      rw [List.getElem?_eq_getElem (by omega), List.getElem?_eq_getElem (by omega)]
      exact h5
    · rw [List.getElem?_eq_none (by omega), List.getElem?_eq_none (by omega)]
  rw [he]
  exact capFact hel
set_option maxRecDepth 20000 in
set_option maxHeartbeats 16000000 in
theorem l32Text_any (cs ds : List Value) (x : AlgebraM) (f : FactM) (w : World) (h : shAlgebra.rd w cs x) (h' : shFact.rd w ds f) (hx : AlgP x) (hf : trueB x f = true) (hcap : FactCap ds) :
    Calls Tryz.prog 22 #[.agg cs.toArray, .agg ds.toArray] w (Bl w (.string (mk (ftB x.2 f)))) := by
  obtain ⟨hin, hf1, -, -, hlo, hhi⟩ := true_in hf
  obtain ⟨hV8, hterm⟩ := true_txt hx hf
  obtain ⟨ki, ⟨L, R⟩, V⟩ := f
  obtain ⟨k, rfl⟩ := Int.eq_ofNat_of_zero_le (show 0 ≤ ki by simp only at hlo; omega)
  simp only at hin hf1 hlo hhi hV8 hterm
  have hk1 : 1 ≤ k := by omega
  have hk6 : k ≤ 6 := by omega
  have hrd := h
  have hrd' := h'
  obtain ⟨B, ol, d, rfl, -, -⟩ := rdAlgebra h
  obtain ⟨AL, nL, cL, AR, nR, cR, AV, nV, cV, rfl, -, rL, rR, rV⟩ := rdFact h'
  simp only at rL rR rV
  have hcL : nL ≤ cL := hcap 1 _ _ _ rfl
  have hcR : nR ≤ cR := hcap 2 _ _ _ rfl
  have hnV : nV ≤ 8 := by rw [← rV.len]; exact hV8
  obtain ⟨w0, hw0, T0, hsz0, BP, BQ⟩ := boxes2 w #[.int .i64 x.1, .slice B ol d] #[.int .i64 (k : Int), .slice AL nL cL, .slice AR nR cR, .slice AV nV cV] 36 62
  have HW : Hid (w0 = (w.alloc (.cells #[.int .i64 x.1, .slice B ol d] 36)).alloc (.cells #[.int .i64 (k : Int), .slice AL nL cL, .slice AR nR cR, .slice AV nV cV] 62)) := hw0
  obtain ⟨w1, hw1⟩ : ∃ wb, wb = w0.alloc (.cells #[.string ⟨#[104, 111, 108, 100, 115, 32]⟩, .string ⟨#[102, 97, 105, 108, 115, 32]⟩, .string ⟨#[115, 117, 98]⟩, .string ⟨#[99, 111, 110, 103, 114, 117, 101, 110, 99, 101]⟩, .string ⟨#[103, 101, 110, 101, 114, 97, 116, 101, 115]⟩, .string ⟨#[101, 110, 100, 111]⟩] 9) := ⟨_, rfl⟩
  have hb01 : Below w0.heap.size w0 w1 := by rw [hw1]; exact below_box _ _
  have HW1 := Lib.hid hw1
  have T1 := below_next T0 hb01 rfl
  obtain ⟨K, HK⟩ : ∃ s, Hid (mk (kindB (k : Int)) = s) := ⟨_, rfl⟩
  obtain ⟨k', hk'⟩ : ∃ k', k' = k - 1 := ⟨_, rfl⟩
  have hkc : (w0.alloc (.cells #[.string ⟨#[104, 111, 108, 100, 115, 32]⟩, .string ⟨#[102, 97, 105, 108, 115, 32]⟩, .string ⟨#[115, 117, 98]⟩, .string ⟨#[99, 111, 110, 103, 114, 117, 101, 110, 99, 101]⟩, .string ⟨#[103, 101, 110, 101, 114, 97, 116, 101, 115]⟩, .string ⟨#[101, 110, 100, 111]⟩] 9)).cell? ⟨w0.heap.size, k', none⟩ = some (.string K) := by rw [← HK.out, hk']; exact kind_cell6 k hk1 hk6 w0
  have hksub : (k : Int) - 1 = (k' : Int) := by omega
  have hk0' : (0 : Int) ≤ (k' : Int) := by omega
  have hk6' : (k' : Int) < 6 := by omega
  have hkw : IntKind.i64.wrap (k' : Int) = (k' : Int) := IntWalk.i64_in _ (by omega)
  have cP0 := BP.cell 0
  have cP1 := BP.cell 1
  have cQ0 := BQ.cell 0
  have cQ1 := BQ.cell 1
  have cQ2 := BQ.cell 2
  have cQ3 := BQ.cell 3
  simp at cP0 cP1 cQ0 cQ1 cQ2 cQ3
  have dP0 := keepc hb01 cP0
  have dP1 := keepc hb01 cP1
  have dQ0 := keepc hb01 cQ0
  have dQ1 := keepc hb01 cQ1
  have dQ2 := keepc hb01 cQ2
  have dQ3 := keepc hb01 cQ3
  have lQ0 : (w0.alloc (.cells #[.string ⟨#[104, 111, 108, 100, 115, 32]⟩, .string ⟨#[102, 97, 105, 108, 115, 32]⟩, .string ⟨#[115, 117, 98]⟩, .string ⟨#[99, 111, 110, 103, 114, 117, 101, 110, 99, 101]⟩, .string ⟨#[103, 101, 110, 101, 114, 97, 116, 101, 115]⟩, .string ⟨#[101, 110, 100, 111]⟩] 9)).cell? ⟨w.heap.size + 1, 0, none⟩ = some (.int .i64 (k : Int)) := by rw [← hw1]; exact dQ0
  have zK : K.size ≤ 10 := by rw [← HK.out, size_mk]; exact kindB_len _
  have hKB : bs K = kindB (k : Int) := by rw [← HK.out]; rfl
  have HV := Lib.hid hin
  have HN8 : Hid (x.1.toNat ≤ 1000) := by show _ ≤ _; have := hx.2.1; omega
  have HVL := Lib.hid rV.len
  have HRV : Hid (∀ wz, Below w1.heap.size w1 wz → RdL RI wz AV nV V) := fun wz hz => ((rV.next stab_RI T0).next stab_RI hb01).next stab_RI hz
  have HT1 := Lib.hid T1
  obtain ⟨PRE, hPRE⟩ : ∃ P, P = kindB (k : Int) ++ eqB x.2 ((k : Int), (L, R), V) ++ colB ((k : Int), (L, R), V) := ⟨_, rfl⟩
  have HFT : Hid (ftB x.2 ((k : Int), (L, R), V) = PRE ++ numsB V) := by show _ = _; rw [hPRE]; rfl
  have HTM : Hid (k ≤ 2 → ∀ wz, Below w1.heap.size w1 wz → Calls Tryz.prog 41 #[.agg #[.int .i64 x.1, .slice B ol d], .slice AL nL cL] wz (Bl wz (.string (mk (txT x.2 L)))) ∧ Calls Tryz.prog 41 #[.agg #[.int .i64 x.1, .slice B ol d], .slice AR nR cR] wz (Bl wz (.string (mk (txT x.2 R))))) := fun hk2 wz hz => by
    obtain ⟨tL, tR⟩ := hterm (by omega)
    obtain ⟨l60, lE⟩ := term_end tL
    obtain ⟨r60, rE⟩ := term_end tR
    have ra := shAlgebra.stab (shAlgebra.stab (shAlgebra.stab hrd T0.block) hb01.block) hz.block
    exact ⟨l3Text_any x hx nL _ AL nL cL L wz (Nat.le_refl _) (by rw [← rL.len]; exact l60) hcL ra (((rL.next stab_RI T0).next stab_RI hb01).next stab_RI hz) lE, l3Text_any x hx nR _ AR nR cR R wz (Nat.le_refl _) (by rw [← rR.len]; exact r60) hcR ra (((rR.next stab_RI T0).next stab_RI hb01).next stab_RI hz) rE⟩
  have HZT : Hid (k ≤ 2 → (txT x.2 L).length ≤ 720 ∧ (txT x.2 R).length ≤ 720) := fun hk2 => ⟨txT_len hx (hterm (by omega)).1, txT_len hx (hterm (by omega)).2⟩
  have HPZ : Hid (PRE.length ≤ 1500) := by
    show _ ≤ _
    rw [hPRE, List.length_append, List.length_append]
    have h1 := kindB_len (k : Int)
    have h2 : (eqB x.2 ((k : Int), (L, R), V)).length ≤ 1441 := by
      unfold eqB
      split
      · rename_i hh
        have hz := HZT.out (by simp only at hh; omega)
        rw [List.length_append, List.length_append]
        simp only [List.length_singleton]
        omega
      · simp
    have h3 : (colB ((k : Int), (L, R), V)).length ≤ 1 := by unfold colB; split <;> simp
    omega
  have HZL := Lib.hid hPRE
  have HF1 : Hid (k = 1 → V = []) := fun e => hf1 (by rw [e]; rfl)
  rw [HFT.out]
  clear hw0 hw1 hsz0 hrd hrd' h h' rL rR rV hin hf hf1 hterm hV8 hx T0 hb01 T1 BP BQ hPRE hlo hhi hcap hcL hcR hk'
  have HCASE : k = 1 ∨ k = 2 ∨ 2 < k := by omega
  rcases HCASE with hk | hk | hk
  case' inl =>
    have hle : (k : Int) ≤ 2 := by omega
    have hne : ((k : Int) == 1) = true := by simp; omega
    obtain ⟨zL, zR⟩ := HZT.out (by omega)
    have HTM1 : Hid (∀ wz, Below w1.heap.size w1 wz → Calls Tryz.prog 41 #[.agg #[.int .i64 x.1, .slice B ol d], .slice AL nL cL] wz (Bl wz (.string (mk (txT x.2 L))))) := fun wz hz => (HTM.out (by omega) wz hz).1
    have HTM2 : Hid (∀ wz, Below w1.heap.size w1 wz → Calls Tryz.prog 41 #[.agg #[.int .i64 x.1, .slice B ol d], .slice AR nR cR] wz (Bl wz (.string (mk (txT x.2 R))))) := fun wz hz => (HTM.out (by omega) wz hz).2
    obtain ⟨TL, HTL⟩ : ∃ s, Hid (mk (txT x.2 L) = s) := ⟨_, rfl⟩
    obtain ⟨TR, HTR⟩ : ∃ s, Hid (mk (txT x.2 R) = s) := ⟨_, rfl⟩
    rw [HTL.out] at HTM1
    rw [HTR.out] at HTM2
    have zL' : TL.size ≤ 720 := by rw [← HTL.out, size_mk]; exact zL
    have zR' : TR.size ≤ 720 := by rw [← HTR.out, size_mk]; exact zR
    obtain ⟨S1, HS1, k1, y1⟩ := catx K TL _ _ zK zL' (by decide)
    obtain ⟨S2, HS2, k2, y2⟩ := catx S1 ⟨#[61]⟩ _ 1 y1 (by decide) (by decide)
    obtain ⟨S3, HS3, k3, y3⟩ := catx S2 TR _ _ y2 zR' (by decide)
    have HRES : Hid (bs S3 = PRE ++ numsB V) := by
      show _ = _
      rw [HF1.out hk, HZL.out, ← HS3.out, bs_app, ← HS2.out, bs_app, ← HS1.out, bs_app, hKB, ← HTL.out, ← HTR.out]
      unfold eqB colB
      rw [if_pos hle, if_pos (by omega), List.append_nil, numsB, List.append_nil]
      simp only [List.append_assoc]
      rfl
    have Tk : Below w1.heap.size w1 w1 := Below.refl _ _
    have HKK := Lib.hid hk
    clear hk zL zR
    go_enter Tryz.func22, Tryz.ntmps22
    go_upto_region 1 with fail
    rw [← HW.out]
    go_upto_region 3 with fail
    rw [← HW1.out]
    go_region_held3 (fun w' => w'.cell? ⟨w.heap.size, 0, none⟩ = some (.int .i64 x.1) ∧ w'.cell? ⟨w.heap.size, 1, none⟩ = some (.slice B ol d) ∧ w'.cell? ⟨w.heap.size + 1, 1, none⟩ = some (.slice AL nL cL) ∧ w'.cell? ⟨w.heap.size + 1, 2, none⟩ = some (.slice AR nR cR)) (first | go_keep | exact ⟨keepc Tk dP0, keepc Tk dP1, keepc Tk dQ1, keepc Tk dQ2⟩) (first | (go_at_call 41; (with_reducible refine (HTM1.out _ ?_).mono ?_); (first | exact Tk | exact Below.drew Tk); rintro e wn ⟨rfl, hbn⟩; replace Tk := below_next (by first | exact Tk | exact Below.drew Tk) hbn rfl) | (go_at_call 41; (with_reducible refine (HTM2.out _ ?_).mono ?_); (first | exact Tk | exact Below.drew Tk); rintro e wn ⟨rfl, hbn⟩; replace Tk := below_next (by first | exact Tk | exact Below.drew Tk) hbn rfl))
    all_goals
      have eQ0 := keepc Tk dQ0
      go_wp2_with fail
      go_ret
      exact ⟨mk_bs HRES.out, below_next HT1.out Tk rfl⟩
  case' inr.inl =>
    have hle : (k : Int) ≤ 2 := by omega
    have hne : ((k : Int) == 1) = false := by simp; omega
    obtain ⟨zL, zR⟩ := HZT.out (by omega)
    have HTM1 : Hid (∀ wz, Below w1.heap.size w1 wz → Calls Tryz.prog 41 #[.agg #[.int .i64 x.1, .slice B ol d], .slice AL nL cL] wz (Bl wz (.string (mk (txT x.2 L))))) := fun wz hz => (HTM.out (by omega) wz hz).1
    have HTM2 : Hid (∀ wz, Below w1.heap.size w1 wz → Calls Tryz.prog 41 #[.agg #[.int .i64 x.1, .slice B ol d], .slice AR nR cR] wz (Bl wz (.string (mk (txT x.2 R))))) := fun wz hz => (HTM.out (by omega) wz hz).2
    obtain ⟨TL, HTL⟩ : ∃ s, Hid (mk (txT x.2 L) = s) := ⟨_, rfl⟩
    obtain ⟨TR, HTR⟩ : ∃ s, Hid (mk (txT x.2 R) = s) := ⟨_, rfl⟩
    rw [HTL.out] at HTM1
    rw [HTR.out] at HTM2
    have zL' : TL.size ≤ 720 := by rw [← HTL.out, size_mk]; exact zL
    have zR' : TR.size ≤ 720 := by rw [← HTR.out, size_mk]; exact zR
    obtain ⟨S1, HS1, k1, y1⟩ := catx K TL _ _ zK zL' (by decide)
    obtain ⟨S2, HS2, k2, y2⟩ := catx S1 ⟨#[61]⟩ _ 1 y1 (by decide) (by decide)
    obtain ⟨S3, HS3, k3, y3⟩ := catx S2 TR _ _ y2 zR' (by decide)
    obtain ⟨S4, HS4, k4, y4⟩ := catx S3 ⟨#[58]⟩ _ 1 y3 (by decide) (by decide)
    have HPC : Hid (bs S4 = PRE) := by
      show _ = _
      rw [HZL.out, ← HS4.out, bs_app, ← HS3.out, bs_app, ← HS2.out, bs_app, ← HS1.out, bs_app, hKB, ← HTL.out, ← HTR.out]
      unfold eqB colB
      rw [if_pos hle, if_neg (by omega)]
      simp only [List.append_assoc]
      rfl
    have Tk : Below w1.heap.size w1 w1 := Below.refl _ _
    have HKK := Lib.hid hk
    clear hk zL zR
    go_enter Tryz.func22, Tryz.ntmps22
    go_upto_region 1 with fail
    rw [← HW.out]
    go_upto_region 3 with fail
    rw [← HW1.out]
    go_region_held3 (fun w' => w'.cell? ⟨w.heap.size, 0, none⟩ = some (.int .i64 x.1) ∧ w'.cell? ⟨w.heap.size, 1, none⟩ = some (.slice B ol d) ∧ w'.cell? ⟨w.heap.size + 1, 1, none⟩ = some (.slice AL nL cL) ∧ w'.cell? ⟨w.heap.size + 1, 2, none⟩ = some (.slice AR nR cR)) (first | go_keep | exact ⟨keepc Tk dP0, keepc Tk dP1, keepc Tk dQ1, keepc Tk dQ2⟩) (first | (go_at_call 41; (with_reducible refine (HTM1.out _ ?_).mono ?_); (first | exact Tk | exact Below.drew Tk); rintro e wn ⟨rfl, hbn⟩; replace Tk := below_next (by first | exact Tk | exact Below.drew Tk) hbn rfl) | (go_at_call 41; (with_reducible refine (HTM2.out _ ?_).mono ?_); (first | exact Tk | exact Below.drew Tk); rintro e wn ⟨rfl, hbn⟩; replace Tk := below_next (by first | exact Tk | exact Below.drew Tk) hbn rfl))
    all_goals
      have eQ0 := keepc Tk dQ0
      have eQ3 := keepc Tk dQ3
      go_upto_region 7 with fail
  case' inr.inr =>
    have hle : ¬ (k : Int) ≤ 2 := by omega
    have hne : ((k : Int) == 1) = false := by simp; omega
    obtain ⟨S4, HS4, k4, y4⟩ := catx K ⟨#[58]⟩ _ 1 zK (by decide) (by decide)
    have HPC : Hid (bs S4 = PRE) := by
      show _ = _
      rw [HZL.out, ← HS4.out, bs_app, hKB]
      unfold eqB colB
      rw [if_neg hle, if_neg (by omega), List.append_nil]
      rfl
    have Tk : Below w1.heap.size w1 w1 := Below.refl _ _
    have HKK := Lib.hid hk
    have eQ0 := dQ0
    have eQ3 := dQ3
    clear hk
    go_enter Tryz.func22, Tryz.ntmps22
    go_upto_region 1 with fail
    rw [← HW.out]
    go_upto_region 2 with fail
    rw [← HW1.out]
    go_upto_region 7 with fail
  all_goals
    have T5 := Tk
    clear HTM HZT HZL
    go_wp2_with fail
    go_loopw [5, 6] (fun s i wr => ∃ (q : Nat) (S : ByteArray), q ≤ nV ∧ i = .int .i64 (q : Int) ∧ s = .string S ∧ Hid (bs S = PRE ++ numsB (V.take q)) ∧ Below w1.heap.size w1 wr) (fun _ i _ => nV - (intOf i).toNat)
    case atStart => exact ⟨0, S4, Nat.zero_le _, rfl, rfl, (by show _ = _; rw [List.take_zero, numsB, List.append_nil]; exact HPC.out), T5⟩
    case round =>
      clear T5 eQ3 Tk
      obtain ⟨q, S, hq, rfl, rfl, HSq, hTq⟩ := hrel
      have fQ3 := keepc hTq dQ3
      have hlen : S.size ≤ 2000 := by
        have h1 := numsB_len HN8.out (V := V.take q) fun z hz => HV.out z (List.mem_of_mem_take hz)
        have h2 := HPZ.out
        rw [← bs_len, HSq.out, List.length_append]
        rw [List.length_take] at h1
        omega
      by_cases hlt : q < nV
      · have hq0 : (0 : Int) ≤ (q : Int) := by omega
        have hq1 : (q : Int) < (nV : Int) := by omega
        obtain ⟨bb, o, u, v, rfl, hc, ⟨rfl, hv0, hv1⟩, -, hxv⟩ := (HRV.out wr hTq).at hlt
        have hvi := HV.out v (List.mem_of_getElem? hxv)
        obtain ⟨y, rfl⟩ := Int.eq_ofNat_of_zero_le hvi.1
        have hyn : y < 1000 := by have := HN8.out; omega
        obtain ⟨Nm, HN⟩ : ∃ s, Hid (numS y = s) := ⟨_, rfl⟩
        have zN : Nm.size ≤ 6 := by rw [← HN.out]; exact numS_size (by omega)
        have HI : Hid (∀ wz, Calls Tryz.prog 23 #[.int .i64 (y : Int)] wz (Bl wz (.string Nm))) := fun wz => by
          have := bl_of_quiet (l1Num_any y (by omega) wz)
          rwa [show mk (Lib.decDigits y) = Nm from HN.out] at this
        obtain ⟨S5, HS5, k5, y5⟩ := catx S ⟨#[32]⟩ _ 1 hlen (by decide) (by decide)
        obtain ⟨S6, HS6, k6, y6⟩ := catx S5 Nm _ _ y5 zN (by decide)
        have HNX : Hid (bs S6 = PRE ++ numsB (V.take (q + 1))) := by
          show _ = _
          rw [List.take_add_one, hxv, numsB_app, ← HS6.out, bs_app, ← HS5.out, bs_app, HSq.out, ← HN.out]
          simp only [List.append_assoc]
          congr 1
          congr 1
          show _ = [32] ++ Lib.decDigits ((y : Int).toNat) ++ numsB []
          rw [Int.toNat_natCast, numsB, List.append_nil]
          rfl
        clear hxv hvi
        go_wp2_with fail
        refine (HI.out _).mono ?_
        rintro e w6 ⟨rfl, hb6⟩
        have T6 := below_next hTq hb6 rfl
        go_wp2_with fail
        go_roundw
        case rel => exact ⟨q + 1, S6, by omega, by go_num, rfl, HNX, T6⟩
        case measure => simp [intOf]; try omega
      · obtain rfl : q = nV := by omega
        have hq1 : ¬ (q : Int) < (q : Int) := by omega
        rw [List.take_of_length_le (by rw [HVL.out]; exact Nat.le_refl _)] at HSq
        go_wp2_with fail
        go_ret
        exact ⟨mk_bs HSq.out, below_next HT1.out hTq rfl⟩
noncomputable def ftM (x : LabM) (i : Int) : ByteArray × Bool := if labB x = true ∧ 0 ≤ i ∧ i < x.2.2.1.length then (mk (ftB x.2.1.2 (x.2.2.1.getD i.toNat (0, ([], []), []))), true) else (⟨#[]⟩, false)
theorem ftM_no {x : LabM} {i : Int} (h : ¬ (labB x = true ∧ 0 ≤ i ∧ i < x.2.2.1.length)) : ftM x i = (⟨#[]⟩, false) := if_neg h
/-- All facts of a lab are true. -/
theorem goFs_mem {x : AlgebraM} : ∀ {fs pre : List FactM}, goFs x pre fs = true → ∀ f ∈ fs, trueB x f = true
  | [], pre, h, f, hf => by cases hf
  | g :: fs, pre, h, f, hf => by
    rw [goFs, Bool.and_eq_true, Bool.and_eq_true] at h
    rcases List.mem_cons.1 hf with rfl | hf
    · exact h.1.1
    · exact goFs_mem h.2 f hf
theorem lab_facts {x : LabM} (h : labB x = true) : ∀ f ∈ x.2.2.1, trueB x.2.1 f = true ∧ AlgP x.2.1 := fun f hf => by
  obtain ⟨h0, h1, h12, ha⟩ := lab_parts h
  rcases e : x.1 with _ | _
  · rw [labB_shut h0 h1 e, Bool.and_eq_true, decide_eq_true_iff] at h
    have := List.length_eq_zero_iff.1 h.2
    rw [this] at hf
    cases hf
  · have hA := ha e
    rw [labB_open h0 h1 e, Bool.and_eq_true] at h
    exact ⟨goFs_mem h.2 f hf, hA⟩
end Go.Proofs.YtbonebpheimbaaaGreatDoor
namespace Go.Proofs.YtbonebpheimbaaaGreatDoor
open Go.RowKit

end Go.Proofs.YtbonebpheimbaaaGreatDoor
