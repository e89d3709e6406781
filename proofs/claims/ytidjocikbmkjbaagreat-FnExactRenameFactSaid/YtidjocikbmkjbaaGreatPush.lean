
/- Walks: is a partition a congruence (the reference). -/
import Derived.Test.YtidjocikbmkjbaaGreatPar
import Derived.Test.YtidjocikbmkjbaaGreatHold
import Derived.Test.YtidjocikbmkjbaaGreatEval
namespace Go.Proofs.YtidjocikbmkjbaaGreat
open Go.RowKit
set_option linter.unusedVariables false

theorem nats_atX {l : List Nat} {k d : Nat} (h : l[k]? = some d) : (nats l)[k]? = some (d : Int) := by simp [nats, h]
theorem nats_setX (l : List Nat) (p v : Nat) : (nats l).set p (v : Int) = nats (l.set p v) := by simp [nats, List.map_set]
/-- Held together so far: of the operations below j, of the entries below q of the next one, of the digits below d of the next entry. -/
def PhD (n : Nat) (ops : List OpM) (p : List Int) (j q d : Nat) : Prop := (∀ j', j' < j → ∀ o, ops[j']? = some o → ∀ i, i < o.2.length → ∀ d', d' < o.1.toNat → PrE n p o i d') ∧ (∀ o, ops[j]? = some o → (∀ i, i < q → i < o.2.length → ∀ d', d' < o.1.toNat → PrE n p o i d') ∧ (∀ d', d' < d → d' < o.1.toNat → PrE n p o q d'))
theorem PhD.start (n : Nat) (ops : List OpM) (p : List Int) : True ↔ PhD n ops p 0 0 0 := ⟨fun _ => ⟨fun j' h => absurd h (by omega), fun o _ => ⟨fun i h => absurd h (by omega), fun d' h => absurd h (by omega)⟩⟩, fun _ => trivial⟩
theorem PhD.pair {n : Nat} {ops : List OpM} {p : List Int} {j q d : Nat} {o : OpM} (ho : ops[j]? = some o) (hd : d < o.1.toNat) : (PhD n ops p j q d ∧ PrE n p o q d) ↔ PhD n ops p j q (d + 1) := by
  constructor
  · rintro ⟨⟨h1, h2⟩, he⟩
    refine ⟨h1, fun o' ho' => ?_⟩
    rw [ho] at ho'
    injection ho' with ho'
    subst ho'
    refine ⟨(h2 _ ho).1, fun d' h' ha => ?_⟩
    by_cases e : d' = d
    · subst e; exact he
    · exact (h2 _ ho).2 d' (by omega) ha
  · rintro ⟨h1, h2⟩
    exact ⟨⟨h1, fun o' ho' => ⟨(h2 o' ho').1, fun d' h' ha => (h2 o' ho').2 d' (by omega) ha⟩⟩, (h2 o ho).2 d (by omega) hd⟩
theorem PhD.entry {n : Nat} {ops : List OpM} {p : List Int} {j q d : Nat} {o : OpM} (ho : ops[j]? = some o) (hd : ¬ d < o.1.toNat) (hq : q < o.2.length) : PhD n ops p j q d ↔ PhD n ops p j (q + 1) 0 := by
  constructor
  · rintro ⟨h1, h2⟩
    refine ⟨h1, fun o' ho' => ⟨fun i hi hil d' hd' => ?_, fun d' h => absurd h (by omega)⟩⟩
    rw [ho] at ho'
    injection ho' with ho'
    subst ho'
    by_cases e : i = q
    · subst e; exact (h2 _ ho).2 d' (by omega) hd'
    · exact (h2 _ ho).1 i (by omega) hil d' hd'
  · rintro ⟨h1, h2⟩
    refine ⟨h1, fun o' ho' => ⟨fun i hi hil => (h2 o' ho').1 i (by omega) hil, fun d' h' ha => ?_⟩⟩
    rw [ho] at ho'
    injection ho' with ho'
    subst ho'
    exact (h2 _ ho).1 q (by omega) hq d' ha
theorem PhD.op {n : Nat} {ops : List OpM} {p : List Int} {j q : Nat} {o : OpM} (ho : ops[j]? = some o) (hq : ¬ q < o.2.length) : PhD n ops p j q 0 ↔ PhD n ops p (j + 1) 0 0 := by
  constructor
  · rintro ⟨h1, h2⟩
    refine ⟨fun j' hj' o' ho' i hi d' hd' => ?_, fun o' _ => ⟨fun i h => absurd h (by omega), fun d' h => absurd h (by omega)⟩⟩
    by_cases e : j' = j
    · subst e; exact (h2 o' ho').1 i (by rw [ho] at ho'; injection ho' with ho'; subst ho'; omega) hi d' hd'
    · exact h1 j' (by omega) o' ho' i hi d' hd'
  · rintro ⟨h1, h2⟩
    exact ⟨fun j' hj' => h1 j' (by omega), fun o' ho' => ⟨fun i _ hil d' hd' => h1 j (by omega) o' ho' i hil d' hd', fun d' h => absurd h (by omega)⟩⟩
theorem PhD.done {n : Nat} {ops : List OpM} {p : List Int} {j : Nat} (hj : ¬ j < ops.length) : PhD n ops p j 0 0 ↔ CompP n ops p := by
  constructor
  · rintro ⟨h1, -⟩ o ho d hd i hi
    obtain ⟨j', hj'⟩ := List.getElem?_of_mem ho
    have := (List.getElem?_eq_some_iff.1 hj').1
    exact h1 j' (by omega) o hj' i hi d hd
  · intro h
    refine ⟨fun j' _ o ho i hi d hd => h o (List.mem_of_getElem? ho) d hd i hi, fun o ho => ?_⟩
    have := (List.getElem?_eq_some_iff.1 ho).1
    omega
set_option maxRecDepth 20000 in
set_option maxHeartbeats 8000000 in
theorem l6Push_any (cs : List Value) (x : AlgebraM) (A : Option Addr) (n c : Nat) (p : List Int) (w : World) (h : shAlgebra.rd w cs x) (hx : AlgP x) (hn : x.1 = (n : Int)) (hr : RdL RI w A n p) (hp : ParP n p) :
    Calls Tryz.prog 79 #[.agg cs.toArray, .slice A n c] w fun e w' => ∃ A' c' P, e = .returned (.slice A' n c') ∧ RdL RI w' A' n P ∧ PuI n p P (CompP n x.2 p) ∧ Below w.heap.size w w' := by
  have hrd := h
  obtain ⟨a, ops⟩ := x
  have hxx := hx
  obtain ⟨hx1, hx2, hx3, hx4⟩ := hx
  simp only at hx1 hx2 hx3 hx4 hn
  subst hn
  rw [Int.toNat_natCast] at hx4
  have hn0 : 0 < n := by omega
  have hn8 : n ≤ 8 := by omega
  obtain ⟨B, m, d, rfl, -, qo⟩ := rdAlgebra h
  have HML := Lib.hid qo.len
  have HOPS := Lib.hid hx4
  have hm4 : m ≤ 4 := by rw [← qo.len]; exact hx3
  have HP := Lib.hid hp
  obtain ⟨w0, hw0, T0, hsz0, BP⟩ := boxes1 w #[.int .i64 (n : Int), .slice B m d] 39
  have HW0 := Lib.hid hw0
  have HRD : Hid (∀ wz, Below w0.heap.size w0 wz → shAlgebra.rd wz [.int .i64 (n : Int), .slice B m d] ((n : Int), ops)) := fun wz hz => shAlgebra.stab (shAlgebra.stab hrd T0.block) hz.block
  replace qo := qo.next T0
  have r0 := hr.next stab_RI T0
  have cP0 := BP.cell 0
  have cP1 := BP.cell 1
  simp at cP0 cP1
  have HOWN := Lib.hid (l1Own_any A n c p w0 r0 (by omega))
  have HPB := Lib.hid hr.bounds
  clear hw0 hsz0 hx3 hx4 h hr hrd hxx hp
  go_enter Tryz.func79, Tryz.ntmps79
  go_upto_region 1 with fail
  rw [← HW0.out]
  go_wp2_with fail
  refine HOWN.out.mono ?_
  rintro e w1 ⟨A5, c5, rfl, ho5, T1⟩
  have r5 := rd_of_own (R := RI) ho5 (RI_ints HPB.out)
  clear ho5
  go_wp2_with fail
  go_loopw [5, 6] (fun s i wr => ∃ (j : Nat) (A5 : Option Addr) (c5 : Nat) (P : List Int), j ≤ m ∧ i = .int .i64 j ∧ s = .slice A5 n c5 ∧ RdL RI wr A5 n P ∧ Hid (PuI n p P (PhD n ops p j 0 0)) ∧ Below w0.heap.size w0 wr) (fun _ i _ => m - (intOf i).toNat)
  case atStart => exact ⟨0, A5, c5, p, Nat.zero_le _, rfl, rfl, r5, (PuI.start HP.out).congr (PhD.start _ _ _), T1⟩
  case round =>
    clear r5 T1
    obtain ⟨j, A5, c5, P, hj, rfl, rfl, r5, HI, hTr⟩ := hrel
    have kP1 := keepc hTr cP1
    by_cases hlt : j < m
    · have hj0 : (0 : Int) ≤ (j : Int) := by omega
      have hj1 : (j : Int) < (m : Int) := by omega
      obtain ⟨b, o, vs, op, rfl, -, hc, hrr, -, hxo⟩ := qo.at hlt
      obtain ⟨B', m', d', rfl, -, qt⟩ := rdOp hrr
      have hoP := HOPS.out op (List.mem_of_getElem? hxo)
      obtain ⟨ar, tb, rfl, har⟩ := op_nat hoP
      have HXO := Lib.hid hxo
      have HTL : Hid (m' = n ^ ar) := by show _ = _; rw [← qt.len]; have := hoP.2.2.1; simpa using this
      have HTB : Hid (tb.length = m') := qt.len
      have HTV := Lib.hid hoP.2.2.2
      have hm512 : m' ≤ 4096 := by rw [HTL.out]; exact pow_bd hn8 (by omega)
      have cc0 : w0.cell? ⟨b, o + j * 2, none⟩ = some (.int .i64 (ar : Int)) := hc 0 _ rfl
      have cc1 : w0.cell? ⟨b, o + j * 2 + 1, none⟩ = some (.slice B' m' d') := hc 1 _ rfl
      clear hc hrr hxo hoP
      go_wp2_with fail
      clear kP1
      go_loopw [5, 7] (fun s i wr => ∃ (q : Nat) (A5 : Option Addr) (c5 : Nat) (P : List Int), q ≤ m' ∧ i = .int .i64 q ∧ s = .slice A5 n c5 ∧ RdL RI wr A5 n P ∧ Hid (PuI n p P (PhD n ops p j q 0)) ∧ Below w0.heap.size w0 wr) (fun _ i _ => m' - (intOf i).toNat)
      case atStart => exact ⟨0, A5, c5, P, Nat.zero_le _, rfl, rfl, r5, HI, hTr⟩
      case round =>
        clear r5 HI hTr
        obtain ⟨q, A5, c5, P, hq, rfl, rfl, r5, HI, hTr⟩ := hrel
        have kP0 := keepc hTr cP0
        have kP1 := keepc hTr cP1
        have kc0 := keepc hTr cc0
        have kc1 := keepc hTr cc1
        by_cases hlq : q < m'
        · have hq0 : (0 : Int) ≤ (q : Int) := by omega
          have hq1 : (q : Int) < (m' : Int) := by omega
          have HA : Hid (∀ wz, Below wr.heap.size wr wz → Calls Tryz.prog 101 #[.int .i64 (n : Int), .int .i64 (ar : Int), .int .i64 (q : Int)] wz fun e w' => ∃ g, e = .returned (.slice (some ⟨g, 0, none⟩) ar ar) ∧ w'.ownsRow wz.heap.size 3 1 (.slice (some ⟨g, 0, none⟩) ar ar) ar (ints (nats (digs n ar q))) ∧ Below wz.heap.size wz w') := fun wz hz => l2Args_any q ar n wz hn0 (by omega) (by omega) (by omega)
          have Tk : Below wr.heap.size wr wr := Below.refl _ _
          go_upto_region 8 with fail
          go_cut [8] from 31 to 73 (fun u8 wx => ∃ g, u8 = .slice (some ⟨g, 0, none⟩) ar ar ∧ wx.ownsRow wr.heap.size 3 1 (.slice (some ⟨g, 0, none⟩) ar ar) ar (ints (nats (digs n ar q))) ∧ Below wr.heap.size wr wx)
          case first =>
            go_region_held3 (fun w' => w'.cell? ⟨w.heap.size, 0, none⟩ = some (.int .i64 (n : Int)) ∧ w'.cell? ⟨w.heap.size, 1, none⟩ = some (.slice (some ⟨b, o, none⟩) m d) ∧ w'.cell? ⟨b, o + j * 2, none⟩ = some (.int .i64 (ar : Int))) (first | go_keep | exact ⟨keepc Tk kP0, keepc Tk kP1, keepc Tk kc0⟩) (first
              | (go_at_call 101; (with_reducible refine (HA.out _ ?_).mono ?_); (first | exact Tk | exact Below.drew Tk); rintro e wn ⟨g, rfl, hon, hbn⟩; replace Tk := below_next (by first | exact Tk | exact Below.drew Tk) hbn rfl))
            all_goals
              have HON := Lib.hid hon
              clear hon
              go_wp2_with fail
              go_meet
              exact ⟨g, rfl, HON.out, by first | exact Tk | exact Below.drew Tk⟩
          case rest =>
            obtain ⟨g, rfl, hoA, hTc⟩ := hcut
            obtain ⟨w4, HWC⟩ : ∃ wq : World, wq = wc := ⟨_, rfl⟩
            subst HWC
            have T4 := below_next hTr hTc rfl
            obtain ⟨ds, HDS⟩ : ∃ l, Hid (digs n ar q = l) := ⟨_, rfl⟩
            have HDN : Hid (∀ dd ∈ ds, dd < n) := fun dd hdd => by rw [← HDS.out] at hdd; exact digs_lt hn0 hdd
            have HDL : Hid (ds.length = ar) := by show _ = _; rw [← HDS.out, digs_len]
            rw [HDS.out] at hoA
            have rA := rd_of_own (R := RI) hoA (RI_ints fun v hv => by
              obtain ⟨dd, hdd, rfl⟩ := List.mem_map.1 hv
              have := HDN.out dd hdd
              omega)
            have r54 := r5.next stab_RI hTc
            clear kP0 kP1 kc0 kc1 hoA r5
            go_wp2_with fail
            go_loopw [5, 9] (fun s i wr => ∃ (k : Nat) (A5 : Option Addr) (c5 : Nat) (P : List Int), k ≤ ar ∧ i = .int .i64 k ∧ s = .slice A5 n c5 ∧ RdL RI wr A5 n P ∧ Hid (PuI n p P (PhD n ops p j q k)) ∧ Below w4.heap.size w4 wr) (fun _ i _ => ar - (intOf i).toNat)
            case atStart => exact ⟨0, A5, c5, P, Nat.zero_le _, rfl, rfl, r54, HI, Below.refl _ _⟩
            case round =>
              clear r54 HI
              obtain ⟨k, A5, c5, P, hk, rfl, rfl, r5, HI, hTk⟩ := hrel
              have TT := below_next T4 hTk rfl
              have kP0 := keepc TT cP0
              have kP1 := keepc TT cP1
              have kc1 := keepc TT cc1
              by_cases hlk : k < ar
              · have hk0 : (0 : Int) ≤ (k : Int) := by omega
                have hk1 : (k : Int) < (ar : Int) := by omega
                have rA2 := rA.next stab_RI hTk
                have HOW := Lib.hid (l1Own_any (some ⟨g, 0, none⟩) ar ar (nats ds) wr rA2 (by omega))
                go_wp2_with fail
                refine HOW.out.mono ?_
                rintro e w6 ⟨A7, c7, rfl, ho7, hb7⟩
                obtain ⟨g7, rfl, hg7, -⟩ := own_form ho7 (by omega)
                have hpl : k < ds.length := by rw [HDL.out]; exact hlk
                have hdp : ds[k]? = some ds[k] := List.getElem?_eq_getElem hpl
                have hdn := HDN.out _ (List.getElem_mem hpl)
                generalize ds[k] = dd at hdp hdn
                have T6 := below_next TT hb7 rfl
                obtain ⟨u1, z1, hcd, ⟨rfl, -, -⟩, -, hxd⟩ := (rA2.next stab_RI hb7).at' hlk
                rw [nats_atX hdp] at hxd
                rw [Nat.zero_add] at hcd
                injection hxd with hxd
                subst hxd
                have hpd := HP.out.at hdn
                obtain ⟨bp, op', u2, z2, rfl, hcp, ⟨rfl, -, -⟩, -, hxp⟩ := (r0.next stab_RI T6).at hdn
                rw [hpd.1] at hxp
                injection hxp with hxp
                subst hxp
                obtain ⟨pd, HPD⟩ : ∃ z, Hid (nmAt p dd = z) := ⟨_, rfl⟩
                have hpdn : pd < n := by rw [← HPD.out]; exact par_lt HP.out hdn
                rw [HPD.out] at hcp
                have hd0 : (0 : Int) ≤ (dd : Int) := by omega
                have hd1 : (dd : Int) < (n : Int) := by omega
                have hc7 : ∃ u, w6.cell? ⟨g7, k, none⟩ = some u := ⟨_, (ho7.cellAt k (by omega)).trans (List.getElem?_eq_getElem (by rw [ints_len, nats_len]; omega))⟩
                obtain ⟨u7, hc7⟩ := hc7
                have hfz := ho7.frozenAt k
                have hst := (ho7.stored k (.int .i64 (pd : Int))).1
                rw [ints_set, nats_setX] at hst
                obtain ⟨l7, HL7⟩ : ∃ l, Hid (ds.set k pd = l) := ⟨_, rfl⟩
                rw [HL7.out] at hst
                have HL7N : Hid (∀ z ∈ l7, z < n) := fun z hz => by
                  rw [← HL7.out] at hz
                  rcases List.mem_or_eq_of_mem_set hz with hz | rfl
                  · exact HDN.out z hz
                  · exact hpdn
                have HREP : Hid (idx n l7 = repI n ar p q k) := by
                  show _ = _
                  unfold repI
                  rw [HDS.out, List.getD_eq_getElem?_getD, hdp, ← HL7.out]
                  show _ = idx n (ds.set k (nmAt p dd))
                  rw [HPD.out]
                have hrd7 : RdL RI (w6.setCell ⟨g7, k, none⟩ (.int .i64 (pd : Int))) (some ⟨g7, 0, none⟩) ar (nats l7) := rd_of_own (R := RI) hst (RI_ints fun v hv => by
                  obtain ⟨z, hz, rfl⟩ := List.mem_map.1 hv
                  have := HL7N.out z hz
                  omega)
                obtain ⟨w7, HW7⟩ : ∃ w7, Hid (w7 = w6.setCell ⟨g7, k, none⟩ (.int .i64 (pd : Int))) := ⟨_, rfl⟩
                have hb67 : Below wr.heap.size wr w7 := by rw [HW7.out]; exact hb7.setCell hg7 _
                rw [← HW7.out] at hrd7
                have T7 := below_next TT hb67 rfl
                have r57 := r5.next stab_RI hb67
                -- the two elements
                obtain ⟨b3, o3, u3, v3, rfl, hc3, ⟨rfl, -, -⟩, -, hxv⟩ := (qt.next stab_RI T7).at hlq
                have hvi := HTV.out v3 (List.mem_of_getElem? hxv)
                obtain ⟨y1, rfl⟩ := Int.eq_ofNat_of_zero_le hvi.1
                have hy1n : y1 < n := by omega
                have HY1 : Hid (nmAt tb q = y1) := by show _ = _; rw [nmAt_get hxv]; simp
                have hRPm : repI n ar p q k < tb.length := by rw [HTB.out, HTL.out]; exact repI_lt hn0 HP.out
                have hvi4 := HTV.out _ (List.getElem_mem hRPm)
                have hx4 : tb[repI n ar p q k]? = some tb[repI n ar p q k] := List.getElem?_eq_getElem hRPm
                generalize tb[repI n ar p q k] = v4 at hvi4 hx4
                obtain ⟨y2, rfl⟩ := Int.eq_ofNat_of_zero_le hvi4.1
                have hy2n : y2 < n := by omega
                have HY2 : Hid (nmAt tb (repI n ar p q k) = y2) := by show _ = _; rw [nmAt_get hx4]; simp
                have HX4 := Lib.hid hx4
                have HV2 : Hid (∀ wz, Below w7.heap.size w7 wz → Calls Tryz.prog 102 #[.agg #[.int .i64 (n : Int), .slice (some ⟨b, o, none⟩) m d], .int .i64 (j : Int), .slice (some ⟨g7, 0, none⟩) ar c7] wz (Bl wz (.int .i64 (y2 : Int)))) := fun wz hz => l2Value_any _ ((n : Int), ops) (some ⟨g7, 0, none⟩) ar c7 j n ar y2 l7 tb wz (HRD.out wz (below_next T7 hz rfl)) rfl hn8 (hrd7.next stab_RI hz) HL7N.out (by omega) HXO.out (by rw [HREP.out]; exact HX4.out)
                have HUN : Hid (∀ wz, Below w7.heap.size w7 wz → Calls Tryz.prog 103 #[.slice A5 n c5, .int .i64 (y1 : Int), .int .i64 (y2 : Int)] wz fun e w' => ∃ A' c', e = .returned (.slice A' n c') ∧ w'.ownsRow wz.heap.size 3 1 (.slice A' n c') n (ints (uniL P y1 y2)) ∧ Below wz.heap.size wz w') := fun wz hz => l6Unite_any A5 n c5 P y1 y2 wz (r57.next stab_RI hz) HI.out.par hy1n hy2n (by omega)
                have HI2 : Hid (PuI n p (uniL P y1 y2) (PhD n ops p j q (k + 1))) := (HI.out.next HP.out hy1n hy2n).congr (by
                  rw [← PhD.pair HXO.out (by simpa using hlk)]
                  unfold PrE
                  simp only [Int.toNat_natCast]
                  rw [HY1.out, HY2.out])
                have HUP : Hid (ParP n (uniL P y1 y2)) := HI2.out.par
                have jP0 := keepc T7 cP0
                have jP1 := keepc T7 cP1
                have jc1 := keepc T7 cc1
                have Tk : Below w7.heap.size w7 w7 := Below.refl _ _
                clear hst hxv hvi hx4 hvi4 hRPm hdp kP0 kc1 kP1 r5
                go_upto_region 14 with fail
                rw [← HW7.out]
                go_region_held3 (fun w' => w'.cell? ⟨w.heap.size, 0, none⟩ = some (.int .i64 (n : Int)) ∧ w'.cell? ⟨w.heap.size, 1, none⟩ = some (.slice (some ⟨b, o, none⟩) m d) ∧ w'.cell? ⟨b, o + j * 2 + 1, none⟩ = some (.slice (some ⟨b3, o3, none⟩) m' d') ∧ w'.cell? ⟨b3, o3 + q, none⟩ = some (.int .i64 (y1 : Int))) (first | go_keep | exact ⟨keepc Tk jP0, keepc Tk jP1, keepc Tk jc1, keepc Tk hc3⟩) (first
                  | (go_at_call 102; (with_reducible refine (HV2.out _ ?_).mono ?_); (first | exact Tk | exact Below.drew Tk); rintro e wn ⟨rfl, hbn⟩; replace Tk := below_next (by first | exact Tk | exact Below.drew Tk) hbn rfl)
                  | (go_at_call 103; (with_reducible refine (HUN.out _ ?_).mono ?_); (first | exact Tk | exact Below.drew Tk); rintro e wn ⟨A8, c8, rfl, hon, hbn⟩; replace hon := own_mono (base' := w7.heap.size) hon (by exact Tk.size); replace Tk := below_next (by first | exact Tk | exact Below.drew Tk) hbn rfl))
                all_goals
                  have T8 : Below w7.heap.size w7 _ := (by first | exact Tk | exact Below.drew Tk)
                  have r8 := rd_of_own (R := RI) hon (RI_ints fun v hv => by
                    obtain ⟨i, hi⟩ := List.getElem?_of_mem hv
                    have hil : i < n := by rw [← HUP.out.1]; exact (List.getElem?_eq_some_iff.1 hi).1
                    have h1 := HUP.out.at hil
                    rw [h1.1] at hi
                    injection hi with hi
                    omega)
                  clear hon hrd7
                  go_wp2_with fail
                  go_roundw
                  case rel => exact ⟨k + 1, A8, c8, _, by omega, by go_num, rfl, r8, HI2, below_next hTk (below_next hb67 T8 rfl) rfl⟩
                  case measure => simp [intOf]; try omega
              · have hk1 : ¬ (k : Int) < (ar : Int) := by omega
                have HI2 : Hid (PuI n p P (PhD n ops p j (q + 1) 0)) := HI.out.congr (PhD.entry HXO.out (by simpa using hlk) (by have := HTB.out; simp only; omega))
                clear kP0 kP1 kc1
                go_wp2_with fail
                go_roundw
                case rel => exact ⟨q + 1, A5, c5, P, by omega, by go_num, rfl, r5, HI2, TT⟩
                case measure => simp [intOf]; try omega
        · have hq1 : ¬ (q : Int) < (m' : Int) := by omega
          have HI2 : Hid (PuI n p P (PhD n ops p (j + 1) 0 0)) := HI.out.congr (PhD.op HXO.out (by have := HTB.out; simp only; omega))
          go_wp2_with fail
          go_roundw
          case rel => exact ⟨j + 1, A5, c5, P, by omega, by go_num, rfl, r5, HI2, hTr⟩
          case measure => simp [intOf]; try omega
    · have hj1 : ¬ (j : Int) < (m : Int) := by omega
      have HI2 : Hid (PuI n p P (CompP n ops p)) := HI.out.congr (PhD.done (by rw [HML.out]; exact hlt))
      go_wp2_with fail
      go_ret
      exact ⟨A5, ⟨c5, rfl⟩, P, r5, HI2.out, below_next T0 hTr rfl⟩
end Go.Proofs.YtidjocikbmkjbaaGreat
