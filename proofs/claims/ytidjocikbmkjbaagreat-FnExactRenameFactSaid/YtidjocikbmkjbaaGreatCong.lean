
/- Walks: is a partition a congruence (the program). -/
import Derived.Test.YtidjocikbmkjbaaGreatPar
import Derived.Test.YtidjocikbmkjbaaGreatHold
namespace Go.Proofs.YtidjocikbmkjbaaGreat
open Go.RowKit
set_option linter.unusedVariables false

/-- The elements that tell blocks, in the world. -/
noncomputable def fixW (w : World) (g n : Nat) : Nat := (List.range n).countP fun i => tt (w.cell? ⟨g, i, none⟩ = some (.int .i64 (i : Int)))
def flgV : Value → Nat | .bool true => 1 | _ => 0
theorem fixW_row {w : World} {base g n c : Nat} {p : List Int} (h : w.ownsRow base 3 1 (.slice (some ⟨g, 0, none⟩) n c) n (ints p)) (hp : ParP n p) : fixW w g n = fixs n p := by
  unfold fixW fixs
  rw [← List.countP_eq_length_filter]
  refine List.countP_congr fun i hi => ?_
  have hin := List.mem_range.1 hi
  rw [par_cell h (hp.at hin).1 hin, tt_iff, beq_iff_eq]
  constructor
  · intro e
    injection e with e
    injection e with _ e
    omega
  · intro e
    rw [e]
/-- Held together so far: of the operations below j, of the digits below k of the next one (from the right), of its entries below q at the next digit. -/
def PdD (n : Nat) (ops : List OpM) (p : List Int) (j k q : Nat) : Prop := (∀ j', j' < j → ∀ o, ops[j']? = some o → ∀ k', k' < o.1.toNat → ∀ i, i < o.2.length → PrE n p o i (o.1.toNat - 1 - k')) ∧ (∀ o, ops[j]? = some o → (∀ k', k' < k → k' < o.1.toNat → ∀ i, i < o.2.length → PrE n p o i (o.1.toNat - 1 - k')) ∧ (k < o.1.toNat → ∀ i, i < q → i < o.2.length → PrE n p o i (o.1.toNat - 1 - k)))
theorem PdD.start (n : Nat) (ops : List OpM) (p : List Int) : PdD n ops p 0 0 0 := ⟨fun j' h => absurd h (by omega), fun o _ => ⟨fun k' h => absurd h (by omega), fun _ i h => absurd h (by omega)⟩⟩
theorem PdD.entry {n : Nat} {ops : List OpM} {p : List Int} {j k q : Nat} {o : OpM} (h : PdD n ops p j k q) (ho : ops[j]? = some o) (he : PrE n p o q (o.1.toNat - 1 - k)) : PdD n ops p j k (q + 1) := ⟨h.1, fun o' ho' => by
  rw [ho] at ho'
  injection ho' with ho'
  subst ho'
  refine ⟨(h.2 _ ho).1, fun hk i hi hil => ?_⟩
  by_cases e : i = q
  · subst e; exact he
  · exact (h.2 _ ho).2 hk i (by omega) hil⟩
theorem PdD.digit {n : Nat} {ops : List OpM} {p : List Int} {j k q : Nat} {o : OpM} (h : PdD n ops p j k q) (ho : ops[j]? = some o) (hq : ¬ q < o.2.length) : PdD n ops p j (k + 1) 0 := ⟨h.1, fun o' ho' => by
  rw [ho] at ho'
  injection ho' with ho'
  subst ho'
  refine ⟨fun k' hk' hka i hi => ?_, fun _ i hi => absurd hi (by omega)⟩
  by_cases e : k' = k
  · subst e; exact (h.2 _ ho).2 hka i (by omega) hi
  · exact (h.2 _ ho).1 k' (by omega) hka i hi⟩
theorem PdD.op {n : Nat} {ops : List OpM} {p : List Int} {j k q : Nat} {o : OpM} (h : PdD n ops p j k q) (ho : ops[j]? = some o) (hk : ¬ k < o.1.toNat) : PdD n ops p (j + 1) 0 0 := ⟨fun j' hj' o' ho' k' hk' i hi => by
  by_cases e : j' = j
  · subst e
    rw [ho] at ho'
    injection ho' with ho'
    subst ho'
    exact (h.2 _ ho).1 k' (by omega) hk' i hi
  · exact h.1 j' (by omega) o' ho' k' hk' i hi, fun o' _ => ⟨fun k' h => absurd h (by omega), fun _ i h => absurd h (by omega)⟩⟩
theorem PdD.done {n : Nat} {ops : List OpM} {p : List Int} {j k q : Nat} (h : PdD n ops p j k q) (hj : ¬ j < ops.length) : CompP n ops p := fun o ho d hd i hi => by
  obtain ⟨j', hj'⟩ := List.getElem?_of_mem ho
  have := (List.getElem?_eq_some_iff.1 hj').1
  have := h.1 j' (by omega) o hj' (o.1.toNat - 1 - d) (by omega) i hi
  rwa [show o.1.toNat - 1 - (o.1.toNat - 1 - d) = d by omega] at this
/-- The rounds: P0 the partition handed in, Ps that of the round's beginning, P now. -/
structure CgI (n : Nat) (ops : List OpM) (p0 ps p : List Int) (was ch : Bool) (j k q : Nat) : Prop where
  par : ParP n p
  yes : was = true → ¬ CompP n ops p0
  no : was = false → p = p0 ∧ ch = false ∧ PdD n ops p0 j k q
  less : ch = true → fixs n p < fixs n ps
  same : ch = false → p = ps
theorem CgI.mv {n : Nat} {ops : List OpM} {p0 ps p : List Int} {was ch : Bool} {j k q j' k' q' : Nat} (h : CgI n ops p0 ps p was ch j k q) (hd : PdD n ops p0 j k q → PdD n ops p0 j' k' q') : CgI n ops p0 ps p was ch j' k' q' := ⟨h.par, h.yes, fun hw => ⟨(h.no hw).1, (h.no hw).2.1, hd (h.no hw).2.2⟩, h.less, h.same⟩
/-- Two elements that must be held together, and are not: put together. -/
theorem CgI.join {n : Nat} {ops : List OpM} {p0 ps p : List Int} {was ch : Bool} {j k q x y : Nat} {o : OpM} (h : CgI n ops p0 ps p was ch j k q) (ho : ops[j]? = some o) (hk : k < o.1.toNat) (hq : q < o.2.length) (hx : nmAt o.2 q = x) (hy : nmAt o.2 (repI n o.1.toNat p q (o.1.toNat - 1 - k)) = y) (hxn : x < n) (hyn : y < n) (hne : nmAt p x ≠ nmAt p y) : CgI n ops p0 ps (uniL p x y) true true j k (q + 1) := by
  refine ⟨uni_par h.par hxn hyn, fun _ hc => ?_, fun h => (by cases h), fun _ => ?_, fun h => (by cases h)⟩
  · rcases was with _ | _
    · have hp := (h.no rfl).1
      subst hp
      have := hc o (List.mem_of_getElem? ho) (o.1.toNat - 1 - k) (by omega) q hq
      unfold PrE at this
      rw [hx, hy] at this
      exact hne this
    · exact h.yes rfl hc
  · have h1 := uni_fixs h.par hxn hyn hne
    rcases ch with _ | _
    · rw [← h.same rfl]; exact h1
    · have := h.less rfl; omega
theorem CgI.keep {n : Nat} {ops : List OpM} {p0 ps p : List Int} {was ch : Bool} {j k q x y : Nat} {o : OpM} (h : CgI n ops p0 ps p was ch j k q) (ho : ops[j]? = some o) (hx : nmAt o.2 q = x) (hy : nmAt o.2 (repI n o.1.toNat p q (o.1.toNat - 1 - k)) = y) (he : nmAt p x = nmAt p y) : CgI n ops p0 ps (uniL p x y) was ch j k (q + 1) := by
  rw [uni_same he]
  refine ⟨h.par, h.yes, fun hw => ⟨(h.no hw).1, (h.no hw).2.1, (h.no hw).2.2.entry ho ?_⟩, h.less, h.same⟩
  have hp := (h.no hw).1
  subst hp
  unfold PrE
  rw [hx, hy, he]
theorem CgI.begin_ {n : Nat} {ops : List OpM} {p0 p : List Int} {was : Bool} (hp : ParP n p) (hy : was = true → ¬ CompP n ops p0) (hn : was = false → p = p0) : CgI n ops p0 p p was false 0 0 0 := ⟨hp, hy, fun hw => ⟨hn hw, rfl, PdD.start _ _ _⟩, fun h => (by cases h), fun _ => rfl⟩
set_option maxRecDepth 20000 in
set_option maxHeartbeats 8000000 in
theorem closePartition_any (cs : List Value) (x : AlgebraM) (g n c base : Nat) (p0 : List Int) (wa w : World) (h : shAlgebra.rd wa cs x) (hx : AlgP x) (hn : x.1 = (n : Int)) (hT : Below wa.heap.size wa w) (hba : wa.heap.size ≤ base) (hown : w.ownsRow base 3 1 (.slice (some ⟨g, 0, none⟩) n c) n (ints p0)) (hp0 : ParP n p0) :
    Calls Tryz.prog 91 #[.agg cs.toArray, .slice (some ⟨g, 0, none⟩) n c] w fun e w' => e = .returned (.bool (!(tt (CompP n x.2 p0)))) ∧ w.grownBy w' (some g) := by
  obtain ⟨a, ops⟩ := x
  obtain ⟨hx1, hx2, hx3, hx4⟩ := hx
  simp only at hx1 hx2 hx3 hx4 hn
  subst hn
  rw [Int.toNat_natCast] at hx4
  have hn0 : 0 < n := by omega
  have hn8 : n ≤ 8 := by omega
  obtain ⟨B, m, d, rfl, -, qo⟩ := rdAlgebra h
  have HML := Lib.hid qo.len
  have HOPS := Lib.hid hx4
  have hm4 : m ≤ 4 := by rw [← qo.len]; exact hx3
  have hgl := hown.lt g rfl
  obtain ⟨w0, hw0, T0, hsz0, BP⟩ := boxes1 w #[.int .i64 (n : Int), .slice B m d] 39
  have HW0 := Lib.hid hw0
  have hown0 := own_next hown T0
  have HB := Lib.hid hba
  have hgw : (some w.heap.size) ≠ some g := fun e => by injection e with e; omega
  have HT0 : Hid (w.grownBy w0 (some g)) := gk_of T0
  have HTA : Hid (∀ wz, w0.grownBy wz (some g) → Below wa.heap.size wa wz) := fun wz hz => (below_next hT T0 rfl).grown hz (Nat.le_trans hT.size T0.size) fun k hk => by injection hk with hk; subst hk; exact Nat.le_trans hba hgl.1
  have HBP : Hid (∀ wz, w0.grownBy wz (some g) → wz.cell? ⟨w.heap.size, 0, none⟩ = some (.int .i64 (n : Int)) ∧ wz.cell? ⟨w.heap.size, 1, none⟩ = some (.slice B m d)) := fun wz hz => by
    have := BP.grown hz hgw
    have h0 := this.cell 0
    have h1 := this.cell 1
    simp at h0 h1
    exact ⟨h0, h1⟩
  have HP0 := Lib.hid hp0
  clear hw0 hsz0 hown hx3 hx4 h hT hba hp0
  go_enter Tryz.func91, Tryz.ntmps91
  go_upto_region 1 with fail
  rw [← HW0.out]
  go_wp2_with fail
  go_loopw [5, 6] (fun s1 s2 wr => ∃ (p : List Int) (was ch : Bool), s1 = .bool was ∧ s2 = .bool ch ∧ Hid (ParP n p) ∧ Hid (was = true → ¬ CompP n ops p0) ∧ Hid (was = false → p = p0 ∧ (ch = false → CompP n ops p0)) ∧ wr.ownsRow base 3 1 (.slice (some ⟨g, 0, none⟩) n c) n (ints p) ∧ w0.grownBy wr (some g)) (fun _ s2 wr => 2 * fixW wr g n + flgV s2)
  case atStart =>
    have h1 : Hid (false = true → ¬ CompP n ops p0) := fun h => (by cases h)
    have h2 : Hid (false = false → p0 = p0 ∧ (true = false → CompP n ops p0)) := fun _ => ⟨rfl, fun h => (by cases h)⟩
    exact ⟨p0, false, true, rfl, rfl, HP0, h1, h2, hown0, gk_refl _ _⟩
  case round =>
    clear hown0
    obtain ⟨ps, was, ch, rfl, rfl, HP, HY, HN, hown, hG⟩ := hrel
    have HMS : Hid (fixW wr g n = fixs n ps) := fixW_row hown HP.out
    rcases ch with _ | _
    · have HD : Hid (was = !(tt (CompP n ops p0))) := by
        show _ = _
        rcases was with _ | _
        · rw [← tt_true ((HN.out rfl).2 rfl)]; rfl
        · rw [← tt_false (HY.out rfl)]; rfl
      go_wp2_with fail
      go_ret
      exact ⟨ret_bool (by rw [← HD.out]), gk_trans HT0.out hG⟩
    · have kP1 := (HBP.out _ hG).2
      have HI0 : Hid (CgI n ops p0 ps ps was false 0 0 0) := CgI.begin_ HP.out HY.out fun h => (HN.out h).1
      obtain ⟨ws, HWS⟩ : ∃ ws : World, ws = wr := ⟨_, rfl⟩
      subst HWS
      clear HP HY HN
      go_wp2_with fail
      clear kP1
      go_loopw [5, 6, 18] (fun s1 s2 i wr => ∃ (j : Nat) (p : List Int) (was ch : Bool), j ≤ m ∧ i = .int .i64 j ∧ s1 = .bool was ∧ s2 = .bool ch ∧ Hid (CgI n ops p0 ps p was ch j 0 0) ∧ wr.ownsRow base 3 1 (.slice (some ⟨g, 0, none⟩) n c) n (ints p) ∧ w0.grownBy wr (some g)) (fun _ _ i _ => m - (intOf i).toNat)
      case atStart => exact ⟨0, ps, was, false, Nat.zero_le _, rfl, rfl, rfl, HI0, hown, hG⟩
      case round =>
        clear hown hG HI0
        obtain ⟨j, p, was, ch, hj, rfl, rfl, rfl, HI, hown, hG⟩ := hrel
        by_cases hlt : j < m
        · have hj0 : (0 : Int) ≤ (j : Int) := by omega
          have hj1 : (j : Int) < (m : Int) := by omega
          obtain ⟨b, o, vs, op, rfl, -, hc, hr, -, hxo⟩ := qo.at hlt
          obtain ⟨B', m', d', rfl, -, qt⟩ := rdOp hr
          have hoP := HOPS.out op (List.mem_of_getElem? hxo)
          obtain ⟨ar, tb, rfl, har⟩ := op_nat hoP
          have HXO := Lib.hid hxo
          have HTL : Hid (m' = n ^ ar) := by show _ = _; rw [← qt.len]; have := hoP.2.2.1; simpa using this
          have HTB : Hid (tb.length = m') := qt.len
          have HTV := Lib.hid hoP.2.2.2
          have cc0' : wr.cell? ⟨b, o + j * 2, none⟩ = some (.int .i64 (ar : Int)) := keepc (HTA.out _ hG) (hc 0 _ rfl)
          have cc1' : wr.cell? ⟨b, o + j * 2 + 1, none⟩ = some (.slice B' m' d') := keepc (HTA.out _ hG) (hc 1 _ rfl)
          have hm512 : m' ≤ 4096 := by rw [HTL.out]; exact pow_bd hn8 (by omega)
          obtain ⟨w1, hw1, T1, hsz1, BX⟩ := boxes1 wr #[.int .i64 (ar : Int), .slice B' m' d'] 67
          have HW1 := Lib.hid hw1
          have hg1 := (hown.lt g rfl)
          have hG1 : w0.grownBy w1 (some g) := gk_trans hG (gk_of T1)
          have hown1 := own_next hown T1
          have hgx : (some wr.heap.size) ≠ some g := fun e => by injection e with e; omega
          have HBX : Hid (∀ wz, w1.grownBy wz (some g) → wz.cell? ⟨wr.heap.size, 0, none⟩ = some (.int .i64 (ar : Int)) ∧ wz.cell? ⟨wr.heap.size, 1, none⟩ = some (.slice B' m' d')) := fun wz hz => by
            have := BX.grown hz hgx
            have h0 := this.cell 0
            have h1 := this.cell 1
            simp at h0 h1
            exact ⟨h0, h1⟩
          clear hc hr hw1 hsz1 hxo hown hoP
          go_wp2_with fail
          rw [← HW1.out]
          clear cc0' cc1'
          go_wp2_with fail
          go_loopw [5, 6, 9, 10] (fun s1 s2 st kk wi => ∃ (k t : Nat) (p : List Int) (was ch : Bool), k ≤ ar ∧ kk = .int .i64 k ∧ st = .int .i64 t ∧ Hid (t = n ^ k) ∧ s1 = .bool was ∧ s2 = .bool ch ∧ Hid (CgI n ops p0 ps p was ch j k 0) ∧ wi.ownsRow base 3 1 (.slice (some ⟨g, 0, none⟩) n c) n (ints p) ∧ w1.grownBy wi (some g)) (fun _ _ _ kk _ => ar - (intOf kk).toNat)
          case atStart => exact ⟨0, 1, p, was, ch, Nat.zero_le _, rfl, rfl, (by show _ = _; rw [Nat.pow_zero]), rfl, rfl, HI, hown1, gk_refl _ _⟩
          case round =>
            clear hown1 HI
            obtain ⟨k, t, p, was, ch, hk, rfl, rfl, HTT, rfl, rfl, HI, hown, hG2⟩ := hrel
            have ht4 : t ≤ 4096 := by rw [HTT.out]; exact pow_bd hn8 (by omega)
            have ht0 : 0 < t := by rw [HTT.out]; exact Nat.pow_pos hn0
            have hG3 : w0.grownBy wr (some g) := gk_trans hG1 hG2
            have kX0 := (HBX.out _ hG2).1
            have kX1 := (HBX.out _ hG2).2
            have kP0 := (HBP.out _ hG3).1
            by_cases hlk : k < ar
            · have hk0 : (0 : Int) ≤ (k : Int) := by omega
              have hk1 : (k : Int) < (ar : Int) := by omega
              go_wp2_with fail
              clear kX0 kX1 kP0
              go_loopw [5, 6, 31] (fun s1 s2 i wi => ∃ (q : Nat) (p : List Int) (was ch : Bool), q ≤ m' ∧ i = .int .i64 q ∧ s1 = .bool was ∧ s2 = .bool ch ∧ Hid (CgI n ops p0 ps p was ch j k q) ∧ wi.ownsRow base 3 1 (.slice (some ⟨g, 0, none⟩) n c) n (ints p) ∧ w1.grownBy wi (some g)) (fun _ _ i _ => m' - (intOf i).toNat)
              case atStart => exact ⟨0, p, was, ch, Nat.zero_le _, rfl, rfl, rfl, HI, hown, hG2⟩
              case round =>
                clear hown HI hG2 hG3
                obtain ⟨q, p, was, ch, hq, rfl, rfl, rfl, HI, hown, hG2⟩ := hrel
                have hG3 : w0.grownBy wr (some g) := gk_trans hG1 hG2
                have kX0 := (HBX.out _ hG2).1
                have kX1 := (HBX.out _ hG2).2
                have kP0 := (HBP.out _ hG3).1
                by_cases hlq : q < m'
                · have hq0 : (0 : Int) ≤ (q : Int) := by omega
                  have hq1 : (q : Int) < (m' : Int) := by omega
                  obtain ⟨b3, o3, u3, v, rfl, hc3, ⟨rfl, -, -⟩, -, hxv⟩ := (qt.next stab_RI (HTA.out _ hG3)).at hlq
                  have hvi := HTV.out v (List.mem_of_getElem? hxv)
                  obtain ⟨y1, rfl⟩ := Int.eq_ofNat_of_zero_le hvi.1
                  have hy1n : y1 < n := by omega
                  have HY1 : Hid (nmAt tb q = y1) := by show _ = _; rw [nmAt_get hxv]; simp
                  obtain ⟨D, HD⟩ : ∃ D, Hid (q / t = D) := ⟨_, rfl⟩
                  obtain ⟨X, HX⟩ : ∃ X, Hid (D % n = X) := ⟨_, rfl⟩
                  have hXn : X < n := by rw [← HX.out]; exact Nat.mod_lt _ hn0
                  have hDq : D ≤ 4096 := by rw [← HD.out]; exact Nat.le_trans (Nat.div_le_self _ _) (by omega)
                  have hpX := HI.out.par.at hXn
                  obtain ⟨pX, HPX⟩ : ∃ z, Hid (nmAt p X = z) := ⟨_, rfl⟩
                  rw [HPX.out] at hpX
                  have hcX := par_cell hown hpX.1 hXn
                  obtain ⟨RP, HRP⟩ : ∃ z, Hid (repI n ar p q (ar - 1 - k) = z) := ⟨_, rfl⟩
                  have hRPm : RP < m' := by rw [← HRP.out, HTL.out]; exact repI_lt hn0 HI.out.par
                  have hrep := rep_prog (k := ar) (q := k) (i := q) (p := p) hn0 hlk (by rw [← HTL.out]; exact hlq)
                  rw [HRP.out, ← HTT.out, HD.out, HX.out, HPX.out] at hrep
                  obtain ⟨u4, v4, hc4, ⟨rfl, -, -⟩, -, hxv4⟩ := (qt.next stab_RI (HTA.out _ hG3)).at' hRPm
                  have hvi4 := HTV.out v4 (List.mem_of_getElem? hxv4)
                  obtain ⟨y2, rfl⟩ := Int.eq_ofNat_of_zero_le hvi4.1
                  have hy2n : y2 < n := by omega
                  have HY2 : Hid (nmAt tb (repI n ar p q (ar - 1 - k)) = y2) := by show _ = _; rw [HRP.out, nmAt_get hxv4]; simp
                  have htz : ¬ (t : Int) = 0 := by omega
                  have hnz : ¬ (n : Int) = 0 := by omega
                  have f1 : (q : Int) / (t : Int) = (D : Int) := by rw [← HD.out]; simp
                  have f2 : (q : Int).tdiv (t : Int) = (D : Int) := by rw [← HD.out]; exact Int.ofNat_tdiv q t ▸ rfl
                  have f3 : IntKind.i64.wrap (D : Int) = (D : Int) := by rw [IntKind.wrap_i64]; omega
                  have f4 : (D : Int).tmod (n : Int) = (X : Int) := by rw [← HX.out]; rfl
                  have f5 : (D : Int) % (n : Int) = (X : Int) := by rw [← HX.out]; simp
                  have hX0 : (0 : Int) ≤ (X : Int) := by omega
                  have hX1 : (X : Int) < (n : Int) := by omega
                  have hR0 : (0 : Int) ≤ (RP : Int) := by omega
                  have hR1 : (RP : Int) < (m' : Int) := by omega
                  have er : (q : Int) + ((pX : Int) - (X : Int)) * (t : Int) = (RP : Int) := hrep.symm
                  have ew1 : IntKind.i64.wrap ((pX : Int) - (X : Int)) = (pX : Int) - (X : Int) := by rw [IntKind.wrap_i64]; omega
                  have ew2 : IntKind.i64.wrap (((pX : Int) - (X : Int)) * (t : Int)) = ((pX : Int) - (X : Int)) * (t : Int) := by
                    have e1 : ((pX : Int) - (X : Int)) * (t : Int) = (RP : Int) - (q : Int) := by omega
                    rw [e1, IntKind.wrap_i64]
                    omega
                  have ew3 : IntKind.i64.wrap (RP : Int) = (RP : Int) := by rw [IntKind.wrap_i64]; omega
                  have HU := Lib.hid fun (wz : World) (ho : wz.ownsRow base 3 1 (.slice (some ⟨g, 0, none⟩) n c) n (ints p)) => unite_any g n c base p y1 y2 wz ho HI.out.par hy1n hy2n (by omega)
                  clear hxv hvi hxv4 hvi4 hrep hpX
                  go_wp2_with fail
                  go_quiet (fail)
                  go_wp2_with fail
                  clear f1 f2 f4 f5
                  go_region_law (first
                    | (go_simp; go_at_call 106; (with_reducible refine (HU.out _ ?_).mono ?_); (exact hown); rintro e wu ⟨rfl, hou, hgu⟩))
                  all_goals
                    have hG4 : w1.grownBy wu (some g) := (by first | exact gk_trans hG2 hgu | exact gk_trans (gk_drewN hG2 _) hgu)
                    have HOU := Lib.hid hou
                    clear hou hgu
                    by_cases heq : nmAt p y1 = nmAt p y2
                    · have HI2 : Hid (CgI n ops p0 ps (uniL p y1 y2) was ch j k (q + 1)) := HI.out.keep HXO.out HY1.out (by simpa using HY2.out) heq
                      have hd : decide (nmAt p y1 = nmAt p y2) = true := decide_eq_true heq
                      rw [hd]
                      clear heq hd
                      go_wp2_with fail
                      go_roundw
                      case rel => exact ⟨q + 1, _, was, ch, by omega, by go_num, rfl, rfl, HI2, HOU.out, hG4⟩
                      case measure => simp [intOf]; try omega
                    · have HI2 : Hid (CgI n ops p0 ps (uniL p y1 y2) true true j k (q + 1)) := HI.out.join HXO.out (by simpa using hlk) (by have := HTB.out; simp only; omega) HY1.out (by simpa using HY2.out) hy1n hy2n heq
                      have hd : decide (nmAt p y1 = nmAt p y2) = false := decide_eq_false heq
                      rw [hd]
                      clear heq hd
                      go_wp2_with fail
                      go_roundw
                      case rel => exact ⟨q + 1, _, true, true, by omega, by go_num, rfl, rfl, HI2, HOU.out, hG4⟩
                      case measure => simp [intOf]; try omega
                · have hq1 : ¬ (q : Int) < (m' : Int) := by omega
                  have HI2 : Hid (CgI n ops p0 ps p was ch j (k + 1) 0) := HI.out.mv fun h => h.digit HXO.out (by have := HTB.out; simp only; omega)
                  have hM : t * n ≤ 4096 * 8 := Nat.mul_le_mul ht4 hn8
                  have hm0 : (0 : Int) ≤ (t : Int) * (n : Int) := by rw [← Int.natCast_mul]; omega
                  have hm1 : (t : Int) * (n : Int) ≤ 32768 := by rw [← Int.natCast_mul]; omega
                  have HE : Hid ((t : Int) * (n : Int) = ((t * n : Nat) : Int)) := (Int.natCast_mul _ _).symm
                  have HT2 : Hid (t * n = n ^ (k + 1)) := by show _ = _; rw [HTT.out, Nat.pow_succ]
                  clear hM kX1
                  go_wp2_with fail
                  go_roundw
                  case rel => exact ⟨k + 1, t * n, p, was, ch, by omega, by go_num, by rw [HE.out], HT2, rfl, rfl, HI2, hown, hG2⟩
                  case measure => simp [intOf]; try omega
            · have hk1 : ¬ (k : Int) < (ar : Int) := by omega
              have HI2 : Hid (CgI n ops p0 ps p was ch (j + 1) 0 0) := HI.out.mv fun h => h.op HXO.out (by simp; omega)
              clear kX1 kP0
              go_wp2_with fail
              go_roundw
              case rel => exact ⟨j + 1, p, was, ch, by omega, by go_num, rfl, rfl, HI2, hown, hG3⟩
              case measure => simp [intOf]; try omega
        · have hj1 : ¬ (j : Int) < (m : Int) := by omega
          have HF1 : Hid (was = true → ¬ CompP n ops p0) := HI.out.yes
          have HF2 : Hid (was = false → p = p0 ∧ (ch = false → CompP n ops p0)) := fun h => ⟨(HI.out.no h).1, fun _ => (HI.out.no h).2.2.done (by rw [HML.out]; exact hlt)⟩
          have HPP : Hid (ParP n p) := HI.out.par
          have HMS2 : Hid (fixW wr g n = fixs n p) := fixW_row hown HI.out.par
          go_wp2_with fail
          go_roundw
          case rel => exact ⟨p, was, ch, rfl, rfl, HPP, HF1, HF2, hown, hG⟩
          case measure =>
            show 2 * fixW wr g n + flgV (.bool ch) < 2 * fixW _ g n + flgV (.bool true)
            rw [HMS2.out, HMS.out]
            rcases ch with _ | _
            · rw [HI.out.same rfl]
              show 2 * fixs n ps + 0 < 2 * fixs n ps + 1
              omega
            · have := HI.out.less rfl
              show 2 * fixs n p + 1 < 2 * fixs n ps + 1
              omega
end Go.Proofs.YtidjocikbmkjbaaGreat
namespace Go.Proofs.YtidjocikbmkjbaaGreat
open Go.RowKit
set_option linter.unusedVariables false

set_option maxRecDepth 20000 in
set_option maxHeartbeats 4000000 in
theorem isCongruence_any (cs : List Value) (x : AlgebraM) (A : Option Addr) (m c : Nat) (p : List Int) (w : World) (h : shAlgebra.rd w cs x) (hx : AlgP x) (hr : RdL RI w A m p) :
    Calls Tryz.prog 60 #[.agg cs.toArray, .slice A m c] w (Bl w (.bool (congB x.1.toNat x.2 p))) := by
  have hrd := h
  obtain ⟨B, k, d, rfl, -, qo⟩ := rdAlgebra h
  obtain ⟨n, hN⟩ : ∃ n : Nat, x.1 = (n : Int) := ⟨x.1.toNat, by have := hx.1; omega⟩
  have HNN := Lib.hid hN
  have hn8 : n ≤ 8 := by have := hx.2.1; omega
  have hn0 : 0 < n := by have := hx.1; omega
  have HNT : Hid (x.1.toNat = n) := by show _ = _; omega
  obtain ⟨w0, hw0, T0, hsz0, BP⟩ := boxes1 w #[.int .i64 x.1, .slice B k d] 39
  have HW0 := Lib.hid hw0
  have HRD := Lib.hid (shAlgebra.stab hrd T0.block)
  rw [hN] at HW0 BP
  have cP0 := BP.cell 0
  have cP1 := BP.cell 1
  simp at cP0 cP1
  have HX := Lib.hid hx
  have r0 := hr.next stab_RI T0
  have HLN := Lib.hid hr.len
  have HI : Hid (∀ wz, Below w0.heap.size w0 wz → Calls Tryz.prog 90 #[.int .i64 (n : Int), .slice A m c] wz (Qt wz (.bool (tt (ParP n p))))) := fun wz hz => quiet_same (isPartition_any A n m c p wz (r0.next stab_RI hz) (by omega))
  rw [HNT.out]
  rw [hN]
  clear hw0 hsz0 hrd qo h hx hr hN
  rcases hb : tt (ParP n p) with _ | _
  · rw [hb] at HI
    have HR : Hid (congB n x.2 p = false) := by show _ = _; unfold congB; rw [hb]; rfl
    clear hb
    go_enter Tryz.func60, Tryz.ntmps60
    go_upto_region 1 with fail
    rw [← HW0.out]
    go_quiet ((go_at_call 90; first | exact quiet_one (HI.out _ (by first | exact Below.refl _ _ | exact below_drewN (Below.refl _ _) _)) | exact quiet_add (HI.out _ (by first | exact Below.refl _ _ | exact below_drewN (Below.refl _ _) _))))
    go_wp2_with fail
    go_ret
    exact ⟨ret_bool HR.out.symm, (by first | exact T0 | exact below_drewN (T0) _ | exact below_drewN (below_drewN (T0) _) _ | exact below_drewN (below_drewN (below_drewN (T0) _) _) _)⟩
  · rw [hb] at HI
    have hp := tt_iff.1 hb
    have hmn : m = n := by rw [← HLN.out]; exact hp.1
    subst hmn
    have HP := Lib.hid hp
    have HR : Hid (congB m x.2 p = tt (CompP m x.2 p)) := by show _ = _; unfold congB; rw [hb]; rfl
    obtain ⟨cb, HCB⟩ : ∃ z, Hid (tt (CompP m x.2 p) = z) := ⟨_, rfl⟩
    have HCL : Hid (∀ wz, Below w0.heap.size w0 wz → Calls Tryz.prog 92 #[.slice A m c] wz fun e w' => ∃ A' c', e = .returned (.slice A' m c') ∧ w'.ownsRow wz.heap.size 3 1 (.slice A' m c') m (ints p) ∧ Below wz.heap.size wz w') := fun wz hz => clone_any A m c p wz (r0.next stab_RI hz) (by omega)
    have HCP : Hid (∀ (g c2 : Nat) (wz : World), Below w0.heap.size w0 wz → wz.ownsRow w0.heap.size 3 1 (.slice (some ⟨g, 0, none⟩) m c2) m (ints p) → Calls Tryz.prog 91 #[.agg #[.int .i64 (m : Int), .slice B k d], .slice (some ⟨g, 0, none⟩) m c2] wz fun e w' => e = .returned (.bool (!cb)) ∧ wz.grownBy w' (some g)) := fun g c2 wz hz ho => by
      have := closePartition_any _ x g m c2 w0.heap.size p w0 wz HRD.out HX.out HNN.out hz (Nat.le_refl _) ho HP.out
      rw [HNN.out, HCB.out] at this
      exact this
    have Tk : Below w0.heap.size w0 w0 := Below.refl _ _
    clear hb hp
    go_enter Tryz.func60, Tryz.ntmps60
    go_upto_region 1 with fail
    rw [← HW0.out]
    go_region_law (first
      | (go_simp; go_at_call 90; (with_reducible refine (HI.out _ ?_).mono ?_); (first | exact Tk | exact below_drewN Tk _); rintro e wa ⟨rfl, za, rfl⟩)
      | (go_simp; go_at_call 92; (with_reducible refine (HCL.out _ ?_).mono ?_); (first | exact Tk | exact below_drewN Tk _); rintro e wb ⟨A5, c5, rfl, ho5, hb5⟩; replace ho5 := own_mono (base' := w0.heap.size) ho5 (by exact Tk.size); replace Tk := below_next (by first | exact Tk | exact below_drewN Tk _) hb5 rfl; obtain ⟨g5, rfl, -, -⟩ := own_form ho5 hn0; have cQ0 := keepc Tk cP0; have cQ1 := keepc Tk cP1)
      | (go_simp; go_at_call 91; (refine (HCP.out g5 c5 _ ?_ ?_).mono ?_); (first | exact Tk | exact below_drewN Tk _); (exact ho5); rintro e wc ⟨rfl, hgc⟩; replace Tk := Below.grown (by first | exact Tk | exact below_drewN Tk _) hgc (by exact Tk.size) (fun r hr => by injection hr with hr; subst hr; exact (ho5.lt _ rfl).1)))
    all_goals
      go_wp2_with fail
      go_ret
      exact ⟨ret_bool (by rw [HR.out, HCB.out]; try simp), below_next T0 (by first | exact Tk | exact below_drewN Tk _) rfl⟩
end Go.Proofs.YtidjocikbmkjbaaGreat
