
/- Walks: what some elements generate (the program). -/
import Derived.Test.YtidjocikbmkjbaaGreatBl
import Derived.Test.YtidjocikbmkjbaaGreatEval
import Derived.Test.YtidjocikbmkjbaaGreatList
import Derived.Test.YtidjocikbmkjbaaGreatHold
namespace Go.Proofs.YtidjocikbmkjbaaGreat
open Go.RowKit
set_option linter.unusedVariables false

theorem gk_set {w w' : World} {g : Nat} (h : w.grownBy w' (some g)) {p : Addr} (hp : p.block = g) (v : Value) : w.grownBy (w'.setCell p v) (some g) :=
  ⟨h.os, h.tape, h.output, by simpa using h.size, fun k hk hne => (Below.heap_setCell w' p v k (by intro he; rw [he, hp] at hne; exact hne rfl)).trans (h.block k hk hne)⟩
theorem gk_refl (w : World) (r : Option Nat) : w.grownBy w r := ⟨rfl, rfl, rfl, Nat.le_refl _, fun _ _ _ => rfl⟩
theorem gk_trans {w w1 w2 : World} {r : Option Nat} (h : w.grownBy w1 r) (k : w1.grownBy w2 r) : w.grownBy w2 r :=
  ⟨k.os.trans h.os, k.tape.trans h.tape, k.output.trans h.output, Nat.le_trans h.size k.size, fun b hb hne => (k.block b (Nat.lt_of_lt_of_le hb h.size) hne).trans (h.block b hb hne)⟩
theorem gk_of {w w' : World} {r : Option Nat} (h : Below w.heap.size w w') : w.grownBy w' r := ⟨h.os, h.tape, h.output, h.size, fun b hb _ => h.block b hb⟩
theorem gk_drewN {w w' : World} {r : Option Nat} (h : w.grownBy w' r) (z : Nat) : w.grownBy (w'.drewN z) r := ⟨h.os, h.tape, h.output, h.size, fun b hb hne => h.block b hb hne⟩
theorem inL_get {n y : Nat} {S : List Int} (h : y < n) : gB (inL n S) y = hasI (y : Int) S := by
  refine gB_get ?_
  unfold inL
  rw [List.getElem?_map, List.getElem?_range h]
  rfl
theorem inL_set {n k x : Nat} {S : List Int} (hx : S[k]? = some (x : Int)) (hxn : x < n) : (inL n (S.take k)).set x true = inL n (S.take (k + 1)) := by
  refine gB_ext (n := n) (by rw [List.length_set, inL_len]) (inL_len _ _) fun y hy => ?_
  rw [gB_set (by rw [inL_len]; exact hxn), inL_get hy, inL_get hy, List.take_add_one, hx]
  rw [Bool.eq_iff_iff]
  by_cases e : y = x
  · subst e; simp [hasI_m]
  · rw [if_neg e, hasI_m, hasI_m, List.mem_append]
    constructor
    · exact .inl
    · rintro (h | h)
      · exact h
      · simp at h; omega
set_option maxHeartbeats 2000000 in
theorem marks_any (A : Option Addr) (m c n : Nat) (S : List Int) (w : World) (h : RdL RI w A m S) (hS : ∀ v ∈ S, 0 ≤ v ∧ v ≤ (n : Int) - 1) (hn : n ≤ 1000) :
    Calls Tryz.prog 95 #[.slice A m c, .int .i64 n] w fun e w' => e = .returned (.slice (some ⟨w.heap.size, 0, none⟩) n n) ∧ w'.ownsRow w.heap.size 4 1 (.slice (some ⟨w.heap.size, 0, none⟩) n n) n (bls (inL n S)) ∧ Below w.heap.size w w' := by
  have HS := Lib.hid hS
  have HL := Lib.hid h.len
  have hle := h.le
  clear hS
  go_enter Tryz.func95, Tryz.ntmps95
  go_wp2_with (at_make; refine make_bl w rfl _ _ rfl n rfl rfl (by omega) ?_; intro w1 hown1 hg1)
  have hb1 := (Below.refl w.heap.size w).grown hg1 (Nat.le_refl _) (by simp)
  clear hg1
  go_loopw [12] (fun i wr => ∃ k : Nat, k ≤ m ∧ i = .int .i64 k ∧ wr.ownsRow w.heap.size 4 1 (.slice (some ⟨w.heap.size, 0, none⟩) n n) n (bls (inL n (S.take k))) ∧ Below w.heap.size w wr) (fun i _ => m - (intOf i).toNat)
  case atStart =>
    refine ⟨0, Nat.zero_le _, rfl, ?_, hb1⟩
    have e : inL n (S.take 0) = List.replicate n false := by
      unfold inL
      rw [List.take_zero]
      exact List.eq_replicate_iff.2 ⟨by simp, fun b hb => by obtain ⟨y, -, rfl⟩ := List.mem_map.1 hb; rfl⟩
    rw [e]
    exact hown1
  case round =>
    clear hown1 hb1
    obtain ⟨k, hk, rfl, hown, hTr⟩ := hrel
    by_cases hlt : k < m
    · have hk0 : (0 : Int) ≤ (k : Int) := by omega
      have hk1 : (k : Int) < (m : Int) := by omega
      obtain ⟨b, o, u, v, rfl, hc, ⟨rfl, hv0, hv1⟩, -, hx⟩ := h.at hlt
      have hvi := HS.out v (List.mem_of_getElem? hx)
      obtain ⟨x, rfl⟩ := Int.eq_ofNat_of_zero_le hvi.1
      have hxn : x < n := by omega
      have HSET := Lib.hid (inL_set hx hxn)
      replace hc := keepc hTr hc
      have hcell : wr.cell? ⟨w.heap.size, x, none⟩ = some (.bool (gB (inL n (S.take k)) x)) := by rw [hown.cellAt x (by omega), bls_get (by rw [inL_len]; exact hxn)]
      have hfz := hown.frozenAt x
      have hst := (hown.stored x (.bool true)).1
      rw [bls_set, HSET.out] at hst
      have hx0 : (0 : Int) ≤ (x : Int) := by omega
      have hx1 : (x : Int) < (n : Int) := by omega
      clear hx hown
      go_wp2_with fail
      go_roundw
      case rel => exact ⟨k + 1, by omega, by go_num, hst, hTr.setCell (Nat.le_refl _) _⟩
      case measure => simp [intOf]; try omega
    · have hk1 : ¬ (k : Int) < (m : Int) := by omega
      rw [List.take_of_length_le (by rw [HL.out]; omega)] at hown
      go_wp2_with fail
      go_ret
      exact ⟨rfl, hown, hTr⟩
set_option maxHeartbeats 2000000 in
theorem allIn_any (A : Option Addr) (n c ar i : Nat) (L : List Bool) (w : World) (h : RdL RB w A n L) (hn0 : 0 < n) (hn : n ≤ 1000) (ha : ar ≤ 1000) (hi : i ≤ 1048576) :
    Calls Tryz.prog 107 #[.int .i64 i, .int .i64 ar, .int .i64 n, .slice A n c] w fun e w' => e = .returned (.bool (AllM n ar i L)) ∧ w = w' := by
  have hle := h.le
  go_enter Tryz.func107, Tryz.ntmps107
  go_wp2
  go_loop [0, 1] (fun ci ck => ∃ k cur : Nat, k ≤ ar ∧ ck = .int .i64 k ∧ ci = .int .i64 cur ∧ cur ≤ 1048576 ∧ Hid (AllM n k cur L = AllM n ar i L)) (fun _ ck => (intOf ck).toNat)
  case atStart => exact ⟨ar, i, Nat.le_refl _, rfl, rfl, hi, rfl⟩
  case round =>
    obtain ⟨k, cur, hk, rfl, rfl, hc, HA⟩ := hrel
    rcases k with _ | k
    · have h0 : ¬ (0 : Int) < ((0 : Nat) : Int) := by omega
      have HR : Hid (AllM n ar i L = true) := by show _ = _; rw [← HA.out]; rfl
      go_wp2
      go_ret
      exact ⟨ret_bool HR.out.symm, rfl⟩
    · have h0 : (0 : Int) < ((k + 1 : Nat) : Int) := by omega
      have hr : cur % n < n := Nat.mod_lt _ hn0
      obtain ⟨b, o, u, v, rfl, hcc, rfl, -, hx⟩ := h.at hr
      have HE : Hid (AllM n (k + 1) cur L = (AllM n k (cur / n) L && v)) := by
        show _ = _
        unfold AllM
        rw [digs, List.all_append, ← gB_get hx]
        simp
      have hnz : ¬ (n : Int) = 0 := by omega
      have hcd : cur / n ≤ 1048576 := Nat.le_trans (Nat.div_le_self _ _) hc
      have HQ : Hid (wrap64 ((cur : Int) / (n : Int)) = ((cur / n : Nat) : Int)) := by
        show _ = _
        have e : (cur : Int) / (n : Int) = ((cur / n : Nat) : Int) := by simp
        rw [e]
        exact w64 hcd
      have hr0 : (0 : Int) ≤ ((cur % n : Nat) : Int) := by omega
      have hr1 : ((cur % n : Nat) : Int) < (n : Int) := by omega
      clear hx
      rcases v with _ | _
      · go_wp2
        go_ret
        exact ⟨ret_bool (by rw [← HA.out, HE.out, Bool.and_false]), rfl⟩
      · go_wp2
        go_round
        case rel => exact ⟨k, cur / n, by omega, by go_num, by rw [HQ.out], hcd, by show _ = _; rw [← HA.out, HE.out, Bool.and_true]⟩
        case measure => simp [intOf]; try omega
end Go.Proofs.YtidjocikbmkjbaaGreat
namespace Go.Proofs.YtidjocikbmkjbaaGreat
open Go.RowKit
set_option linter.unusedVariables false

/-- What is not marked in the world. -/
noncomputable def offW (w : World) (g n : Nat) : Nat := (List.range n).countP fun y => !(tt (w.cell? ⟨g, y, none⟩ = some (.bool true)))
def flagV : Value → Nat | .bool true => 1 | _ => 0
theorem offW_row {w : World} {base g n c : Nat} {L : List Bool} (h : w.ownsRow base 4 1 (.slice (some ⟨g, 0, none⟩) n c) n (bls L)) (hl : L.length = n) : offW w g n = offs L := by
  have e : L = (List.range n).map (gB L) := gB_ext (n := n) hl (by simp) fun y hy => by
    refine (gB_get ?_).symm
    rw [List.getElem?_map, List.getElem?_range hy]
    rfl
  unfold offW offs
  rw [e, List.countP_map]
  refine List.countP_congr fun y hy => ?_
  have hyn := List.mem_range.1 hy
  have hc : w.cell? ⟨g, y, none⟩ = some (.bool (gB L y)) := by rw [h.cellAt y (by omega), bls_get (by omega)]
  rw [hc]
  simp only [Function.comp_apply]
  rcases gB L y with _ | _ <;> simp [tt]
/-- What a round has done so far: k operations, q entries of the next one. -/
def ChM (n : Nat) (ops : List OpM) (L M : List Bool) (ch : Bool) (k : Nat) : Prop := (ch = true → offs M < offs L) ∧ (ch = false → M = L ∧ ∀ j, j < k → ∀ o, ops[j]? = some o → ∀ i, i < o.2.length → OkE n M o i)
def ChN (n : Nat) (ops : List OpM) (L M : List Bool) (ch : Bool) (k q : Nat) (op : OpM) : Prop := (ch = true → offs M < offs L) ∧ (ch = false → M = L ∧ (∀ j, j < k → ∀ o, ops[j]? = some o → ∀ i, i < o.2.length → OkE n M o i) ∧ ∀ i, i < q → OkE n M op i)
set_option maxRecDepth 20000 in
set_option maxHeartbeats 8000000 in
theorem closeUnder_any (cs : List Value) (x : AlgebraM) (g n c base : Nat) (L0 : List Bool) (wa w : World) (h : shAlgebra.rd wa cs x) (hx : AlgP x) (hn : x.1 = (n : Int)) (hT : Below wa.heap.size wa w) (hba : wa.heap.size ≤ base) (hown : w.ownsRow base 4 1 (.slice (some ⟨g, 0, none⟩) n c) n (bls L0)) (hl0 : L0.length = n) :
    Calls Tryz.prog 94 #[.agg cs.toArray, .slice (some ⟨g, 0, none⟩) n c] w fun e w' => ∃ L, e = .returned (.slice (some ⟨g, 0, none⟩) n c) ∧ w'.ownsRow base 4 1 (.slice (some ⟨g, 0, none⟩) n c) n (bls L) ∧ L.length = n ∧ (∀ y, y < n → gB L y = clB n x.2 (gB L0) y) ∧ w.grownBy w' (some g) := by
  obtain ⟨a, ops⟩ := x
  obtain ⟨hx1, hx2, hx3, hx4⟩ := hx
  simp only at hx1 hx2 hx3 hx4 hn
  subst hn
  rw [Int.toNat_natCast] at hx4
  have hn0 : 0 < n := by omega
  have hn8 : n ≤ 8 := by omega
  obtain ⟨B, m, d, rfl, -, qo⟩ := rdAlgebra h
  have HML := Lib.hid qo.len
  have HOPS := Lib.hid hx4
  have hm4 : m ≤ 4 := by rw [← qo.len]; exact hx3
  have hgl := hown.lt g rfl
  obtain ⟨w0, hw0, T0, hsz0, BP⟩ := boxes1 w #[.int .i64 (n : Int), .slice B m d] 39
  have HW0 := Lib.hid hw0
  have hown0 := own_next hown T0
  have HB := Lib.hid hba
  have hgw : (some w.heap.size) ≠ some g := fun e => by injection e with e; omega
  have HT0 : Hid (w.grownBy w0 (some g)) := gk_of T0
  have HTA : Hid (∀ wz, w0.grownBy wz (some g) → Below wa.heap.size wa wz) := fun wz hz => (below_next hT T0 rfl).grown hz (Nat.le_trans hT.size T0.size) fun k hk => by injection hk with hk; subst hk; exact Nat.le_trans hba hgl.1
  have HBP : Hid (∀ wz, w0.grownBy wz (some g) → wz.cell? ⟨w.heap.size, 0, none⟩ = some (.int .i64 (n : Int)) ∧ wz.cell? ⟨w.heap.size, 1, none⟩ = some (.slice B m d)) := fun wz hz => by
    have := BP.grown hz hgw
    have h0 := this.cell 0
    have h1 := this.cell 1
    simp at h0 h1
    exact ⟨h0, h1⟩
  clear hw0 hsz0 hown hx3 hx4 h hT hba
  go_enter Tryz.func94, Tryz.ntmps94
  go_upto_region 1 with fail
  rw [← HW0.out]
  go_wp2_with fail
  go_loopw [5] (fun s wr => ∃ (L : List Bool) (ch : Bool), s = .bool ch ∧ Hid (ClI n ops L0 L) ∧ wr.ownsRow base 4 1 (.slice (some ⟨g, 0, none⟩) n c) n (bls L) ∧ w0.grownBy wr (some g) ∧ Hid (ch = false → ∀ o ∈ ops, ∀ i, i < o.2.length → OkE n L o i)) (fun s wr => 2 * offW wr g n + flagV s)
  case atStart => exact ⟨L0, true, rfl, ClI.start hl0, hown0, gk_refl _ _, fun h => by cases h⟩
  case round =>
    clear hown0
    obtain ⟨L, ch, rfl, HI, hown, hG, HCH⟩ := hrel
    have HMS : Hid (offW wr g n = offs L) := offW_row hown HI.out.len
    rcases ch with _ | _
    · have HD : Hid (∀ y, y < n → gB L y = clB n ops (gB L0) y) := fun y hy => HI.out.done (HCH.out rfl) hy
      go_wp2_with fail
      go_ret
      exact ⟨rfl, L, hown, HI.out.len, HD.out, gk_trans HT0.out hG⟩
    · have kP1 := (HBP.out _ hG).2
      obtain ⟨ws, HWS⟩ : ∃ ws : World, ws = wr := ⟨_, rfl⟩
      subst HWS
      have HS0 : Hid (ChM n ops L L false 0) := id (And.intro (fun h => by cases h) fun _ => And.intro rfl fun j hj => absurd hj (by omega))
      go_wp2_with fail
      clear kP1
      go_loopw [5, 14] (fun s i wr => ∃ (k : Nat) (M : List Bool) (ch : Bool), k ≤ m ∧ i = .int .i64 k ∧ s = .bool ch ∧ Hid (ClI n ops L0 M) ∧ wr.ownsRow base 4 1 (.slice (some ⟨g, 0, none⟩) n c) n (bls M) ∧ w0.grownBy wr (some g) ∧ Hid (ChM n ops L M ch k)) (fun _ i _ => m - (intOf i).toNat)
      case atStart => exact ⟨0, L, false, Nat.zero_le _, rfl, rfl, HI, hown, hG, HS0⟩
      case round =>
        clear hown hG HI
        obtain ⟨k, M, ch, hk, rfl, rfl, HI, hown, hG, HM⟩ := hrel
        by_cases hlt : k < m
        · have hk0 : (0 : Int) ≤ (k : Int) := by omega
          have hk1 : (k : Int) < (m : Int) := by omega
          obtain ⟨b, o, vs, op, rfl, -, hc, hr, -, hxo⟩ := qo.at hlt
          obtain ⟨B', m', d', rfl, -, qt⟩ := rdOp hr
          have hoP := HOPS.out op (List.mem_of_getElem? hxo)
          obtain ⟨ar, tb, rfl, har⟩ := op_nat hoP
          have HXO := Lib.hid hxo
          have HTL : Hid (m' = n ^ ar) := by show _ = _; rw [← qt.len]; have := hoP.2.2.1; simpa using this
          have HTB : Hid (tb.length = m') := qt.len
          have HTV := Lib.hid hoP.2.2.2
          have cc0 := keepc (HTA.out _ hG) (hc 0 _ rfl)
          have cc1 := keepc (HTA.out _ hG) (hc 1 _ rfl)
          have hm512 : m' ≤ 4096 := by rw [HTL.out]; exact pow_bd hn8 (by omega)
          obtain ⟨w1, hw1, T1, hsz1, BX⟩ := boxes1 wr #[.int .i64 (ar : Int), .slice B' m' d'] 67
          have HW1 := Lib.hid hw1
          have hg1 := (hown.lt g rfl)
          have hG1 : w0.grownBy w1 (some g) := gk_trans hG (gk_of T1)
          have hown1 := own_next hown T1
          have hgx : (some wr.heap.size) ≠ some g := fun e => by injection e with e; omega
          have HBX : Hid (∀ wz, w1.grownBy wz (some g) → wz.cell? ⟨wr.heap.size, 0, none⟩ = some (.int .i64 (ar : Int)) ∧ wz.cell? ⟨wr.heap.size, 1, none⟩ = some (.slice B' m' d')) := fun wz hz => by
            have := BX.grown hz hgx
            have h0 := this.cell 0
            have h1 := this.cell 1
            simp at h0 h1
            exact ⟨h0, h1⟩
          have kX1 := (HBX.out _ (gk_refl _ _)).2
          clear hc hr hw1 hsz1 hxo hown hoP
          have cc0' : wr.cell? ⟨b, o + k * 2, none⟩ = some (.int .i64 (ar : Int)) := cc0
          have cc1' : wr.cell? ⟨b, o + k * 2 + 1, none⟩ = some (.slice B' m' d') := cc1
          clear cc0 cc1
          go_wp2_with fail
          rw [← HW1.out]
          go_wp2_with fail
          clear kX1 cc0' cc1'
          have HS1 : Hid (ChN n ops L M ch k 0 ((ar : Int), tb)) := id (And.intro HM.out.1 fun h => And.intro (HM.out.2 h).1 (And.intro (HM.out.2 h).2 fun i hi => absurd hi (by omega)))
          go_loopw [5, 21] (fun s i wi => ∃ (q : Nat) (M2 : List Bool) (ch2 : Bool), q ≤ m' ∧ i = .int .i64 q ∧ s = .bool ch2 ∧ Hid (ClI n ops L0 M2) ∧ wi.ownsRow base 4 1 (.slice (some ⟨g, 0, none⟩) n c) n (bls M2) ∧ w1.grownBy wi (some g) ∧ Hid (ChN n ops L M2 ch2 k q ((ar : Int), tb))) (fun _ i _ => m' - (intOf i).toNat)
          case atStart => exact ⟨0, M, ch, Nat.zero_le _, rfl, rfl, HI, hown1, gk_refl _ _, HS1⟩
          case round =>
            clear hown1 HI HM
            obtain ⟨q, M2, ch2, hq, rfl, rfl, HI, hown, hG2, HM⟩ := hrel
            have hG3 : w0.grownBy wr (some g) := gk_trans hG1 hG2
            by_cases hlq : q < m'
            · have hq0 : (0 : Int) ≤ (q : Int) := by omega
              have hq1 : (q : Int) < (m' : Int) := by omega
              obtain ⟨b3, o3, u3, v, rfl, hc3, ⟨rfl, -, -⟩, -, hxv⟩ := (qt.next stab_RI (HTA.out _ hG3)).at hlq
              have hvi := HTV.out v (List.mem_of_getElem? hxv)
              obtain ⟨y, rfl⟩ := Int.eq_ofNat_of_zero_le hvi.1
              have hyn : y < n := by omega
              have HXV := Lib.hid hxv
              have HNM : Hid (nmAt tb q = y) := by show _ = _; rw [nmAt_get hxv]; simp
              have hll := HI.out.len
              have hcell : wr.cell? ⟨g, y, none⟩ = some (.bool (gB M2 y)) := by rw [hown.cellAt y (by omega), bls_get (by omega)]
              have hy0 : (0 : Int) ≤ (y : Int) := by omega
              have hy1 : (y : Int) < (n : Int) := by omega
              have kP0 := (HBP.out _ hG3).1
              have kX0 := (HBX.out _ hG2).1
              obtain ⟨bv, HBV⟩ : ∃ b, Hid (gB M2 y = b) := ⟨_, rfl⟩
              rw [HBV.out] at hcell
              clear hxv hvi
              rcases bv with _ | _
              · have HC := Lib.hid (allIn_any (some ⟨g, 0, none⟩) n c ar q M2 wr (rd_of_own (R := RB) hown (fun z _ => rfl)) hn0 (by omega) (by omega) (by omega))
                obtain ⟨al, HAL⟩ : ∃ b, Hid (AllM n ar q M2 = b) := ⟨_, rfl⟩
                rw [HAL.out] at HC
                have hfz := hown.frozenAt y
                have hst := (hown.stored y (.bool true)).1
                rw [bls_set] at hst
                have HST := Lib.hid hst
                have HOW := Lib.hid hown
                clear hst hown
                go_wp2_with fail
                refine HC.out.mono ?_
                rintro e w3 ⟨rfl, rfl⟩
                rcases al with _ | _
                · have HM2 : Hid (ChN n ops L M2 ch2 k (q + 1) ((ar : Int), tb)) := id ⟨HM.out.1, fun h => ⟨(HM.out.2 h).1, (HM.out.2 h).2.1, fun i hi => by
                    by_cases e : i = q
                    · subst e
                      intro hA
                      have := HAL.out
                      simp only [Int.toNat_natCast] at hA
                      rw [hA] at this
                      cases this
                    · exact (HM.out.2 h).2.2 i (by omega)⟩⟩
                  go_wp2_with fail
                  go_roundw
                  case rel => exact ⟨q + 1, M2, ch2, by omega, by go_num, rfl, HI, HOW.out, hG2, HM2⟩
                  case measure => simp [intOf]; try omega
                · have HI2 : Hid (ClI n ops L0 (M2.set y true)) := HI.out.mark hn0 (List.mem_of_getElem? HXO.out) HXV.out hyn (by simpa using HAL.out)
                  have HM2 : Hid (ChN n ops L (M2.set y true) true k (q + 1) ((ar : Int), tb)) := id ⟨fun _ => by
                    have h1 := offs_set (L := M2) (x := y) (by rw [gB_at (by omega), HBV.out])
                    rcases ch2 with _ | _
                    · rw [(HM.out.2 rfl).1] at h1 ⊢; omega
                    · have := HM.out.1 rfl; omega, fun h => by cases h⟩
                  go_wp2_with fail
                  go_roundw
                  case rel => exact ⟨q + 1, M2.set y true, true, by omega, by go_num, rfl, HI2, HST.out, gk_set hG2 rfl _, HM2⟩
                  case measure => simp [intOf]; try omega
              · have HM2 : Hid (ChN n ops L M2 ch2 k (q + 1) ((ar : Int), tb)) := id ⟨HM.out.1, fun h => ⟨(HM.out.2 h).1, (HM.out.2 h).2.1, fun i hi => by
                  by_cases e : i = q
                  · subst e
                    intro _
                    show gB M2 (nmAt tb i) = true
                    rw [HNM.out, HBV.out]
                  · exact (HM.out.2 h).2.2 i (by omega)⟩⟩
                go_wp2_with fail
                go_roundw
                case rel => exact ⟨q + 1, M2, ch2, by omega, by go_num, rfl, HI, hown, hG2, HM2⟩
                case measure => simp [intOf]; try omega
            · have hq1 : ¬ (q : Int) < (m' : Int) := by omega
              have HM2 : Hid (ChM n ops L M2 ch2 (k + 1)) := id ⟨HM.out.1, fun h => ⟨(HM.out.2 h).1, fun j hj o ho i hi => by
                by_cases e : j = k
                · subst e
                  rw [HXO.out] at ho
                  injection ho with ho
                  subst ho
                  exact (HM.out.2 h).2.2 i (by have := HTB.out; simp only at hi; omega)
                · exact (HM.out.2 h).2.1 j (by omega) o ho i hi⟩⟩
              go_wp2_with fail
              go_roundw
              case rel => exact ⟨k + 1, M2, ch2, by omega, by go_num, rfl, HI, hown, hG3, HM2⟩
              case measure => simp [intOf]; try omega
        · have hk1 : ¬ (k : Int) < (m : Int) := by omega
          have HI2 := HI
          have HFIN : Hid (ch = false → ∀ o ∈ ops, ∀ i, i < o.2.length → OkE n M o i) := fun h o ho i hi => by
            obtain ⟨j, hj⟩ := List.getElem?_of_mem ho
            have hjl := (List.getElem?_eq_some_iff.1 hj).1
            exact (HM.out.2 h).2 j (by rw [HML.out] at hjl; omega) o hj i hi
          have HMS2 : Hid (offW wr g n = offs M) := offW_row hown HI.out.len
          go_wp2_with fail
          go_roundw
          case rel => exact ⟨M, ch, rfl, HI2, hown, hG, HFIN⟩
          case measure =>
            show 2 * offW wr g n + flagV (.bool ch) < 2 * offW _ g n + flagV (.bool true)
            rw [HMS2.out, HMS.out]
            rcases ch with _ | _
            · have := (HM.out.2 rfl).1
              subst this
              show 2 * offs M + 0 < 2 * offs M + 1
              omega
            · have := HM.out.1 rfl
              show 2 * offs M + 1 < 2 * offs L + 1
              omega
end Go.Proofs.YtidjocikbmkjbaaGreat
namespace Go.Proofs.YtidjocikbmkjbaaGreat
open Go.RowKit
set_option linter.unusedVariables false

theorem genL_bd {n : Nat} {ops : List OpM} {S : List Int} (hn : n ≤ 1048576) : ∀ v ∈ genL n ops S, -9223372036854775808 ≤ v ∧ v ≤ 9223372036854775807 := markL_bd n _ hn
set_option maxRecDepth 20000 in
set_option maxHeartbeats 4000000 in
theorem generate_any (cs : List Value) (x : AlgebraM) (A : Option Addr) (m c : Nat) (S : List Int) (w : World) (h : shAlgebra.rd w cs x) (hx : AlgP x) (hr : RdL RI w A m S) (hS : ∀ v ∈ S, 0 ≤ v ∧ v ≤ x.1 - 1) :
    Calls Tryz.prog 63 #[.agg cs.toArray, .slice A m c] w (OwI w (genL x.1.toNat x.2 S)) := by
  have hrd := h
  obtain ⟨B, k, d, rfl, -, qo⟩ := rdAlgebra h
  obtain ⟨n, hN⟩ : ∃ n : Nat, x.1 = (n : Int) := ⟨x.1.toNat, by have := hx.1; omega⟩
  have HNN := Lib.hid hN
  have hn8 : n ≤ 8 := by have := hx.2.1; omega
  have hn0 : 0 < n := by have := hx.1; omega
  have HNT : Hid (x.1.toNat = n) := by show _ = _; omega
  obtain ⟨w0, hw0, T0, hsz0, BP⟩ := boxes1 w #[.int .i64 x.1, .slice B k d] 39
  have HW0 := Lib.hid hw0
  rw [hN] at HW0 BP hS
  have cP0 := BP.cell 0
  have cP1 := BP.cell 1
  simp at cP0 cP1
  have HX := Lib.hid hx
  have HRD := Lib.hid (shAlgebra.stab hrd T0.block)
  have HS := Lib.hid hS
  have r0 := hr.next stab_RI T0
  have HM : Hid (∀ wz, Below w0.heap.size w0 wz → Calls Tryz.prog 95 #[.slice A m c, .int .i64 (n : Int)] wz fun e w' => e = .returned (.slice (some ⟨wz.heap.size, 0, none⟩) n n) ∧ w'.ownsRow wz.heap.size 4 1 (.slice (some ⟨wz.heap.size, 0, none⟩) n n) n (bls (inL n S)) ∧ Below wz.heap.size wz w') := fun wz hz => marks_any A m c n S wz (r0.next stab_RI hz) HS.out (by omega)
  have HC : Hid (∀ (g base : Nat) (wz : World), Below w0.heap.size w0 wz → w0.heap.size ≤ base → wz.ownsRow base 4 1 (.slice (some ⟨g, 0, none⟩) n n) n (bls (inL n S)) → Calls Tryz.prog 94 #[.agg #[.int .i64 (n : Int), .slice B k d], .slice (some ⟨g, 0, none⟩) n n] wz fun e w' => ∃ L, e = .returned (.slice (some ⟨g, 0, none⟩) n n) ∧ w'.ownsRow base 4 1 (.slice (some ⟨g, 0, none⟩) n n) n (bls L) ∧ L.length = n ∧ (∀ y, y < n → gB L y = clB n x.2 (gB (inL n S)) y) ∧ wz.grownBy w' (some g)) := fun g base wz hz hb ho => by
    have := closeUnder_any _ x g n n base (inL n S) w0 wz HRD.out HX.out HNN.out hz hb ho (inL_len _ _)
    rw [HNN.out] at this
    exact this
  rw [HNT.out]
  rw [hN]
  have Tk : Below w0.heap.size w0 w0 := Below.refl _ _
  clear hw0 hsz0 hrd qo h hx hr hS hN r0
  go_enter Tryz.func63, Tryz.ntmps63
  go_upto_region 1 with fail
  rw [← HW0.out]
  go_region_held3 (fun w' => w'.cell? ⟨w.heap.size, 0, none⟩ = some (.int .i64 (n : Int)) ∧ w'.cell? ⟨w.heap.size, 1, none⟩ = some (.slice B k d)) (first | go_keep | exact ⟨keepc Tk cP0, keepc Tk cP1⟩) (first
    | (go_at_call 95; (refine (HM.out _ ?_).mono ?_); (first | exact Tk | exact Below.drew Tk); rintro e wm ⟨rfl, hom, hbm⟩; replace hom := own_mono (base' := w0.heap.size) hom (by exact Tk.size); replace Tk := below_next (by first | exact Tk | exact Below.drew Tk) hbm rfl)
    | (go_at_call 94; (refine (HC.out _ w0.heap.size _ ?_ (Nat.le_refl _) ?_).mono ?_); (first | exact Tk | exact Below.drew Tk); (exact hom); rintro e wc ⟨L, rfl, hoc, hlc, hcl, hgc⟩; replace Tk := Below.grown (by first | exact Tk | exact Below.drew Tk) hgc (by exact Tk.size) (fun r hr => by injection hr with hr; have := hom.lt _ rfl; omega); have hE : markL n (gB L) = genL n x.2 S := markL_congr hcl)
    | (go_at_call 93; (refine (marked_any _ n n L _ (by exact rd_of_own (R := RB) hoc (fun z _ => rfl)) (by omega)).mono ?_); rintro e wd ⟨A5, c5, rfl, ho5, hb5⟩; replace ho5 := own_mono (base' := w0.heap.size) ho5 (by exact Tk.size); replace Tk := below_next (by first | exact Tk | exact Below.drew Tk) hb5 rfl))
  all_goals
    rw [hE] at ho5
    have HE := Lib.hid hE
    have HO := Lib.hid ho5
    clear ho5 hE hoc hom hgc hcl
    go_wp2_with fail
    go_ret
    exact ⟨A5, c5, rfl, own_mono HO.out T0.size, below_next T0 (by first | exact Tk | exact Below.drew Tk) rfl⟩
set_option maxHeartbeats 4000000 in
theorem isSub_any (cs : List Value) (x : AlgebraM) (A : Option Addr) (m c : Nat) (S : List Int) (w : World) (h : shAlgebra.rd w cs x) (hx : AlgP x) (hr : RdL RI w A m S) :
    Calls Tryz.prog 59 #[.agg cs.toArray, .slice A m c] w (Bl w (.bool (subB x.1.toNat x.2 S))) := by
  have hrd := h
  obtain ⟨B, k, d, rfl, -, qo⟩ := rdAlgebra h
  obtain ⟨n, hN⟩ : ∃ n : Nat, x.1 = (n : Int) := ⟨x.1.toNat, by have := hx.1; omega⟩
  have HNN := Lib.hid hN
  have hn8 : n ≤ 8 := by have := hx.2.1; omega
  have hn0 : 0 < n := by have := hx.1; omega
  have HNT : Hid (x.1.toNat = n) := by show _ = _; omega
  have hmle := hr.le
  have HL := Lib.hid hr.len
  obtain ⟨w0, hw0, T0, hsz0, BP⟩ := boxes1 w #[.int .i64 x.1, .slice B k d] 39
  have HW0 := Lib.hid hw0
  have HRD : Hid (∀ wz, Below w0.heap.size w0 wz → shAlgebra.rd wz [.int .i64 x.1, .slice B k d] x) := fun wz hz => shAlgebra.stab (shAlgebra.stab hrd T0.block) hz.block
  rw [hN] at HW0 BP HRD
  have cP0 := BP.cell 0
  have cP1 := BP.cell 1
  simp at cP0 cP1
  have HX := Lib.hid hx
  have r0 := hr.next stab_RI T0
  have HI := Lib.hid (inSize_any A m c S (n : Int) w0 r0)
  have HS := Lib.hid (rises_any A m c S w0 r0)
  obtain ⟨b1, HB1⟩ : ∃ b, Hid (allIn 0 ((n : Int) - 1) S = b) := ⟨_, rfl⟩
  obtain ⟨b2, HB2⟩ : ∃ b, Hid (risesL S = b) := ⟨_, rfl⟩
  rw [HB1.out] at HI
  rw [HB2.out] at HS
  have HR : Hid (subB n x.2 S = ((b1 && b2) && decide ((genL n x.2 S).length = m))) := by show _ = _; unfold subB; rw [HB1.out, HB2.out, HL.out]
  rw [HNT.out]
  rw [hN]
  clear hw0 hsz0 hrd qo h hx hr hN
  go_enter Tryz.func59, Tryz.ntmps59
  go_upto_region 1 with fail
  rw [← HW0.out]
  go_wp2_with fail
  refine HI.out.mono ?_
  rintro e w1 ⟨rfl, rfl⟩
  rcases b1 with _ | _
  · go_wp2_with fail
    go_ret
    exact ⟨ret_bool (by rw [HR.out]; rfl), T0⟩
  go_wp2_with fail
  refine HS.out.mono ?_
  rintro e w1 ⟨rfl, z, rfl⟩
  rcases b2 with _ | _
  · go_wp2_with fail
    go_ret
    exact ⟨ret_bool (by rw [HR.out]; rfl), below_drewN T0 z⟩
  have hin : ∀ v ∈ S, 0 ≤ v ∧ v ≤ x.1 - 1 := fun v hv => by rw [HNN.out]; exact allIn_m.1 HB1.out v hv
  have HG := Lib.hid (generate_any _ x A m c S (w0.drewN z) (HRD.out _ (below_drewN (Below.refl _ _) z)) HX.out (r0.drewN stab_RI z) hin)
  rw [HNT.out] at HG
  obtain ⟨gl, HGL⟩ : ∃ l, Hid (genL n x.2 S = l) := ⟨_, rfl⟩
  have HGB : Hid (gl.length ≤ 8) := by show _ ≤ 8; rw [← HGL.out]; exact Nat.le_trans (markL_le _ _) hn8
  rw [HGL.out] at HG HR
  have hgb := HGB.out
  clear hin
  go_wp2_with fail
  refine HG.out.mono ?_
  rintro e w2 ⟨A2, c2, rfl, ho2, hb2⟩
  clear ho2
  go_wp2_with fail
  go_ret
  exact ⟨ret_bool (by rw [HR.out, Bool.true_and, Bool.true_and, Bool.eq_iff_iff]; simp; try omega), below_next T0 ((below_drewN (Below.refl _ _) z).trans hb2) rfl⟩
end Go.Proofs.YtidjocikbmkjbaaGreat
