
/- Walks: is a map an endomorphism (the program). -/
import Derived.Test.YtidjocikbmkjbaaGreatHold
import Derived.Test.YtidjocikbmkjbaaGreatEval
namespace Go.Proofs.YtidjocikbmkjbaaGreat
open Go.RowKit
set_option linter.unusedVariables false

/-- The image's index as far as k digits from the right. -/
def ImI (n ar i : Nat) (f : List Int) (k cur at_ st : Nat) : Prop := idx n ((digs n (ar - k) cur).map (nmAt f)) * st + at_ = toI n ar f i ∧ st = n ^ k
theorem ImI.start (n ar i : Nat) (f : List Int) : ImI n ar i f 0 i 0 1 := ⟨by show idx n ((digs n (ar - 0) i).map (nmAt f)) * 1 + 0 = toI n ar f i; rw [Nat.mul_one, Nat.add_zero]; rfl, (Nat.pow_zero n).symm⟩
theorem ImI.next {n ar i : Nat} {f : List Int} {k cur at_ st : Nat} (h : ImI n ar i f k cur at_ st) (hk : k < ar) : ImI n ar i f (k + 1) (cur / n) (at_ + nmAt f (cur % n) * st) (st * n) := by
  obtain ⟨h1, h2⟩ := h
  refine ⟨?_, by rw [h2, Nat.pow_succ]⟩
  rw [← h1, show ar - k = (ar - (k + 1)) + 1 by omega, digs, List.map_append, List.map_cons, List.map_nil, idx_snoc, Nat.add_mul]
  have : idx n ((digs n (ar - (k + 1)) (cur / n)).map (nmAt f)) * (st * n) = idx n ((digs n (ar - (k + 1)) (cur / n)).map (nmAt f)) * n * st := by rw [Nat.mul_assoc, Nat.mul_comm st n]
  omega
theorem ImI.done {n ar i : Nat} {f : List Int} {k cur at_ st : Nat} (h : ImI n ar i f k cur at_ st) (hk : ¬ k < ar) : at_ = toI n ar f i := by
  have h1 := h.1
  rw [show ar - k = 0 by omega] at h1
  simpa [digs, idx] using h1
/-- A map into n elements. -/
def MpL (n : Nat) (f : List Int) : Prop := f.length = n ∧ ∀ v ∈ f, 0 ≤ v ∧ v ≤ (n : Int) - 1
theorem MpL.at {n : Nat} {f : List Int} (h : MpL n f) {x : Nat} (hx : x < n) : f[x]? = some (nmAt f x : Int) ∧ nmAt f x < n := by
  have hl : x < f.length := by rw [h.1]; exact hx
  have h2 := h.2 _ (List.getElem_mem hl)
  have h3 : f[x]? = some f[x] := List.getElem?_eq_getElem hl
  rw [nmAt_get h3, h3]
  exact ⟨by congr 1; omega, by omega⟩
theorem MpL.im {n : Nat} {f : List Int} (h : MpL n f) (hn : 0 < n) (k i : Nat) : toI n k f i < n ^ k := by
  refine idx_lt k _ (by rw [List.length_map, digs_len]) fun d hd => ?_
  obtain ⟨x, hx, rfl⟩ := List.mem_map.1 hd
  exact (h.at (digs_lt hn hx)).2
set_option maxRecDepth 20000 in
set_option maxHeartbeats 4000000 in
theorem imageIndex_any (cs : List Value) (x : AlgebraM) (A : Option Addr) (n m c i ar : Nat) (f : List Int) (w : World) (h : shAlgebra.rd w cs x) (hn : x.1 = (n : Int)) (hn0 : 0 < n) (hn8 : n ≤ 8) (hr : RdL RI w A m f) (hf : MpL n f) (ha : ar ≤ 3) (hi : i < n ^ ar) :
    Calls Tryz.prog 108 #[.int .i64 i, .int .i64 ar, .agg cs.toArray, .agg cs.toArray, .slice A m c] w (Bl w (.int .i64 ((toI n ar f i : Nat) : Int))) := by
  obtain ⟨B, k, d, rfl, -, qo⟩ := rdAlgebra h
  rw [hn]
  obtain ⟨w0, hw0, T0, hsz0, BP, BQ⟩ := boxes2 w #[.int .i64 (n : Int), .slice B k d] #[.int .i64 (n : Int), .slice B k d] 39 39
  have HW0 := Lib.hid hw0
  have cP0 := BP.cell 0
  have cQ0 := BQ.cell 0
  simp at cP0 cQ0
  have r0 := hr.next stab_RI T0
  have HF := Lib.hid hf
  have hmn : m = n := by rw [← hr.len]; exact hf.1
  subst hmn
  have hi4 : i ≤ 4096 := by have := pow_bd (n := m) (k := ar) hn8 (by omega); omega
  have hres : toI m ar f i ≤ 4096 := by have := hf.im hn0 ar i; have := pow_bd (n := m) (k := ar) hn8 (by omega); omega
  have HRES := Lib.hid hres
  clear hw0 hsz0 qo h hr hf hn hi hres
  go_enter Tryz.func108, Tryz.ntmps108
  go_upto_region 1 with fail
  rw [← HW0.out]
  go_wp2_with fail
  go_loop [0, 11, 12, 13] (fun ci ca cst ck => ∃ q cur at_ st : Nat, q ≤ ar ∧ ck = .int .i64 q ∧ ci = .int .i64 cur ∧ ca = .int .i64 at_ ∧ cst = .int .i64 st ∧ cur ≤ 4096 ∧ Hid (ImI m ar i f q cur at_ st)) (fun _ _ _ ck => ar - (intOf ck).toNat)
  case atStart => exact ⟨0, i, 0, 1, Nat.zero_le _, rfl, rfl, rfl, rfl, hi4, ImI.start _ _ _ _⟩
  case round =>
    obtain ⟨q, cur, at_, st, hq, rfl, rfl, rfl, rfl, hcur, HI⟩ := hrel
    by_cases hlt : q < ar
    · have hq0 : (0 : Int) ≤ (q : Int) := by omega
      have hq1 : (q : Int) < (ar : Int) := by omega
      have hr := Nat.mod_lt cur hn0
      obtain ⟨X, HX⟩ : ∃ X, Hid (cur % m = X) := ⟨_, rfl⟩
      rw [HX.out] at hr
      have hfX := HF.out.at hr
      obtain ⟨fX, HFX⟩ : ∃ z, Hid (nmAt f X = z) := ⟨_, rfl⟩
      rw [HFX.out] at hfX
      obtain ⟨b, o, u, v, rfl, hc, ⟨rfl, -, -⟩, -, hxv⟩ := r0.at hr
      rw [hfX.1] at hxv
      injection hxv with hxv
      subst hxv
      have hst : st ≤ 4096 := by rw [HI.out.2]; exact pow_bd hn8 (by omega)
      have hIN := HI.out.next hlt
      rw [HX.out, HFX.out] at hIN
      have hle2 : at_ + fX * st ≤ 4096 := by
        have h1 := hIN.1
        have := HRES.out
        omega
      have hM : fX * st ≤ 4096 := by omega
      have hM2 : st * m ≤ 4096 * 8 := Nat.mul_le_mul hst hn8
      have HIN := Lib.hid hIN
      have e1 : (fX : Int) * (st : Int) = ((fX * st : Nat) : Int) := (Int.natCast_mul _ _).symm
      obtain ⟨P1, HP1⟩ : ∃ z, Hid (fX * st = z) := ⟨_, rfl⟩
      rw [HP1.out] at e1 HIN hM hle2
      have e2 : (st : Int) * (m : Int) = ((st * m : Nat) : Int) := (Int.natCast_mul _ _).symm
      obtain ⟨P2, HP2⟩ : ∃ z, Hid (st * m = z) := ⟨_, rfl⟩
      rw [HP2.out] at e2 HIN hM2
      have HQ : Hid (wrap64 ((cur : Int) / (m : Int)) = ((cur / m : Nat) : Int)) := by
        show _ = _
        have e : (cur : Int) / (m : Int) = ((cur / m : Nat) : Int) := by simp
        rw [e]
        exact w64 (by have := Nat.div_le_self cur m; omega)
      have hcd : cur / m ≤ 4096 := Nat.le_trans (Nat.div_le_self _ _) hcur
      have f5 : (cur : Int) % (m : Int) = (X : Int) := by rw [← HX.out]; simp
      have f6 : cur % m = X := HX.out
      have hX0 : (0 : Int) ≤ (X : Int) := by omega
      have hX1 : (X : Int) < (m : Int) := by omega
      have hnz : ¬ (m : Int) = 0 := by omega
      clear hfX hIN
      go_wp2_with fail
      go_round
      case rel => exact ⟨q + 1, cur / m, at_ + P1, P2, by omega, by go_num, by rw [HQ.out], by go_num, by go_num, hcd, HIN⟩
      case measure => simp [intOf]; try omega
    · have hq1 : ¬ (q : Int) < (ar : Int) := by omega
      have HD := Lib.hid (HI.out.done hlt)
      go_wp2_with fail
      go_ret
      exact ⟨ret_int (by rw [HD.out]), T0⟩
end Go.Proofs.YtidjocikbmkjbaaGreat
namespace Go.Proofs.YtidjocikbmkjbaaGreat
open Go.RowKit
set_option linter.unusedVariables false

def mpB (n : Nat) (f : List Int) : Bool := decide (f.length = n) && allIn 0 ((n : Int) - 1) f
theorem mpB_iff {n : Nat} {f : List Int} : mpB n f = true ↔ MpL n f := by unfold mpB MpL; rw [Bool.and_eq_true, decide_eq_true_iff, allIn_m]
set_option maxHeartbeats 2000000 in
theorem isMap_any (cs : List Value) (x : AlgebraM) (A : Option Addr) (m c : Nat) (f : List Int) (w : World) (h : shAlgebra.rd w cs x) (hx : AlgP x) (hr : RdL RI w A m f) :
    Calls Tryz.prog 96 #[.agg cs.toArray, .agg cs.toArray, .slice A m c] w (Bl w (.bool (mpB x.1.toNat f))) := by
  obtain ⟨B, k, d, rfl, -, qo⟩ := rdAlgebra h
  obtain ⟨n, hN⟩ : ∃ n : Nat, x.1 = (n : Int) := ⟨x.1.toNat, by have := hx.1; omega⟩
  have HNT : Hid (x.1.toNat = n) := by show _ = _; omega
  have hn8 : n ≤ 8 := by have := hx.2.1; omega
  rw [HNT.out, hN]
  obtain ⟨w0, hw0, T0, hsz0, BP, BQ⟩ := boxes2 w #[.int .i64 (n : Int), .slice B k d] #[.int .i64 (n : Int), .slice B k d] 39 39
  have HW0 := Lib.hid hw0
  have cP0 := BP.cell 0
  have cQ0 := BQ.cell 0
  simp at cP0 cQ0
  have r0 := hr.next stab_RI T0
  have HL := Lib.hid hr.len
  have hmle := hr.le
  have HI := Lib.hid (inSize_any A m c f (n : Int) w0 r0)
  obtain ⟨b1, HB1⟩ : ∃ z, Hid (allIn 0 ((n : Int) - 1) f = z) := ⟨_, rfl⟩
  rw [HB1.out] at HI
  have HR : Hid (mpB n f = (decide (m = n) && b1)) := by show _ = _; unfold mpB; rw [HB1.out, HL.out]
  clear hw0 hsz0 qo h hx hr hN
  by_cases hmn : m = n
  · subst hmn
    have hd : ((m : Int) == (m : Int)) = true := by simp
    go_enter Tryz.func96, Tryz.ntmps96
    go_upto_region 1 with fail
    rw [← HW0.out]
    go_wp2_with fail
    refine HI.out.mono ?_
    rintro e w1 ⟨rfl, rfl⟩
    go_wp2_with fail
    go_ret
    exact ⟨ret_bool (by rw [HR.out]; simp), T0⟩
  · have hd : ((m : Int) == (n : Int)) = false := by rw [beq_eq_false_iff_ne]; omega
    go_enter Tryz.func96, Tryz.ntmps96
    go_upto_region 1 with fail
    rw [← HW0.out]
    go_wp2_with fail
    go_ret
    exact ⟨ret_bool (by rw [HR.out, decide_eq_false hmn]; rfl), T0⟩
def FtE (w : World) (P : Prop) (e : Ending) (w' : World) : Prop := ∃ kk ii : Int, e = .returned (.tuple #[.int .i64 kk, .int .i64 ii]) ∧ (kk < 0 ↔ P) ∧ Below w.heap.size w w'
def HomTo (n : Nat) (ops : List OpM) (f : List Int) (k q : Nat) : Prop := (∀ j, j < k → ∀ o, ops[j]? = some o → ∀ i, i < o.2.length → nmAt f (nmAt o.2 i) = nmAt o.2 (toI n o.1.toNat f i)) ∧ (∀ o, ops[k]? = some o → ∀ i, i < q → i < o.2.length → nmAt f (nmAt o.2 i) = nmAt o.2 (toI n o.1.toNat f i))
theorem HomTo.start (n : Nat) (ops : List OpM) (f : List Int) : HomTo n ops f 0 0 := ⟨fun j h => absurd h (by omega), fun o _ i h => absurd h (by omega)⟩
theorem HomTo.entry {n : Nat} {ops : List OpM} {f : List Int} {k q : Nat} {o : OpM} (h : HomTo n ops f k q) (ho : ops[k]? = some o) (he : nmAt f (nmAt o.2 q) = nmAt o.2 (toI n o.1.toNat f q)) : HomTo n ops f k (q + 1) := ⟨h.1, fun o' ho' i hi hil => by
  rw [ho] at ho'
  injection ho' with ho'
  subst ho'
  by_cases e : i = q
  · subst e; exact he
  · exact h.2 _ ho i (by omega) hil⟩
theorem HomTo.op {n : Nat} {ops : List OpM} {f : List Int} {k q : Nat} {o : OpM} (h : HomTo n ops f k q) (ho : ops[k]? = some o) (hq : ¬ q < o.2.length) : HomTo n ops f (k + 1) 0 := ⟨fun j hj o' ho' i hi => by
  by_cases e : j = k
  · subst e; exact h.2 o' ho' i (by rw [ho] at ho'; injection ho' with ho'; subst ho'; omega) hi
  · exact h.1 j (by omega) o' ho' i hi, fun o' _ i h => absurd h (by omega)⟩
theorem HomTo.done {n : Nat} {ops : List OpM} {f : List Int} {k q : Nat} (h : HomTo n ops f k q) (hk : ¬ k < ops.length) : HomP n ops f := fun o ho i hi => by
  obtain ⟨j, hj⟩ := List.getElem?_of_mem ho
  have := (List.getElem?_eq_some_iff.1 hj).1
  exact h.1 j (by omega) o hj i hi
set_option maxRecDepth 20000 in
set_option maxHeartbeats 8000000 in
theorem faultOf_any (cs : List Value) (x : AlgebraM) (A : Option Addr) (n c : Nat) (f : List Int) (w : World) (h : shAlgebra.rd w cs x) (hx : AlgP x) (hn : x.1 = (n : Int)) (hr : RdL RI w A n f) (hf : MpL n f) :
    Calls Tryz.prog 97 #[.agg cs.toArray, .agg cs.toArray, .slice A n c] w (FtE w (HomP n x.2 f)) := by
  have hrd := h
  obtain ⟨a, ops⟩ := x
  obtain ⟨hx1, hx2, hx3, hx4⟩ := hx
  simp only at hx1 hx2 hx3 hx4 hn
  subst hn
  rw [Int.toNat_natCast] at hx4
  have hn0 : 0 < n := by omega
  have hn8 : n ≤ 8 := by omega
  obtain ⟨B, m, d, rfl, -, qo⟩ := rdAlgebra h
  have HML := Lib.hid qo.len
  have HOPS := Lib.hid hx4
  have hm4 : m ≤ 4 := by rw [← qo.len]; exact hx3
  obtain ⟨w0, hw0, T0, hsz0, BP, BQ⟩ := boxes2 w #[.int .i64 (n : Int), .slice B m d] #[.int .i64 (n : Int), .slice B m d] 39 39
  have HW0 := Lib.hid hw0
  have HRD : Hid (∀ wz, Below w0.heap.size w0 wz → shAlgebra.rd wz [.int .i64 (n : Int), .slice B m d] ((n : Int), ops)) := fun wz hz => shAlgebra.stab (shAlgebra.stab hrd T0.block) hz.block
  replace qo := qo.next T0
  have r0 := hr.next stab_RI T0
  have cP0 := BP.cell 0
  have cP1 := BP.cell 1
  have cQ0 := BQ.cell 0
  have cQ1 := BQ.cell 1
  simp at cP0 cP1 cQ0 cQ1
  have HF := Lib.hid hf
  clear hw0 hsz0 hx3 hx4 h hr hrd hf
  go_enter Tryz.func97, Tryz.ntmps97
  go_upto_region 1 with fail
  rw [← HW0.out]
  go_wp2_with fail
  go_loopw [15] (fun i wr => ∃ k : Nat, k ≤ m ∧ i = .int .i64 k ∧ Hid (HomTo n ops f k 0) ∧ Below w0.heap.size w0 wr) (fun i _ => m - (intOf i).toNat)
  case atStart => exact ⟨0, Nat.zero_le _, rfl, HomTo.start _ _ _, Below.refl _ _⟩
  case round =>
    obtain ⟨k, hk, rfl, HI, hTr⟩ := hrel
    by_cases hlt : k < m
    · have hk0 : (0 : Int) ≤ (k : Int) := by omega
      have hk1 : (k : Int) < (m : Int) := by omega
      obtain ⟨b, o, vs, op, rfl, -, hc, hrr, -, hxo⟩ := qo.at hlt
      obtain ⟨B', m', d', rfl, -, qt⟩ := rdOp hrr
      have hoP := HOPS.out op (List.mem_of_getElem? hxo)
      obtain ⟨ar, tb, rfl, har⟩ := op_nat hoP
      have HXO := Lib.hid hxo
      have HTL : Hid (m' = n ^ ar) := by show _ = _; rw [← qt.len]; have := hoP.2.2.1; simpa using this
      have HTB : Hid (tb.length = m') := qt.len
      have HTV := Lib.hid hoP.2.2.2
      have hm512 : m' ≤ 4096 := by rw [HTL.out]; exact pow_bd hn8 (by omega)
      have cc0 : w0.cell? ⟨b, o + k * 2, none⟩ = some (.int .i64 (ar : Int)) := hc 0 _ rfl
      have cc1 : w0.cell? ⟨b, o + k * 2 + 1, none⟩ = some (.slice B' m' d') := hc 1 _ rfl
      have kc0 := keepc hTr cc0
      have kc1 := keepc hTr cc1
      obtain ⟨wo, HWO⟩ : ∃ wo : World, wo = wr := ⟨_, rfl⟩
      subst HWO
      obtain ⟨w1, hw1, T1, hsz1, BX⟩ := boxes1 wo #[.int .i64 (ar : Int), .slice B' m' d'] 67
      have HW1 := Lib.hid hw1
      have T01 := below_next hTr T1 rfl
      have cX0 := BX.cell 0
      have cX1 := BX.cell 1
      simp at cX0 cX1
      clear hc hrr hxo hoP hw1 hsz1
      go_wp2_with fail
      rw [← HW1.out]
      clear kc0 kc1
      go_wp2_with fail
      go_loopw [23] (fun i wi => ∃ q : Nat, q ≤ m' ∧ i = .int .i64 q ∧ Hid (HomTo n ops f k q) ∧ Below w1.heap.size w1 wi) (fun i _ => m' - (intOf i).toNat)
      case atStart => exact ⟨0, Nat.zero_le _, rfl, HI, Below.refl _ _⟩
      case round =>
        clear HI
        obtain ⟨q, hq, rfl, HI, hTi⟩ := hrel
        have TT := below_next T01 hTi rfl
        by_cases hlq : q < m'
        · have hq0 : (0 : Int) ≤ (q : Int) := by omega
          have hq1 : (q : Int) < (m' : Int) := by omega
          obtain ⟨b3, o3, u3, v, rfl, hc3, ⟨rfl, -, -⟩, -, hxv⟩ := (qt.next stab_RI TT).at hlq
          have hvi := HTV.out v (List.mem_of_getElem? hxv)
          obtain ⟨y, rfl⟩ := Int.eq_ofNat_of_zero_le hvi.1
          have hyn : y < n := by omega
          have HY : Hid (nmAt tb q = y) := by show _ = _; rw [nmAt_get hxv]; simp
          have hfy := HF.out.at hyn
          obtain ⟨fy, HFY⟩ : ∃ z, Hid (nmAt f y = z) := ⟨_, rfl⟩
          rw [HFY.out] at hfy
          obtain ⟨b4, o4, u4, v4, rfl, hc4, ⟨rfl, -, -⟩, -, hx4⟩ := (r0.next stab_RI TT).at hyn
          rw [hfy.1] at hx4
          injection hx4 with hx4
          subst hx4
          have hIMl : toI n ar f q < m' := by rw [HTL.out]; exact HF.out.im hn0 _ _
          obtain ⟨IM, HIM⟩ : ∃ z, Hid (toI n ar f q = z) := ⟨_, rfl⟩
          rw [HIM.out] at hIMl
          obtain ⟨u5, v5, hc5, ⟨rfl, -, -⟩, -, hx5⟩ := (qt.next stab_RI TT).at' hIMl
          have hvi5 := HTV.out v5 (List.mem_of_getElem? hx5)
          obtain ⟨z, rfl⟩ := Int.eq_ofNat_of_zero_le hvi5.1
          have HZ : Hid (nmAt tb (toI n ar f q) = z) := by show _ = _; rw [HIM.out, nmAt_get hx5]; simp
          have HC : Hid (∀ wz, Below wr.heap.size wr wz → Calls Tryz.prog 108 #[.int .i64 (q : Int), .int .i64 (ar : Int), .agg #[.int .i64 (n : Int), .slice (some ⟨b, o, none⟩) m d], .agg #[.int .i64 (n : Int), .slice (some ⟨b, o, none⟩) m d], .slice (some ⟨b4, o4, none⟩) n c] wz (Bl wz (.int .i64 (IM : Int)))) := fun wz hz => by
            have := imageIndex_any _ ((n : Int), ops) (some ⟨b4, o4, none⟩) n n c q ar f wz (HRD.out wz (below_next TT hz rfl)) rfl hn0 hn8 ((r0.next stab_RI TT).next stab_RI hz) HF.out har (by rw [← HTL.out]; exact hlq)
            rw [HIM.out] at this
            exact this
          have hy0 : (0 : Int) ≤ (y : Int) := by omega
          have hy1 : (y : Int) < (n : Int) := by omega
          have hM0 : (0 : Int) ≤ (IM : Int) := by omega
          have hM1 : (IM : Int) < (m' : Int) := by omega
          obtain ⟨bb, HBB⟩ : ∃ z', Hid (((fy : Int) != (z : Int)) = z') := ⟨_, rfl⟩
          have jP0 := keepc TT cP0
          have jP1 := keepc TT cP1
          have jQ0 := keepc TT cQ0
          have jQ1 := keepc TT cQ1
          have jX0 := keepc hTi cX0
          have jc1 := keepc TT cc1
          have Tk : Below wr.heap.size wr wr := Below.refl _ _
          clear hxv hvi hx5 hvi5 hfy
          go_upto_region 7 with fail
          go_cut [47] from 28 to 50 (fun u47 wx => u47 = .bool bb ∧ Below wr.heap.size wr wx)
          case first =>
            go_region_held3 (fun w' => w'.cell? ⟨w.heap.size, 0, none⟩ = some (.int .i64 (n : Int)) ∧ w'.cell? ⟨w.heap.size, 1, none⟩ = some (.slice (some ⟨b, o, none⟩) m d) ∧ w'.cell? ⟨w.heap.size + 1, 0, none⟩ = some (.int .i64 (n : Int)) ∧ w'.cell? ⟨w.heap.size + 1, 1, none⟩ = some (.slice (some ⟨b, o, none⟩) m d) ∧ w'.cell? ⟨wo.heap.size, 0, none⟩ = some (.int .i64 (ar : Int)) ∧ w'.cell? ⟨b, o + k * 2 + 1, none⟩ = some (.slice (some ⟨b3, o3, none⟩) m' d') ∧ w'.cell? ⟨b4, o4 + y, none⟩ = some (.int .i64 (fy : Int)) ∧ w'.cell? ⟨b3, o3 + IM, none⟩ = some (.int .i64 (z : Int))) (first | go_keep | exact ⟨keepc Tk jP0, keepc Tk jP1, keepc Tk jQ0, keepc Tk jQ1, keepc Tk jX0, keepc Tk jc1, keepc Tk hc4, keepc Tk hc5⟩) (first
              | (go_at_call 108; (with_reducible refine (HC.out _ ?_).mono ?_); (first | exact Tk | exact Below.drew Tk); rintro e wn ⟨rfl, hbn⟩; replace Tk := below_next (by first | exact Tk | exact Below.drew Tk) hbn rfl))
            all_goals
              go_wp2_with fail
              go_meet
              exact ⟨by rw [← HBB.out], by first | exact Tk | exact Below.drew Tk⟩
          case rest =>
            obtain ⟨rfl, hTc⟩ := hcut
            have TN := below_next hTi hTc rfl
            rcases bb with _ | _
            · have HI2 : Hid (HomTo n ops f k (q + 1)) := HI.out.entry HXO.out (by
                simp only [Int.toNat_natCast]
                rw [HY.out, HFY.out, HZ.out]
                have := HBB.out
                have h2 : (fy : Int) = (z : Int) := by simpa using this
                omega)
              go_wp2_with fail
              go_roundw
              case rel => exact ⟨q + 1, by omega, by go_num, HI2, TN⟩
              case measure => simp [intOf]; try omega
            · have HNO : Hid (¬ HomP n ops f) := fun hh => by
                have h1 := hh _ (List.mem_of_getElem? HXO.out) q (by have := HTB.out; simp only; omega)
                simp only [Int.toNat_natCast] at h1
                rw [HY.out, HFY.out, HZ.out] at h1
                have := HBB.out
                rw [h1] at this
                simp at this
              go_wp2_with fail
              go_ret2
              exact ⟨(k : Int), (q : Int), rfl, ⟨fun h => absurd h (by omega), fun h => absurd h HNO.out⟩, below_next T0 (below_next T01 TN rfl) rfl⟩
        · have hq1 : ¬ (q : Int) < (m' : Int) := by omega
          have HI2 : Hid (HomTo n ops f (k + 1) 0) := HI.out.op HXO.out (by have := HTB.out; simp only; omega)
          go_wp2_with fail
          go_roundw
          case rel => exact ⟨k + 1, by omega, by go_num, HI2, TT⟩
          case measure => simp [intOf]; try omega
    · have hk1 : ¬ (k : Int) < (m : Int) := by omega
      have HD : Hid (HomP n ops f) := HI.out.done (by rw [HML.out]; exact hlt)
      go_wp2_with fail
      go_ret2
      exact ⟨-1, 0, rfl, ⟨fun _ => HD.out, fun _ => by decide⟩, below_next T0 hTr rfl⟩
set_option maxHeartbeats 4000000 in
theorem isHom_any (cs : List Value) (x : AlgebraM) (A : Option Addr) (m c : Nat) (f : List Int) (w : World) (h : shAlgebra.rd w cs x) (hx : AlgP x) (hr : RdL RI w A m f) :
    Calls Tryz.prog 64 #[.agg cs.toArray, .agg cs.toArray, .slice A m c] w (Bl w (.bool (homB x.1.toNat x.2 f))) := by
  have hrd := h
  obtain ⟨B, k, d, rfl, -, qo⟩ := rdAlgebra h
  obtain ⟨n, hN⟩ : ∃ n : Nat, x.1 = (n : Int) := ⟨x.1.toNat, by have := hx.1; omega⟩
  have HNN := Lib.hid hN
  have HNT : Hid (x.1.toNat = n) := by show _ = _; omega
  obtain ⟨w0, hw0, T0, hsz0, BP, BQ⟩ := boxes2 w #[.int .i64 x.1, .slice B k d] #[.int .i64 x.1, .slice B k d] 39 39
  have HW0 := Lib.hid hw0
  have HRD : Hid (∀ wz, Below w0.heap.size w0 wz → shAlgebra.rd wz [.int .i64 x.1, .slice B k d] x) := fun wz hz => shAlgebra.stab (shAlgebra.stab hrd T0.block) hz.block
  have cP0 := BP.cell 0
  have cP1 := BP.cell 1
  have cQ0 := BQ.cell 0
  have cQ1 := BQ.cell 1
  simp at cP0 cP1 cQ0 cQ1
  have HX := Lib.hid hx
  have HLN := Lib.hid hr.len
  have r0 := hr.next stab_RI T0
  have HM := Lib.hid (isMap_any _ x A m c f w0 (HRD.out _ (Below.refl _ _)) hx r0)
  rw [HNT.out] at HM
  rw [HNT.out]
  obtain ⟨b1, HB1⟩ : ∃ z, Hid (mpB n f = z) := ⟨_, rfl⟩
  rw [HB1.out] at HM
  have HR : Hid (homB n x.2 f = (b1 && tt (HomP n x.2 f))) := by show _ = _; unfold homB; rw [← HB1.out]; rfl
  clear hw0 hsz0 qo h hrd hx hr hN
  go_enter Tryz.func64, Tryz.ntmps64
  go_upto_region 1 with fail
  rw [← HW0.out]
  go_wp2_with fail
  refine HM.out.mono ?_
  rintro e w1 ⟨rfl, hb1⟩
  replace cP0 := keepc hb1 cP0
  replace cP1 := keepc hb1 cP1
  replace cQ0 := keepc hb1 cQ0
  replace cQ1 := keepc hb1 cQ1
  rcases b1 with _ | _
  · go_wp2_with fail
    go_ret
    exact ⟨ret_bool (by rw [HR.out]; rfl), below_next T0 hb1 rfl⟩
  have hf := mpB_iff.1 HB1.out
  have hmn : m = n := by rw [← HLN.out]; exact hf.1
  subst hmn
  have HC := Lib.hid (faultOf_any _ x A m c f w1 (HRD.out _ hb1) HX.out HNN.out (r0.next stab_RI hb1) hf)
  clear hf
  go_wp2_with fail
  refine HC.out.mono ?_
  rintro e w2 ⟨kk, ii, rfl, hk, hb2⟩
  have HK := Lib.hid hk
  clear hk
  have T2 := below_next T0 (below_next hb1 hb2 rfl) rfl
  by_cases h0 : kk < 0
  · go_wp2_with fail
    go_ret
    exact ⟨ret_bool (by rw [HR.out, ← tt_true (HK.out.1 h0)]; rfl), T2⟩
  · go_wp2_with fail
    go_ret
    exact ⟨ret_bool (by rw [HR.out, ← tt_false (fun hh => by have := HK.out.2 hh; omega)]; simp; try omega), T2⟩
end Go.Proofs.YtidjocikbmkjbaaGreat
