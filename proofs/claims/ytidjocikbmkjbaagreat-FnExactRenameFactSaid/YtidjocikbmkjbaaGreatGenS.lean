
/- Walks: what some elements generate (the reference). -/
import Derived.Test.YtidjocikbmkjbaaGreatGen
import Derived.Test.YtidjocikbmkjbaaGreatHoldT
namespace Go.Proofs.YtidjocikbmkjbaaGreat
open Go.RowKit
set_option linter.unusedVariables false

/-- What the first k operations, and q entries of the next one, give of what is marked. -/
def StTo (n : Nat) (ops : List OpM) (L : List Bool) (k q y : Nat) : Prop := ∃ j o i, ops[j]? = some o ∧ (j < k ∨ (j = k ∧ i < q)) ∧ i < o.2.length ∧ AllM n o.1.toNat i L = true ∧ nmAt o.2 i = y
structure StI (n : Nat) (ops : List OpM) (L M : List Bool) (k q : Nat) : Prop where
  len : M.length = n
  val : ∀ y, y < n → (gB M y = true ↔ gB L y = true ∨ StTo n ops L k q y)
theorem StI.start {n : Nat} {ops : List OpM} {L : List Bool} (h : L.length = n) : StI n ops L L 0 0 := ⟨h, fun y hy => ⟨.inl, fun hh => hh.elim id fun ⟨j, o, i, _, h, _⟩ => by omega⟩⟩
theorem StI.skip {n : Nat} {ops : List OpM} {L M : List Bool} {k q : Nat} {o : OpM} (h : StI n ops L M k q) (ho : ops[k]? = some o) (hA : AllM n o.1.toNat q L = false) : StI n ops L M k (q + 1) := ⟨h.len, fun y hy => by
  rw [h.val y hy]
  refine or_congr Iff.rfl ⟨fun ⟨j, o', i, h1, h2, h3⟩ => ⟨j, o', i, h1, by omega, h3⟩, fun ⟨j, o', i, h1, h2, h3, h4, h5⟩ => ⟨j, o', i, h1, ?_, h3, h4, h5⟩⟩
  by_cases e : j = k ∧ i = q
  · obtain ⟨rfl, rfl⟩ := e
    rw [ho] at h1
    injection h1 with h1
    subst h1
    rw [hA] at h4
    cases h4
  · omega⟩
theorem StI.mark {n : Nat} {ops : List OpM} {L M : List Bool} {k q v : Nat} {o : OpM} (h : StI n ops L M k q) (ho : ops[k]? = some o) (hv : o.2[q]? = some (v : Int)) (hvn : v < n) (hA : AllM n o.1.toNat q L = true) : StI n ops L (M.set v true) k (q + 1) := ⟨by rw [List.length_set]; exact h.len, fun y hy => by
  rw [gB_set (by rw [h.len]; exact hvn)]
  have hn : nmAt o.2 q = v := by rw [nmAt_get hv]; simp
  have hq := (List.getElem?_eq_some_iff.1 hv).1
  by_cases e : y = v
  · subst e
    rw [if_pos rfl]
    exact ⟨fun _ => .inr ⟨k, o, q, ho, .inr ⟨rfl, by omega⟩, hq, hA, hn⟩, fun _ => rfl⟩
  · rw [if_neg e, h.val y hy]
    refine or_congr Iff.rfl ⟨fun ⟨j, o', i, h1, h2, h3⟩ => ⟨j, o', i, h1, by omega, h3⟩, fun ⟨j, o', i, h1, h2, h3, h4, h5⟩ => ⟨j, o', i, h1, ?_, h3, h4, h5⟩⟩
    by_cases e2 : j = k ∧ i = q
    · obtain ⟨rfl, rfl⟩ := e2
      rw [ho] at h1
      injection h1 with h1
      subst h1
      exact absurd (h5.symm.trans hn) e
    · omega⟩
theorem StI.next {n : Nat} {ops : List OpM} {L M : List Bool} {k q : Nat} {o : OpM} (h : StI n ops L M k q) (ho : ops[k]? = some o) (hq : ¬ q < o.2.length) : StI n ops L M (k + 1) 0 := ⟨h.len, fun y hy => by
  rw [h.val y hy]
  refine or_congr Iff.rfl ⟨fun ⟨j, o', i, h1, h2, h3⟩ => ⟨j, o', i, h1, by omega, h3⟩, fun ⟨j, o', i, h1, h2, h3, h4⟩ => ⟨j, o', i, h1, ?_, h3, h4⟩⟩
  by_cases e : j = k
  · subst e
    rw [ho] at h1
    injection h1 with h1
    subst h1
    omega
  · omega⟩
theorem StI.done {n : Nat} {ops : List OpM} {L M : List Bool} {k q : Nat} (h : StI n ops L M k q) (hk : ¬ k < ops.length) : M = stL n ops L := by
  refine gB_ext (n := n) h.len (stL_len _ _ _) fun y hy => ?_
  rw [stL_get hy, Bool.eq_iff_iff, Bool.or_eq_true, tt_iff, h.val y hy]
  refine or_congr Iff.rfl ⟨fun ⟨j, o, i, h1, h2, h3, h4, h5⟩ => ⟨o, List.mem_of_getElem? h1, i, h3, h4, h5⟩, fun ⟨o, ho, i, h3, h4, h5⟩ => ?_⟩
  obtain ⟨j, hj⟩ := List.getElem?_of_mem ho
  have := (List.getElem?_eq_some_iff.1 hj).1
  exact ⟨j, o, i, hj, .inl (by omega), h3, h4, h5⟩
set_option maxHeartbeats 2000000 in
theorem l5In_any (A : Option Addr) (m c n : Nat) (S : List Int) (w : World) (h : RdL RI w A m S) (hS : ∀ v ∈ S, 0 ≤ v ∧ v ≤ (n : Int) - 1) (hn : n ≤ 1000) :
    Calls Tryz.prog 80 #[.int .i64 n, .slice A m c] w fun e w' => e = .returned (.slice (some ⟨w.heap.size, 0, none⟩) n n) ∧ w'.ownsRow w.heap.size 4 1 (.slice (some ⟨w.heap.size, 0, none⟩) n n) n (bls (inL n S)) ∧ Below w.heap.size w w' := by
  have HS := Lib.hid hS
  have HL := Lib.hid h.len
  have hle := h.le
  clear hS
  go_enter Tryz.func80, Tryz.ntmps80
  go_wp2_with (at_make; refine make_bl w rfl _ _ rfl n rfl rfl (by omega) ?_; intro w1 hown1 hg1)
  have hb1 := (Below.refl w.heap.size w).grown hg1 (Nat.le_refl _) (by simp)
  clear hg1
  go_loopw [6] (fun i wr => ∃ k : Nat, k ≤ m ∧ i = .int .i64 k ∧ wr.ownsRow w.heap.size 4 1 (.slice (some ⟨w.heap.size, 0, none⟩) n n) n (bls (inL n (S.take k))) ∧ Below w.heap.size w wr) (fun i _ => m - (intOf i).toNat)
  case atStart =>
    refine ⟨0, Nat.zero_le _, rfl, ?_, hb1⟩
    have e : inL n (S.take 0) = List.replicate n false := by
      unfold inL
      rw [List.take_zero]
      exact List.eq_replicate_iff.2 ⟨by simp, fun b hb => by obtain ⟨y, -, rfl⟩ := List.mem_map.1 hb; rfl⟩
    rw [e]
    exact hown1
  case round =>
    clear hown1 hb1
    obtain ⟨k, hk, rfl, hown, hTr⟩ := hrel
    by_cases hlt : k < m
    · have hk0 : (0 : Int) ≤ (k : Int) := by omega
      have hk1 : (k : Int) < (m : Int) := by omega
      obtain ⟨b, o, u, v, rfl, hc, ⟨rfl, hv0, hv1⟩, -, hx⟩ := h.at hlt
      have hvi := HS.out v (List.mem_of_getElem? hx)
      obtain ⟨x, rfl⟩ := Int.eq_ofNat_of_zero_le hvi.1
      have hxn : x < n := by omega
      have HSET := Lib.hid (inL_set hx hxn)
      replace hc := keepc hTr hc
      have hcell : wr.cell? ⟨w.heap.size, x, none⟩ = some (.bool (gB (inL n (S.take k)) x)) := by rw [hown.cellAt x (by omega), bls_get (by rw [inL_len]; exact hxn)]
      have hfz := hown.frozenAt x
      have hst := (hown.stored x (.bool true)).1
      rw [bls_set, HSET.out] at hst
      have hx0 : (0 : Int) ≤ (x : Int) := by omega
      have hx1 : (x : Int) < (n : Int) := by omega
      clear hx hown
      go_wp2_with fail
      go_roundw
      case rel => exact ⟨k + 1, by omega, by go_num, hst, hTr.setCell (Nat.le_refl _) _⟩
      case measure => simp [intOf]; try omega
    · have hk1 : ¬ (k : Int) < (m : Int) := by omega
      rw [List.take_of_length_le (by rw [HL.out]; omega)] at hown
      go_wp2_with fail
      go_ret
      exact ⟨rfl, hown, hTr⟩
set_option maxHeartbeats 2000000 in
theorem l5List_any (A : Option Addr) (n c : Nat) (L : List Bool) (w : World) (h : RdL RB w A n L) (hn : n ≤ 1000) :
    Calls Tryz.prog 82 #[.slice A n c] w (OwI w (markL n (gB L))) := by
  have hT := below_box w (.cells #[] 3)
  have hO := World.ownsRow_lit (base := w.heap.size) (e := 3) (size := 1) w #[] 0 (Nat.le_refl _) (Nat.zero_le _) rfl
  go_enter Tryz.func82, Tryz.ntmps82
  go_wp2_with fail
  go_loopw [3, 4] (fun s i wr => ∃ (k m : Nat) (A1 : Option Addr) (c1 : Nat), k ≤ n ∧ i = .int .i64 k ∧ s = .slice A1 m c1 ∧ m = (markL k (gB L)).length ∧ wr.ownsRow w.heap.size 3 1 (.slice A1 m c1) m (ints (markL k (gB L))) ∧ Below w.heap.size w wr) (fun _ i _ => n - (intOf i).toNat)
  case atStart => exact ⟨0, 0, _, _, Nat.zero_le _, rfl, rfl, rfl, hO, hT⟩
  case round =>
    clear hO hT
    obtain ⟨k, m, A1, c1, hk, rfl, rfl, hm, hown, hTr⟩ := hrel
    have hmk : m ≤ k := by rw [hm]; exact markL_le k (gB L)
    by_cases hlt : k < n
    · have hk0 : (0 : Int) ≤ (k : Int) := by omega
      have hk1 : (k : Int) < (n : Int) := by omega
      obtain ⟨b, o, u, v, rfl, hc, rfl, -, hx⟩ := (h.next stab_RB hTr).at hlt
      have HG := Lib.hid (gB_get hx)
      have HS := Lib.hid (markL_succ k (gB L))
      rw [HG.out] at HS
      have HMM := Lib.hid hm
      clear hx hm
      rcases v with _ | _
      · go_wp2_with fail
        go_roundw
        case rel => exact ⟨k + 1, m, A1, c1, by omega, by go_num, rfl, by rw [HS.out]; simpa using HMM.out, by rw [HS.out]; simpa using hown, hTr⟩
        case measure => simp [intOf]; try omega
      · have hsz := hTr.size
        go_wp2_with (at_builtin; refine app1 wr rfl _ _ 25 3 rfl (.int .i64 0) 8 Tryz.underlying25 info_int rfl (by decide) w.heap.size m c1 A1 (ints (markL k (gB L))) rfl hown (.int .i64 (k : Int)) rfl rfl (by omega) (by omega) ?_; intro A2 c2 w2 hown2 hg2 hb2)
        go_roundw
        case rel => exact ⟨k + 1, m + 1, A2, c2, by omega, by go_num, rfl, by rw [HS.out]; simpa using HMM.out, by rw [HS.out]; simpa [ints] using hown2, hTr.trans hb2⟩
        case measure => simp [intOf]; try omega
    · have hk1 : ¬ (k : Int) < (n : Int) := by omega
      obtain rfl : k = n := by omega
      have HMM := Lib.hid hm
      clear hm
      go_wp2_with fail
      go_ret
      exact ⟨A1, c1, by rw [HMM.out]; rfl, by rw [← HMM.out]; exact hown, hTr⟩
end Go.Proofs.YtidjocikbmkjbaaGreat
namespace Go.Proofs.YtidjocikbmkjbaaGreat
open Go.RowKit
set_option linter.unusedVariables false

set_option maxRecDepth 20000 in
set_option maxHeartbeats 8000000 in
theorem l5Step_any (cs : List Value) (x : AlgebraM) (A : Option Addr) (n c : Nat) (L : List Bool) (w : World) (h : shAlgebra.rd w cs x) (hx : AlgP x) (hn : x.1 = (n : Int)) (hr : RdL RB w A n L) :
    Calls Tryz.prog 81 #[.agg cs.toArray, .slice A n c] w fun e w' => ∃ A' c', e = .returned (.slice A' n c') ∧ w'.ownsRow w.heap.size 4 1 (.slice A' n c') n (bls (stL n x.2 L)) ∧ Below w.heap.size w w' := by
  obtain ⟨a, ops⟩ := x
  obtain ⟨hx1, hx2, hx3, hx4⟩ := hx
  simp only at hx1 hx2 hx3 hx4 hn
  subst hn
  rw [Int.toNat_natCast] at hx4
  have hn0 : 0 < n := by omega
  have hn8 : n ≤ 8 := by omega
  obtain ⟨B, m, d, rfl, -, qo⟩ := rdAlgebra h
  have HML := Lib.hid qo.len
  have HOPS := Lib.hid hx4
  have hm4 : m ≤ 4 := by rw [← qo.len]; exact hx3
  have HLL := Lib.hid hr.len
  obtain ⟨w0, hw0, T0, hsz0, BP⟩ := boxes1 w #[.int .i64 (n : Int), .slice B m d] 39
  have HW0 := Lib.hid hw0
  replace qo := qo.next T0
  have r0 := hr.next stab_RB T0
  have cP0 := BP.cell 0
  have cP1 := BP.cell 1
  simp at cP0 cP1
  have hb1 := below_box w0 (.cells #[] 4)
  have r1 := r0.next stab_RB hb1
  have hO : (w0.alloc (.cells #[] 4)).ownsRow w0.heap.size 4 1 (.slice (some ⟨w0.heap.size, 0, none⟩) 0 0) 0 [] := World.ownsRow_lit w0 #[] 0 (Nat.le_refl _) (Nat.zero_le _) rfl
  clear hw0 hsz0 hx3 hx4 h hr
  go_enter Tryz.func81, Tryz.ntmps81
  go_upto_region 1 with fail
  rw [← HW0.out]
  go_wp2_with (at_builtin; refine appAny (R := RB) _ rfl _ _ 78 4 rfl (.bool false) 1 Tryz.underlying78 info_bl rfl (by decide) w0.heap.size 0 0 _ [] rfl hO A n c L (fun b => .bool b) (fun _ => rfl) rfl r1 (fun _ _ _ hr => hr) (by omega) (by simp) ?_; intro A5 c5 w5 hown5 hg5 hb5)
  rw [show 0 + n = n from Nat.zero_add n, List.nil_append] at hown5
  obtain ⟨g5, rfl, -, -⟩ := own_form hown5 hn0
  have T5 := hb1.trans hb5
  clear hO r1 hb1 hb5 hg5
  go_wp2_with fail
  go_loopw [6] (fun i wr => ∃ (k : Nat) (M : List Bool), k ≤ m ∧ i = .int .i64 k ∧ Hid (StI n ops L M k 0) ∧ wr.ownsRow w0.heap.size 4 1 (.slice (some ⟨g5, 0, none⟩) n c5) n (bls M) ∧ Below w0.heap.size w0 wr) (fun i _ => m - (intOf i).toNat)
  case atStart => exact ⟨0, L, Nat.zero_le _, rfl, StI.start HLL.out, hown5, T5⟩
  case round =>
    clear hown5 T5
    obtain ⟨k, M, hk, rfl, HI, hown, hTr⟩ := hrel
    have kP1 := keepc hTr cP1
    by_cases hlt : k < m
    · have hk0 : (0 : Int) ≤ (k : Int) := by omega
      have hk1 : (k : Int) < (m : Int) := by omega
      obtain ⟨b, o, vs, op, rfl, -, hc, hrr, -, hxo⟩ := qo.at hlt
      obtain ⟨B', m', d', rfl, -, qt⟩ := rdOp hrr
      have hoP := HOPS.out op (List.mem_of_getElem? hxo)
      obtain ⟨ar, tb, rfl, har⟩ := op_nat hoP
      have HXO := Lib.hid hxo
      have HTL : Hid (m' = n ^ ar) := by show _ = _; rw [← qt.len]; have := hoP.2.2.1; simpa using this
      have HTB : Hid (tb.length = m') := qt.len
      have HTV := Lib.hid hoP.2.2.2
      have hm512 : m' ≤ 4096 := by rw [HTL.out]; exact pow_bd hn8 (by omega)
      have cc0 : w0.cell? ⟨b, o + k * 2, none⟩ = some (.int .i64 (ar : Int)) := hc 0 _ rfl
      have cc1 : w0.cell? ⟨b, o + k * 2 + 1, none⟩ = some (.slice B' m' d') := hc 1 _ rfl
      clear hc hrr hxo hoP
      go_wp2_with fail
      clear kP1
      go_loopw [7] (fun i wr => ∃ (q : Nat) (M : List Bool), q ≤ m' ∧ i = .int .i64 q ∧ Hid (StI n ops L M k q) ∧ wr.ownsRow w0.heap.size 4 1 (.slice (some ⟨g5, 0, none⟩) n c5) n (bls M) ∧ Below w0.heap.size w0 wr) (fun i _ => m' - (intOf i).toNat)
      case atStart => exact ⟨0, M, Nat.zero_le _, rfl, HI, hown, hTr⟩
      case round =>
        clear hown HI hTr
        obtain ⟨q, M, hq, rfl, HI, hown, hTr⟩ := hrel
        have kP0 := keepc hTr cP0
        have kP1 := keepc hTr cP1
        have kc0 := keepc hTr cc0
        have kc1 := keepc hTr cc1
        by_cases hlq : q < m'
        · have hq0 : (0 : Int) ≤ (q : Int) := by omega
          have hq1 : (q : Int) < (m' : Int) := by omega
          have HA : Hid (∀ wz, Below wr.heap.size wr wz → Calls Tryz.prog 101 #[.int .i64 (n : Int), .int .i64 (ar : Int), .int .i64 (q : Int)] wz fun e w' => ∃ g, e = .returned (.slice (some ⟨g, 0, none⟩) ar ar) ∧ w'.ownsRow wz.heap.size 3 1 (.slice (some ⟨g, 0, none⟩) ar ar) ar (ints (nats (digs n ar q))) ∧ Below wz.heap.size wz w') := fun wz hz => l2Args_any q ar n wz hn0 (by omega) (by omega) (by omega)
          have Tk : Below wr.heap.size wr wr := Below.refl _ _
          go_upto_region 8 with fail
          go_cut [8] from 32 to 69 (fun u8 wx => ∃ g, u8 = .slice (some ⟨g, 0, none⟩) ar ar ∧ wx.ownsRow wr.heap.size 3 1 (.slice (some ⟨g, 0, none⟩) ar ar) ar (ints (nats (digs n ar q))) ∧ Below wr.heap.size wr wx)
          case first =>
            go_region_held3 (fun w' => w'.cell? ⟨w.heap.size, 0, none⟩ = some (.int .i64 (n : Int)) ∧ w'.cell? ⟨w.heap.size, 1, none⟩ = some (.slice (some ⟨b, o, none⟩) m d) ∧ w'.cell? ⟨b, o + k * 2, none⟩ = some (.int .i64 (ar : Int))) (first | go_keep | exact ⟨keepc Tk kP0, keepc Tk kP1, keepc Tk kc0⟩) (first
              | (go_at_call 101; (with_reducible refine (HA.out _ ?_).mono ?_); (first | exact Tk | exact Below.drew Tk); rintro e wn ⟨g, rfl, hon, hbn⟩; replace Tk := below_next (by first | exact Tk | exact Below.drew Tk) hbn rfl))
            all_goals
              have HON := Lib.hid hon
              clear hon
              go_wp2_with fail
              go_meet
              exact ⟨g, rfl, HON.out, by first | exact Tk | exact Below.drew Tk⟩
          case rest =>
            obtain ⟨g, rfl, hoA, hTc⟩ := hcut
            obtain ⟨w9, HWC⟩ : ∃ wq : World, wq = wc := ⟨_, rfl⟩
            subst HWC
            have hown9 := own_next hown hTc
            have T9 := below_next hTr hTc rfl
            have rL := r0.next stab_RB T9
            obtain ⟨ds, HDS⟩ : ∃ l, Hid (digs n ar q = l) := ⟨_, rfl⟩
            have HDN : Hid (∀ dd ∈ ds, dd < n) := fun dd hdd => by rw [← HDS.out] at hdd; exact digs_lt hn0 hdd
            have HDL : Hid (ds.length = ar) := by show _ = _; rw [← HDS.out, digs_len]
            rw [HDS.out] at hoA
            clear kP0 kP1 kc0 kc1 hown
            go_wp2_with fail
            go_loop [9, 10] (fun al kk => ∃ p : Nat, p ≤ ar ∧ kk = .int .i64 p ∧ al = .bool ((ds.take p).all (gB L))) (fun _ kk => ar - (intOf kk).toNat)
            case atStart => exact ⟨0, Nat.zero_le _, rfl, rfl⟩
            case round =>
              obtain ⟨p, hp, rfl, rfl⟩ := hrel
              obtain ⟨al, HAL⟩ : ∃ z, Hid ((ds.take p).all (gB L) = z) := ⟨_, rfl⟩
              rw [HAL.out]
              by_cases hlp : p < ar
              · have hp0 : (0 : Int) ≤ (p : Int) := by omega
                have hp1 : (p : Int) < (ar : Int) := by omega
                have hpl : p < ds.length := by rw [HDL.out]; exact hlp
                have hdp : ds[p]? = some ds[p] := List.getElem?_eq_getElem hpl
                have hdn := HDN.out _ (List.getElem_mem hpl)
                generalize ds[p] = dd at hdp hdn
                have hcd : w9.cell? ⟨g, p, none⟩ = some (.int .i64 (dd : Int)) := by
                  rw [hoA.cellAt p (by omega)]
                  unfold ints nats
                  rw [List.getElem?_map, List.getElem?_map, hdp]
                  rfl
                obtain ⟨bb, bo, uu, bv, rfl, hcb, rfl, -, hxb⟩ := rL.at hdn
                have HTK : Hid ((ds.take (p + 1)).all (gB L) = (al && bv)) := by
                  show _ = _
                  rw [List.take_add_one, hdp, List.all_append, HAL.out, ← gB_get hxb]
                  simp
                have hd0 : (0 : Int) ≤ (dd : Int) := by omega
                have hd1 : (dd : Int) < (n : Int) := by omega
                clear hdp hxb
                rcases al with _ | _
                all_goals
                  go_wp2_with fail
                  go_round
                  case rel => exact ⟨p + 1, by omega, by go_num, by rw [HTK.out]; rfl⟩
                  case measure => simp [intOf]; try omega
              · obtain rfl : p = ar := by omega
                have hp1 : ¬ (p : Int) < (p : Int) := by omega
                have HAM : Hid (AllM n p q L = al) := by
                  show _ = _
                  unfold AllM
                  rw [HDS.out, ← HAL.out, List.take_of_length_le (by rw [HDL.out]; exact Nat.le_refl _)]
                obtain ⟨b3, o3, u3, v, rfl, hc3, ⟨rfl, -, -⟩, -, hxv⟩ := (qt.next stab_RI T9).at hlq
                have hvi := HTV.out v (List.mem_of_getElem? hxv)
                obtain ⟨y, rfl⟩ := Int.eq_ofNat_of_zero_le hvi.1
                have hyn : y < n := by omega
                have HXV := Lib.hid hxv
                have hll := HI.out.len
                have hcell : w9.cell? ⟨g5, y, none⟩ = some (.bool (gB M y)) := by rw [hown9.cellAt y (by omega), bls_get (by omega)]
                have hy0 : (0 : Int) ≤ (y : Int) := by omega
                have hy1 : (y : Int) < (n : Int) := by omega
                have hfz := hown9.frozenAt y
                have hst := (hown9.stored y (.bool true)).1
                rw [bls_set] at hst
                have HST := Lib.hid hst
                have hg5 := (hown9.lt g5 rfl).1
                have kP1 := keepc T9 cP1
                have kc1 := keepc T9 cc1
                clear hst hxv
                rcases al with _ | _
                · have HI2 : Hid (StI n ops L M k (q + 1)) := HI.out.skip HXO.out (by simpa using HAM.out)
                  go_wp2_with fail
                  go_roundw
                  case rel => exact ⟨q + 1, M, by omega, by go_num, HI2, hown9, T9⟩
                  case measure => simp [intOf]; try omega
                · have HI2 : Hid (StI n ops L (M.set y true) k (q + 1)) := HI.out.mark HXO.out HXV.out hyn (by simpa using HAM.out)
                  go_wp2_with fail
                  go_roundw
                  case rel => exact ⟨q + 1, M.set y true, by omega, by go_num, HI2, HST.out, T9.setCell hg5 _⟩
                  case measure => simp [intOf]; try omega
        · have hq1 : ¬ (q : Int) < (m' : Int) := by omega
          have HI2 : Hid (StI n ops L M (k + 1) 0) := HI.out.next HXO.out (by have := HTB.out; simp only; omega)
          go_wp2_with fail
          go_roundw
          case rel => exact ⟨k + 1, M, by omega, by go_num, HI2, hown, hTr⟩
          case measure => simp [intOf]; try omega
    · have hk1 : ¬ (k : Int) < (m : Int) := by omega
      have HD : Hid (M = stL n ops L) := HI.out.done (by rw [HML.out]; exact hlt)
      have hz0 := T0.size
      go_wp2_with fail
      go_ret
      exact ⟨_, c5, rfl, by rw [← HD.out]; exact own_mono hown hz0, below_next T0 hTr rfl⟩
end Go.Proofs.YtidjocikbmkjbaaGreat
namespace Go.Proofs.YtidjocikbmkjbaaGreat
open Go.RowKit
set_option linter.unusedVariables false

set_option maxRecDepth 20000 in
set_option maxHeartbeats 4000000 in
theorem l5Close_any (cs : List Value) (x : AlgebraM) (A : Option Addr) (m c : Nat) (S : List Int) (w : World) (h : shAlgebra.rd w cs x) (hx : AlgP x) (hr : RdL RI w A m S) (hS : ∀ v ∈ S, 0 ≤ v ∧ v ≤ x.1 - 1) :
    Calls Tryz.prog 48 #[.agg cs.toArray, .slice A m c] w (OwI w (genL x.1.toNat x.2 S)) := by
  have hrd := h
  obtain ⟨B, k, d, rfl, -, qo⟩ := rdAlgebra h
  obtain ⟨n, hN⟩ : ∃ n : Nat, x.1 = (n : Int) := ⟨x.1.toNat, by have := hx.1; omega⟩
  have HNN := Lib.hid hN
  have hn8 : n ≤ 8 := by have := hx.2.1; omega
  have hn0 : 0 < n := by have := hx.1; omega
  have HNT : Hid (x.1.toNat = n) := by show _ = _; omega
  obtain ⟨w0, hw0, T0, hsz0, BP⟩ := boxes1 w #[.int .i64 x.1, .slice B k d] 39
  have HW0 := Lib.hid hw0
  have HRD : Hid (∀ wz, Below w0.heap.size w0 wz → shAlgebra.rd wz [.int .i64 x.1, .slice B k d] x) := fun wz hz => shAlgebra.stab (shAlgebra.stab hrd T0.block) hz.block
  rw [hN] at HW0 BP hS HRD
  have cP0 := BP.cell 0
  have cP1 := BP.cell 1
  simp at cP0 cP1
  have HX := Lib.hid hx
  have HS := Lib.hid hS
  have HI := Lib.hid (l5In_any A m c n S w0 (hr.next stab_RI T0) HS.out (by omega))
  have HV : Hid (∀ o ∈ x.2, ∀ v ∈ o.2, 0 ≤ v ∧ v ≤ (n : Int) - 1) := fun o ho => by have := (hx.2.2.2 o ho).2.2.2; rw [HNT.out] at this; exact this
  rw [HNT.out]
  rw [hN]
  clear hw0 hsz0 hrd qo h hx hr hS hN
  go_enter Tryz.func48, Tryz.ntmps48
  go_upto_region 1 with fail
  rw [← HW0.out]
  go_wp2_with fail
  refine HI.out.mono ?_
  rintro e w1 ⟨rfl, ho1, hb1⟩
  have r1 := rd_of_own (R := RB) ho1 (fun z _ => rfl)
  clear ho1
  go_wp2_with fail
  go_loopw [5, 6] (fun s i wr => ∃ (j : Nat) (A5 : Option Addr) (c5 : Nat), j ≤ n + 1 ∧ i = .int .i64 j ∧ s = .slice A5 n c5 ∧ RdL RB wr A5 n (stN n x.2 j (inL n S)) ∧ Below w0.heap.size w0 wr) (fun _ i _ => n + 1 - (intOf i).toNat)
  case atStart => exact ⟨0, _, _, Nat.zero_le _, rfl, rfl, r1, hb1⟩
  case round =>
    clear r1 hb1
    obtain ⟨j, A5, c5, hj, rfl, rfl, hr5, hTr⟩ := hrel
    have kP0 := keepc hTr cP0
    have kP1 := keepc hTr cP1
    by_cases hlt : j < n + 1
    · have hj1 : (j : Int) ≤ (n : Int) := by omega
      have HC := Lib.hid (l5Step_any _ x A5 n c5 _ wr (HRD.out _ hTr) HX.out HNN.out hr5)
      clear hr5
      go_wp2_with fail
      refine HC.out.mono ?_
      rintro e w2 ⟨A6, c6, rfl, ho6, hb6⟩
      have r6 := rd_of_own (R := RB) ho6 (fun z _ => rfl)
      clear ho6
      go_wp2_with fail
      go_roundw
      case rel => exact ⟨j + 1, A6, c6, by omega, by go_num, rfl, r6, below_next hTr hb6 rfl⟩
      case measure => simp [intOf]; try omega
    · obtain rfl : j = n + 1 := by omega
      have hj1 : ¬ ((n + 1 : Nat) : Int) ≤ (n : Int) := by omega
      have HE : Hid (markL n (gB (stN n x.2 (n + 1) (inL n S))) = genL n x.2 S) := markL_congr fun y hy => stN_cl hn0 (inL_len _ _) HV.out hy
      have HC := Lib.hid (l5List_any A5 n c5 _ wr hr5 (by omega))
      rw [HE.out] at HC
      clear hr5 kP1
      go_wp2_with fail
      refine HC.out.mono ?_
      rintro e w2 ⟨A6, c6, rfl, ho6, hb6⟩
      go_wp2_with fail
      go_ret
      exact ⟨A6, c6, rfl, own_mono ho6 (Nat.le_trans T0.size hTr.size), below_next T0 (below_next hTr hb6 rfl) rfl⟩
set_option maxHeartbeats 4000000 in
theorem l5Is_any (cs : List Value) (x : AlgebraM) (A : Option Addr) (m c : Nat) (S : List Int) (w : World) (h : shAlgebra.rd w cs x) (hx : AlgP x) (hr : RdL RI w A m S) :
    Calls Tryz.prog 77 #[.agg cs.toArray, .slice A m c] w (Bl w (.bool (subB x.1.toNat x.2 S))) := by
  have hrd := h
  obtain ⟨B, k, d, rfl, -, qo⟩ := rdAlgebra h
  obtain ⟨n, hN⟩ : ∃ n : Nat, x.1 = (n : Int) := ⟨x.1.toNat, by have := hx.1; omega⟩
  have HNN := Lib.hid hN
  have hn8 : n ≤ 8 := by have := hx.2.1; omega
  have hn0 : 0 < n := by have := hx.1; omega
  have HNT : Hid (x.1.toNat = n) := by show _ = _; omega
  obtain ⟨w0, hw0, T0, hsz0, BP⟩ := boxes1 w #[.int .i64 x.1, .slice B k d] 39
  have HW0 := Lib.hid hw0
  have HRD : Hid (∀ wz, Below w0.heap.size w0 wz → shAlgebra.rd wz [.int .i64 x.1, .slice B k d] x) := fun wz hz => shAlgebra.stab (shAlgebra.stab hrd T0.block) hz.block
  rw [hN] at HW0 BP HRD
  have cP0 := BP.cell 0
  have cP1 := BP.cell 1
  simp at cP0 cP1
  have HX := Lib.hid hx
  have r0 := hr.next stab_RI T0
  have HI := Lib.hid (l1Rising_any A m c S 0 ((n : Int) - 1) w0 r0)
  obtain ⟨b1, HB1⟩ : ∃ b, Hid ((allIn 0 ((n : Int) - 1) S && risesL S) = b) := ⟨_, rfl⟩
  rw [HB1.out] at HI
  have HR : Hid (subB n x.2 S = (b1 && decide ((genL n x.2 S).length = S.length))) := by show _ = _; unfold subB; rw [HB1.out]
  rw [HNT.out]
  rw [hN]
  clear hw0 hsz0 hrd qo h hx hr hN
  go_enter Tryz.func77, Tryz.ntmps77
  go_upto_region 1 with fail
  rw [← HW0.out]
  go_wp2_with fail
  refine HI.out.mono ?_
  rintro e w1 ⟨rfl, z, rfl⟩
  rcases b1 with _ | _
  · go_wp2_with fail
    go_ret
    exact ⟨ret_bool (by rw [HR.out]; rfl), below_drewN T0 z⟩
  have hb := HB1.out
  rw [Bool.and_eq_true] at hb
  have hin : ∀ v ∈ S, 0 ≤ v ∧ v ≤ x.1 - 1 := fun v hv => by rw [HNN.out]; exact allIn_m.1 hb.1 v hv
  have HEQ := Lib.hid (gen_eq (n := n) (ops := x.2) (fun v hv => allIn_m.1 hb.1 v hv) hb.2)
  have HG := Lib.hid (l5Close_any _ x A m c S (w0.drewN z) (HRD.out _ (below_drewN (Below.refl _ _) z)) HX.out (r0.drewN stab_RI z) hin)
  rw [HNT.out] at HG
  have HGB := Lib.hid (genL_bd (n := n) (ops := x.2) (S := S) (by omega))
  obtain ⟨gl, HGL⟩ : ∃ l, Hid (genL n x.2 S = l) := ⟨_, rfl⟩
  rw [HGL.out] at HG HR HGB HEQ
  clear hin hb
  go_wp2_with fail
  refine HG.out.mono ?_
  rintro e w2 ⟨A2, c2, rfl, ho2, hb2⟩
  have r2 := rd_of_own (R := RI) ho2 (RI_ints HGB.out)
  have T2 := below_next T0 ((below_drewN (Below.refl _ _) z).trans hb2) rfl
  have HSM := Lib.hid (l1Same_any A2 A gl.length m c2 c gl S w2 r2 (r0.next stab_RI ((below_drewN (Below.refl _ _) z).trans hb2)))
  clear ho2
  go_wp2_with fail
  refine HSM.out.mono ?_
  rintro e w3 h3
  have h3' : e = .returned (.bool (eqL gl S)) ∧ Below w2.heap.size w2 w3 := by
    first
      | (obtain ⟨rfl, rfl⟩ := h3; exact ⟨rfl, Below.refl _ _⟩)
      | (obtain ⟨rfl, z3, rfl⟩ := h3; exact ⟨rfl, below_drewN (Below.refl _ _) z3⟩)
  obtain ⟨rfl, hb3⟩ := h3'
  have HEL : Hid (eqL gl S = decide (gl.length = S.length)) := by
    show _ = _
    rw [Bool.eq_iff_iff, decide_eq_true_iff, HEQ.out]
    exact eqL_iff
  clear h3
  go_wp2_with fail
  go_ret
  exact ⟨ret_bool (by rw [HR.out, HEL.out]; rfl), below_next T2 hb3 rfl⟩
set_option maxHeartbeats 2000000 in
theorem isSubU_any (cs : List Value) (x : AlgebraM) (A : Option Addr) (m c : Nat) (S : List Int) (w : World) (h : shAlgebra.rd w cs x) (hx : AlgP x) (hr : RdL RI w A m S) :
    Calls Tryz.prog 44 #[.agg cs.toArray, .slice A m c] w (Bl w (.tuple #[.bool (subB x.1.toNat x.2 S), .bool true])) := by
  have hrd := h
  obtain ⟨B, k, d, rfl, -, qo⟩ := rdAlgebra h
  obtain ⟨w0, hw0, T0, hsz0, BP⟩ := boxes1 w #[.int .i64 x.1, .slice B k d] 39
  have HW0 := Lib.hid hw0
  have HRD : Hid (∀ wz, Below w0.heap.size w0 wz → shAlgebra.rd wz [.int .i64 x.1, .slice B k d] x) := fun wz hz => shAlgebra.stab (shAlgebra.stab hrd T0.block) hz.block
  have cP0 := BP.cell 0
  have cP1 := BP.cell 1
  simp at cP0 cP1
  have HX := Lib.hid hx
  have r0 := hr.next stab_RI T0
  have HG := Lib.hid (l2Good_any _ x w0 (HRD.out _ (Below.refl _ _)))
  rw [alg_iff.2 hx] at HG
  obtain ⟨sb, HSB⟩ : ∃ b, Hid (subB x.1.toNat x.2 S = b) := ⟨_, rfl⟩
  rw [HSB.out]
  clear hw0 hsz0 hrd qo h hx hr
  go_enter Tryz.func44, Tryz.ntmps44
  go_upto_region 1 with fail
  rw [← HW0.out]
  go_wp2_with fail
  refine HG.out.mono ?_
  rintro e w1 ⟨rfl, hb1⟩
  replace cP0 := keepc hb1 cP0
  replace cP1 := keepc hb1 cP1
  have HC := Lib.hid (l5Is_any _ x A m c S w1 (HRD.out _ hb1) HX.out (r0.next stab_RI hb1))
  rw [HSB.out] at HC
  go_wp2_with fail
  refine HC.out.mono ?_
  rintro e w2 ⟨rfl, hb2⟩
  go_wp2_with fail
  go_ret2
  exact ⟨rfl, below_next T0 (below_next hb1 hb2 rfl) rfl⟩
end Go.Proofs.YtidjocikbmkjbaaGreat
