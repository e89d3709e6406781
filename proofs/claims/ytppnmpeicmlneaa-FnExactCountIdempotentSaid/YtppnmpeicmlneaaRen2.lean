
/- Walks: an algebra by other names (the program's rename). -/
import Derived.Test.YtppnmpeicmlneaaRen
namespace Go.Proofs.Ytppnmpeicmlneaa
open Go.RowKit

def opsTo (z : Nat) (s : List Int) (ops : List OpM) (k : Nat) : List OpM := (ops.take k).map (renOp z s) ++ ops.drop k
theorem opsTo_len (z : Nat) (s : List Int) (ops : List OpM) (k : Nat) : (opsTo z s ops k).length = ops.length := by unfold opsTo; simp; omega
theorem opsTo_get {z : Nat} {s : List Int} {ops : List OpM} {k : Nat} {y : OpM} (h : ops[k]? = some y) : (opsTo z s ops k)[k]? = some y := by
  have hk := (List.getElem?_eq_some_iff.1 h).1
  unfold opsTo
  rw [List.getElem?_append_right (by simp; omega)]
  simp
  rw [show k + (k - min k ops.length) = k by omega]
  exact h
theorem opsTo_next {z : Nat} {s : List Int} {ops : List OpM} {k : Nat} {y : OpM} (h : ops[k]? = some y) : (opsTo z s ops k).set k (renOp z s y) = opsTo z s ops (k + 1) := by
  have hk := (List.getElem?_eq_some_iff.1 h).1
  unfold opsTo
  rw [take_snoc h, List.map_append, List.set_append_right _ _ (by simp; omega)]
  have : ops.drop k = y :: ops.drop (k + 1) := by
    rw [List.drop_eq_getElem_cons hk]
    congr
    exact (List.getElem?_eq_some_iff.1 h).2
  rw [this]
  simp
  rw [show k - min k ops.length = 0 by omega]
  rfl
theorem opsTo_all {z : Nat} {s : List Int} {ops : List OpM} {k : Nat} (h : ops.length ≤ k) : opsTo z s ops k = ops.map (renOp z s) := by
  unfold opsTo
  rw [List.take_of_length_le h, List.drop_eq_nil_of_le h, List.append_nil]
def mixD (s : List Int) (D : List Nat) (j : Nat) : List Nat := (D.take j).map (nmAt s) ++ D.drop j
theorem mixD_zero (s : List Int) (D : List Nat) : mixD s D 0 = D := rfl
theorem mixD_len (s : List Int) (D : List Nat) (j : Nat) : (mixD s D j).length = D.length := by unfold mixD; simp; omega
theorem mixD_get {s : List Int} {D : List Nat} {j d : Nat} (h : D[j]? = some d) : (mixD s D j)[j]? = some d := by
  have hk := (List.getElem?_eq_some_iff.1 h).1
  unfold mixD
  rw [List.getElem?_append_right (by simp; omega)]
  simp
  rw [show j + (j - min j D.length) = j by omega]
  exact h
theorem mixD_next {s : List Int} {D : List Nat} {j d : Nat} (h : D[j]? = some d) : (mixD s D j).set j (nmAt s d) = mixD s D (j + 1) := by
  have hk := (List.getElem?_eq_some_iff.1 h).1
  unfold mixD
  rw [take_snoc h, List.map_append, List.set_append_right _ _ (by simp; omega)]
  have : D.drop j = d :: D.drop (j + 1) := by
    rw [List.drop_eq_getElem_cons hk]
    congr
    exact (List.getElem?_eq_some_iff.1 h).2
  rw [this]
  simp
  rw [show j - min j D.length = 0 by omega]
  rfl
theorem mixD_all {s : List Int} {D : List Nat} {j : Nat} (h : D.length ≤ j) : mixD s D j = D.map (nmAt s) := by
  unfold mixD
  rw [List.take_of_length_le h, List.drop_eq_nil_of_le h, List.append_nil]
theorem nats_set (l : List Nat) (p v : Nat) : (nats l).set p (v : Int) = nats (l.set p v) := by simp [nats, List.map_set]
theorem nats_at {l : List Nat} {k d : Nat} (h : l[k]? = some d) : (nats l)[k]? = some (d : Int) := by simp [nats, h]
theorem nats_R {l : List Nat} {b : Nat} (h : ∀ d ∈ l, d ≤ b) (hb : b ≤ 1048576) {w : World} : ∀ v ∈ nats l, RI w (.int .i64 v) v := by
  intro v hv
  unfold nats at hv
  rw [List.mem_map] at hv
  obtain ⟨d, hd, rfl⟩ := hv
  have := h d hd
  exact ⟨rfl, by omega, by omega⟩
theorem op_len {n : Nat} {o : OpM} (h : OpP n o) (hn : n ≤ 8) : o.2.length ≤ 4096 := by
  rw [h.2.2.1]
  exact pow_bd hn (by have := h.2.1; omega)
theorem cnt_small {x : AlgebraM} (h : SmallP x) : shAlgebra.cnt x ≤ 1048576 := by
  have key : ∀ l : List OpM, (∀ o ∈ l, OpP x.1.toNat o) → cntS shOp.cnt l ≤ l.length * 4096 := by
    intro l
    induction l with
    | nil => intro _; exact Nat.zero_le _
    | cons o l ih =>
      intro hl
      rw [cntS_cons, List.length_cons, Nat.succ_mul]
      have h1 := ih fun o ho => hl o (by simp [ho])
      have h2 := op_len (hl o (by simp)) (by have := h.2.1; omega)
      have h3 : shOp.cnt o = 0 + o.2.length := rfl
      omega
  have h1 := key x.2 h.2.2.2
  have h2 := h.2.2.1
  have h3 : shAlgebra.cnt x = 0 + (x.2.length + cntS shOp.cnt x.2) := rfl
  have h4 := Nat.mul_le_mul_right 4096 h2
  omega

theorem cell_far {w : World} {p a : Addr} {v u : Value} (h : a.block ≠ p.block) (hc : w.cell? a = some v) : (w.setCell p u).cell? a = some v := (World.cell?_of_block (Below.heap_setCell w p u _ h)).trans hc
theorem cell_farD {w : World} {p a : Addr} {v u : Value} (h : a.block ≠ p.block) (hc : w.cell? a = some v) : (w.setCell p u).drew.cell? a = some v := cell_far h hc
set_option maxRecDepth 20000 in
set_option maxHeartbeats 8000000 in
theorem rename_any (cs : List Value) (x : AlgebraM) (N : Option Addr) (n cN : Nat) (s : List Int) (w : World) (h : shAlgebra.rd w cs x) (hs : RdL RI w N n s) (hx : SmallP x) (hp : PermL x.1.toNat s) :
    Calls Try.prog 120 #[.agg cs.toArray, .slice N n cN] w (AlgE w (ren x s)) := by
  have hcnt := cnt_small hx
  obtain ⟨a, ops⟩ := x
  obtain ⟨z, rfl⟩ : ∃ z : Nat, a = (z : Int) := ⟨a.toNat, by have h1 : 1 ≤ a := hx.1; omega⟩
  have hz1 : 1 ≤ z := by have h1 : (1 : Int) ≤ (z : Int) := hx.1; omega
  have hz5 : z ≤ 5 := by have h1 : (z : Int) ≤ 5 := hx.2.1; omega
  have hm4 : ops.length ≤ 4 := hx.2.2.1
  have HOP : Hid (∀ o ∈ ops, OpP z o) := fun o ho => by have := hx.2.2.2 o ho; simpa using this
  have HPM : Hid (PermL z s) := by show PermL z s; simpa using hp
  have hnz : n = z := by rw [← hs.len]; exact HPM.out.1
  subst hnz
  have HREN : Hid (ren ((n : Int), ops) s = ((n : Int), ops.map (renOp n s))) := by show _ = _; unfold ren; simp
  have hrd := h
  obtain ⟨B, m, d, rfl, qs, qo⟩ := rdAlgebra h
  obtain rfl : ops.length = m := qo.len
  obtain ⟨w0, hw0, T0, hs0, BP, BR⟩ := boxes2 w #[.int .i64 (n : Int), .slice B ops.length d] #[.int .i64 0, .slice none 0 0] 41 41
  have HW0 := Lib.hid hw0
  have HZ0 := Lib.hid hs0
  have hrd0 := shAlgebra.stab hrd T0.block
  have cP0 := BP.cell 0
  have cP1 := BP.cell 1
  simp at cP0 cP1
  rw [hw0] at cP0 cP1
  rw [HREN.out]
  clear hw0 hs0 hp hx
  go_enter Try.func120, Try.ntmps120
  go_wp2_with fail
  rw [← HW0.out]
  refine (cloneAlgebra_any _ _ _ hrd0 hcnt).mono ?_
  rintro e w1 ⟨v, css, bls, rfl, hPO, hb1⟩
  replace hPO : PO w0.heap.size w1 v ops css bls := hPO
  obtain ⟨VA, vc, rfl⟩ := own_slice hPO.2.1
  have T1 := below_next T0 hb1 rfl
  replace BP := BP.next hb1
  replace BR := BR.next hb1
  obtain ⟨w2, hw2, T2', hs2, BB⟩ := boxes1 w1 #[.int .i64 (n : Int), .slice VA ops.length vc] 41
  have HW2 : Hid (_ = w2) := hw2.symm
  have HGB : Hid (w1.heap.size ∉ obl (.slice VA ops.length vc) ++ bls.flatten) := fun hh => by have := (hPO.2.2.2 _ hh).2; omega
  have hgl : w0.heap.size ≤ w1.heap.size := hb1.size
  have T2 := below_next T1 T2' rfl
  replace BP := BP.next T2'
  replace BR := BR.next T2'
  replace hPO := hPO.next T2'
  have cP1 := BP.cell 1
  simp at cP1
  rw [hw2] at cP1
  clear hw2 hs2 cP0 hb1
  go_wp2_with fail
  clear cP1
  go_loopw [18] (fun i wr => ∃ (k : Nat), k ≤ ops.length ∧ i = .int .i64 k ∧ Blk wr w.heap.size 41 #[.int .i64 (n : Int), .slice B ops.length d] ∧ Blk wr (w.heap.size + 1) 41 #[.int .i64 0, .slice none 0 0] ∧ Blk wr w1.heap.size 41 #[.int .i64 (n : Int), .slice VA ops.length vc] ∧ PO w0.heap.size wr (.slice VA ops.length vc) (opsTo n s ops k) css bls ∧ Below w.heap.size w wr) (fun i _ => ops.length - (intOf i).toNat)
  case atStart =>
    rw [HW2.out]
    exact ⟨0, Nat.zero_le _, rfl, BP, BR, BB, hPO, T2⟩
  case round =>
    clear hPO BP BR BB T1 T2
    obtain ⟨k, hk, rfl, BP, BR, BB, hPO, hT⟩ := hrel
    by_cases hlt : k < ops.length
    · obtain ⟨wo, hwo⟩ : ∃ wo : World, wo = wr := ⟨_, rfl⟩
      subst hwo
      have hk0 : (0 : Int) ≤ (k : Int) := by omega
      have hk1 : (k : Int) < (ops.length : Int) := by omega
      obtain ⟨b, o, vs, y, rfl, -, hc, hr, -, hyk⟩ := qo.at hlt
      obtain ⟨ya, ty⟩ := y
      have hyp := HOP.out (ya, ty) (List.mem_of_getElem? hyk)
      obtain ⟨kk, rfl⟩ : ∃ kk : Nat, ya = (kk : Int) := ⟨ya.toNat, by have h1 : 0 ≤ ya := hyp.1; omega⟩
      obtain ⟨B', m', d', rfl, qa, qt⟩ := rdOp hr
      obtain rfl : ty.length = m' := qt.len
      have hkk3 : kk ≤ 3 := by have h1 : (kk : Int) ≤ 3 := hyp.2.1; omega
      have HYL : Hid (ty.length = n ^ kk) := by show _ = _; have := hyp.2.2.1; simpa using this
      have HYB : Hid (∀ v ∈ ty, 0 ≤ v ∧ v ≤ (n : Int) - 1) := hyp.2.2.2
      have HRO : Hid (renOp n s ((kk : Int), ty) = ((kk : Int), renTo n kk s ty ty ty.length)) := by show _ = _; unfold renOp; simp
      have hyl8 : ty.length ≤ 4096 := by rw [HYL.out]; exact pow_bd (by omega) (by omega)
      have cc0 : wo.cell? ⟨b, o + k * 2, none⟩ = some (.int .i64 (kk : Int)) := keepc hT (hc 0 _ rfl)
      have cc1 : wo.cell? ⟨b, o + k * 2 + 1, none⟩ = some (.slice B' ty.length d') := keepc hT (hc 1 _ rfl)
      obtain ⟨w5, hw5, T5, hs5, BQ⟩ := boxes1 wo #[.int .i64 (kk : Int), .slice B' ty.length d'] 102
      have HW5 : Hid (_ = w5) := hw5.symm
      have HYK := Lib.hid hyk
      have hP5 := hPO.next T5
      have BP5 := BP.next T5
      have BR5 := BR.next T5
      have BB5 := BB.next T5
      have hT5 := below_next hT T5 rfl
      have hgq : w1.heap.size < wo.heap.size := BB.lt
      have hdt := hT.size
      have HST : Hid (PO w0.heap.size w5 (.slice VA ops.length vc) ((opsTo n s ops k).set k ((kk : Int), renTo n kk s ty ty 0)) css bls) := by
        show PO _ _ _ _ _ _
        have e : (opsTo n s ops k).set k ((kk : Int), renTo n kk s ty ty 0) = opsTo n s ops k := set_nil_same (opsTo_get hyk)
        rw [e]
        exact hP5
      have HQW : Hid (wo.heap.size ∉ obl (.slice VA ops.length vc) ++ bls.flatten) := fun hh => by have := (hPO.2.2.2 _ hh).2; omega
      have cF0 := BQ.cell 0
      have cF1 := BQ.cell 1
      simp at cF0 cF1
      rw [hw5] at cF0 cF1
      clear hw5 hs5 hc hr hyk hyp hPO hP5
      go_wp2_with fail
      clear cF0 cF1
      go_loopw [26] (fun i wi => ∃ q : Nat, q ≤ ty.length ∧ i = .int .i64 q ∧ Blk wi w.heap.size 41 #[.int .i64 (n : Int), .slice (some ⟨b, o, none⟩) ops.length d] ∧ Blk wi (w.heap.size + 1) 41 #[.int .i64 0, .slice none 0 0] ∧ Blk wi w1.heap.size 41 #[.int .i64 (n : Int), (.slice VA ops.length vc)] ∧ Blk wi wo.heap.size 102 #[.int .i64 (kk : Int), .slice B' ty.length d'] ∧ PO w0.heap.size wi (.slice VA ops.length vc) ((opsTo n s ops k).set k ((kk : Int), renTo n kk s ty ty q)) css bls ∧ Below w.heap.size w wi) (fun i _ => ty.length - (intOf i).toNat)
      case atStart =>
        rw [HW5.out]
        exact ⟨0, Nat.zero_le _, rfl, BP5, BR5, BB5, BQ, HST.out, hT5⟩
      case round =>
        clear BP5 BR5 BB5 BQ HST hT5 BP BR BB
        obtain ⟨q, hq, rfl, BP, BR, BB, BQ, hPO, hTi⟩ := hrel
        by_cases hltq : q < ty.length
        · obtain ⟨wi, hwi⟩ : ∃ wi : World, wi = wr := ⟨_, rfl⟩
          subst hwi
          have hq0 : (0 : Int) ≤ (q : Int) := by omega
          have hq1 : (q : Int) < (ty.length : Int) := by omega
          obtain ⟨b', o', u0, u, rfl, hcu, ⟨rfl, -⟩, -, hxu⟩ := (qt.next stab_RI hTi).at hltq
          have hub := HYB.out u (List.mem_of_getElem? hxu)
          obtain ⟨u, rfl⟩ := Int.eq_ofNat_of_zero_le hub.1
          have hun : u < n := by omega
          obtain ⟨J, HJ⟩ : ∃ J, Hid (toI n kk s q = J) := ⟨_, rfl⟩
          have hJ : J < ty.length := by rw [← HJ.out, HYL.out]; exact toI_lt (by omega) HPM.out q
          obtain ⟨nm, hnm1, hnmn, hnm2⟩ := HPM.out.at hun
          have HSTEP : Hid (renTo n kk s ty ty (q + 1) = (renTo n kk s ty ty q).set J (nm : Int)) := by
            show _ = _
            rw [renTo, HJ.out, List.getD_eq_getElem?_getD, hxu]
            show (renTo n kk s ty ty q).set J (nmI s (u : Int)) = _
            have := nmI_get hnm1
            rw [this]
          have HNM := Lib.hid hnm1
          have HXU := Lib.hid hxu
          have cQ0 := BQ.cell 0
          have cQ1 := BQ.cell 1
          have cP0 := BP.cell 0
          simp at cQ0 cQ1 cP0
          clear hxu hub hnm1 hnm2
          go_wp2_with fail
          refine (argsAt_any q kk n _ (by omega) (by omega) (by omega) (by omega)).mono ?_
          rintro e w6 ⟨g, rfl, hA, hb6⟩
          obtain ⟨D, HD⟩ : ∃ D, Hid (digs n kk q = D) := ⟨_, rfl⟩
          have HDL : Hid (D.length = kk) := by show _ = _; rw [← HD.out, digs_len]
          have HDB : Hid (∀ x ∈ D, x < n) := by show ∀ x ∈ D, _; rw [← HD.out]; exact fun x hx => digs_lt (by omega) hx
          rw [HD.out] at hA
          have HJ2 : Hid (idx n (D.map (nmAt s)) = J) := by show _ = _; rw [← HD.out]; exact HJ.out
          clear cQ0 cQ1 cP0 hcu
          go_wp2_with fail
          go_loopw [39] (fun i wj => ∃ j : Nat, j ≤ kk ∧ i = .int .i64 j ∧ wj.ownsRow wi.heap.size 3 1 (.slice (some ⟨g, 0, none⟩) kk kk) kk (ints (nats (mixD s D j))) ∧ Below wi.heap.size wi wj) (fun i _ => kk - (intOf i).toNat)
          case atStart => exact ⟨0, Nat.zero_le _, rfl, hA, hb6⟩
          case round =>
            clear hA hb6
            obtain ⟨j, hj, rfl, hA, hTj⟩ := hrel
            have hTw := below_next hTi hTj rfl
            by_cases hltj : j < kk
            · have hj0 : (0 : Int) ≤ (j : Int) := by omega
              have hj1 : (j : Int) < (kk : Int) := by omega
              obtain ⟨dj, hdj⟩ : ∃ dj, D[j]? = some dj := ⟨_, List.getElem?_eq_getElem (by rw [HDL.out]; exact hltj)⟩
              have hdn := HDB.out dj (List.mem_of_getElem? hdj)
              obtain ⟨v', hv', hvn, hnm'⟩ := HPM.out.at hdn
              obtain ⟨nb, no, nv, nx, rfl, hcn, ⟨rfl, -⟩, -, hxn⟩ := (hs.next stab_RI hTw).at (k := dj) hdn
              rw [hv'] at hxn
              injection hxn with hxn
              subst hxn
              have hcell : wr.cell? ⟨g, j, none⟩ = some (.int .i64 (dj : Int)) := (hA.cellAt j (by omega)).trans (by show (List.map (Value.int .i64) (nats (mixD s D j)))[j]? = _; rw [List.getElem?_map, nats_at (mixD_get hdj)]; rfl)
              have hfz : wr.frozen? ⟨g, j, none⟩ = false := hA.frozenAt j
              have hst := (hA.stored j (.int .i64 (v' : Int))).1
              rw [ints_set, nats_set, ← hnm', mixD_next hdj, hnm'] at hst
              have hgl2 := (hA.lt g rfl).1
              have hd0 : (0 : Int) ≤ (dj : Int) := by omega
              have hd1 : (dj : Int) < (n : Int) := by omega
              have HST2 := Lib.hid hst
              clear hst hdj hv' hnm'
              go_wp2_with fail
              go_roundw
              case rel => exact ⟨j + 1, by omega, by go_num, HST2.out, hTj.setCell hgl2 _⟩
              case measure => simp [intOf]; omega
            · obtain rfl : j = kk := by omega
              have hlt' : ¬ (j : Int) < (j : Int) := by omega
              have HMB : Hid (∀ d ∈ D.map (nmAt s), d < n) := by
                intro d hd
                rw [List.mem_map] at hd
                obtain ⟨x, hx, rfl⟩ := hd
                obtain ⟨v', -, hv, e⟩ := HPM.out.at (HDB.out x hx)
                omega
              rw [mixD_all (by rw [HDL.out]; exact Nat.le_refl _)] at hA
              have RA : RdL RI wr (some ⟨g, 0, none⟩) j (nats (D.map (nmAt s))) := rd_of_own (R := RI) hA (nats_R (b := n) (fun d hd => Nat.le_of_lt (HMB.out d hd)) (by omega))
              have hPj := hPO.next hTj
              have BPj := BP.next hTj
              have BRj := BR.next hTj
              have BBj := BB.next hTj
              have BQj := BQ.next hTj
              obtain ⟨gO, cap, tb, dt, hv, -, cT, hlo, hhi, hfz, hcl, htm, hset⟩ := hPj.tab (k := k) (a := (j : Int)) (t := renTo n j s ty ty q) (by rw [List.getElem?_set_self (by rw [opsTo_len]; exact hlt)]) (by intro e0; have := congrArg List.length e0; rw [renTo_len] at this; simp at this; rw [this] at hltq; simp at hltq)
              injection hv with hv1 hv2 hv3
              subst hv1
              rw [renTo_len] at cT
              have fJ := hfz J
              obtain ⟨x0, hx0⟩ : ∃ x0, (renTo n j s ty ty q)[J]? = some x0 := ⟨_, List.getElem?_eq_getElem (by rw [renTo_len]; exact hJ)⟩
              have cJ := hcl J x0 hx0
              obtain ⟨nb, no, nv, nx, rfl, hcn, ⟨rfl, -⟩, -, hxn⟩ := (hs.next stab_RI hTw).at (k := u) hun
              rw [HNM.out] at hxn
              injection hxn with hxn
              subst hxn
              have n5 : nb ≠ tb := by
                obtain ⟨v8, x8, hc8, -⟩ := hs.at' (k := u) hun
                have := cell_lt hc8
                have := HZ0.out
                have h9 : nb < w.heap.size := by assumption
                omega
              have n6 : b' ≠ tb := by
                obtain ⟨v8, x8, hc8, -⟩ := qt.at' hltq
                have h9 : b' < w.heap.size := cell_lt hc8
                have := HZ0.out
                omega
              have n7 : gO ≠ tb := fun e => (List.nodup_append.1 hPj.2.2.1).2.2 gO (by simp [obl, Value.ownBlock]) tb htm e
              obtain ⟨uv, ux, hcu, ⟨rfl, -⟩, -, hux⟩ := (qt.next stab_RI hTw).at' hltq
              rw [HXU.out] at hux
              injection hux with hux
              subst hux
              have HS2 := hset J (nm : Int) ⟨by omega, by omega⟩
              rw [List.set_set] at HS2
              have HS3 : Hid (PO w0.heap.size (wr.setCell ⟨tb, J, none⟩ (.int .i64 (nm : Int))) (.slice (some ⟨gO, 0, none⟩) ops.length vc) ((opsTo n s ops k).set k ((j : Int), renTo n j s ty ty (q + 1))) css bls) := by show PO _ _ _ _ _ _; rw [HSTEP.out]; exact HS2
              have hz0 := HZ0.out
              have n1 : w.heap.size ≠ tb := by omega
              have n2 : w.heap.size + 1 ≠ tb := by omega
              have n3 : w1.heap.size ≠ tb := fun e => HGB.out (by rw [e]; exact List.mem_append_right _ htm)
              have n4 : wo.heap.size ≠ tb := fun e => HQW.out (by rw [e]; exact List.mem_append_right _ htm)
              have HBL := Lib.hid (And.intro (BPj.far (p := ⟨tb, J, none⟩) n1 (.int .i64 (nm : Int))) (And.intro (BRj.far (p := ⟨tb, J, none⟩) n2 (.int .i64 (nm : Int))) (And.intro (BBj.far (p := ⟨tb, J, none⟩) n3 (.int .i64 (nm : Int))) (And.intro (BQj.far (p := ⟨tb, J, none⟩) n4 (.int .i64 (nm : Int))) (hTw.setCell (p := ⟨tb, J, none⟩) (show w.heap.size ≤ tb by omega) (.int .i64 (nm : Int)))))))
              have cB1 := BBj.cell 1
              have cP0 := BPj.cell 0
              simp at cB1 cP0
              have hJ0 : (0 : Int) ≤ (J : Int) := by omega
              have hJ1 : (J : Int) < (ty.length : Int) := by omega
              have hu0 : (0 : Int) ≤ (u : Int) := by omega
              have hu1 : (u : Int) < (n : Int) := by omega
              clear hfz hcl hset HS2 hx0 hPj BPj BRj BBj BQj hz0 hv2 hv3 hA htm
              go_upto_region 14 with fail
              have Tk : Below wr.heap.size wr wr := Below.refl _ _
              have HKD : (wr.setCell ⟨tb, J, none⟩ (.int .i64 (nm : Int))).drew.cell? ⟨w.heap.size, 0, none⟩ = some (.int .i64 (n : Int)) ∧ (wr.setCell ⟨tb, J, none⟩ (.int .i64 (nm : Int))).drew.cell? ⟨w1.heap.size, 1, none⟩ = some (.slice (some ⟨gO, 0, none⟩) ops.length vc) ∧ (wr.setCell ⟨tb, J, none⟩ (.int .i64 (nm : Int))).drew.cell? ⟨gO, k * 2 + 1, none⟩ = some (.slice (some ⟨tb, 0, none⟩) ty.length dt) ∧ (wr.setCell ⟨tb, J, none⟩ (.int .i64 (nm : Int))).drew.cell? ⟨nb, no + u, none⟩ = some (.int .i64 (nm : Int)) ∧ (wr.setCell ⟨tb, J, none⟩ (.int .i64 (nm : Int))).drew.cell? ⟨b', o' + q, none⟩ = some (.int .i64 (u : Int)) := ⟨cell_farD n1 cP0, cell_farD n3 cB1, cell_farD n7 cT, cell_farD n5 hcn, cell_farD n6 hcu⟩
              go_region_held3 (fun w' => w'.cell? ⟨w.heap.size, 0, none⟩ = some (.int .i64 (n : Int)) ∧ w'.cell? ⟨w1.heap.size, 1, none⟩ = some (.slice (some ⟨gO, 0, none⟩) ops.length vc) ∧ w'.cell? ⟨gO, k * 2 + 1, none⟩ = some (.slice (some ⟨tb, 0, none⟩) ty.length dt) ∧ w'.cell? ⟨nb, no + u, none⟩ = some (.int .i64 (nm : Int)) ∧ w'.cell? ⟨b', o' + q, none⟩ = some (.int .i64 (u : Int))) (first | go_keep | exact ⟨keepc Tk cP0, keepc Tk cB1, keepc Tk cT, keepc Tk hcn, keepc Tk hcu⟩ | exact HKD | exact ⟨cell_farD n1 cP0, cell_farD n3 cB1, cell_farD n7 cT, cell_farD n5 hcn, cell_farD n6 hcu⟩ | exact ⟨cell_far n1 cP0, cell_far n3 cB1, cell_far n7 cT, cell_far n5 hcn, cell_far n6 hcu⟩) (first
                | (go_at_call 137; refine (indexOf_any _ j j n (D.map (nmAt s)) _ (by first | exact RA | exact RA.drew stab_RI) (by omega) (by omega) HMB.out).mono ?_; rintro e w' ⟨rfl, rfl⟩; rw [HJ2.out]))
              all_goals
                go_wp2_with fail
                go_roundw
                case rel => exact ⟨q + 1, by omega, by go_num, HBL.out.1.drew, HBL.out.2.1.drew, HBL.out.2.2.1.drew, HBL.out.2.2.2.1.drew, HS3.out.next (Below.drew (Below.refl _ _)), Below.drew HBL.out.2.2.2.2⟩
                case measure => simp [intOf]; omega
        · have hqe : q = ty.length := by omega
          have hlt' : ¬ (q : Int) < (ty.length : Int) := by omega
          have HPN : Hid (PO w0.heap.size wr (.slice VA ops.length vc) (opsTo n s ops (k + 1)) css bls) := by
            show PO _ _ _ _ _ _
            rw [← opsTo_next HYK.out, HRO.out, ← hqe]
            exact hPO
          clear hqe
          go_wp2_with fail
          go_roundw
          case rel => exact ⟨k + 1, by omega, by go_num, BP, BR, BB, HPN.out, hTi⟩
          case measure => simp [intOf]; omega
    · have hlt' : ¬ (k : Int) < (ops.length : Int) := by omega
      rw [opsTo_all (by omega)] at hPO
      have hlow : w.heap.size ≤ w0.heap.size := by have := HZ0.out; omega
      have hPF := ((hPO.far (p := ⟨w.heap.size + 1, 0, none⟩) (by have := HZ0.out; show w.heap.size + 1 < w0.heap.size; omega) (.int .i64 (n : Int))).far (p := ⟨w.heap.size + 1, 1, none⟩) (by have := HZ0.out; show w.heap.size + 1 < w0.heap.size; omega) (.slice VA ops.length vc)).mono hlow
      have hTF := (hT.setCell (p := ⟨w.heap.size + 1, 0, none⟩) (by show _ ≤ _; simp) (.int .i64 (n : Int))).setCell (p := ⟨w.heap.size + 1, 1, none⟩) (by show _ ≤ _; simp) (.slice VA ops.length vc)
      have cO0 := BB.cell 0
      have cO1 := BB.cell 1
      have cR0 := BR.cell 0
      have cR1 := BR.cell 1
      have fR0 := BR.frozen 0
      have fR1 := BR.frozen 1
      have BRR : Blk ((wr.setCell ⟨w.heap.size + 1, 0, none⟩ (.int .i64 (n : Int))).setCell ⟨w.heap.size + 1, 1, none⟩ (.slice VA ops.length vc)) (w.heap.size + 1) 41 #[.int .i64 (n : Int), .slice VA ops.length vc] := by simpa using ((BR.set_ 0 (.int .i64 (n : Int))).set_ 1 (.slice VA ops.length vc))
      have HPF := Lib.hid hPF
      have n8 : ¬ w.heap.size + 1 = w1.heap.size := by have := HZ0.out; omega
      have n9 : ¬ w1.heap.size = w.heap.size + 1 := fun e => n8 e.symm
      have cO1' : (wr.setCell ⟨w.heap.size + 1, 0, none⟩ (.int .i64 (n : Int))).cell? ⟨w1.heap.size, 1, none⟩ = some (.slice VA ops.length vc) := cell_far (p := ⟨w.heap.size + 1, 0, none⟩) (a := ⟨w1.heap.size, 1, none⟩) n9 (by simpa using cO1)
      simp at cO0 cO1 cR0 cR1
      clear hPF hPO
      go_wp2_with fail
      (try simp only [Exit.inBlock, Exit.then])
      refine bodyPost_ret (v := .agg #[.int .i64 (n : Int), .slice VA ops.length vc]) (results_cell_row rfl _ _ (w.heap.size + 1) 41 #[.int .i64 (n : Int), .slice VA ops.length vc] (0, 0) _ (by simp) BRR Try.underlying41 rfl (by kernel_rfl)) rfl ?_
      exact ⟨_, css, bls, rfl, HPF.out, hTF⟩
end Go.Proofs.Ytppnmpeicmlneaa
