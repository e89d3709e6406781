
/- Walks: copies of an operation and of an algebra (the program's). -/
import Derived.Test.YtbpdbimdefdefaaRenM
import Derived.Deep.RegionLaw
import Derived.Laws.OwnMore
namespace Go.Proofs.Ytbpdbimdefdefaa
open Go.RowKit

set_option maxRecDepth 20000 in
set_option maxHeartbeats 2000000 in
theorem cloneOp_any (cs : List Value) (x : OpM) (w : World) (h : shOp.rd w cs x) (hn : x.2.length ≤ 1048576) :
    Calls Try.prog 139 #[.agg cs.toArray] w (ToE shOp w x) := by
  obtain ⟨B, m, d, rfl, qa, qt⟩ := rdOp h
  have hm := qt.len
  obtain ⟨w0, hw0, T0, hs0, BP, BR⟩ := boxes2 w #[.int .i64 x.1, .slice B m d] #[.int .i64 0, .slice none 0 0] 103 103
  have HW0 := Lib.hid hw0
  have HR := Lib.hid qt.bounds
  have qt0 := qt.next stab_RI T0
  have hz0 : w0.heap.size = w.heap.size + 2 := hs0
  have HZ0 := Lib.hid hz0
  clear hw0 hs0 hz0
  have cP0 := BP.cell 0
  have cP1 := BP.cell 1
  have cR0 := BR.cell 0
  have cR1 := BR.cell 1
  have fR0 := BR.frozen 0
  have fR1 := BR.frozen 1
  simp at cP0 cP1 cR0 cR1
  go_enter Try.func139, Try.ntmps139
  go_upto_region 1 with fail
  rw [← HW0.out]
  go_region_with (go_at_call 110; refine (clone_any _ _ _ x.2 _ (by first | exact qt0 | exact qt0.drew stab_RI) (by omega)).mono ?_; rintro e w2 ⟨A', c', rfl, ho, hbn⟩; have hb := below_next (Below.drew (Below.refl w0.heap.size w0)) hbn rfl; have BP2 := BP.next hb; have BR2 := BR.next hb; have dP0 := BP2.cell 0; have dP1 := BP2.cell 1; have dR0 := BR2.cell 0; have dR1 := BR2.cell 1; have gR0 := BR2.frozen 0; have gR1 := BR2.frozen 1; simp at dP0 dP1 dR0 dR1)
  all_goals
    have T2 := below_next T0 hb rfl
    have hz2 := hb.size
    have hne := own_off ho BR2 (by decide)
    have hO := own_set (own_set ho (p := ⟨w.heap.size + 1, 0, none⟩) hne (.int .i64 x.1)) (p := ⟨w.heap.size + 1, 1, none⟩) hne (.slice A' m c')
    have BRR : Blk ((w2.setCell ⟨w.heap.size + 1, 0, none⟩ (.int .i64 x.1)).setCell ⟨w.heap.size + 1, 1, none⟩ (.slice A' m c')) (w.heap.size + 1) 103 #[.int .i64 x.1, .slice A' m c'] := by simpa using ((BR2.set_ 0 (.int .i64 x.1)).set_ 1 (.slice A' m c'))
    have hiv := obl_iv hO
    have hO2 : ((w2.setCell ⟨w.heap.size + 1, 0, none⟩ (.int .i64 x.1)).setCell ⟨w.heap.size + 1, 1, none⟩ (.slice A' m c')).ownsRow 0 3 1 (.slice A' m c') x.2.length (ints x.2) := by rw [hm]; exact own_mono hO (Nat.zero_le _)
    have hT : Below w.heap.size w ((w2.setCell ⟨w.heap.size + 1, 0, none⟩ (.int .i64 x.1)).setCell ⟨w.heap.size + 1, 1, none⟩ (.slice A' m c')) := (T2.setCell (by show _ ≤ _; simp) _).setCell (by show _ ≤ _; simp) _
    have hlow : w.heap.size ≤ w0.drew.heap.size := T0.size
    go_wp2
    (try simp only [Exit.inBlock, Exit.then])
    refine bodyPost_ret (v := .agg #[.int .i64 x.1, .slice A' m c']) (results_cell_row rfl _ _ (w.heap.size + 1) 103 #[.int .i64 x.1, .slice A' m c'] (0, 0) _ (by simp) BRR Try.underlying103 rfl (by kernel_rfl)) rfl ?_
    exact ⟨[.int .i64 x.1, .slice A' m c'], obl (.slice A' m c'), rfl, ⟨[.int .i64 x.1], [.slice A' m c'], [], obl (.slice A' m c'), rfl, rfl, ⟨_, rfl, ⟨rfl, qa.1, qa.2⟩, rfl⟩, ⟨_, rfl, hO2, HR.out, rfl⟩⟩, hiv.mono hlow (Nat.le_refl _), hT⟩

/-- An algebra handed back, its slices the call's own. -/
def AlgE (w : World) (x : AlgebraM) (e : Ending) (w' : World) : Prop := ∃ v css bls, e = .returned (.agg #[.int .i64 x.1, v]) ∧ PO w.heap.size w' v x.2 css bls ∧ Below w.heap.size w w'
theorem PO.far {lo : Nat} {w : World} {v : Value} {xs : List OpM} {css : List (List Value)} {bls : List (List Nat)} (h : PO lo w v xs css bls) {p : Addr} (hp : p.block < lo) (u : Value) : PO lo (w.setCell p u) v xs css bls :=
  h.same (by simp) fun b hb => Below.heap_setCell w p u b (by have := (h.2.2.2 b hb).1; omega)
theorem take_snoc {α : Type} {l : List α} {k : Nat} {x : α} (h : l[k]? = some x) : l.take (k + 1) = l.take k ++ [x] := by rw [List.take_add_one, h]; rfl

set_option maxRecDepth 20000 in
set_option maxHeartbeats 4000000 in
theorem cloneAlgebra_any (cs : List Value) (x : AlgebraM) (w : World) (h : shAlgebra.rd w cs x) (hn : shAlgebra.cnt x ≤ 1048576) :
    Calls Try.prog 98 #[.agg cs.toArray] w (AlgE w x) := by
  obtain ⟨B, m, d, rfl, qs, qo⟩ := rdAlgebra h
  have hm := qo.len
  have hcn : 0 + (x.2.length + cntS shOp.cnt x.2) ≤ 1048576 := hn
  have HCN := Lib.hid hcn
  have hle : m ≤ 1048576 := by omega
  obtain ⟨w0, hw0, T0, hs0, BP, BR, BO⟩ := boxes3 w #[.int .i64 x.1, .slice B m d] #[.int .i64 0, .slice none 0 0] #[.int .i64 x.1, .slice none 0 0] 38 38
  have HW0 : Hid (_ = w0) := hw0.symm
  have HZ0 := Lib.hid hs0
  have cP0 := ((Blk.new w 38 #[.int .i64 x.1, .slice B m d]).alloc (.cells #[.int .i64 0, .slice none 0 0] 38)).cell 0
  have cP1 := BP.cell 1
  simp at cP0 cP1
  rw [hw0] at cP1
  have hP0 : PO w0.heap.size w0 (.slice none 0 0) (x.2.take 0) [] [] := PO.nil _ _
  clear hw0 hs0 hcn
  go_enter Try.func98, Try.ntmps98
  go_wp2_with fail
  clear cP0 cP1
  go_loopw [12] (fun i wr => ∃ (k : Nat) (v : Value) (css : List (List Value)) (bls : List (List Nat)), k ≤ m ∧ i = .int .i64 k ∧ Blk wr (w.heap.size + 1 + 1) 38 #[.int .i64 x.1, v] ∧ Blk wr (w.heap.size + 1) 38 #[.int .i64 0, .slice none 0 0] ∧ PO w0.heap.size wr v (x.2.take k) css bls ∧ Below w.heap.size w wr) (fun i _ => m - (intOf i).toNat)
  case atStart =>
    rw [HW0.out]
    exact ⟨0, _, _, _, Nat.zero_le _, rfl, BO, BR, hP0, T0⟩
  case round =>
    clear hP0 BO BR BP
    obtain ⟨k, v, css, bls, hk, rfl, BO, BR, hPO, hT⟩ := hrel
    by_cases hlt : k < m
    · have hk0 : (0 : Int) ≤ (k : Int) := by omega
      have hk1 : (k : Int) < (m : Int) := by omega
      obtain ⟨b, o, vs, y, rfl, -, hc, hr, -, hx⟩ := (qo.next hT).at hlt
      obtain ⟨B', m', d', rfl, qa, qt⟩ := rdOp hr
      have cc0 : wr.cell? ⟨b, o + k * 2, none⟩ = some (.int .i64 y.1) := hc 0 _ rfl
      have cc1 : wr.cell? ⟨b, o + k * 2 + 1, none⟩ = some (.slice B' m' d') := hc 1 _ rfl
      have HTS : Hid (x.2.take (k + 1) = x.2.take k ++ [y]) := take_snoc hx
      have hcy : y.2.length ≤ 1048576 := by
        have h1 := cntS_mem (f := shOp.cnt) (List.mem_of_getElem? hx)
        have h2 := HCN.out
        have h3 : shOp.cnt y = 0 + y.2.length := rfl
        omega
      obtain ⟨L, HL⟩ : ∃ L, Hid (x.2.take k = L) := ⟨_, rfl⟩
      have HLK : Hid (L.length = k) := by show _ = _; rw [← HL.out, List.length_take]; omega
      rw [HL.out] at hPO
      have HTS2 : Hid (x.2.take (k + 1) = L ++ [y]) := by show _ = _; rw [HTS.out, HL.out]
      obtain ⟨A, c, rfl⟩ := own_slice hPO.2.1
      obtain ⟨w5, hw5, T5, hs5, BY⟩ := boxes1 wr #[.int .i64 y.1, .slice B' m' d'] 103
      have HW5 := Lib.hid hw5
      have hP5 := hPO.next T5
      have hr5 := shOp.stab hr T5.block
      have BO5 := BO.next T5
      have BR5 := BR.next T5
      have hT5 := below_next hT T5 rfl
      have cO5 := BO5.cell 1
      have fO5 := BO5.frozen 1
      have cY0 := BY.cell 0
      have cY1 := BY.cell 1
      simp at cO5 cY0 cY1
      have hwz0 : w0.heap.size ≤ w5.heap.size := by
        rcases hP5.2.1.2 with ⟨h1, h2⟩ | ⟨g9, _, _, h1, h2, _⟩
        · have := hT5.size
          have h9 := BO5.lt
          have h8 := HZ0.out
          omega
        · injection h1 with h1
          have := hP5.2.2.2 g9 (List.mem_append_left _ (by rw [h1]; simp [obl, Value.ownBlock]))
          omega
      clear hw5 hs5 hc hx hr hPO
      go_upto_region 5 with fail
      rw [← HW5.out]
      clear cc0 cc1
      go_region_law (first
        | (refine step_app2 w6 rfl (.tmp 17) (.tmp 20) 36 103 rfl (.agg #[.int .i64 0, .slice none 0 0]) 32 Try.underlying36 info_op2 rfl (by decide) w0.heap.size L.length c A css.flatten (by rfl) hvs (.int .i64 y.1) (.slice B6 m6 d6) rfl rfl (by rfl) (by have := HLK.out; omega) (by omega) ?_; intro A8 c8 w8 hown8 hg8 hb8; have BO8 := BO6.grown hg8 (fun e => own_off hvs BO6 (by decide) e.symm); have BR8 := BR6.grown hg8 (fun e => own_off hvs BR6 (by decide) e.symm); have cO8 := BO8.cell 1; have fO8 := BO8.frozen 1; simp at cO8)
        | (go_simp; go_at_call 139; refine (cloneOp_any [.int .i64 y.1, .slice B' m' d'] y _ (by first | exact hr5 | exact shOp.stab hr5 (fun _ _ => rfl)) hcy).mono ?_; rintro e w6 ⟨ds, bk, rfl, how, hiv, hbn⟩; obtain ⟨B6, m6, d6, rfl, -, -⟩ := rdOp (shOp.ord how); have hb := below_next (Below.drew (Below.refl w5.heap.size w5)) hbn rfl; have hiv6 : Iv w5.heap.size w6.heap.size bk := hiv; obtain ⟨hvs, HPU⟩ := hP5.push hb hwz0 how hiv6; have hsz6 := hb.size; have BO6 := BO5.next hb; have BR6 := BR5.next hb; have cO6 := BO6.cell 1; have fO6 := BO6.frozen 1; have dY0 := (BY.next hb).cell 0; have dY1 := (BY.next hb).cell 1; have cO6a := (BO6.alloc (.cells #[.int .i64 y.1, .slice B6 m6 d6] 103)).cell 1; simp at cO6 dY0 dY1 cO6a))
      all_goals
        have PN2 := (HPU hown8 hg8).far (p := ⟨w.heap.size + 1 + 1, 1, none⟩) (by have := HZ0.out; show w.heap.size + 1 + 1 < w0.heap.size; omega) (.slice A8 (L.length + 1) c8)
        have hT8 := ((below_next hT5 hb rfl).trans (hb8.mono (by have := HZ0.out; omega))).setCell (p := ⟨w.heap.size + 1 + 1, 1, none⟩) (by show _ ≤ _; simp; try omega) (.slice A8 (L.length + 1) c8)
        have BO9 : Blk (w8.setCell ⟨w.heap.size + 1 + 1, 1, none⟩ (.slice A8 (L.length + 1) c8)) (w.heap.size + 1 + 1) 38 #[.int .i64 x.1, .slice A8 (L.length + 1) c8] := by simpa using BO8.set_ 1 (.slice A8 (L.length + 1) c8)
        have BR9 := BR8.far (p := ⟨w.heap.size + 1 + 1, 1, none⟩) (by simp) (.slice A8 (L.length + 1) c8)
        have HFIN := Lib.hid (And.intro BO9 (And.intro BR9 (And.intro PN2 hT8)))
        clear BO9 BR9 PN2 hT8 cO6 fO6 cO6a dY0 dY1 cO8 fO8 hown8 hg8 hb8 BO8 BR8 BO6 BR6 hvs HPU how hbn hb
        go_wp2_with fail
        go_roundw
        case rel => exact ⟨k + 1, _, _, _, by omega, by go_num, HFIN.out.1, HFIN.out.2.1, by rw [HTS2.out]; exact HFIN.out.2.2.1, HFIN.out.2.2.2⟩
        case measure => simp [intOf]; omega
    · obtain rfl : k = m := by omega
      have hlt' : ¬ (k : Int) < (k : Int) := by omega
      have hP : PO w0.heap.size wr v x.2 css bls := by rw [List.take_of_length_le (by omega)] at hPO; exact hPO
      obtain ⟨A, c, hv⟩ := own_slice hP.2.1
      rw [hm] at hv
      subst hv
      have hlow : w.heap.size ≤ w0.heap.size := by have := HZ0.out; omega
      have hPF := ((hP.far (p := ⟨w.heap.size + 1, 0, none⟩) (by have := HZ0.out; show w.heap.size + 1 < w0.heap.size; omega) (.int .i64 x.1)).far (p := ⟨w.heap.size + 1, 1, none⟩) (by have := HZ0.out; show w.heap.size + 1 < w0.heap.size; omega) (.slice A k c)).mono hlow
      have hTF := (hT.setCell (p := ⟨w.heap.size + 1, 0, none⟩) (by show _ ≤ _; simp) (.int .i64 x.1)).setCell (p := ⟨w.heap.size + 1, 1, none⟩) (by show _ ≤ _; simp) (.slice A k c)
      have cO0 := BO.cell 0
      have cO1 := BO.cell 1
      have cR0 := BR.cell 0
      have cR1 := BR.cell 1
      have fR0 := BR.frozen 0
      have fR1 := BR.frozen 1
      have BRR : Blk ((wr.setCell ⟨w.heap.size + 1, 0, none⟩ (.int .i64 x.1)).setCell ⟨w.heap.size + 1, 1, none⟩ (.slice A k c)) (w.heap.size + 1) 38 #[.int .i64 x.1, .slice A k c] := by simpa using ((BR.set_ 0 (.int .i64 x.1)).set_ 1 (.slice A k c))
      have HPF := Lib.hid hPF
      simp at cO0 cO1 cR0 cR1
      clear hP hPF hPO
      go_wp2_with fail
      (try simp only [Exit.inBlock, Exit.then])
      refine bodyPost_ret (v := .agg #[.int .i64 x.1, .slice A k c]) (results_cell_row rfl _ _ (w.heap.size + 1) 38 #[.int .i64 x.1, .slice A k c] (0, 0) _ (by simp) BRR Try.underlying38 rfl (by kernel_rfl)) rfl ?_
      exact ⟨_, css, bls, rfl, HPF.out, hTF⟩
end Go.Proofs.Ytbpdbimdefdefaa
namespace Go.Proofs.Ytbpdbimdefdefaa
open Go.RowKit

def opsTo (z : Nat) (s : List Int) (ops : List OpM) (k : Nat) : List OpM := (ops.take k).map (renOp z s) ++ ops.drop k
theorem opsTo_len (z : Nat) (s : List Int) (ops : List OpM) (k : Nat) : (opsTo z s ops k).length = ops.length := by unfold opsTo; simp; omega
theorem opsTo_get {z : Nat} {s : List Int} {ops : List OpM} {k : Nat} {y : OpM} (h : ops[k]? = some y) : (opsTo z s ops k)[k]? = some y := by
  have hk := (List.getElem?_eq_some_iff.1 h).1
  unfold opsTo
  rw [List.getElem?_append_right (by simp; omega)]
  simp
  rw [show k + (k - min k ops.length) = k by omega]
  exact h
theorem opsTo_next {z : Nat} {s : List Int} {ops : List OpM} {k : Nat} {y : OpM} (h : ops[k]? = some y) : (opsTo z s ops k).set k (renOp z s y) = opsTo z s ops (k + 1) := by
  have hk := (List.getElem?_eq_some_iff.1 h).1
  unfold opsTo
  rw [take_snoc h, List.map_append, List.set_append_right _ _ (by simp; omega)]
  have : ops.drop k = y :: ops.drop (k + 1) := by
    rw [List.drop_eq_getElem_cons hk]
    congr
    exact (List.getElem?_eq_some_iff.1 h).2
  rw [this]
  simp
  rw [show k - min k ops.length = 0 by omega]
  rfl
theorem opsTo_all {z : Nat} {s : List Int} {ops : List OpM} {k : Nat} (h : ops.length ≤ k) : opsTo z s ops k = ops.map (renOp z s) := by
  unfold opsTo
  rw [List.take_of_length_le h, List.drop_eq_nil_of_le h, List.append_nil]
def mixD (s : List Int) (D : List Nat) (j : Nat) : List Nat := (D.take j).map (nmAt s) ++ D.drop j
theorem mixD_zero (s : List Int) (D : List Nat) : mixD s D 0 = D := rfl
theorem mixD_len (s : List Int) (D : List Nat) (j : Nat) : (mixD s D j).length = D.length := by unfold mixD; simp; omega
theorem mixD_get {s : List Int} {D : List Nat} {j d : Nat} (h : D[j]? = some d) : (mixD s D j)[j]? = some d := by
  have hk := (List.getElem?_eq_some_iff.1 h).1
  unfold mixD
  rw [List.getElem?_append_right (by simp; omega)]
  simp
  rw [show j + (j - min j D.length) = j by omega]
  exact h
theorem mixD_next {s : List Int} {D : List Nat} {j d : Nat} (h : D[j]? = some d) : (mixD s D j).set j (nmAt s d) = mixD s D (j + 1) := by
  have hk := (List.getElem?_eq_some_iff.1 h).1
  unfold mixD
  rw [take_snoc h, List.map_append, List.set_append_right _ _ (by simp; omega)]
  have : D.drop j = d :: D.drop (j + 1) := by
    rw [List.drop_eq_getElem_cons hk]
    congr
    exact (List.getElem?_eq_some_iff.1 h).2
  rw [this]
  simp
  rw [show j - min j D.length = 0 by omega]
  rfl
theorem mixD_all {s : List Int} {D : List Nat} {j : Nat} (h : D.length ≤ j) : mixD s D j = D.map (nmAt s) := by
  unfold mixD
  rw [List.take_of_length_le h, List.drop_eq_nil_of_le h, List.append_nil]
theorem nats_set (l : List Nat) (p v : Nat) : (nats l).set p (v : Int) = nats (l.set p v) := by simp [nats, List.map_set]
theorem nats_at {l : List Nat} {k d : Nat} (h : l[k]? = some d) : (nats l)[k]? = some (d : Int) := by simp [nats, h]
theorem nats_R {l : List Nat} {b : Nat} (h : ∀ d ∈ l, d ≤ b) (hb : b ≤ 1048576) {w : World} : ∀ v ∈ nats l, RI w (.int .i64 v) v := by
  intro v hv
  unfold nats at hv
  rw [List.mem_map] at hv
  obtain ⟨d, hd, rfl⟩ := hv
  have := h d hd
  exact ⟨rfl, by omega, by omega⟩
theorem op_len {n : Nat} {o : OpM} (h : OpP n o) (hn : n ≤ 8) : o.2.length ≤ 4096 := by
  rw [h.2.2.1]
  exact pow_bd hn (by have := h.2.1; omega)
theorem cnt_small {x : AlgebraM} (h : SmallP x) : shAlgebra.cnt x ≤ 1048576 := by
  have key : ∀ l : List OpM, (∀ o ∈ l, OpP x.1.toNat o) → cntS shOp.cnt l ≤ l.length * 4096 := by
    intro l
    induction l with
    | nil => intro _; exact Nat.zero_le _
    | cons o l ih =>
      intro hl
      rw [cntS_cons, List.length_cons, Nat.succ_mul]
      have h1 := ih fun o ho => hl o (by simp [ho])
      have h2 := op_len (hl o (by simp)) (by have := h.2.1; omega)
      have h3 : shOp.cnt o = 0 + o.2.length := rfl
      omega
  have h1 := key x.2 h.2.2.2
  have h2 := h.2.2.1
  have h3 : shAlgebra.cnt x = 0 + (x.2.length + cntS shOp.cnt x.2) := rfl
  have h4 := Nat.mul_le_mul_right 4096 h2
  omega

theorem cell_far {w : World} {p a : Addr} {v u : Value} (h : a.block ≠ p.block) (hc : w.cell? a = some v) : (w.setCell p u).cell? a = some v := (World.cell?_of_block (Below.heap_setCell w p u _ h)).trans hc
theorem cell_farD {w : World} {p a : Addr} {v u : Value} (h : a.block ≠ p.block) (hc : w.cell? a = some v) : (w.setCell p u).drew.cell? a = some v := cell_far h hc
set_option maxRecDepth 20000 in
set_option maxHeartbeats 8000000 in
theorem rename_any (cs : List Value) (x : AlgebraM) (N : Option Addr) (n cN : Nat) (s : List Int) (w : World) (h : shAlgebra.rd w cs x) (hs : RdL RI w N n s) (hx : SmallP x) (hp : PermL x.1.toNat s) :
    Calls Try.prog 107 #[.agg cs.toArray, .slice N n cN] w (AlgE w (ren x s)) := by
  have hcnt := cnt_small hx
  obtain ⟨a, ops⟩ := x
  obtain ⟨z, rfl⟩ : ∃ z : Nat, a = (z : Int) := ⟨a.toNat, by have h1 : 1 ≤ a := hx.1; omega⟩
  have hz1 : 1 ≤ z := by have h1 : (1 : Int) ≤ (z : Int) := hx.1; omega
  have hz5 : z ≤ 5 := by have h1 : (z : Int) ≤ 5 := hx.2.1; omega
  have hm4 : ops.length ≤ 4 := hx.2.2.1
  have HOP : Hid (∀ o ∈ ops, OpP z o) := fun o ho => by have := hx.2.2.2 o ho; simpa using this
  have HPM : Hid (PermL z s) := by show PermL z s; simpa using hp
  have hnz : n = z := by rw [← hs.len]; exact HPM.out.1
  subst hnz
  have HREN : Hid (ren ((n : Int), ops) s = ((n : Int), ops.map (renOp n s))) := by show _ = _; unfold ren; simp
  have hrd := h
  obtain ⟨B, m, d, rfl, qs, qo⟩ := rdAlgebra h
  obtain rfl : ops.length = m := qo.len
  obtain ⟨w0, hw0, T0, hs0, BP, BR⟩ := boxes2 w #[.int .i64 (n : Int), .slice B ops.length d] #[.int .i64 0, .slice none 0 0] 38 38
  have HW0 := Lib.hid hw0
  have HZ0 := Lib.hid hs0
  have hrd0 := shAlgebra.stab hrd T0.block
  have cP0 := BP.cell 0
  have cP1 := BP.cell 1
  simp at cP0 cP1
  rw [hw0] at cP0 cP1
  rw [HREN.out]
  clear hw0 hs0 hp hx
  go_enter Try.func107, Try.ntmps107
  go_wp2_with fail
  rw [← HW0.out]
  refine (cloneAlgebra_any _ _ _ hrd0 hcnt).mono ?_
  rintro e w1 ⟨v, css, bls, rfl, hPO, hb1⟩
  replace hPO : PO w0.heap.size w1 v ops css bls := hPO
  obtain ⟨VA, vc, rfl⟩ := own_slice hPO.2.1
  have T1 := below_next T0 hb1 rfl
  replace BP := BP.next hb1
  replace BR := BR.next hb1
  obtain ⟨w2, hw2, T2', hs2, BB⟩ := boxes1 w1 #[.int .i64 (n : Int), .slice VA ops.length vc] 38
  have HW2 : Hid (_ = w2) := hw2.symm
  have HGB : Hid (w1.heap.size ∉ obl (.slice VA ops.length vc) ++ bls.flatten) := fun hh => by have := (hPO.2.2.2 _ hh).2; omega
  have hgl : w0.heap.size ≤ w1.heap.size := hb1.size
  have T2 := below_next T1 T2' rfl
  replace BP := BP.next T2'
  replace BR := BR.next T2'
  replace hPO := hPO.next T2'
  have cP1 := BP.cell 1
  simp at cP1
  rw [hw2] at cP1
  clear hw2 hs2 cP0 hb1
  go_wp2_with fail
  clear cP1
  go_loopw [18] (fun i wr => ∃ (k : Nat), k ≤ ops.length ∧ i = .int .i64 k ∧ Blk wr w.heap.size 38 #[.int .i64 (n : Int), .slice B ops.length d] ∧ Blk wr (w.heap.size + 1) 38 #[.int .i64 0, .slice none 0 0] ∧ Blk wr w1.heap.size 38 #[.int .i64 (n : Int), .slice VA ops.length vc] ∧ PO w0.heap.size wr (.slice VA ops.length vc) (opsTo n s ops k) css bls ∧ Below w.heap.size w wr) (fun i _ => ops.length - (intOf i).toNat)
  case atStart =>
    rw [HW2.out]
    exact ⟨0, Nat.zero_le _, rfl, BP, BR, BB, hPO, T2⟩
  case round =>
    clear hPO BP BR BB T1 T2
    obtain ⟨k, hk, rfl, BP, BR, BB, hPO, hT⟩ := hrel
    by_cases hlt : k < ops.length
    · obtain ⟨wo, hwo⟩ : ∃ wo : World, wo = wr := ⟨_, rfl⟩
      subst hwo
      have hk0 : (0 : Int) ≤ (k : Int) := by omega
      have hk1 : (k : Int) < (ops.length : Int) := by omega
      obtain ⟨b, o, vs, y, rfl, -, hc, hr, -, hyk⟩ := qo.at hlt
      obtain ⟨ya, ty⟩ := y
      have hyp := HOP.out (ya, ty) (List.mem_of_getElem? hyk)
      obtain ⟨kk, rfl⟩ : ∃ kk : Nat, ya = (kk : Int) := ⟨ya.toNat, by have h1 : 0 ≤ ya := hyp.1; omega⟩
      obtain ⟨B', m', d', rfl, qa, qt⟩ := rdOp hr
      obtain rfl : ty.length = m' := qt.len
      have hkk3 : kk ≤ 3 := by have h1 : (kk : Int) ≤ 3 := hyp.2.1; omega
      have HYL : Hid (ty.length = n ^ kk) := by show _ = _; have := hyp.2.2.1; simpa using this
      have HYB : Hid (∀ v ∈ ty, 0 ≤ v ∧ v ≤ (n : Int) - 1) := hyp.2.2.2
      have HRO : Hid (renOp n s ((kk : Int), ty) = ((kk : Int), renTo n kk s ty ty ty.length)) := by show _ = _; unfold renOp; simp
      have hyl8 : ty.length ≤ 4096 := by rw [HYL.out]; exact pow_bd (by omega) (by omega)
      have cc0 : wo.cell? ⟨b, o + k * 2, none⟩ = some (.int .i64 (kk : Int)) := keepc hT (hc 0 _ rfl)
      have cc1 : wo.cell? ⟨b, o + k * 2 + 1, none⟩ = some (.slice B' ty.length d') := keepc hT (hc 1 _ rfl)
      obtain ⟨w5, hw5, T5, hs5, BQ⟩ := boxes1 wo #[.int .i64 (kk : Int), .slice B' ty.length d'] 103
      have HW5 : Hid (_ = w5) := hw5.symm
      have HYK := Lib.hid hyk
      have hP5 := hPO.next T5
      have BP5 := BP.next T5
      have BR5 := BR.next T5
      have BB5 := BB.next T5
      have hT5 := below_next hT T5 rfl
      have hgq : w1.heap.size < wo.heap.size := BB.lt
      have hdt := hT.size
      have HST : Hid (PO w0.heap.size w5 (.slice VA ops.length vc) ((opsTo n s ops k).set k ((kk : Int), renTo n kk s ty ty 0)) css bls) := by
        show PO _ _ _ _ _ _
        have e : (opsTo n s ops k).set k ((kk : Int), renTo n kk s ty ty 0) = opsTo n s ops k := set_nil_same (opsTo_get hyk)
        rw [e]
        exact hP5
      have HQW : Hid (wo.heap.size ∉ obl (.slice VA ops.length vc) ++ bls.flatten) := fun hh => by have := (hPO.2.2.2 _ hh).2; omega
      have cF0 := BQ.cell 0
      have cF1 := BQ.cell 1
      simp at cF0 cF1
      rw [hw5] at cF0 cF1
      clear hw5 hs5 hc hr hyk hyp hPO hP5
      go_wp2_with fail
      clear cF0 cF1
      go_loopw [26] (fun i wi => ∃ q : Nat, q ≤ ty.length ∧ i = .int .i64 q ∧ Blk wi w.heap.size 38 #[.int .i64 (n : Int), .slice (some ⟨b, o, none⟩) ops.length d] ∧ Blk wi (w.heap.size + 1) 38 #[.int .i64 0, .slice none 0 0] ∧ Blk wi w1.heap.size 38 #[.int .i64 (n : Int), (.slice VA ops.length vc)] ∧ Blk wi wo.heap.size 103 #[.int .i64 (kk : Int), .slice B' ty.length d'] ∧ PO w0.heap.size wi (.slice VA ops.length vc) ((opsTo n s ops k).set k ((kk : Int), renTo n kk s ty ty q)) css bls ∧ Below w.heap.size w wi) (fun i _ => ty.length - (intOf i).toNat)
      case atStart =>
        rw [HW5.out]
        exact ⟨0, Nat.zero_le _, rfl, BP5, BR5, BB5, BQ, HST.out, hT5⟩
      case round =>
        clear BP5 BR5 BB5 BQ HST hT5 BP BR BB
        obtain ⟨q, hq, rfl, BP, BR, BB, BQ, hPO, hTi⟩ := hrel
        by_cases hltq : q < ty.length
        · obtain ⟨wi, hwi⟩ : ∃ wi : World, wi = wr := ⟨_, rfl⟩
          subst hwi
          have hq0 : (0 : Int) ≤ (q : Int) := by omega
          have hq1 : (q : Int) < (ty.length : Int) := by omega
          obtain ⟨b', o', u0, u, rfl, hcu, ⟨rfl, -⟩, -, hxu⟩ := (qt.next stab_RI hTi).at hltq
          have hub := HYB.out u (List.mem_of_getElem? hxu)
          obtain ⟨u, rfl⟩ := Int.eq_ofNat_of_zero_le hub.1
          have hun : u < n := by omega
          obtain ⟨J, HJ⟩ : ∃ J, Hid (toI n kk s q = J) := ⟨_, rfl⟩
          have hJ : J < ty.length := by rw [← HJ.out, HYL.out]; exact toI_lt (by omega) HPM.out q
          obtain ⟨nm, hnm1, hnmn, hnm2⟩ := HPM.out.at hun
          have HSTEP : Hid (renTo n kk s ty ty (q + 1) = (renTo n kk s ty ty q).set J (nm : Int)) := by
            show _ = _
            rw [renTo, HJ.out, List.getD_eq_getElem?_getD, hxu]
            show (renTo n kk s ty ty q).set J (nmI s (u : Int)) = _
            have := nmI_get hnm1
            rw [this]
          have HNM := Lib.hid hnm1
          have HXU := Lib.hid hxu
          have cQ0 := BQ.cell 0
          have cQ1 := BQ.cell 1
          have cP0 := BP.cell 0
          simp at cQ0 cQ1 cP0
          clear hxu hub hnm1 hnm2
          go_wp2_with fail
          refine (argsAt_any q kk n _ (by omega) (by omega) (by omega) (by omega)).mono ?_
          rintro e w6 ⟨g, rfl, hA, hb6⟩
          obtain ⟨D, HD⟩ : ∃ D, Hid (digs n kk q = D) := ⟨_, rfl⟩
          have HDL : Hid (D.length = kk) := by show _ = _; rw [← HD.out, digs_len]
          have HDB : Hid (∀ x ∈ D, x < n) := by show ∀ x ∈ D, _; rw [← HD.out]; exact fun x hx => digs_lt (by omega) hx
          rw [HD.out] at hA
          have HJ2 : Hid (idx n (D.map (nmAt s)) = J) := by show _ = _; rw [← HD.out]; exact HJ.out
          clear cQ0 cQ1 cP0 hcu
          go_wp2_with fail
          go_loopw [39] (fun i wj => ∃ j : Nat, j ≤ kk ∧ i = .int .i64 j ∧ wj.ownsRow wi.heap.size 3 1 (.slice (some ⟨g, 0, none⟩) kk kk) kk (ints (nats (mixD s D j))) ∧ Below wi.heap.size wi wj) (fun i _ => kk - (intOf i).toNat)
          case atStart => exact ⟨0, Nat.zero_le _, rfl, hA, hb6⟩
          case round =>
            clear hA hb6
            obtain ⟨j, hj, rfl, hA, hTj⟩ := hrel
            have hTw := below_next hTi hTj rfl
            by_cases hltj : j < kk
            · have hj0 : (0 : Int) ≤ (j : Int) := by omega
              have hj1 : (j : Int) < (kk : Int) := by omega
              obtain ⟨dj, hdj⟩ : ∃ dj, D[j]? = some dj := ⟨_, List.getElem?_eq_getElem (by rw [HDL.out]; exact hltj)⟩
              have hdn := HDB.out dj (List.mem_of_getElem? hdj)
              obtain ⟨v', hv', hvn, hnm'⟩ := HPM.out.at hdn
              obtain ⟨nb, no, nv, nx, rfl, hcn, ⟨rfl, -⟩, -, hxn⟩ := (hs.next stab_RI hTw).at (k := dj) hdn
              rw [hv'] at hxn
              injection hxn with hxn
              subst hxn
              have hcell : wr.cell? ⟨g, j, none⟩ = some (.int .i64 (dj : Int)) := (hA.cellAt j (by omega)).trans (by show (List.map (Value.int .i64) (nats (mixD s D j)))[j]? = _; rw [List.getElem?_map, nats_at (mixD_get hdj)]; rfl)
              have hfz : wr.frozen? ⟨g, j, none⟩ = false := hA.frozenAt j
              have hst := (hA.stored j (.int .i64 (v' : Int))).1
              rw [ints_set, nats_set, ← hnm', mixD_next hdj, hnm'] at hst
              have hgl2 := (hA.lt g rfl).1
              have hd0 : (0 : Int) ≤ (dj : Int) := by omega
              have hd1 : (dj : Int) < (n : Int) := by omega
              have HST2 := Lib.hid hst
              clear hst hdj hv' hnm'
              go_wp2_with fail
              go_roundw
              case rel => exact ⟨j + 1, by omega, by go_num, HST2.out, hTj.setCell hgl2 _⟩
              case measure => simp [intOf]; omega
            · obtain rfl : j = kk := by omega
              have hlt' : ¬ (j : Int) < (j : Int) := by omega
              have HMB : Hid (∀ d ∈ D.map (nmAt s), d < n) := by
                intro d hd
                rw [List.mem_map] at hd
                obtain ⟨x, hx, rfl⟩ := hd
                obtain ⟨v', -, hv, e⟩ := HPM.out.at (HDB.out x hx)
                omega
              rw [mixD_all (by rw [HDL.out]; exact Nat.le_refl _)] at hA
              have RA : RdL RI wr (some ⟨g, 0, none⟩) j (nats (D.map (nmAt s))) := rd_of_own (R := RI) hA (nats_R (b := n) (fun d hd => Nat.le_of_lt (HMB.out d hd)) (by omega))
              have hPj := hPO.next hTj
              have BPj := BP.next hTj
              have BRj := BR.next hTj
              have BBj := BB.next hTj
              have BQj := BQ.next hTj
              obtain ⟨gO, cap, tb, dt, hv, -, cT, hlo, hhi, hfz, hcl, htm, hset⟩ := hPj.tab (k := k) (a := (j : Int)) (t := renTo n j s ty ty q) (by rw [List.getElem?_set_self (by rw [opsTo_len]; exact hlt)]) (by intro e0; have := congrArg List.length e0; rw [renTo_len] at this; simp at this; rw [this] at hltq; simp at hltq)
              injection hv with hv1 hv2 hv3
              subst hv1
              rw [renTo_len] at cT
              have fJ := hfz J
              obtain ⟨x0, hx0⟩ : ∃ x0, (renTo n j s ty ty q)[J]? = some x0 := ⟨_, List.getElem?_eq_getElem (by rw [renTo_len]; exact hJ)⟩
              have cJ := hcl J x0 hx0
              obtain ⟨nb, no, nv, nx, rfl, hcn, ⟨rfl, -⟩, -, hxn⟩ := (hs.next stab_RI hTw).at (k := u) hun
              rw [HNM.out] at hxn
              injection hxn with hxn
              subst hxn
              have n5 : nb ≠ tb := by
                obtain ⟨v8, x8, hc8, -⟩ := hs.at' (k := u) hun
                have := cell_lt hc8
                have := HZ0.out
                have h9 : nb < w.heap.size := by assumption
                omega
              have n6 : b' ≠ tb := by
                obtain ⟨v8, x8, hc8, -⟩ := qt.at' hltq
                have h9 : b' < w.heap.size := cell_lt hc8
                have := HZ0.out
                omega
              have n7 : gO ≠ tb := fun e => (List.nodup_append.1 hPj.2.2.1).2.2 gO (by simp [obl, Value.ownBlock]) tb htm e
              obtain ⟨uv, ux, hcu, ⟨rfl, -⟩, -, hux⟩ := (qt.next stab_RI hTw).at' hltq
              rw [HXU.out] at hux
              injection hux with hux
              subst hux
              have HS2 := hset J (nm : Int) ⟨by omega, by omega⟩
              rw [List.set_set] at HS2
              have HS3 : Hid (PO w0.heap.size (wr.setCell ⟨tb, J, none⟩ (.int .i64 (nm : Int))) (.slice (some ⟨gO, 0, none⟩) ops.length vc) ((opsTo n s ops k).set k ((j : Int), renTo n j s ty ty (q + 1))) css bls) := by show PO _ _ _ _ _ _; rw [HSTEP.out]; exact HS2
              have hz0 := HZ0.out
              have n1 : w.heap.size ≠ tb := by omega
              have n2 : w.heap.size + 1 ≠ tb := by omega
              have n3 : w1.heap.size ≠ tb := fun e => HGB.out (by rw [e]; exact List.mem_append_right _ htm)
              have n4 : wo.heap.size ≠ tb := fun e => HQW.out (by rw [e]; exact List.mem_append_right _ htm)
              have HBL := Lib.hid (And.intro (BPj.far (p := ⟨tb, J, none⟩) n1 (.int .i64 (nm : Int))) (And.intro (BRj.far (p := ⟨tb, J, none⟩) n2 (.int .i64 (nm : Int))) (And.intro (BBj.far (p := ⟨tb, J, none⟩) n3 (.int .i64 (nm : Int))) (And.intro (BQj.far (p := ⟨tb, J, none⟩) n4 (.int .i64 (nm : Int))) (hTw.setCell (p := ⟨tb, J, none⟩) (show w.heap.size ≤ tb by omega) (.int .i64 (nm : Int)))))))
              have cB1 := BBj.cell 1
              have cP0 := BPj.cell 0
              simp at cB1 cP0
              have hJ0 : (0 : Int) ≤ (J : Int) := by omega
              have hJ1 : (J : Int) < (ty.length : Int) := by omega
              have hu0 : (0 : Int) ≤ (u : Int) := by omega
              have hu1 : (u : Int) < (n : Int) := by omega
              clear hfz hcl hset HS2 hx0 hPj BPj BRj BBj BQj hz0 hv2 hv3 hA htm
              go_upto_region 14 with fail
              have Tk : Below wr.heap.size wr wr := Below.refl _ _
              have HKD : (wr.setCell ⟨tb, J, none⟩ (.int .i64 (nm : Int))).drew.cell? ⟨w.heap.size, 0, none⟩ = some (.int .i64 (n : Int)) ∧ (wr.setCell ⟨tb, J, none⟩ (.int .i64 (nm : Int))).drew.cell? ⟨w1.heap.size, 1, none⟩ = some (.slice (some ⟨gO, 0, none⟩) ops.length vc) ∧ (wr.setCell ⟨tb, J, none⟩ (.int .i64 (nm : Int))).drew.cell? ⟨gO, k * 2 + 1, none⟩ = some (.slice (some ⟨tb, 0, none⟩) ty.length dt) ∧ (wr.setCell ⟨tb, J, none⟩ (.int .i64 (nm : Int))).drew.cell? ⟨nb, no + u, none⟩ = some (.int .i64 (nm : Int)) ∧ (wr.setCell ⟨tb, J, none⟩ (.int .i64 (nm : Int))).drew.cell? ⟨b', o' + q, none⟩ = some (.int .i64 (u : Int)) := ⟨cell_farD n1 cP0, cell_farD n3 cB1, cell_farD n7 cT, cell_farD n5 hcn, cell_farD n6 hcu⟩
              go_region_held3 (fun w' => w'.cell? ⟨w.heap.size, 0, none⟩ = some (.int .i64 (n : Int)) ∧ w'.cell? ⟨w1.heap.size, 1, none⟩ = some (.slice (some ⟨gO, 0, none⟩) ops.length vc) ∧ w'.cell? ⟨gO, k * 2 + 1, none⟩ = some (.slice (some ⟨tb, 0, none⟩) ty.length dt) ∧ w'.cell? ⟨nb, no + u, none⟩ = some (.int .i64 (nm : Int)) ∧ w'.cell? ⟨b', o' + q, none⟩ = some (.int .i64 (u : Int))) (first | go_keep | exact ⟨keepc Tk cP0, keepc Tk cB1, keepc Tk cT, keepc Tk hcn, keepc Tk hcu⟩ | exact HKD | exact ⟨cell_farD n1 cP0, cell_farD n3 cB1, cell_farD n7 cT, cell_farD n5 hcn, cell_farD n6 hcu⟩ | exact ⟨cell_far n1 cP0, cell_far n3 cB1, cell_far n7 cT, cell_far n5 hcn, cell_far n6 hcu⟩) (first
                | (go_at_call 146; refine (indexOf_any _ j j n (D.map (nmAt s)) _ (by first | exact RA | exact RA.drew stab_RI) (by omega) (by omega) HMB.out).mono ?_; rintro e w' ⟨rfl, rfl⟩; rw [HJ2.out]))
              all_goals
                go_wp2_with fail
                go_roundw
                case rel => exact ⟨q + 1, by omega, by go_num, HBL.out.1.drew, HBL.out.2.1.drew, HBL.out.2.2.1.drew, HBL.out.2.2.2.1.drew, HS3.out.next (Below.drew (Below.refl _ _)), Below.drew HBL.out.2.2.2.2⟩
                case measure => simp [intOf]; omega
        · have hqe : q = ty.length := by omega
          have hlt' : ¬ (q : Int) < (ty.length : Int) := by omega
          have HPN : Hid (PO w0.heap.size wr (.slice VA ops.length vc) (opsTo n s ops (k + 1)) css bls) := by
            show PO _ _ _ _ _ _
            rw [← opsTo_next HYK.out, HRO.out, ← hqe]
            exact hPO
          clear hqe
          go_wp2_with fail
          go_roundw
          case rel => exact ⟨k + 1, by omega, by go_num, BP, BR, BB, HPN.out, hTi⟩
          case measure => simp [intOf]; omega
    · have hlt' : ¬ (k : Int) < (ops.length : Int) := by omega
      rw [opsTo_all (by omega)] at hPO
      have hlow : w.heap.size ≤ w0.heap.size := by have := HZ0.out; omega
      have hPF := ((hPO.far (p := ⟨w.heap.size + 1, 0, none⟩) (by have := HZ0.out; show w.heap.size + 1 < w0.heap.size; omega) (.int .i64 (n : Int))).far (p := ⟨w.heap.size + 1, 1, none⟩) (by have := HZ0.out; show w.heap.size + 1 < w0.heap.size; omega) (.slice VA ops.length vc)).mono hlow
      have hTF := (hT.setCell (p := ⟨w.heap.size + 1, 0, none⟩) (by show _ ≤ _; simp) (.int .i64 (n : Int))).setCell (p := ⟨w.heap.size + 1, 1, none⟩) (by show _ ≤ _; simp) (.slice VA ops.length vc)
      have cO0 := BB.cell 0
      have cO1 := BB.cell 1
      have cR0 := BR.cell 0
      have cR1 := BR.cell 1
      have fR0 := BR.frozen 0
      have fR1 := BR.frozen 1
      have BRR : Blk ((wr.setCell ⟨w.heap.size + 1, 0, none⟩ (.int .i64 (n : Int))).setCell ⟨w.heap.size + 1, 1, none⟩ (.slice VA ops.length vc)) (w.heap.size + 1) 38 #[.int .i64 (n : Int), .slice VA ops.length vc] := by simpa using ((BR.set_ 0 (.int .i64 (n : Int))).set_ 1 (.slice VA ops.length vc))
      have HPF := Lib.hid hPF
      have n8 : ¬ w.heap.size + 1 = w1.heap.size := by have := HZ0.out; omega
      have n9 : ¬ w1.heap.size = w.heap.size + 1 := fun e => n8 e.symm
      have cO1' : (wr.setCell ⟨w.heap.size + 1, 0, none⟩ (.int .i64 (n : Int))).cell? ⟨w1.heap.size, 1, none⟩ = some (.slice VA ops.length vc) := cell_far (p := ⟨w.heap.size + 1, 0, none⟩) (a := ⟨w1.heap.size, 1, none⟩) n9 (by simpa using cO1)
      simp at cO0 cO1 cR0 cR1
      clear hPF hPO
      go_wp2_with fail
      (try simp only [Exit.inBlock, Exit.then])
      refine bodyPost_ret (v := .agg #[.int .i64 (n : Int), .slice VA ops.length vc]) (results_cell_row rfl _ _ (w.heap.size + 1) 38 #[.int .i64 (n : Int), .slice VA ops.length vc] (0, 0) _ (by simp) BRR Try.underlying38 rfl (by kernel_rfl)) rfl ?_
      exact ⟨_, css, bls, rfl, HPF.out, hTF⟩
end Go.Proofs.Ytbpdbimdefdefaa
namespace Go.Proofs.Ytbpdbimdefdefaa
open Go.RowKit

theorem run_mk (L : Nat) (b : L ≤ 1048576) : ∃ M : Array Value, M.toList = ints (List.replicate L 0) ∧ ∀ w : World, (Instr.makeSlice 75 (.int .i64 (L : Int)) (.int .i64 (L : Int))).run Try.prog w = .ok (.slice (some ⟨w.heap.size, 0, none⟩) L L) (w.alloc (.cells M 3)) := by
  obtain ⟨i0, hi, hz0, hz1, hz2⟩ := info_parts info_int
  refine ⟨madeCells (Value.int .i64 0).cells (L * 1), ?_, fun w => ?_⟩
  · rw [Nat.mul_one, ints_rep]
    exact toList_madeCells_one (.int .i64 0) L
  · have hr := run_make (P := Try.prog) w 75 3 i0 (.int .i64 0) Try.underlying75 hi hz0 .i64 .i64 L L (by omega) (Int.le_refl _) (by rw [hz2]; omega) (by omega)
    simp only [Int.toNat_natCast] at hr
    rw [hz1] at hr
    exact hr
theorem mk_own {w : World} {M : Array Value} {L : Nat} (hM : M.toList = ints (List.replicate L 0)) (hL : L ≤ 1048576) {lo : Nat} (hlo : lo ≤ w.heap.size) : (w.alloc (.cells M 3)).ownsRow lo 3 1 (.slice (some ⟨w.heap.size, 0, none⟩) L L) L (ints (List.replicate L 0)) := by
  have hs : M.size = L * 1 := by rw [← Array.length_toList, hM]; simp [ints]
  have := World.ownsRow_lit (e := 3) (size := 1) w M L hlo (by unfold maxLen; omega) hs
  rw [hM] at this
  exact this

set_option maxRecDepth 20000 in
set_option maxHeartbeats 8000000 in
theorem l2Rename_any (cs : List Value) (x : AlgebraM) (N : Option Addr) (n cN : Nat) (s : List Int) (w : World) (h : shAlgebra.rd w cs x) (hs : RdL RI w N n s) (hx : SmallP x) (hp : PermL x.1.toNat s) :
    Calls Try.prog 101 #[.agg cs.toArray, .slice N n cN] w (AlgE w (ren x s)) := by
  obtain ⟨a, ops⟩ := x
  obtain ⟨z, rfl⟩ : ∃ z : Nat, a = (z : Int) := ⟨a.toNat, by have h1 : 1 ≤ a := hx.1; omega⟩
  have hz1 : 1 ≤ z := by have h1 : (1 : Int) ≤ (z : Int) := hx.1; omega
  have hz5 : z ≤ 5 := by have h1 : (z : Int) ≤ 5 := hx.2.1; omega
  have hm4 : ops.length ≤ 4 := hx.2.2.1
  have HOP : Hid (∀ o ∈ ops, OpP z o) := fun o ho => by have := hx.2.2.2 o ho; simpa using this
  have HPM : Hid (PermL z s) := by show PermL z s; simpa using hp
  have hnz : n = z := by rw [← hs.len]; exact HPM.out.1
  subst hnz
  have HREN : Hid (ren ((n : Int), ops) s = ((n : Int), ops.map (renOp n s))) := by show _ = _; unfold ren; simp
  obtain ⟨B, m, d, rfl, qs, qo⟩ := rdAlgebra h
  obtain rfl : ops.length = m := qo.len
  obtain ⟨w0, hw0, T0, hs0, BP, BR, BO⟩ := boxes3 w #[.int .i64 (n : Int), .slice B ops.length d] #[.int .i64 0, .slice none 0 0] #[.int .i64 (n : Int), .slice none 0 0] 38 38
  have HW0 : Hid (_ = w0) := hw0.symm
  have HZ0 := Lib.hid hs0
  have hPO0 : PO w0.heap.size w0 (.slice none 0 0) ((ops.take 0).map (renOp n s)) [] [] := PO.nil _ _
  have cP0 := BP.cell 0
  have cP1 := BP.cell 1
  simp at cP0 cP1
  rw [hw0] at cP0 cP1
  have cP0' := ((Blk.new w 38 #[.int .i64 (n : Int), .slice B ops.length d]).alloc (.cells #[.int .i64 0, .slice none 0 0] 38)).cell 0
  simp at cP0'
  rw [HREN.out]
  clear hw0 hs0 hp hx h
  go_enter Try.func101, Try.ntmps101
  go_wp2_with fail
  clear cP0 cP1 cP0'
  go_loopw [6] (fun i wr => ∃ (k : Nat) (v : Value) (css : List (List Value)) (bls : List (List Nat)), k ≤ ops.length ∧ i = .int .i64 k ∧ Blk wr w.heap.size 38 #[.int .i64 (n : Int), .slice B ops.length d] ∧ Blk wr (w.heap.size + 1) 38 #[.int .i64 0, .slice none 0 0] ∧ Blk wr (w.heap.size + 1 + 1) 38 #[.int .i64 (n : Int), v] ∧ PO w0.heap.size wr v ((ops.take k).map (renOp n s)) css bls ∧ Below w.heap.size w wr) (fun i _ => ops.length - (intOf i).toNat)
  case atStart =>
    rw [HW0.out]
    exact ⟨0, _, _, _, Nat.zero_le _, rfl, BP, BR, BO, hPO0, T0⟩
  case round =>
    clear hPO0 BP BR BO T0
    obtain ⟨k, v, css, bls, hk, rfl, BP, BR, BO, hPO, hT⟩ := hrel
    have cP1 := BP.cell 1
    simp at cP1
    by_cases hlt : k < ops.length
    · obtain ⟨wo, hwo⟩ : ∃ wo : World, wo = wr := ⟨_, rfl⟩
      subst hwo
      have hk0 : (0 : Int) ≤ (k : Int) := by omega
      have hk1 : (k : Int) < (ops.length : Int) := by omega
      obtain ⟨b, o, vs, y, rfl, -, hc, hr, -, hyk⟩ := qo.at hlt
      obtain ⟨ya, ty⟩ := y
      have hyp := HOP.out (ya, ty) (List.mem_of_getElem? hyk)
      obtain ⟨kk, rfl⟩ : ∃ kk : Nat, ya = (kk : Int) := ⟨ya.toNat, by have h1 : 0 ≤ ya := hyp.1; omega⟩
      obtain ⟨B', m', d', rfl, qa, qt⟩ := rdOp hr
      obtain rfl : ty.length = m' := qt.len
      have hkk3 : kk ≤ 3 := by have h1 : (kk : Int) ≤ 3 := hyp.2.1; omega
      have HYL : Hid (ty.length = n ^ kk) := by show _ = _; have := hyp.2.2.1; simpa using this
      have HYB : Hid (∀ v ∈ ty, 0 ≤ v ∧ v ≤ (n : Int) - 1) := hyp.2.2.2
      obtain ⟨L, hL⟩ : ∃ L, ty.length = L := ⟨_, rfl⟩
      have HLT := Lib.hid hL
      have hyl8 : L ≤ 4096 := by rw [← hL, HYL.out]; exact pow_bd (by omega) (by omega)
      have HLP : Hid (L = n ^ kk) := by show _ = _; rw [← hL]; exact HYL.out
      have HRO : Hid (renOp n s ((kk : Int), ty) = ((kk : Int), renTo n kk s ty (List.replicate L 0) L)) := by
        show _ = _
        unfold renOp
        simp only [Int.toNat_natCast]
        rw [HYL.out, HLP.out, renTo_any (T := ty) (T' := List.replicate (n ^ kk) 0) (by omega) HPM.out HYL.out (by simp)]
      rw [hL] at hc qt
      have cc0w : w.cell? ⟨b, o + k * 2, none⟩ = some (.int .i64 (kk : Int)) := hc 0 _ rfl
      have cc1w : w.cell? ⟨b, o + k * 2 + 1, none⟩ = some (.slice B' L d') := hc 1 _ rfl
      have cc0 := keepc hT cc0w
      have cc1 := keepc hT cc1w
      have HYK := Lib.hid hyk
      clear hc hr hyk hyp hL
      go_upto_region 5 with fail
      go_cut [7] (fun v7 wx => ∃ g gq, v7 = .pointer (some ⟨gq, 0, none⟩) ∧ Blk wx gq 103 #[.int .i64 (kk : Int), .slice (some ⟨g, 0, none⟩) L L] ∧ wx.ownsRow wo.heap.size 3 1 (.slice (some ⟨g, 0, none⟩) L L) L (ints (List.replicate L 0)) ∧ wo.heap.size ≤ gq ∧ Below wo.heap.size wo wx)
      case first =>
        obtain ⟨M, hM, HMK⟩ := run_mk L (by omega)
        have HM := Lib.hid hM
        clear hM
        have cP1a := keepc (below_box wo (.cells #[.int .i64 0, .slice none 0 0] 103)) (cP1)
        have cc0a := keepc (below_box wo (.cells #[.int .i64 0, .slice none 0 0] 103)) (cc0)
        have cc1a := keepc (below_box wo (.cells #[.int .i64 0, .slice none 0 0] 103)) (cc1)
        have cP1b := keepc (below_box wo (.cells M 3)) (cP1)
        have cc0b := keepc (below_box wo (.cells M 3)) (cc0)
        have cc1b := keepc (below_box wo (.cells M 3)) (cc1)
        have cP1c := keepc (below_box (wo.alloc (.cells #[.int .i64 0, .slice none 0 0] 103)) (.cells M 3)) (keepc (below_box wo (.cells #[.int .i64 0, .slice none 0 0] 103)) (cP1))
        have cc0c := keepc (below_box (wo.alloc (.cells #[.int .i64 0, .slice none 0 0] 103)) (.cells M 3)) (keepc (below_box wo (.cells #[.int .i64 0, .slice none 0 0] 103)) (cc0))
        have cc1c := keepc (below_box (wo.alloc (.cells #[.int .i64 0, .slice none 0 0] 103)) (.cells M 3)) (keepc (below_box wo (.cells #[.int .i64 0, .slice none 0 0] 103)) (cc1))
        have cP1d := keepc (below_box (wo.alloc (.cells M 3)) (.cells #[.int .i64 0, .slice none 0 0] 103)) (keepc (below_box wo (.cells M 3)) (cP1))
        have cc0d := keepc (below_box (wo.alloc (.cells M 3)) (.cells #[.int .i64 0, .slice none 0 0] 103)) (keepc (below_box wo (.cells M 3)) (cc0))
        have cc1d := keepc (below_box (wo.alloc (.cells M 3)) (.cells #[.int .i64 0, .slice none 0 0] 103)) (keepc (below_box wo (.cells M 3)) (cc1))
        go_region
        all_goals
          go_wp2_with fail
          go_meet
        · refine ⟨wo.heap.size, wo.heap.size + 1, rfl, ?_, ?_, by omega, Below.drew (below_box2 _ _ _)⟩
          · have := Blk.new (wo.alloc (.cells M 3)) 103 #[.int .i64 (kk : Int), .slice (some ⟨wo.heap.size, 0, none⟩) L L]
            rw [World.size_alloc] at this
            exact this.drew
          · exact own_same ((mk_own HM.out (by omega) (Nat.le_refl _)).alloc _) fun _ _ => rfl
        · refine ⟨wo.heap.size + 1, wo.heap.size, rfl, ?_, ?_, Nat.le_refl _, Below.drew (below_box2 _ _ _)⟩
          · exact ((Blk.new wo 103 #[.int .i64 (kk : Int), .slice (some ⟨wo.heap.size + 1, 0, none⟩) L L]).alloc _).drew
          · have := mk_own (w := wo.alloc (.cells #[.int .i64 (kk : Int), .slice (some ⟨wo.heap.size + 1, 0, none⟩) L L] 103)) HM.out (by omega) (lo := wo.heap.size) (by simp)
            rw [World.size_alloc] at this
            exact own_same this fun _ _ => rfl
      case rest =>
        obtain ⟨g, gq, rfl, BQ, hown, hgq, hTc⟩ := hcut
        obtain ⟨w5, HWC⟩ : ∃ wq : World, wq = wc := ⟨_, rfl⟩
        subst HWC
        have hdt := hT.size
        have hbw : b < w.heap.size := cell_lt cc0w
        clear cc0 cc1 cP1
        have cQ1 := BQ.cell 1
        simp at cQ1
        go_wp2_with fail
        clear cQ1
        go_loopw [8] (fun i wi => ∃ q : Nat, q ≤ L ∧ i = .int .i64 q ∧ Blk wi gq 103 #[.int .i64 (kk : Int), .slice (some ⟨g, 0, none⟩) L L] ∧ wi.ownsRow wo.heap.size 3 1 (.slice (some ⟨g, 0, none⟩) L L) L (ints (renTo n kk s ty (List.replicate L 0) q)) ∧ Below wo.heap.size wo wi) (fun i _ => L - (intOf i).toNat)
        case atStart => exact ⟨0, Nat.zero_le _, rfl, BQ, hown, hTc⟩
        case round =>
          clear BQ hown hTc
          obtain ⟨q, hq, rfl, BQ, hown, hTi⟩ := hrel
          have hTwi := below_next hT hTi rfl
          have cQ0 := BQ.cell 0
          have cQ1 := BQ.cell 1
          simp at cQ0 cQ1
          by_cases hltq : q < L
          · obtain ⟨wi, hwi⟩ : ∃ wi : World, wi = wr := ⟨_, rfl⟩
            subst hwi
            have hq0 : (0 : Int) ≤ (q : Int) := by omega
            have hq1 : (q : Int) < (L : Int) := by omega
            obtain ⟨b', o', u0, u, rfl, hcu, ⟨rfl, -⟩, -, hxu⟩ := qt.at hltq
            have hub := HYB.out u (List.mem_of_getElem? hxu)
            obtain ⟨u, rfl⟩ := Int.eq_ofNat_of_zero_le hub.1
            have hun : u < n := by omega
            obtain ⟨J, HJ⟩ : ∃ J, Hid (toI n kk s q = J) := ⟨_, rfl⟩
            have hJ : J < L := by rw [← HJ.out, HLP.out]; exact toI_lt (by omega) HPM.out q
            obtain ⟨nm, hnm1, hnmn, hnm2⟩ := HPM.out.at hun
            have HSTEP : Hid (renTo n kk s ty (List.replicate L 0) (q + 1) = (renTo n kk s ty (List.replicate L 0) q).set J (nm : Int)) := by
              show _ = _
              rw [renTo, HJ.out, List.getD_eq_getElem?_getD, hxu]
              show (renTo n kk s ty (List.replicate L 0) q).set J (nmI s (u : Int)) = _
              have := nmI_get hnm1
              rw [this]
            obtain ⟨nb, no, nv, nx, rfl, hcn, ⟨rfl, -⟩, -, hxn⟩ := hs.at (k := u) hun
            rw [hnm1] at hxn
            injection hxn with hxn
            subst hxn
            have hbw2 : b' < w.heap.size := cell_lt hcu
            have hbw3 : nb < w.heap.size := cell_lt hcn
            have BPi := BP.next hTi
            have cP0 := BPi.cell 0
            simp at cP0
            clear hxu hub hnm1 hnm2
            go_wp2_with fail
            refine (l2Args_any q kk n _ (by omega) (by omega) (by omega) (by omega)).mono ?_
            rintro e w6 ⟨ga, rfl, hA, hb6⟩
            obtain ⟨D, HD⟩ : ∃ D, Hid (digs n kk q = D) := ⟨_, rfl⟩
            have HDL : Hid (D.length = kk) := by show _ = _; rw [← HD.out, digs_len]
            have HDB : Hid (∀ x ∈ D, x < n) := by show ∀ x ∈ D, _; rw [← HD.out]; exact fun x hx => digs_lt (by omega) hx
            rw [HD.out] at hA
            have HJ2 : Hid (idx n (D.map (nmAt s)) = J) := by show _ = _; rw [← HD.out]; exact HJ.out
            have HMB : Hid (∀ d ∈ D.map (nmAt s), d < n) := by
              intro d hd
              rw [List.mem_map] at hd
              obtain ⟨x, hx, rfl⟩ := hd
              obtain ⟨v', -, hv, e⟩ := HPM.out.at (HDB.out x hx)
              omega
            have hT6 := below_next hTwi hb6 rfl
            have BP6 := BPi.next hb6
            have RA : RdL RI w6 (some ⟨ga, 0, none⟩) kk (nats D) := rd_of_own (R := RI) hA (nats_R (b := n) (fun d hd => Nat.le_of_lt (HDB.out d hd)) (by omega))
            clear cQ0 cQ1 cP0 hA
            go_wp2_with fail
            go_loopw [10, 11] (fun v i wj => ∃ j : Nat, j ≤ kk ∧ i = .int .i64 j ∧ v = .int .i64 (idx n ((D.map (nmAt s)).take j) : Nat) ∧ Below w6.heap.size w6 wj) (fun _ i _ => kk - (intOf i).toNat)
            case atStart => exact ⟨0, Nat.zero_le _, rfl, rfl, Below.refl _ _⟩
            case round =>
              obtain ⟨j, hj, rfl, rfl, hTj⟩ := hrel
              obtain ⟨P, HP⟩ : ∃ P, Hid (idx n ((D.map (nmAt s)).take j) = P) := ⟨_, rfl⟩
              have hP : P ≤ 4096 := by
                rw [← HP.out]
                have := idx_small (n := n) (by omega) (l := (D.map (nmAt s)).take j) (by rw [List.length_take, List.length_map, HDL.out]; omega) fun d hd => HMB.out d (List.mem_of_mem_take hd)
                omega
              rw [HP.out]
              have hTjw := below_next hT6 hTj rfl
              by_cases hltj : j < kk
              · have hj0 : (0 : Int) ≤ (j : Int) := by omega
                have hj1 : (j : Int) < (kk : Int) := by omega
                obtain ⟨dj, hdj⟩ : ∃ dj, D[j]? = some dj := ⟨_, List.getElem?_eq_getElem (by rw [HDL.out]; exact hltj)⟩
                have hdn := HDB.out dj (List.mem_of_getElem? hdj)
                obtain ⟨v', hv', hvn, hnm'⟩ := HPM.out.at hdn
                obtain ⟨nv, nx, hcn', ⟨rfl, -⟩, -, hxn⟩ := (hs.next stab_RI hTjw).at' (k := dj) hdn
                rw [hv'] at hxn
                injection hxn with hxn
                subst hxn
                obtain ⟨av, ax, hca, ⟨rfl, -⟩, -, hxa⟩ := (RA.next stab_RI hTj).at' hltj
                rw [Nat.zero_add] at hca
                rw [nats_at hdj] at hxa
                injection hxa with hxa
                subst hxa
                have cP0 := (BP6.next hTj).cell 0
                simp at cP0
                have HT : Hid (idx n ((D.map (nmAt s)).take (j + 1)) = P * n + v') := by
                  show _ = _
                  rw [idx_take (d := v') (by rw [List.getElem?_map, hdj]; simp [hnm']), HP.out]
                have hM : P * n ≤ 4096 * 8 := Nat.mul_le_mul hP (by omega)
                have hm0 : (0 : Int) ≤ (P : Int) * (n : Int) := by rw [← Int.natCast_mul]; omega
                have hm1 : (P : Int) * (n : Int) ≤ 32768 := by rw [← Int.natCast_mul]; omega
                have HE : Hid ((P : Int) * (n : Int) = ((P * n : Nat) : Int)) := (Int.natCast_mul _ _).symm
                have hd0 : (0 : Int) ≤ (dj : Int) := by omega
                have hd1 : (dj : Int) < (n : Int) := by omega
                have HVN := Lib.hid hvn
                have hvm : (v' : Int) ≤ 8 := by omega
                clear hM hdj hv' hnm' hvn
                go_upto_region 14 with fail
                go_quiet (fail)
                go_wp2_with fail
                go_roundw
                case rel => exact ⟨j + 1, by omega, by go_num, by rw [HT.out, HE.out]; simp, by first | exact hTj | exact below_drewN hTj _⟩
                case measure => simp [intOf]; omega
              · have hlt' : ¬ (j : Int) < (kk : Int) := by omega
                have hPJ : P = J := by rw [← HP.out, ← HJ2.out, List.take_of_length_le (by rw [List.length_map, HDL.out]; omega)]
                subst hPJ
                have hTir := below_next hb6 hTj rfl
                have hownr := own_next hown hTir
                have BQr := BQ.next hTir
                have BPr := BP6.next hTj
                have cQ1 := BQr.cell 1
                have cP1 := BPr.cell 1
                simp at cQ1 cP1
                have cc1 := keepc hTjw cc1w
                have hcu2 := keepc hTjw hcu
                have hcn2 := keepc hTjw hcn
                obtain ⟨x0, hx0⟩ : ∃ x0, (ints (renTo n kk s ty (List.replicate L 0) q))[P]? = some x0 := ⟨_, List.getElem?_eq_getElem (by rw [ints_len, renTo_len]; simp; exact hJ)⟩
                have cJ : wr.cell? ⟨g, P, none⟩ = some x0 := (hownr.cellAt P (by omega)).trans hx0
                have fJ := hownr.frozenAt P
                have hgo := (hownr.lt g rfl).1
                have hst := (hownr.stored P (.int .i64 (nm : Int))).1
                rw [ints_set, ← HSTEP.out] at hst
                have hwl := BP.lt
                have n1 : w.heap.size ≠ g := by omega
                have n2 : gq ≠ g := fun e => own_off hownr BQr (by decide) (by rw [e]; rfl)
                have n3 : b ≠ g := by omega
                have n4 : b' ≠ g := by omega
                have n5 : nb ≠ g := by omega
                have HFIN := Lib.hid (And.intro (BQr.far (p := ⟨g, P, none⟩) n2 (.int .i64 (nm : Int))) (And.intro hst ((below_next hTi hTir rfl).setCell (p := ⟨g, P, none⟩) hgo (.int .i64 (nm : Int)))))
                have hP0 : (0 : Int) ≤ (P : Int) := by omega
                have hP1 : (P : Int) < (L : Int) := by omega
                have hu0 : (0 : Int) ≤ (u : Int) := by omega
                have hu1 : (u : Int) < (n : Int) := by omega
                clear hst hownr hx0 hown hcu hcn cc1w cc0w BQr BPr
                go_upto_region 15 with fail
                have Tk : Below wr.heap.size wr wr := Below.refl _ _
                have HKD : (wr.setCell ⟨g, P, none⟩ (.int .i64 (nm : Int))).drew.cell? ⟨gq, 1, none⟩ = some (.slice (some ⟨g, 0, none⟩) L L) ∧ (wr.setCell ⟨g, P, none⟩ (.int .i64 (nm : Int))).drew.cell? ⟨w.heap.size, 1, none⟩ = some (.slice (some ⟨b, o, none⟩) ops.length d) ∧ (wr.setCell ⟨g, P, none⟩ (.int .i64 (nm : Int))).drew.cell? ⟨b, o + k * 2 + 1, none⟩ = some (.slice (some ⟨b', o', none⟩) L d') ∧ (wr.setCell ⟨g, P, none⟩ (.int .i64 (nm : Int))).drew.cell? ⟨b', o' + q, none⟩ = some (.int .i64 (u : Int)) ∧ (wr.setCell ⟨g, P, none⟩ (.int .i64 (nm : Int))).drew.cell? ⟨nb, no + u, none⟩ = some (.int .i64 (nm : Int)) := ⟨cell_farD n2 cQ1, cell_farD n1 cP1, cell_farD n3 cc1, cell_farD n4 hcu2, cell_farD n5 hcn2⟩
                go_region_held3 (fun w' => w'.cell? ⟨gq, 1, none⟩ = some (.slice (some ⟨g, 0, none⟩) L L) ∧ w'.cell? ⟨w.heap.size, 1, none⟩ = some (.slice (some ⟨b, o, none⟩) ops.length d) ∧ w'.cell? ⟨b, o + k * 2 + 1, none⟩ = some (.slice (some ⟨b', o', none⟩) L d') ∧ w'.cell? ⟨b', o' + q, none⟩ = some (.int .i64 (u : Int)) ∧ w'.cell? ⟨nb, no + u, none⟩ = some (.int .i64 (nm : Int))) (first | go_keep | exact ⟨keepc Tk cQ1, keepc Tk cP1, keepc Tk cc1, keepc Tk hcu2, keepc Tk hcn2⟩ | exact HKD) (fail)
                all_goals
                  go_wp2_with fail
                  go_roundw
                  case rel => exact ⟨q + 1, by omega, by go_num, HFIN.out.1.drew, own_same HFIN.out.2.1 (fun _ _ => rfl), Below.drew HFIN.out.2.2⟩
                  case measure => simp [intOf]; omega
          · have hqe : q = L := by omega
            subst hqe
            have hlt' : ¬ (q : Int) < (q : Int) := by omega
            obtain ⟨LL, HLL⟩ : ∃ LL, Hid ((ops.take k).map (renOp n s) = LL) := ⟨_, rfl⟩
            have HLK : Hid (LL.length = k) := by show _ = _; rw [← HLL.out, List.length_map, List.length_take]; omega
            rw [HLL.out] at hPO
            have HNX : Hid ((ops.take (k + 1)).map (renOp n s) = LL ++ [((kk : Int), renTo n kk s ty (List.replicate q 0) q)]) := by
              show _ = _
              rw [take_snoc HYK.out, List.map_append, HLL.out, ← HRO.out]
              rfl
            obtain ⟨VA, vc, rfl⟩ := own_slice hPO.2.1
            have hTl : (renTo n kk s ty (List.replicate q 0) q).length = q := by rw [renTo_len, List.length_replicate]
            have hTb : ∀ y ∈ renTo n kk s ty (List.replicate q 0) q, InR y := fun y hy => by
              have := renTo_in HPM.out (fun v hv => by rw [List.mem_replicate] at hv; omega) HYB.out q (by rw [HLT.out]; exact Nat.le_refl _) y hy
              exact ⟨by omega, by omega⟩
            have hO0 : wr.ownsRow 0 3 1 (.slice (some ⟨g, 0, none⟩) q q) (renTo n kk s ty (List.replicate q 0) q).length (ints (renTo n kk s ty (List.replicate q 0) q)) := by rw [hTl]; exact own_mono hown (Nat.zero_le _)
            have how : shOp.own wr [.int .i64 (kk : Int), .slice (some ⟨g, 0, none⟩) q q] ((kk : Int), renTo n kk s ty (List.replicate q 0) q) [g] := ⟨[.int .i64 (kk : Int)], [.slice (some ⟨g, 0, none⟩) q q], [], [g], rfl, rfl, ⟨_, rfl, ⟨rfl, by omega, by omega⟩, rfl⟩, ⟨_, rfl, hO0, hTb, rfl⟩⟩
            have hgl := hown.lt g rfl
            have hwz0 : w0.heap.size ≤ wo.heap.size := by have h1 := BO.lt; have h2 := HZ0.out; omega
            obtain ⟨hvs, HPU⟩ := hPO.push hTi hwz0 how ⟨by simp, fun b hb => by simp at hb; subst hb; exact hgl⟩
            have BOr := BO.next hTi
            have BPr := BP.next hTi
            have BRr := BR.next hTi
            have cO1 := BOr.cell 1
            simp at cO1
            have hsz := hTi.size
            clear how hO0 hTb hTl hPO
            go_wp2_with (at_builtin; refine app2 wr rfl _ _ 36 103 rfl (.agg #[.int .i64 0, .slice none 0 0]) 32 Try.underlying36 info_op2 rfl (by decide) w0.heap.size LL.length vc VA css.flatten rfl hvs (.int .i64 (kk : Int)) (.slice (some ⟨g, 0, none⟩) q q) rfl rfl rfl (by have := HLK.out; omega) (by omega) ?_; intro A8 c8 w8 hown8 hg8 hb8; have BO8 := BOr.grown hg8 (fun e => own_off hvs BOr (by decide) e.symm); have BR8 := BRr.grown hg8 (fun e => own_off hvs BRr (by decide) e.symm); have BP8 := BPr.grown hg8 (fun e => own_off hvs BPr (by decide) e.symm); have cO8 := BO8.cell 1; have fO8 := BO8.frozen 1; simp at cO8)
            have PN2 := (HPU hown8 hg8).far (p := ⟨w.heap.size + 1 + 1, 1, none⟩) (by have := HZ0.out; show w.heap.size + 1 + 1 < w0.heap.size; omega) (.slice A8 (LL.length + 1) c8)
            have hT8 := (hTwi.trans (hb8.mono (by have := HZ0.out; omega))).setCell (p := ⟨w.heap.size + 1 + 1, 1, none⟩) (by show _ ≤ _; simp; try omega) (.slice A8 (LL.length + 1) c8)
            have BO9 : Blk (w8.setCell ⟨w.heap.size + 1 + 1, 1, none⟩ (.slice A8 (LL.length + 1) c8)) (w.heap.size + 1 + 1) 38 #[.int .i64 (n : Int), .slice A8 (LL.length + 1) c8] := by simpa using BO8.set_ 1 (.slice A8 (LL.length + 1) c8)
            have BR9 := BR8.far (p := ⟨w.heap.size + 1 + 1, 1, none⟩) (by simp) (.slice A8 (LL.length + 1) c8)
            have BP9 := BP8.far (p := ⟨w.heap.size + 1 + 1, 1, none⟩) (by simp; try omega) (.slice A8 (LL.length + 1) c8)
            have HFIN := Lib.hid (And.intro BP9 (And.intro BR9 (And.intro BO9 (And.intro PN2 hT8))))
            clear BO9 BR9 BP9 PN2 hT8
            go_roundw
            case rel => exact ⟨k + 1, _, _, _, by omega, by go_num, HFIN.out.1, HFIN.out.2.1, HFIN.out.2.2.1, by rw [HNX.out]; exact HFIN.out.2.2.2.1, HFIN.out.2.2.2.2⟩
            case measure => simp [intOf]; omega
    · have hke : k = ops.length := by omega
      have hlt' : ¬ (k : Int) < (ops.length : Int) := by omega
      rw [List.take_of_length_le (by omega)] at hPO
      obtain ⟨VA, vc, hv⟩ := own_slice hPO.2.1
      rw [List.length_map] at hv
      subst hv
      have hlow : w.heap.size ≤ w0.heap.size := by have := HZ0.out; omega
      have hPF := ((hPO.far (p := ⟨w.heap.size + 1, 0, none⟩) (by have := HZ0.out; show w.heap.size + 1 < w0.heap.size; omega) (.int .i64 (n : Int))).far (p := ⟨w.heap.size + 1, 1, none⟩) (by have := HZ0.out; show w.heap.size + 1 < w0.heap.size; omega) (.slice VA ops.length vc)).mono hlow
      have hTF := (hT.setCell (p := ⟨w.heap.size + 1, 0, none⟩) (by show _ ≤ _; simp) (.int .i64 (n : Int))).setCell (p := ⟨w.heap.size + 1, 1, none⟩) (by show _ ≤ _; simp) (.slice VA ops.length vc)
      have cO0 := BO.cell 0
      have cO1 := BO.cell 1
      have cR0 := BR.cell 0
      have cR1 := BR.cell 1
      have fR0 := BR.frozen 0
      have fR1 := BR.frozen 1
      have BRR : Blk ((wr.setCell ⟨w.heap.size + 1, 0, none⟩ (.int .i64 (n : Int))).setCell ⟨w.heap.size + 1, 1, none⟩ (.slice VA ops.length vc)) (w.heap.size + 1) 38 #[.int .i64 (n : Int), .slice VA ops.length vc] := by simpa using ((BR.set_ 0 (.int .i64 (n : Int))).set_ 1 (.slice VA ops.length vc))
      have HPF := Lib.hid hPF
      simp at cO0 cO1 cR0 cR1
      clear hPF hPO hke
      go_wp2_with fail
      (try simp only [Exit.inBlock, Exit.then])
      refine bodyPost_ret (v := .agg #[.int .i64 (n : Int), .slice VA ops.length vc]) (results_cell_row rfl _ _ (w.heap.size + 1) 38 #[.int .i64 (n : Int), .slice VA ops.length vc] (0, 0) _ (by simp) BRR Try.underlying38 rfl (by kernel_rfl)) rfl ?_
      exact ⟨_, css, bls, rfl, HPF.out, hTF⟩
end Go.Proofs.Ytbpdbimdefdefaa
