import Derived.Test.YtbkgbckbbnflpaaQ2
import Derived.Laws.OwnMore
import Derived.Deep.DeepAppendRoom
import Derived.ArgAppend
set_option linter.unusedVariables false
set_option linter.unusedSimpArgs false
set_option maxRecDepth 100000
set_option maxHeartbeats 32000000
namespace Go.Proofs.Ytbkgbckbbnflpaa
open Go.RowKit
theorem cloneOp_any (cs : List Value) (x : OpM) (w : World) (h : shOp.rd w cs x) (hn : x.2.length ≤ 1048576) :
    Calls Try.prog 95 #[.agg cs.toArray] w (ToE shOp w x) := by
  obtain ⟨B, m, d, rfl, qa, qt⟩ := rdOp h
  have hm := qt.len
  obtain ⟨w0, hw0, T0, hs0, BP, BR⟩ := boxes2 w #[.int .i64 x.1, .slice B m d] #[.int .i64 0, .slice none 0 0] 72 72
  have HW0 := Lib.hid hw0
  have HR := Lib.hid qt.bounds
  have qt0 := qt.next stab_RI T0
  have hz0 : w0.heap.size = w.heap.size + 2 := hs0
  have HZ0 := Lib.hid hz0
  clear hw0 hs0 hz0
  have cP0 := BP.cell 0
  have cP1 := BP.cell 1
  have cR0 := BR.cell 0
  have cR1 := BR.cell 1
  have fR0 := BR.frozen 0
  have fR1 := BR.frozen 1
  simp at cP0 cP1 cR0 cR1
  go_enter Try.func95, Try.ntmps95
  go_upto_region 1 with fail
  rw [← HW0.out]
  go_region_with (go_at_call 63; refine (clone_any _ _ _ x.2 _ (by first | exact qt0 | exact qt0.drew stab_RI) (by omega)).mono ?_; rintro e w2 ⟨A', c', rfl, ho, hbn⟩; have hb := below_next (Below.drew (Below.refl w0.heap.size w0)) hbn rfl; have BP2 := BP.next hb; have BR2 := BR.next hb; have dP0 := BP2.cell 0; have dP1 := BP2.cell 1; have dR0 := BR2.cell 0; have dR1 := BR2.cell 1; have gR0 := BR2.frozen 0; have gR1 := BR2.frozen 1; simp at dP0 dP1 dR0 dR1)
  all_goals
    have T2 := below_next T0 hb rfl
    have hz2 := hb.size
    have hne := own_off ho BR2 (by decide)
    have hO := own_set (own_set ho (p := ⟨w.heap.size + 1, 0, none⟩) hne (.int .i64 x.1)) (p := ⟨w.heap.size + 1, 1, none⟩) hne (.slice A' m c')
    have BRR : Blk ((w2.setCell ⟨w.heap.size + 1, 0, none⟩ (.int .i64 x.1)).setCell ⟨w.heap.size + 1, 1, none⟩ (.slice A' m c')) (w.heap.size + 1) 72 #[.int .i64 x.1, .slice A' m c'] := by simpa using ((BR2.set_ 0 (.int .i64 x.1)).set_ 1 (.slice A' m c'))
    have hiv := obl_iv hO
    have hO2 : ((w2.setCell ⟨w.heap.size + 1, 0, none⟩ (.int .i64 x.1)).setCell ⟨w.heap.size + 1, 1, none⟩ (.slice A' m c')).ownsRow 0 3 1 (.slice A' m c') x.2.length (ints x.2) := by rw [hm]; exact own_mono hO (Nat.zero_le _)
    have hT : Below w.heap.size w ((w2.setCell ⟨w.heap.size + 1, 0, none⟩ (.int .i64 x.1)).setCell ⟨w.heap.size + 1, 1, none⟩ (.slice A' m c')) := (T2.setCell (by show _ ≤ _; simp) _).setCell (by show _ ≤ _; simp) _
    have hlow : w.heap.size ≤ w0.drew.heap.size := T0.size
    go_wp2
    (try simp only [Exit.inBlock, Exit.then])
    refine bodyPost_ret (v := .agg #[.int .i64 x.1, .slice A' m c']) (results_cell_row rfl _ _ (w.heap.size + 1) 72 #[.int .i64 x.1, .slice A' m c'] (0, 0) _ (by simp) BRR Try.underlying72 rfl (by kernel_rfl)) rfl ?_
    exact ⟨[.int .i64 x.1, .slice A' m c'], obl (.slice A' m c'), rfl, ⟨[.int .i64 x.1], [.slice A' m c'], [], obl (.slice A' m c'), rfl, rfl, ⟨_, rfl, ⟨rfl, qa.1, qa.2⟩, rfl⟩, ⟨_, rfl, hO2, HR.out, rfl⟩⟩, hiv.mono hlow (Nat.le_refl _), hT⟩
/-- An algebra handed back, its slices the call's own. -/
def AlgE (w : World) (x : AlgebraM) (e : Ending) (w' : World) : Prop := ∃ v css bls, e = .returned (.agg #[.int .i64 x.1, v]) ∧ PO w.heap.size w' v x.2 css bls ∧ Below w.heap.size w w'
theorem PO.far {lo : Nat} {w : World} {v : Value} {xs : List OpM} {css : List (List Value)} {bls : List (List Nat)} (h : PO lo w v xs css bls) {p : Addr} (hp : p.block < lo) (u : Value) : PO lo (w.setCell p u) v xs css bls :=
  h.same (by simp) fun b hb => Below.heap_setCell w p u b (by have := (h.2.2.2 b hb).1; omega)
theorem PO.algO {lo : Nat} {w : World} {v : Value} {a : Int} {xs : List OpM} {css : List (List Value)} {bls : List (List Nat)} (h : PO lo w v xs css bls) (ha : InR a) : shAlgebra.own w [.int .i64 a, v] (a, xs) (obl v ++ bls.flatten) :=
  ⟨[.int .i64 a], [v], [], obl v ++ bls.flatten, rfl, rfl, ⟨_, rfl, ⟨rfl, ha.1, ha.2⟩, rfl⟩, h.own⟩
theorem nilAlg (w : World) : shAlgebra.own w [.int .i64 0, .slice none 0 0] (0, []) [] := by
  have := (PO.nil 0 w).algO (a := 0) ⟨by omega, by omega⟩
  exact this
theorem take_snoc {α : Type} {l : List α} {k : Nat} {x : α} (h : l[k]? = some x) : l.take (k + 1) = l.take k ++ [x] := by rw [List.take_add_one, h]; rfl
theorem cloneAlgebra_any (cs : List Value) (x : AlgebraM) (w : World) (h : shAlgebra.rd w cs x) (hn : shAlgebra.cnt x ≤ 1048576) :
    Calls Try.prog 77 #[.agg cs.toArray] w (AlgE w x) := by
  obtain ⟨B, m, d, rfl, qs, qo⟩ := rdAlgebra h
  have hm := qo.len
  have hcn : 0 + (x.2.length + cntS shOp.cnt x.2) ≤ 1048576 := hn
  have HCN := Lib.hid hcn
  have hle : m ≤ 1048576 := by omega
  obtain ⟨w0, hw0, T0, hs0, BP, BR, BO⟩ := boxes3 w #[.int .i64 x.1, .slice B m d] #[.int .i64 0, .slice none 0 0] #[.int .i64 x.1, .slice none 0 0] 26 26
  have HW0 : Hid (_ = w0) := hw0.symm
  have HZ0 := Lib.hid hs0
  have cP0 := ((Blk.new w 26 #[.int .i64 x.1, .slice B m d]).alloc (.cells #[.int .i64 0, .slice none 0 0] 26)).cell 0
  have cP1 := BP.cell 1
  simp at cP0 cP1
  rw [hw0] at cP1
  have hP0 : PO w0.heap.size w0 (.slice none 0 0) (x.2.take 0) [] [] := PO.nil _ _
  clear hw0 hs0 hcn
  go_enter Try.func77, Try.ntmps77
  go_wp2_with fail
  clear cP0 cP1
  go_loopw [12] (fun i wr => ∃ (k : Nat) (v : Value) (css : List (List Value)) (bls : List (List Nat)), k ≤ m ∧ i = .int .i64 k ∧ Blk wr (w.heap.size + 1 + 1) 26 #[.int .i64 x.1, v] ∧ Blk wr (w.heap.size + 1) 26 #[.int .i64 0, .slice none 0 0] ∧ PO w0.heap.size wr v (x.2.take k) css bls ∧ Below w.heap.size w wr) (fun i _ => m - (intOf i).toNat)
  case atStart =>
    rw [HW0.out]
    exact ⟨0, _, _, _, Nat.zero_le _, rfl, BO, BR, hP0, T0⟩
  case round =>
    clear hP0 BO BR BP
    obtain ⟨k, v, css, bls, hk, rfl, BO, BR, hPO, hT⟩ := hrel
    by_cases hlt : k < m
    · have hk0 : (0 : Int) ≤ (k : Int) := by omega
      have hk1 : (k : Int) < (m : Int) := by omega
      obtain ⟨b, o, vs, y, rfl, -, hc, hr, -, hx⟩ := (qo.next hT).at hlt
      obtain ⟨B', m', d', rfl, qa, qt⟩ := rdOp hr
      have cc0 : wr.cell? ⟨b, o + k * 2, none⟩ = some (.int .i64 y.1) := hc 0 _ rfl
      have cc1 : wr.cell? ⟨b, o + k * 2 + 1, none⟩ = some (.slice B' m' d') := hc 1 _ rfl
      have HTS : Hid (x.2.take (k + 1) = x.2.take k ++ [y]) := take_snoc hx
      have hcy : y.2.length ≤ 1048576 := by
        have h1 := cntS_mem (f := shOp.cnt) (List.mem_of_getElem? hx)
        have h2 := HCN.out
        have h3 : shOp.cnt y = 0 + y.2.length := rfl
        omega
      obtain ⟨L, HL⟩ : ∃ L, Hid (x.2.take k = L) := ⟨_, rfl⟩
      have HLK : Hid (L.length = k) := by show _ = _; rw [← HL.out, List.length_take]; omega
      rw [HL.out] at hPO
      have HTS2 : Hid (x.2.take (k + 1) = L ++ [y]) := by show _ = _; rw [HTS.out, HL.out]
      obtain ⟨A, c, rfl⟩ := own_slice hPO.2.1
      obtain ⟨w5, hw5, T5, hs5, BY⟩ := boxes1 wr #[.int .i64 y.1, .slice B' m' d'] 72
      have HW5 := Lib.hid hw5
      have hP5 := hPO.next T5
      have hr5 := shOp.stab hr T5.block
      have BO5 := BO.next T5
      have BR5 := BR.next T5
      have hT5 := below_next hT T5 rfl
      have cO5 := BO5.cell 1
      have fO5 := BO5.frozen 1
      have cY0 := BY.cell 0
      have cY1 := BY.cell 1
      simp at cO5 cY0 cY1
      have hwz0 : w0.heap.size ≤ w5.heap.size := by
        rcases hP5.2.1.2 with ⟨h1, h2⟩ | ⟨g9, _, _, h1, h2, _⟩
        · have := hT5.size
          have h9 := BO5.lt
          have h8 := HZ0.out
          omega
        · injection h1 with h1
          have := hP5.2.2.2 g9 (List.mem_append_left _ (by rw [h1]; simp [obl, Value.ownBlock]))
          omega
      clear hw5 hs5 hc hx hr hPO
      go_upto_region 5 with fail
      rw [← HW5.out]
      clear cc0 cc1
      go_region_law (first
        | (refine step_app2 w6 rfl (.tmp 17) (.tmp 20) 24 72 rfl (.agg #[.int .i64 0, .slice none 0 0]) 32 Try.underlying24 info_op2 rfl (by decide) w0.heap.size L.length c A css.flatten (by rfl) hvs (.int .i64 y.1) (.slice B6 m6 d6) rfl rfl (by rfl) (by have := HLK.out; omega) (by omega) ?_; intro A8 c8 w8 hown8 hg8 hb8; have BO8 := BO6.grown hg8 (fun e => own_off hvs BO6 (by decide) e.symm); have BR8 := BR6.grown hg8 (fun e => own_off hvs BR6 (by decide) e.symm); have cO8 := BO8.cell 1; have fO8 := BO8.frozen 1; simp at cO8)
        | (go_simp; go_at_call 95; refine (cloneOp_any [.int .i64 y.1, .slice B' m' d'] y _ (by first | exact hr5 | exact shOp.stab hr5 (fun _ _ => rfl)) hcy).mono ?_; rintro e w6 ⟨ds, bk, rfl, how, hiv, hbn⟩; obtain ⟨B6, m6, d6, rfl, -, -⟩ := rdOp (shOp.ord how); have hb := below_next (Below.drew (Below.refl w5.heap.size w5)) hbn rfl; have hiv6 : Iv w5.heap.size w6.heap.size bk := hiv; obtain ⟨hvs, HPU⟩ := hP5.push hb hwz0 how hiv6; have hsz6 := hb.size; have BO6 := BO5.next hb; have BR6 := BR5.next hb; have cO6 := BO6.cell 1; have fO6 := BO6.frozen 1; have dY0 := (BY.next hb).cell 0; have dY1 := (BY.next hb).cell 1; have cO6a := (BO6.alloc (.cells #[.int .i64 y.1, .slice B6 m6 d6] 72)).cell 1; simp at cO6 dY0 dY1 cO6a))
      all_goals
        have PN2 := (HPU hown8 hg8).far (p := ⟨w.heap.size + 1 + 1, 1, none⟩) (by have := HZ0.out; show w.heap.size + 1 + 1 < w0.heap.size; omega) (.slice A8 (L.length + 1) c8)
        have hT8 := ((below_next hT5 hb rfl).trans (hb8.mono (by have := HZ0.out; omega))).setCell (p := ⟨w.heap.size + 1 + 1, 1, none⟩) (by show _ ≤ _; simp; try omega) (.slice A8 (L.length + 1) c8)
        have BO9 : Blk (w8.setCell ⟨w.heap.size + 1 + 1, 1, none⟩ (.slice A8 (L.length + 1) c8)) (w.heap.size + 1 + 1) 26 #[.int .i64 x.1, .slice A8 (L.length + 1) c8] := by simpa using BO8.set_ 1 (.slice A8 (L.length + 1) c8)
        have BR9 := BR8.far (p := ⟨w.heap.size + 1 + 1, 1, none⟩) (by simp) (.slice A8 (L.length + 1) c8)
        have HFIN := Lib.hid (And.intro BO9 (And.intro BR9 (And.intro PN2 hT8)))
        clear BO9 BR9 PN2 hT8 cO6 fO6 cO6a dY0 dY1 cO8 fO8 hown8 hg8 hb8 BO8 BR8 BO6 BR6 hvs HPU how hbn hb
        go_wp2_with fail
        go_roundw
        case rel => exact ⟨k + 1, _, _, _, by omega, by go_num, HFIN.out.1, HFIN.out.2.1, by rw [HTS2.out]; exact HFIN.out.2.2.1, HFIN.out.2.2.2⟩
        case measure => simp [intOf]; omega
    · obtain rfl : k = m := by omega
      have hlt' : ¬ (k : Int) < (k : Int) := by omega
      have hP : PO w0.heap.size wr v x.2 css bls := by rw [List.take_of_length_le (by omega)] at hPO; exact hPO
      obtain ⟨A, c, hv⟩ := own_slice hP.2.1
      rw [hm] at hv
      subst hv
      have hlow : w.heap.size ≤ w0.heap.size := by have := HZ0.out; omega
      have hPF := ((hP.far (p := ⟨w.heap.size + 1, 0, none⟩) (by have := HZ0.out; show w.heap.size + 1 < w0.heap.size; omega) (.int .i64 x.1)).far (p := ⟨w.heap.size + 1, 1, none⟩) (by have := HZ0.out; show w.heap.size + 1 < w0.heap.size; omega) (.slice A k c)).mono hlow
      have hTF := (hT.setCell (p := ⟨w.heap.size + 1, 0, none⟩) (by show _ ≤ _; simp) (.int .i64 x.1)).setCell (p := ⟨w.heap.size + 1, 1, none⟩) (by show _ ≤ _; simp) (.slice A k c)
      have cO0 := BO.cell 0
      have cO1 := BO.cell 1
      have cR0 := BR.cell 0
      have cR1 := BR.cell 1
      have fR0 := BR.frozen 0
      have fR1 := BR.frozen 1
      have BRR : Blk ((wr.setCell ⟨w.heap.size + 1, 0, none⟩ (.int .i64 x.1)).setCell ⟨w.heap.size + 1, 1, none⟩ (.slice A k c)) (w.heap.size + 1) 26 #[.int .i64 x.1, .slice A k c] := by simpa using ((BR.set_ 0 (.int .i64 x.1)).set_ 1 (.slice A k c))
      have HPF := Lib.hid hPF
      simp at cO0 cO1 cR0 cR1
      clear hP hPF hPO
      go_wp2_with fail
      (try simp only [Exit.inBlock, Exit.then])
      refine bodyPost_ret (v := .agg #[.int .i64 x.1, .slice A k c]) (results_cell_row rfl _ _ (w.heap.size + 1) 26 #[.int .i64 x.1, .slice A k c] (0, 0) _ (by simp) BRR Try.underlying26 rfl (by kernel_rfl)) rfl ?_
      exact ⟨_, css, bls, rfl, HPF.out, hTF⟩
def opsTo (z : Nat) (s : List Int) (ops : List OpM) (k : Nat) : List OpM := (ops.take k).map (renOp z s) ++ ops.drop k
theorem opsTo_len (z : Nat) (s : List Int) (ops : List OpM) (k : Nat) : (opsTo z s ops k).length = ops.length := by unfold opsTo; simp; omega
theorem opsTo_get {z : Nat} {s : List Int} {ops : List OpM} {k : Nat} {y : OpM} (h : ops[k]? = some y) : (opsTo z s ops k)[k]? = some y := by
  have hk := (List.getElem?_eq_some_iff.1 h).1
  unfold opsTo
  rw [List.getElem?_append_right (by simp; omega)]
  simp
  rw [show k + (k - min k ops.length) = k by omega]
  exact h
theorem opsTo_next {z : Nat} {s : List Int} {ops : List OpM} {k : Nat} {y : OpM} (h : ops[k]? = some y) : (opsTo z s ops k).set k (renOp z s y) = opsTo z s ops (k + 1) := by
  have hk := (List.getElem?_eq_some_iff.1 h).1
  unfold opsTo
  rw [take_snoc h, List.map_append, List.set_append_right _ _ (by simp; omega)]
  have : ops.drop k = y :: ops.drop (k + 1) := by
    rw [List.drop_eq_getElem_cons hk]
    congr
    exact (List.getElem?_eq_some_iff.1 h).2
  rw [this]
  simp
  rw [show k - min k ops.length = 0 by omega]
  rfl
theorem opsTo_all {z : Nat} {s : List Int} {ops : List OpM} {k : Nat} (h : ops.length ≤ k) : opsTo z s ops k = ops.map (renOp z s) := by
  unfold opsTo
  rw [List.take_of_length_le h, List.drop_eq_nil_of_le h, List.append_nil]
def mixD (s : List Int) (D : List Nat) (j : Nat) : List Nat := (D.take j).map (nmAt s) ++ D.drop j
theorem mixD_get {s : List Int} {D : List Nat} {j d : Nat} (h : D[j]? = some d) : (mixD s D j)[j]? = some d := by
  have hk := (List.getElem?_eq_some_iff.1 h).1
  unfold mixD
  rw [List.getElem?_append_right (by simp; omega)]
  simp
  rw [show j + (j - min j D.length) = j by omega]
  exact h
theorem mixD_next {s : List Int} {D : List Nat} {j d : Nat} (h : D[j]? = some d) : (mixD s D j).set j (nmAt s d) = mixD s D (j + 1) := by
  have hk := (List.getElem?_eq_some_iff.1 h).1
  unfold mixD
  rw [take_snoc h, List.map_append, List.set_append_right _ _ (by simp; omega)]
  have : D.drop j = d :: D.drop (j + 1) := by
    rw [List.drop_eq_getElem_cons hk]
    congr
    exact (List.getElem?_eq_some_iff.1 h).2
  rw [this]
  simp
  rw [show j - min j D.length = 0 by omega]
  rfl
theorem mixD_all {s : List Int} {D : List Nat} {j : Nat} (h : D.length ≤ j) : mixD s D j = D.map (nmAt s) := by
  unfold mixD
  rw [List.take_of_length_le h, List.drop_eq_nil_of_le h, List.append_nil]
theorem nats_set (l : List Nat) (p v : Nat) : (nats l).set p (v : Int) = nats (l.set p v) := by simp [nats, List.map_set]
theorem nats_at {l : List Nat} {k d : Nat} (h : l[k]? = some d) : (nats l)[k]? = some (d : Int) := by simp [nats, h]
theorem nats_R {l : List Nat} {b : Nat} (h : ∀ d ∈ l, d ≤ b) (hb : b ≤ 1048576) {w : World} : ∀ v ∈ nats l, RI w (.int .i64 v) v := by
  intro v hv
  unfold nats at hv
  rw [List.mem_map] at hv
  obtain ⟨d, hd, rfl⟩ := hv
  have := h d hd
  exact ⟨rfl, by omega, by omega⟩
theorem op_len {n : Nat} {o : OpM} (h : OpP n o) (hn : n ≤ 8) : o.2.length ≤ 4096 := by
  rw [h.2.2.1]
  exact pow_bd hn (by have := h.2.1; omega)
theorem cnt_alg {x : AlgebraM} (h : AlgP x) : shAlgebra.cnt x ≤ 1048576 := by
  have key : ∀ l : List OpM, (∀ o ∈ l, OpP x.1.toNat o) → cntS shOp.cnt l ≤ l.length * 4096 := by
    intro l
    induction l with
    | nil => intro _; exact Nat.zero_le _
    | cons o l ih =>
      intro hl
      rw [cntS_cons, List.length_cons, Nat.succ_mul]
      have h1 := ih fun o ho => hl o (by simp [ho])
      have h2 := op_len (hl o (by simp)) (by have := h.2.1; omega)
      have h3 : shOp.cnt o = 0 + o.2.length := rfl
      omega
  have h1 := key x.2 h.2.2.2
  have h2 := h.2.2.1
  have h3 : shAlgebra.cnt x = 0 + (x.2.length + cntS shOp.cnt x.2) := rfl
  have h4 := Nat.mul_le_mul_right 4096 h2
  omega
theorem cell_far {w : World} {p a : Addr} {v u : Value} (h : a.block ≠ p.block) (hc : w.cell? a = some v) : (w.setCell p u).cell? a = some v := (World.cell?_of_block (Below.heap_setCell w p u _ h)).trans hc
theorem cell_farD {w : World} {p a : Addr} {v u : Value} (h : a.block ≠ p.block) (hc : w.cell? a = some v) : (w.setCell p u).drew.cell? a = some v := cell_far h hc
theorem rename8_any (cs : List Value) (x : AlgebraM) (N : Option Addr) (n cN : Nat) (s : List Int) (w : World) (h : shAlgebra.rd w cs x) (hs : RdL RI w N n s) (hx : AlgP x) (hp : PermL x.1.toNat s) :
    Calls Try.prog 49 #[.agg cs.toArray, .slice N n cN] w (AlgE w (ren x s)) := by
  have hcnt := cnt_alg hx
  obtain ⟨a, ops⟩ := x
  obtain ⟨z, rfl⟩ : ∃ z : Nat, a = (z : Int) := ⟨a.toNat, by have h1 : 1 ≤ a := hx.1; omega⟩
  have hz1 : 1 ≤ z := by have h1 : (1 : Int) ≤ (z : Int) := hx.1; omega
  have hz5 : z ≤ 8 := by have h1 : (z : Int) ≤ 8 := hx.2.1; omega
  have hm4 : ops.length ≤ 4 := hx.2.2.1
  have HOP : Hid (∀ o ∈ ops, OpP z o) := fun o ho => by have := hx.2.2.2 o ho; simpa using this
  have HPM : Hid (PermL z s) := by show PermL z s; simpa using hp
  have hnz : n = z := by rw [← hs.len]; exact HPM.out.1
  subst hnz
  have HREN : Hid (ren ((n : Int), ops) s = ((n : Int), ops.map (renOp n s))) := by show _ = _; unfold ren; simp
  have hrd := h
  obtain ⟨B, m, d, rfl, qs, qo⟩ := rdAlgebra h
  obtain rfl : ops.length = m := qo.len
  obtain ⟨w0, hw0, T0, hs0, BP, BR⟩ := boxes2 w #[.int .i64 (n : Int), .slice B ops.length d] #[.int .i64 0, .slice none 0 0] 26 26
  have HW0 := Lib.hid hw0
  have HZ0 := Lib.hid hs0
  have hrd0 := shAlgebra.stab hrd T0.block
  have cP0 := BP.cell 0
  have cP1 := BP.cell 1
  simp at cP0 cP1
  rw [hw0] at cP0 cP1
  rw [HREN.out]
  clear hw0 hs0 hp hx
  go_enter Try.func49, Try.ntmps49
  go_wp2_with fail
  rw [← HW0.out]
  refine (cloneAlgebra_any _ _ _ hrd0 hcnt).mono ?_
  rintro e w1 ⟨v, css, bls, rfl, hPO, hb1⟩
  replace hPO : PO w0.heap.size w1 v ops css bls := hPO
  obtain ⟨VA, vc, rfl⟩ := own_slice hPO.2.1
  have T1 := below_next T0 hb1 rfl
  replace BP := BP.next hb1
  replace BR := BR.next hb1
  obtain ⟨w2, hw2, T2', hs2, BB⟩ := boxes1 w1 #[.int .i64 (n : Int), .slice VA ops.length vc] 26
  have HW2 : Hid (_ = w2) := hw2.symm
  have HGB : Hid (w1.heap.size ∉ obl (.slice VA ops.length vc) ++ bls.flatten) := fun hh => by have := (hPO.2.2.2 _ hh).2; omega
  have hgl : w0.heap.size ≤ w1.heap.size := hb1.size
  have T2 := below_next T1 T2' rfl
  replace BP := BP.next T2'
  replace BR := BR.next T2'
  replace hPO := hPO.next T2'
  have cP1 := BP.cell 1
  simp at cP1
  rw [hw2] at cP1
  clear hw2 hs2 cP0 hb1
  go_wp2_with fail
  clear cP1
  go_loopw [18] (fun i wr => ∃ (k : Nat), k ≤ ops.length ∧ i = .int .i64 k ∧ Blk wr w.heap.size 26 #[.int .i64 (n : Int), .slice B ops.length d] ∧ Blk wr (w.heap.size + 1) 26 #[.int .i64 0, .slice none 0 0] ∧ Blk wr w1.heap.size 26 #[.int .i64 (n : Int), .slice VA ops.length vc] ∧ PO w0.heap.size wr (.slice VA ops.length vc) (opsTo n s ops k) css bls ∧ Below w.heap.size w wr) (fun i _ => ops.length - (intOf i).toNat)
  case atStart =>
    rw [HW2.out]
    exact ⟨0, Nat.zero_le _, rfl, BP, BR, BB, hPO, T2⟩
  case round =>
    clear hPO BP BR BB T1 T2
    obtain ⟨k, hk, rfl, BP, BR, BB, hPO, hT⟩ := hrel
    by_cases hlt : k < ops.length
    · obtain ⟨wo, hwo⟩ : ∃ wo : World, wo = wr := ⟨_, rfl⟩
      subst hwo
      have hk0 : (0 : Int) ≤ (k : Int) := by omega
      have hk1 : (k : Int) < (ops.length : Int) := by omega
      obtain ⟨b, o, vs, y, rfl, -, hc, hr, -, hyk⟩ := qo.at hlt
      obtain ⟨ya, ty⟩ := y
      have hyp := HOP.out (ya, ty) (List.mem_of_getElem? hyk)
      obtain ⟨kk, rfl⟩ : ∃ kk : Nat, ya = (kk : Int) := ⟨ya.toNat, by have h1 : 0 ≤ ya := hyp.1; omega⟩
      obtain ⟨B', m', d', rfl, qa, qt⟩ := rdOp hr
      obtain rfl : ty.length = m' := qt.len
      have hkk3 : kk ≤ 3 := by have h1 : (kk : Int) ≤ 3 := hyp.2.1; omega
      have HYL : Hid (ty.length = n ^ kk) := by show _ = _; have := hyp.2.2.1; simpa using this
      have HYB : Hid (∀ v ∈ ty, 0 ≤ v ∧ v ≤ (n : Int) - 1) := hyp.2.2.2
      have HRO : Hid (renOp n s ((kk : Int), ty) = ((kk : Int), renTo n kk s ty ty ty.length)) := by show _ = _; unfold renOp; simp
      have hyl8 : ty.length ≤ 4096 := by rw [HYL.out]; exact pow_bd (by omega) (by omega)
      have cc0 : wo.cell? ⟨b, o + k * 2, none⟩ = some (.int .i64 (kk : Int)) := keepc hT (hc 0 _ rfl)
      have cc1 : wo.cell? ⟨b, o + k * 2 + 1, none⟩ = some (.slice B' ty.length d') := keepc hT (hc 1 _ rfl)
      obtain ⟨w5, hw5, T5, hs5, BQ⟩ := boxes1 wo #[.int .i64 (kk : Int), .slice B' ty.length d'] 72
      have HW5 : Hid (_ = w5) := hw5.symm
      have HYK := Lib.hid hyk
      have hP5 := hPO.next T5
      have BP5 := BP.next T5
      have BR5 := BR.next T5
      have BB5 := BB.next T5
      have hT5 := below_next hT T5 rfl
      have hgq : w1.heap.size < wo.heap.size := BB.lt
      have hdt := hT.size
      have HST : Hid (PO w0.heap.size w5 (.slice VA ops.length vc) ((opsTo n s ops k).set k ((kk : Int), renTo n kk s ty ty 0)) css bls) := by
        show PO _ _ _ _ _ _
        have e : (opsTo n s ops k).set k ((kk : Int), renTo n kk s ty ty 0) = opsTo n s ops k := set_nil_same (opsTo_get hyk)
        rw [e]
        exact hP5
      have HQW : Hid (wo.heap.size ∉ obl (.slice VA ops.length vc) ++ bls.flatten) := fun hh => by have := (hPO.2.2.2 _ hh).2; omega
      have cF0 := BQ.cell 0
      have cF1 := BQ.cell 1
      simp at cF0 cF1
      rw [hw5] at cF0 cF1
      clear hw5 hs5 hc hr hyk hyp hPO hP5
      go_wp2_with fail
      clear cF0 cF1
      go_loopw [26] (fun i wi => ∃ q : Nat, q ≤ ty.length ∧ i = .int .i64 q ∧ Blk wi w.heap.size 26 #[.int .i64 (n : Int), .slice (some ⟨b, o, none⟩) ops.length d] ∧ Blk wi (w.heap.size + 1) 26 #[.int .i64 0, .slice none 0 0] ∧ Blk wi w1.heap.size 26 #[.int .i64 (n : Int), (.slice VA ops.length vc)] ∧ Blk wi wo.heap.size 72 #[.int .i64 (kk : Int), .slice B' ty.length d'] ∧ PO w0.heap.size wi (.slice VA ops.length vc) ((opsTo n s ops k).set k ((kk : Int), renTo n kk s ty ty q)) css bls ∧ Below w.heap.size w wi) (fun i _ => ty.length - (intOf i).toNat)
      case atStart =>
        rw [HW5.out]
        exact ⟨0, Nat.zero_le _, rfl, BP5, BR5, BB5, BQ, HST.out, hT5⟩
      case round =>
        clear BP5 BR5 BB5 BQ HST hT5 BP BR BB
        obtain ⟨q, hq, rfl, BP, BR, BB, BQ, hPO, hTi⟩ := hrel
        by_cases hltq : q < ty.length
        · obtain ⟨wi, hwi⟩ : ∃ wi : World, wi = wr := ⟨_, rfl⟩
          subst hwi
          have hq0 : (0 : Int) ≤ (q : Int) := by omega
          have hq1 : (q : Int) < (ty.length : Int) := by omega
          obtain ⟨b', o', u0, u, rfl, hcu, ⟨rfl, -⟩, -, hxu⟩ := (qt.next stab_RI hTi).at hltq
          have hub := HYB.out u (List.mem_of_getElem? hxu)
          obtain ⟨u, rfl⟩ := Int.eq_ofNat_of_zero_le hub.1
          have hun : u < n := by omega
          obtain ⟨J, HJ⟩ : ∃ J, Hid (toI n kk s q = J) := ⟨_, rfl⟩
          have hJ : J < ty.length := by rw [← HJ.out, HYL.out]; exact toI_lt (by omega) HPM.out q
          obtain ⟨nm, hnm1, hnmn, hnm2⟩ := HPM.out.at hun
          have HSTEP : Hid (renTo n kk s ty ty (q + 1) = (renTo n kk s ty ty q).set J (nm : Int)) := by
            show _ = _
            rw [renTo, HJ.out, List.getD_eq_getElem?_getD, hxu]
            show (renTo n kk s ty ty q).set J (nmI s (u : Int)) = _
            have := nmI_get hnm1
            rw [this]
          have HNM := Lib.hid hnm1
          have HXU := Lib.hid hxu
          have cQ0 := BQ.cell 0
          have cQ1 := BQ.cell 1
          have cP0 := BP.cell 0
          simp at cQ0 cQ1 cP0
          clear hxu hub hnm1 hnm2
          go_wp2_with fail
          refine (argsAt_any q kk n _ (by omega) (by omega) (by omega) (by omega)).mono ?_
          rintro e w6 ⟨g, rfl, hA, hb6⟩
          obtain ⟨D, HD⟩ : ∃ D, Hid (digs n kk q = D) := ⟨_, rfl⟩
          have HDL : Hid (D.length = kk) := by show _ = _; rw [← HD.out, digs_len]
          have HDB : Hid (∀ x ∈ D, x < n) := by show ∀ x ∈ D, _; rw [← HD.out]; exact fun x hx => digs_lt (by omega) hx
          rw [HD.out] at hA
          have HJ2 : Hid (idx n (D.map (nmAt s)) = J) := by show _ = _; rw [← HD.out]; exact HJ.out
          clear cQ0 cQ1 cP0 hcu
          go_wp2_with fail
          go_loopw [39] (fun i wj => ∃ j : Nat, j ≤ kk ∧ i = .int .i64 j ∧ wj.ownsRow wi.heap.size 3 1 (.slice (some ⟨g, 0, none⟩) kk kk) kk (ints (nats (mixD s D j))) ∧ Below wi.heap.size wi wj) (fun i _ => kk - (intOf i).toNat)
          case atStart => exact ⟨0, Nat.zero_le _, rfl, hA, hb6⟩
          case round =>
            clear hA hb6
            obtain ⟨j, hj, rfl, hA, hTj⟩ := hrel
            have hTw := below_next hTi hTj rfl
            by_cases hltj : j < kk
            · have hj0 : (0 : Int) ≤ (j : Int) := by omega
              have hj1 : (j : Int) < (kk : Int) := by omega
              obtain ⟨dj, hdj⟩ : ∃ dj, D[j]? = some dj := ⟨_, List.getElem?_eq_getElem (by rw [HDL.out]; exact hltj)⟩
              have hdn := HDB.out dj (List.mem_of_getElem? hdj)
              obtain ⟨v', hv', hvn, hnm'⟩ := HPM.out.at hdn
              obtain ⟨nb, no, nv, nx, rfl, hcn, ⟨rfl, -⟩, -, hxn⟩ := (hs.next stab_RI hTw).at (k := dj) hdn
              rw [hv'] at hxn
              injection hxn with hxn
              subst hxn
              have hcell : wr.cell? ⟨g, j, none⟩ = some (.int .i64 (dj : Int)) := (hA.cellAt j (by omega)).trans (by show (List.map (Value.int .i64) (nats (mixD s D j)))[j]? = _; rw [List.getElem?_map, nats_at (mixD_get hdj)]; rfl)
              have hfz : wr.frozen? ⟨g, j, none⟩ = false := hA.frozenAt j
              have hst := (hA.stored j (.int .i64 (v' : Int))).1
              rw [ints_set, nats_set, ← hnm', mixD_next hdj, hnm'] at hst
              have hgl2 := (hA.lt g rfl).1
              have hd0 : (0 : Int) ≤ (dj : Int) := by omega
              have hd1 : (dj : Int) < (n : Int) := by omega
              have HST2 := Lib.hid hst
              clear hst hdj hv' hnm'
              go_wp2_with fail
              go_roundw
              case rel => exact ⟨j + 1, by omega, by go_num, HST2.out, hTj.setCell hgl2 _⟩
              case measure => simp [intOf]; omega
            · obtain rfl : j = kk := by omega
              have hlt' : ¬ (j : Int) < (j : Int) := by omega
              have HMB : Hid (∀ d ∈ D.map (nmAt s), d < n) := by
                intro d hd
                rw [List.mem_map] at hd
                obtain ⟨x, hx, rfl⟩ := hd
                obtain ⟨v', -, hv, e⟩ := HPM.out.at (HDB.out x hx)
                omega
              rw [mixD_all (by rw [HDL.out]; exact Nat.le_refl _)] at hA
              have RA : RdL RI wr (some ⟨g, 0, none⟩) j (nats (D.map (nmAt s))) := rd_of_own (R := RI) hA (nats_R (b := n) (fun d hd => Nat.le_of_lt (HMB.out d hd)) (by omega))
              have hPj := hPO.next hTj
              have BPj := BP.next hTj
              have BRj := BR.next hTj
              have BBj := BB.next hTj
              have BQj := BQ.next hTj
              obtain ⟨gO, cap, tb, dt, hv, -, cT, hlo, hhi, hfz, hcl, htm, hset⟩ := hPj.tab (k := k) (a := (j : Int)) (t := renTo n j s ty ty q) (by rw [List.getElem?_set_self (by rw [opsTo_len]; exact hlt)]) (by intro e0; have := congrArg List.length e0; rw [renTo_len] at this; simp at this; rw [this] at hltq; simp at hltq)
              injection hv with hv1 hv2 hv3
              subst hv1
              rw [renTo_len] at cT
              have fJ := hfz J
              obtain ⟨x0, hx0⟩ : ∃ x0, (renTo n j s ty ty q)[J]? = some x0 := ⟨_, List.getElem?_eq_getElem (by rw [renTo_len]; exact hJ)⟩
              have cJ := hcl J x0 hx0
              obtain ⟨nb, no, nv, nx, rfl, hcn, ⟨rfl, -⟩, -, hxn⟩ := (hs.next stab_RI hTw).at (k := u) hun
              rw [HNM.out] at hxn
              injection hxn with hxn
              subst hxn
              have n5 : nb ≠ tb := by
                obtain ⟨v8, x8, hc8, -⟩ := hs.at' (k := u) hun
                have := cell_lt hc8
                have := HZ0.out
                have h9 : nb < w.heap.size := by assumption
                omega
              have n6 : b' ≠ tb := by
                obtain ⟨v8, x8, hc8, -⟩ := qt.at' hltq
                have h9 : b' < w.heap.size := cell_lt hc8
                have := HZ0.out
                omega
              have n7 : gO ≠ tb := fun e => (List.nodup_append.1 hPj.2.2.1).2.2 gO (by simp [obl, Value.ownBlock]) tb htm e
              obtain ⟨uv, ux, hcu, ⟨rfl, -⟩, -, hux⟩ := (qt.next stab_RI hTw).at' hltq
              rw [HXU.out] at hux
              injection hux with hux
              subst hux
              have HS2 := hset J (nm : Int) ⟨by omega, by omega⟩
              rw [List.set_set] at HS2
              have HS3 : Hid (PO w0.heap.size (wr.setCell ⟨tb, J, none⟩ (.int .i64 (nm : Int))) (.slice (some ⟨gO, 0, none⟩) ops.length vc) ((opsTo n s ops k).set k ((j : Int), renTo n j s ty ty (q + 1))) css bls) := by show PO _ _ _ _ _ _; rw [HSTEP.out]; exact HS2
              have hz0 := HZ0.out
              have n1 : w.heap.size ≠ tb := by omega
              have n2 : w.heap.size + 1 ≠ tb := by omega
              have n3 : w1.heap.size ≠ tb := fun e => HGB.out (by rw [e]; exact List.mem_append_right _ htm)
              have n4 : wo.heap.size ≠ tb := fun e => HQW.out (by rw [e]; exact List.mem_append_right _ htm)
              have HBL := Lib.hid (And.intro (BPj.far (p := ⟨tb, J, none⟩) n1 (.int .i64 (nm : Int))) (And.intro (BRj.far (p := ⟨tb, J, none⟩) n2 (.int .i64 (nm : Int))) (And.intro (BBj.far (p := ⟨tb, J, none⟩) n3 (.int .i64 (nm : Int))) (And.intro (BQj.far (p := ⟨tb, J, none⟩) n4 (.int .i64 (nm : Int))) (hTw.setCell (p := ⟨tb, J, none⟩) (show w.heap.size ≤ tb by omega) (.int .i64 (nm : Int)))))))
              have cB1 := BBj.cell 1
              have cP0 := BPj.cell 0
              simp at cB1 cP0
              have hJ0 : (0 : Int) ≤ (J : Int) := by omega
              have hJ1 : (J : Int) < (ty.length : Int) := by omega
              have hu0 : (0 : Int) ≤ (u : Int) := by omega
              have hu1 : (u : Int) < (n : Int) := by omega
              clear hfz hcl hset HS2 hx0 hPj BPj BRj BBj BQj hz0 hv2 hv3 hA htm
              go_upto_region 14 with fail
              have Tk : Below wr.heap.size wr wr := Below.refl _ _
              have HKD : (wr.setCell ⟨tb, J, none⟩ (.int .i64 (nm : Int))).drew.cell? ⟨w.heap.size, 0, none⟩ = some (.int .i64 (n : Int)) ∧ (wr.setCell ⟨tb, J, none⟩ (.int .i64 (nm : Int))).drew.cell? ⟨w1.heap.size, 1, none⟩ = some (.slice (some ⟨gO, 0, none⟩) ops.length vc) ∧ (wr.setCell ⟨tb, J, none⟩ (.int .i64 (nm : Int))).drew.cell? ⟨gO, k * 2 + 1, none⟩ = some (.slice (some ⟨tb, 0, none⟩) ty.length dt) ∧ (wr.setCell ⟨tb, J, none⟩ (.int .i64 (nm : Int))).drew.cell? ⟨nb, no + u, none⟩ = some (.int .i64 (nm : Int)) ∧ (wr.setCell ⟨tb, J, none⟩ (.int .i64 (nm : Int))).drew.cell? ⟨b', o' + q, none⟩ = some (.int .i64 (u : Int)) := ⟨cell_farD n1 cP0, cell_farD n3 cB1, cell_farD n7 cT, cell_farD n5 hcn, cell_farD n6 hcu⟩
              go_region_held3 (fun w' => w'.cell? ⟨w.heap.size, 0, none⟩ = some (.int .i64 (n : Int)) ∧ w'.cell? ⟨w1.heap.size, 1, none⟩ = some (.slice (some ⟨gO, 0, none⟩) ops.length vc) ∧ w'.cell? ⟨gO, k * 2 + 1, none⟩ = some (.slice (some ⟨tb, 0, none⟩) ty.length dt) ∧ w'.cell? ⟨nb, no + u, none⟩ = some (.int .i64 (nm : Int)) ∧ w'.cell? ⟨b', o' + q, none⟩ = some (.int .i64 (u : Int))) (first | go_keep | exact ⟨keepc Tk cP0, keepc Tk cB1, keepc Tk cT, keepc Tk hcn, keepc Tk hcu⟩ | exact HKD | exact ⟨cell_farD n1 cP0, cell_farD n3 cB1, cell_farD n7 cT, cell_farD n5 hcn, cell_farD n6 hcu⟩ | exact ⟨cell_far n1 cP0, cell_far n3 cB1, cell_far n7 cT, cell_far n5 hcn, cell_far n6 hcu⟩) (first
                | (go_at_call 79; refine (indexOf_any _ j j n (D.map (nmAt s)) _ (by first | exact RA | exact RA.drew stab_RI) (by omega) (by omega) HMB.out).mono ?_; rintro e w' ⟨rfl, rfl⟩; rw [HJ2.out]))
              all_goals
                go_wp2_with fail
                go_roundw
                case rel => exact ⟨q + 1, by omega, by go_num, HBL.out.1.drew, HBL.out.2.1.drew, HBL.out.2.2.1.drew, HBL.out.2.2.2.1.drew, HS3.out.next (Below.drew (Below.refl _ _)), Below.drew HBL.out.2.2.2.2⟩
                case measure => simp [intOf]; omega
        · have hqe : q = ty.length := by omega
          have hlt' : ¬ (q : Int) < (ty.length : Int) := by omega
          have HPN : Hid (PO w0.heap.size wr (.slice VA ops.length vc) (opsTo n s ops (k + 1)) css bls) := by
            show PO _ _ _ _ _ _
            rw [← opsTo_next HYK.out, HRO.out, ← hqe]
            exact hPO
          clear hqe
          go_wp2_with fail
          go_roundw
          case rel => exact ⟨k + 1, by omega, by go_num, BP, BR, BB, HPN.out, hTi⟩
          case measure => simp [intOf]; omega
    · have hlt' : ¬ (k : Int) < (ops.length : Int) := by omega
      rw [opsTo_all (by omega)] at hPO
      have hlow : w.heap.size ≤ w0.heap.size := by have := HZ0.out; omega
      have hPF := ((hPO.far (p := ⟨w.heap.size + 1, 0, none⟩) (by have := HZ0.out; show w.heap.size + 1 < w0.heap.size; omega) (.int .i64 (n : Int))).far (p := ⟨w.heap.size + 1, 1, none⟩) (by have := HZ0.out; show w.heap.size + 1 < w0.heap.size; omega) (.slice VA ops.length vc)).mono hlow
      have hTF := (hT.setCell (p := ⟨w.heap.size + 1, 0, none⟩) (by show _ ≤ _; simp) (.int .i64 (n : Int))).setCell (p := ⟨w.heap.size + 1, 1, none⟩) (by show _ ≤ _; simp) (.slice VA ops.length vc)
      have cO0 := BB.cell 0
      have cO1 := BB.cell 1
      have cR0 := BR.cell 0
      have cR1 := BR.cell 1
      have fR0 := BR.frozen 0
      have fR1 := BR.frozen 1
      have BRR : Blk ((wr.setCell ⟨w.heap.size + 1, 0, none⟩ (.int .i64 (n : Int))).setCell ⟨w.heap.size + 1, 1, none⟩ (.slice VA ops.length vc)) (w.heap.size + 1) 26 #[.int .i64 (n : Int), .slice VA ops.length vc] := by simpa using ((BR.set_ 0 (.int .i64 (n : Int))).set_ 1 (.slice VA ops.length vc))
      have HPF := Lib.hid hPF
      have n8 : ¬ w.heap.size + 1 = w1.heap.size := by have := HZ0.out; omega
      have n9 : ¬ w1.heap.size = w.heap.size + 1 := fun e => n8 e.symm
      have cO1' : (wr.setCell ⟨w.heap.size + 1, 0, none⟩ (.int .i64 (n : Int))).cell? ⟨w1.heap.size, 1, none⟩ = some (.slice VA ops.length vc) := cell_far (p := ⟨w.heap.size + 1, 0, none⟩) (a := ⟨w1.heap.size, 1, none⟩) n9 (by simpa using cO1)
      simp at cO0 cO1 cR0 cR1
      clear hPF hPO
      go_wp2_with fail
      (try simp only [Exit.inBlock, Exit.then])
      refine bodyPost_ret (v := .agg #[.int .i64 (n : Int), .slice VA ops.length vc]) (results_cell_row rfl _ _ (w.heap.size + 1) 26 #[.int .i64 (n : Int), .slice VA ops.length vc] (0, 0) _ (by simp) BRR Try.underlying26 rfl (by kernel_rfl)) rfl ?_
      exact ⟨_, css, bls, rfl, HPF.out, hTF⟩
theorem run_mk (L : Nat) (b : L ≤ 1048576) : ∃ M : Array Value, M.toList = ints (List.replicate L 0) ∧ ∀ w : World, (Instr.makeSlice 38 (.int .i64 (L : Int)) (.int .i64 (L : Int))).run Try.prog w = .ok (.slice (some ⟨w.heap.size, 0, none⟩) L L) (w.alloc (.cells M 3)) := by
  obtain ⟨i0, hi, hz0, hz1, hz2⟩ := info_parts info_int
  refine ⟨madeCells (Value.int .i64 0).cells (L * 1), ?_, fun w => ?_⟩
  · rw [Nat.mul_one, ints_rep]
    exact toList_madeCells_one (.int .i64 0) L
  · have hr := run_make (P := Try.prog) w 38 3 i0 (.int .i64 0) Try.underlying38 hi hz0 .i64 .i64 L L (by omega) (Int.le_refl _) (by rw [hz2]; omega) (by omega)
    simp only [Int.toNat_natCast] at hr
    rw [hz1] at hr
    exact hr
theorem mk_own {w : World} {M : Array Value} {L : Nat} (hM : M.toList = ints (List.replicate L 0)) (hL : L ≤ 1048576) {lo : Nat} (hlo : lo ≤ w.heap.size) : (w.alloc (.cells M 3)).ownsRow lo 3 1 (.slice (some ⟨w.heap.size, 0, none⟩) L L) L (ints (List.replicate L 0)) := by
  have hs : M.size = L * 1 := by rw [← Array.length_toList, hM]; simp [ints]
  have := World.ownsRow_lit (e := 3) (size := 1) w M L hlo (by unfold maxLen; omega) hs
  rw [hM] at this
  exact this
theorem l2Rename8_any (cs : List Value) (x : AlgebraM) (N : Option Addr) (n cN : Nat) (s : List Int) (w : World) (h : shAlgebra.rd w cs x) (hs : RdL RI w N n s) (hx : AlgP x) (hp : PermL x.1.toNat s) :
    Calls Try.prog 28 #[.agg cs.toArray, .slice N n cN] w (AlgE w (ren x s)) := by
  obtain ⟨a, ops⟩ := x
  obtain ⟨z, rfl⟩ : ∃ z : Nat, a = (z : Int) := ⟨a.toNat, by have h1 : 1 ≤ a := hx.1; omega⟩
  have hz1 : 1 ≤ z := by have h1 : (1 : Int) ≤ (z : Int) := hx.1; omega
  have hz5 : z ≤ 8 := by have h1 : (z : Int) ≤ 8 := hx.2.1; omega
  have hm4 : ops.length ≤ 4 := hx.2.2.1
  have HOP : Hid (∀ o ∈ ops, OpP z o) := fun o ho => by have := hx.2.2.2 o ho; simpa using this
  have HPM : Hid (PermL z s) := by show PermL z s; simpa using hp
  have hnz : n = z := by rw [← hs.len]; exact HPM.out.1
  subst hnz
  have HREN : Hid (ren ((n : Int), ops) s = ((n : Int), ops.map (renOp n s))) := by show _ = _; unfold ren; simp
  obtain ⟨B, m, d, rfl, qs, qo⟩ := rdAlgebra h
  obtain rfl : ops.length = m := qo.len
  obtain ⟨w0, hw0, T0, hs0, BP, BR, BO⟩ := boxes3 w #[.int .i64 (n : Int), .slice B ops.length d] #[.int .i64 0, .slice none 0 0] #[.int .i64 (n : Int), .slice none 0 0] 26 26
  have HW0 : Hid (_ = w0) := hw0.symm
  have HZ0 := Lib.hid hs0
  have hPO0 : PO w0.heap.size w0 (.slice none 0 0) ((ops.take 0).map (renOp n s)) [] [] := PO.nil _ _
  have cP0 := BP.cell 0
  have cP1 := BP.cell 1
  simp at cP0 cP1
  rw [hw0] at cP0 cP1
  have cP0' := ((Blk.new w 26 #[.int .i64 (n : Int), .slice B ops.length d]).alloc (.cells #[.int .i64 0, .slice none 0 0] 26)).cell 0
  simp at cP0'
  rw [HREN.out]
  clear hw0 hs0 hp hx h
  go_enter Try.func28, Try.ntmps28
  go_wp2_with fail
  clear cP0 cP1 cP0'
  go_loopw [6] (fun i wr => ∃ (k : Nat) (v : Value) (css : List (List Value)) (bls : List (List Nat)), k ≤ ops.length ∧ i = .int .i64 k ∧ Blk wr w.heap.size 26 #[.int .i64 (n : Int), .slice B ops.length d] ∧ Blk wr (w.heap.size + 1) 26 #[.int .i64 0, .slice none 0 0] ∧ Blk wr (w.heap.size + 1 + 1) 26 #[.int .i64 (n : Int), v] ∧ PO w0.heap.size wr v ((ops.take k).map (renOp n s)) css bls ∧ Below w.heap.size w wr) (fun i _ => ops.length - (intOf i).toNat)
  case atStart =>
    rw [HW0.out]
    exact ⟨0, _, _, _, Nat.zero_le _, rfl, BP, BR, BO, hPO0, T0⟩
  case round =>
    clear hPO0 BP BR BO T0
    obtain ⟨k, v, css, bls, hk, rfl, BP, BR, BO, hPO, hT⟩ := hrel
    have cP1 := BP.cell 1
    simp at cP1
    by_cases hlt : k < ops.length
    · obtain ⟨wo, hwo⟩ : ∃ wo : World, wo = wr := ⟨_, rfl⟩
      subst hwo
      have hk0 : (0 : Int) ≤ (k : Int) := by omega
      have hk1 : (k : Int) < (ops.length : Int) := by omega
      obtain ⟨b, o, vs, y, rfl, -, hc, hr, -, hyk⟩ := qo.at hlt
      obtain ⟨ya, ty⟩ := y
      have hyp := HOP.out (ya, ty) (List.mem_of_getElem? hyk)
      obtain ⟨kk, rfl⟩ : ∃ kk : Nat, ya = (kk : Int) := ⟨ya.toNat, by have h1 : 0 ≤ ya := hyp.1; omega⟩
      obtain ⟨B', m', d', rfl, qa, qt⟩ := rdOp hr
      obtain rfl : ty.length = m' := qt.len
      have hkk3 : kk ≤ 3 := by have h1 : (kk : Int) ≤ 3 := hyp.2.1; omega
      have HYL : Hid (ty.length = n ^ kk) := by show _ = _; have := hyp.2.2.1; simpa using this
      have HYB : Hid (∀ v ∈ ty, 0 ≤ v ∧ v ≤ (n : Int) - 1) := hyp.2.2.2
      obtain ⟨L, hL⟩ : ∃ L, ty.length = L := ⟨_, rfl⟩
      have HLT := Lib.hid hL
      have hyl8 : L ≤ 4096 := by rw [← hL, HYL.out]; exact pow_bd (by omega) (by omega)
      have HLP : Hid (L = n ^ kk) := by show _ = _; rw [← hL]; exact HYL.out
      have HRO : Hid (renOp n s ((kk : Int), ty) = ((kk : Int), renTo n kk s ty (List.replicate L 0) L)) := by
        show _ = _
        unfold renOp
        simp only [Int.toNat_natCast]
        rw [HYL.out, HLP.out, renTo_any (T := ty) (T' := List.replicate (n ^ kk) 0) (by omega) HPM.out HYL.out (by simp)]
      rw [hL] at hc qt
      have cc0w : w.cell? ⟨b, o + k * 2, none⟩ = some (.int .i64 (kk : Int)) := hc 0 _ rfl
      have cc1w : w.cell? ⟨b, o + k * 2 + 1, none⟩ = some (.slice B' L d') := hc 1 _ rfl
      have cc0 := keepc hT cc0w
      have cc1 := keepc hT cc1w
      have HYK := Lib.hid hyk
      clear hc hr hyk hyp hL
      go_upto_region 5 with fail
      go_cut [7] (fun v7 wx => ∃ g gq, v7 = .pointer (some ⟨gq, 0, none⟩) ∧ Blk wx gq 72 #[.int .i64 (kk : Int), .slice (some ⟨g, 0, none⟩) L L] ∧ wx.ownsRow wo.heap.size 3 1 (.slice (some ⟨g, 0, none⟩) L L) L (ints (List.replicate L 0)) ∧ wo.heap.size ≤ gq ∧ Below wo.heap.size wo wx)
      case first =>
        obtain ⟨M, hM, HMK⟩ := run_mk L (by omega)
        have HM := Lib.hid hM
        clear hM
        have cP1a := keepc (below_box wo (.cells #[.int .i64 0, .slice none 0 0] 72)) (cP1)
        have cc0a := keepc (below_box wo (.cells #[.int .i64 0, .slice none 0 0] 72)) (cc0)
        have cc1a := keepc (below_box wo (.cells #[.int .i64 0, .slice none 0 0] 72)) (cc1)
        have cP1b := keepc (below_box wo (.cells M 3)) (cP1)
        have cc0b := keepc (below_box wo (.cells M 3)) (cc0)
        have cc1b := keepc (below_box wo (.cells M 3)) (cc1)
        have cP1c := keepc (below_box (wo.alloc (.cells #[.int .i64 0, .slice none 0 0] 72)) (.cells M 3)) (keepc (below_box wo (.cells #[.int .i64 0, .slice none 0 0] 72)) (cP1))
        have cc0c := keepc (below_box (wo.alloc (.cells #[.int .i64 0, .slice none 0 0] 72)) (.cells M 3)) (keepc (below_box wo (.cells #[.int .i64 0, .slice none 0 0] 72)) (cc0))
        have cc1c := keepc (below_box (wo.alloc (.cells #[.int .i64 0, .slice none 0 0] 72)) (.cells M 3)) (keepc (below_box wo (.cells #[.int .i64 0, .slice none 0 0] 72)) (cc1))
        have cP1d := keepc (below_box (wo.alloc (.cells M 3)) (.cells #[.int .i64 0, .slice none 0 0] 72)) (keepc (below_box wo (.cells M 3)) (cP1))
        have cc0d := keepc (below_box (wo.alloc (.cells M 3)) (.cells #[.int .i64 0, .slice none 0 0] 72)) (keepc (below_box wo (.cells M 3)) (cc0))
        have cc1d := keepc (below_box (wo.alloc (.cells M 3)) (.cells #[.int .i64 0, .slice none 0 0] 72)) (keepc (below_box wo (.cells M 3)) (cc1))
        go_region
        all_goals
          go_wp2_with fail
          go_meet
        · refine ⟨wo.heap.size, wo.heap.size + 1, rfl, ?_, ?_, by omega, Below.drew (below_box2 _ _ _)⟩
          · have := Blk.new (wo.alloc (.cells M 3)) 72 #[.int .i64 (kk : Int), .slice (some ⟨wo.heap.size, 0, none⟩) L L]
            rw [World.size_alloc] at this
            exact this.drew
          · exact own_same ((mk_own HM.out (by omega) (Nat.le_refl _)).alloc _) fun _ _ => rfl
        · refine ⟨wo.heap.size + 1, wo.heap.size, rfl, ?_, ?_, Nat.le_refl _, Below.drew (below_box2 _ _ _)⟩
          · exact ((Blk.new wo 72 #[.int .i64 (kk : Int), .slice (some ⟨wo.heap.size + 1, 0, none⟩) L L]).alloc _).drew
          · have := mk_own (w := wo.alloc (.cells #[.int .i64 (kk : Int), .slice (some ⟨wo.heap.size + 1, 0, none⟩) L L] 72)) HM.out (by omega) (lo := wo.heap.size) (by simp)
            rw [World.size_alloc] at this
            exact own_same this fun _ _ => rfl
      case rest =>
        obtain ⟨g, gq, rfl, BQ, hown, hgq, hTc⟩ := hcut
        obtain ⟨w5, HWC⟩ : ∃ wq : World, wq = wc := ⟨_, rfl⟩
        subst HWC
        have hdt := hT.size
        have hbw : b < w.heap.size := cell_lt cc0w
        clear cc0 cc1 cP1
        have cQ1 := BQ.cell 1
        simp at cQ1
        go_wp2_with fail
        clear cQ1
        go_loopw [8] (fun i wi => ∃ q : Nat, q ≤ L ∧ i = .int .i64 q ∧ Blk wi gq 72 #[.int .i64 (kk : Int), .slice (some ⟨g, 0, none⟩) L L] ∧ wi.ownsRow wo.heap.size 3 1 (.slice (some ⟨g, 0, none⟩) L L) L (ints (renTo n kk s ty (List.replicate L 0) q)) ∧ Below wo.heap.size wo wi) (fun i _ => L - (intOf i).toNat)
        case atStart => exact ⟨0, Nat.zero_le _, rfl, BQ, hown, hTc⟩
        case round =>
          clear BQ hown hTc
          obtain ⟨q, hq, rfl, BQ, hown, hTi⟩ := hrel
          have hTwi := below_next hT hTi rfl
          have cQ0 := BQ.cell 0
          have cQ1 := BQ.cell 1
          simp at cQ0 cQ1
          by_cases hltq : q < L
          · obtain ⟨wi, hwi⟩ : ∃ wi : World, wi = wr := ⟨_, rfl⟩
            subst hwi
            have hq0 : (0 : Int) ≤ (q : Int) := by omega
            have hq1 : (q : Int) < (L : Int) := by omega
            obtain ⟨b', o', u0, u, rfl, hcu, ⟨rfl, -⟩, -, hxu⟩ := qt.at hltq
            have hub := HYB.out u (List.mem_of_getElem? hxu)
            obtain ⟨u, rfl⟩ := Int.eq_ofNat_of_zero_le hub.1
            have hun : u < n := by omega
            obtain ⟨J, HJ⟩ : ∃ J, Hid (toI n kk s q = J) := ⟨_, rfl⟩
            have hJ : J < L := by rw [← HJ.out, HLP.out]; exact toI_lt (by omega) HPM.out q
            obtain ⟨nm, hnm1, hnmn, hnm2⟩ := HPM.out.at hun
            have HSTEP : Hid (renTo n kk s ty (List.replicate L 0) (q + 1) = (renTo n kk s ty (List.replicate L 0) q).set J (nm : Int)) := by
              show _ = _
              rw [renTo, HJ.out, List.getD_eq_getElem?_getD, hxu]
              show (renTo n kk s ty (List.replicate L 0) q).set J (nmI s (u : Int)) = _
              have := nmI_get hnm1
              rw [this]
            obtain ⟨nb, no, nv, nx, rfl, hcn, ⟨rfl, -⟩, -, hxn⟩ := hs.at (k := u) hun
            rw [hnm1] at hxn
            injection hxn with hxn
            subst hxn
            have hbw2 : b' < w.heap.size := cell_lt hcu
            have hbw3 : nb < w.heap.size := cell_lt hcn
            have BPi := BP.next hTi
            have cP0 := BPi.cell 0
            simp at cP0
            clear hxu hub hnm1 hnm2
            go_wp2_with fail
            refine (l2Args_any q kk n _ (by omega) (by omega) (by omega) (by omega)).mono ?_
            rintro e w6 ⟨ga, rfl, hA, hb6⟩
            obtain ⟨D, HD⟩ : ∃ D, Hid (digs n kk q = D) := ⟨_, rfl⟩
            have HDL : Hid (D.length = kk) := by show _ = _; rw [← HD.out, digs_len]
            have HDB : Hid (∀ x ∈ D, x < n) := by show ∀ x ∈ D, _; rw [← HD.out]; exact fun x hx => digs_lt (by omega) hx
            rw [HD.out] at hA
            have HJ2 : Hid (idx n (D.map (nmAt s)) = J) := by show _ = _; rw [← HD.out]; exact HJ.out
            have HMB : Hid (∀ d ∈ D.map (nmAt s), d < n) := by
              intro d hd
              rw [List.mem_map] at hd
              obtain ⟨x, hx, rfl⟩ := hd
              obtain ⟨v', -, hv, e⟩ := HPM.out.at (HDB.out x hx)
              omega
            have hT6 := below_next hTwi hb6 rfl
            have BP6 := BPi.next hb6
            have RA : RdL RI w6 (some ⟨ga, 0, none⟩) kk (nats D) := rd_of_own (R := RI) hA (nats_R (b := n) (fun d hd => Nat.le_of_lt (HDB.out d hd)) (by omega))
            clear cQ0 cQ1 cP0 hA
            go_wp2_with fail
            go_loopw [10, 11] (fun v i wj => ∃ j : Nat, j ≤ kk ∧ i = .int .i64 j ∧ v = .int .i64 (idx n ((D.map (nmAt s)).take j) : Nat) ∧ Below w6.heap.size w6 wj) (fun _ i _ => kk - (intOf i).toNat)
            case atStart => exact ⟨0, Nat.zero_le _, rfl, rfl, Below.refl _ _⟩
            case round =>
              obtain ⟨j, hj, rfl, rfl, hTj⟩ := hrel
              obtain ⟨P, HP⟩ : ∃ P, Hid (idx n ((D.map (nmAt s)).take j) = P) := ⟨_, rfl⟩
              have hP : P ≤ 4096 := by
                rw [← HP.out]
                have := idx_small (n := n) (by omega) (l := (D.map (nmAt s)).take j) (by rw [List.length_take, List.length_map, HDL.out]; omega) fun d hd => HMB.out d (List.mem_of_mem_take hd)
                omega
              rw [HP.out]
              have hTjw := below_next hT6 hTj rfl
              by_cases hltj : j < kk
              · have hj0 : (0 : Int) ≤ (j : Int) := by omega
                have hj1 : (j : Int) < (kk : Int) := by omega
                obtain ⟨dj, hdj⟩ : ∃ dj, D[j]? = some dj := ⟨_, List.getElem?_eq_getElem (by rw [HDL.out]; exact hltj)⟩
                have hdn := HDB.out dj (List.mem_of_getElem? hdj)
                obtain ⟨v', hv', hvn, hnm'⟩ := HPM.out.at hdn
                obtain ⟨nv, nx, hcn', ⟨rfl, -⟩, -, hxn⟩ := (hs.next stab_RI hTjw).at' (k := dj) hdn
                rw [hv'] at hxn
                injection hxn with hxn
                subst hxn
                obtain ⟨av, ax, hca, ⟨rfl, -⟩, -, hxa⟩ := (RA.next stab_RI hTj).at' hltj
                rw [Nat.zero_add] at hca
                rw [nats_at hdj] at hxa
                injection hxa with hxa
                subst hxa
                have cP0 := (BP6.next hTj).cell 0
                simp at cP0
                have HT : Hid (idx n ((D.map (nmAt s)).take (j + 1)) = P * n + v') := by
                  show _ = _
                  rw [idx_take (d := v') (by rw [List.getElem?_map, hdj]; simp [hnm']), HP.out]
                have hM : P * n ≤ 4096 * 8 := Nat.mul_le_mul hP (by omega)
                have hm0 : (0 : Int) ≤ (P : Int) * (n : Int) := by rw [← Int.natCast_mul]; omega
                have hm1 : (P : Int) * (n : Int) ≤ 32768 := by rw [← Int.natCast_mul]; omega
                have HE : Hid ((P : Int) * (n : Int) = ((P * n : Nat) : Int)) := (Int.natCast_mul _ _).symm
                have hd0 : (0 : Int) ≤ (dj : Int) := by omega
                have hd1 : (dj : Int) < (n : Int) := by omega
                have HVN := Lib.hid hvn
                have hvm : (v' : Int) ≤ 8 := by omega
                clear hM hdj hv' hnm' hvn
                go_upto_region 14 with fail
                go_quiet (fail)
                go_wp2_with fail
                go_roundw
                case rel => exact ⟨j + 1, by omega, by go_num, by rw [HT.out, HE.out]; simp, by first | exact hTj | exact below_drewN hTj _⟩
                case measure => simp [intOf]; omega
              · have hlt' : ¬ (j : Int) < (kk : Int) := by omega
                have hPJ : P = J := by rw [← HP.out, ← HJ2.out, List.take_of_length_le (by rw [List.length_map, HDL.out]; omega)]
                subst hPJ
                have hTir := below_next hb6 hTj rfl
                have hownr := own_next hown hTir
                have BQr := BQ.next hTir
                have BPr := BP6.next hTj
                have cQ1 := BQr.cell 1
                have cP1 := BPr.cell 1
                simp at cQ1 cP1
                have cc1 := keepc hTjw cc1w
                have hcu2 := keepc hTjw hcu
                have hcn2 := keepc hTjw hcn
                obtain ⟨x0, hx0⟩ : ∃ x0, (ints (renTo n kk s ty (List.replicate L 0) q))[P]? = some x0 := ⟨_, List.getElem?_eq_getElem (by rw [ints_len, renTo_len]; simp; exact hJ)⟩
                have cJ : wr.cell? ⟨g, P, none⟩ = some x0 := (hownr.cellAt P (by omega)).trans hx0
                have fJ := hownr.frozenAt P
                have hgo := (hownr.lt g rfl).1
                have hst := (hownr.stored P (.int .i64 (nm : Int))).1
                rw [ints_set, ← HSTEP.out] at hst
                have hwl := BP.lt
                have n1 : w.heap.size ≠ g := by omega
                have n2 : gq ≠ g := fun e => own_off hownr BQr (by decide) (by rw [e]; rfl)
                have n3 : b ≠ g := by omega
                have n4 : b' ≠ g := by omega
                have n5 : nb ≠ g := by omega
                have HFIN := Lib.hid (And.intro (BQr.far (p := ⟨g, P, none⟩) n2 (.int .i64 (nm : Int))) (And.intro hst ((below_next hTi hTir rfl).setCell (p := ⟨g, P, none⟩) hgo (.int .i64 (nm : Int)))))
                have hP0 : (0 : Int) ≤ (P : Int) := by omega
                have hP1 : (P : Int) < (L : Int) := by omega
                have hu0 : (0 : Int) ≤ (u : Int) := by omega
                have hu1 : (u : Int) < (n : Int) := by omega
                clear hst hownr hx0 hown hcu hcn cc1w cc0w BQr BPr
                go_upto_region 15 with fail
                have Tk : Below wr.heap.size wr wr := Below.refl _ _
                have HKD : (wr.setCell ⟨g, P, none⟩ (.int .i64 (nm : Int))).drew.cell? ⟨gq, 1, none⟩ = some (.slice (some ⟨g, 0, none⟩) L L) ∧ (wr.setCell ⟨g, P, none⟩ (.int .i64 (nm : Int))).drew.cell? ⟨w.heap.size, 1, none⟩ = some (.slice (some ⟨b, o, none⟩) ops.length d) ∧ (wr.setCell ⟨g, P, none⟩ (.int .i64 (nm : Int))).drew.cell? ⟨b, o + k * 2 + 1, none⟩ = some (.slice (some ⟨b', o', none⟩) L d') ∧ (wr.setCell ⟨g, P, none⟩ (.int .i64 (nm : Int))).drew.cell? ⟨b', o' + q, none⟩ = some (.int .i64 (u : Int)) ∧ (wr.setCell ⟨g, P, none⟩ (.int .i64 (nm : Int))).drew.cell? ⟨nb, no + u, none⟩ = some (.int .i64 (nm : Int)) := ⟨cell_farD n2 cQ1, cell_farD n1 cP1, cell_farD n3 cc1, cell_farD n4 hcu2, cell_farD n5 hcn2⟩
                go_region_held3 (fun w' => w'.cell? ⟨gq, 1, none⟩ = some (.slice (some ⟨g, 0, none⟩) L L) ∧ w'.cell? ⟨w.heap.size, 1, none⟩ = some (.slice (some ⟨b, o, none⟩) ops.length d) ∧ w'.cell? ⟨b, o + k * 2 + 1, none⟩ = some (.slice (some ⟨b', o', none⟩) L d') ∧ w'.cell? ⟨b', o' + q, none⟩ = some (.int .i64 (u : Int)) ∧ w'.cell? ⟨nb, no + u, none⟩ = some (.int .i64 (nm : Int))) (first | go_keep | exact ⟨keepc Tk cQ1, keepc Tk cP1, keepc Tk cc1, keepc Tk hcu2, keepc Tk hcn2⟩ | exact HKD) (fail)
                all_goals
                  go_wp2_with fail
                  go_roundw
                  case rel => exact ⟨q + 1, by omega, by go_num, HFIN.out.1.drew, own_same HFIN.out.2.1 (fun _ _ => rfl), Below.drew HFIN.out.2.2⟩
                  case measure => simp [intOf]; omega
          · have hqe : q = L := by omega
            subst hqe
            have hlt' : ¬ (q : Int) < (q : Int) := by omega
            obtain ⟨LL, HLL⟩ : ∃ LL, Hid ((ops.take k).map (renOp n s) = LL) := ⟨_, rfl⟩
            have HLK : Hid (LL.length = k) := by show _ = _; rw [← HLL.out, List.length_map, List.length_take]; omega
            rw [HLL.out] at hPO
            have HNX : Hid ((ops.take (k + 1)).map (renOp n s) = LL ++ [((kk : Int), renTo n kk s ty (List.replicate q 0) q)]) := by
              show _ = _
              rw [take_snoc HYK.out, List.map_append, HLL.out, ← HRO.out]
              rfl
            obtain ⟨VA, vc, rfl⟩ := own_slice hPO.2.1
            have hTl : (renTo n kk s ty (List.replicate q 0) q).length = q := by rw [renTo_len, List.length_replicate]
            have hTb : ∀ y ∈ renTo n kk s ty (List.replicate q 0) q, InR y := fun y hy => by
              have := renTo_in HPM.out (fun v hv => by rw [List.mem_replicate] at hv; omega) HYB.out q (by rw [HLT.out]; exact Nat.le_refl _) y hy
              exact ⟨by omega, by omega⟩
            have hO0 : wr.ownsRow 0 3 1 (.slice (some ⟨g, 0, none⟩) q q) (renTo n kk s ty (List.replicate q 0) q).length (ints (renTo n kk s ty (List.replicate q 0) q)) := by rw [hTl]; exact own_mono hown (Nat.zero_le _)
            have how : shOp.own wr [.int .i64 (kk : Int), .slice (some ⟨g, 0, none⟩) q q] ((kk : Int), renTo n kk s ty (List.replicate q 0) q) [g] := ⟨[.int .i64 (kk : Int)], [.slice (some ⟨g, 0, none⟩) q q], [], [g], rfl, rfl, ⟨_, rfl, ⟨rfl, by omega, by omega⟩, rfl⟩, ⟨_, rfl, hO0, hTb, rfl⟩⟩
            have hgl := hown.lt g rfl
            have hwz0 : w0.heap.size ≤ wo.heap.size := by have h1 := BO.lt; have h2 := HZ0.out; omega
            obtain ⟨hvs, HPU⟩ := hPO.push hTi hwz0 how ⟨by simp, fun b hb => by simp at hb; subst hb; exact hgl⟩
            have BOr := BO.next hTi
            have BPr := BP.next hTi
            have BRr := BR.next hTi
            have cO1 := BOr.cell 1
            simp at cO1
            have hsz := hTi.size
            clear how hO0 hTb hTl hPO
            go_wp2_with (at_builtin; refine app2 wr rfl _ _ 24 72 rfl (.agg #[.int .i64 0, .slice none 0 0]) 32 Try.underlying24 info_op2 rfl (by decide) w0.heap.size LL.length vc VA css.flatten rfl hvs (.int .i64 (kk : Int)) (.slice (some ⟨g, 0, none⟩) q q) rfl rfl rfl (by have := HLK.out; omega) (by omega) ?_; intro A8 c8 w8 hown8 hg8 hb8; have BO8 := BOr.grown hg8 (fun e => own_off hvs BOr (by decide) e.symm); have BR8 := BRr.grown hg8 (fun e => own_off hvs BRr (by decide) e.symm); have BP8 := BPr.grown hg8 (fun e => own_off hvs BPr (by decide) e.symm); have cO8 := BO8.cell 1; have fO8 := BO8.frozen 1; simp at cO8)
            have PN2 := (HPU hown8 hg8).far (p := ⟨w.heap.size + 1 + 1, 1, none⟩) (by have := HZ0.out; show w.heap.size + 1 + 1 < w0.heap.size; omega) (.slice A8 (LL.length + 1) c8)
            have hT8 := (hTwi.trans (hb8.mono (by have := HZ0.out; omega))).setCell (p := ⟨w.heap.size + 1 + 1, 1, none⟩) (by show _ ≤ _; simp; try omega) (.slice A8 (LL.length + 1) c8)
            have BO9 : Blk (w8.setCell ⟨w.heap.size + 1 + 1, 1, none⟩ (.slice A8 (LL.length + 1) c8)) (w.heap.size + 1 + 1) 26 #[.int .i64 (n : Int), .slice A8 (LL.length + 1) c8] := by simpa using BO8.set_ 1 (.slice A8 (LL.length + 1) c8)
            have BR9 := BR8.far (p := ⟨w.heap.size + 1 + 1, 1, none⟩) (by simp) (.slice A8 (LL.length + 1) c8)
            have BP9 := BP8.far (p := ⟨w.heap.size + 1 + 1, 1, none⟩) (by simp; try omega) (.slice A8 (LL.length + 1) c8)
            have HFIN := Lib.hid (And.intro BP9 (And.intro BR9 (And.intro BO9 (And.intro PN2 hT8))))
            clear BO9 BR9 BP9 PN2 hT8
            go_roundw
            case rel => exact ⟨k + 1, _, _, _, by omega, by go_num, HFIN.out.1, HFIN.out.2.1, HFIN.out.2.2.1, by rw [HNX.out]; exact HFIN.out.2.2.2.1, HFIN.out.2.2.2.2⟩
            case measure => simp [intOf]; omega
    · have hke : k = ops.length := by omega
      have hlt' : ¬ (k : Int) < (ops.length : Int) := by omega
      rw [List.take_of_length_le (by omega)] at hPO
      obtain ⟨VA, vc, hv⟩ := own_slice hPO.2.1
      rw [List.length_map] at hv
      subst hv
      have hlow : w.heap.size ≤ w0.heap.size := by have := HZ0.out; omega
      have hPF := ((hPO.far (p := ⟨w.heap.size + 1, 0, none⟩) (by have := HZ0.out; show w.heap.size + 1 < w0.heap.size; omega) (.int .i64 (n : Int))).far (p := ⟨w.heap.size + 1, 1, none⟩) (by have := HZ0.out; show w.heap.size + 1 < w0.heap.size; omega) (.slice VA ops.length vc)).mono hlow
      have hTF := (hT.setCell (p := ⟨w.heap.size + 1, 0, none⟩) (by show _ ≤ _; simp) (.int .i64 (n : Int))).setCell (p := ⟨w.heap.size + 1, 1, none⟩) (by show _ ≤ _; simp) (.slice VA ops.length vc)
      have cO0 := BO.cell 0
      have cO1 := BO.cell 1
      have cR0 := BR.cell 0
      have cR1 := BR.cell 1
      have fR0 := BR.frozen 0
      have fR1 := BR.frozen 1
      have BRR : Blk ((wr.setCell ⟨w.heap.size + 1, 0, none⟩ (.int .i64 (n : Int))).setCell ⟨w.heap.size + 1, 1, none⟩ (.slice VA ops.length vc)) (w.heap.size + 1) 26 #[.int .i64 (n : Int), .slice VA ops.length vc] := by simpa using ((BR.set_ 0 (.int .i64 (n : Int))).set_ 1 (.slice VA ops.length vc))
      have HPF := Lib.hid hPF
      simp at cO0 cO1 cR0 cR1
      clear hPF hPO hke
      go_wp2_with fail
      (try simp only [Exit.inBlock, Exit.then])
      refine bodyPost_ret (v := .agg #[.int .i64 (n : Int), .slice VA ops.length vc]) (results_cell_row rfl _ _ (w.heap.size + 1) 26 #[.int .i64 (n : Int), .slice VA ops.length vc] (0, 0) _ (by simp) BRR Try.underlying26 rfl (by kernel_rfl)) rfl ?_
      exact ⟨_, css, bls, rfl, HPF.out, hTF⟩
theorem cnt_small {x : AlgebraM} (h : SmallP x) : shAlgebra.cnt x ≤ 1048576 := cnt_alg h.alg
theorem rename_any (cs : List Value) (x : AlgebraM) (N : Option Addr) (n cN : Nat) (s : List Int) (w : World) (h : shAlgebra.rd w cs x) (hs : RdL RI w N n s) (hx : SmallP x) (hp : PermL x.1.toNat s) :
    Calls Try.prog 49 #[.agg cs.toArray, .slice N n cN] w (AlgE w (ren x s)) :=
  rename8_any cs x N n cN s w h hs hx.alg hp
theorem l2Rename_any (cs : List Value) (x : AlgebraM) (N : Option Addr) (n cN : Nat) (s : List Int) (w : World) (h : shAlgebra.rd w cs x) (hs : RdL RI w N n s) (hx : SmallP x) (hp : PermL x.1.toNat s) :
    Calls Try.prog 28 #[.agg cs.toArray, .slice N n cN] w (AlgE w (ren x s)) :=
  l2Rename8_any cs x N n cN s w h hs hx.alg hp
theorem ords_len {n : Nat} : ∀ (r : Nat) (s : List Int), (ords n r s).length ≤ n ^ r
  | 0, s => by simp [ords]
  | r + 1, s => by
    have key : ∀ k, (ordsTo n r s k).length ≤ k * n ^ r := by
      intro k
      induction k with
      | zero => simp [ordsTo]
      | succ k ih =>
        rw [ordsTo_succ, List.length_append, Nat.succ_mul]
        have h1 := ords_len (n := n) r (s ++ [(k : Int)])
        split
        · simp; omega
        · omega
    have := key n
    rw [Nat.pow_succ, Nat.mul_comm]
    exact this
theorem ordsTo_len {n r : Nat} {s : List Int} : ∀ k, (ordsTo n r s k).length ≤ k * n ^ r
  | 0 => by simp [ordsTo]
  | k + 1 => by
    rw [ordsTo_succ, List.length_append, Nat.succ_mul]
    have h1 := ords_len (n := n) r (s ++ [(k : Int)])
    have h2 := ordsTo_len (n := n) (r := r) (s := s) k
    split
    · simp; omega
    · omega
theorem pow5 {n r : Nat} (hn : n ≤ 5) (hr : r ≤ 5) : n ^ r ≤ 3125 := by
  have h1 : n ^ r ≤ 5 ^ r := Nat.pow_le_pow_left hn r
  have h2 : 5 ^ r ≤ 5 ^ 5 := Nat.pow_le_pow_right (by decide) hr
  exact Nat.le_trans h1 h2
/-- A slice's header. -/
theorem rdl_block {w w' : World} {A : Option Addr} {n : Nat} {xs : List Int} (h : RdL RI w A n xs) (hs : ∀ p, A = some p → w'.heap[p.block]? = w.heap[p.block]?) : RdL RI w' A n xs :=
  ⟨h.1, h.2.1, fun k x hk => by
    obtain ⟨b, o, v, e, hc, hv⟩ := h.2.2 k x hk
    exact ⟨b, o, v, e, (World.cell?_of_block (w := w) (w' := w') (a := ⟨b, o + k, none⟩) (hs ⟨b, o, none⟩ e)).trans hc, hv⟩⟩
/-- The rows read so, each in a block of ints. -/
def Rws (w : World) (ts : List SlT) (xss : List (List Int)) : Prop :=
  ts.length = xss.length ∧ ∀ (k : Nat) (t : SlT) (xs : List Int), ts[k]? = some t → xss[k]? = some xs → RdL RI w t.1 t.2.1 xs ∧ ∀ p, t.1 = some p → ∃ cur fr, w.heap[p.block]? = some (.cells cur 3 fr)
/-- The call hands back a slice of slices of its own. -/
def NmE (w : World) (xss : List (List Int)) (e : Ending) (w' : World) : Prop := ∃ A c ts, e = .returned (.slice A xss.length c) ∧ w'.ownsRow w.heap.size 38 1 (.slice A xss.length c) xss.length (ts.map slV) ∧ Rws w' ts xss ∧ Below w.heap.size w w'
theorem Rws.nil (w : World) : Rws w [] [] := ⟨rfl, fun k t xs h => by simp at h⟩
theorem Rws.same {w w' : World} {ts : List SlT} {xss : List (List Int)} (h : Rws w ts xss) (hs : ∀ (b : Nat) (cur : Array Value) (fr : Nat × Nat), w.heap[b]? = some (.cells cur 3 fr) → w'.heap[b]? = w.heap[b]?) : Rws w' ts xss :=
  ⟨h.1, fun k t xs h1 h2 => ⟨rdl_block (h.2 k t xs h1 h2).1 fun p e => by
    obtain ⟨cur, fr, hc⟩ := (h.2 k t xs h1 h2).2 p e
    exact hs _ _ _ hc, fun p e => by
    obtain ⟨cur, fr, hc⟩ := (h.2 k t xs h1 h2).2 p e
    exact ⟨cur, fr, (hs _ _ _ hc).trans hc⟩⟩⟩
theorem Rws.next {w w' : World} {ts : List SlT} {xss : List (List Int)} (h : Rws w ts xss) (hb : Below w.heap.size w w') : Rws w' ts xss :=
  h.same fun b _ _ hc => hb.block b (Array.getElem?_eq_some_iff.1 hc).1
theorem Rws.grown {w w' : World} {ts : List SlT} {xss : List (List Int)} {base size n : Nat} {e : TypeId} {v : Value} {vs : List Value} (h : Rws w ts xss) (ho : w.ownsRow base e size v n vs) (hne : e ≠ 3) (hg : w.grownBy w' v.ownBlock) : Rws w' ts xss :=
  h.same fun b cur fr hc => hg.block b (Array.getElem?_eq_some_iff.1 hc).1 fun eb => by
    obtain ⟨cur2, fr2, hc2⟩ := row_blk ho (mem_obl.2 eb.symm)
    rw [hc] at hc2
    injection hc2 with hc2
    injection hc2 with _ h5
    exact hne h5.symm
theorem Rws.app {w : World} {ts us : List SlT} {xss yss : List (List Int)} (h : Rws w ts xss) (h' : Rws w us yss) : Rws w (ts ++ us) (xss ++ yss) := by
  refine ⟨by rw [List.length_append, List.length_append, h.1, h'.1], fun k t xs h1 h2 => ?_⟩
  by_cases hk : k < ts.length
  · rw [List.getElem?_append_left hk] at h1
    rw [List.getElem?_append_left (by rw [← h.1]; exact hk)] at h2
    exact h.2 k t xs h1 h2
  · rw [List.getElem?_append_right (by omega)] at h1
    rw [List.getElem?_append_right (by rw [← h.1]; omega), ← h.1] at h2
    exact h'.2 _ t xs h1 h2
theorem Rws.one {w : World} {base n : Nat} {A : Option Addr} {c : Nat} {xs : List Int} (ho : w.ownsRow base 3 1 (.slice A n c) n (ints xs)) (hx : ∀ x ∈ xs, InR x) : Rws w [(A, n, c)] [xs] := by
  refine ⟨rfl, fun k t ys h1 h2 => ?_⟩
  rcases k with _ | k
  · simp at h1 h2
    subst h1
    subst h2
    refine ⟨rd_of_own (R := RI) ho (RI_ints hx), fun p e => ?_⟩
    have e' : A = some p := e
    subst e'
    exact row_blk ho (mem_obl.2 rfl)
  · simp at h1
theorem raw_rd {w : World} {base : Nat} {A : Option Addr} {n c : Nat} {ts : List SlT} (h : w.ownsRow base 38 1 (.slice A n c) n (ts.map slV)) : RdL RSl w A n ts := by
  have hl : ts.length = n := by have := h.1; simpa using this
  refine ⟨hl, own_len_le h, fun k t hk => ?_⟩
  have hkn := (List.getElem?_eq_some_iff.1 hk).1
  rcases h.2 with ⟨_, h0⟩ | ⟨g, cap, cur, e, -⟩
  · omega
  · injection e with e
    subst e
    refine ⟨g, 0, slV t, rfl, ?_, rfl⟩
    rw [Nat.zero_add, h.cellAt k (by omega), List.getElem?_map, hk]
    rfl
theorem rws_rd {w : World} {base : Nat} {A : Option Addr} {n c : Nat} {ts : List SlT} {xss : List (List Int)} (h : w.ownsRow base 38 1 (.slice A n c) n (ts.map slV)) (hr : Rws w ts xss) : RdL (RV RI) w A n xss := by
  have hr0 := raw_rd h
  refine ⟨by rw [← hr.1]; exact hr0.1, hr0.2.1, fun k xs hk => ?_⟩
  have hkl := (List.getElem?_eq_some_iff.1 hk).1
  have ht : ts[k]? = some (ts[k]'(by rw [hr.1]; exact hkl)) := List.getElem?_eq_getElem _
  obtain ⟨b, o, v, e, hc, hv⟩ := hr0.2.2 k _ ht
  exact ⟨b, o, v, e, hc, _, _, _, hv, (hr.2 k _ xs ht hk).1⟩
theorem NmE.rd {w w' : World} {xss : List (List Int)} {e : Ending} (h : NmE w xss e w') : ∃ A c, e = .returned (.slice A xss.length c) ∧ RdL (RV RI) w' A xss.length xss ∧ Below w.heap.size w w' := by
  obtain ⟨A, c, ts, e, ho, hr, hb⟩ := h
  exact ⟨A, c, e, rws_rd ho hr, hb⟩
theorem l31Names_any (n : Nat) (hn : n ≤ 5) : ∀ (r : Nat) (A : Option Addr) (m c : Nat) (s : List Int) (w : World), RdL RI w A m s → m + r = n → Calls Try.prog 42 #[.int .i64 n, .slice A m c] w (NmE w (ords n r s))
  | 0, A, m, c, s, w, h, hm => by
    obtain rfl : m = n := by omega
    have HB := Lib.hid h.bounds
    have HO : Hid (ords m 0 s = [s]) := rfl
    go_enter Try.func42, Try.ntmps42
    go_wp2_with fail
    refine (l1Own_any _ _ _ _ _ h (by omega)).mono ?_
    rintro e w2 ⟨A2, c2, rfl, ho, hb⟩
    have hR := (Rws.one ho HB.out).next (below_box w2 (.cells #[.slice A2 m c2] 38))
    have hl : (w2.alloc (.cells #[.slice A2 m c2] 38)).ownsRow w.heap.size 38 1 (.slice (some ⟨w2.heap.size, 0, none⟩) 1 1) 1 [.slice A2 m c2] := World.ownsRow_lit w2 #[.slice A2 m c2] 1 hb.size (by decide) rfl
    have HLL := Lib.hid hl
    have HRR := Lib.hid hR
    clear hl hR ho
    go_wp2_with fail
    go_ret
    rw [HO.out]
    exact ⟨_, _, [(A2, m, c2)], rfl, HLL.out, HRR.out, below_next hb (below_box _ _) rfl⟩
  | r + 1, A, m, c, s, w, h, hm => by
    have ih := l31Names_any n hn r
    have hr5 : r ≤ 5 := by omega
    have hp5 := pow5 hn hr5
    have HB := Lib.hid h.bounds
    have hle := h.le
    have hbe : ((m : Int) == (n : Int)) = false := by rw [beq_eq_false_iff_ne]; omega
    go_enter Try.func42, Try.ntmps42
    go_wp2_with fail
    go_loopw [5, 6] (fun v i wr => ∃ (k : Nat) (A' : Option Addr) (c' : Nat) (ts : List SlT), k ≤ n ∧ i = .int .i64 k ∧ v = .slice A' (ordsTo n r s k).length c' ∧ wr.ownsRow w.heap.size 38 1 (.slice A' (ordsTo n r s k).length c') (ordsTo n r s k).length (ts.map slV) ∧ Rws wr ts (ordsTo n r s k) ∧ Below w.heap.size w wr) (fun _ i _ => n - (intOf i).toNat)
    case atStart => exact ⟨0, _, _, [], Nat.zero_le _, rfl, rfl, World.ownsRow_lit _ _ _ (Nat.le_refl _) (Nat.zero_le _) rfl, Rws.nil _, below_box _ _⟩
    case round =>
      obtain ⟨k, A', c', ts, hk, rfl, rfl, hown, hR, hT⟩ := hrel
      have h1 := h.next stab_RI hT
      have hlen := ordsTo_len (n := n) (r := r) (s := s) k
      have hlen2 : k * n ^ r ≤ 5 * 3125 := Nat.mul_le_mul (by omega) hp5
      by_cases hlt : k < n
      · have hk0 : (0 : Int) ≤ (k : Int) := by omega
        have hk1 : (k : Int) < (n : Int) := by omega
        obtain ⟨L, HL⟩ : ∃ L, Hid (ordsTo n r s k = L) := ⟨_, rfl⟩
        rw [HL.out] at hown hR hlen ⊢
        have HS : Hid (ordsTo n r s (k + 1) = L ++ if hasI k s then [] else ords n r (s ++ [(k : Int)])) := by show _ = _; rw [ordsTo_succ, HL.out]
        rcases hh : hasI (k : Int) s with _ | _
        · have HH := Lib.hid hh
          have HS2 : Hid (ordsTo n r s (k + 1) = L ++ ords n r (s ++ [(k : Int)])) := by show _ = _; rw [HS.out, hh]; simp
          clear hh
          go_wp2_with (go_at_call 73; refine (l1Has_any _ _ _ _ _ _ h1).mono ?_; rintro e w' ⟨rfl, rfl⟩; rw [HH.out])
          refine (l1Own_any _ _ _ _ _ h1 (by omega)).mono ?_
          rintro e w2 ⟨A2, c2, rfl, ho2, hb2⟩
          have hT2 := below_next hT hb2 rfl
          have hsz2 := hb2.size
          have HO2 := Lib.hid ho2
          go_wp2_with (at_builtin; refine app1 w2 rfl _ _ 38 3 rfl (.int .i64 0) 8 Try.underlying38 info_int rfl (by decide) wr.heap.size m c2 A2 (ints s) rfl HO2.out (.int .i64 k) rfl rfl (by omega) hsz2 ?_; intro A3 c3 w3 hown3 hg3 hb3)
          have hT3 := below_next hT (hb2.trans hb3) rfl
          have hR3 := hR.next (hb2.trans hb3)
          have hown4 := own_next hown (hb2.trans hb3)
          have hlo3 := hT3.size
          have R3 : RdL RI w3 A3 (m + 1) (s ++ [(k : Int)]) := by
            rw [← ints_snoc] at hown3
            exact rd_of_own (R := RI) hown3 (RI_ints fun v hv => by
              rw [List.mem_append] at hv
              rcases hv with hv | hv
              · exact HB.out v hv
              · rw [List.mem_singleton] at hv
                omega)
          clear hown3 hg3
          go_wp2_with fail
          refine (ih _ _ _ _ _ R3 (by omega)).mono ?_
          rintro e w5 ⟨A5, c5, us, rfl, ho5, hR5, hb5⟩
          obtain ⟨Y, HY⟩ : ∃ Y, Hid (ords n r (s ++ [(k : Int)]) = Y) := ⟨_, rfl⟩
          have hYl : Y.length ≤ 3125 := by rw [← HY.out]; exact Nat.le_trans (ords_len r _) hp5
          rw [HY.out] at ho5 hR5 ⊢
          have hT5 := below_next hT3 hb5 rfl
          have hR6 := hR3.next hb5
          have hown6 := own_next hown4 hb5
          have hlo5 := hT5.size
          have HO6 := Lib.hid hown6
          have hrw := raw_rd ho5
          go_wp2_with (at_builtin; refine appAny (R := RSl) _ rfl _ _ 31 38 rfl (.slice none 0 0) 24 Try.underlying31 info_ints rfl (by decide) w.heap.size L.length c' A' (ts.map slV) rfl HO6.out A5 Y.length c5 us slV (fun _ => rfl) rfl hrw (fun _ _ _ hr => hr) (by omega) hlo5 ?_; intro A7 c7 w7 hown7 hg7 hb7)
          have hR7 : Rws w7 (ts ++ us) (L ++ Y) := (hR6.app hR5).grown HO6.out (by decide) hg7
          go_roundw
          case rel => exact ⟨k + 1, A7, c7, ts ++ us, by omega, by go_num, by rw [HS2.out, HY.out, List.length_append], by rw [HS2.out, HY.out, List.length_append, List.map_append]; exact hown7, by rw [HS2.out, HY.out]; exact hR7, hT5.trans hb7⟩
          case measure => simp [intOf]; omega
        · have HH := Lib.hid hh
          have HS2 : Hid (ordsTo n r s (k + 1) = L) := by show _ = _; rw [HS.out, hh]; simp
          clear hh
          go_wp2_with (go_at_call 73; refine (l1Has_any _ _ _ _ _ _ h1).mono ?_; rintro e w' ⟨rfl, rfl⟩; rw [HH.out])
          go_roundw
          case rel => exact ⟨k + 1, A', c', ts, by omega, by go_num, by rw [HS2.out], by rw [HS2.out]; exact hown, by rw [HS2.out]; exact hR, hT⟩
          case measure => simp [intOf]; omega
      · obtain rfl : k = n := by omega
        have hlt' : ¬ (k : Int) < (k : Int) := by omega
        go_wp2_with fail
        go_ret
        exact ⟨A', c', ts, rfl, hown, hR, hT⟩
theorem PO.alg {lo : Nat} {w : World} {v : Value} {a : Int} {xs : List OpM} {css : List (List Value)} {bls : List (List Nat)} (h : PO lo w v xs css bls) (ha : InR a) : shAlgebra.rd w [.int .i64 a, v] (a, xs) :=
  ⟨[.int .i64 a], [v], rfl, ⟨_, rfl, rfl, ha.1, ha.2⟩, (Sh.rows shOp 72).ord h.own⟩
theorem small_R {x : AlgebraM} (h : SmallP x) : InR x.1 := ⟨by have := h.1; omega, by have := h.2.1; omega⟩
theorem code_ren_len {x : AlgebraM} {s : List Int} (hx : SmallP x) (hs : PermL x.1.toNat s) : (codeL (ren x s).2).length = (codeL x.2).length :=
  code_len_eq (ren_small hs hx).2.2.2 hx.2.2.2 ren_type
theorem code_small {x : AlgebraM} (hx : SmallP x) : (codeL x.2).length ≤ 1048576 := by
  have := cnt_small hx
  have h3 : shAlgebra.cnt x = 0 + (x.2.length + cntS shOp.cnt x.2) := rfl
  rw [codeL_len]
  omega
theorem code_R {x : AlgebraM} (hx : SmallP x) : ∀ y ∈ codeL x.2, InR y := by
  have key : ∀ l : List OpM, (∀ o ∈ l, OpP x.1.toNat o) → ∀ y ∈ codeL l, InR y := by
    intro l
    induction l with
    | nil => intro _ y hy; simp [codeL] at hy
    | cons o l ih =>
      intro hl y hy
      rw [codeL, List.mem_append] at hy
      rcases hy with hy | hy
      · have := (hl o (by simp)).2.2.2 y hy
        have := hx.2.1
        exact ⟨by omega, by omega⟩
      · exact ih (fun o ho => hl o (by simp [ho])) y hy
  exact key x.2 hx.2.2.2
theorem l31First_any (cs : List Value) (x : AlgebraM) (w : World) (h : shAlgebra.rd w cs x) (hx : SmallP x) :
    Calls Try.prog 66 #[.agg cs.toArray] w (fun e w' => ∃ A c, e = .returned (.slice A x.1.toNat c) ∧ RdL RI w' A x.1.toNat (canN x) ∧ Below w.heap.size w w') := by
  have hcnt := cnt_small hx
  have HX := Lib.hid hx
  obtain ⟨n, hn⟩ : ∃ n : Nat, x.1 = (n : Int) := ⟨x.1.toNat, by have h1 := hx.1; omega⟩
  have hn5 : n ≤ 5 := by have h1 := hx.2.1; omega
  have HNN : Hid (x.1.toNat = n) := by show _ = _; omega
  have HALL : Hid (∀ p ∈ ords n n [], PermL n p) := by have := all_perm (x := x); rw [HNN.out] at this; exact this
  have HBEST : Hid (bestOf x (ords n n []) = some (canN x)) := by have := (canN_ok (x := x)).1; rw [HNN.out] at this; exact this
  have HUP : Hid (ren x (upTo n) = x) := by have := ren_up hx; rw [HNN.out] at this; exact this
  obtain ⟨AL, HAL⟩ : ∃ AL, Hid (ords n n [] = AL) := ⟨_, rfl⟩
  obtain ⟨rest, HREST⟩ : ∃ rest, Hid (AL = upTo n :: rest) := by
    obtain ⟨l, hl⟩ := ords_head (n := n) n 0 (Nat.zero_add _)
    exact ⟨l, by show _ = _; rw [← HAL.out]; exact hl⟩
  rw [HAL.out] at HALL HBEST
  have hALlen : AL.length ≤ 3125 := by rw [← HAL.out]; exact Nat.le_trans (ords_len n []) (pow5 hn5 hn5)
  obtain ⟨CL, HCL⟩ : ∃ CL, Hid ((codeL x.2).length = CL) := ⟨_, rfl⟩
  have hCL : CL ≤ 1048576 := by rw [← HCL.out]; exact code_small hx
  have HCR : Hid (∀ p, PermL n p → (codeL (ren x p).2).length = CL ∧ ∀ y ∈ codeL (ren x p).2, InR y) := fun p hp => by
    have hp' : PermL x.1.toNat p := by rw [HNN.out]; exact hp
    exact ⟨by rw [code_ren_len HX.out hp', HCL.out], code_R (ren_small hp' HX.out)⟩
  have hrd := h
  obtain ⟨B, m, d, rfl, qs, qo⟩ := rdAlgebra h
  rw [HNN.out]
  rw [hn] at hrd qs ⊢
  obtain ⟨w0, hw0, T0, hs0, BP⟩ := boxes1 w #[.int .i64 (n : Int), .slice B m d] 26
  have HW0 : Hid (_ = w0) := hw0.symm
  have hz0 : w0.heap.size = w.heap.size + 1 := hs0
  obtain ⟨w1, hw1, T1, -, -⟩ := boxes1 w0 #[] 3
  have HW1 : Hid (_ = w1) := hw1.symm
  have cP0 := BP.cell 0
  simp at cP0
  rw [hw0] at cP0
  have R1 : RdL RI w1 (some ⟨w.heap.size + 1, 0, none⟩) 0 [] := RdL.nil _ _ _
  have HNM : Hid (Calls Try.prog 42 #[.int .i64 n, .slice (some ⟨w.heap.size + 1, 0, none⟩) 0 0] w1 (NmE w1 AL)) := by
    have := l31Names_any n hn5 n _ 0 0 [] w1 R1 (Nat.zero_add _)
    rw [HAL.out] at this
    exact this
  have T1w := below_next T0 T1 rfl
  replace BP := BP.next T1
  clear hw0 hw1 hs0 hz0 R1 hx h qo hcnt
  go_enter Try.func66, Try.ntmps66
  go_wp2_with fail
  rw [HW0.out, HW1.out]
  refine HNM.out.mono ?_
  rintro e w2 hNm
  obtain ⟨A2, c2, rfl, R2, hb2⟩ := hNm.rd
  have T2 := below_next T1w hb2 rfl
  replace BP := BP.next hb2
  have h2 := shAlgebra.stab hrd T2.block
  have hal0 : 0 < AL.length := by rw [HREST.out]; simp
  obtain ⟨b2, o2, v0, p0, rfl, hc0, ⟨A0, m0, c0, rfl, r0⟩, -, hx0⟩ := R2.at hal0
  have hp0 : p0 = upTo n := by rw [HREST.out] at hx0; simpa using hx0.symm
  subst hp0
  obtain rfl : n = m0 := by have := r0.len; rw [upTo_len] at this; exact this
  have cP0 := BP.cell 0
  have cP1 := BP.cell 1
  simp at cP0 cP1
  rw [Nat.add_zero] at hc0
  have hal1 : (0 : Int) < (AL.length : Int) := by omega
  have hle2 := R2.le
  clear hx0 hNm
  go_wp2_with fail
  refine (l31Code_any _ x _ h2 (cnt_small HX.out)).mono ?_
  rintro e w3 ⟨AC, cC, rfl, hoC, hb3⟩
  have RC := rd_of_own (R := RI) hoC (RI_ints (code_R HX.out))
  rw [HCL.out] at RC ⊢
  have T3 := below_next T2 hb3 rfl
  replace BP := BP.next hb3
  have R3 := R2.next (stab_RV stab_RI) hb3
  have r3 := r0.next stab_RI hb3
  have HST : Hid (bestOf x (AL.take 1) = some (upTo n)) := by show _ = _; rw [HREST.out]; rfl
  have RC' : RdL RI w3 AC CL (codeL (ren x (upTo n)).2) := by rw [HUP.out]; exact RC
  clear cP0 cP1 hc0 hoC RC R2 r0 h2
  go_wp2_with fail
  go_loopw [4, 5, 6] (fun v u i wr => ∃ (k : Nat) (b : List Int) (A : Option Addr) (c : Nat) (C : Option Addr) (cc : Nat), 1 ≤ k ∧ k ≤ AL.length ∧ i = .int .i64 k ∧ v = .slice A n c ∧ u = .slice C CL cc ∧ Hid (bestOf x (AL.take k) = some b) ∧ RdL RI wr A n b ∧ RdL RI wr C CL (codeL (ren x b).2) ∧ Below w3.heap.size w3 wr) (fun _ _ i _ => AL.length - (intOf i).toNat)
  case atStart => exact ⟨1, upTo n, A0, c0, AC, cC, Nat.le_refl _, by omega, rfl, rfl, rfl, HST, r3, RC', Below.refl _ _⟩
  case round =>
    clear r3 RC' HST
    obtain ⟨k, b, A, c, C, cc, hk1, hk2, rfl, rfl, rfl, HB, rb, rc, hT⟩ := hrel
    by_cases hlt : k < AL.length
    · have hk0 : (0 : Int) ≤ (k : Int) := by omega
      have hkl : (k : Int) < (AL.length : Int) := by omega
      have Rr := R3.next (stab_RV stab_RI) hT
      obtain ⟨v1, p, hcp, ⟨Ap, mp, cp, rfl, rp⟩, -, hxp⟩ := Rr.at' hlt
      have hpm := HALL.out p (List.mem_of_getElem? hxp)
      obtain rfl : n = mp := by rw [← rp.len]; exact hpm.1.symm
      have HNXT : Hid (bestOf x (AL.take (k + 1)) = better x (some b) p) := by show _ = _; rw [take_snoc hxp, bestOf_snoc, HB.out]
      have hpmx : PermL x.1.toNat p := by rw [HNN.out]; exact hpm
      have BPr := BP.next hT
      have cP0 := BPr.cell 0
      have cP1 := BPr.cell 1
      simp at cP0 cP1
      have hTw := below_next T3 hT rfl
      have hrr := shAlgebra.stab hrd hTw.block
      obtain ⟨hcl, hcR⟩ := HCR.out p hpm
      have HCLp := Lib.hid hcl
      have HCRp := Lib.hid hcR
      obtain ⟨hclb, -⟩ := HCR.out b (by have := best_mem HB.out; exact HALL.out b (List.mem_of_mem_take this))
      have HC1 : ∀ wz, Below wr.heap.size wr wz → Calls Try.prog 28 #[.agg #[.int .i64 (n : Int), .slice B m d], .slice Ap n cp] wz (AlgE wz (ren x p)) := fun wz hz => by
        have := l2Rename_any [.int .i64 (n : Int), .slice B m d] x Ap n cp p wz (shAlgebra.stab hrr hz.block) (rp.next stab_RI hz) HX.out hpmx
        exact this
      have HC2 : ∀ wz v css bls, Below wr.heap.size wr wz → PO 0 wz v (ren x p).2 css bls → Calls Try.prog 44 #[.agg #[.int .i64 (ren x p).1, v]] wz (CodeE wz (ren x p).2) := fun wz v css bls hz hp => by
        have := l31Code_any [.int .i64 (ren x p).1, v] (ren x p) wz (hp.alg (show InR x.1 from small_R HX.out)) (cnt_small (ren_small hpmx HX.out))
        exact this
      have HBQ := Lib.hid hclb
      have Tk : Below wr.heap.size wr wr := Below.refl _ _
      clear hcl hcR hclb hxp hpmx
      go_upto_region 7 with fail
      go_cut [7] (fun v7 wx => ∃ Aq cq, v7 = .slice Aq CL cq ∧ RdL RI wx Aq CL (codeL (ren x p).2) ∧ Below wr.heap.size wr wx)
      case first =>
        go_region_held3 (fun w' => w'.cell? ⟨w.heap.size, 0, none⟩ = some (.int .i64 (n : Int)) ∧ w'.cell? ⟨w.heap.size, 1, none⟩ = some (.slice B m d) ∧ w'.cell? ⟨b2, o2 + k, none⟩ = some (.slice Ap n cp)) (first | go_keep | exact ⟨keepc Tk cP0, keepc Tk cP1, keepc Tk hcp⟩) (first
          | (go_at_call 28; (with_reducible refine (HC1 _ ?_).mono ?_); (first | exact Tk | exact Below.drew Tk); rintro e wn ⟨vv, css, bls, rfl, hPn, hbn⟩; replace Tk := below_next (by first | exact Tk | exact Below.drew Tk) hbn rfl)
          | (go_at_call 44; refine (HC2 _ _ _ _ (by first | exact Tk | exact Below.drew Tk) (by first | exact hPn.mono (Nat.zero_le _) | exact (hPn.mono (Nat.zero_le _)).next (Below.drew (Below.refl _ _)))).mono ?_; rintro e wm ⟨Aq, cq, rfl, hoq, hbm⟩; replace Tk := below_next (by first | exact Tk | exact Below.drew Tk) hbm rfl))
        all_goals
          go_wp2_with fail
          go_meet
          refine ⟨Aq, cq, by rw [HCLp.out], ?_, by first | exact Tk | exact Below.drew Tk⟩
          have RQ := rd_of_own (R := RI) hoq (RI_ints HCRp.out)
          rw [HCLp.out] at RQ
          first | exact RQ | exact RQ.drew stab_RI
      case rest =>
        obtain ⟨Aq, cq, rfl, rq, hTc⟩ := hcut
        obtain ⟨w5, HWC⟩ : ∃ wq : World, wq = wc := ⟨_, rfl⟩
        subst HWC
        have hT5 := below_next hT hTc rfl
        have rb5 := rb.next stab_RI hTc
        have rc5 := rc.next stab_RI hTc
        have rp5 := rp.next stab_RI hTc
        have hcp5 := keepc hTc hcp
        clear cP0 cP1 hcp hTc Tk
        rcases hl : lessL (codeL (ren x p).2) (codeL (ren x b).2) with _ | _
        · have HLS := Lib.hid hl
          have HN2 : Hid (bestOf x (AL.take (k + 1)) = some b) := by show _ = _; rw [HNXT.out]; simp [better, hl]
          clear hl
          go_wp2_with (go_at_call 88; refine (l5Less_any _ _ _ _ _ _ _ _ rq rc5).mono ?_; rintro e w' ⟨rfl, z', rfl⟩; rw [HLS.out])
          go_roundw
          case rel => exact ⟨k + 1, b, A, c, C, cc, by omega, by omega, by go_num, rfl, rfl, HN2, rb5.drewN stab_RI _, rc5.drewN stab_RI _, below_drewN hT5 _⟩
          case measure => simp [intOf]; omega
        · have HLS := Lib.hid hl
          have HN2 : Hid (bestOf x (AL.take (k + 1)) = some p) := by show _ = _; rw [HNXT.out]; simp [better, hl]
          clear hl
          go_wp2_with (go_at_call 88; refine (l5Less_any _ _ _ _ _ _ _ _ rq rc5).mono ?_; rintro e w' ⟨rfl, z', rfl⟩; rw [HLS.out])
          go_roundw
          case rel => exact ⟨k + 1, p, Ap, cp, Aq, cq, by omega, by omega, by go_num, rfl, rfl, HN2, rp5.drewN stab_RI _, rq.drewN stab_RI _, below_drewN hT5 _⟩
          case measure => simp [intOf]; omega
    · have hke : k = AL.length := by omega
      have hlt' : ¬ (k : Int) < (AL.length : Int) := by omega
      have HF : Hid (b = canN x) := by
        show _ = _
        have h1 := HB.out
        rw [List.take_of_length_le (by omega), HBEST.out] at h1
        injection h1 with h1
        exact h1.symm
      clear hke
      go_wp2_with fail
      go_ret
      exact ⟨A, ⟨c, rfl⟩, by rw [← HF.out]; exact rb, below_next T3 hT rfl⟩
/-- append of one int to a row of the call's own: the same block, or a new one. -/
theorem app1x (w0 : World) {ops : Array Oper} {rest : List Oper} {o : Oper} {a : Act} {Q : Exit → Act → World → Prop} (hgd : o.guard = none) (s x : Operand)
    (ho : o.op = .call { callee := .builtin .append, args := #[s, x], argTypes := #[38, 38] })
    (n c : Nat) (A : Option Addr) (xs : List Value) (hs : a.eval s = .slice A n c) (hown : w0.ownsRow 0 3 1 (.slice A n c) n xs) (u : Int) (hx : a.eval x = .slice (some ⟨w0.heap.size, 0, none⟩) 1 1)
    (hn : n ≤ 1048576)
    (hK : ∀ A' c' w', w'.ownsRow 0 3 1 (.slice A' (n + 1) c') (n + 1) (xs ++ [.int .i64 u]) → w0.grownBy w' (Value.slice A n c).ownBlock → (∀ b ∈ obl (.slice A' (n + 1) c'), b ∈ obl (.slice A n c) ∨ w0.heap.size ≤ b) → wpList Try.prog ops Q rest (a.put o.dst (.slice A' (n + 1) c')) w') :
    wpList Try.prog ops Q (o :: rest) a (w0.alloc (.cells #[.int .i64 u] 3)) := by
  obtain ⟨i, hi, hz, hsize, hby⟩ := info_parts info_int
  have hcells : ∀ j y, [Value.int .i64 u][j]? = some y → (w0.alloc (.cells #[.int .i64 u] 3)).cell? ((⟨w0.heap.size, 0, none⟩ : Addr).add j) = some y := by
    intro j y hj
    match j, hj with
    | 0, hj => simp at hj; subst hj; simp [Addr.add]
  have hone : ∀ y ∈ [Value.int .i64 u], y.oneCell' = true := by
    intro y hy
    simp at hy
    subst hy
    rfl
  have lift : ∀ {w' : World} {row : Option Nat}, (w0.alloc (.cells #[.int .i64 u] 3)).grownBy w' row → (∀ k, row = some k → (Value.slice A n c).ownBlock = some k) → w0.grownBy w' (Value.slice A n c).ownBlock := by
    intro w' row hg hr
    exact ⟨hg.os, hg.tape, hg.output, Nat.le_trans (by simp) hg.size, fun k hk hne => (hg.block k (by simp; omega) (fun e => hne (hr k e.symm).symm)).trans (Below.heap_alloc w0 _ k hk)⟩
  by_cases hr : n + 1 ≤ c
  · obtain ⟨g, rfl⟩ : ∃ g, A = some ⟨g, 0, none⟩ := by
      rcases hown.2 with ⟨h0, -⟩ | ⟨g, cap, cur, hv, -⟩
      · injection h0 with _ _ h3
        omega
      · injection hv with hv
        exact ⟨g, hv⟩
    refine wpList_append_own_spare (w0.alloc (.cells #[.int .i64 u] 3)) hgd s x 38 ho 0 3 i 1 Try.underlying38 hi hsize g n c xs hs (hown.alloc _) ⟨w0.heap.size, 0, none⟩ 1 1 [.int .i64 u] hx rfl hcells hone hr ?_
    intro w' h2 h3
    exact hK _ _ _ h2 (lift h3 fun k e => e) (fun b hb => .inl hb)
  · refine wpList_append_grows (w0.alloc (.cells #[.int .i64 u] 3)) hgd s x 38 ho 3 i (.int .i64 0) 1 8 Try.underlying38 hi hz hsize hby rfl (by omega) A n c xs hs ?_ hown.1 ?_ ⟨w0.heap.size, 0, none⟩ 1 1 [.int .i64 u] hx rfl hcells hone (by omega) (by unfold maxLen; omega) (by omega) ?_
    · intro e
      subst e
      rcases hown.2 with ⟨h0, h1⟩ | ⟨g, cap, cur, hv, -⟩
      · injection h0 with _ _ h3
        exact ⟨h1, h3⟩
      · injection hv with hv
        cases hv
    · intro b e j y hy
      subst e
      obtain ⟨g, rfl⟩ : ∃ g, b = ⟨g, 0, none⟩ := by
        rcases hown.2 with ⟨h0, -⟩ | ⟨g, cap, cur, hv, -⟩
        · injection h0 with h0
          cases h0
        · injection hv with hv
          injection hv with hv
          exact ⟨g, hv⟩
      have hjl := (List.getElem?_eq_some_iff.1 hy).1
      have h1 := hown.1
      have := ((hown.alloc (.cells #[.int .i64 u] 3)).cellAt j (by omega)).trans hy
      have ea : (⟨g, 0, none⟩ : Addr).add j = ⟨g, j, none⟩ := by
        unfold Addr.add
        split
        · rename_i h0; subst h0; rfl
        · simp
      rw [ea]
      exact this
    · intro v' w' h2 h3
      obtain ⟨A', c', rfl⟩ := own_slice h2
      refine hK A' c' w' (own_mono h2 (Nat.zero_le _)) (lift h3 fun k e => by cases e) (fun b hb => .inr ?_)
      have := (h2.lt b (mem_obl.1 hb)).1
      simp at this
      omega
theorem own_prefix {w : World} {base n c : Nat} {A : Option Addr} {xs : List Int} {y : Int} {e : TypeId} (h : w.ownsRow base e 1 (.slice A (n + 1) c) (n + 1) (ints (xs ++ [y]))) (hn : xs.length = n) : w.ownsRow base e 1 (.slice A n c) n (ints xs) ∧ n + 1 ≤ c := by
  rcases h.2 with ⟨h0, -⟩ | ⟨g, cap, cur, hv, h1, h2, h3, h4, h5, h6⟩
  · injection h0 with _ h2 _
    omega
  · injection hv with hv1 hv2 hv3
    subst hv1
    subst hv3
    refine ⟨⟨by rw [ints_len]; omega, .inr ⟨g, c, cur, rfl, h1, h2, by omega, h4, h5, ?_⟩⟩, h3⟩
    have : cur.toList.take (n * 1) = (cur.toList.take ((n + 1) * 1)).take (n * 1) := by rw [List.take_take]; congr 1; omega
    rw [this, h6]
    simp [ints, hn]
/-- What eachOrder asks of the function that it calls: Q says what holds once d orders have been handed over; only the blocks of bl may change. -/
structure FoundOk (N : Nat) (n : Nat) (fid : Nat) (caps : Array Value) (Q : World → List (List Int) → List Nat → Prop) : Prop where
  enter : ∀ (args : Array Value) (w : World), (callFunc fid args).run Try.prog w = .ok (.enter fid args) w
  stab : ∀ {w w' : World} {d : List (List Int)} {bl : List Nat}, Q w d bl → w.heap.size ≤ w'.heap.size → (∀ b ∈ bl, w'.heap[b]? = w.heap[b]?) → Q w' d bl
  lt : ∀ {w : World} {d : List (List Int)} {bl : List Nat}, Q w d bl → ∀ b ∈ bl, b < w.heap.size
  call : ∀ (w : World) (d : List (List Int)) (bl : List Nat) (A : Option Addr) (c : Nat) (p : List Int), d.length < N → Q w d bl → RdL RI w A n p → PermL n p →
    Calls Try.prog fid (#[.slice A n c] ++ caps) w fun e w' => e = .returned (.tuple #[]) ∧ ∃ bl', Q w' (d ++ [p]) bl' ∧ ChgB bl w w' ∧ ∀ b ∈ bl', b ∈ bl ∨ w.heap.size ≤ b
structure NxS (n : Nat) (fid : Nat) (caps : Array Value) (g0 g1 g2 g3 : Nat) (w : World) (A : Option Addr) (c : Nat) (s : List Int) (bl : List Nat) : Prop where
  B0 : Blk w g0 38 #[.slice A s.length c]
  B1 : Blk w g1 3 #[.int .i64 (n : Int)]
  B2 : Blk w g2 79 #[.func (.func fid) #[] caps]
  B3 : Blk w g3 1 #[.func (.func 85) #[] #[.pointer (some ⟨g0, 0, none⟩), .pointer (some ⟨g1, 0, none⟩), .pointer (some ⟨g2, 0, none⟩), .pointer (some ⟨g3, 0, none⟩)]]
  own : w.ownsRow 0 3 1 (.slice A s.length c) s.length (ints s)
  dis : ∀ b ∈ obl (.slice A s.length c), b ∉ bl
  gs : g0 ∉ bl ∧ g1 ∉ bl ∧ g2 ∉ bl ∧ g3 ∉ bl
  g1v : g1 ∉ obl (.slice A s.length c)
theorem NxS.chg {n fid : Nat} {caps : Array Value} {g0 g1 g2 g3 c : Nat} {w w' : World} {A : Option Addr} {s : List Int} {bl bl' : List Nat} (h : NxS n fid caps g0 g1 g2 g3 w A c s bl) (hc : ChgB bl w w') (hb : ∀ b ∈ bl', b ∈ bl ∨ w.heap.size ≤ b) : NxS n fid caps g0 g1 g2 g3 w' A c s bl' := by
  have far : ∀ {g : Nat} {t : TypeId} {cs : Array Value}, Blk w g t cs → g ∉ bl → Blk w' g t cs := fun hB hg => (hc.block _ hB.lt hg).trans hB
  have fr : ∀ {g : Nat} {t : TypeId} {cs : Array Value}, Blk w g t cs → g ∉ bl → g ∉ bl' := fun hB hg hh => by
    rcases hb _ hh with h1 | h1
    · exact hg h1
    · have := hB.lt
      omega
  refine ⟨far h.B0 h.gs.1, far h.B1 h.gs.2.1, far h.B2 h.gs.2.2.1, far h.B3 h.gs.2.2.2, ?_, fun b hbm hh => ?_, ⟨fr h.B0 h.gs.1, fr h.B1 h.gs.2.1, fr h.B2 h.gs.2.2.1, fr h.B3 h.gs.2.2.2⟩, h.g1v⟩
  · exact row_chg h.own hc fun b hb' hh => h.dis b (mem_obl.2 hb') hh
  · rcases hb b hh with h1 | h1
    · exact h.dis b hbm h1
    · have := (h.own.lt b (mem_obl.1 hbm)).2
      omega
/-- What a call of the inner function leaves. -/
def NxE (n fid : Nat) (caps : Array Value) (Q : World → List (List Int) → List Nat → Prop) (g0 g1 g2 g3 : Nat) (w : World) (A : Option Addr) (c : Nat) (s : List Int) (bl : List Nat) (d : List (List Int)) (e : Ending) (w' : World) : Prop :=
  e = .returned (.tuple #[]) ∧ ∃ A' c' bl', NxS n fid caps g0 g1 g2 g3 w' A' c' s bl' ∧ Q w' d bl' ∧ ChgB (bl ++ g0 :: obl (.slice A s.length c)) w w' ∧ (∀ b ∈ bl', b ∈ bl ∨ w.heap.size ≤ b) ∧ (∀ b ∈ obl (.slice A' s.length c'), b ∈ obl (.slice A s.length c) ∨ w.heap.size ≤ b)
theorem ChgB.trans2 {bl bl1 : List Nat} {g0 : Nat} {l l1 : List Nat} {w w1 w2 : World} (h : ChgB (bl ++ g0 :: l) w w1) (k : ChgB (bl1 ++ g0 :: l1) w1 w2) (hb1 : ∀ b ∈ bl1, b ∈ bl ∨ w.heap.size ≤ b) (hl : ∀ b ∈ l1, b ∈ l ∨ w.heap.size ≤ b) : ChgB (bl ++ g0 :: l) w w2 :=
  ⟨k.os.trans h.os, k.tape.trans h.tape, k.output.trans h.output, Nat.le_trans h.size k.size, fun b hb hn => (k.block b (Nat.lt_of_lt_of_le hb h.size) fun hh => hn (by
    rw [List.mem_append, List.mem_cons] at hh ⊢
    rcases hh with h1 | h1 | h1
    · rcases hb1 b h1 with h2 | h2
      · exact .inl h2
      · omega
    · exact .inr (.inl h1)
    · rcases hl b h1 with h2 | h2
      · exact .inr (.inr h2)
      · omega)).trans (h.block b hb hn)⟩
theorem Blk.c0 {w : World} {g : Nat} {t : TypeId} {v : Value} (h : Blk w g t #[v]) : w.cell? ⟨g, 0, none⟩ = some v := by have := h.cell 0; simpa using this
theorem obl_len {A : Option Addr} {n m c d : Nat} : obl (.slice A n c) = obl (.slice A m d) := by rcases A with _ | p <;> rfl
theorem NxS.push {n fid : Nat} {caps : Array Value} {g0 g1 g2 g3 c : Nat} {w w2 : World} {A : Option Addr} {s : List Int} {bl : List Nat} (h : NxS n fid caps g0 g1 g2 g3 w A c s bl) (hbl : ∀ b ∈ bl, b < w.heap.size) {A2 : Option Addr} {c2 : Nat} {u : Int} (ho : w2.ownsRow 0 3 1 (.slice A2 (s.length + 1) c2) (s.length + 1) (ints s ++ [.int .i64 u]))
    (hg : w.grownBy w2 (Value.slice A s.length c).ownBlock) (hf : ∀ b ∈ obl (.slice A2 (s.length + 1) c2), b ∈ obl (.slice A s.length c) ∨ w.heap.size ≤ b) :
    NxS n fid caps g0 g1 g2 g3 (w2.setCell ⟨g0, 0, none⟩ (.slice A2 (s ++ [u]).length c2)) A2 c2 (s ++ [u]) bl ∧ (∀ b ∈ bl, (w2.setCell ⟨g0, 0, none⟩ (.slice A2 (s ++ [u]).length c2)).heap[b]? = w.heap[b]?) ∧ ChgB (g0 :: obl (.slice A s.length c)) w (w2.setCell ⟨g0, 0, none⟩ (.slice A2 (s ++ [u]).length c2)) := by
  have hl : (s ++ [u]).length = s.length + 1 := by simp
  have far : ∀ {g : Nat} {t : TypeId} {cs : Array Value}, Blk w g t cs → g ∉ obl (.slice A s.length c) → Blk w2 g t cs := fun hB hn => hB.grown hg fun e => hn (mem_obl.2 e.symm)
  have n0 : g0 ∉ obl (.slice A s.length c) := fun hh => own_off h.own h.B0 (by decide) (mem_obl.1 hh)
  have n2 : g2 ∉ obl (.slice A s.length c) := fun hh => own_off h.own h.B2 (by decide) (mem_obl.1 hh)
  have n3 : g3 ∉ obl (.slice A s.length c) := fun hh => own_off h.own h.B3 (by decide) (mem_obl.1 hh)
  have e1 : g1 ≠ g0 := h.B1.ne_ h.B0 (by decide)
  have e2 : g2 ≠ g0 := h.B2.ne_ h.B0 (by decide)
  have e3 : g3 ≠ g0 := h.B3.ne_ h.B0 (by decide)
  have B0' := (far h.B0 n0).set_ 0 (.slice A2 (s ++ [u]).length c2)
  have hno : g0 ∉ obl (.slice A2 (s.length + 1) c2) := fun hh => own_off ho (far h.B0 n0) (by decide) (mem_obl.1 hh)
  refine ⟨⟨by simpa using B0', (far h.B1 h.g1v).far (p := ⟨g0, 0, none⟩) e1 _, (far h.B2 n2).far (p := ⟨g0, 0, none⟩) e2 _, (far h.B3 n3).far (p := ⟨g0, 0, none⟩) e3 _, ?_, ?_, h.gs, ?_⟩, ?_, ?_⟩
  · rw [hl, ints_snoc]
    exact own_set ho (p := ⟨g0, 0, none⟩) (fun hh => hno (mem_obl.2 hh)) _
  · intro b hb hh
    rw [hl] at hb
    rcases hf b hb with h1 | h1
    · exact h.dis b h1 hh
    · have := hbl b hh
      omega
  · intro hh
    rw [hl] at hh
    rcases hf g1 hh with h1 | h1
    · exact h.g1v h1
    · have := h.B1.lt
      omega
  · intro b hb
    rw [Below.heap_setCell w2 ⟨g0, 0, none⟩ _ b (fun e => h.gs.1 (by rw [← show b = g0 from e]; exact hb))]
    exact hg.block b (hbl b hb) fun e => h.dis b (mem_obl.2 e.symm) hb
  · exact ⟨hg.os, hg.tape, hg.output, by simpa using hg.size, fun b hb hn => by
      rw [List.mem_cons, not_or] at hn
      rw [Below.heap_setCell w2 ⟨g0, 0, none⟩ _ b hn.1]
      exact hg.block b hb fun e => hn.2 (mem_obl.2 e.symm)⟩
theorem NxS.pop {n fid : Nat} {caps : Array Value} {g0 g1 g2 g3 c : Nat} {w : World} {A : Option Addr} {s : List Int} {u : Int} {bl : List Nat} (h : NxS n fid caps g0 g1 g2 g3 w A c (s ++ [u]) bl) :
    NxS n fid caps g0 g1 g2 g3 (w.setCell ⟨g0, 0, none⟩ (.slice A s.length c)) A c s bl ∧ (∀ b ∈ bl, (w.setCell ⟨g0, 0, none⟩ (.slice A s.length c)).heap[b]? = w.heap[b]?) ∧ s.length + 1 ≤ c := by
  have hl : (s ++ [u]).length = s.length + 1 := by simp
  have ho := h.own
  rw [hl] at ho
  obtain ⟨ho2, hc⟩ := own_prefix ho rfl
  have e1 : g1 ≠ g0 := h.B1.ne_ h.B0 (by decide)
  have e2 : g2 ≠ g0 := h.B2.ne_ h.B0 (by decide)
  have e3 : g3 ≠ g0 := h.B3.ne_ h.B0 (by decide)
  have hob : obl (.slice A s.length c) = obl (.slice A (s ++ [u]).length c) := by rcases A with _ | p <;> rfl
  have hno : g0 ∉ obl (.slice A s.length c) := fun hh => own_off ho2 h.B0 (by decide) (mem_obl.1 hh)
  refine ⟨⟨by simpa using h.B0.set_ 0 (.slice A s.length c), h.B1.far (p := ⟨g0, 0, none⟩) e1 _, h.B2.far (p := ⟨g0, 0, none⟩) e2 _, h.B3.far (p := ⟨g0, 0, none⟩) e3 _, own_set ho2 (p := ⟨g0, 0, none⟩) (fun hh => hno (mem_obl.2 hh)) _, ?_, h.gs, ?_⟩, ?_, hc⟩
  · rw [hob]
    exact h.dis
  · rw [hob]
    exact h.g1v
  · intro b hb
    exact Below.heap_setCell w ⟨g0, 0, none⟩ _ b (fun e => h.gs.1 (by rw [← show b = g0 from e]; exact hb))
theorem ordsTo_mono {n r : Nat} {s : List Int} {k : Nat} : ∀ {m : Nat}, k ≤ m → (ordsTo n r s k).length ≤ (ordsTo n r s m).length
  | 0, h => by
    obtain rfl : k = 0 := by omega
    exact Nat.le_refl _
  | m + 1, h => by
    rcases Nat.lt_or_ge k (m + 1) with h1 | h1
    · rw [ordsTo_succ n r s m, List.length_append]
      have := ordsTo_mono (n := n) (r := r) (s := s) (k := k) (m := m) (by omega)
      omega
    · obtain rfl : k = m + 1 := by omega
      exact Nat.le_refl _
theorem next_any {N n fid : Nat} {caps : Array Value} {Q : World → List (List Int) → List Nat → Prop} (hF : FoundOk N n fid caps Q) (hn5 : n ≤ 5) (g0 g1 g2 g3 : Nat) :
    ∀ (r : Nat) (A : Option Addr) (c : Nat) (s : List Int) (bl : List Nat) (d : List (List Int)) (w : World), NxS n fid caps g0 g1 g2 g3 w A c s bl → Q w d bl → s.length + r = n → (∀ v ∈ s, 0 ≤ v ∧ v ≤ (n : Int) - 1) → s.Nodup → d.length + (ords n r s).length ≤ N →
      Calls Try.prog 85 #[.pointer (some ⟨g0, 0, none⟩), .pointer (some ⟨g1, 0, none⟩), .pointer (some ⟨g2, 0, none⟩), .pointer (some ⟨g3, 0, none⟩)] w (NxE n fid caps Q g0 g1 g2 g3 w A c s bl (d ++ ords n r s))
  | 0, A, c, s, bl, d, w, hS, hQ, hl, hb, hnd, hN => by
    have hls : s.length = n := by omega
    have HS := Lib.hid hS
    have c0 := hS.B0.c0
    have c1 := hS.B1.c0
    have c2 := hS.B2.c0
    have HO : Hid (ords n 0 s = [s]) := rfl
    have hR : RdL RI w A n s := by
      have := rd_of_own (R := RI) hS.own (RI_ints fun v hv => by have := hb v hv; omega)
      rw [hls] at this
      exact this
    have HC := Lib.hid (hF.call w d bl A c s (by simp [ords] at hN; omega) hQ hR ⟨hls, hb, hnd⟩)
    rw [hls] at c0
    have hen := hF.enter
    clear hS hQ hb hnd hl
    go_enter Try.func85, Try.ntmps85
    go_wp2_with fail
    refine HC.out.mono ?_
    rintro e w' ⟨rfl, bl', hQ', hcg, hfr⟩
    have HS' := Lib.hid (HS.out.chg hcg hfr)
    have HQ' := Lib.hid hQ'
    clear hQ'
    go_wp2_with fail
    (try simp only [Exit.inBlock, Exit.then])
    refine bodyPost_ret (results_none rfl _ _ _) rfl ?_
    exact ⟨rfl, A, c, bl', HS'.out, by rw [HO.out]; exact HQ'.out, hcg.mono fun b hb => List.mem_append_left _ hb, hfr, fun b hb => .inl hb⟩
  | r + 1, A, c, s, bl, d, w, hS, hQ, hl, hb, hnd, hN => by
    have HNN := Lib.hid hN
    clear hN
    have ih := next_any hF hn5 g0 g1 g2 g3 r
    have HB := Lib.hid hb
    have HND := Lib.hid hnd
    have hsl : s.length ≤ 5 := by omega
    have hbe : ((s.length : Int) == (n : Int)) = false := by rw [beq_eq_false_iff_ne]; omega
    have c0 := hS.B0.c0
    have c1 := hS.B1.c0
    have HO : Hid (ordsTo n r s n = ords n (r + 1) s) := rfl
    have HL := Lib.hid hl
    clear hb hnd
    go_enter Try.func85, Try.ntmps85
    go_wp2_with fail
    clear c0 c1
    go_loopw [4] (fun i wr => ∃ (k : Nat) (A' : Option Addr) (c' : Nat) (bl' : List Nat), k ≤ n ∧ i = .int .i64 k ∧ NxS n fid caps g0 g1 g2 g3 wr A' c' s bl' ∧ Q wr (d ++ ordsTo n r s k) bl' ∧ ChgB (bl ++ g0 :: obl (.slice A s.length c)) w wr ∧ (∀ b ∈ bl', b ∈ bl ∨ w.heap.size ≤ b) ∧ (∀ b ∈ obl (.slice A' s.length c'), b ∈ obl (.slice A s.length c) ∨ w.heap.size ≤ b)) (fun i _ => n - (intOf i).toNat)
    case atStart => exact ⟨0, A, c, bl, Nat.zero_le _, rfl, hS, by rw [show ordsTo n r s 0 = [] from rfl, List.append_nil]; exact hQ, ChgB.refl _ _, fun b hb => .inl hb, fun b hb => .inl hb⟩
    case round =>
      clear hS hQ
      obtain ⟨k, A', c', bl', hk, rfl, hS, hQ, hC, hfb, hfv⟩ := hrel
      have c0 := hS.B0.c0
      have c1 := hS.B1.c0
      by_cases hlt : k < n
      · have hk0 : (0 : Int) ≤ (k : Int) := by omega
        have hk1 : (k : Int) < (n : Int) := by omega
        have hR : RdL RI wr A' s.length s := rd_of_own (R := RI) hS.own (RI_ints fun v hv => by have := HB.out v hv; omega)
        have HS := Lib.hid hS
        have HQ := Lib.hid hQ
        have HREL := Lib.hid (And.intro hC (And.intro hfb hfv))
        rcases hh : hasI (k : Int) s with _ | _
        · have HH : Hid ((!hasI (k : Int) s) = true) := by show _ = _; rw [hh]; rfl
          have HSU : Hid (ordsTo n r s (k + 1) = ordsTo n r s k ++ ords n r (s ++ [(k : Int)])) := by show _ = _; rw [ordsTo_succ, hh]; simp
          have HNM : Hid (¬ (k : Int) ∈ s) := fun hm => by rw [hasI_m.2 hm] at hh; cases hh
          have hown := hS.own
          have HBL : Hid (∀ b ∈ bl', b < wr.heap.size) := hF.lt hQ
          have e30 : g3 ≠ g0 := hS.B3.ne_ hS.B0 (by decide)
          have c3 := hS.B3.c0
          clear hh hS hQ hC hfb hfv
          go_wp2_with (first
            | (go_at_call 86; refine (hasNot_any _ _ _ _ _ _ hR).mono ?_; rintro e w' ⟨rfl, rfl⟩; rw [HH.out])
            | (at_builtin; refine app1x wr rfl _ _ rfl s.length c' A' (ints s) rfl hown (k : Int) rfl (by omega) ?_; intro A2 c2 w2 hown2 hg2 hf2; have HP := Lib.hid (HS.out.push HBL.out hown2 hg2 hf2); have cB0 := (HS.out.B0.grown hg2 (fun e => own_off hown HS.out.B0 (by decide) e.symm)).c0; have fB0 := (HS.out.B0.grown hg2 (fun e => own_off hown HS.out.B0 (by decide) e.symm)).frozen 0; have cB3 := (HS.out.B3.grown hg2 (fun e => own_off hown HS.out.B3 (by decide) e.symm)).c0))
          have hlen1 : (s ++ [(k : Int)]).length = s.length + 1 := by simp
          obtain ⟨hN3, hsame3, hC3⟩ := HP.out
          rw [hlen1] at hN3 hsame3 hC3
          obtain ⟨w3, hw3⟩ : ∃ w3, w3 = w2.setCell ⟨g0, 0, none⟩ (.slice A2 (s.length + 1) c2) := ⟨_, rfl⟩
          rw [← hw3] at hN3 hsame3 hC3 ⊢
          clear hw3 HP cB0 fB0 cB3
          have hQ3 := hF.stab HQ.out hC3.size hsame3
          refine (ih A2 c2 (s ++ [(k : Int)]) bl' _ w3 hN3 hQ3 (by rw [hlen1]; have := HL.out; omega) (fun v hv => by
            rw [List.mem_append] at hv
            rcases hv with hv | hv
            · exact HB.out v hv
            · rw [List.mem_singleton] at hv
              omega) (by
            rw [List.nodup_append]
            refine ⟨HND.out, by simp, fun a ha b hb e => ?_⟩
            rw [List.mem_singleton] at hb
            subst hb
            subst e
            exact HNM.out ha) (by
            have h1 := HNN.out
            have h2 : (ordsTo n r s (k + 1)).length ≤ (ordsTo n r s n).length := ordsTo_mono (by omega)
            rw [HO.out] at h2
            rw [HSU.out, List.length_append] at h2
            rw [List.length_append]
            omega)).mono ?_
          rintro e w5 ⟨rfl, A5, c5, bl5, hN5, hQ5, hC5, hfb5, hfv5⟩
          rw [List.append_assoc, ← HSU.out] at hQ5
          obtain ⟨hN6, hsame6, hc56⟩ := hN5.pop
          have cB0 := hN5.B0.c0
          have fB0 := hN5.B0.frozen 0
          rw [hlen1] at cB0
          have hQ6 := hF.stab hQ5 (by simp) hsame6
          have hfvv : ∀ b ∈ obl (.slice A2 (s ++ [(k : Int)]).length c2), b ∈ obl (.slice A' s.length c') ∨ wr.heap.size ≤ b := fun b hb => hf2 b (by rw [obl_len (m := (s ++ [(k : Int)]).length) (d := c2)]; exact hb)
          have hCr : ChgB (bl' ++ g0 :: obl (.slice A' s.length c')) wr (w5.setCell ⟨g0, 0, none⟩ (.slice A5 s.length c5)) :=
            ((hC3.mono fun b hb => List.mem_append_right _ hb).trans2 hC5 (fun b hb => .inl hb) hfvv).trans (ChgB.set (p := ⟨g0, 0, none⟩) (List.mem_append_right _ (List.mem_cons_self ..)) _)
          have hs1 := HREL.out.1.size
          have hs3 := hC3.size
          have HFIN := Lib.hid (And.intro hN6 (And.intro hQ6 (And.intro (HREL.out.1.trans2 hCr HREL.out.2.1 HREL.out.2.2) (And.intro (show ∀ b ∈ bl5, b ∈ bl ∨ w.heap.size ≤ b from fun b hb => by
            rcases hfb5 b hb with h1 | h1
            · exact HREL.out.2.1 b h1
            · exact .inr (by omega)) (show ∀ b ∈ obl (.slice A5 s.length c5), b ∈ obl (.slice A s.length c) ∨ w.heap.size ≤ b from fun b hb => by
            rw [obl_len (m := (s ++ [(k : Int)]).length) (d := c5)] at hb
            rcases hfv5 b hb with h1 | h1
            · rcases hfvv b h1 with h2 | h2
              · exact HREL.out.2.2 b h2
              · exact .inr (by omega)
            · exact .inr (by omega))))))
          clear hN3 hsame3 hC3 hN5 hQ5 hC5 hfb5 hfv5 hN6 hsame6 hQ6 hQ3 hCr hfvv hown2 hg2 hf2 hown hR HREL c0 c1 c3
          go_wp2_with fail
          go_roundw
          case rel => exact ⟨k + 1, A5, c5, bl5, by omega, by go_num, HFIN.out⟩
          case measure => simp [intOf]; omega
        · have HH : Hid ((!hasI (k : Int) s) = false) := by show _ = _; rw [hh]; rfl
          have HSU : Hid (ordsTo n r s (k + 1) = ordsTo n r s k) := by show _ = _; rw [ordsTo_succ, hh]; simp
          clear hh hS hQ hC hfb hfv
          go_wp2_with (go_at_call 86; refine (hasNot_any _ _ _ _ _ _ hR).mono ?_; rintro e w' ⟨rfl, rfl⟩; rw [HH.out])
          go_roundw
          case rel => exact ⟨k + 1, A', c', bl', by omega, by go_num, HS.out, by rw [HSU.out]; exact HQ.out, HREL.out⟩
          case measure => simp [intOf]; omega
      · obtain rfl : k = n := by omega
        have hlt' : ¬ (k : Int) < (k : Int) := by omega
        have HFIN : Hid (NxE k fid caps Q g0 g1 g2 g3 w A c s bl (d ++ ords k (r + 1) s) (.returned (.tuple #[])) wr) := ⟨rfl, A', c', bl', hS, by rw [← HO.out]; exact hQ, hC, hfb, hfv⟩
        clear hS hQ hC hfb hfv
        go_wp2_with fail
        go_end0
        exact HFIN.out
theorem eachOrder_any {N n fid : Nat} {caps : Array Value} {Q : World → List (List Int) → List Nat → Prop} (hF : FoundOk N n fid caps Q) (hn5 : n ≤ 5) (hN : (ords n n []).length ≤ N) (w : World) (bl : List Nat) (hQ : Q w [] bl) :
    Calls Try.prog 59 #[.int .i64 (n : Int), .func (.func fid) #[] caps] w (fun e w' => e = .returned (.tuple #[]) ∧ ∃ bl', Q w' (ords n n []) bl' ∧ ChgB bl w w' ∧ ∀ b ∈ bl', b ∈ bl ∨ w.heap.size ≤ b) := by
  have hlt := hF.lt hQ
  obtain ⟨w5, hw5⟩ : ∃ w5, w5 = ((((w.alloc (.cells #[.int .i64 (n : Int)] 3)).alloc (.cells #[.func (.func fid) #[] caps] 79)).alloc (.cells #[] 3)).alloc (.cells #[.slice (some ⟨w.heap.size + 1 + 1, 0, none⟩) 0 0] 38)).alloc (.cells #[.func (.func 85) #[] #[.pointer (some ⟨w.heap.size + 1 + 1 + 1, 0, none⟩), .pointer (some ⟨w.heap.size, 0, none⟩), .pointer (some ⟨w.heap.size + 1, 0, none⟩), .pointer (some ⟨w.heap.size + 1 + 1 + 1 + 1, 0, none⟩)]] 1) := ⟨_, rfl⟩
  have T5 : Below w.heap.size w w5 := by
    rw [hw5]
    exact (below_box4 w _ _ _ _).alloc (by simp; omega) _
  have hz5 : w5.heap.size = w.heap.size + 5 := by rw [hw5]; simp
  have B1 : Blk w5 w.heap.size 3 #[.int .i64 (n : Int)] := by
    rw [hw5]
    exact ((((Blk.new w 3 #[.int .i64 (n : Int)]).alloc _).alloc _).alloc _).alloc _
  have B2 : Blk w5 (w.heap.size + 1) 79 #[.func (.func fid) #[] caps] := by
    rw [hw5]
    have := (((Blk.new (w.alloc (.cells #[.int .i64 (n : Int)] 3)) 79 #[.func (.func fid) #[] caps]).alloc (.cells #[] 3)).alloc (.cells #[.slice (some ⟨w.heap.size + 1 + 1, 0, none⟩) 0 0] 38)).alloc (.cells #[.func (.func 85) #[] #[.pointer (some ⟨w.heap.size + 1 + 1 + 1, 0, none⟩), .pointer (some ⟨w.heap.size, 0, none⟩), .pointer (some ⟨w.heap.size + 1, 0, none⟩), .pointer (some ⟨w.heap.size + 1 + 1 + 1 + 1, 0, none⟩)]] 1)
    simpa using this
  have B0 : Blk w5 (w.heap.size + 1 + 1 + 1) 38 #[.slice (some ⟨w.heap.size + 1 + 1, 0, none⟩) 0 0] := by
    rw [hw5]
    have := (Blk.new (((w.alloc (.cells #[.int .i64 (n : Int)] 3)).alloc (.cells #[.func (.func fid) #[] caps] 79)).alloc (.cells #[] 3)) 38 #[.slice (some ⟨w.heap.size + 1 + 1, 0, none⟩) 0 0]).alloc (.cells #[.func (.func 85) #[] #[.pointer (some ⟨w.heap.size + 1 + 1 + 1, 0, none⟩), .pointer (some ⟨w.heap.size, 0, none⟩), .pointer (some ⟨w.heap.size + 1, 0, none⟩), .pointer (some ⟨w.heap.size + 1 + 1 + 1 + 1, 0, none⟩)]] 1)
    simpa using this
  have B3 : Blk w5 (w.heap.size + 1 + 1 + 1 + 1) 1 #[.func (.func 85) #[] #[.pointer (some ⟨w.heap.size + 1 + 1 + 1, 0, none⟩), .pointer (some ⟨w.heap.size, 0, none⟩), .pointer (some ⟨w.heap.size + 1, 0, none⟩), .pointer (some ⟨w.heap.size + 1 + 1 + 1 + 1, 0, none⟩)]] := by
    rw [hw5]
    have := Blk.new ((((w.alloc (.cells #[.int .i64 (n : Int)] 3)).alloc (.cells #[.func (.func fid) #[] caps] 79)).alloc (.cells #[] 3)).alloc (.cells #[.slice (some ⟨w.heap.size + 1 + 1, 0, none⟩) 0 0] 38)) 1 #[.func (.func 85) #[] #[.pointer (some ⟨w.heap.size + 1 + 1 + 1, 0, none⟩), .pointer (some ⟨w.heap.size, 0, none⟩), .pointer (some ⟨w.heap.size + 1, 0, none⟩), .pointer (some ⟨w.heap.size + 1 + 1 + 1 + 1, 0, none⟩)]]
    simpa using this
  have own : w5.ownsRow 0 3 1 (.slice (some ⟨w.heap.size + 1 + 1, 0, none⟩) 0 0) 0 (ints []) := by
    rw [hw5]
    have := ((World.ownsRow_lit (e := 3) (size := 1) ((w.alloc (.cells #[.int .i64 (n : Int)] 3)).alloc (.cells #[.func (.func fid) #[] caps] 79)) #[] 0 (Nat.zero_le _) (Nat.zero_le _) rfl).alloc (.cells #[.slice (some ⟨w.heap.size + 1 + 1, 0, none⟩) 0 0] 38)).alloc (.cells #[.func (.func 85) #[] #[.pointer (some ⟨w.heap.size + 1 + 1 + 1, 0, none⟩), .pointer (some ⟨w.heap.size, 0, none⟩), .pointer (some ⟨w.heap.size + 1, 0, none⟩), .pointer (some ⟨w.heap.size + 1 + 1 + 1 + 1, 0, none⟩)]] 1)
    rw [World.size_alloc, World.size_alloc] at this
    exact this
  have hX : NxS n fid caps (w.heap.size + 1 + 1 + 1) w.heap.size (w.heap.size + 1) (w.heap.size + 1 + 1 + 1 + 1) w5 (some ⟨w.heap.size + 1 + 1, 0, none⟩) 0 [] bl :=
    ⟨B0, B1, B2, B3, own, fun b hb hh => by
      have h1 := hlt b hh
      have h2 : b ∈ [w.heap.size + 1 + 1] := hb
      simp at h2
      omega, ⟨fun hh => by have := hlt _ hh; omega, fun hh => by have := hlt _ hh; omega, fun hh => by have := hlt _ hh; omega, fun hh => by have := hlt _ hh; omega⟩, fun hh => by
      have h2 : w.heap.size ∈ [w.heap.size + 1 + 1] := hh
      simp at h2
      omega⟩
  have hQ5 : Q w5 [] bl := hF.stab hQ T5.size fun b hb => T5.block b (hlt b hb)
  have HC := Lib.hid (next_any hF hn5 _ _ _ _ n _ 0 [] bl [] w5 hX hQ5 (by simp) (fun v hv => by cases hv) List.nodup_nil (by simpa using hN))
  have HT := Lib.hid (And.intro T5 (And.intro hz5 hlt))
  have c3 := B3.c0
  have HW5 := Lib.hid hw5
  rw [hw5] at c3
  have BZ := Blk.new ((((w.alloc (.cells #[.int .i64 (n : Int)] 3)).alloc (.cells #[.func (.func fid) #[] caps] 79)).alloc (.cells #[] 3)).alloc (.cells #[.slice (some ⟨w.heap.size + 1 + 1, 0, none⟩) 0 0] 38)) 1 #[.nilFunc]
  have cZ := BZ.c0
  have fZ := BZ.frozen 0
  simp at cZ fZ
  have hst : ∀ (a : Addr) (fn : Fn) (fs cs : Array Value) (w : World) (m : Mode), Sem.run Try.prog (store a (.func fn fs cs) m) w = stored Try.prog w a (.func fn fs cs) m := fun a fn fs cs w m => run_store Try.prog w a _ m rfl
  clear hw5 T5 hz5 B0 B1 B2 B3 own hX hQ5 hQ hlt
  go_enter Try.func59, Try.ntmps59
  go_wp2_with fail
  rw [← HW5.out]
  refine HC.out.mono ?_
  rintro e w' ⟨rfl, A', c', bl', -, hQ', hC', hfb, -⟩
  obtain ⟨T5, hz5, hlt⟩ := HT.out
  have HQ' := Lib.hid hQ'
  have hfin : ChgB bl w w' := by
    refine ⟨hC'.os.trans T5.os, hC'.tape.trans T5.tape, hC'.output.trans T5.output, by have := hC'.size; omega, fun b hb hn => (hC'.block b (by omega) fun hh => ?_).trans (T5.block b hb)⟩
    rw [List.mem_append, List.mem_cons] at hh
    rcases hh with h1 | h1 | h1
    · exact hn h1
    · omega
    · have h2 : b ∈ [w.heap.size + 1 + 1] := h1
      simp at h2
      omega
  have HFIN := Lib.hid hfin
  have HFB : Hid (∀ b ∈ bl', b ∈ bl ∨ w.heap.size ≤ b) := fun b hb => by
    rcases hfb b hb with h1 | h1
    · exact .inl h1
    · exact .inr (by omega)
  clear hQ' hC' hfb hfin T5 hz5 hlt
  go_wp2_with fail
  go_end0
  exact ⟨rfl, bl', by have := HQ'.out; simpa using this, HFIN.out, HFB.out⟩
/-- Where the boxes of canonical stand, and what the algebra's cells are. -/
structure CanC where
  x : AlgebraM
  n : Nat
  CL : Nat
  B : Option Addr
  m : Nat
  d : Nat
  wL : World
  ga : Nat
  gf : Nat
  gc : Nat
  gb : Nat
def CanC.rest (C : CanC) (w : World) : Option (List Int) → List Nat → Prop
  | none, bl => Blk w C.gf 38 #[.slice none 0 0] ∧ Blk w C.gc 38 #[.slice none 0 0] ∧ Blk w C.gb 26 #[.int .i64 0, .slice none 0 0] ∧ bl = [C.ga, C.gf, C.gc, C.gb]
  | some b, bl => ∃ (Af : Option Addr) (cf : Nat) (Ac : Option Addr) (cc : Nat) (vb : Value) (css : List (List Value)) (bls : List (List Nat)), Blk w C.gf 38 #[.slice Af C.n cf] ∧ Blk w C.gc 38 #[.slice Ac C.CL cc] ∧ Blk w C.gb 26 #[.int .i64 (C.n : Int), vb] ∧
      w.ownsRow C.wL.heap.size 3 1 (.slice Af C.n cf) C.n (ints b) ∧ w.ownsRow C.wL.heap.size 3 1 (.slice Ac C.CL cc) C.CL (ints (codeL (ren C.x b).2)) ∧ PO C.wL.heap.size w vb (ren C.x b).2 css bls ∧
      bl = [C.ga, C.gf, C.gc, C.gb] ++ (obl (.slice Af C.n cf) ++ (obl (.slice Ac C.CL cc) ++ (obl vb ++ bls.flatten)))
/-- The state once d orders have been handed over. -/
def CanC.Q (C : CanC) (w : World) (d : List (List Int)) (bl : List Nat) : Prop :=
  ∃ rl, bl = List.range C.wL.heap.size ++ rl ∧ (∀ b < C.wL.heap.size, w.heap[b]? = C.wL.heap[b]?) ∧ C.wL.heap.size ≤ w.heap.size ∧ Blk w C.ga 26 #[.int .i64 (C.n : Int), .slice C.B C.m C.d] ∧ (∀ p ∈ d, PermL C.n p) ∧ C.rest w (bestOf C.x d) rl
structure CanC.Ok (C : CanC) : Prop where
  rd : shAlgebra.rd C.wL [.int .i64 (C.n : Int), .slice C.B C.m C.d] C.x
  small : SmallP C.x
  hn : C.x.1 = (C.n : Int)
  hCL : (codeL C.x.2).length = C.CL
  dist : C.gf ≠ C.gc ∧ C.gf ≠ C.gb ∧ C.gc ≠ C.gb ∧ C.ga ≠ C.gb ∧ C.ga ≠ C.gf ∧ C.ga ≠ C.gc
  ge : C.wL.heap.size ≤ C.ga ∧ C.wL.heap.size ≤ C.gf ∧ C.wL.heap.size ≤ C.gc ∧ C.wL.heap.size ≤ C.gb
theorem CanC.rest_stab {C : CanC} {w w' : World} {o : Option (List Int)} {bl : List Nat} (h : C.rest w o bl) (hz : w.heap.size ≤ w'.heap.size) (hs : ∀ b ∈ bl, w'.heap[b]? = w.heap[b]?) : C.rest w' o bl := by
  rcases o with _ | b
  · obtain ⟨h1, h2, h3, rfl⟩ := h
    exact ⟨(hs _ (by simp)).trans h1, (hs _ (by simp)).trans h2, (hs _ (by simp)).trans h3, rfl⟩
  · obtain ⟨Af, cf, Ac, cc, vb, css, bls, h1, h2, h3, h4, h5, h6, rfl⟩ := h
    refine ⟨Af, cf, Ac, cc, vb, css, bls, (hs _ (by simp)).trans h1, (hs _ (by simp)).trans h2, (hs _ (by simp)).trans h3, own_same h4 fun b hb => hs b ?_, own_same h5 fun b hb => hs b ?_, h6.same hz fun b hb => hs b ?_, rfl⟩
    · exact List.mem_append_right _ (List.mem_append_left _ (mem_obl.2 hb))
    · exact List.mem_append_right _ (List.mem_append_right _ (List.mem_append_left _ (mem_obl.2 hb)))
    · exact List.mem_append_right _ (List.mem_append_right _ (List.mem_append_right _ hb))
theorem CanC.Q_lt {C : CanC} {w : World} {d : List (List Int)} {bl : List Nat} (h : C.Q w d bl) : ∀ b ∈ bl, b < w.heap.size := by
  obtain ⟨rl, rfl, -, hz, hA, -, hr⟩ := h
  intro b hb
  rcases List.mem_append.1 hb with hb | hb
  · have := List.mem_range.1 hb
    omega
  · generalize bestOf C.x d = o at hr
    rcases o with _ | p
    · obtain ⟨h1, h2, h3, rfl⟩ := hr
      simp at hb
      rcases hb with rfl | rfl | rfl | rfl
      · exact hA.lt
      · exact h1.lt
      · exact h2.lt
      · exact h3.lt
    · obtain ⟨Af, cf, Ac, cc, vb, css, bls, h1, h2, h3, h4, h5, h6, rfl⟩ := hr
      rcases List.mem_append.1 hb with hb | hb
      · simp at hb
        rcases hb with rfl | rfl | rfl | rfl
        · exact hA.lt
        · exact h1.lt
        · exact h2.lt
        · exact h3.lt
      · rcases List.mem_append.1 hb with hb | hb
        · exact (h4.lt b (mem_obl.1 hb)).2
        · rcases List.mem_append.1 hb with hb | hb
          · exact (h5.lt b (mem_obl.1 hb)).2
          · exact (h6.2.2.2 b hb).2
theorem CanC.Q_sub {C : CanC} {w : World} {d : List (List Int)} {bl : List Nat} (h : C.Q w d bl) : ∀ g ∈ [C.ga, C.gf, C.gc, C.gb], g ∈ bl := by
  obtain ⟨rl, rfl, -, -, -, -, hr⟩ := h
  intro g hg
  refine List.mem_append_right _ ?_
  generalize bestOf C.x d = o at hr
  rcases o with _ | p
  · obtain ⟨-, -, -, rfl⟩ := hr
    exact hg
  · obtain ⟨Af, cf, Ac, cc, vb, css, bls, h1, h2, h3, h4, h5, h6, rfl⟩ := hr
    exact List.mem_append_left _ hg
theorem CanC.Q_stab {C : CanC} {w w' : World} {d : List (List Int)} {bl : List Nat} (h : C.Q w d bl) (hz : w.heap.size ≤ w'.heap.size) (hs : ∀ b ∈ bl, w'.heap[b]? = w.heap[b]?) : C.Q w' d bl := by
  have hsub := C.Q_sub h
  obtain ⟨rl, rfl, h1, h2, hA, hp, hr⟩ := h
  exact ⟨rl, rfl, fun b hb => (hs b (List.mem_append_left _ (List.mem_range.2 hb))).trans (h1 b hb), Nat.le_trans h2 hz, (hs _ (hsub C.ga (by simp))).trans hA, hp, CanC.rest_stab hr hz fun b hb => hs b (List.mem_append_right _ hb)⟩
theorem CanC.Q_rd {C : CanC} {w : World} {d : List (List Int)} {bl : List Nat} (hC : C.Ok) (h : C.Q w d bl) : shAlgebra.rd w [.int .i64 (C.n : Int), .slice C.B C.m C.d] C.x := by
  obtain ⟨rl, rfl, h1, -, -, -, -⟩ := h
  exact shAlgebra.stab hC.rd h1
/-- A new best one, laid behind w. -/
theorem CanC.rest_new {C : CanC} (hC : C.Ok) {w w' : World} {p : List Int} {Af : Option Addr} {cf : Nat} {Ac : Option Addr} {cc : Nat} {vb : Value} {css : List (List Value)} {bls : List (List Nat)} {d : List (List Int)} {bl : List Nat}
    (h : C.Q w d bl) (hp : PermL C.n p) (hz : w.heap.size ≤ w'.heap.size) (hfar : ∀ b < w.heap.size, b ∉ [C.gf, C.gc, C.gb] → w'.heap[b]? = w.heap[b]?)
    (h1 : Blk w' C.gf 38 #[.slice Af C.n cf]) (h2 : Blk w' C.gc 38 #[.slice Ac C.CL cc]) (h3 : Blk w' C.gb 26 #[.int .i64 (C.n : Int), vb])
    (h4 : w'.ownsRow w.heap.size 3 1 (.slice Af C.n cf) C.n (ints p)) (h5 : w'.ownsRow w.heap.size 3 1 (.slice Ac C.CL cc) C.CL (ints (codeL (ren C.x p).2))) (h6 : PO w.heap.size w' vb (ren C.x p).2 css bls)
    (hbest : bestOf C.x (d ++ [p]) = some p) : ∃ bl', C.Q w' (d ++ [p]) bl' ∧ ∀ b ∈ bl', b ∈ bl ∨ w.heap.size ≤ b := by
  have hsub := C.Q_sub h
  obtain ⟨rl, rfl, g1, g2, hA, gp, hr⟩ := h
  have hga : C.ga ∉ [C.gf, C.gc, C.gb] := by
    have := hC.dist
    simp
    exact ⟨this.2.2.2.2.1, this.2.2.2.2.2, this.2.2.2.1⟩
  refine ⟨List.range C.wL.heap.size ++ ([C.ga, C.gf, C.gc, C.gb] ++ (obl (.slice Af C.n cf) ++ (obl (.slice Ac C.CL cc) ++ (obl vb ++ bls.flatten)))), ⟨_, rfl, fun b hb => ?_, Nat.le_trans g2 hz, (hfar _ hA.lt hga).trans hA, fun q hq => ?_, ?_⟩, fun b hb => ?_⟩
  · refine (hfar b (by omega) fun hh => ?_).trans (g1 b hb)
    have := hC.ge
    simp at hh
    omega
  · rw [List.mem_append] at hq
    rcases hq with hq | hq
    · exact gp q hq
    · rw [List.mem_singleton] at hq
      rw [hq]
      exact hp
  · rw [hbest]
    exact ⟨Af, cf, Ac, cc, vb, css, bls, h1, h2, h3, own_mono h4 g2, own_mono h5 g2, h6.mono g2, rfl⟩
  · rcases List.mem_append.1 hb with hb | hb
    · exact .inl (List.mem_append_left _ hb)
    · rcases List.mem_append.1 hb with hb | hb
      · exact .inl (hsub b hb)
      · rcases List.mem_append.1 hb with hb | hb
        · exact .inr (h4.lt b (mem_obl.1 hb)).1
        · rcases List.mem_append.1 hb with hb | hb
          · exact .inr (h5.lt b (mem_obl.1 hb)).1
          · exact .inr (h6.2.2.2 b hb).1
theorem CanC.rest_keep {C : CanC} {w w' : World} {p : List Int} {d : List (List Int)} {bl : List Nat} (h : C.Q w d bl) (hp : PermL C.n p) (hb : Below w.heap.size w w') (hbest : bestOf C.x (d ++ [p]) = bestOf C.x d) : C.Q w' (d ++ [p]) bl := by
  have hlt := C.Q_lt h
  obtain ⟨rl, e, g1, g2, hA, gp, hr⟩ := C.Q_stab h hb.size fun b hb' => hb.block b (hlt b hb')
  refine ⟨rl, e, g1, g2, hA, fun q hq => ?_, by rw [hbest]; exact hr⟩
  rw [List.mem_append] at hq
  rcases hq with hq | hq
  · exact gp q hq
  · rw [List.mem_singleton] at hq
    rw [hq]
    exact hp
theorem own_some {w : World} {base n c : Nat} {e : TypeId} {A : Option Addr} {xs : List Value} (h : w.ownsRow base e 1 (.slice A n c) n xs) (hn : n ≠ 0) : ∃ g, A = some ⟨g, 0, none⟩ ∧ base ≤ g ∧ g < w.heap.size := by
  rcases h.2 with ⟨-, h0⟩ | ⟨g, cap, cur, hv, -⟩
  · exact absurd h0 hn
  · injection hv with hv
    subst hv
    exact ⟨g, rfl, h.lt g rfl⟩
theorem CanC.finish {C : CanC} (hC : C.Ok) {w w4 : World} {d : List (List Int)} {bl : List Nat} {p : List Int} (hQ : C.Q w d bl) (hp : PermL C.n p) (T4 : Below w.heap.size w w4) {a b u1 u2 : Value} {Af : Option Addr} {cf : Nat} {Ac : Option Addr} {cc : Nat} {v : Value} {css : List (List Value)} {bls : List (List Nat)}
    (BU : Blk w4 C.gf 38 #[a]) (BC : Blk w4 C.gc 38 #[b]) (BB : Blk w4 C.gb 26 #[u1, u2])
    (h4 : w4.ownsRow w.heap.size 3 1 (.slice Af C.n cf) C.n (ints p)) (h5 : w4.ownsRow w.heap.size 3 1 (.slice Ac C.CL cc) C.CL (ints (codeL (ren C.x p).2))) (h6 : PO w.heap.size w4 v (ren C.x p).2 css bls)
    (hbest : bestOf C.x (d ++ [p]) = some p) :
    ∃ bl', C.Q ((((w4.setCell ⟨C.gb, 0, none⟩ (.int .i64 (C.n : Int))).setCell ⟨C.gb, 1, none⟩ v).setCell ⟨C.gc, 0, none⟩ (.slice Ac C.CL cc)).setCell ⟨C.gf, 0, none⟩ (.slice Af C.n cf)) (d ++ [p]) bl' ∧
      ChgB [C.gf, C.gc, C.gb] w ((((w4.setCell ⟨C.gb, 0, none⟩ (.int .i64 (C.n : Int))).setCell ⟨C.gb, 1, none⟩ v).setCell ⟨C.gc, 0, none⟩ (.slice Ac C.CL cc)).setCell ⟨C.gf, 0, none⟩ (.slice Af C.n cf)) ∧ ∀ b ∈ bl', b ∈ bl ∨ w.heap.size ≤ b := by
  have hlt := CanC.Q_lt hQ
  have hsub := CanC.Q_sub hQ
  have l1 := hlt C.gf (hsub C.gf (by simp))
  have l2 := hlt C.gc (hsub C.gc (by simp))
  have l3 := hlt C.gb (hsub C.gb (by simp))
  obtain ⟨d1, d2, d3, -⟩ := hC.dist
  have fo : ∀ {e : TypeId} {size nn : Nat} {vv : Value} {xs : List Value} {ww : World} {g k : Nat} {u : Value}, ww.ownsRow w.heap.size e size vv nn xs → g < w.heap.size → (ww.setCell ⟨g, k, none⟩ u).ownsRow w.heap.size e size vv nn xs := fun {_ _ _ _ _ _ g _ _} h hg => own_set h (fun hh => by have h9 : w.heap.size ≤ g := (h.lt _ hh).1; omega) _
  have B3 : Blk ((w4.setCell ⟨C.gb, 0, none⟩ (.int .i64 (C.n : Int))).setCell ⟨C.gb, 1, none⟩ v) C.gb 26 #[.int .i64 (C.n : Int), v] := by simpa using (BB.set_ 0 (.int .i64 (C.n : Int))).set_ 1 v
  have C3 := (BC.far (p := ⟨C.gb, 0, none⟩) d3 (.int .i64 (C.n : Int))).far (p := ⟨C.gb, 1, none⟩) d3 v
  have F3 := (BU.far (p := ⟨C.gb, 0, none⟩) d2 (.int .i64 (C.n : Int))).far (p := ⟨C.gb, 1, none⟩) d2 v
  have B4 := B3.far (p := ⟨C.gc, 0, none⟩) d3.symm (.slice Ac C.CL cc)
  have C4 := C3.set_ 0 (.slice Ac C.CL cc)
  have F4 := F3.far (p := ⟨C.gc, 0, none⟩) d1 (.slice Ac C.CL cc)
  have B5 := B4.far (p := ⟨C.gf, 0, none⟩) d2.symm (.slice Af C.n cf)
  have C5 := C4.far (p := ⟨C.gf, 0, none⟩) d1.symm (.slice Af C.n cf)
  have F5 := F4.set_ 0 (.slice Af C.n cf)
  have hfar : ∀ b < w.heap.size, b ∉ [C.gf, C.gc, C.gb] → ((((w4.setCell ⟨C.gb, 0, none⟩ (.int .i64 (C.n : Int))).setCell ⟨C.gb, 1, none⟩ v).setCell ⟨C.gc, 0, none⟩ (.slice Ac C.CL cc)).setCell ⟨C.gf, 0, none⟩ (.slice Af C.n cf)).heap[b]? = w.heap[b]? := by
    intro b hb hn
    simp at hn
    rw [Below.heap_setCell _ ⟨C.gf, 0, none⟩ _ b hn.1, Below.heap_setCell _ ⟨C.gc, 0, none⟩ _ b hn.2.1, Below.heap_setCell _ ⟨C.gb, 1, none⟩ _ b hn.2.2, Below.heap_setCell _ ⟨C.gb, 0, none⟩ _ b hn.2.2]
    exact T4.block b hb
  obtain ⟨bl', h7, h8⟩ := CanC.rest_new hC hQ hp (w' := (((w4.setCell ⟨C.gb, 0, none⟩ (.int .i64 (C.n : Int))).setCell ⟨C.gb, 1, none⟩ v).setCell ⟨C.gc, 0, none⟩ (.slice Ac C.CL cc)).setCell ⟨C.gf, 0, none⟩ (.slice Af C.n cf)) (by simpa using T4.size) hfar (by simpa using F5) (by simpa using C5) B5
    (fo (fo (fo (fo h4 l3) l3) l2) l1) (fo (fo (fo (fo h5 l3) l3) l2) l1) ((((h6.far (p := ⟨C.gb, 0, none⟩) l3 _).far (p := ⟨C.gb, 1, none⟩) l3 _).far (p := ⟨C.gc, 0, none⟩) l2 _).far (p := ⟨C.gf, 0, none⟩) l1 _) hbest
  exact ⟨bl', h7, ⟨T4.os, T4.tape, T4.output, by simpa using T4.size, hfar⟩, h8⟩
theorem nil_eq0 (w : World) : Sem.run Try.prog (binOp BinOp.eql 38 (.slice none 0 0) (.slice none 0 0)) w = .ok (.bool true) w := rfl
theorem nil_eq1 (p : Addr) (n c : Nat) (w : World) : Sem.run Try.prog (binOp BinOp.eql 38 (.slice (some p) n c) (.slice none 0 0)) w = .ok (.bool false) w := rfl
theorem canClo_any (C : CanC) (hC : C.Ok) (w : World) (d : List (List Int)) (bl : List Nat) (N : Option Addr) (c : Nat) (p : List Int) (hQ : C.Q w d bl) (hR : RdL RI w N C.n p) (hp : PermL C.n p) :
    Calls Try.prog 60 #[.slice N C.n c, .pointer (some ⟨C.ga, 0, none⟩), .pointer (some ⟨C.gf, 0, none⟩), .pointer (some ⟨C.gc, 0, none⟩), .pointer (some ⟨C.gb, 0, none⟩)] w
      fun e w' => e = .returned (.tuple #[]) ∧ ∃ bl', C.Q w' (d ++ [p]) bl' ∧ ChgB [C.gf, C.gc, C.gb] w w' ∧ ∀ b ∈ bl', b ∈ bl ∨ w.heap.size ≤ b := by
  have hrd := CanC.Q_rd hC hQ
  have HQ := Lib.hid hQ
  have HCK := Lib.hid hC
  obtain ⟨rl, -, -, hwz, hA, hdp, hrest⟩ := hQ
  obtain ⟨o, HO⟩ : ∃ o, Hid (bestOf C.x d = o) := ⟨_, rfl⟩
  rw [HO.out] at hrest
  obtain ⟨x, n, CL, B, m, dd, wL, ga, gf, gc, gb⟩ := C
  have hn1 : x.1 = (n : Int) := hC.hn
  have hp' : PermL x.1.toNat p := by rw [hn1]; simpa using hp
  have hsm : SmallP x := hC.small
  have hsm1 := hsm.1
  have hsm2 := hsm.2.1
  have hn0 : n ≠ 0 := by omega
  have hn5 : n ≤ 5 := by omega
  have HLEN : Hid ((codeL (ren x p).2).length = CL) := by show _ = _; rw [code_ren_len hsm hp']; exact hC.hCL
  have HCR : Hid (∀ y ∈ codeL (ren x p).2, InR y) := code_R (ren_small hp' hsm)
  have hCL : CL ≤ 1048576 := by rw [← HLEN.out]; exact code_small (ren_small hp' hsm)
  have cA0 : w.cell? ⟨ga, 0, none⟩ = some (.int .i64 (n : Int)) := by have := hA.cell 0; simpa using this
  have cA1 : w.cell? ⟨ga, 1, none⟩ = some (.slice B m dd) := by have := hA.cell 1; simpa using this
  have HREN : Hid (Calls Try.prog 49 #[.agg #[.int .i64 (n : Int), .slice B m dd], .slice N n c] w (AlgE w (ren x p))) := rename_any [.int .i64 (n : Int), .slice B m dd] x N n c p w hrd hR hsm hp'
  have HSM := Lib.hid hsm
  have HP' := Lib.hid hp'
  have HPP : Hid (PermL n p) := hp
  clear hrd hp' hsm hsm1 hsm2 hp hdp hA
  go_enter Try.func60, Try.ntmps60
  go_wp2_with fail
  refine HREN.out.mono ?_
  rintro e w1 ⟨v, css, bls, rfl, hPO, hb1⟩
  have e1 : (ren x p).1 = (n : Int) := hn1
  rw [e1]
  obtain ⟨VA, vc, rfl⟩ := own_slice hPO.2.1
  obtain ⟨w2, hw2, T2, hs2, BX⟩ := boxes1 w1 #[.int .i64 (n : Int), .slice VA (ren x p).2.length vc] 26
  have HW2 := Lib.hid hw2
  have cX0 := BX.cell 0
  have cX1 := BX.cell 1
  simp at cX0 cX1
  rw [hw2] at cX0 cX1
  have hPO2 := hPO.next T2
  have hrd2 : shAlgebra.rd w2 [.int .i64 (n : Int), .slice VA (ren x p).2.length vc] (ren x p) := by
    have := hPO2.alg (a := (ren x p).1) (by rw [e1]; exact ⟨by omega, by omega⟩)
    rw [e1] at this
    have h9 : ((n : Int), (ren x p).2) = ren x p := by rw [← e1]
    rw [h9] at this
    exact this
  have T2w := below_next hb1 T2 rfl
  clear hw2 hs2 e1 cA0 cA1
  go_wp2_with fail
  rw [← HW2.out]
  refine (codeOf_any _ (ren x p) _ hrd2 (cnt_small (ren_small HP'.out HSM.out))).mono ?_
  rintro e w3 ⟨AC, cC, rfl, hoC, hb3⟩
  rw [HLEN.out] at hoC ⊢
  have T3 := below_next T2w hb3 rfl
  have hPO3 := hPO2.next hb3
  have BX3 := BX.next hb3
  have hR3 := hR.next stab_RI T3
  have RC := rd_of_own (R := RI) hoC (RI_ints HCR.out)
  have hnx : w1.heap.size ≠ gf ∧ w1.heap.size ≠ gc ∧ w1.heap.size ≠ gb := by
    have h1 := CanC.Q_lt HQ.out
    have h2 := CanC.Q_sub HQ.out
    have h3 := hb1.size
    refine ⟨fun e => ?_, fun e => ?_, fun e => ?_⟩
    · have := h1 gf (h2 gf (by simp))
      omega
    · have := h1 gc (h2 gc (by simp))
      omega
    · have := h1 gb (h2 gb (by simp))
      omega
  have HBS := Lib.hid (bestOf_snoc x d p)
  have d1 : gf ≠ gc := hC.dist.1
  have d2 : gf ≠ gb := hC.dist.2.1
  have d3 : gc ≠ gb := hC.dist.2.2.1
  have d1' : gc ≠ gf := d1.symm
  have d2' : gb ≠ gf := d2.symm
  have d3' : gb ≠ gc := d3.symm
  clear cX0 cX1 hrd2 hPO hPO2
  rcases o with _ | b
  · obtain ⟨BF0, BC0, BB0, -⟩ := hrest
    have BFr := Blk.next BF0 T3
    have BCr := Blk.next BC0 T3
    have BBr := Blk.next BB0 T3
    have cF : w3.cell? ⟨gf, 0, none⟩ = some (.slice none 0 0) := BFr.c0
    have HB2 : Hid (bestOf x (d ++ [p]) = some p) := by show _ = _; rw [HBS.out, show bestOf x d = none from HO.out]; rfl
    have he := nil_eq0
    have cX0 := BX3.cell 0
    have cX1 := BX3.cell 1
    simp at cX0 cX1
    have cB0 := BBr.cell 0
    have cB1 := BBr.cell 1
    have fB0 := BBr.frozen 0
    have fB1 := BBr.frozen 1
    have cC0 := BCr.c0
    have fC0 := BCr.frozen 0
    have fF0 := BFr.frozen 0
    simp at cB0 cB1
    go_wp2_with fail
    go_region_with (go_at_call 63; refine (clone_any _ _ _ p _ (by first | exact hR3 | exact hR3.drew stab_RI) (by omega)).mono ?_; rintro e w4 ⟨A4, c4, rfl, ho4, hbn⟩; have hb4 := below_next (Below.drew (Below.refl w3.heap.size w3)) hbn rfl; have BF4 := BFr.next hb4; have BC4 := BCr.next hb4; have BB4 := BBr.next hb4; have BX4 := BX3.next hb4; have xX0 := BX4.cell 0; have xX1 := BX4.cell 1; have xB0 := BB4.cell 0; have xB1 := BB4.cell 1; have yB0 := BB4.frozen 0; have yB1 := BB4.frozen 1; have xC0 := BC4.cell 0; have yC0 := BC4.frozen 0; have xF0 := BF4.cell 0; have yF0 := BF4.frozen 0; simp at xX0 xX1 xB0 xB1 xC0 xF0)
    all_goals
      have T4 := below_next T3 hb4 rfl
      have HF := Lib.hid (CanC.finish HCK.out HQ.out HPP.out T4 BF4 BC4 BB4 (own_mono ho4 (show w.heap.size ≤ w3.heap.size from T3.size)) (own_mono (own_next hoC hb4) (show w.heap.size ≤ w2.heap.size from T2w.size)) (hPO3.next hb4) HB2.out)
      (try simp only [Exit.inBlock, Exit.then])
      go_end0
      exact ⟨rfl, HF.out⟩
  · obtain ⟨Af, cf, Ac, cc, vb, cssb, blsb, BF0, BC0, BB0, hf0, hc0, -, -⟩ := hrest
    have BFr := Blk.next BF0 T3
    have BCr := Blk.next BC0 T3
    have BBr := Blk.next BB0 T3
    have hfr : w.ownsRow wL.heap.size 3 1 (.slice Af n cf) n (ints b) := hf0
    obtain ⟨fg, rfl, -, -⟩ := own_some hfr hn0
    have cF : w3.cell? ⟨gf, 0, none⟩ = some (.slice (some ⟨fg, 0, none⟩) n cf) := BFr.c0
    have cC : w3.cell? ⟨gc, 0, none⟩ = some (.slice Ac CL cc) := BCr.c0
    have he := nil_eq1
    have hbp : PermL n b := by
      obtain ⟨rl', -, -, -, -, hdp, -⟩ := HQ.out
      exact hdp b (best_mem HO.out)
    have hbp' : PermL x.1.toNat b := by rw [hn1]; simpa using hbp
    have hcR : ∀ y ∈ codeL (ren x b).2, InR y := code_R (ren_small hbp' HSM.out)
    have RB0 : RdL RI w Ac CL (codeL (ren x b).2) := rd_of_own (R := RI) (show w.ownsRow wL.heap.size 3 1 (.slice Ac CL cc) CL (ints (codeL (ren x b).2)) from hc0) (RI_ints hcR)
    have RB3 := RB0.next stab_RI T3
    have hlen2 : (codeL (ren x p).2).length = (codeL (ren x b).2).length := by rw [HLEN.out, RB0.len]
    have hll := lex_less hlen2
    obtain ⟨V, HV⟩ : ∃ V, Hid (lexL (codeL (ren x p).2) (codeL (ren x b).2) = V) := ⟨_, rfl⟩
    rw [HV.out] at hll
    have HBB : Hid (bestOf x (d ++ [p]) = if lessL (codeL (ren x p).2) (codeL (ren x b).2) then some p else some b) := by show _ = _; rw [HBS.out, show bestOf x d = some b from HO.out]; rfl
    by_cases hv : V < 0
    · have HB2 : Hid (bestOf x (d ++ [p]) = some p) := by show _ = _; rw [HBB.out, hll.1 hv]; rfl
      clear hbp hbp' hcR RB0 hlen2 hll hf0 hc0 hfr
      go_wp2_with (go_at_call 62; refine (compareLists_any _ _ _ _ _ _ _ _ _ RC RB3).mono ?_; rintro e w' ⟨rfl, z, rfl⟩; rw [HV.out])
      have T5 := below_drewN T3 z
      have hR4 := hR3.drewN stab_RI z
      have BX5 := BX3.drewN z
      have BF5 := BFr.drewN z
      have BC5 := BCr.drewN z
      have BB5 := BBr.drewN z
      have hoC5 := own_drewN hoC z
      have hPO5 := hPO3.next (below_drewN (Below.refl w3.heap.size w3) z)
      obtain ⟨w5, hw5⟩ : ∃ w5, w5 = w3.drewN z := ⟨_, rfl⟩
      rw [← hw5] at T5 hR4 BX5 BF5 BC5 BB5 hoC5 hPO5 ⊢
      clear hw5 cF cC
      have cX0 := BX5.cell 0
      have cX1 := BX5.cell 1
      simp at cX0 cX1
      have cB0 := BB5.cell 0
      have cB1 := BB5.cell 1
      have fB0 := BB5.frozen 0
      have fB1 := BB5.frozen 1
      have cC0 := BC5.c0
      have fC0 := BC5.frozen 0
      have fF0 := BF5.frozen 0
      simp at cB0 cB1
      go_wp2_with fail
      go_region_with (go_at_call 63; refine (clone_any _ _ _ p _ (by first | exact hR4 | exact hR4.drew stab_RI) (by omega)).mono ?_; rintro e w4 ⟨A4, c4, rfl, ho4, hbn⟩; have hb4 := below_next (Below.drew (Below.refl w5.heap.size w5)) hbn rfl; have BF4 := BF5.next hb4; have BC4 := BC5.next hb4; have BB4 := BB5.next hb4; have BX4 := BX5.next hb4; have xX0 := BX4.cell 0; have xX1 := BX4.cell 1; have xB0 := BB4.cell 0; have xB1 := BB4.cell 1; have yB0 := BB4.frozen 0; have yB1 := BB4.frozen 1; have xC0 := BC4.cell 0; have yC0 := BC4.frozen 0; have xF0 := BF4.cell 0; have yF0 := BF4.frozen 0; simp at xX0 xX1 xB0 xB1 xC0 xF0)
      all_goals
        have T4 := below_next T5 hb4 rfl
        have HF := Lib.hid (CanC.finish HCK.out HQ.out HPP.out T4 BF4 BC4 BB4 (own_mono ho4 (show w.heap.size ≤ w5.heap.size from T5.size)) (own_mono (own_next hoC5 hb4) (show w.heap.size ≤ w2.heap.size from T2w.size)) (hPO5.next hb4) HB2.out)
        (try simp only [Exit.inBlock, Exit.then])
        go_end0
        exact ⟨rfl, HF.out⟩
    · have HB2 : Hid (bestOf x (d ++ [p]) = bestOf x d) := by
        show _ = _
        rw [HBB.out, show bestOf x d = some b from HO.out]
        rcases hl : lessL (codeL (ren x p).2) (codeL (ren x b).2) with _ | _
        · rfl
        · exact absurd (hll.2 hl) hv
      clear hbp hbp' hcR RB0 hlen2 hll hf0 hc0 hfr
      go_wp2_with (go_at_call 62; refine (compareLists_any _ _ _ _ _ _ _ _ _ RC RB3).mono ?_; rintro e w' ⟨rfl, z, rfl⟩; rw [HV.out])
      have T5 := below_drewN T3 z
      (try simp only [Exit.inBlock, Exit.then])
      go_end0
      exact ⟨rfl, bl, CanC.rest_keep HQ.out HPP.out T5 HB2.out, ChgB.ofBelow T5, fun b hb => .inl hb⟩
theorem res_row_tmpC {P : Program} {fn : Func} {p u : Tmp} {ty : TypeId} (h : fn.results = #[.cell p ty, .tmp u]) (tmps : Array Value) (w : World) (g : Nat) (t : TypeId) (cs : Array Value) (fr : Nat × Nat) (d : TypeDesc) (b : Value)
    (hp : tmps.getD p undef = .pointer (some ⟨g, 0, none⟩)) (hg : w.heap[g]? = some (.cells cs t fr))
    (hu : P.underlying ty = some d) (hd : (match d with | .struct _ | .array _ _ => true | _ => false) = true) (hi : (P.info? ty).map (·.size) = some cs.size) (hb : tmps.getD u undef = b) :
    (results fn tmps).run P w = .ok (.tuple #[.agg cs, b]) w := by
  rw [results_cell_tmp h, hp, hb]
  simp [asAddr, Result.andThen, run_loadVar_row w g t ty cs fr d hg hu hd hi]
/-- The canonical form and names handed back. -/
def CanE (w : World) (x : AlgebraM) (n : Nat) (e : Ending) (w' : World) : Prop := ∃ vb css bls Af cf, e = .returned (.tuple #[.agg #[.int .i64 (n : Int), vb], .slice Af n cf]) ∧ PO w.heap.size w' vb (canA x).2 css bls ∧ w'.ownsRow w.heap.size 3 1 (.slice Af n cf) n (ints (canN x)) ∧ Below w.heap.size w w'
theorem PO.notin {lo : Nat} {w : World} {v : Value} {xs : List OpM} {css : List (List Value)} {bls : List (List Nat)} (h : PO lo w v xs css bls) {g : Nat} {t : TypeId} {cs : Array Value} (hB : Blk w g t cs) (h1 : 72 ≠ t) (h2 : 3 ≠ t) : g ∉ obl v ++ bls.flatten := by
  intro hg
  rcases List.mem_append.1 hg with hg | hg
  · obtain ⟨cur, fr, hc⟩ := row_blk h.2.1 hg
    rw [hB] at hc
    injection hc with hc
    injection hc with _ h5
    exact h1 h5.symm
  · obtain ⟨bk, hbk, hb⟩ := List.mem_flatten.1 hg
    obtain ⟨k, hk⟩ := List.getElem?_of_mem hbk
    have hkl := (List.getElem?_eq_some_iff.1 hk).1
    have e1 := h.1.l1
    have e2 := h.1.l2
    obtain ⟨cur, fr, hc⟩ := shOp_blk (h.1.el k _ _ bk (List.getElem?_eq_getElem (by omega)) (List.getElem?_eq_getElem (by omega)) hk) hb
    rw [hB] at hc
    injection hc with hc
    injection hc with _ h5
    exact h2 h5.symm
theorem PO.farB {lo : Nat} {w : World} {v : Value} {xs : List OpM} {css : List (List Value)} {bls : List (List Nat)} (h : PO lo w v xs css bls) {g : Nat} {k : Nat} {u : Value} (hg : g ∉ obl v ++ bls.flatten) : PO lo (w.setCell ⟨g, k, none⟩ u) v xs css bls :=
  h.same (by simp) fun b hb => Below.heap_setCell w ⟨g, k, none⟩ u b fun e => hg (by rw [← show b = g from e]; exact hb)
theorem canEnter (args : Array Value) (w : World) : (callFunc 60 args).run Try.prog w = .ok (.enter 60 args) w := rfl
theorem canonical_any (cs : List Value) (x : AlgebraM) (n : Nat) (w : World) (h : shAlgebra.rd w cs x) (hx : SmallP x) (hn : x.1 = (n : Int)) :
    Calls Try.prog 30 #[.agg cs.toArray] w (CanE w x n) := by
  have hrd := h
  obtain ⟨B, m, d, rfl, qs, qo⟩ := rdAlgebra h
  rw [hn] at hrd qs ⊢
  have hn5 : n ≤ 5 := by have h1 := hx.2.1; omega
  obtain ⟨w5, hw5⟩ : ∃ w5, w5 = ((((w.alloc (.cells #[.int .i64 (n : Int), .slice B m d] 26)).alloc (.cells #[.int .i64 0, .slice none 0 0] 26)).alloc (.cells #[.int .i64 0, .slice none 0 0] 26)).alloc (.cells #[.slice none 0 0] 38)).alloc (.cells #[.slice none 0 0] 38) := ⟨_, rfl⟩
  have T5 : Below w.heap.size w w5 := by
    rw [hw5]
    exact (below_box4 w _ _ _ _).alloc (by simp; omega) _
  have hz5 : w5.heap.size = w.heap.size + 5 := by rw [hw5]; simp
  have BA : Blk w5 w.heap.size 26 #[.int .i64 (n : Int), .slice B m d] := by
    rw [hw5]
    exact ((((Blk.new w 26 #[.int .i64 (n : Int), .slice B m d]).alloc _).alloc _).alloc _).alloc _
  have BR : Blk w5 (w.heap.size + 1) 26 #[.int .i64 0, .slice none 0 0] := by
    rw [hw5]
    have := (((Blk.new (w.alloc (.cells #[.int .i64 (n : Int), .slice B m d] 26)) 26 #[.int .i64 0, .slice none 0 0]).alloc (.cells #[.int .i64 0, .slice none 0 0] 26)).alloc (.cells #[.slice none 0 0] 38)).alloc (.cells #[.slice none 0 0] 38)
    simpa using this
  have BB : Blk w5 (w.heap.size + 1 + 1) 26 #[.int .i64 0, .slice none 0 0] := by
    rw [hw5]
    have := ((Blk.new ((w.alloc (.cells #[.int .i64 (n : Int), .slice B m d] 26)).alloc (.cells #[.int .i64 0, .slice none 0 0] 26)) 26 #[.int .i64 0, .slice none 0 0]).alloc (.cells #[.slice none 0 0] 38)).alloc (.cells #[.slice none 0 0] 38)
    simpa using this
  have BC : Blk w5 (w.heap.size + 1 + 1 + 1) 38 #[.slice none 0 0] := by
    rw [hw5]
    have := (Blk.new (((w.alloc (.cells #[.int .i64 (n : Int), .slice B m d] 26)).alloc (.cells #[.int .i64 0, .slice none 0 0] 26)).alloc (.cells #[.int .i64 0, .slice none 0 0] 26)) 38 #[.slice none 0 0]).alloc (.cells #[.slice none 0 0] 38)
    simpa using this
  have BU : Blk w5 (w.heap.size + 1 + 1 + 1 + 1) 38 #[.slice none 0 0] := by
    rw [hw5]
    have := Blk.new ((((w.alloc (.cells #[.int .i64 (n : Int), .slice B m d] 26)).alloc (.cells #[.int .i64 0, .slice none 0 0] 26)).alloc (.cells #[.int .i64 0, .slice none 0 0] 26)).alloc (.cells #[.slice none 0 0] 38)) 38 #[.slice none 0 0]
    simpa using this
  obtain ⟨C, hCd⟩ : ∃ C : CanC, C = { x := x, n := n, CL := (codeL x.2).length, B := B, m := m, d := d, wL := w, ga := w.heap.size, gf := w.heap.size + 1 + 1 + 1 + 1, gc := w.heap.size + 1 + 1 + 1, gb := w.heap.size + 1 + 1 } := ⟨_, rfl⟩
  have hC : C.Ok := by
    subst hCd
    exact ⟨hrd, hx, hn, rfl, ⟨by show w.heap.size + 1 + 1 + 1 + 1 ≠ w.heap.size + 1 + 1 + 1; omega, by show w.heap.size + 1 + 1 + 1 + 1 ≠ w.heap.size + 1 + 1; omega, by show w.heap.size + 1 + 1 + 1 ≠ w.heap.size + 1 + 1; omega, by show w.heap.size ≠ w.heap.size + 1 + 1; omega, by show w.heap.size ≠ w.heap.size + 1 + 1 + 1 + 1; omega, by show w.heap.size ≠ w.heap.size + 1 + 1 + 1; omega⟩, ⟨by show w.heap.size ≤ w.heap.size; omega, by show w.heap.size ≤ w.heap.size + 1 + 1 + 1 + 1; omega, by show w.heap.size ≤ w.heap.size + 1 + 1 + 1; omega, by show w.heap.size ≤ w.heap.size + 1 + 1; omega⟩⟩
  have hQ5 : C.Q w5 [] (List.range w.heap.size ++ [w.heap.size, w.heap.size + 1 + 1 + 1 + 1, w.heap.size + 1 + 1 + 1, w.heap.size + 1 + 1]) := by
    subst hCd
    exact ⟨_, rfl, fun b hb => T5.block b hb, T5.size, BA, (fun p hp => by simp at hp), BU, BC, BB, rfl⟩
  have hF : FoundOk (ords C.n C.n []).length C.n 60 #[.pointer (some ⟨C.ga, 0, none⟩), .pointer (some ⟨C.gf, 0, none⟩), .pointer (some ⟨C.gc, 0, none⟩), .pointer (some ⟨C.gb, 0, none⟩)] C.Q := by
    refine ⟨canEnter, fun h1 h2 h3 => CanC.Q_stab h1 h2 h3, fun h1 => CanC.Q_lt h1, fun w1 d1 bl N c p _ h1 h2 h3 => ?_⟩
    refine (canClo_any C hC w1 d1 bl N c p h1 h2 h3).mono fun e w' ⟨e1, bl', e2, e3, e4⟩ => ⟨e1, bl', e2, e3.mono fun g hg => CanC.Q_sub h1 g (List.mem_cons_of_mem _ hg), e4⟩
  have HC : Hid (Calls Try.prog 59 #[.int .i64 (n : Int), .func (.func 60) #[] #[.pointer (some ⟨w.heap.size, 0, none⟩), .pointer (some ⟨w.heap.size + 1 + 1 + 1 + 1, 0, none⟩), .pointer (some ⟨w.heap.size + 1 + 1 + 1, 0, none⟩), .pointer (some ⟨w.heap.size + 1 + 1, 0, none⟩)]] w5
      (fun e w' => e = .returned (.tuple #[]) ∧ ∃ bl', C.Q w' (ords n n []) bl' ∧ ChgB (List.range w.heap.size ++ [w.heap.size, w.heap.size + 1 + 1 + 1 + 1, w.heap.size + 1 + 1 + 1, w.heap.size + 1 + 1]) w5 w')) := by
    have := eachOrder_any hF (by rw [hCd]; exact hn5) (Nat.le_refl _) w5 _ hQ5
    subst hCd
    exact this.mono fun e w' ⟨h1, bl', h2, h3, _⟩ => ⟨h1, bl', h2, h3⟩
  have cA0 := BA.cell 0
  simp at cA0
  rw [hw5] at cA0
  have HW5 := Lib.hid hw5
  have HT := Lib.hid (And.intro T5 (And.intro hz5 BR))
  have HCD := Lib.hid hCd
  have HNN : Hid (x.1.toNat = n) := by show _ = _; omega
  clear hw5 T5 hz5 BA BR BB BC BU hC hQ5 hF hCd h
  go_enter Try.func30, Try.ntmps30
  go_wp2_with fail
  rw [← HW5.out]
  refine HC.out.mono ?_
  rintro e w6 ⟨rfl, bl', hQ6, hc6⟩
  obtain ⟨T5, hz5, BR⟩ := HT.out
  have hcd := HCD.out
  subst hcd
  obtain ⟨rl, -, hsame, hsz, -, -, hrest⟩ := hQ6
  have hbest : bestOf x (ords n n []) = some (canN x) := by have := (canN_ok (x := x)).1; rw [HNN.out] at this; exact this
  have hrest' : CanC.rest { x := x, n := n, CL := (codeL x.2).length, B := B, m := m, d := d, wL := w, ga := w.heap.size, gf := w.heap.size + 1 + 1 + 1 + 1, gc := w.heap.size + 1 + 1 + 1, gb := w.heap.size + 1 + 1 } w6 (some (canN x)) rl := by rw [← hbest]; exact hrest
  obtain ⟨Af, cf, Ac, cc, vb, css, bls, h1, -, h3, h4, -, h6, -⟩ := hrest'
  replace h1 : Blk w6 (w.heap.size + 1 + 1 + 1 + 1) 38 #[.slice Af n cf] := h1
  replace h3 : Blk w6 (w.heap.size + 1 + 1) 26 #[.int .i64 (n : Int), vb] := h3
  replace h4 : w6.ownsRow w.heap.size 3 1 (.slice Af n cf) n (ints (canN x)) := h4
  replace h6 : PO w.heap.size w6 vb (ren x (canN x)).2 css bls := h6
  obtain ⟨VA, vc, rfl⟩ := own_slice h6.2.1
  have BR6 : Blk w6 (w.heap.size + 1) 26 #[.int .i64 0, .slice none 0 0] := (hc6.block _ BR.lt (by simp <;> omega)).trans BR
  have T6 : Below w.heap.size w w6 := ⟨hc6.os.trans T5.os, hc6.tape.trans T5.tape, hc6.output.trans T5.output, hsz, fun b hb => hsame b hb⟩
  obtain ⟨LA, HLA⟩ : ∃ LA, Hid ((ren x (canN x)).2.length = LA) := ⟨_, rfl⟩
  rw [HLA.out] at h6 h3
  have hni := h6.notin BR6 (by decide) (by decide)
  have hof := own_off h4 BR6 (by decide)
  have hPF := (h6.farB (k := 0) (u := .int .i64 (n : Int)) hni).farB (k := 1) (u := .slice VA LA vc) hni
  have hOF := own_set (own_set h4 (p := ⟨w.heap.size + 1, 0, none⟩) hof (.int .i64 (n : Int))) (p := ⟨w.heap.size + 1, 1, none⟩) hof (.slice VA LA vc)
  have hTF := (T6.setCell (p := ⟨w.heap.size + 1, 0, none⟩) (by show w.heap.size ≤ w.heap.size + 1; omega) (.int .i64 (n : Int))).setCell (p := ⟨w.heap.size + 1, 1, none⟩) (by show w.heap.size ≤ w.heap.size + 1; omega) (.slice VA LA vc)
  have BRR : Blk ((w6.setCell ⟨w.heap.size + 1, 0, none⟩ (.int .i64 (n : Int))).setCell ⟨w.heap.size + 1, 1, none⟩ (.slice VA LA vc)) (w.heap.size + 1) 26 #[.int .i64 (n : Int), .slice VA LA vc] := by simpa using ((BR6.set_ 0 (.int .i64 (n : Int))).set_ 1 (.slice VA LA vc))
  have HF1 := Lib.hid hPF
  have HF2 := Lib.hid hOF
  have HF3 := Lib.hid hTF
  have HF4 := Lib.hid BRR
  have cB0 := h3.cell 0
  have cB1 := h3.cell 1
  have cF0 := h1.c0
  have cR0 := BR6.cell 0
  have cR1 := BR6.cell 1
  have fR0 := BR6.frozen 0
  have fR1 := BR6.frozen 1
  simp at cB0 cB1 cR0 cR1
  clear h1 h3 h4 h6 BR6 T6 hni hof hPF hOF hTF BRR hrest hbest hsame T5 BR HC
  go_upto_region 4 with fail
  go_region
  all_goals
    go_wp2_with fail
    (try simp only [Exit.inBlock, Exit.then])
    refine bodyPost_ret (v := .tuple #[.agg #[.int .i64 (n : Int), .slice VA LA vc], .slice Af n cf]) (res_row_tmpC rfl _ _ (w.heap.size + 1) 26 #[.int .i64 (n : Int), .slice VA LA vc] (0, 0) _ _ (by simp) HF4.out.drew Try.underlying26 rfl (by kernel_rfl) rfl) rfl ?_
    exact ⟨_, css, bls, Af, cf, rfl, HF1.out.next (Below.drew (Below.refl _ _)), own_same HF2.out (fun _ _ => rfl), Below.drew HF3.out⟩
/-- A closed map handed back, a row of the call's own; or none. -/
def ClR (w : World) (n : Nat) (o : Option (List Int)) (e : Ending) (w' : World) : Prop := (∀ z, o = some z → ∃ g c', e = .returned (.tuple #[.slice (some ⟨g, 0, none⟩) n c', .bool true]) ∧ w'.ownsRow w.heap.size 3 1 (.slice (some ⟨g, 0, none⟩) n c') n (ints z)) ∧ (o = none → ∃ A k c', e = .returned (.tuple #[.slice A k c', .bool false])) ∧ Below w.heap.size w w'
theorem l7Close_any (cs ds : List Value) (x y : AlgebraM) (A0 : Option Addr) (n c : Nat) (f0 : List Int) (w : World) (h : shAlgebra.rd w cs x) (h' : shAlgebra.rd w ds y) (H : AlkP n x.2 y.2) (hn : x.1 = (n : Int)) (hn' : y.1 = (n : Int)) (hn8 : n ≤ 8) (hx4 : x.2.length ≤ 4) (hr : RdL RI w A0 n f0) (hf0 : PaM n f0) :
    Calls Try.prog 92 #[.agg cs.toArray, .agg ds.toArray, .slice A0 n c] w (ClR w n (cloS n x.2 y.2 f0)) := by
  obtain ⟨a, A⟩ := x
  obtain ⟨a', Bo⟩ := y
  simp only at H hn hn' hx4
  subst hn hn'
  have hn0 := H.pos
  have hrd := h
  have hrd' := h'
  obtain ⟨B1, m, d1, rfl, -, qo⟩ := rdAlgebra h
  obtain ⟨B2, m2, d2, rfl, -, qo'⟩ := rdAlgebra h'
  have HML : Hid (A.length = m) := qo.len
  have hmm : m2 = m := by rw [← qo'.len, ← qo.len]; have := congrArg List.length H.ty; simpa using this.symm
  subst hmm
  have hm4 : m2 ≤ 4 := by rw [← qo.len]; exact hx4
  have HH := Lib.hid H
  obtain ⟨w0, hw0, T0, hsz0, BP, BQ⟩ := boxes2 w #[.int .i64 (n : Int), .slice B1 m2 d1] #[.int .i64 (n : Int), .slice B2 m2 d2] 26 26
  have HW0 := Lib.hid hw0
  have HRD : Hid (∀ wz, Below w0.heap.size w0 wz → shAlgebra.rd wz [.int .i64 (n : Int), .slice B2 m2 d2] ((n : Int), Bo)) := fun wz hz => shAlgebra.stab (shAlgebra.stab hrd' T0.block) hz.block
  replace qo := qo.next T0
  replace qo' := qo'.next T0
  have cP0 := BP.cell 0
  have cP1 := BP.cell 1
  have cQ0 := BQ.cell 0
  have cQ1 := BQ.cell 1
  simp at cP0 cP1 cQ0 cQ1
  have HP0 := Lib.hid hf0
  have HO := Lib.hid (l1Own_any A0 n c f0 w0 (hr.next stab_RI T0) (by omega))
  clear hw0 hsz0 hx4 h h' hrd hrd' hf0 H hr
  go_enter Try.func92, Try.ntmps92
  go_upto_region 1 with fail
  rw [← HW0.out]
  go_wp2_with fail
  refine HO.out.mono ?_
  rintro e w1 ⟨A1, c1, rfl, ho1, hb1⟩
  have hl0 : f0.length = n := HP0.out.1
  (try rw [hl0] at ho1)
  obtain ⟨g, rfl, hga, hgb⟩ := own_some ho1 (by omega)
  have hown0 : w1.ownsRow w0.heap.size 3 1 (.slice (some ⟨g, 0, none⟩) n c1) n (ints f0) := ho1
  clear ho1 HO
  go_wp2_with fail
  go_loopw [9] (fun s1 wr => ∃ (fs : List Int) (ch : Bool), s1 = .bool ch ∧ Hid (PaM n fs) ∧ Hid (cloS n A Bo f0 = cloS n A Bo fs) ∧ Hid (ch = false → cloS n A Bo f0 = some fs) ∧ wr.ownsRow w0.heap.size 3 1 (.slice (some ⟨g, 0, none⟩) n c1) n (ints fs) ∧ Below w0.heap.size w0 wr) (fun s1 wr => 2 * opW wr g n + flgV s1)
  case atStart =>
    have h3 : Hid (true = false → cloS n A Bo f0 = some f0) := fun h => (by cases h)
    exact ⟨f0, true, rfl, HP0, Lib.hid rfl, h3, hown0, hb1⟩
  case round =>
    clear hown0 hb1
    obtain ⟨fs, ch, rfl, HP, HE, HC, hown, hTr⟩ := hrel
    have HMS : Hid (opW wr g n = opens fs) := opW_row hown HP.out.1
    rcases ch with _ | _
    · have HF : Hid (cloS n A Bo f0 = some fs) := HC.out rfl
      have hbs := T0.size
      go_wp2_with fail
      go_ret2
      exact ⟨(fun z hz => by rw [HF.out] at hz; injection hz with hz; subst hz; exact ⟨g, c1, rfl, own_mono hown hbs⟩), (fun hz => by rw [HF.out] at hz; cases hz), below_next T0 hTr rfl⟩
    · have HI0 : Hid (ClM n A Bo fs fs false 0 0) := ClM.begin_ HP.out
      clear HP HC
      go_wp2_with fail
      go_loopw [9, 10] (fun s1 i wr => ∃ (j : Nat) (f : List Int) (ch : Bool), j ≤ m2 ∧ i = .int .i64 j ∧ s1 = .bool ch ∧ Hid (ClM n A Bo fs f ch j 0) ∧ wr.ownsRow w0.heap.size 3 1 (.slice (some ⟨g, 0, none⟩) n c1) n (ints f) ∧ Below w0.heap.size w0 wr) (fun _ i _ => m2 - (intOf i).toNat)
      case atStart => exact ⟨0, fs, false, Nat.zero_le _, rfl, rfl, HI0, hown, hTr⟩
      case round =>
        clear hown hTr HI0
        obtain ⟨j, f, ch, hj, rfl, rfl, HI, hown, hTr⟩ := hrel
        have kP1 := keepc hTr cP1
        by_cases hlt : j < m2
        · have hj0 : (0 : Int) ≤ (j : Int) := by omega
          have hj1 : (j : Int) < (m2 : Int) := by omega
          obtain ⟨b, o, vs, op, rfl, -, hc, hr, -, hxo⟩ := qo.at hlt
          obtain ⟨b', o', vs', op', rfl, -, hc', hr', -, hxo'⟩ := qo'.at hlt
          obtain ⟨B4, m4, d4, rfl, -, qt⟩ := rdOp hr
          obtain ⟨B5, m5, d5, rfl, -, qt'⟩ := rdOp hr'
          obtain ⟨z1, z2, q1, q2, e1, e2, p1, p2, ht, -, -⟩ := HH.out.at (k := j) (by rw [HML.out]; exact hlt)
          rw [hxo] at q1
          rw [hxo'] at q2
          injection q1 with q1
          injection q2 with q2
          subst q1 q2
          obtain ⟨ar, tb, rfl, har⟩ := op_nat p1
          obtain ⟨ar', tb', rfl, -⟩ := op_nat p2
          obtain rfl : ar = ar' := by have h9 : (ar : Int) = (ar' : Int) := ht; omega
          have HE1 := Lib.hid e1
          have HE2 := Lib.hid e2
          have HXO2 := Lib.hid hxo'
          have hl4 : m4 = n ^ ar := by rw [← qt.len]; have := p1.2.2.1; simpa using this
          have hl5 : m5 = n ^ ar := by rw [← qt'.len]; have := p2.2.2.1; simpa using this
          obtain rfl : m5 = m4 := by omega
          have HTL := Lib.hid hl5
          have HTB : Hid (tb.length = m5) := qt.len
          have HTV := Lib.hid p1.2.2.2
          have HTV2 := Lib.hid p2.2.2.2
          have cc0 : w0.cell? ⟨b, o + j * 2, none⟩ = some (.int .i64 (ar : Int)) := hc 0 _ rfl
          have cc1 : w0.cell? ⟨b, o + j * 2 + 1, none⟩ = some (.slice B4 m5 d4) := hc 1 _ rfl
          have hm512 : m5 ≤ 4096 := by rw [hl5]; exact pow_bd hn8 (by omega)
          clear hc hr hc' hr' hxo hxo' p1 p2 e1 e2 hl4 hl5 ht
          go_wp2_with fail
          clear kP1
          go_loopw [9, 11] (fun s1 i wi => ∃ (q : Nat) (f : List Int) (ch : Bool), q ≤ m5 ∧ i = .int .i64 q ∧ s1 = .bool ch ∧ Hid (ClM n A Bo fs f ch j q) ∧ wi.ownsRow w0.heap.size 3 1 (.slice (some ⟨g, 0, none⟩) n c1) n (ints f) ∧ Below w0.heap.size w0 wi) (fun _ i _ => m5 - (intOf i).toNat)
          case atStart => exact ⟨0, f, ch, Nat.zero_le _, rfl, rfl, HI, hown, hTr⟩
          case round =>
            clear hown HI hTr
            obtain ⟨q, f, ch, hq, rfl, rfl, HI, hown, hTr⟩ := hrel
            have kP0 := keepc hTr cP0
            have kP1 := keepc hTr cP1
            have kc0 := keepc hTr cc0
            have kc1 := keepc hTr cc1
            by_cases hlq : q < m5
            · have hq0 : (0 : Int) ≤ (q : Int) := by omega
              have hq1 : (q : Int) < (m5 : Int) := by omega
              have HPF : Hid (PaM n f) := HI.out.gr.1
              have hqn : q < n ^ ar := by rw [← HTL.out]; exact hlq
              obtain ⟨b3, o3, u3, v, rfl, hc3, ⟨rfl, -, -⟩, -, hxv⟩ := (qt.next stab_RI hTr).at hlq
              have hvi := HTV.out v (List.mem_of_getElem? hxv)
              obtain ⟨Y, rfl⟩ := Int.eq_ofNat_of_zero_le hvi.1
              have hYn : Y < n := by omega
              have hrf : RdL RI wr (some ⟨g, 0, none⟩) n f := rd_of_own (R := RI) hown (RI_ints (pam_R HPF.out hn8))
              have HRF := Lib.hid hrf
              obtain ⟨D, HDS⟩ : ∃ l, Hid (digs n ar q = l) := ⟨_, Lib.hid rfl⟩
              have HDN : Hid (∀ dd ∈ D, dd < n) := fun dd hdd => by rw [← HDS.out] at hdd; exact digs_lt hn0 hdd
              have HDL : Hid (D.length = ar) := by show _ = _; rw [← HDS.out, digs_len]
              obtain ⟨sp, HSP⟩ : ∃ z, Hid (setP f D = z) := ⟨_, Lib.hid rfl⟩
              have HST : Hid (stepS n (A.getD j (0, [])) (Bo.getD j (0, [])) f q = if sp = true then (if gF f Y < 0 then some (f.set Y (tb'.getD (toI n ar f q) 0)) else if gF f Y = tb'.getD (toI n ar f q) 0 then some f else none) else some f) := by
                show _ = _
                rw [HE1.out, HE2.out]
                unfold stepS
                have hy : nmAt tb q = Y := by rw [nmAt_get hxv]; simp
                simp only [Int.toNat_natCast]
                rw [hy, HDS.out, HSP.out]
              have HTB2 : Hid (q < (A.getD j (0, [])).2.length) := by show _ < _; rw [HE1.out]; show q < tb.length; rw [HTB.out]; exact hlq
              have HA : Hid (∀ wz, Below wr.heap.size wr wz → Calls Try.prog 58 #[.int .i64 (n : Int), .int .i64 (ar : Int), .int .i64 (q : Int)] wz fun e w' => ∃ g, e = .returned (.slice (some ⟨g, 0, none⟩) ar ar) ∧ w'.ownsRow wz.heap.size 3 1 (.slice (some ⟨g, 0, none⟩) ar ar) ar (ints (nats D)) ∧ Below wz.heap.size wz w') := fun wz hz => by
                have := l2Args_any q ar n wz hn0 (by omega) (by omega) (by omega)
                rwa [HDS.out] at this
              obtain ⟨L, HL⟩ : ∃ l, Hid (D.map (gF f) = l) := ⟨_, Lib.hid rfl⟩
              have HLL : Hid (L.length = ar) := by show _ = _; rw [← HL.out, List.length_map, HDL.out]
              have HIM : Hid (∀ (g2 lo : Nat) (wz : World), Below wr.heap.size wr wz → wz.ownsRow lo 3 1 (.slice (some ⟨g2, 0, none⟩) ar ar) ar (ints (nats D)) → Calls Try.prog 97 #[.slice (some ⟨g, 0, none⟩) n c1, .slice (some ⟨g2, 0, none⟩) ar ar] wz fun e w' => ∃ A c, e = .returned (.slice A ar c) ∧ w'.ownsRow wz.heap.size 3 1 (.slice A ar c) ar (ints L) ∧ Below wz.heap.size wz w') := fun g2 lo wz hz ho => by
                have := l7Images2_any (some ⟨g, 0, none⟩) (some ⟨g2, 0, none⟩) n c1 ar ar f D wz (HRF.out.next stab_RI hz) HPF.out (rd_of_own (R := RI) ho (RI_ints fun v hv => by
                  obtain ⟨dd, hdd, rfl⟩ := List.mem_map.1 hv
                  have := HDN.out dd hdd
                  exact ⟨by omega, by omega⟩)) HDN.out (by omega) (by omega)
                rw [HL.out] at this
                refine this.mono ?_
                rintro e w' ⟨A, c, h1, h2, h3⟩
                rw [HLL.out] at h1 h2
                exact ⟨A, c, h1, h2, h3⟩
              have Tk : Below wr.heap.size wr wr := Below.refl _ _
              clear hxv hvi hrf
              go_upto_region 11 with fail
              go_cut [12] from 36 to 47 (fun u12 wx => ∃ A c, u12 = .slice A ar c ∧ wx.ownsRow wr.heap.size 3 1 (.slice A ar c) ar (ints L) ∧ Below wr.heap.size wr wx)
              case first =>
                go_region_held3 (fun w' => w'.cell? ⟨w.heap.size, 0, none⟩ = some (.int .i64 (n : Int)) ∧ w'.cell? ⟨w.heap.size, 1, none⟩ = some (.slice (some ⟨b, o, none⟩) m2 d1) ∧ w'.cell? ⟨b, o + j * 2, none⟩ = some (.int .i64 (ar : Int))) (first | go_keep | exact ⟨keepc Tk kP0, keepc Tk kP1, keepc Tk kc0⟩) (first
                  | (go_at_call 58; (with_reducible refine (HA.out _ ?_).mono ?_); (first | exact Tk | exact Below.drew Tk); rintro e wn ⟨g2, rfl, hon, hbn⟩; replace Tk := below_next (by first | exact Tk | exact Below.drew Tk) hbn rfl)
                  | (go_at_call 97; (with_reducible refine (HIM.out _ _ _ ?_ (by first | exact hon | exact hon.drew)).mono ?_); (first | exact Tk | exact Below.drew Tk); rintro e wm ⟨A9, c9, rfl, hom, hbm⟩; replace hom := own_mono hom (by first | exact Tk.size | exact (Below.drew Tk).size); replace Tk := below_next (by first | exact Tk | exact Below.drew Tk) hbm rfl))
                all_goals
                  have HON := Lib.hid hom
                  clear hom hon
                  go_wp2_with fail
                  go_meet
                  exact ⟨_, _, rfl, HON.out, by first | exact Tk | exact Below.drew Tk⟩
              case rest =>
                obtain ⟨A9, c9, rfl, hoL, hTc⟩ := hcut
                obtain ⟨w4, HWC⟩ : ∃ wq : World, wq = wc := ⟨_, rfl⟩
                subst HWC
                have T4 := below_next hTr hTc rfl
                have hown4 := own_next hown hTc
                have HLR : Hid (∀ x ∈ L, InR x) := fun x hx => by
                  rw [← HL.out] at hx
                  obtain ⟨dd, hdd, rfl⟩ := List.mem_map.1 hx
                  have := (HPF.out.at (HDN.out dd hdd)).2
                  exact ⟨by omega, by omega⟩
                have rL := rd_of_own (R := RI) hoL (RI_ints HLR.out)
                have HRL := Lib.hid rL
                have HHAS := Lib.hid (l1Has_any A9 ar c9 L (-1) w4 rL)
                have hho : hasI (-1) L = !sp := by rw [← HL.out, has_open HPF.out HDN.out, HSP.out]
                rw [hho] at HHAS
                clear hho rL hown hoL HA HIM Tk kP0 kc0
                rcases sp with _ | _
                · have HI2 : Hid (ClM n A Bo fs f ch j (q + 1)) := HI.out.keep (by rw [HST.out]; rfl)
                  clear HST
                  go_wp2_with fail
                  refine HHAS.out.mono ?_
                  rintro e w5 ⟨rfl, rfl⟩
                  go_wp2_with fail
                  go_roundw
                  case rel => exact ⟨q + 1, f, ch, by omega, by go_num, rfl, HI2, hown4, T4⟩
                  case measure => simp [intOf]; try omega
                · have hsp : setP f (digs n ar q) = true := by rw [HDS.out]; exact HSP.out
                  have hIMl : toI n ar f q < m5 := by rw [HTL.out]; exact set_lt hn0 HPF.out hsp
                  obtain ⟨b5, o5, u5, v5, rfl, hc5, ⟨rfl, -, -⟩, -, hx5⟩ := (qt'.next stab_RI T4).at hIMl
                  have hvi5 := HTV2.out v5 (List.mem_of_getElem? hx5)
                  obtain ⟨z, rfl⟩ := Int.eq_ofNat_of_zero_le hvi5.1
                  have hzn : z < n := by omega
                  have hgz : tb'.getD (toI n ar f q) 0 = (z : Int) := by rw [List.getD_eq_getElem?_getD, hx5]; rfl
                  rw [hgz] at HST
                  have HLN : Hid (L = nats (D.map (nmAt f))) := by show _ = _; rw [← HL.out]; exact set_nats HSP.out
                  have HDM : Hid (∀ d ∈ D.map (nmAt f), d < n) := fun d hd => by
                    obtain ⟨e, he, rfl⟩ := List.mem_map.1 hd
                    have h0 : 0 ≤ gF f e := by simpa using List.all_eq_true.1 HSP.out e he
                    have := (HPF.out.at (HDN.out e he)).2
                    rw [nm_gF h0]
                    omega
                  have HX5 : Hid (tb'[idx n (D.map (nmAt f))]? = some (z : Int)) := by show _ = _; rw [← hx5]; unfold toI; rw [HDS.out]
                  have HVA : Hid (∀ wz, Below w4.heap.size w4 wz → Calls Try.prog 98 #[.agg #[.int .i64 (n : Int), .slice (some ⟨b', o', none⟩) m2 d2], .int .i64 (j : Int), .slice A9 ar c9] wz (Bl wz (.int .i64 (z : Int)))) := fun wz hz => l2Value_any _ ((n : Int), Bo) A9 ar c9 j n ar z (D.map (nmAt f)) tb' wz (HRD.out wz (below_next T4 hz rfl)) rfl hn8 (by rw [← HLN.out]; exact HRL.out.next stab_RI hz) HDM.out (by omega) HXO2.out HX5.out
                  have hY0 : (0 : Int) ≤ (Y : Int) := by omega
                  have hY1 : (Y : Int) < (n : Int) := by omega
                  have kQ0 := keepc T4 cQ0
                  have kQ1 := keepc T4 cQ1
                  replace kP1 := keepc hTc kP1
                  replace kc1 := keepc hTc kc1
                  replace hc3 := keepc hTc hc3
                  have Tk : Below w4.heap.size w4 w4 := Below.refl _ _
                  clear hx5 hvi5 hgz hsp hc5
                  go_wp2_with fail
                  refine HHAS.out.mono ?_
                  rintro e w5 ⟨rfl, rfl⟩
                  go_upto_region 13 with fail
                  go_cut [13, 14] from 50 to 62 (fun u13 u14 wx => u13 = .int .i64 (Y : Int) ∧ u14 = .int .i64 (z : Int) ∧ Below w4.heap.size w4 wx)
                  case first =>
                    go_region_held3 (fun w' => w'.cell? ⟨w.heap.size, 1, none⟩ = some (.slice (some ⟨b, o, none⟩) m2 d1) ∧ w'.cell? ⟨w.heap.size + 1, 0, none⟩ = some (.int .i64 (n : Int)) ∧ w'.cell? ⟨w.heap.size + 1, 1, none⟩ = some (.slice (some ⟨b', o', none⟩) m2 d2) ∧ w'.cell? ⟨b, o + j * 2 + 1, none⟩ = some (.slice (some ⟨b3, o3, none⟩) m5 d4) ∧ w'.cell? ⟨b3, o3 + q, none⟩ = some (.int .i64 (Y : Int))) (first | go_keep | exact ⟨keepc Tk kP1, keepc Tk kQ0, keepc Tk kQ1, keepc Tk kc1, keepc Tk hc3⟩) (first
                      | (go_at_call 98; (with_reducible refine (HVA.out _ ?_).mono ?_); (first | exact Tk | exact Below.drew Tk); rintro e wn ⟨rfl, hbn⟩; replace Tk := below_next (by first | exact Tk | exact Below.drew Tk) hbn rfl))
                    all_goals
                      go_wp2_with fail
                      go_meet
                      exact ⟨rfl, rfl, by first | exact Tk | exact Below.drew Tk⟩
                  case rest =>
                    obtain ⟨rfl, rfl, hTd⟩ := hcut
                    obtain ⟨w6, HWD⟩ : ∃ wq : World, wq = wc := ⟨_, rfl⟩
                    subst HWD
                    have T6 := below_next T4 hTd rfl
                    have hown2 := own_next hown4 hTd
                    have hcl := par_cell hown2 (gF_at (f := f) (i := Y) (by rw [HPF.out.1]; exact hYn)) hYn
                    have hfz := hown2.frozenAt Y
                    have hVb := (HPF.out.at hYn).2
                    obtain ⟨V, HV⟩ : ∃ V, Hid (gF f Y = V) := ⟨_, Lib.hid rfl⟩
                    rw [HV.out] at hcl hVb HST
                    clear hown4 kP1 kc1 hc3 kQ0 kQ1 Tk HHAS HVA
                    by_cases hV : V < 0
                    · have hV2 : ¬ V ≥ 0 := by omega
                      have HI2 : Hid (ClM n A Bo fs (f.set Y (z : Int)) true j (q + 1)) := HI.out.put (by rw [HST.out, if_pos (by trivial), if_pos hV]) hYn (by rw [HV.out]; exact hV) (by omega) (by omega)
                      have hst := (hown2.stored Y (.int .i64 (z : Int))).1
                      rw [ints_set] at hst
                      have hT7 := T6.setCell (p := ⟨g, Y, none⟩) hga (.int .i64 (z : Int))
                      clear HST hown2
                      go_wp2_with fail
                      go_roundw
                      case rel => exact ⟨q + 1, _, true, by omega, by go_num, rfl, HI2, hst, hT7⟩
                      case measure => simp [intOf]; try omega
                    · have hV2 : V ≥ 0 := by omega
                      by_cases hVz : V = (z : Int)
                      · have hb : (V != (z : Int)) = false := by rw [hVz]; simp
                        have HI2 : Hid (ClM n A Bo fs f ch j (q + 1)) := HI.out.keep (by rw [HST.out, if_pos (by trivial), if_neg hV, if_pos hVz])
                        clear HST hVz
                        go_wp2_with fail
                        go_roundw
                        case rel => exact ⟨q + 1, f, ch, by omega, by go_num, rfl, HI2, hown2, T6⟩
                        case measure => simp [intOf]; try omega
                      · have hb : (V != (z : Int)) = true := bne_iff_ne.2 hVz
                        have HN : Hid (cloS n A Bo f0 = none) := by
                          show _ = _
                          rw [HE.out]
                          exact HI.out.fail (by rw [HST.out, if_pos (by trivial), if_neg hV, if_neg hVz]) HTB2.out (by rw [HML.out]; exact hlt)
                        clear HST hVz
                        go_wp2_with fail
                        go_ret2
                        exact ⟨(fun z hz => by rw [HN.out] at hz; cases hz), (fun _ => ⟨_, _, _, rfl⟩), below_next (below_next T0 T6 rfl) (below_box _ _) rfl⟩
            · have hq1 : ¬ (q : Int) < (m5 : Int) := by omega
              have HI2 : Hid (ClM n A Bo fs f ch (j + 1) 0) := HI.out.row (by rw [HE1.out]; show q = tb.length; rw [HTB.out]; omega)
              clear kP0 kc0
              go_wp2_with fail
              go_roundw
              case rel => exact ⟨j + 1, f, ch, by omega, by go_num, rfl, HI2, hown, hTr⟩
              case measure => simp [intOf]; try omega
        · have hj1 : ¬ (j : Int) < (m2 : Int) := by omega
          obtain rfl : j = m2 := by omega
          have HI3 : Hid (ClM n A Bo fs f ch A.length 0) := by rw [HML.out]; exact HI
          have HD := HI3.out.done HH.out
          have HF1 : Hid (cloS n A Bo f0 = cloS n A Bo f) := by show _ = _; rw [HE.out]; exact HD.1
          have HF2 : Hid (ch = false → cloS n A Bo f0 = some f) := fun hc => by rw [HE.out]; exact HD.2 hc
          have HPP : Hid (PaM n f) := HI.out.gr.1
          have HMS2 : Hid (opW wr g n = opens f) := opW_row hown HI.out.gr.1.1
          clear HD HI3
          go_wp2_with fail
          go_roundw
          case rel => exact ⟨f, ch, rfl, HPP, HF1, HF2, hown, hTr⟩
          case measure =>
            show 2 * opW wr g n + flgV (.bool ch) < 2 * opW _ g n + flgV (.bool true)
            rw [HMS2.out, HMS.out]
            rcases ch with _ | _
            · rw [HI.out.no rfl]
              show 2 * opens fs + 0 < 2 * opens fs + 1
              omega
            · have := HI.out.yes rfl
              show 2 * opens f + 1 < 2 * opens fs + 1
              omega
theorem ChgB.lay {l l' : List Nat} {a b c : World} (h : ChgB l a b) (k : ChgB l' b c) (hl : ∀ q ∈ l', q ∈ l ∨ a.heap.size ≤ q) : ChgB l a c :=
  ⟨k.os.trans h.os, k.tape.trans h.tape, k.output.trans h.output, Nat.le_trans h.size k.size, fun q hq hn => (k.block q (Nat.lt_of_lt_of_le hq h.size) fun hh => by
    rcases hl q hh with h1 | h1
    · exact hn h1
    · omega).trans (h.block q hq hn)⟩
theorem ChgB.low {l : List Nat} {wa a b : World} (h : ChgB l a b) (T : Below wa.heap.size wa a) (hl : ∀ q ∈ l, wa.heap.size ≤ q) : Below wa.heap.size wa b :=
  ⟨h.os.trans T.os, h.tape.trans T.tape, h.output.trans T.output, Nat.le_trans T.size h.size, fun q hq => (h.block q (Nat.lt_of_lt_of_le hq T.size) fun hh => by have := hl q hh; omega).trans (T.block q hq)⟩
theorem ChgB.gkS {g : Nat} {a b : World} (h : a.grownBy b (some g)) : ChgB [g] a b := ⟨h.os, h.tape, h.output, h.size, fun q hq hn => h.block q hq fun e => by injection e with e; exact hn (List.mem_singleton.2 e)⟩
theorem lay_in {g z : Nat} {bq bl : List Nat} (h : ∀ b ∈ bq, b ∈ bl ∨ z ≤ b) : ∀ b ∈ g :: bq, b ∈ g :: bl ∨ z ≤ b := fun b hb => by
  rcases List.mem_cons.1 hb with h1 | h1
  · exact .inl (h1 ▸ List.mem_cons_self ..)
  · rcases h b h1 with h2 | h2
    · exact .inl (List.mem_cons_of_mem _ h2)
    · exact .inr h2
theorem fresh_in {z z' : Nat} {b5 bq bl : List Nat} (h : ∀ b ∈ bq, b ∈ bl ∨ z ≤ b) (h5 : ∀ b ∈ b5, b ∈ bq ∨ z' ≤ b) (hz : z ≤ z') : ∀ b ∈ b5, b ∈ bl ∨ z ≤ b := fun b hb => by
  rcases h5 b hb with h1 | h1
  · exact h b h1
  · exact .inr (by omega)
structure FndOk (n most fid : Nat) (caps : Array Value) (lo : Nat) (Q : World → List (List Int) → List Nat → Prop) : Prop where
  enter : ∀ (args : Array Value) (w : World), (callFunc fid args).run Try.prog w = .ok (.enter fid args) w
  stab : ∀ {w w' : World} {d : List (List Int)} {bl : List Nat}, Q w d bl → w.heap.size ≤ w'.heap.size → (∀ b ∈ bl, w'.heap[b]? = w.heap[b]?) → Q w' d bl
  lt : ∀ {w : World} {d : List (List Int)} {bl : List Nat}, Q w d bl → ∀ b ∈ bl, b < w.heap.size
  low : ∀ {w : World} {d : List (List Int)} {bl : List Nat}, Q w d bl → ∀ b ∈ bl, lo ≤ b
  call : ∀ (w : World) (d : List (List Int)) (bl : List Nat) (A : Option Addr) (c : Nat) (p : List Int), d.length < most → Q w d bl → RdL RI w A n p → p.length = n →
    Calls Try.prog fid (#[.slice A n c] ++ caps) w fun e w' => e = .returned (.bool (decide (d.length + 1 < most))) ∧ ∃ bl', Q w' (d ++ [p]) bl' ∧ ChgB bl w w' ∧ ∀ b ∈ bl', b ∈ bl ∨ w.heap.size ≤ b
theorem FndOk.chg {n most fid : Nat} {caps : Array Value} {lo : Nat} {Q : World → List (List Int) → List Nat → Prop} (h : FndOk n most fid caps lo Q) {w w' : World} {d : List (List Int)} {bl l : List Nat} (hq : Q w d bl) (hc : ChgB l w w') (hn : ∀ b ∈ bl, b ∉ l) : Q w' d bl := h.stab hq hc.size fun b hb => hc.block b (h.lt hq b hb) (hn b hb)
theorem lop_over {n : Nat} {A B : List OpM} {most : Nat} {rec_ : List Int → SrS → SrS} {f : List Int} {p : Nat} {s : SrS} {k : Nat} (h : over most (lopS n A B most rec_ f p s k) = true) : ∀ j, k ≤ j → lopS n A B most rec_ f p s j = lopS n A B most rec_ f p s k
  | 0, hj => by obtain rfl : k = 0 := by omega
                rfl
  | j + 1, hj => by
    by_cases e : k = j + 1
    · rw [← e]
    · have ih := lop_over h j (by omega)
      show tryS n A B most rec_ f p (lopS n A B most rec_ f p s j) j = _
      unfold tryS
      rw [ih, if_pos h]
abbrev srcA (n m1 d1 m2 d2 : Nat) (B1 B2 : Option Addr) (t fid : Nat) (caps : Array Value) : Array Value := #[.int .i64 (n : Int), .slice B1 m1 d1, .int .i64 (n : Int), .slice B2 m2 d2, .bool true, .int .i64 (t : Int), .func (.func fid) #[] caps]
theorem extend_any {n most fid lo : Nat} {caps : Array Value} {Q : World → List (List Int) → List Nat → Prop} (hF : FndOk n most fid caps lo Q) (x y : AlgebraM) (gs : Nat) (B1 B2 : Option Addr) (m1 d1 m2 d2 : Nat) (wa : World) (h : shAlgebra.rd wa [.int .i64 (n : Int), .slice B1 m1 d1] x) (h' : shAlgebra.rd wa [.int .i64 (n : Int), .slice B2 m2 d2] y) (H : AlkP n x.2 y.2) (hn : x.1 = (n : Int)) (hn' : y.1 = (n : Int)) (hn8 : n ≤ 8) (hx4 : x.2.length ≤ 4) (hlo : wa.heap.size ≤ lo) (hgs : wa.heap.size ≤ gs) :
    ∀ (m ga c : Nat) (f : List Int) (bl : List Nat) (t : Nat) (F : List (List Int)) (w : World), Below wa.heap.size wa w → Blk w gs 91 (srcA n m1 d1 m2 d2 B1 B2 t fid caps) → Q w F bl → gs ∉ bl → w.ownsRow 0 3 1 (.slice (some ⟨ga, 0, none⟩) n c) n (ints f) → ga ∉ bl → PaM n f → opens f < m → t ≤ 5000 → F.length < most →
      Calls Try.prog 91 #[.pointer (some ⟨gs, 0, none⟩), .slice (some ⟨ga, 0, none⟩) n c] w fun e w' => ∃ bl', e = .returned (.bool (!over most (srch n x.2 y.2 most m f (t, F)))) ∧ Blk w' gs 91 (srcA n m1 d1 m2 d2 B1 B2 (srch n x.2 y.2 most m f (t, F)).1 fid caps) ∧ Q w' (srch n x.2 y.2 most m f (t, F)).2 bl' ∧ ChgB (gs :: bl) w w' ∧ ∀ b ∈ bl', b ∈ bl ∨ w.heap.size ≤ b
  | 0, ga, c, f, bl, t, F, w, _, _, _, _, _, _, _, hm, _, _ => absurd hm (by omega)
  | m + 1, ga, c, f, bl, t, F, w, hT, BS, hQ, hgb, hown, hgab, hf, hm, ht, hFl => by
    have ih := extend_any hF x y gs B1 B2 m1 d1 m2 d2 wa h h' H hn hn' hn8 hx4 hlo hgs m
    have HFIT := Lib.hid fun (g c base t : Nat) (f0 : List Int) (wz : World) (a1 : Below wa.heap.size wa wz) (a2 : wa.heap.size ≤ base) (a3 : wz.ownsRow base 3 1 (.slice (some ⟨g, 0, none⟩) n c) n (ints f0)) (a4 : PaM n f0) (a5 : Blk wz gs 91 (srcA n m1 d1 m2 d2 B1 B2 t fid caps)) => fits_any [] [] x y g gs n c base t (.func (.func fid) #[] caps) f0 B1 B2 m1 d1 m2 d2 wa wz h h' H hn hn' hn8 hx4 a1 a2 a3 a4 a5
    have HH := Lib.hid H
    have HPF := Lib.hid hf
    have hrf : RdL RI w (some ⟨ga, 0, none⟩) n f := rd_of_own (R := RI) hown (RI_ints (pam_R hf hn8))
    have hen := hF.enter
    have HLW : Hid (∀ b ∈ gs :: bl, wa.heap.size ≤ b) := fun b hb => by
      rcases List.mem_cons.1 hb with h1 | h1
      · rw [h1]; exact hgs
      · exact Nat.le_trans hlo (hF.low hQ b h1)
    have hgaS : ga ≠ gs := fun e => by subst e; exact own_off hown BS (by decide) rfl
    obtain ⟨R, HR⟩ : ∃ R, Hid (srch n x.2 y.2 most (m + 1) f (t, F) = R) := ⟨_, Lib.hid rfl⟩
    rw [HR.out]
    clear h h' hn hn' hx4 H hf
    go_enter Try.func91, Try.ntmps91
    go_wp2_with fail
    go_loop [5] (fun s5 => ∃ k : Nat, k ≤ n ∧ s5 = .int .i64 k ∧ Hid (∀ j, j < k → 0 ≤ gF f j)) (fun s5 => n - (intOf s5).toNat)
    case atStart => exact ⟨0, Nat.zero_le _, rfl, fun j h => absurd h (by omega)⟩
    case round =>
      obtain ⟨k, hk, rfl, HB⟩ := hrel
      by_cases hlt : k < n
      · have hk0 : (0 : Int) ≤ (k : Int) := by omega
        have hk1 : (k : Int) < (n : Int) := by omega
        obtain ⟨b, o, u, v, hbo, hc, ⟨rfl, hv0, hv1⟩, -, hx⟩ := hrf.at hlt
        injection hbo with hbo
        injection hbo with hbo1 hbo2
        subst hbo1 hbo2
        rw [Nat.zero_add] at hc
        have hgv := gF_get hx
        by_cases hv : v < 0
        · have hv2 : ¬ v ≥ 0 := by omega
          have HFO : Hid (fop f = k) := fop_eq (by rw [HPF.out.1]; omega) HB.out fun _ => by rw [hgv]; exact hv
          have HLT : Hid (fop f < f.length) := by show _ < _; rw [HFO.out, HPF.out.1]; exact hlt
          have HSR : Hid (R = lopS n x.2 y.2 most (srch n x.2 y.2 most m) f k (t, F) n) := by
            show _ = _
            rw [← HR.out, srch, if_neg (Nat.ne_of_lt HLT.out), HFO.out]
          have hke : ((k : Int) == (n : Int)) = false := beq_eq_false_iff_ne.2 (by omega)
          have hgv0 : gF f k < 0 := by rw [hgv]; exact hv
          clear hx hgv HB
          have hgsl := BS.lt
          have hgal := (hown.lt ga rfl).2
          have hkn : k < f.length := by rw [HPF.out.1]; exact hlt
          go_wp2_with fail
          go_loopw [6] (fun s6 wr => ∃ (q : Nat) (st : SrS) (bl' : List Nat), q ≤ n ∧ s6 = .int .i64 q ∧ Hid (lopS n x.2 y.2 most (srch n x.2 y.2 most m) f k (t, F) q = st) ∧ Hid (over most st = false) ∧ Blk wr gs 91 (srcA n m1 d1 m2 d2 B1 B2 st.1 fid caps) ∧ Q wr st.2 bl' ∧ ChgB (gs :: bl) w wr ∧ (∀ b ∈ bl', b ∈ bl ∨ w.heap.size ≤ b)) (fun s6 _ => n - (intOf s6).toNat)
          case atStart => exact ⟨0, (t, F), bl, Nat.zero_le _, rfl, rfl, over_no.2 ⟨ht, hFl⟩, BS, hQ, ChgB.refl _ _, fun b hb => .inl hb⟩
          case round =>
            clear BS hQ
            obtain ⟨q, ⟨tq, Fq⟩, bq, hq, rfl, HL, HO, BSq, hQq, hCq, hfq⟩ := hrel
            simp only at BSq hQq
            have cS2 := BSq.cell 2
            have cS5 := BSq.cell 5
            have fS5 := BSq.frozen 5
            simp at cS2 cS5
            by_cases hlq : q < n
            · have hq0 : (0 : Int) ≤ (q : Int) := by omega
              have hq1 : (q : Int) < (n : Int) := by omega
              have hov := over_no.1 HO.out
              simp only at hov
              have hgq : gs ∉ bq := fun hh => by
                rcases hfq gs hh with h1 | h1
                · exact hgb h1
                · omega
              have HST : Hid (lopS n x.2 y.2 most (srch n x.2 y.2 most m) f k (t, F) (q + 1) = (if 5000 < tq + 1 then (tq + 1, Fq) else match fitS n x.2 y.2 (f.set k (q : Int)) with | none => (tq + 1, Fq) | some g => srch n x.2 y.2 most m g (tq + 1, Fq))) := by
                show tryS n x.2 y.2 most (srch n x.2 y.2 most m) f k (lopS n x.2 y.2 most (srch n x.2 y.2 most m) f k (t, F) q) q = _
                unfold tryS
                rw [HL.out, if_neg (by rw [HO.out]; decide)]
                rfl
              have HTQ : Hid (tq ≤ 5000) := hov.1
              have htq : tq ≤ 5000 := hov.1
              go_upto_region 10 with fail
              obtain ⟨w1, HW1⟩ : ∃ wz, Hid (wz = wr.setCell ⟨gs, 5, none⟩ (.int .i64 ((tq : Int) + 1))) := ⟨_, Lib.hid rfl⟩
              rw [← HW1.out]
              have B1' : Blk w1 gs 91 (srcA n m1 d1 m2 d2 B1 B2 (tq + 1) fid caps) := by rw [HW1.out]; have h9 := BSq.set_ 5 (.int .i64 ((tq : Int) + 1)); simpa [srcA] using h9
              have hS1 : ChgB [gs] wr w1 := by rw [HW1.out]; exact ChgB.set (p := ⟨gs, 5, none⟩) (List.mem_singleton.2 rfl) _
              have hC1 : ChgB (gs :: bl) w w1 := hCq.trans (hS1.mono fun b hb => by rw [List.mem_singleton] at hb; subst hb; exact List.mem_cons_self ..)
              have hQ1 : Q w1 Fq bq := hF.chg hQq hS1 fun b hb hh => by rw [List.mem_singleton] at hh; subst hh; exact hgq hb
              have hown1 := row_chg hown hC1 fun b hb hh => by
                injection hb with hb
                subst hb
                rcases List.mem_cons.1 hh with h1 | h1
                · exact hgaS h1
                · exact hgab h1
              have dS5 := B1'.cell 5
              simp at dS5
              clear cS2 cS5 fS5 BSq hQq hCq
              by_cases ht5 : 5000 < tq + 1
              · have HRr : Hid (R = (tq + 1, Fq)) := by
                  show _ = _
                  have e : lopS n x.2 y.2 most (srch n x.2 y.2 most m) f k (t, F) (q + 1) = (tq + 1, Fq) := by rw [HST.out, if_pos ht5]
                  rw [HSR.out, lop_over (k := q + 1) (by rw [e]; unfold over; rw [decide_eq_true (show 5000 < (tq + 1, Fq).1 from ht5)]; rfl) n (by omega), e]
                have HOV : Hid (over most (tq + 1, Fq) = true) := by show _ = _; unfold over; rw [decide_eq_true (show 5000 < (tq + 1, Fq).1 from ht5)]; rfl
                have hgt : (tq : Int) + 1 > 5000 := by omega
                clear HST
                go_wp2_with fail
                go_ret
                exact ⟨bq, ret_bool (by rw [HRr.out, HOV.out]; rfl), by rw [HRr.out]; exact B1', by rw [HRr.out]; exact hQ1, hC1, hfq⟩
              · have hgt : ¬ (tq : Int) + 1 > 5000 := by omega
                have HTQ2 : Hid (tq + 1 ≤ 5000) := by show _ ≤ _; omega
                have hrf1 : RdL RI w1 (some ⟨ga, 0, none⟩) n f := rd_of_own (R := RI) hown1 (RI_ints (pam_R HPF.out hn8))
                have HST2 : Hid (lopS n x.2 y.2 most (srch n x.2 y.2 most m) f k (t, F) (q + 1) = match fitS n x.2 y.2 (f.set k (q : Int)) with | none => (tq + 1, Fq) | some g => srch n x.2 y.2 most m g (tq + 1, Fq)) := by show _ = _; rw [HST.out, if_neg ht5]
                clear HST
                go_wp2_with fail
                refine (clone_any _ n c f w1 hrf1 (by omega)).mono ?_
                rintro e w2 ⟨A2, c2, rfl, ho2, hb2⟩
                obtain ⟨g2, rfl, hg2a, hg2b⟩ := own_some ho2 (by omega)
                have hfz := ho2.frozenAt k
                have hcl2 := par_cell ho2 (gF_at hkn) hlt
                have hst := (ho2.stored k (.int .i64 (q : Int))).1
                rw [ints_set] at hst
                clear hrf1
                have hsz1 : w.heap.size ≤ w1.heap.size := hC1.size
                have hq1l := hF.lt hQ1
                have hng : gs ≠ g2 := by have := B1'.lt; omega
                have hnq : ∀ b ∈ bq, b ≠ g2 := fun b hb e => by have := hq1l b hb; omega
                obtain ⟨w3, HW3⟩ : ∃ wz, Hid (wz = w2.setCell ⟨g2, k, none⟩ (.int .i64 (q : Int))) := ⟨_, Lib.hid rfl⟩
                rw [← HW3.out] at hst
                have hS3 : ChgB [g2] w1 w3 := by rw [HW3.out]; exact (ChgB.ofBelow hb2).trans (ChgB.set (p := ⟨g2, k, none⟩) (List.mem_singleton.2 rfl) _)
                have BS3 : Blk w3 gs 91 (srcA n m1 d1 m2 d2 B1 B2 (tq + 1) fid caps) := (hS3.block gs B1'.lt (by rw [List.mem_singleton]; exact hng)).trans B1'
                have hQ3 : Q w3 Fq bq := hF.chg hQ1 hS3 fun b hb hh => hnq b hb (List.mem_singleton.1 hh)
                have hC3 : ChgB (gs :: bl) w w3 := hC1.lay hS3 fun b hb => by rw [List.mem_singleton] at hb; subst hb; exact .inr (by omega)
                have hT3 : Below wa.heap.size wa w3 := hC3.low hT HLW.out
                have hpf3 : PaM n (f.set k (q : Int)) := HPF.out.set_ _ (by omega) (by omega)
                have hba : wa.heap.size ≤ w1.heap.size := Nat.le_trans hT.size hsz1
                have HF3 := Lib.hid (HFIT.out g2 c2 w1.heap.size (tq + 1) (f.set k (q : Int)) w3 hT3 hba hst hpf3 BS3)
                clear hst ho2 hb2 dS5 htq ht5 B1' hS1 hC1 hQ1 hown1 hS3 hq1l
                rcases hfit : fitS n x.2 y.2 (f.set k (q : Int)) with _ | z
                · rw [hfit] at HF3
                  have HL2 : Hid (lopS n x.2 y.2 most (srch n x.2 y.2 most m) f k (t, F) (q + 1) = (tq + 1, Fq)) := by show _ = _; rw [HST2.out, hfit]
                  have HO2 : Hid (over most (tq + 1, Fq) = false) := over_no.2 ⟨by have := HTQ2.out; show tq + 1 ≤ 5000; omega, hov.2⟩
                  clear HST2 hfit
                  go_wp2_with fail
                  rw [← HW3.out]
                  refine HF3.out.mono ?_
                  rintro e w4 ⟨rfl, hg4, -⟩
                  have BS4 := BS3.grown hg4 (fun e => hng (by injection e))
                  have hS4 : ChgB [g2] w3 w4 := ChgB.gkS hg4
                  have hQ4 : Q w4 Fq bq := hF.chg hQ3 hS4 fun b hb hh => hnq b hb (List.mem_singleton.1 hh)
                  have hC4 : ChgB (gs :: bl) w w4 := hC3.lay hS4 fun b hb => by rw [List.mem_singleton] at hb; subst hb; exact .inr (by omega)
                  clear hg4 HF3
                  go_wp2_with fail
                  go_roundw
                  case rel => exact ⟨q + 1, (tq + 1, Fq), bq, by omega, by go_num, HL2, HO2, BS4, hQ4, hC4, hfq⟩
                  case measure => simp [intOf]; try omega
                · rw [hfit] at HF3
                  obtain ⟨gr, -, -⟩ := fit_ok HH.out hpf3 hfit
                  have hopz : opens z < m := by
                    have h1 := opens_set hkn hgv0 (v := (q : Int)) (by omega)
                    rcases gr.2.2 with e | e
                    · rw [e]; omega
                    · omega
                  have HL2 : Hid (lopS n x.2 y.2 most (srch n x.2 y.2 most m) f k (t, F) (q + 1) = srch n x.2 y.2 most m z (tq + 1, Fq)) := by show _ = _; rw [HST2.out, hfit]
                  clear HST2 hfit
                  go_wp2_with fail
                  rw [← HW3.out]
                  refine HF3.out.mono ?_
                  rintro e w4 ⟨rfl, hg4, f4, ho4, hpf4, hz4⟩
                  obtain rfl := hz4 z rfl
                  have BS4 := BS3.grown hg4 (fun e => hng (by injection e))
                  have hS4 : ChgB [g2] w3 w4 := ChgB.gkS hg4
                  have hQ4 : Q w4 Fq bq := hF.chg hQ3 hS4 fun b hb hh => hnq b hb (List.mem_singleton.1 hh)
                  have hC4 : ChgB (gs :: bl) w w4 := hC3.lay hS4 fun b hb => by rw [List.mem_singleton] at hb; subst hb; exact .inr (by omega)
                  have hT4 : Below wa.heap.size wa w4 := hC4.low hT HLW.out
                  have HIH := Lib.hid (ih g2 c2 f4 bq (tq + 1) Fq w4 hT4 BS4 hQ4 hgq (own_mono ho4 (Nat.zero_le _)) (fun hh => hnq g2 hh rfl) hpf4 hopz (by have := HTQ2.out; omega) hov.2)
                  obtain ⟨S5, HS5⟩ : ∃ S, Hid (srch n x.2 y.2 most m f4 (tq + 1, Fq) = S) := ⟨_, Lib.hid rfl⟩
                  rw [HS5.out] at HIH HL2
                  clear hg4 HF3 ho4 hpf4 hz4 BS4 hQ4 hS4 BS3 hQ3 hC3 hT3 hpf3 gr hopz
                  rcases ho5 : over most S5 with _ | _
                  · rw [ho5] at HIH
                    have HO2 : Hid (over most S5 = false) := ho5
                    clear ho5
                    go_wp2_with fail
                    refine HIH.out.mono ?_
                    rintro e w5 ⟨b5, rfl, BS5, hQ5, hC5, hf5⟩
                    have hC6 : ChgB (gs :: bl) w w5 := hC4.lay hC5 (lay_in hfq)
                    have hf6 := fresh_in hfq hf5 hC4.size
                    clear HIH hC4 hC5
                    go_wp2_with fail
                    go_roundw
                    case rel => exact ⟨q + 1, S5, b5, by omega, by go_num, HL2, HO2, BS5, hQ5, hC6, hf6⟩
                    case measure => simp [intOf]; try omega
                  · rw [ho5] at HIH
                    have HRr : Hid (R = S5) := by
                      show _ = _
                      rw [HSR.out, lop_over (k := q + 1) (by rw [HL2.out]; exact ho5) n (by omega), HL2.out]
                    have HO2 : Hid (over most S5 = true) := ho5
                    clear ho5
                    go_wp2_with fail
                    refine HIH.out.mono ?_
                    rintro e w5 ⟨b5, rfl, BS5, hQ5, hC5, hf5⟩
                    have hC6 : ChgB (gs :: bl) w w5 := hC4.lay hC5 (lay_in hfq)
                    have hf6 := fresh_in hfq hf5 hC4.size
                    clear HIH hC4 hC5
                    go_wp2_with fail
                    go_ret
                    exact ⟨b5, ret_bool (by rw [HRr.out, HO2.out]; rfl), by rw [HRr.out]; exact BS5, by rw [HRr.out]; exact hQ5, hC6, hf6⟩
            · have hq1 : ¬ (q : Int) < (n : Int) := by omega
              have hqn : q = n := by omega
              have HRr : Hid (R = (tq, Fq)) := by show _ = _; rw [HSR.out, ← HL.out, hqn]
              clear hqn
              go_wp2_with fail
              go_ret
              exact ⟨ret_bool (by rw [HRr.out, HO.out]; rfl), by rw [HRr.out]; exact BSq, bq, by rw [HRr.out]; exact hQq, hCq, hfq⟩
        · have HB2 : Hid (∀ j, j < k + 1 → 0 ≤ gF f j) := fun j hj => by
            by_cases e : j = k
            · rw [e, hgv]; omega
            · exact HB.out j (by omega)
          have hv2 : v ≥ 0 := by omega
          clear hx hgv
          go_wp2_with fail
          go_round
          case rel => exact ⟨k + 1, by omega, by go_num, HB2⟩
          case measure => simp [intOf]; try omega
      · obtain rfl : k = n := by omega
        have hk1 : ¬ (k : Int) < (k : Int) := by omega
        have HFO : Hid (fop f = f.length) := by show _ = _; rw [HPF.out.1]; exact fop_eq (by rw [HPF.out.1]; omega) HB.out fun h => absurd h (by rw [HPF.out.1]; omega)
        have HSR : Hid (R = (t, F ++ [f])) := by show _ = _; rw [← HR.out, srch, if_pos HFO.out]
        have hke : ((k : Int) == (k : Int)) = true := by simp
        have HC := Lib.hid (hF.call w F bl (some ⟨ga, 0, none⟩) c f hFl hQ hrf HPF.out.1)
        have HBS := Lib.hid BS
        have cS6 := BS.cell 6
        simp at cS6
        have HOV : Hid (decide (F.length + 1 < most) = !over most (t, F ++ [f])) := by
          show _ = _
          unfold over
          rw [decide_eq_false (show ¬ 5000 < (t, F ++ [f]).1 by show ¬ 5000 < t; omega), Bool.false_or]
          simp only [List.length_append, List.length_singleton]
          by_cases e : F.length + 1 < most
          · rw [decide_eq_true e, decide_eq_false (by omega)]; rfl
          · rw [decide_eq_false e, decide_eq_true (by omega)]; rfl
        rw [HOV.out] at HC
        clear BS hQ hrf
        go_wp2_with fail
        refine HC.out.mono ?_
        rintro e w' ⟨rfl, bl', hQ', hcg, hfr⟩
        have HBS2 := Lib.hid (show Blk w' gs 91 _ from (hcg.block gs HBS.out.lt hgb).trans HBS.out)
        have HQ2 := Lib.hid hQ'
        clear hQ'
        go_wp2_with fail
        go_ret
        exact ⟨bl', ret_bool (by rw [HSR.out]), by rw [HSR.out]; exact HBS2.out, by rw [HSR.out]; exact HQ2.out, hcg.mono fun b hb => List.mem_cons_of_mem _ hb, hfr⟩
end Go.Proofs.Ytbkgbckbbnflpaa
