/- Parts of the proof: Ren, Res, KnA, CurB, Sl, System. -/
import Derived.Test.YtkmgbdljiajlaaaQ1
import Derived.Deep.RegionLaw
import Derived.Laws.OwnMore
import Derived.Deep.RegionHeld3
import Derived.Deep.DeepCutAuto
import Derived.Deep.CutBlock
import Derived.Test.YtkmgbdljiajlaaaProg
import Derived.StillTactics
import Derived.Laws.BitsAllLaws
import Derived.StillTailTactics
namespace Go.Proofs.Ytkmgbdljiajlaaa
open Go.RowKit

set_option maxRecDepth 20000 in
set_option maxHeartbeats 2000000 in
theorem cloneOp_any (cs : List Value) (x : OpM) (w : World) (h : shOp.rd w cs x) (hn : x.2.length ≤ 1048576) :
    Calls Try.prog 116 #[.agg cs.toArray] w (ToE shOp w x) := by
  obtain ⟨B, m, d, rfl, qa, qt⟩ := rdOp h
  have hm := qt.len
  obtain ⟨w0, hw0, T0, hs0, BP, BR⟩ := boxes2 w #[.int .i64 x.1, .slice B m d] #[.int .i64 0, .slice none 0 0] 92 92
  have HW0 := Lib.hid hw0
  have HR := Lib.hid qt.bounds
  have qt0 := qt.next stab_RI T0
  have hz0 : w0.heap.size = w.heap.size + 2 := hs0
  have HZ0 := Lib.hid hz0
  clear hw0 hs0 hz0
  have cP0 := BP.cell 0
  have cP1 := BP.cell 1
  have cR0 := BR.cell 0
  have cR1 := BR.cell 1
  have fR0 := BR.frozen 0
  have fR1 := BR.frozen 1
  simp at cP0 cP1 cR0 cR1
  go_enter Try.func116, Try.ntmps116
  go_upto_region 1 with fail
  rw [← HW0.out]
  go_region_with (go_at_call 86; refine (clone_any _ _ _ x.2 _ (by first | exact qt0 | exact qt0.drew stab_RI) (by omega)).mono ?_; rintro e w2 ⟨A', c', rfl, ho, hbn⟩; have hb := below_next (Below.drew (Below.refl w0.heap.size w0)) hbn rfl; have BP2 := BP.next hb; have BR2 := BR.next hb; have dP0 := BP2.cell 0; have dP1 := BP2.cell 1; have dR0 := BR2.cell 0; have dR1 := BR2.cell 1; have gR0 := BR2.frozen 0; have gR1 := BR2.frozen 1; simp at dP0 dP1 dR0 dR1)
  all_goals
    have T2 := below_next T0 hb rfl
    have hz2 := hb.size
    have hne := own_off ho BR2 (by decide)
    have hO := own_set (own_set ho (p := ⟨w.heap.size + 1, 0, none⟩) hne (.int .i64 x.1)) (p := ⟨w.heap.size + 1, 1, none⟩) hne (.slice A' m c')
    have BRR : Blk ((w2.setCell ⟨w.heap.size + 1, 0, none⟩ (.int .i64 x.1)).setCell ⟨w.heap.size + 1, 1, none⟩ (.slice A' m c')) (w.heap.size + 1) 92 #[.int .i64 x.1, .slice A' m c'] := by simpa using ((BR2.set_ 0 (.int .i64 x.1)).set_ 1 (.slice A' m c'))
    have hiv := obl_iv hO
    have hO2 : ((w2.setCell ⟨w.heap.size + 1, 0, none⟩ (.int .i64 x.1)).setCell ⟨w.heap.size + 1, 1, none⟩ (.slice A' m c')).ownsRow 0 3 1 (.slice A' m c') x.2.length (ints x.2) := by rw [hm]; exact own_mono hO (Nat.zero_le _)
    have hT : Below w.heap.size w ((w2.setCell ⟨w.heap.size + 1, 0, none⟩ (.int .i64 x.1)).setCell ⟨w.heap.size + 1, 1, none⟩ (.slice A' m c')) := (T2.setCell (by show _ ≤ _; simp) _).setCell (by show _ ≤ _; simp) _
    have hlow : w.heap.size ≤ w0.drew.heap.size := T0.size
    go_wp2
    (try simp only [Exit.inBlock, Exit.then])
    refine bodyPost_ret (v := .agg #[.int .i64 x.1, .slice A' m c']) (results_cell_row rfl _ _ (w.heap.size + 1) 92 #[.int .i64 x.1, .slice A' m c'] (0, 0) _ (by simp) BRR Try.underlying92 rfl (by kernel_rfl)) rfl ?_
    exact ⟨[.int .i64 x.1, .slice A' m c'], obl (.slice A' m c'), rfl, ⟨[.int .i64 x.1], [.slice A' m c'], [], obl (.slice A' m c'), rfl, rfl, ⟨_, rfl, ⟨rfl, qa.1, qa.2⟩, rfl⟩, ⟨_, rfl, hO2, HR.out, rfl⟩⟩, hiv.mono hlow (Nat.le_refl _), hT⟩

/-- An algebra handed back, its slices the call's own. -/
def AlgE (w : World) (x : AlgebraM) (e : Ending) (w' : World) : Prop := ∃ v css bls, e = .returned (.agg #[.int .i64 x.1, v]) ∧ PO w.heap.size w' v x.2 css bls ∧ Below w.heap.size w w'
theorem PO.far {lo : Nat} {w : World} {v : Value} {xs : List OpM} {css : List (List Value)} {bls : List (List Nat)} (h : PO lo w v xs css bls) {p : Addr} (hp : p.block < lo) (u : Value) : PO lo (w.setCell p u) v xs css bls :=
  h.same (by simp) fun b hb => Below.heap_setCell w p u b (by have := (h.2.2.2 b hb).1; omega)
theorem take_snoc {α : Type} {l : List α} {k : Nat} {x : α} (h : l[k]? = some x) : l.take (k + 1) = l.take k ++ [x] := by rw [List.take_add_one, h]; rfl

set_option maxRecDepth 20000 in
set_option maxHeartbeats 4000000 in
theorem cloneAlgebra_any (cs : List Value) (x : AlgebraM) (w : World) (h : shAlgebra.rd w cs x) (hn : shAlgebra.cnt x ≤ 1048576) :
    Calls Try.prog 87 #[.agg cs.toArray] w (AlgE w x) := by
  obtain ⟨B, m, d, rfl, qs, qo⟩ := rdAlgebra h
  have hm := qo.len
  have hcn : 0 + (x.2.length + cntS shOp.cnt x.2) ≤ 1048576 := hn
  have HCN := Lib.hid hcn
  have hle : m ≤ 1048576 := by omega
  obtain ⟨w0, hw0, T0, hs0, BP, BR, BO⟩ := boxes3 w #[.int .i64 x.1, .slice B m d] #[.int .i64 0, .slice none 0 0] #[.int .i64 x.1, .slice none 0 0] 27 27
  have HW0 : Hid (_ = w0) := hw0.symm
  have HZ0 := Lib.hid hs0
  have cP0 := ((Blk.new w 27 #[.int .i64 x.1, .slice B m d]).alloc (.cells #[.int .i64 0, .slice none 0 0] 27)).cell 0
  have cP1 := BP.cell 1
  simp at cP0 cP1
  rw [hw0] at cP1
  have hP0 : PO w0.heap.size w0 (.slice none 0 0) (x.2.take 0) [] [] := PO.nil _ _
  clear hw0 hs0 hcn
  go_enter Try.func87, Try.ntmps87
  go_wp2_with fail
  clear cP0 cP1
  go_loopw [12] (fun i wr => ∃ (k : Nat) (v : Value) (css : List (List Value)) (bls : List (List Nat)), k ≤ m ∧ i = .int .i64 k ∧ Blk wr (w.heap.size + 1 + 1) 27 #[.int .i64 x.1, v] ∧ Blk wr (w.heap.size + 1) 27 #[.int .i64 0, .slice none 0 0] ∧ PO w0.heap.size wr v (x.2.take k) css bls ∧ Below w.heap.size w wr) (fun i _ => m - (intOf i).toNat)
  case atStart =>
    rw [HW0.out]
    exact ⟨0, _, _, _, Nat.zero_le _, rfl, BO, BR, hP0, T0⟩
  case round =>
    clear hP0 BO BR BP
    obtain ⟨k, v, css, bls, hk, rfl, BO, BR, hPO, hT⟩ := hrel
    by_cases hlt : k < m
    · have hk0 : (0 : Int) ≤ (k : Int) := by omega
      have hk1 : (k : Int) < (m : Int) := by omega
      obtain ⟨b, o, vs, y, rfl, -, hc, hr, -, hx⟩ := (qo.next hT).at hlt
      obtain ⟨B', m', d', rfl, qa, qt⟩ := rdOp hr
      have cc0 : wr.cell? ⟨b, o + k * 2, none⟩ = some (.int .i64 y.1) := hc 0 _ rfl
      have cc1 : wr.cell? ⟨b, o + k * 2 + 1, none⟩ = some (.slice B' m' d') := hc 1 _ rfl
      have HTS : Hid (x.2.take (k + 1) = x.2.take k ++ [y]) := take_snoc hx
      have hcy : y.2.length ≤ 1048576 := by
        have h1 := cntS_mem (f := shOp.cnt) (List.mem_of_getElem? hx)
        have h2 := HCN.out
        have h3 : shOp.cnt y = 0 + y.2.length := rfl
        omega
      obtain ⟨L, HL⟩ : ∃ L, Hid (x.2.take k = L) := ⟨_, rfl⟩
      have HLK : Hid (L.length = k) := by show _ = _; rw [← HL.out, List.length_take]; omega
      rw [HL.out] at hPO
      have HTS2 : Hid (x.2.take (k + 1) = L ++ [y]) := by show _ = _; rw [HTS.out, HL.out]
      obtain ⟨A, c, rfl⟩ := own_slice hPO.2.1
      obtain ⟨w5, hw5, T5, hs5, BY⟩ := boxes1 wr #[.int .i64 y.1, .slice B' m' d'] 92
      have HW5 := Lib.hid hw5
      have hP5 := hPO.next T5
      have hr5 := shOp.stab hr T5.block
      have BO5 := BO.next T5
      have BR5 := BR.next T5
      have hT5 := below_next hT T5 rfl
      have cO5 := BO5.cell 1
      have fO5 := BO5.frozen 1
      have cY0 := BY.cell 0
      have cY1 := BY.cell 1
      simp at cO5 cY0 cY1
      have hwz0 : w0.heap.size ≤ w5.heap.size := by
        rcases hP5.2.1.2 with ⟨h1, h2⟩ | ⟨g9, _, _, h1, h2, _⟩
        · have := hT5.size
          have h9 := BO5.lt
          have h8 := HZ0.out
          omega
        · injection h1 with h1
          have := hP5.2.2.2 g9 (List.mem_append_left _ (by rw [h1]; simp [obl, Value.ownBlock]))
          omega
      clear hw5 hs5 hc hx hr hPO
      go_upto_region 5 with fail
      rw [← HW5.out]
      clear cc0 cc1
      go_region_law (first
        | (refine step_app2 w6 rfl (.tmp 17) (.tmp 20) 25 92 rfl (.agg #[.int .i64 0, .slice none 0 0]) 32 Try.underlying25 info_op2 rfl (by decide) w0.heap.size L.length c A css.flatten (by rfl) hvs (.int .i64 y.1) (.slice B6 m6 d6) rfl rfl (by rfl) (by have := HLK.out; omega) (by omega) ?_; intro A8 c8 w8 hown8 hg8 hb8; have BO8 := BO6.grown hg8 (fun e => own_off hvs BO6 (by decide) e.symm); have BR8 := BR6.grown hg8 (fun e => own_off hvs BR6 (by decide) e.symm); have cO8 := BO8.cell 1; have fO8 := BO8.frozen 1; simp at cO8)
        | (go_simp; go_at_call 116; refine (cloneOp_any [.int .i64 y.1, .slice B' m' d'] y _ (by first | exact hr5 | exact shOp.stab hr5 (fun _ _ => rfl)) hcy).mono ?_; rintro e w6 ⟨ds, bk, rfl, how, hiv, hbn⟩; obtain ⟨B6, m6, d6, rfl, -, -⟩ := rdOp (shOp.ord how); have hb := below_next (Below.drew (Below.refl w5.heap.size w5)) hbn rfl; have hiv6 : Iv w5.heap.size w6.heap.size bk := hiv; obtain ⟨hvs, HPU⟩ := hP5.push hb hwz0 how hiv6; have hsz6 := hb.size; have BO6 := BO5.next hb; have BR6 := BR5.next hb; have cO6 := BO6.cell 1; have fO6 := BO6.frozen 1; have dY0 := (BY.next hb).cell 0; have dY1 := (BY.next hb).cell 1; have cO6a := (BO6.alloc (.cells #[.int .i64 y.1, .slice B6 m6 d6] 92)).cell 1; simp at cO6 dY0 dY1 cO6a))
      all_goals
        have PN2 := (HPU hown8 hg8).far (p := ⟨w.heap.size + 1 + 1, 1, none⟩) (by have := HZ0.out; show w.heap.size + 1 + 1 < w0.heap.size; omega) (.slice A8 (L.length + 1) c8)
        have hT8 := ((below_next hT5 hb rfl).trans (hb8.mono (by have := HZ0.out; omega))).setCell (p := ⟨w.heap.size + 1 + 1, 1, none⟩) (by show _ ≤ _; simp; try omega) (.slice A8 (L.length + 1) c8)
        have BO9 : Blk (w8.setCell ⟨w.heap.size + 1 + 1, 1, none⟩ (.slice A8 (L.length + 1) c8)) (w.heap.size + 1 + 1) 27 #[.int .i64 x.1, .slice A8 (L.length + 1) c8] := by simpa using BO8.set_ 1 (.slice A8 (L.length + 1) c8)
        have BR9 := BR8.far (p := ⟨w.heap.size + 1 + 1, 1, none⟩) (by simp) (.slice A8 (L.length + 1) c8)
        have HFIN := Lib.hid (And.intro BO9 (And.intro BR9 (And.intro PN2 hT8)))
        clear BO9 BR9 PN2 hT8 cO6 fO6 cO6a dY0 dY1 cO8 fO8 hown8 hg8 hb8 BO8 BR8 BO6 BR6 hvs HPU how hbn hb
        go_wp2_with fail
        go_roundw
        case rel => exact ⟨k + 1, _, _, _, by omega, by go_num, HFIN.out.1, HFIN.out.2.1, by rw [HTS2.out]; exact HFIN.out.2.2.1, HFIN.out.2.2.2⟩
        case measure => simp [intOf]; omega
    · obtain rfl : k = m := by omega
      have hlt' : ¬ (k : Int) < (k : Int) := by omega
      have hP : PO w0.heap.size wr v x.2 css bls := by rw [List.take_of_length_le (by omega)] at hPO; exact hPO
      obtain ⟨A, c, hv⟩ := own_slice hP.2.1
      rw [hm] at hv
      subst hv
      have hlow : w.heap.size ≤ w0.heap.size := by have := HZ0.out; omega
      have hPF := ((hP.far (p := ⟨w.heap.size + 1, 0, none⟩) (by have := HZ0.out; show w.heap.size + 1 < w0.heap.size; omega) (.int .i64 x.1)).far (p := ⟨w.heap.size + 1, 1, none⟩) (by have := HZ0.out; show w.heap.size + 1 < w0.heap.size; omega) (.slice A k c)).mono hlow
      have hTF := (hT.setCell (p := ⟨w.heap.size + 1, 0, none⟩) (by show _ ≤ _; simp) (.int .i64 x.1)).setCell (p := ⟨w.heap.size + 1, 1, none⟩) (by show _ ≤ _; simp) (.slice A k c)
      have cO0 := BO.cell 0
      have cO1 := BO.cell 1
      have cR0 := BR.cell 0
      have cR1 := BR.cell 1
      have fR0 := BR.frozen 0
      have fR1 := BR.frozen 1
      have BRR : Blk ((wr.setCell ⟨w.heap.size + 1, 0, none⟩ (.int .i64 x.1)).setCell ⟨w.heap.size + 1, 1, none⟩ (.slice A k c)) (w.heap.size + 1) 27 #[.int .i64 x.1, .slice A k c] := by simpa using ((BR.set_ 0 (.int .i64 x.1)).set_ 1 (.slice A k c))
      have HPF := Lib.hid hPF
      simp at cO0 cO1 cR0 cR1
      clear hP hPF hPO
      go_wp2_with fail
      (try simp only [Exit.inBlock, Exit.then])
      refine bodyPost_ret (v := .agg #[.int .i64 x.1, .slice A k c]) (results_cell_row rfl _ _ (w.heap.size + 1) 27 #[.int .i64 x.1, .slice A k c] (0, 0) _ (by simp) BRR Try.underlying27 rfl (by kernel_rfl)) rfl ?_
      exact ⟨_, css, bls, rfl, HPF.out, hTF⟩
end Go.Proofs.Ytkmgbdljiajlaaa
namespace Go.Proofs.Ytkmgbdljiajlaaa
open Go.RowKit

def opsTo (z : Nat) (s : List Int) (ops : List OpM) (k : Nat) : List OpM := (ops.take k).map (renOp z s) ++ ops.drop k
theorem opsTo_len (z : Nat) (s : List Int) (ops : List OpM) (k : Nat) : (opsTo z s ops k).length = ops.length := by unfold opsTo; simp; omega
theorem opsTo_get {z : Nat} {s : List Int} {ops : List OpM} {k : Nat} {y : OpM} (h : ops[k]? = some y) : (opsTo z s ops k)[k]? = some y := by
  have hk := (List.getElem?_eq_some_iff.1 h).1
  unfold opsTo
  rw [List.getElem?_append_right (by simp; omega)]
  simp
  rw [show k + (k - min k ops.length) = k by omega]
  exact h
theorem opsTo_next {z : Nat} {s : List Int} {ops : List OpM} {k : Nat} {y : OpM} (h : ops[k]? = some y) : (opsTo z s ops k).set k (renOp z s y) = opsTo z s ops (k + 1) := by
  have hk := (List.getElem?_eq_some_iff.1 h).1
  unfold opsTo
  rw [take_snoc h, List.map_append, List.set_append_right _ _ (by simp; omega)]
  have : ops.drop k = y :: ops.drop (k + 1) := by
    rw [List.drop_eq_getElem_cons hk]
    congr
    exact (List.getElem?_eq_some_iff.1 h).2
  rw [this]
  simp
  rw [show k - min k ops.length = 0 by omega]
  rfl
theorem opsTo_all {z : Nat} {s : List Int} {ops : List OpM} {k : Nat} (h : ops.length ≤ k) : opsTo z s ops k = ops.map (renOp z s) := by
  unfold opsTo
  rw [List.take_of_length_le h, List.drop_eq_nil_of_le h, List.append_nil]
def mixD (s : List Int) (D : List Nat) (j : Nat) : List Nat := (D.take j).map (nmAt s) ++ D.drop j
theorem mixD_get {s : List Int} {D : List Nat} {j d : Nat} (h : D[j]? = some d) : (mixD s D j)[j]? = some d := by
  have hk := (List.getElem?_eq_some_iff.1 h).1
  unfold mixD
  rw [List.getElem?_append_right (by simp; omega)]
  simp
  rw [show j + (j - min j D.length) = j by omega]
  exact h
theorem mixD_next {s : List Int} {D : List Nat} {j d : Nat} (h : D[j]? = some d) : (mixD s D j).set j (nmAt s d) = mixD s D (j + 1) := by
  have hk := (List.getElem?_eq_some_iff.1 h).1
  unfold mixD
  rw [take_snoc h, List.map_append, List.set_append_right _ _ (by simp; omega)]
  have : D.drop j = d :: D.drop (j + 1) := by
    rw [List.drop_eq_getElem_cons hk]
    congr
    exact (List.getElem?_eq_some_iff.1 h).2
  rw [this]
  simp
  rw [show j - min j D.length = 0 by omega]
  rfl
theorem mixD_all {s : List Int} {D : List Nat} {j : Nat} (h : D.length ≤ j) : mixD s D j = D.map (nmAt s) := by
  unfold mixD
  rw [List.take_of_length_le h, List.drop_eq_nil_of_le h, List.append_nil]
theorem nats_set (l : List Nat) (p v : Nat) : (nats l).set p (v : Int) = nats (l.set p v) := by simp [nats, List.map_set]
theorem nats_at {l : List Nat} {k d : Nat} (h : l[k]? = some d) : (nats l)[k]? = some (d : Int) := by simp [nats, h]
theorem nats_R {l : List Nat} {b : Nat} (h : ∀ d ∈ l, d ≤ b) (hb : b ≤ 1048576) {w : World} : ∀ v ∈ nats l, RI w (.int .i64 v) v := by
  intro v hv
  unfold nats at hv
  rw [List.mem_map] at hv
  obtain ⟨d, hd, rfl⟩ := hv
  have := h d hd
  exact ⟨rfl, by omega, by omega⟩
theorem op_len {n : Nat} {o : OpM} (h : OpP n o) (hn : n ≤ 8) : o.2.length ≤ 4096 := by
  rw [h.2.2.1]
  exact pow_bd hn (by have := h.2.1; omega)
theorem cnt_alg {x : AlgebraM} (h : AlgP x) : shAlgebra.cnt x ≤ 1048576 := by
  have key : ∀ l : List OpM, (∀ o ∈ l, OpP x.1.toNat o) → cntS shOp.cnt l ≤ l.length * 4096 := by
    intro l
    induction l with
    | nil => intro _; exact Nat.zero_le _
    | cons o l ih =>
      intro hl
      rw [cntS_cons, List.length_cons, Nat.succ_mul]
      have h1 := ih fun o ho => hl o (by simp [ho])
      have h2 := op_len (hl o (by simp)) (by have := h.2.1; omega)
      have h3 : shOp.cnt o = 0 + o.2.length := rfl
      omega
  have h1 := key x.2 h.2.2.2
  have h2 := h.2.2.1
  have h3 : shAlgebra.cnt x = 0 + (x.2.length + cntS shOp.cnt x.2) := rfl
  have h4 := Nat.mul_le_mul_right 4096 h2
  omega

theorem cell_far {w : World} {p a : Addr} {v u : Value} (h : a.block ≠ p.block) (hc : w.cell? a = some v) : (w.setCell p u).cell? a = some v := (World.cell?_of_block (Below.heap_setCell w p u _ h)).trans hc
theorem cell_farD {w : World} {p a : Addr} {v u : Value} (h : a.block ≠ p.block) (hc : w.cell? a = some v) : (w.setCell p u).drew.cell? a = some v := cell_far h hc
set_option maxRecDepth 20000 in
set_option maxHeartbeats 8000000 in
theorem rename8_any (cs : List Value) (x : AlgebraM) (N : Option Addr) (n cN : Nat) (s : List Int) (w : World) (h : shAlgebra.rd w cs x) (hs : RdL RI w N n s) (hx : AlgP x) (hp : PermL x.1.toNat s) :
    Calls Try.prog 77 #[.agg cs.toArray, .slice N n cN] w (AlgE w (ren x s)) := by
  have hcnt := cnt_alg hx
  obtain ⟨a, ops⟩ := x
  obtain ⟨z, rfl⟩ : ∃ z : Nat, a = (z : Int) := ⟨a.toNat, by have h1 : 1 ≤ a := hx.1; omega⟩
  have hz1 : 1 ≤ z := by have h1 : (1 : Int) ≤ (z : Int) := hx.1; omega
  have hz5 : z ≤ 8 := by have h1 : (z : Int) ≤ 8 := hx.2.1; omega
  have hm4 : ops.length ≤ 4 := hx.2.2.1
  have HOP : Hid (∀ o ∈ ops, OpP z o) := fun o ho => by have := hx.2.2.2 o ho; simpa using this
  have HPM : Hid (PermL z s) := by show PermL z s; simpa using hp
  have hnz : n = z := by rw [← hs.len]; exact HPM.out.1
  subst hnz
  have HREN : Hid (ren ((n : Int), ops) s = ((n : Int), ops.map (renOp n s))) := by show _ = _; unfold ren; simp
  have hrd := h
  obtain ⟨B, m, d, rfl, qs, qo⟩ := rdAlgebra h
  obtain rfl : ops.length = m := qo.len
  obtain ⟨w0, hw0, T0, hs0, BP, BR⟩ := boxes2 w #[.int .i64 (n : Int), .slice B ops.length d] #[.int .i64 0, .slice none 0 0] 27 27
  have HW0 := Lib.hid hw0
  have HZ0 := Lib.hid hs0
  have hrd0 := shAlgebra.stab hrd T0.block
  have cP0 := BP.cell 0
  have cP1 := BP.cell 1
  simp at cP0 cP1
  rw [hw0] at cP0 cP1
  rw [HREN.out]
  clear hw0 hs0 hp hx
  go_enter Try.func77, Try.ntmps77
  go_wp2_with fail
  rw [← HW0.out]
  refine (cloneAlgebra_any _ _ _ hrd0 hcnt).mono ?_
  rintro e w1 ⟨v, css, bls, rfl, hPO, hb1⟩
  replace hPO : PO w0.heap.size w1 v ops css bls := hPO
  obtain ⟨VA, vc, rfl⟩ := own_slice hPO.2.1
  have T1 := below_next T0 hb1 rfl
  replace BP := BP.next hb1
  replace BR := BR.next hb1
  obtain ⟨w2, hw2, T2', hs2, BB⟩ := boxes1 w1 #[.int .i64 (n : Int), .slice VA ops.length vc] 27
  have HW2 : Hid (_ = w2) := hw2.symm
  have HGB : Hid (w1.heap.size ∉ obl (.slice VA ops.length vc) ++ bls.flatten) := fun hh => by have := (hPO.2.2.2 _ hh).2; omega
  have hgl : w0.heap.size ≤ w1.heap.size := hb1.size
  have T2 := below_next T1 T2' rfl
  replace BP := BP.next T2'
  replace BR := BR.next T2'
  replace hPO := hPO.next T2'
  have cP1 := BP.cell 1
  simp at cP1
  rw [hw2] at cP1
  clear hw2 hs2 cP0 hb1
  go_wp2_with fail
  clear cP1
  go_loopw [18] (fun i wr => ∃ (k : Nat), k ≤ ops.length ∧ i = .int .i64 k ∧ Blk wr w.heap.size 27 #[.int .i64 (n : Int), .slice B ops.length d] ∧ Blk wr (w.heap.size + 1) 27 #[.int .i64 0, .slice none 0 0] ∧ Blk wr w1.heap.size 27 #[.int .i64 (n : Int), .slice VA ops.length vc] ∧ PO w0.heap.size wr (.slice VA ops.length vc) (opsTo n s ops k) css bls ∧ Below w.heap.size w wr) (fun i _ => ops.length - (intOf i).toNat)
  case atStart =>
    rw [HW2.out]
    exact ⟨0, Nat.zero_le _, rfl, BP, BR, BB, hPO, T2⟩
  case round =>
    clear hPO BP BR BB T1 T2
    obtain ⟨k, hk, rfl, BP, BR, BB, hPO, hT⟩ := hrel
    by_cases hlt : k < ops.length
    · obtain ⟨wo, hwo⟩ : ∃ wo : World, wo = wr := ⟨_, rfl⟩
      subst hwo
      have hk0 : (0 : Int) ≤ (k : Int) := by omega
      have hk1 : (k : Int) < (ops.length : Int) := by omega
      obtain ⟨b, o, vs, y, rfl, -, hc, hr, -, hyk⟩ := qo.at hlt
      obtain ⟨ya, ty⟩ := y
      have hyp := HOP.out (ya, ty) (List.mem_of_getElem? hyk)
      obtain ⟨kk, rfl⟩ : ∃ kk : Nat, ya = (kk : Int) := ⟨ya.toNat, by have h1 : 0 ≤ ya := hyp.1; omega⟩
      obtain ⟨B', m', d', rfl, qa, qt⟩ := rdOp hr
      obtain rfl : ty.length = m' := qt.len
      have hkk3 : kk ≤ 3 := by have h1 : (kk : Int) ≤ 3 := hyp.2.1; omega
      have HYL : Hid (ty.length = n ^ kk) := by show _ = _; have := hyp.2.2.1; simpa using this
      have HYB : Hid (∀ v ∈ ty, 0 ≤ v ∧ v ≤ (n : Int) - 1) := hyp.2.2.2
      have HRO : Hid (renOp n s ((kk : Int), ty) = ((kk : Int), renTo n kk s ty ty ty.length)) := by show _ = _; unfold renOp; simp
      have hyl8 : ty.length ≤ 4096 := by rw [HYL.out]; exact pow_bd (by omega) (by omega)
      have cc0 : wo.cell? ⟨b, o + k * 2, none⟩ = some (.int .i64 (kk : Int)) := keepc hT (hc 0 _ rfl)
      have cc1 : wo.cell? ⟨b, o + k * 2 + 1, none⟩ = some (.slice B' ty.length d') := keepc hT (hc 1 _ rfl)
      obtain ⟨w5, hw5, T5, hs5, BQ⟩ := boxes1 wo #[.int .i64 (kk : Int), .slice B' ty.length d'] 92
      have HW5 : Hid (_ = w5) := hw5.symm
      have HYK := Lib.hid hyk
      have hP5 := hPO.next T5
      have BP5 := BP.next T5
      have BR5 := BR.next T5
      have BB5 := BB.next T5
      have hT5 := below_next hT T5 rfl
      have hgq : w1.heap.size < wo.heap.size := BB.lt
      have hdt := hT.size
      have HST : Hid (PO w0.heap.size w5 (.slice VA ops.length vc) ((opsTo n s ops k).set k ((kk : Int), renTo n kk s ty ty 0)) css bls) := by
        show PO _ _ _ _ _ _
        have e : (opsTo n s ops k).set k ((kk : Int), renTo n kk s ty ty 0) = opsTo n s ops k := set_nil_same (opsTo_get hyk)
        rw [e]
        exact hP5
      have HQW : Hid (wo.heap.size ∉ obl (.slice VA ops.length vc) ++ bls.flatten) := fun hh => by have := (hPO.2.2.2 _ hh).2; omega
      have cF0 := BQ.cell 0
      have cF1 := BQ.cell 1
      simp at cF0 cF1
      rw [hw5] at cF0 cF1
      clear hw5 hs5 hc hr hyk hyp hPO hP5
      go_wp2_with fail
      clear cF0 cF1
      go_loopw [26] (fun i wi => ∃ q : Nat, q ≤ ty.length ∧ i = .int .i64 q ∧ Blk wi w.heap.size 27 #[.int .i64 (n : Int), .slice (some ⟨b, o, none⟩) ops.length d] ∧ Blk wi (w.heap.size + 1) 27 #[.int .i64 0, .slice none 0 0] ∧ Blk wi w1.heap.size 27 #[.int .i64 (n : Int), (.slice VA ops.length vc)] ∧ Blk wi wo.heap.size 92 #[.int .i64 (kk : Int), .slice B' ty.length d'] ∧ PO w0.heap.size wi (.slice VA ops.length vc) ((opsTo n s ops k).set k ((kk : Int), renTo n kk s ty ty q)) css bls ∧ Below w.heap.size w wi) (fun i _ => ty.length - (intOf i).toNat)
      case atStart =>
        rw [HW5.out]
        exact ⟨0, Nat.zero_le _, rfl, BP5, BR5, BB5, BQ, HST.out, hT5⟩
      case round =>
        clear BP5 BR5 BB5 BQ HST hT5 BP BR BB
        obtain ⟨q, hq, rfl, BP, BR, BB, BQ, hPO, hTi⟩ := hrel
        by_cases hltq : q < ty.length
        · obtain ⟨wi, hwi⟩ : ∃ wi : World, wi = wr := ⟨_, rfl⟩
          subst hwi
          have hq0 : (0 : Int) ≤ (q : Int) := by omega
          have hq1 : (q : Int) < (ty.length : Int) := by omega
          obtain ⟨b', o', u0, u, rfl, hcu, ⟨rfl, -⟩, -, hxu⟩ := (qt.next stab_RI hTi).at hltq
          have hub := HYB.out u (List.mem_of_getElem? hxu)
          obtain ⟨u, rfl⟩ := Int.eq_ofNat_of_zero_le hub.1
          have hun : u < n := by omega
          obtain ⟨J, HJ⟩ : ∃ J, Hid (toI n kk s q = J) := ⟨_, rfl⟩
          have hJ : J < ty.length := by rw [← HJ.out, HYL.out]; exact toI_lt (by omega) HPM.out q
          obtain ⟨nm, hnm1, hnmn, hnm2⟩ := HPM.out.at hun
          have HSTEP : Hid (renTo n kk s ty ty (q + 1) = (renTo n kk s ty ty q).set J (nm : Int)) := by
            show _ = _
            rw [renTo, HJ.out, List.getD_eq_getElem?_getD, hxu]
            show (renTo n kk s ty ty q).set J (nmI s (u : Int)) = _
            have := nmI_get hnm1
            rw [this]
          have HNM := Lib.hid hnm1
          have HXU := Lib.hid hxu
          have cQ0 := BQ.cell 0
          have cQ1 := BQ.cell 1
          have cP0 := BP.cell 0
          simp at cQ0 cQ1 cP0
          clear hxu hub hnm1 hnm2
          go_wp2_with fail
          refine (argsAt_any q kk n _ (by omega) (by omega) (by omega) (by omega)).mono ?_
          rintro e w6 ⟨g, rfl, hA, hb6⟩
          obtain ⟨D, HD⟩ : ∃ D, Hid (digs n kk q = D) := ⟨_, rfl⟩
          have HDL : Hid (D.length = kk) := by show _ = _; rw [← HD.out, digs_len]
          have HDB : Hid (∀ x ∈ D, x < n) := by show ∀ x ∈ D, _; rw [← HD.out]; exact fun x hx => digs_lt (by omega) hx
          rw [HD.out] at hA
          have HJ2 : Hid (idx n (D.map (nmAt s)) = J) := by show _ = _; rw [← HD.out]; exact HJ.out
          clear cQ0 cQ1 cP0 hcu
          go_wp2_with fail
          go_loopw [39] (fun i wj => ∃ j : Nat, j ≤ kk ∧ i = .int .i64 j ∧ wj.ownsRow wi.heap.size 3 1 (.slice (some ⟨g, 0, none⟩) kk kk) kk (ints (nats (mixD s D j))) ∧ Below wi.heap.size wi wj) (fun i _ => kk - (intOf i).toNat)
          case atStart => exact ⟨0, Nat.zero_le _, rfl, hA, hb6⟩
          case round =>
            clear hA hb6
            obtain ⟨j, hj, rfl, hA, hTj⟩ := hrel
            have hTw := below_next hTi hTj rfl
            by_cases hltj : j < kk
            · have hj0 : (0 : Int) ≤ (j : Int) := by omega
              have hj1 : (j : Int) < (kk : Int) := by omega
              obtain ⟨dj, hdj⟩ : ∃ dj, D[j]? = some dj := ⟨_, List.getElem?_eq_getElem (by rw [HDL.out]; exact hltj)⟩
              have hdn := HDB.out dj (List.mem_of_getElem? hdj)
              obtain ⟨v', hv', hvn, hnm'⟩ := HPM.out.at hdn
              obtain ⟨nb, no, nv, nx, rfl, hcn, ⟨rfl, -⟩, -, hxn⟩ := (hs.next stab_RI hTw).at (k := dj) hdn
              rw [hv'] at hxn
              injection hxn with hxn
              subst hxn
              have hcell : wr.cell? ⟨g, j, none⟩ = some (.int .i64 (dj : Int)) := (hA.cellAt j (by omega)).trans (by show (List.map (Value.int .i64) (nats (mixD s D j)))[j]? = _; rw [List.getElem?_map, nats_at (mixD_get hdj)]; rfl)
              have hfz : wr.frozen? ⟨g, j, none⟩ = false := hA.frozenAt j
              have hst := (hA.stored j (.int .i64 (v' : Int))).1
              rw [ints_set, nats_set, ← hnm', mixD_next hdj, hnm'] at hst
              have hgl2 := (hA.lt g rfl).1
              have hd0 : (0 : Int) ≤ (dj : Int) := by omega
              have hd1 : (dj : Int) < (n : Int) := by omega
              have HST2 := Lib.hid hst
              clear hst hdj hv' hnm'
              go_wp2_with fail
              go_roundw
              case rel => exact ⟨j + 1, by omega, by go_num, HST2.out, hTj.setCell hgl2 _⟩
              case measure => simp [intOf]; omega
            · obtain rfl : j = kk := by omega
              have hlt' : ¬ (j : Int) < (j : Int) := by omega
              have HMB : Hid (∀ d ∈ D.map (nmAt s), d < n) := by
                intro d hd
                rw [List.mem_map] at hd
                obtain ⟨x, hx, rfl⟩ := hd
                obtain ⟨v', -, hv, e⟩ := HPM.out.at (HDB.out x hx)
                omega
              rw [mixD_all (by rw [HDL.out]; exact Nat.le_refl _)] at hA
              have RA : RdL RI wr (some ⟨g, 0, none⟩) j (nats (D.map (nmAt s))) := rd_of_own (R := RI) hA (nats_R (b := n) (fun d hd => Nat.le_of_lt (HMB.out d hd)) (by omega))
              have hPj := hPO.next hTj
              have BPj := BP.next hTj
              have BRj := BR.next hTj
              have BBj := BB.next hTj
              have BQj := BQ.next hTj
              obtain ⟨gO, cap, tb, dt, hv, -, cT, hlo, hhi, hfz, hcl, htm, hset⟩ := hPj.tab (k := k) (a := (j : Int)) (t := renTo n j s ty ty q) (by rw [List.getElem?_set_self (by rw [opsTo_len]; exact hlt)]) (by intro e0; have := congrArg List.length e0; rw [renTo_len] at this; simp at this; rw [this] at hltq; simp at hltq)
              injection hv with hv1 hv2 hv3
              subst hv1
              rw [renTo_len] at cT
              have fJ := hfz J
              obtain ⟨x0, hx0⟩ : ∃ x0, (renTo n j s ty ty q)[J]? = some x0 := ⟨_, List.getElem?_eq_getElem (by rw [renTo_len]; exact hJ)⟩
              have cJ := hcl J x0 hx0
              obtain ⟨nb, no, nv, nx, rfl, hcn, ⟨rfl, -⟩, -, hxn⟩ := (hs.next stab_RI hTw).at (k := u) hun
              rw [HNM.out] at hxn
              injection hxn with hxn
              subst hxn
              have n5 : nb ≠ tb := by
                obtain ⟨v8, x8, hc8, -⟩ := hs.at' (k := u) hun
                have := cell_lt hc8
                have := HZ0.out
                have h9 : nb < w.heap.size := by assumption
                omega
              have n6 : b' ≠ tb := by
                obtain ⟨v8, x8, hc8, -⟩ := qt.at' hltq
                have h9 : b' < w.heap.size := cell_lt hc8
                have := HZ0.out
                omega
              have n7 : gO ≠ tb := fun e => (List.nodup_append.1 hPj.2.2.1).2.2 gO (by simp [obl, Value.ownBlock]) tb htm e
              obtain ⟨uv, ux, hcu, ⟨rfl, -⟩, -, hux⟩ := (qt.next stab_RI hTw).at' hltq
              rw [HXU.out] at hux
              injection hux with hux
              subst hux
              have HS2 := hset J (nm : Int) ⟨by omega, by omega⟩
              rw [List.set_set] at HS2
              have HS3 : Hid (PO w0.heap.size (wr.setCell ⟨tb, J, none⟩ (.int .i64 (nm : Int))) (.slice (some ⟨gO, 0, none⟩) ops.length vc) ((opsTo n s ops k).set k ((j : Int), renTo n j s ty ty (q + 1))) css bls) := by show PO _ _ _ _ _ _; rw [HSTEP.out]; exact HS2
              have hz0 := HZ0.out
              have n1 : w.heap.size ≠ tb := by omega
              have n2 : w.heap.size + 1 ≠ tb := by omega
              have n3 : w1.heap.size ≠ tb := fun e => HGB.out (by rw [e]; exact List.mem_append_right _ htm)
              have n4 : wo.heap.size ≠ tb := fun e => HQW.out (by rw [e]; exact List.mem_append_right _ htm)
              have HBL := Lib.hid (And.intro (BPj.far (p := ⟨tb, J, none⟩) n1 (.int .i64 (nm : Int))) (And.intro (BRj.far (p := ⟨tb, J, none⟩) n2 (.int .i64 (nm : Int))) (And.intro (BBj.far (p := ⟨tb, J, none⟩) n3 (.int .i64 (nm : Int))) (And.intro (BQj.far (p := ⟨tb, J, none⟩) n4 (.int .i64 (nm : Int))) (hTw.setCell (p := ⟨tb, J, none⟩) (show w.heap.size ≤ tb by omega) (.int .i64 (nm : Int)))))))
              have cB1 := BBj.cell 1
              have cP0 := BPj.cell 0
              simp at cB1 cP0
              have hJ0 : (0 : Int) ≤ (J : Int) := by omega
              have hJ1 : (J : Int) < (ty.length : Int) := by omega
              have hu0 : (0 : Int) ≤ (u : Int) := by omega
              have hu1 : (u : Int) < (n : Int) := by omega
              clear hfz hcl hset HS2 hx0 hPj BPj BRj BBj BQj hz0 hv2 hv3 hA htm
              go_upto_region 14 with fail
              have Tk : Below wr.heap.size wr wr := Below.refl _ _
              have HKD : (wr.setCell ⟨tb, J, none⟩ (.int .i64 (nm : Int))).drew.cell? ⟨w.heap.size, 0, none⟩ = some (.int .i64 (n : Int)) ∧ (wr.setCell ⟨tb, J, none⟩ (.int .i64 (nm : Int))).drew.cell? ⟨w1.heap.size, 1, none⟩ = some (.slice (some ⟨gO, 0, none⟩) ops.length vc) ∧ (wr.setCell ⟨tb, J, none⟩ (.int .i64 (nm : Int))).drew.cell? ⟨gO, k * 2 + 1, none⟩ = some (.slice (some ⟨tb, 0, none⟩) ty.length dt) ∧ (wr.setCell ⟨tb, J, none⟩ (.int .i64 (nm : Int))).drew.cell? ⟨nb, no + u, none⟩ = some (.int .i64 (nm : Int)) ∧ (wr.setCell ⟨tb, J, none⟩ (.int .i64 (nm : Int))).drew.cell? ⟨b', o' + q, none⟩ = some (.int .i64 (u : Int)) := ⟨cell_farD n1 cP0, cell_farD n3 cB1, cell_farD n7 cT, cell_farD n5 hcn, cell_farD n6 hcu⟩
              go_region_held3 (fun w' => w'.cell? ⟨w.heap.size, 0, none⟩ = some (.int .i64 (n : Int)) ∧ w'.cell? ⟨w1.heap.size, 1, none⟩ = some (.slice (some ⟨gO, 0, none⟩) ops.length vc) ∧ w'.cell? ⟨gO, k * 2 + 1, none⟩ = some (.slice (some ⟨tb, 0, none⟩) ty.length dt) ∧ w'.cell? ⟨nb, no + u, none⟩ = some (.int .i64 (nm : Int)) ∧ w'.cell? ⟨b', o' + q, none⟩ = some (.int .i64 (u : Int))) (first | go_keep | exact ⟨keepc Tk cP0, keepc Tk cB1, keepc Tk cT, keepc Tk hcn, keepc Tk hcu⟩ | exact HKD | exact ⟨cell_farD n1 cP0, cell_farD n3 cB1, cell_farD n7 cT, cell_farD n5 hcn, cell_farD n6 hcu⟩ | exact ⟨cell_far n1 cP0, cell_far n3 cB1, cell_far n7 cT, cell_far n5 hcn, cell_far n6 hcu⟩) (first
                | (go_at_call 110; refine (indexOf_any _ j j n (D.map (nmAt s)) _ (by first | exact RA | exact RA.drew stab_RI) (by omega) (by omega) HMB.out).mono ?_; rintro e w' ⟨rfl, rfl⟩; rw [HJ2.out]))
              all_goals
                go_wp2_with fail
                go_roundw
                case rel => exact ⟨q + 1, by omega, by go_num, HBL.out.1.drew, HBL.out.2.1.drew, HBL.out.2.2.1.drew, HBL.out.2.2.2.1.drew, HS3.out.next (Below.drew (Below.refl _ _)), Below.drew HBL.out.2.2.2.2⟩
                case measure => simp [intOf]; omega
        · have hqe : q = ty.length := by omega
          have hlt' : ¬ (q : Int) < (ty.length : Int) := by omega
          have HPN : Hid (PO w0.heap.size wr (.slice VA ops.length vc) (opsTo n s ops (k + 1)) css bls) := by
            show PO _ _ _ _ _ _
            rw [← opsTo_next HYK.out, HRO.out, ← hqe]
            exact hPO
          clear hqe
          go_wp2_with fail
          go_roundw
          case rel => exact ⟨k + 1, by omega, by go_num, BP, BR, BB, HPN.out, hTi⟩
          case measure => simp [intOf]; omega
    · have hlt' : ¬ (k : Int) < (ops.length : Int) := by omega
      rw [opsTo_all (by omega)] at hPO
      have hlow : w.heap.size ≤ w0.heap.size := by have := HZ0.out; omega
      have hPF := ((hPO.far (p := ⟨w.heap.size + 1, 0, none⟩) (by have := HZ0.out; show w.heap.size + 1 < w0.heap.size; omega) (.int .i64 (n : Int))).far (p := ⟨w.heap.size + 1, 1, none⟩) (by have := HZ0.out; show w.heap.size + 1 < w0.heap.size; omega) (.slice VA ops.length vc)).mono hlow
      have hTF := (hT.setCell (p := ⟨w.heap.size + 1, 0, none⟩) (by show _ ≤ _; simp) (.int .i64 (n : Int))).setCell (p := ⟨w.heap.size + 1, 1, none⟩) (by show _ ≤ _; simp) (.slice VA ops.length vc)
      have cO0 := BB.cell 0
      have cO1 := BB.cell 1
      have cR0 := BR.cell 0
      have cR1 := BR.cell 1
      have fR0 := BR.frozen 0
      have fR1 := BR.frozen 1
      have BRR : Blk ((wr.setCell ⟨w.heap.size + 1, 0, none⟩ (.int .i64 (n : Int))).setCell ⟨w.heap.size + 1, 1, none⟩ (.slice VA ops.length vc)) (w.heap.size + 1) 27 #[.int .i64 (n : Int), .slice VA ops.length vc] := by simpa using ((BR.set_ 0 (.int .i64 (n : Int))).set_ 1 (.slice VA ops.length vc))
      have HPF := Lib.hid hPF
      have n8 : ¬ w.heap.size + 1 = w1.heap.size := by have := HZ0.out; omega
      have n9 : ¬ w1.heap.size = w.heap.size + 1 := fun e => n8 e.symm
      have cO1' : (wr.setCell ⟨w.heap.size + 1, 0, none⟩ (.int .i64 (n : Int))).cell? ⟨w1.heap.size, 1, none⟩ = some (.slice VA ops.length vc) := cell_far (p := ⟨w.heap.size + 1, 0, none⟩) (a := ⟨w1.heap.size, 1, none⟩) n9 (by simpa using cO1)
      simp at cO0 cO1 cR0 cR1
      clear hPF hPO
      go_wp2_with fail
      (try simp only [Exit.inBlock, Exit.then])
      refine bodyPost_ret (v := .agg #[.int .i64 (n : Int), .slice VA ops.length vc]) (results_cell_row rfl _ _ (w.heap.size + 1) 27 #[.int .i64 (n : Int), .slice VA ops.length vc] (0, 0) _ (by simp) BRR Try.underlying27 rfl (by kernel_rfl)) rfl ?_
      exact ⟨_, css, bls, rfl, HPF.out, hTF⟩
end Go.Proofs.Ytkmgbdljiajlaaa
namespace Go.Proofs.Ytkmgbdljiajlaaa
open Go.RowKit

theorem run_mk (L : Nat) (b : L ≤ 1048576) : ∃ M : Array Value, M.toList = ints (List.replicate L 0) ∧ ∀ w : World, (Instr.makeSlice 55 (.int .i64 (L : Int)) (.int .i64 (L : Int))).run Try.prog w = .ok (.slice (some ⟨w.heap.size, 0, none⟩) L L) (w.alloc (.cells M 3)) := by
  obtain ⟨i0, hi, hz0, hz1, hz2⟩ := info_parts info_int
  refine ⟨madeCells (Value.int .i64 0).cells (L * 1), ?_, fun w => ?_⟩
  · rw [Nat.mul_one, ints_rep]
    exact toList_madeCells_one (.int .i64 0) L
  · have hr := run_make (P := Try.prog) w 55 3 i0 (.int .i64 0) Try.underlying55 hi hz0 .i64 .i64 L L (by omega) (Int.le_refl _) (by rw [hz2]; omega) (by omega)
    simp only [Int.toNat_natCast] at hr
    rw [hz1] at hr
    exact hr
theorem mk_own {w : World} {M : Array Value} {L : Nat} (hM : M.toList = ints (List.replicate L 0)) (hL : L ≤ 1048576) {lo : Nat} (hlo : lo ≤ w.heap.size) : (w.alloc (.cells M 3)).ownsRow lo 3 1 (.slice (some ⟨w.heap.size, 0, none⟩) L L) L (ints (List.replicate L 0)) := by
  have hs : M.size = L * 1 := by rw [← Array.length_toList, hM]; simp [ints]
  have := World.ownsRow_lit (e := 3) (size := 1) w M L hlo (by unfold maxLen; omega) hs
  rw [hM] at this
  exact this

set_option maxRecDepth 20000 in
set_option maxHeartbeats 8000000 in
theorem l2Rename8_any (cs : List Value) (x : AlgebraM) (N : Option Addr) (n cN : Nat) (s : List Int) (w : World) (h : shAlgebra.rd w cs x) (hs : RdL RI w N n s) (hx : AlgP x) (hp : PermL x.1.toNat s) :
    Calls Try.prog 62 #[.agg cs.toArray, .slice N n cN] w (AlgE w (ren x s)) := by
  obtain ⟨a, ops⟩ := x
  obtain ⟨z, rfl⟩ : ∃ z : Nat, a = (z : Int) := ⟨a.toNat, by have h1 : 1 ≤ a := hx.1; omega⟩
  have hz1 : 1 ≤ z := by have h1 : (1 : Int) ≤ (z : Int) := hx.1; omega
  have hz5 : z ≤ 8 := by have h1 : (z : Int) ≤ 8 := hx.2.1; omega
  have hm4 : ops.length ≤ 4 := hx.2.2.1
  have HOP : Hid (∀ o ∈ ops, OpP z o) := fun o ho => by have := hx.2.2.2 o ho; simpa using this
  have HPM : Hid (PermL z s) := by show PermL z s; simpa using hp
  have hnz : n = z := by rw [← hs.len]; exact HPM.out.1
  subst hnz
  have HREN : Hid (ren ((n : Int), ops) s = ((n : Int), ops.map (renOp n s))) := by show _ = _; unfold ren; simp
  obtain ⟨B, m, d, rfl, qs, qo⟩ := rdAlgebra h
  obtain rfl : ops.length = m := qo.len
  obtain ⟨w0, hw0, T0, hs0, BP, BR, BO⟩ := boxes3 w #[.int .i64 (n : Int), .slice B ops.length d] #[.int .i64 0, .slice none 0 0] #[.int .i64 (n : Int), .slice none 0 0] 27 27
  have HW0 : Hid (_ = w0) := hw0.symm
  have HZ0 := Lib.hid hs0
  have hPO0 : PO w0.heap.size w0 (.slice none 0 0) ((ops.take 0).map (renOp n s)) [] [] := PO.nil _ _
  have cP0 := BP.cell 0
  have cP1 := BP.cell 1
  simp at cP0 cP1
  rw [hw0] at cP0 cP1
  have cP0' := ((Blk.new w 27 #[.int .i64 (n : Int), .slice B ops.length d]).alloc (.cells #[.int .i64 0, .slice none 0 0] 27)).cell 0
  simp at cP0'
  rw [HREN.out]
  clear hw0 hs0 hp hx h
  go_enter Try.func62, Try.ntmps62
  go_wp2_with fail
  clear cP0 cP1 cP0'
  go_loopw [6] (fun i wr => ∃ (k : Nat) (v : Value) (css : List (List Value)) (bls : List (List Nat)), k ≤ ops.length ∧ i = .int .i64 k ∧ Blk wr w.heap.size 27 #[.int .i64 (n : Int), .slice B ops.length d] ∧ Blk wr (w.heap.size + 1) 27 #[.int .i64 0, .slice none 0 0] ∧ Blk wr (w.heap.size + 1 + 1) 27 #[.int .i64 (n : Int), v] ∧ PO w0.heap.size wr v ((ops.take k).map (renOp n s)) css bls ∧ Below w.heap.size w wr) (fun i _ => ops.length - (intOf i).toNat)
  case atStart =>
    rw [HW0.out]
    exact ⟨0, _, _, _, Nat.zero_le _, rfl, BP, BR, BO, hPO0, T0⟩
  case round =>
    clear hPO0 BP BR BO T0
    obtain ⟨k, v, css, bls, hk, rfl, BP, BR, BO, hPO, hT⟩ := hrel
    have cP1 := BP.cell 1
    simp at cP1
    by_cases hlt : k < ops.length
    · obtain ⟨wo, hwo⟩ : ∃ wo : World, wo = wr := ⟨_, rfl⟩
      subst hwo
      have hk0 : (0 : Int) ≤ (k : Int) := by omega
      have hk1 : (k : Int) < (ops.length : Int) := by omega
      obtain ⟨b, o, vs, y, rfl, -, hc, hr, -, hyk⟩ := qo.at hlt
      obtain ⟨ya, ty⟩ := y
      have hyp := HOP.out (ya, ty) (List.mem_of_getElem? hyk)
      obtain ⟨kk, rfl⟩ : ∃ kk : Nat, ya = (kk : Int) := ⟨ya.toNat, by have h1 : 0 ≤ ya := hyp.1; omega⟩
      obtain ⟨B', m', d', rfl, qa, qt⟩ := rdOp hr
      obtain rfl : ty.length = m' := qt.len
      have hkk3 : kk ≤ 3 := by have h1 : (kk : Int) ≤ 3 := hyp.2.1; omega
      have HYL : Hid (ty.length = n ^ kk) := by show _ = _; have := hyp.2.2.1; simpa using this
      have HYB : Hid (∀ v ∈ ty, 0 ≤ v ∧ v ≤ (n : Int) - 1) := hyp.2.2.2
      obtain ⟨L, hL⟩ : ∃ L, ty.length = L := ⟨_, rfl⟩
      have HLT := Lib.hid hL
      have hyl8 : L ≤ 4096 := by rw [← hL, HYL.out]; exact pow_bd (by omega) (by omega)
      have HLP : Hid (L = n ^ kk) := by show _ = _; rw [← hL]; exact HYL.out
      have HRO : Hid (renOp n s ((kk : Int), ty) = ((kk : Int), renTo n kk s ty (List.replicate L 0) L)) := by
        show _ = _
        unfold renOp
        simp only [Int.toNat_natCast]
        rw [HYL.out, HLP.out, renTo_any (T := ty) (T' := List.replicate (n ^ kk) 0) (by omega) HPM.out HYL.out (by simp)]
      rw [hL] at hc qt
      have cc0w : w.cell? ⟨b, o + k * 2, none⟩ = some (.int .i64 (kk : Int)) := hc 0 _ rfl
      have cc1w : w.cell? ⟨b, o + k * 2 + 1, none⟩ = some (.slice B' L d') := hc 1 _ rfl
      have cc0 := keepc hT cc0w
      have cc1 := keepc hT cc1w
      have HYK := Lib.hid hyk
      clear hc hr hyk hyp hL
      go_upto_region 5 with fail
      go_cut [7] (fun v7 wx => ∃ g gq, v7 = .pointer (some ⟨gq, 0, none⟩) ∧ Blk wx gq 92 #[.int .i64 (kk : Int), .slice (some ⟨g, 0, none⟩) L L] ∧ wx.ownsRow wo.heap.size 3 1 (.slice (some ⟨g, 0, none⟩) L L) L (ints (List.replicate L 0)) ∧ wo.heap.size ≤ gq ∧ Below wo.heap.size wo wx)
      case first =>
        obtain ⟨M, hM, HMK⟩ := run_mk L (by omega)
        have HM := Lib.hid hM
        clear hM
        have cP1a := keepc (below_box wo (.cells #[.int .i64 0, .slice none 0 0] 92)) (cP1)
        have cc0a := keepc (below_box wo (.cells #[.int .i64 0, .slice none 0 0] 92)) (cc0)
        have cc1a := keepc (below_box wo (.cells #[.int .i64 0, .slice none 0 0] 92)) (cc1)
        have cP1b := keepc (below_box wo (.cells M 3)) (cP1)
        have cc0b := keepc (below_box wo (.cells M 3)) (cc0)
        have cc1b := keepc (below_box wo (.cells M 3)) (cc1)
        have cP1c := keepc (below_box (wo.alloc (.cells #[.int .i64 0, .slice none 0 0] 92)) (.cells M 3)) (keepc (below_box wo (.cells #[.int .i64 0, .slice none 0 0] 92)) (cP1))
        have cc0c := keepc (below_box (wo.alloc (.cells #[.int .i64 0, .slice none 0 0] 92)) (.cells M 3)) (keepc (below_box wo (.cells #[.int .i64 0, .slice none 0 0] 92)) (cc0))
        have cc1c := keepc (below_box (wo.alloc (.cells #[.int .i64 0, .slice none 0 0] 92)) (.cells M 3)) (keepc (below_box wo (.cells #[.int .i64 0, .slice none 0 0] 92)) (cc1))
        have cP1d := keepc (below_box (wo.alloc (.cells M 3)) (.cells #[.int .i64 0, .slice none 0 0] 92)) (keepc (below_box wo (.cells M 3)) (cP1))
        have cc0d := keepc (below_box (wo.alloc (.cells M 3)) (.cells #[.int .i64 0, .slice none 0 0] 92)) (keepc (below_box wo (.cells M 3)) (cc0))
        have cc1d := keepc (below_box (wo.alloc (.cells M 3)) (.cells #[.int .i64 0, .slice none 0 0] 92)) (keepc (below_box wo (.cells M 3)) (cc1))
        go_region
        all_goals
          go_wp2_with fail
          go_meet
        · refine ⟨wo.heap.size, wo.heap.size + 1, rfl, ?_, ?_, by omega, Below.drew (below_box2 _ _ _)⟩
          · have := Blk.new (wo.alloc (.cells M 3)) 92 #[.int .i64 (kk : Int), .slice (some ⟨wo.heap.size, 0, none⟩) L L]
            rw [World.size_alloc] at this
            exact this.drew
          · exact own_same ((mk_own HM.out (by omega) (Nat.le_refl _)).alloc _) fun _ _ => rfl
        · refine ⟨wo.heap.size + 1, wo.heap.size, rfl, ?_, ?_, Nat.le_refl _, Below.drew (below_box2 _ _ _)⟩
          · exact ((Blk.new wo 92 #[.int .i64 (kk : Int), .slice (some ⟨wo.heap.size + 1, 0, none⟩) L L]).alloc _).drew
          · have := mk_own (w := wo.alloc (.cells #[.int .i64 (kk : Int), .slice (some ⟨wo.heap.size + 1, 0, none⟩) L L] 92)) HM.out (by omega) (lo := wo.heap.size) (by simp)
            rw [World.size_alloc] at this
            exact own_same this fun _ _ => rfl
      case rest =>
        obtain ⟨g, gq, rfl, BQ, hown, hgq, hTc⟩ := hcut
        obtain ⟨w5, HWC⟩ : ∃ wq : World, wq = wc := ⟨_, rfl⟩
        subst HWC
        have hdt := hT.size
        have hbw : b < w.heap.size := cell_lt cc0w
        clear cc0 cc1 cP1
        have cQ1 := BQ.cell 1
        simp at cQ1
        go_wp2_with fail
        clear cQ1
        go_loopw [8] (fun i wi => ∃ q : Nat, q ≤ L ∧ i = .int .i64 q ∧ Blk wi gq 92 #[.int .i64 (kk : Int), .slice (some ⟨g, 0, none⟩) L L] ∧ wi.ownsRow wo.heap.size 3 1 (.slice (some ⟨g, 0, none⟩) L L) L (ints (renTo n kk s ty (List.replicate L 0) q)) ∧ Below wo.heap.size wo wi) (fun i _ => L - (intOf i).toNat)
        case atStart => exact ⟨0, Nat.zero_le _, rfl, BQ, hown, hTc⟩
        case round =>
          clear BQ hown hTc
          obtain ⟨q, hq, rfl, BQ, hown, hTi⟩ := hrel
          have hTwi := below_next hT hTi rfl
          have cQ0 := BQ.cell 0
          have cQ1 := BQ.cell 1
          simp at cQ0 cQ1
          by_cases hltq : q < L
          · obtain ⟨wi, hwi⟩ : ∃ wi : World, wi = wr := ⟨_, rfl⟩
            subst hwi
            have hq0 : (0 : Int) ≤ (q : Int) := by omega
            have hq1 : (q : Int) < (L : Int) := by omega
            obtain ⟨b', o', u0, u, rfl, hcu, ⟨rfl, -⟩, -, hxu⟩ := qt.at hltq
            have hub := HYB.out u (List.mem_of_getElem? hxu)
            obtain ⟨u, rfl⟩ := Int.eq_ofNat_of_zero_le hub.1
            have hun : u < n := by omega
            obtain ⟨J, HJ⟩ : ∃ J, Hid (toI n kk s q = J) := ⟨_, rfl⟩
            have hJ : J < L := by rw [← HJ.out, HLP.out]; exact toI_lt (by omega) HPM.out q
            obtain ⟨nm, hnm1, hnmn, hnm2⟩ := HPM.out.at hun
            have HSTEP : Hid (renTo n kk s ty (List.replicate L 0) (q + 1) = (renTo n kk s ty (List.replicate L 0) q).set J (nm : Int)) := by
              show _ = _
              rw [renTo, HJ.out, List.getD_eq_getElem?_getD, hxu]
              show (renTo n kk s ty (List.replicate L 0) q).set J (nmI s (u : Int)) = _
              have := nmI_get hnm1
              rw [this]
            obtain ⟨nb, no, nv, nx, rfl, hcn, ⟨rfl, -⟩, -, hxn⟩ := hs.at (k := u) hun
            rw [hnm1] at hxn
            injection hxn with hxn
            subst hxn
            have hbw2 : b' < w.heap.size := cell_lt hcu
            have hbw3 : nb < w.heap.size := cell_lt hcn
            have BPi := BP.next hTi
            have cP0 := BPi.cell 0
            simp at cP0
            clear hxu hub hnm1 hnm2
            go_wp2_with fail
            refine (l2Args_any q kk n _ (by omega) (by omega) (by omega) (by omega)).mono ?_
            rintro e w6 ⟨ga, rfl, hA, hb6⟩
            obtain ⟨D, HD⟩ : ∃ D, Hid (digs n kk q = D) := ⟨_, rfl⟩
            have HDL : Hid (D.length = kk) := by show _ = _; rw [← HD.out, digs_len]
            have HDB : Hid (∀ x ∈ D, x < n) := by show ∀ x ∈ D, _; rw [← HD.out]; exact fun x hx => digs_lt (by omega) hx
            rw [HD.out] at hA
            have HJ2 : Hid (idx n (D.map (nmAt s)) = J) := by show _ = _; rw [← HD.out]; exact HJ.out
            have HMB : Hid (∀ d ∈ D.map (nmAt s), d < n) := by
              intro d hd
              rw [List.mem_map] at hd
              obtain ⟨x, hx, rfl⟩ := hd
              obtain ⟨v', -, hv, e⟩ := HPM.out.at (HDB.out x hx)
              omega
            have hT6 := below_next hTwi hb6 rfl
            have BP6 := BPi.next hb6
            have RA : RdL RI w6 (some ⟨ga, 0, none⟩) kk (nats D) := rd_of_own (R := RI) hA (nats_R (b := n) (fun d hd => Nat.le_of_lt (HDB.out d hd)) (by omega))
            clear cQ0 cQ1 cP0 hA
            go_wp2_with fail
            go_loopw [10, 11] (fun v i wj => ∃ j : Nat, j ≤ kk ∧ i = .int .i64 j ∧ v = .int .i64 (idx n ((D.map (nmAt s)).take j) : Nat) ∧ Below w6.heap.size w6 wj) (fun _ i _ => kk - (intOf i).toNat)
            case atStart => exact ⟨0, Nat.zero_le _, rfl, rfl, Below.refl _ _⟩
            case round =>
              obtain ⟨j, hj, rfl, rfl, hTj⟩ := hrel
              obtain ⟨P, HP⟩ : ∃ P, Hid (idx n ((D.map (nmAt s)).take j) = P) := ⟨_, rfl⟩
              have hP : P ≤ 4096 := by
                rw [← HP.out]
                have := idx_small (n := n) (by omega) (l := (D.map (nmAt s)).take j) (by rw [List.length_take, List.length_map, HDL.out]; omega) fun d hd => HMB.out d (List.mem_of_mem_take hd)
                omega
              rw [HP.out]
              have hTjw := below_next hT6 hTj rfl
              by_cases hltj : j < kk
              · have hj0 : (0 : Int) ≤ (j : Int) := by omega
                have hj1 : (j : Int) < (kk : Int) := by omega
                obtain ⟨dj, hdj⟩ : ∃ dj, D[j]? = some dj := ⟨_, List.getElem?_eq_getElem (by rw [HDL.out]; exact hltj)⟩
                have hdn := HDB.out dj (List.mem_of_getElem? hdj)
                obtain ⟨v', hv', hvn, hnm'⟩ := HPM.out.at hdn
                obtain ⟨nv, nx, hcn', ⟨rfl, -⟩, -, hxn⟩ := (hs.next stab_RI hTjw).at' (k := dj) hdn
                rw [hv'] at hxn
                injection hxn with hxn
                subst hxn
                obtain ⟨av, ax, hca, ⟨rfl, -⟩, -, hxa⟩ := (RA.next stab_RI hTj).at' hltj
                rw [Nat.zero_add] at hca
                rw [nats_at hdj] at hxa
                injection hxa with hxa
                subst hxa
                have cP0 := (BP6.next hTj).cell 0
                simp at cP0
                have HT : Hid (idx n ((D.map (nmAt s)).take (j + 1)) = P * n + v') := by
                  show _ = _
                  rw [idx_take (d := v') (by rw [List.getElem?_map, hdj]; simp [hnm']), HP.out]
                have hM : P * n ≤ 4096 * 8 := Nat.mul_le_mul hP (by omega)
                have hm0 : (0 : Int) ≤ (P : Int) * (n : Int) := by rw [← Int.natCast_mul]; omega
                have hm1 : (P : Int) * (n : Int) ≤ 32768 := by rw [← Int.natCast_mul]; omega
                have HE : Hid ((P : Int) * (n : Int) = ((P * n : Nat) : Int)) := (Int.natCast_mul _ _).symm
                have hd0 : (0 : Int) ≤ (dj : Int) := by omega
                have hd1 : (dj : Int) < (n : Int) := by omega
                have HVN := Lib.hid hvn
                have hvm : (v' : Int) ≤ 8 := by omega
                clear hM hdj hv' hnm' hvn
                go_upto_region 14 with fail
                go_quiet (fail)
                go_wp2_with fail
                go_roundw
                case rel => exact ⟨j + 1, by omega, by go_num, by rw [HT.out, HE.out]; simp, by first | exact hTj | exact below_drewN hTj _⟩
                case measure => simp [intOf]; omega
              · have hlt' : ¬ (j : Int) < (kk : Int) := by omega
                have hPJ : P = J := by rw [← HP.out, ← HJ2.out, List.take_of_length_le (by rw [List.length_map, HDL.out]; omega)]
                subst hPJ
                have hTir := below_next hb6 hTj rfl
                have hownr := own_next hown hTir
                have BQr := BQ.next hTir
                have BPr := BP6.next hTj
                have cQ1 := BQr.cell 1
                have cP1 := BPr.cell 1
                simp at cQ1 cP1
                have cc1 := keepc hTjw cc1w
                have hcu2 := keepc hTjw hcu
                have hcn2 := keepc hTjw hcn
                obtain ⟨x0, hx0⟩ : ∃ x0, (ints (renTo n kk s ty (List.replicate L 0) q))[P]? = some x0 := ⟨_, List.getElem?_eq_getElem (by rw [ints_len, renTo_len]; simp; exact hJ)⟩
                have cJ : wr.cell? ⟨g, P, none⟩ = some x0 := (hownr.cellAt P (by omega)).trans hx0
                have fJ := hownr.frozenAt P
                have hgo := (hownr.lt g rfl).1
                have hst := (hownr.stored P (.int .i64 (nm : Int))).1
                rw [ints_set, ← HSTEP.out] at hst
                have hwl := BP.lt
                have n1 : w.heap.size ≠ g := by omega
                have n2 : gq ≠ g := fun e => own_off hownr BQr (by decide) (by rw [e]; rfl)
                have n3 : b ≠ g := by omega
                have n4 : b' ≠ g := by omega
                have n5 : nb ≠ g := by omega
                have HFIN := Lib.hid (And.intro (BQr.far (p := ⟨g, P, none⟩) n2 (.int .i64 (nm : Int))) (And.intro hst ((below_next hTi hTir rfl).setCell (p := ⟨g, P, none⟩) hgo (.int .i64 (nm : Int)))))
                have hP0 : (0 : Int) ≤ (P : Int) := by omega
                have hP1 : (P : Int) < (L : Int) := by omega
                have hu0 : (0 : Int) ≤ (u : Int) := by omega
                have hu1 : (u : Int) < (n : Int) := by omega
                clear hst hownr hx0 hown hcu hcn cc1w cc0w BQr BPr
                go_upto_region 15 with fail
                have Tk : Below wr.heap.size wr wr := Below.refl _ _
                have HKD : (wr.setCell ⟨g, P, none⟩ (.int .i64 (nm : Int))).drew.cell? ⟨gq, 1, none⟩ = some (.slice (some ⟨g, 0, none⟩) L L) ∧ (wr.setCell ⟨g, P, none⟩ (.int .i64 (nm : Int))).drew.cell? ⟨w.heap.size, 1, none⟩ = some (.slice (some ⟨b, o, none⟩) ops.length d) ∧ (wr.setCell ⟨g, P, none⟩ (.int .i64 (nm : Int))).drew.cell? ⟨b, o + k * 2 + 1, none⟩ = some (.slice (some ⟨b', o', none⟩) L d') ∧ (wr.setCell ⟨g, P, none⟩ (.int .i64 (nm : Int))).drew.cell? ⟨b', o' + q, none⟩ = some (.int .i64 (u : Int)) ∧ (wr.setCell ⟨g, P, none⟩ (.int .i64 (nm : Int))).drew.cell? ⟨nb, no + u, none⟩ = some (.int .i64 (nm : Int)) := ⟨cell_farD n2 cQ1, cell_farD n1 cP1, cell_farD n3 cc1, cell_farD n4 hcu2, cell_farD n5 hcn2⟩
                go_region_held3 (fun w' => w'.cell? ⟨gq, 1, none⟩ = some (.slice (some ⟨g, 0, none⟩) L L) ∧ w'.cell? ⟨w.heap.size, 1, none⟩ = some (.slice (some ⟨b, o, none⟩) ops.length d) ∧ w'.cell? ⟨b, o + k * 2 + 1, none⟩ = some (.slice (some ⟨b', o', none⟩) L d') ∧ w'.cell? ⟨b', o' + q, none⟩ = some (.int .i64 (u : Int)) ∧ w'.cell? ⟨nb, no + u, none⟩ = some (.int .i64 (nm : Int))) (first | go_keep | exact ⟨keepc Tk cQ1, keepc Tk cP1, keepc Tk cc1, keepc Tk hcu2, keepc Tk hcn2⟩ | exact HKD) (fail)
                all_goals
                  go_wp2_with fail
                  go_roundw
                  case rel => exact ⟨q + 1, by omega, by go_num, HFIN.out.1.drew, own_same HFIN.out.2.1 (fun _ _ => rfl), Below.drew HFIN.out.2.2⟩
                  case measure => simp [intOf]; omega
          · have hqe : q = L := by omega
            subst hqe
            have hlt' : ¬ (q : Int) < (q : Int) := by omega
            obtain ⟨LL, HLL⟩ : ∃ LL, Hid ((ops.take k).map (renOp n s) = LL) := ⟨_, rfl⟩
            have HLK : Hid (LL.length = k) := by show _ = _; rw [← HLL.out, List.length_map, List.length_take]; omega
            rw [HLL.out] at hPO
            have HNX : Hid ((ops.take (k + 1)).map (renOp n s) = LL ++ [((kk : Int), renTo n kk s ty (List.replicate q 0) q)]) := by
              show _ = _
              rw [take_snoc HYK.out, List.map_append, HLL.out, ← HRO.out]
              rfl
            obtain ⟨VA, vc, rfl⟩ := own_slice hPO.2.1
            have hTl : (renTo n kk s ty (List.replicate q 0) q).length = q := by rw [renTo_len, List.length_replicate]
            have hTb : ∀ y ∈ renTo n kk s ty (List.replicate q 0) q, InR y := fun y hy => by
              have := renTo_in HPM.out (fun v hv => by rw [List.mem_replicate] at hv; omega) HYB.out q (by rw [HLT.out]; exact Nat.le_refl _) y hy
              exact ⟨by omega, by omega⟩
            have hO0 : wr.ownsRow 0 3 1 (.slice (some ⟨g, 0, none⟩) q q) (renTo n kk s ty (List.replicate q 0) q).length (ints (renTo n kk s ty (List.replicate q 0) q)) := by rw [hTl]; exact own_mono hown (Nat.zero_le _)
            have how : shOp.own wr [.int .i64 (kk : Int), .slice (some ⟨g, 0, none⟩) q q] ((kk : Int), renTo n kk s ty (List.replicate q 0) q) [g] := ⟨[.int .i64 (kk : Int)], [.slice (some ⟨g, 0, none⟩) q q], [], [g], rfl, rfl, ⟨_, rfl, ⟨rfl, by omega, by omega⟩, rfl⟩, ⟨_, rfl, hO0, hTb, rfl⟩⟩
            have hgl := hown.lt g rfl
            have hwz0 : w0.heap.size ≤ wo.heap.size := by have h1 := BO.lt; have h2 := HZ0.out; omega
            obtain ⟨hvs, HPU⟩ := hPO.push hTi hwz0 how ⟨by simp, fun b hb => by simp at hb; subst hb; exact hgl⟩
            have BOr := BO.next hTi
            have BPr := BP.next hTi
            have BRr := BR.next hTi
            have cO1 := BOr.cell 1
            simp at cO1
            have hsz := hTi.size
            clear how hO0 hTb hTl hPO
            go_wp2_with (at_builtin; refine app2 wr rfl _ _ 25 92 rfl (.agg #[.int .i64 0, .slice none 0 0]) 32 Try.underlying25 info_op2 rfl (by decide) w0.heap.size LL.length vc VA css.flatten rfl hvs (.int .i64 (kk : Int)) (.slice (some ⟨g, 0, none⟩) q q) rfl rfl rfl (by have := HLK.out; omega) (by omega) ?_; intro A8 c8 w8 hown8 hg8 hb8; have BO8 := BOr.grown hg8 (fun e => own_off hvs BOr (by decide) e.symm); have BR8 := BRr.grown hg8 (fun e => own_off hvs BRr (by decide) e.symm); have BP8 := BPr.grown hg8 (fun e => own_off hvs BPr (by decide) e.symm); have cO8 := BO8.cell 1; have fO8 := BO8.frozen 1; simp at cO8)
            have PN2 := (HPU hown8 hg8).far (p := ⟨w.heap.size + 1 + 1, 1, none⟩) (by have := HZ0.out; show w.heap.size + 1 + 1 < w0.heap.size; omega) (.slice A8 (LL.length + 1) c8)
            have hT8 := (hTwi.trans (hb8.mono (by have := HZ0.out; omega))).setCell (p := ⟨w.heap.size + 1 + 1, 1, none⟩) (by show _ ≤ _; simp; try omega) (.slice A8 (LL.length + 1) c8)
            have BO9 : Blk (w8.setCell ⟨w.heap.size + 1 + 1, 1, none⟩ (.slice A8 (LL.length + 1) c8)) (w.heap.size + 1 + 1) 27 #[.int .i64 (n : Int), .slice A8 (LL.length + 1) c8] := by simpa using BO8.set_ 1 (.slice A8 (LL.length + 1) c8)
            have BR9 := BR8.far (p := ⟨w.heap.size + 1 + 1, 1, none⟩) (by simp) (.slice A8 (LL.length + 1) c8)
            have BP9 := BP8.far (p := ⟨w.heap.size + 1 + 1, 1, none⟩) (by simp; try omega) (.slice A8 (LL.length + 1) c8)
            have HFIN := Lib.hid (And.intro BP9 (And.intro BR9 (And.intro BO9 (And.intro PN2 hT8))))
            clear BO9 BR9 BP9 PN2 hT8
            go_roundw
            case rel => exact ⟨k + 1, _, _, _, by omega, by go_num, HFIN.out.1, HFIN.out.2.1, HFIN.out.2.2.1, by rw [HNX.out]; exact HFIN.out.2.2.2.1, HFIN.out.2.2.2.2⟩
            case measure => simp [intOf]; omega
    · have hke : k = ops.length := by omega
      have hlt' : ¬ (k : Int) < (ops.length : Int) := by omega
      rw [List.take_of_length_le (by omega)] at hPO
      obtain ⟨VA, vc, hv⟩ := own_slice hPO.2.1
      rw [List.length_map] at hv
      subst hv
      have hlow : w.heap.size ≤ w0.heap.size := by have := HZ0.out; omega
      have hPF := ((hPO.far (p := ⟨w.heap.size + 1, 0, none⟩) (by have := HZ0.out; show w.heap.size + 1 < w0.heap.size; omega) (.int .i64 (n : Int))).far (p := ⟨w.heap.size + 1, 1, none⟩) (by have := HZ0.out; show w.heap.size + 1 < w0.heap.size; omega) (.slice VA ops.length vc)).mono hlow
      have hTF := (hT.setCell (p := ⟨w.heap.size + 1, 0, none⟩) (by show _ ≤ _; simp) (.int .i64 (n : Int))).setCell (p := ⟨w.heap.size + 1, 1, none⟩) (by show _ ≤ _; simp) (.slice VA ops.length vc)
      have cO0 := BO.cell 0
      have cO1 := BO.cell 1
      have cR0 := BR.cell 0
      have cR1 := BR.cell 1
      have fR0 := BR.frozen 0
      have fR1 := BR.frozen 1
      have BRR : Blk ((wr.setCell ⟨w.heap.size + 1, 0, none⟩ (.int .i64 (n : Int))).setCell ⟨w.heap.size + 1, 1, none⟩ (.slice VA ops.length vc)) (w.heap.size + 1) 27 #[.int .i64 (n : Int), .slice VA ops.length vc] := by simpa using ((BR.set_ 0 (.int .i64 (n : Int))).set_ 1 (.slice VA ops.length vc))
      have HPF := Lib.hid hPF
      simp at cO0 cO1 cR0 cR1
      clear hPF hPO hke
      go_wp2_with fail
      (try simp only [Exit.inBlock, Exit.then])
      refine bodyPost_ret (v := .agg #[.int .i64 (n : Int), .slice VA ops.length vc]) (results_cell_row rfl _ _ (w.heap.size + 1) 27 #[.int .i64 (n : Int), .slice VA ops.length vc] (0, 0) _ (by simp) BRR Try.underlying27 rfl (by kernel_rfl)) rfl ?_
      exact ⟨_, css, bls, rfl, HPF.out, hTF⟩
theorem cnt_small {x : AlgebraM} (h : SmallP x) : shAlgebra.cnt x ≤ 1048576 := cnt_alg h.alg
theorem rename_any (cs : List Value) (x : AlgebraM) (N : Option Addr) (n cN : Nat) (s : List Int) (w : World) (h : shAlgebra.rd w cs x) (hs : RdL RI w N n s) (hx : SmallP x) (hp : PermL x.1.toNat s) :
    Calls Try.prog 77 #[.agg cs.toArray, .slice N n cN] w (AlgE w (ren x s)) :=
  rename8_any cs x N n cN s w h hs hx.alg hp
theorem l2Rename_any (cs : List Value) (x : AlgebraM) (N : Option Addr) (n cN : Nat) (s : List Int) (w : World) (h : shAlgebra.rd w cs x) (hs : RdL RI w N n s) (hx : SmallP x) (hp : PermL x.1.toNat s) :
    Calls Try.prog 62 #[.agg cs.toArray, .slice N n cN] w (AlgE w (ren x s)) :=
  l2Rename8_any cs x N n cN s w h hs hx.alg hp
end Go.Proofs.Ytkmgbdljiajlaaa
namespace Go.Proofs.Ytkmgbdljiajlaaa
open Go.RowKit

/-! ## append, told where the row lies -/
theorem run_append_where {P : Program} (w : World) (base : Nat) (t ty e : TypeId) (i : TypeInfo) (z : Value) (size bytes : Nat) (ht : P.underlying t = some (.slice e)) (hi : P.info? e = some i) (hz : i.zero = some z)
    (hsize : i.size = size) (hby : i.bytes = bytes) (hzs : z.cells.size = size) (hsz : 0 < size)
    (v : Value) (n : Nat) (xs : List Value) (hown : w.ownsRow base e size v n xs)
    (a : Addr) (m c : Nat) (news : List Value) (hl : news.length = m * size) (hnews : ∀ j u, news[j]? = some u → w.cell? (a.add j) = some u) (h1 : ∀ u ∈ news, u.oneCell' = true)
    (h63 : n + m ≤ maxLen) (hbytes : (n + m) * bytes ≤ 140737488355328) (v' : Value) (w' : World) (hrun : (Builtin.append_ #[t, t] ty #[v, .slice (some a) m c]).run P w = .ok v' w') :
    v'.ownBlock = v.ownBlock ∨ v'.ownBlock = some w.heap.size := by
  subst hsize
  subst hby
  have hsmall : n + m ≤ 9223372036854775807 := by simp only [maxLen] at h63; omega
  rcases hown.2 with ⟨rfl, rfl⟩ | ⟨g, cap, cur, rfl, hbg, hg, hnc, hcm, hcs, htake⟩
  · by_cases hm : m = 0
    · subst hm
      have hn : news = [] := List.eq_nil_of_length_eq_zero (by simpa using hl)
      subst hn
      have : (Builtin.append_ #[t, t] ty #[.slice none 0 0, .slice (some a) 0 c]).run P w = .ok (.slice none 0 0) w := by
        simp [Builtin.append_, run_underlying ht, sizeOf, typeInfo, hi, Builtin.lenOf, Builtin.firstCells, loadCells, loadCellsFrom]
      rw [this] at hrun
      injection hrun with h1 h2
      subst h1
      exact .inl rfl
    · have hr := run_append_nil (P := P) w t ty e i z ht hi hz a m c news hl hnews (by omega) (by omega) (by have hb := hbytes; simp only [Nat.zero_add] at hb; omega)
      rw [hr] at hrun
      injection hrun with h1 h2
      subst h1
      exact .inr rfl
  · by_cases hroom : n + m ≤ cap
    · have hfit : n * i.size + news.length ≤ cur.size := by rw [hl, hcs, ← Nat.add_mul]; exact Nat.mul_le_mul_right _ hroom
      have hr := run_append_room (P := P) w t ty e i ht hi g n cap cur hg a m c news hl hnews h1 hroom hfit
      rw [hr] at hrun
      injection hrun with h1 h2
      subst h1
      exact .inl rfl
    · have holds : ∀ j u, xs[j]? = some u → w.cell? ((⟨g, 0, none⟩ : Addr).add j) = some u := hown.cells (g := g) rfl
      have hr := run_append_grow (P := P) w t ty e i z ht hi hz ⟨g, 0, none⟩ n cap xs hown.1 holds a m c news hl hnews (by omega) (by omega) (growslice_fits (by omega) hbytes)
      rw [hr] at hrun
      injection hrun with h1 h2
      subst h1
      exact .inr rfl
/-- append, told where the row lies. -/
theorem wp_append_at {P : Program} (w : World) {o : Oper} {a : Act} {K : Act → World → Prop} {Q : Exit → Act → World → Prop} (s x : Operand) (t : TypeId)
    (ho : o.op = .call { callee := .builtin .append, args := #[s, x], argTypes := #[t, t] })
    (base : Nat) (e : TypeId) (i : TypeInfo) (z : Value) (size bytes : Nat) (ht : P.underlying t = some (.slice e)) (hi : P.info? e = some i) (hz : i.zero = some z)
    (hsize : i.size = size) (hby : i.bytes = bytes) (hzs : z.cells.size = size) (hsz : 0 < size)
    (v : Value) (n : Nat) (xs : List Value) (hs : a.eval s = v) (hown : w.ownsRow base e size v n xs)
    (ad : Addr) (m c : Nat) (news : List Value) (hx : a.eval x = .slice (some ad) m c) (hl : news.length = m * size) (hnews : ∀ j u, news[j]? = some u → w.cell? (ad.add j) = some u) (h1 : ∀ u ∈ news, u.oneCell' = true)
    (h63 : n + m ≤ maxLen) (hbytes : (n + m) * bytes ≤ 140737488355328) (hbase : base ≤ w.heap.size)
    (h : ∀ v' w', w'.ownsRow base e size v' (n + m) (xs ++ news) → w.grownBy w' v.ownBlock → (v'.ownBlock = v.ownBlock ∨ v'.ownBlock = some w.heap.size) → K (a.put o.dst v') w') : o.wp P a w K Q := by
  obtain ⟨v', w', hr, h2, h3, h4⟩ := run_append_own (P := P) w base t o.type e i z size bytes ht hi hz hsize hby hzs hsz v n xs hown ad m c news hl hnews h1 h63 hbytes hbase
  have h5 := run_append_where (P := P) w base t o.type e i z size bytes ht hi hz hsize hby hzs hsz v n xs hown ad m c news hl hnews h1 h63 hbytes v' w' hr
  unfold Oper.wp execOp
  simp only [ho, resolve, invoke, builtin, Sem.run_bind, Sem.run_pure, Result.andThen_ok, List.map_toArray, List.map_cons, List.map_nil, hs, hx, hr]
  exact h v' w' h2 h3 h5
theorem step_app1at {P : Program} (w0 : World) {ops : Array Oper} {o : Oper} {a : Act} {K : Act → World → Prop} {Q : Exit → Act → World → Prop} {E : Prop} (hgd : o.guard = none) (s x : Operand) (t e : TypeId)
    (ho : o.op = .call { callee := .builtin .append, args := #[s, x], argTypes := #[t, t] }) (z : Value) (bytes : Nat)
    (ht : P.underlying t = some (.slice e)) (hi : (P.info? e).map (fun i => (i.zero, i.size, i.bytes)) = some (some z, 1, bytes)) (hzs : z.cells.size = 1) (hbb : bytes ≤ 64)
    (base n c : Nat) (A : Option Addr) (xs : List Value) (hs : a.eval s = .slice A n c) (hown : w0.ownsRow base e 1 (.slice A n c) n xs) (u : Value) (h1 : u.oneCell' = true) (hx : a.eval x = .slice (some ⟨w0.heap.size, 0, none⟩) 1 1)
    (hn : n ≤ 1099511627776) (hbase : base ≤ w0.heap.size)
    (hK : ∀ A' c' w', w'.ownsRow base e 1 (.slice A' (n + 1) c') (n + 1) (xs ++ [u]) → w0.grownBy w' (Value.slice A n c).ownBlock → Below base w0 w' → ((Value.slice A' (n + 1) c').ownBlock = (Value.slice A n c).ownBlock ∨ (Value.slice A' (n + 1) c').ownBlock = some (w0.heap.size + 1)) → K (a.put o.dst (.slice A' (n + 1) c')) w') :
    if Region.wanted o (yielded ops a.tmps) = true then Oper.wp P o a (w0.alloc (.cells #[u] e)) K Q else E := by
  have hw : Region.wanted o (yielded ops a.tmps) = true := by simp [Region.wanted, hgd]
  rw [if_pos hw]
  obtain ⟨i, hi, hz, hsize, hby⟩ := info_parts hi
  have hbound : (n + 1) * bytes ≤ 140737488355328 := Nat.le_trans (Nat.mul_le_mul_left (n + 1) hbb) (by omega)
  refine wp_append_at (w0.alloc (.cells #[u] e)) s x t ho base e i z 1 bytes ht hi hz hsize hby hzs (by omega) (.slice A n c) n xs hs (hown.alloc _) ⟨w0.heap.size, 0, none⟩ 1 1 [u] hx rfl ?_ ?_ (by unfold maxLen; omega) hbound (by simp; omega) ?_
  · intro j v hj
    match j, hj with
    | 0, hj => simp at hj; subst hj; simp [Addr.add]
  · intro v hv; simp at hv; subst hv; exact h1
  · intro v' w' hown' hgrow hat
    obtain ⟨A', c', rfl⟩ := own_slice hown'
    have hg : w0.grownBy w' (Value.slice A n c).ownBlock :=
      ⟨hgrow.os, hgrow.tape, hgrow.output, Nat.le_trans (by simp) hgrow.size, fun k hk hne => (hgrow.block k (by simp; omega) hne).trans (Below.heap_alloc w0 _ k hk)⟩
    refine hK A' c' w' hown' hg ((Below.refl base w0).grown hg hbase (fun k hk => (hown.lt k hk).1)) ?_
    rcases hat with h | h
    · exact .inl h
    · exact .inr (by simpa using h)
end Go.Proofs.Ytkmgbdljiajlaaa
namespace Go.Proofs.Ytkmgbdljiajlaaa
open Go.RowKit
set_option linter.unusedVariables false
set_option linter.unusedSimpArgs false

/-! ## A literal list of operations -/
def OwnL (w : World) (xs : List OpM) (css : List (List Value)) (bls : List (List Nat)) : Prop := css.length = xs.length ∧ bls.length = xs.length ∧ ∀ (k : Nat) c x bk, css[k]? = some c → xs[k]? = some x → bls[k]? = some bk → shOp.own w c x bk
theorem OwnL.nil (w : World) : OwnL w [] [] [] := ⟨rfl, rfl, fun k c x bk h => by simp at h⟩
theorem OwnL.cons {w : World} {c : List Value} {x : OpM} {bk : List Nat} {xs : List OpM} {css : List (List Value)} {bls : List (List Nat)} (h : shOp.own w c x bk) (hs : OwnL w xs css bls) : OwnL w (x :: xs) (c :: css) (bk :: bls) := by
  obtain ⟨h1, h2, h3⟩ := hs
  refine ⟨by simp [h1], by simp [h2], fun k c' x' bk' e1 e2 e3 => ?_⟩
  cases k with
  | zero =>
    simp at e1 e2 e3
    subst e1 e2 e3
    exact h
  | succ k =>
    simp at e1 e2 e3
    exact h3 k c' x' bk' e1 e2 e3
theorem PO.make {lo n : Nat} {w : World} {xs : List OpM} {css : List (List Value)} {bls : List (List Nat)} {cells : Array Value} (hp : OwnL w xs css bls) (hiv : Iv lo w.heap.size bls.flatten) (hlo : lo ≤ w.heap.size) (hn : xs.length = n) (hm : n ≤ 1000) (hc : cells.toList = css.flatten) :
    PO lo (w.alloc (.cells cells 92)) (.slice (some ⟨w.heap.size, 0, none⟩) n n) xs css bls := by
  obtain ⟨h1, h2, h3⟩ := hp
  have hb := below_box w (.cells cells 92)
  have hall : ∀ c ∈ css, c.length = 2 := fun c hc' => by
    obtain ⟨k, hk⟩ := List.getElem?_of_mem hc'
    have hkl := (List.getElem?_eq_some_iff.1 hk).1
    have := h3 k c _ _ hk (List.getElem?_eq_getElem (by omega)) (List.getElem?_eq_getElem (by omega))
    exact shOp.rd_len (shOp.ord this)
  have hsz : cells.size = n * 2 := by
    have := congrArg List.length hc
    rw [flat_len hall, Array.length_toList] at this
    omega
  have hrow := World.ownsRow_lit (base := lo) (e := 92) (size := 2) w cells n hlo (by unfold maxLen; omega) hsz
  rw [hc] at hrow
  have hP : Parts shOp 92 (w.alloc (.cells cells 92)) (.slice (some ⟨w.heap.size, 0, none⟩) n n) xs css bls := by
    refine ⟨?_, h1, h2, fun k c x bk e1 e2 e3 => Sh.onext (h3 k c x bk e1 e2 e3) hb⟩
    rw [hn]
    exact own_mono hrow (Nat.zero_le _)
  refine ⟨hP, by rw [hn]; exact hrow, ?_, fun b hb' => ?_⟩
  · refine List.nodup_append.2 ⟨obl_nd _, hiv.1, fun a ha b hb' e => ?_⟩
    simp [obl, Value.ownBlock] at ha
    subst ha e
    have := (hiv.2 _ hb').2
    omega
  · have hz : (w.alloc (.cells cells 92)).heap.size = w.heap.size + 1 := by simp
    rcases List.mem_append.1 hb' with hb' | hb'
    · simp [obl, Value.ownBlock] at hb'
      omega
    · have := hiv.2 b hb'
      omega
theorem PO.algK {lo : Nat} {w : World} {v : Value} {a : Int} {xs : List OpM} {css : List (List Value)} {bls : List (List Nat)} (h : PO lo w v xs css bls) (ha : InR a) : shAlgebra.own w [.int .i64 a, v] (a, xs) (obl v ++ bls.flatten) :=
  ⟨[.int .i64 a], [v], [], obl v ++ bls.flatten, rfl, rfl, ⟨_, rfl, ⟨rfl, ha.1, ha.2⟩, rfl⟩, h.own⟩
/-- A literal table. -/
theorem own_tab {w : World} {a : Int} {L : List Int} {n : Nat} (ha : InR a) (hn : L.length = n) (hm : n ≤ 1000) (hL : ∀ x ∈ L, InR x) : shOp.own (w.alloc (.cells (ints L).toArray 3)) [.int .i64 a, .slice (some ⟨w.heap.size, 0, none⟩) n n] (a, L) [w.heap.size] := by
  have hrow := World.ownsRow_lit (base := 0) (e := 3) (size := 1) w (ints L).toArray n (Nat.zero_le _) (by unfold maxLen; omega) (by simp [ints, hn])
  refine ⟨[.int .i64 a], [.slice (some ⟨w.heap.size, 0, none⟩) n n], [], [w.heap.size], rfl, rfl, ⟨_, rfl, ⟨rfl, ha.1, ha.2⟩, rfl⟩, ⟨_, rfl, ?_, hL, by simp [obl, Value.ownBlock]⟩⟩
  show World.ownsRow _ 0 3 1 _ L.length _
  rw [hn]
  exact hrow
theorem own_opE {w w' : World} {a : Int} {L : List Int} {A : Option Addr} {n c : Nat} (ha : InR a) (hn : L.length = n) (h : w'.ownsRow w.heap.size 3 1 (.slice A n c) n (ints L)) (hL : ∀ x ∈ L, InR x) : shOp.own w' [.int .i64 a, .slice A n c] (a, L) (obl (.slice A n c)) ∧ Iv w.heap.size w'.heap.size (obl (.slice A n c)) := by
  refine ⟨⟨[.int .i64 a], [.slice A n c], [], _, rfl, rfl, ⟨_, rfl, ⟨rfl, ha.1, ha.2⟩, rfl⟩, ⟨_, rfl, ?_, hL, rfl⟩⟩, obl_nd _, fun b hb => h.lt b (mem_obl.1 hb)⟩
  show World.ownsRow _ 0 3 1 _ L.length _
  rw [hn]
  exact own_mono h (Nat.zero_le _)
/-! ## l2Binary -/
def binV (c : UInt8) : Int := IntKind.u8.wrap ((c.toNat : Int) - 48)
def binL (s : ByteArray) : List Int := (bs s).map binV
theorem binV_in (c : UInt8) : 0 ≤ binV c ∧ binV c ≤ 255 := by
  unfold binV
  rw [IntKind.wrap_u8]
  omega
theorem binL_next {s : ByteArray} {k : Nat} (h : k < s.size) : ints ((binL s).take k) ++ [.int .i64 (binV s[k])] = ints ((binL s).take (k + 1)) := by
  have hl : k < (bs s).length := h
  have e : (binL s)[k]? = some (binV s[k]) := by
    unfold binL
    rw [List.getElem?_map, List.getElem?_eq_getElem hl]
    rfl
  rw [List.take_add_one, e]
  simp [ints]
  rfl
set_option maxRecDepth 20000 in
set_option maxHeartbeats 4000000 in
theorem l2Binary_any (s : ByteArray) (w : World) (hs : s.size ≤ 1000) : Calls Try.prog 112 #[.string s] w (ToE shOp w (2, binL s)) := by
  obtain ⟨w0, hw0, T0, hsz0, BR, BG⟩ := boxes2 w #[.int .i64 0, .slice none 0 0] #[.int .i64 2, .slice none 0 0] 92 92
  have HLEN : Hid ((binL s).length = s.size) := by show _ = _; unfold binL; rw [List.length_map]; rfl
  have hown0 : w0.ownsRow w0.heap.size 3 1 (.slice none 0 0) 0 (ints ((binL s).take 0)) := ⟨rfl, .inl ⟨rfl, rfl⟩⟩
  have HW0 := Lib.hid hw0
  have hle0 : w.heap.size + 1 < w0.heap.size := by omega
  clear hw0 hsz0
  go_enter Try.func112, Try.ntmps112
  go_upto_region 2 with fail
  rw [← HW0.out]
  go_wp2_with fail
  go_loopw [4] (fun i wr => ∃ (k : Nat) (A : Option Addr) (c : Nat), k ≤ s.size ∧ i = .int .i64 k ∧ Blk wr (w.heap.size + 1) 92 #[.int .i64 2, .slice A k c] ∧ wr.ownsRow w0.heap.size 3 1 (.slice A k c) k (ints ((binL s).take k)) ∧ Blk wr w.heap.size 92 #[.int .i64 0, .slice none 0 0] ∧ Below w.heap.size w wr ∧ w0.heap.size ≤ wr.heap.size) (fun i _ => s.size - (intOf i).toNat)
  case atStart => exact ⟨0, none, 0, Nat.zero_le _, rfl, BG, hown0, BR, T0, Nat.le_refl _⟩
  case round =>
    clear BG hown0 BR T0
    obtain ⟨k, A, c, hk, rfl, BG, hown, BR, hTr, hzr⟩ := hrel
    by_cases hlt : k < s.size
    · have hk0 : (0 : Int) ≤ (k : Int) := by omega
      have hk1 : (k : Int) < (s.size : Int) := by omega
      have cG1 := BG.cell 1
      simp at cG1
      have hown1 := hown
      have hzz := hzr
      have cR0 := BR.cell 0
      simp at cR0
      have hown2' : ints ((binL s).take k) ++ [.int .i64 (IntKind.i64.wrap (IntKind.u8.wrap ((s[k].toNat : Int) - 48)))] = ints ((binL s).take (k + 1)) := by
        have := binV_in s[k]
        rw [show IntKind.i64.wrap (IntKind.u8.wrap ((s[k].toNat : Int) - 48)) = binV s[k] by show IntKind.i64.wrap (binV s[k]) = _; rw [IntKind.wrap_i64]; omega]
        exact binL_next hlt
      have HNX := Lib.hid hown2'
      clear hown2'
      go_upto_region 5 with fail
      refine wp_region_held_drew (S := fun w' => w'.cell? ⟨w.heap.size, 0, none⟩ = some (.int .i64 0)) (by kernel_rfl) cR0 (fun hHeld0 => ?_)
      obtain ⟨wt1, Hwt1⟩ : ∃ x, Hid (x = World.drew wr) := ⟨_, rfl⟩
      have hbwt1 : Below wr.heap.size wr wt1 := by rw [Hwt1.out]; exact (Below.refl _ _).drew
      rw [← Hwt1.out] at hHeld0 ⊢
      have ywt1 := hbwt1.size
      replace BG := BG.next hbwt1
      replace BR := BR.next hbwt1
      replace hown1 := own_next hown1 hbwt1
      replace hTr := hTr.trans (hbwt1.mono hTr.size)
      replace cG1 := keepc hbwt1 cG1
      replace cR0 := keepc hbwt1 cR0
      refine wpAnyH_take (i := 0) (v := .pointer (some ⟨(w.heap.size + 1), 1, none⟩)) rfl (by kernel_rfl) (by kernel_rfl) (by kernel_rfl) (fun _ _ _ h => h) (Or.inl ⟨by kernel_rfl, fun _ _ => by go_simp⟩) (by assumption) ?_
      (try simp only [Act.put, List.getElem_toArray, List.getElem_cons_zero, List.getElem_cons_succ, List.setIfInBounds_toArray, List.set_cons_zero, List.set_cons_succ])
      refine wpAnyH_take (i := 2) (v := .string s) rfl (by kernel_rfl) (by kernel_rfl) (by kernel_rfl) (fun _ _ _ h => h) (Or.inl ⟨by kernel_rfl, fun _ _ => by go_simp⟩) (by assumption) ?_
      (try simp only [Act.put, List.getElem_toArray, List.getElem_cons_zero, List.getElem_cons_succ, List.setIfInBounds_toArray, List.set_cons_zero, List.set_cons_succ])
      refine wpAnyH_take (i := 3) (v := .int .i64 k) rfl (by kernel_rfl) (by kernel_rfl) (by kernel_rfl) (fun _ _ _ h => h) (Or.inl ⟨by kernel_rfl, fun _ _ => by go_simp⟩) (by assumption) ?_
      (try simp only [Act.put, List.getElem_toArray, List.getElem_cons_zero, List.getElem_cons_succ, List.setIfInBounds_toArray, List.set_cons_zero, List.set_cons_succ])
      refine wpAnyH_take (i := 4) (v := .int .u8 (s[k].toNat : Int)) rfl (by kernel_rfl) (by kernel_rfl) (by kernel_rfl) (fun _ _ _ h => h) (Or.inl ⟨by kernel_rfl, fun _ _ => by go_simp⟩) (by assumption) ?_
      (try simp only [Act.put, List.getElem_toArray, List.getElem_cons_zero, List.getElem_cons_succ, List.setIfInBounds_toArray, List.set_cons_zero, List.set_cons_succ])
      refine wpAnyH_take (i := 5) (v := .int .u8 (IntKind.u8.wrap ((s[k].toNat : Int) - 48))) rfl (by kernel_rfl) (by kernel_rfl) (by kernel_rfl) (fun _ _ _ h => h) (Or.inl ⟨by kernel_rfl, fun _ _ => by go_simp⟩) (by assumption) ?_
      (try simp only [Act.put, List.getElem_toArray, List.getElem_cons_zero, List.getElem_cons_succ, List.setIfInBounds_toArray, List.set_cons_zero, List.set_cons_succ])
      refine wpAnyH_take (i := 6) (v := .int .i64 (IntKind.i64.wrap (IntKind.u8.wrap ((s[k].toNat : Int) - 48)))) rfl (by kernel_rfl) (by kernel_rfl) (by kernel_rfl) (fun _ _ _ h => h) (Or.inl ⟨by kernel_rfl, fun _ _ => by go_simp⟩) (by assumption) ?_
      (try simp only [Act.put, List.getElem_toArray, List.getElem_cons_zero, List.getElem_cons_succ, List.setIfInBounds_toArray, List.set_cons_zero, List.set_cons_succ])
      refine wpAnyH_ready (rs := [1, 7]) (by kernel_rfl) (by simp) ?_
      refine (AllReadyH.cons rfl (fun K hK => ?_) (AllReadyH.cons rfl (fun K hK => ?_) AllReadyH.nil))
      · go_simp
        refine hK.out _ _ cR0 (fun hHeld1 => ?_)
        clear hK K hHeld0
        (try simp only [Act.put, List.getElem_toArray, List.getElem_cons_zero, List.getElem_cons_succ, List.setIfInBounds_toArray, List.set_cons_zero, List.set_cons_succ])
        refine wpAnyH_ready (rs := [7]) (by kernel_rfl) (by simp) ?_
        refine (AllReadyH.cons rfl (fun K hK => ?_) AllReadyH.nil)
        have hownW := hown1
        have BGW := BG
        have BRW := BR
        have hTW := hTr
        have hzW : w0.heap.size ≤ wt1.heap.size := Nat.le_trans hzr (by omega)
        go_simp
        obtain ⟨wt2, Hwt2⟩ : ∃ x, Hid (x = wt1.alloc (.cells #[.int .i64 (IntKind.i64.wrap (IntKind.u8.wrap ((s[k].toNat : Int) - 48)))] 3)) := ⟨_, Lib.hid rfl⟩
        rw [← Hwt2.out]
        have hbwt2 : Below wt1.heap.size wt1 wt2 := by rw [Hwt2.out]; exact below_box _ _
        have Bwt2 : Blk wt2 wt1.heap.size 3 #[.int .i64 (IntKind.i64.wrap (IntKind.u8.wrap ((s[k].toNat : Int) - 48)))] := by rw [Hwt2.out]; exact Blk.new _ _ _
        have zwt2 : wt1.heap.size < wt2.heap.size := Bwt2.lt
        have ywt2 := hbwt2.size
        replace BG := BG.next hbwt2
        replace BR := BR.next hbwt2
        replace hown1 := own_next hown1 hbwt2
        replace hTr := hTr.trans (hbwt2.mono hTr.size)
        replace cG1 := keepc hbwt2 cG1
        replace cR0 := keepc hbwt2 cR0
        refine hK.out _ _ cR0 (fun hHeld2 => ?_)
        clear hK K hHeld1
        (try simp only [Act.put, List.getElem_toArray, List.getElem_cons_zero, List.getElem_cons_succ, List.setIfInBounds_toArray, List.set_cons_zero, List.set_cons_succ])
        refine wpAnyH_ready (rs := [8]) (by kernel_rfl) (by simp) ?_
        refine (AllReadyH.cons rfl (fun K hK => ?_) AllReadyH.nil)
        rw [Hwt2.out]
        refine step_app1 wt1 rfl (.tmp 13) (.tmp 19) 55 3 rfl (.int .i64 0) 8 Try.underlying55 info_int rfl (by decide) w0.heap.size k c A (ints ((binL s).take k)) (by rfl) hownW _ rfl (by rfl) (by omega) hzW ?_
        intro A2 c2 wt3 hown2 hg2 hb2
        rw [HNX.out] at hown2
        have B2 := BGW.below hb2 hle0
        have BR2 := BRW.below hb2 (by omega)
        replace cR0 := BR2.cell 0
        simp at cR0
        have T2 := hTW.trans (hb2.mono (by omega))
        have hz2 := hb2.size
        refine hK.out _ _ cR0 (fun hHeld3 => ?_)
        clear hK K hHeld2
        (try simp only [Act.put, List.getElem_toArray, List.getElem_cons_zero, List.getElem_cons_succ, List.setIfInBounds_toArray, List.set_cons_zero, List.set_cons_succ])
        refine wpAnyH_take (i := 9) (v := .pointer (some ⟨(w.heap.size + 1), 1, none⟩)) rfl (by kernel_rfl) (by kernel_rfl) (by kernel_rfl) (fun _ _ _ h => h) (Or.inl ⟨by kernel_rfl, fun _ _ => by go_simp⟩) (by assumption) ?_
        (try simp only [Act.put, List.getElem_toArray, List.getElem_cons_zero, List.getElem_cons_succ, List.setIfInBounds_toArray, List.set_cons_zero, List.set_cons_succ])
        refine wpAnyH_ready (rs := [10]) (by kernel_rfl) (by simp) ?_
        refine (AllReadyH.cons rfl (fun K hK => ?_) AllReadyH.nil)
        have f21 := B2.frozen 1
        have c21 := B2.cell 1
        simp at c21
        go_simp
        obtain ⟨wt4, Hwt4⟩ : ∃ x, Hid (x = wt3.setCell ⟨w.heap.size + 1, 1, none⟩ (.slice A2 (k + 1) c2)) := ⟨_, rfl⟩
        rw [← Hwt4.out]
        have B3 : Blk wt4 (w.heap.size + 1) 92 #[.int .i64 2, .slice A2 (k + 1) c2] := by rw [Hwt4.out]; simpa using B2.set_ 1 (.slice A2 (k + 1) c2)
        have BR3 : Blk wt4 w.heap.size 92 #[.int .i64 0, .slice none 0 0] := by rw [Hwt4.out]; exact BR2.far (by simp) _
        have hown3 : wt4.ownsRow w0.heap.size 3 1 (.slice A2 (k + 1) c2) (k + 1) (ints ((binL s).take (k + 1))) := by rw [Hwt4.out]; exact own_same hown2 fun b hb => Below.heap_setCell _ _ _ _ (fun e => by have := (hown2.lt b hb).1; rw [e] at this; simp at this; omega)
        have T3 : Below w.heap.size w wt4 := by rw [Hwt4.out]; exact T2.setCell (p := ⟨w.heap.size + 1, 1, none⟩) (by simp) _
        have hz3 : w0.heap.size ≤ wt4.heap.size := by rw [Hwt4.out]; simpa using Nat.le_trans hzW hz2
        replace cR0 := BR3.cell 0
        simp at cR0
        refine hK.out _ _ cR0 (fun hHeld4 => ?_)
        clear hK K hHeld3
        (try simp only [Act.put, List.getElem_toArray, List.getElem_cons_zero, List.getElem_cons_succ, List.setIfInBounds_toArray, List.set_cons_zero, List.set_cons_succ])
        refine wpAnyH_done (by kernel_rfl) ?_ _
        go_wp2_with fail
        go_roundw
        case rel => exact ⟨k + 1, A2, c2, by omega, by go_num, B3, hown3, BR3, T3, hz3⟩
        case measure => simp [intOf]; omega
      · have hownW := hown1
        have BGW := BG
        have BRW := BR
        have hTW := hTr
        have hzW : w0.heap.size ≤ wt1.heap.size := Nat.le_trans hzr (by omega)
        go_simp
        obtain ⟨wt5, Hwt5⟩ : ∃ x, Hid (x = wt1.alloc (.cells #[.int .i64 (IntKind.i64.wrap (IntKind.u8.wrap ((s[k].toNat : Int) - 48)))] 3)) := ⟨_, Lib.hid rfl⟩
        rw [← Hwt5.out]
        have hbwt5 : Below wt1.heap.size wt1 wt5 := by rw [Hwt5.out]; exact below_box _ _
        have Bwt5 : Blk wt5 wt1.heap.size 3 #[.int .i64 (IntKind.i64.wrap (IntKind.u8.wrap ((s[k].toNat : Int) - 48)))] := by rw [Hwt5.out]; exact Blk.new _ _ _
        have zwt5 : wt1.heap.size < wt5.heap.size := Bwt5.lt
        have ywt5 := hbwt5.size
        replace BG := BG.next hbwt5
        replace BR := BR.next hbwt5
        replace hown1 := own_next hown1 hbwt5
        replace hTr := hTr.trans (hbwt5.mono hTr.size)
        replace cG1 := keepc hbwt5 cG1
        replace cR0 := keepc hbwt5 cR0
        refine hK.out _ _ cR0 (fun hHeld1 => ?_)
        clear hK K hHeld0
        (try simp only [Act.put, List.getElem_toArray, List.getElem_cons_zero, List.getElem_cons_succ, List.setIfInBounds_toArray, List.set_cons_zero, List.set_cons_succ])
        refine wpAnyH_ready (rs := [1]) (by kernel_rfl) (by simp) ?_
        refine (AllReadyH.cons rfl (fun K hK => ?_) AllReadyH.nil)
        go_simp
        refine hK.out _ _ cR0 (fun hHeld2 => ?_)
        clear hK K hHeld1
        (try simp only [Act.put, List.getElem_toArray, List.getElem_cons_zero, List.getElem_cons_succ, List.setIfInBounds_toArray, List.set_cons_zero, List.set_cons_succ])
        refine wpAnyH_ready (rs := [8]) (by kernel_rfl) (by simp) ?_
        refine (AllReadyH.cons rfl (fun K hK => ?_) AllReadyH.nil)
        rw [Hwt5.out]
        refine step_app1 wt1 rfl (.tmp 13) (.tmp 19) 55 3 rfl (.int .i64 0) 8 Try.underlying55 info_int rfl (by decide) w0.heap.size k c A (ints ((binL s).take k)) (by rfl) hownW _ rfl (by rfl) (by omega) hzW ?_
        intro A2 c2 wt6 hown2 hg2 hb2
        rw [HNX.out] at hown2
        have B2 := BGW.below hb2 hle0
        have BR2 := BRW.below hb2 (by omega)
        replace cR0 := BR2.cell 0
        simp at cR0
        have T2 := hTW.trans (hb2.mono (by omega))
        have hz2 := hb2.size
        refine hK.out _ _ cR0 (fun hHeld3 => ?_)
        clear hK K hHeld2
        (try simp only [Act.put, List.getElem_toArray, List.getElem_cons_zero, List.getElem_cons_succ, List.setIfInBounds_toArray, List.set_cons_zero, List.set_cons_succ])
        refine wpAnyH_take (i := 9) (v := .pointer (some ⟨(w.heap.size + 1), 1, none⟩)) rfl (by kernel_rfl) (by kernel_rfl) (by kernel_rfl) (fun _ _ _ h => h) (Or.inl ⟨by kernel_rfl, fun _ _ => by go_simp⟩) (by assumption) ?_
        (try simp only [Act.put, List.getElem_toArray, List.getElem_cons_zero, List.getElem_cons_succ, List.setIfInBounds_toArray, List.set_cons_zero, List.set_cons_succ])
        refine wpAnyH_ready (rs := [10]) (by kernel_rfl) (by simp) ?_
        refine (AllReadyH.cons rfl (fun K hK => ?_) AllReadyH.nil)
        have f21 := B2.frozen 1
        have c21 := B2.cell 1
        simp at c21
        go_simp
        obtain ⟨wt7, Hwt7⟩ : ∃ x, Hid (x = wt6.setCell ⟨w.heap.size + 1, 1, none⟩ (.slice A2 (k + 1) c2)) := ⟨_, rfl⟩
        rw [← Hwt7.out]
        have B3 : Blk wt7 (w.heap.size + 1) 92 #[.int .i64 2, .slice A2 (k + 1) c2] := by rw [Hwt7.out]; simpa using B2.set_ 1 (.slice A2 (k + 1) c2)
        have BR3 : Blk wt7 w.heap.size 92 #[.int .i64 0, .slice none 0 0] := by rw [Hwt7.out]; exact BR2.far (by simp) _
        have hown3 : wt7.ownsRow w0.heap.size 3 1 (.slice A2 (k + 1) c2) (k + 1) (ints ((binL s).take (k + 1))) := by rw [Hwt7.out]; exact own_same hown2 fun b hb => Below.heap_setCell _ _ _ _ (fun e => by have := (hown2.lt b hb).1; rw [e] at this; simp at this; omega)
        have T3 : Below w.heap.size w wt7 := by rw [Hwt7.out]; exact T2.setCell (p := ⟨w.heap.size + 1, 1, none⟩) (by simp) _
        have hz3 : w0.heap.size ≤ wt7.heap.size := by rw [Hwt7.out]; simpa using Nat.le_trans hzW hz2
        replace cR0 := BR3.cell 0
        simp at cR0
        refine hK.out _ _ cR0 (fun hHeld4 => ?_)
        clear hK K hHeld3
        (try simp only [Act.put, List.getElem_toArray, List.getElem_cons_zero, List.getElem_cons_succ, List.setIfInBounds_toArray, List.set_cons_zero, List.set_cons_succ])
        refine wpAnyH_done (by kernel_rfl) ?_ _
        go_wp2_with fail
        go_roundw
        case rel => exact ⟨k + 1, A2, c2, by omega, by go_num, B3, hown3, BR3, T3, hz3⟩
        case measure => simp [intOf]; omega
    · obtain rfl : k = s.size := by omega
      have hk1 : ¬ (s.size : Int) < (s.size : Int) := by omega
      rw [List.take_of_length_le (by rw [HLEN.out]; exact Nat.le_refl _)] at hown
      have cG0 := BG.cell 0
      have cG1 := BG.cell 1
      have cR0 := BR.cell 0
      have cR1 := BR.cell 1
      simp at cG0 cG1 cR0 cR1
      have fR0 := BR.frozen 0
      have fR1 := BR.frozen 1
      obtain ⟨wf, HWF⟩ : ∃ wf, Hid (wf = (wr.setCell ⟨w.heap.size, 0, none⟩ (.int .i64 2)).setCell ⟨w.heap.size, 1, none⟩ (.slice A s.size c)) := ⟨_, rfl⟩
      have BLF : Hid (Blk wf w.heap.size 92 #[.int .i64 2, .slice A s.size c]) := by show Blk _ _ _ _; rw [HWF.out]; simpa using (BR.set_ 0 (.int .i64 2)).set_ 1 (.slice A s.size c)
      have OF : Hid (wf.ownsRow w0.heap.size 3 1 (.slice A s.size c) s.size (ints (binL s))) := by show World.ownsRow _ _ _ _ _ _ _; rw [HWF.out]; exact own_same (own_same hown fun b hb => Below.heap_setCell _ _ _ _ (fun e => by have := (hown.lt b hb).1; rw [e] at this; simp at this; omega)) fun b hb => Below.heap_setCell _ _ _ _ (fun e => by have := (hown.lt b hb).1; rw [e] at this; simp at this; omega)
      have TF : Hid (Below w.heap.size w wf) := by show Below _ _ _; rw [HWF.out]; exact (hTr.setCell (p := ⟨w.heap.size, 0, none⟩) (Nat.le_refl _) _).setCell (p := ⟨w.heap.size, 1, none⟩) (Nat.le_refl _) _
      clear BG BR hown hTr
      go_wp2_with fail
      rw [← HWF.out]
      (try simp only [Exit.inBlock, Exit.then])
      refine bodyPost_ret (v := .agg #[.int .i64 2, .slice A s.size c]) (results_cell_row rfl _ _ w.heap.size 92 #[.int .i64 2, .slice A s.size c] (0, 0) _ (by simp) BLF.out Try.underlying92 rfl (by kernel_rfl)) rfl ?_
      have hbl : ∀ x ∈ binL s, InR x := fun x hx => by
        obtain ⟨y, -, rfl⟩ := List.mem_map.1 hx
        have := binV_in y
        exact ⟨by omega, by omega⟩
      have hoo := own_opE (w := w) (w' := wf) (a := 2) ⟨by omega, by omega⟩ HLEN.out (own_mono OF.out (by omega)) hbl
      exact ⟨[.int .i64 2, .slice A s.size c], _, rfl, hoo.1, hoo.2, TF.out⟩
/-! ## l2Affine 2 -/
set_option maxRecDepth 20000 in
set_option maxHeartbeats 4000000 in
theorem l2Affine2_any (w : World) : Calls Try.prog 113 #[.int .i64 2] w fun e w' => ∃ L, ToE shOp w (3, L) e w' ∧ L.length = 8 ∧ ∀ v ∈ L, 0 ≤ v ∧ v ≤ 1 := by
  obtain ⟨w0, hw0, T0, hsz0, BR, BG⟩ := boxes2 w #[.int .i64 0, .slice none 0 0] #[.int .i64 3, .slice none 0 0] 92 92
  have hown0 : w0.ownsRow w0.heap.size 3 1 (.slice none 0 0) 0 (ints []) := ⟨rfl, .inl ⟨rfl, rfl⟩⟩
  have HW0 := Lib.hid hw0
  have hle0 : w.heap.size + 1 < w0.heap.size := by omega
  clear hw0 hsz0
  go_enter Try.func113, Try.ntmps113
  go_upto_region 2 with fail
  rw [← HW0.out]
  go_wp2_with fail
  go_loopw [4] (fun i wr => ∃ (k : Nat) (A : Option Addr) (c : Nat) (L : List Int), k ≤ 8 ∧ i = .int .i64 k ∧ Blk wr (w.heap.size + 1) 92 #[.int .i64 3, .slice A k c] ∧ wr.ownsRow w0.heap.size 3 1 (.slice A k c) k (ints L) ∧ Hid (L.length = k ∧ ∀ v ∈ L, 0 ≤ v ∧ v ≤ 1) ∧ Blk wr w.heap.size 92 #[.int .i64 0, .slice none 0 0] ∧ Below w.heap.size w wr ∧ w0.heap.size ≤ wr.heap.size) (fun i _ => 8 - (intOf i).toNat)
  case atStart => exact ⟨0, none, 0, [], Nat.zero_le _, rfl, BG, hown0, Lib.hid ⟨rfl, fun v hv => by cases hv⟩, BR, T0, Nat.le_refl _⟩
  case round =>
    clear BG hown0 BR T0
    obtain ⟨k, A, c, L, hk, rfl, BG, hown, HL, BR, hTr, hzr⟩ := hrel
    by_cases hlt : k < 8
    · have hk0 : (0 : Int) ≤ (k : Int) := by omega
      have hk1 : (k : Int) < 8 := by omega
      have cG1 := BG.cell 1
      simp at cG1
      have hown1 := hown
      have hzz := hzr
      have cR0 := BR.cell 0
      simp at cR0
      obtain ⟨D1, hD1⟩ : ∃ D, k / 4 = D := ⟨_, rfl⟩
      obtain ⟨D2, hD2⟩ : ∃ D, k / 2 = D := ⟨_, rfl⟩
      obtain ⟨D3, hD3⟩ : ∃ D, D2 % 2 = D := ⟨_, rfl⟩
      obtain ⟨D4, hD4⟩ : ∃ D, k % 2 = D := ⟨_, rfl⟩
      obtain ⟨E1, hE1⟩ : ∃ D, D1 + 2 = D := ⟨_, rfl⟩
      obtain ⟨E2, hE2⟩ : ∃ D, E1 - D3 = D := ⟨_, rfl⟩
      obtain ⟨E3, hE3⟩ : ∃ D, E2 + D4 = D := ⟨_, rfl⟩
      obtain ⟨R, hR⟩ : ∃ D, E3 % 2 = D := ⟨_, rfl⟩
      have f1 : (k : Int) / 4 = (D1 : Int) := by omega
      have f1t : (k : Int).tdiv 4 = (D1 : Int) := by rw [Int.tdiv_eq_ediv_of_nonneg hk0]; exact f1
      have f2 : (k : Int) / 2 = (D2 : Int) := by omega
      have f2t : (k : Int).tdiv 2 = (D2 : Int) := by rw [Int.tdiv_eq_ediv_of_nonneg hk0]; exact f2
      have f3 : (D2 : Int) % 2 = (D3 : Int) := by omega
      have f3t : (D2 : Int).tmod 2 = (D3 : Int) := by rw [Int.tmod_eq_emod_of_nonneg (by omega)]; exact f3
      have f4 : (k : Int) % 2 = (D4 : Int) := by omega
      have f4t : (k : Int).tmod 2 = (D4 : Int) := by rw [Int.tmod_eq_emod_of_nonneg hk0]; exact f4
      have f5 : (D1 : Int) + 2 = (E1 : Int) := by omega
      have f6 : (E1 : Int) - (D3 : Int) = (E2 : Int) := by omega
      have f7 : (E2 : Int) + (D4 : Int) = (E3 : Int) := by omega
      have f8 : (E3 : Int) % 2 = (R : Int) := by omega
      have f8t : (E3 : Int).tmod 2 = (R : Int) := by rw [Int.tmod_eq_emod_of_nonneg (by omega)]; exact f8
      have g1 : IntKind.i64.wrap (D1 : Int) = (D1 : Int) := by rw [IntKind.wrap_i64]; omega
      have g2 : IntKind.i64.wrap (D2 : Int) = (D2 : Int) := by rw [IntKind.wrap_i64]; omega
      have g3 : IntKind.i64.wrap (D3 : Int) = (D3 : Int) := by rw [IntKind.wrap_i64]; omega
      have g4 : IntKind.i64.wrap (D4 : Int) = (D4 : Int) := by rw [IntKind.wrap_i64]; omega
      have g5 : IntKind.i64.wrap (E1 : Int) = (E1 : Int) := by rw [IntKind.wrap_i64]; omega
      have g6 : IntKind.i64.wrap (E2 : Int) = (E2 : Int) := by rw [IntKind.wrap_i64]; omega
      have g7 : IntKind.i64.wrap (E3 : Int) = (E3 : Int) := by rw [IntKind.wrap_i64]; omega
      have g8 : IntKind.i64.wrap (R : Int) = (R : Int) := by rw [IntKind.wrap_i64]; omega
      have g0 : IntKind.i64.wrap 4 = 4 := by rw [IntKind.wrap_i64]; omega
      have HL2 : Hid ((L ++ [(R : Int)]).length = k + 1 ∧ ∀ v ∈ L ++ [(R : Int)], 0 ≤ v ∧ v ≤ 1) := by
        refine ⟨by rw [List.length_append, HL.out.1]; rfl, fun v hv => ?_⟩
        rcases List.mem_append.1 hv with hv | hv
        · exact HL.out.2 v hv
        · rw [List.mem_singleton.1 hv]; omega
      clear hD1 hD2 hD3 hD4 hE1 hE2 hE3 hR
      have HNX : Hid (ints L ++ [.int .i64 (R : Int)] = ints (L ++ [(R : Int)])) := by show _ = _; simp [ints]
      go_upto_region 5 with fail
      refine wp_region_held_drew (S := fun w' => w'.cell? ⟨w.heap.size, 0, none⟩ = some (.int .i64 0)) (by kernel_rfl) cR0 (fun hHeld0 => ?_)
      obtain ⟨wt1, Hwt1⟩ : ∃ x, Hid (x = World.drew wr) := ⟨_, rfl⟩
      have hbwt1 : Below wr.heap.size wr wt1 := by rw [Hwt1.out]; exact (Below.refl _ _).drew
      rw [← Hwt1.out] at hHeld0 ⊢
      have ywt1 := hbwt1.size
      replace BG := BG.next hbwt1
      replace BR := BR.next hbwt1
      replace hown1 := own_next hown1 hbwt1
      replace hTr := hTr.trans (hbwt1.mono hTr.size)
      replace cG1 := keepc hbwt1 cG1
      replace cR0 := keepc hbwt1 cR0
      refine wpAnyH_take (i := 0) (v := .pointer (some ⟨(w.heap.size + 1), 1, none⟩)) rfl (by kernel_rfl) (by kernel_rfl) (by kernel_rfl) (fun _ _ _ h => h) (Or.inl ⟨by kernel_rfl, fun _ _ => by go_simp⟩) (by assumption) ?_
      (try simp only [Act.put, List.getElem_toArray, List.getElem_cons_zero, List.getElem_cons_succ, List.setIfInBounds_toArray, List.set_cons_zero, List.set_cons_succ])
      refine wpAnyH_take (i := 2) (v := .int .i64 k) rfl (by kernel_rfl) (by kernel_rfl) (by kernel_rfl) (fun _ _ _ h => h) (Or.inl ⟨by kernel_rfl, fun _ _ => by go_simp⟩) (by assumption) ?_
      (try simp only [Act.put, List.getElem_toArray, List.getElem_cons_zero, List.getElem_cons_succ, List.setIfInBounds_toArray, List.set_cons_zero, List.set_cons_succ])
      refine wpAnyH_take (i := 3) (v := .int .i64 2) rfl (by kernel_rfl) (by kernel_rfl) (by kernel_rfl) (fun _ _ _ h => h) (Or.inl ⟨by kernel_rfl, fun _ _ => by go_simp⟩) (by assumption) ?_
      (try simp only [Act.put, List.getElem_toArray, List.getElem_cons_zero, List.getElem_cons_succ, List.setIfInBounds_toArray, List.set_cons_zero, List.set_cons_succ])
      refine wpAnyH_take (i := 4) (v := .int .i64 2) rfl (by kernel_rfl) (by kernel_rfl) (by kernel_rfl) (fun _ _ _ h => h) (Or.inl ⟨by kernel_rfl, fun _ _ => by go_simp⟩) (by assumption) ?_
      (try simp only [Act.put, List.getElem_toArray, List.getElem_cons_zero, List.getElem_cons_succ, List.setIfInBounds_toArray, List.set_cons_zero, List.set_cons_succ])
      refine wpAnyH_take (i := 5) (v := .int .i64 4) rfl (by kernel_rfl) (by kernel_rfl) (by kernel_rfl) (fun _ _ _ h => h) (Or.inl ⟨by kernel_rfl, fun _ _ => by go_simp⟩) (by assumption) ?_
      (try simp only [Act.put, List.getElem_toArray, List.getElem_cons_zero, List.getElem_cons_succ, List.setIfInBounds_toArray, List.set_cons_zero, List.set_cons_succ])
      refine wpAnyH_take (i := 6) (v := .int .i64 (D1 : Int)) rfl (by kernel_rfl) (by kernel_rfl) (by kernel_rfl) (fun _ _ _ h => h) (Or.inl ⟨by kernel_rfl, fun _ _ => by go_simp⟩) (by assumption) ?_
      (try simp only [Act.put, List.getElem_toArray, List.getElem_cons_zero, List.getElem_cons_succ, List.setIfInBounds_toArray, List.set_cons_zero, List.set_cons_succ])
      refine wpAnyH_take (i := 7) (v := .int .i64 2) rfl (by kernel_rfl) (by kernel_rfl) (by kernel_rfl) (fun _ _ _ h => h) (Or.inl ⟨by kernel_rfl, fun _ _ => by go_simp⟩) (by assumption) ?_
      (try simp only [Act.put, List.getElem_toArray, List.getElem_cons_zero, List.getElem_cons_succ, List.setIfInBounds_toArray, List.set_cons_zero, List.set_cons_succ])
      refine wpAnyH_take (i := 8) (v := .int .i64 (E1 : Int)) rfl (by kernel_rfl) (by kernel_rfl) (by kernel_rfl) (fun _ _ _ h => h) (Or.inl ⟨by kernel_rfl, fun _ _ => by go_simp⟩) (by assumption) ?_
      (try simp only [Act.put, List.getElem_toArray, List.getElem_cons_zero, List.getElem_cons_succ, List.setIfInBounds_toArray, List.set_cons_zero, List.set_cons_succ])
      refine wpAnyH_take (i := 9) (v := .int .i64 k) rfl (by kernel_rfl) (by kernel_rfl) (by kernel_rfl) (fun _ _ _ h => h) (Or.inl ⟨by kernel_rfl, fun _ _ => by go_simp⟩) (by assumption) ?_
      (try simp only [Act.put, List.getElem_toArray, List.getElem_cons_zero, List.getElem_cons_succ, List.setIfInBounds_toArray, List.set_cons_zero, List.set_cons_succ])
      refine wpAnyH_take (i := 10) (v := .int .i64 2) rfl (by kernel_rfl) (by kernel_rfl) (by kernel_rfl) (fun _ _ _ h => h) (Or.inl ⟨by kernel_rfl, fun _ _ => by go_simp⟩) (by assumption) ?_
      (try simp only [Act.put, List.getElem_toArray, List.getElem_cons_zero, List.getElem_cons_succ, List.setIfInBounds_toArray, List.set_cons_zero, List.set_cons_succ])
      refine wpAnyH_take (i := 11) (v := .int .i64 (D2 : Int)) rfl (by kernel_rfl) (by kernel_rfl) (by kernel_rfl) (fun _ _ _ h => h) (Or.inl ⟨by kernel_rfl, fun _ _ => by go_simp⟩) (by assumption) ?_
      (try simp only [Act.put, List.getElem_toArray, List.getElem_cons_zero, List.getElem_cons_succ, List.setIfInBounds_toArray, List.set_cons_zero, List.set_cons_succ])
      refine wpAnyH_take (i := 12) (v := .int .i64 2) rfl (by kernel_rfl) (by kernel_rfl) (by kernel_rfl) (fun _ _ _ h => h) (Or.inl ⟨by kernel_rfl, fun _ _ => by go_simp⟩) (by assumption) ?_
      (try simp only [Act.put, List.getElem_toArray, List.getElem_cons_zero, List.getElem_cons_succ, List.setIfInBounds_toArray, List.set_cons_zero, List.set_cons_succ])
      refine wpAnyH_take (i := 13) (v := .int .i64 (D3 : Int)) rfl (by kernel_rfl) (by kernel_rfl) (by kernel_rfl) (fun _ _ _ h => h) (Or.inl ⟨by kernel_rfl, fun _ _ => by go_simp⟩) (by assumption) ?_
      (try simp only [Act.put, List.getElem_toArray, List.getElem_cons_zero, List.getElem_cons_succ, List.setIfInBounds_toArray, List.set_cons_zero, List.set_cons_succ])
      refine wpAnyH_take (i := 14) (v := .int .i64 (E2 : Int)) rfl (by kernel_rfl) (by kernel_rfl) (by kernel_rfl) (fun _ _ _ h => h) (Or.inl ⟨by kernel_rfl, fun _ _ => by go_simp⟩) (by assumption) ?_
      (try simp only [Act.put, List.getElem_toArray, List.getElem_cons_zero, List.getElem_cons_succ, List.setIfInBounds_toArray, List.set_cons_zero, List.set_cons_succ])
      refine wpAnyH_take (i := 15) (v := .int .i64 k) rfl (by kernel_rfl) (by kernel_rfl) (by kernel_rfl) (fun _ _ _ h => h) (Or.inl ⟨by kernel_rfl, fun _ _ => by go_simp⟩) (by assumption) ?_
      (try simp only [Act.put, List.getElem_toArray, List.getElem_cons_zero, List.getElem_cons_succ, List.setIfInBounds_toArray, List.set_cons_zero, List.set_cons_succ])
      refine wpAnyH_take (i := 16) (v := .int .i64 2) rfl (by kernel_rfl) (by kernel_rfl) (by kernel_rfl) (fun _ _ _ h => h) (Or.inl ⟨by kernel_rfl, fun _ _ => by go_simp⟩) (by assumption) ?_
      (try simp only [Act.put, List.getElem_toArray, List.getElem_cons_zero, List.getElem_cons_succ, List.setIfInBounds_toArray, List.set_cons_zero, List.set_cons_succ])
      refine wpAnyH_take (i := 17) (v := .int .i64 (D4 : Int)) rfl (by kernel_rfl) (by kernel_rfl) (by kernel_rfl) (fun _ _ _ h => h) (Or.inl ⟨by kernel_rfl, fun _ _ => by go_simp⟩) (by assumption) ?_
      (try simp only [Act.put, List.getElem_toArray, List.getElem_cons_zero, List.getElem_cons_succ, List.setIfInBounds_toArray, List.set_cons_zero, List.set_cons_succ])
      refine wpAnyH_take (i := 18) (v := .int .i64 (E3 : Int)) rfl (by kernel_rfl) (by kernel_rfl) (by kernel_rfl) (fun _ _ _ h => h) (Or.inl ⟨by kernel_rfl, fun _ _ => by go_simp⟩) (by assumption) ?_
      (try simp only [Act.put, List.getElem_toArray, List.getElem_cons_zero, List.getElem_cons_succ, List.setIfInBounds_toArray, List.set_cons_zero, List.set_cons_succ])
      refine wpAnyH_take (i := 19) (v := .int .i64 2) rfl (by kernel_rfl) (by kernel_rfl) (by kernel_rfl) (fun _ _ _ h => h) (Or.inl ⟨by kernel_rfl, fun _ _ => by go_simp⟩) (by assumption) ?_
      (try simp only [Act.put, List.getElem_toArray, List.getElem_cons_zero, List.getElem_cons_succ, List.setIfInBounds_toArray, List.set_cons_zero, List.set_cons_succ])
      refine wpAnyH_take (i := 20) (v := .int .i64 (R : Int)) rfl (by kernel_rfl) (by kernel_rfl) (by kernel_rfl) (fun _ _ _ h => h) (Or.inl ⟨by kernel_rfl, fun _ _ => by go_simp⟩) (by assumption) ?_
      (try simp only [Act.put, List.getElem_toArray, List.getElem_cons_zero, List.getElem_cons_succ, List.setIfInBounds_toArray, List.set_cons_zero, List.set_cons_succ])
      refine wpAnyH_ready (rs := [1, 21]) (by kernel_rfl) (by simp) ?_
      refine (AllReadyH.cons rfl (fun K hK => ?_) (AllReadyH.cons rfl (fun K hK => ?_) AllReadyH.nil))
      · go_simp
        refine hK.out _ _ cR0 (fun hHeld1 => ?_)
        clear hK K hHeld0
        (try simp only [Act.put, List.getElem_toArray, List.getElem_cons_zero, List.getElem_cons_succ, List.setIfInBounds_toArray, List.set_cons_zero, List.set_cons_succ])
        refine wpAnyH_ready (rs := [21]) (by kernel_rfl) (by simp) ?_
        refine (AllReadyH.cons rfl (fun K hK => ?_) AllReadyH.nil)
        have hownW := hown1
        have BGW := BG
        have BRW := BR
        have hTW := hTr
        have hzW : w0.heap.size ≤ wt1.heap.size := Nat.le_trans hzr (by omega)
        go_simp
        obtain ⟨wt2, Hwt2⟩ : ∃ x, Hid (x = wt1.alloc (.cells #[.int .i64 (R : Int)] 3)) := ⟨_, Lib.hid rfl⟩
        rw [← Hwt2.out]
        have hbwt2 : Below wt1.heap.size wt1 wt2 := by rw [Hwt2.out]; exact below_box _ _
        have Bwt2 : Blk wt2 wt1.heap.size 3 #[.int .i64 (R : Int)] := by rw [Hwt2.out]; exact Blk.new _ _ _
        have zwt2 : wt1.heap.size < wt2.heap.size := Bwt2.lt
        have ywt2 := hbwt2.size
        replace BG := BG.next hbwt2
        replace BR := BR.next hbwt2
        replace hown1 := own_next hown1 hbwt2
        replace hTr := hTr.trans (hbwt2.mono hTr.size)
        replace cG1 := keepc hbwt2 cG1
        replace cR0 := keepc hbwt2 cR0
        refine hK.out _ _ cR0 (fun hHeld2 => ?_)
        clear hK K hHeld1
        (try simp only [Act.put, List.getElem_toArray, List.getElem_cons_zero, List.getElem_cons_succ, List.setIfInBounds_toArray, List.set_cons_zero, List.set_cons_succ])
        refine wpAnyH_ready (rs := [22]) (by kernel_rfl) (by simp) ?_
        refine (AllReadyH.cons rfl (fun K hK => ?_) AllReadyH.nil)
        rw [Hwt2.out]
        refine step_app1 wt1 rfl (.tmp 16) (.tmp 36) 55 3 rfl (.int .i64 0) 8 Try.underlying55 info_int rfl (by decide) w0.heap.size k c A (ints L) (by rfl) hownW _ rfl (by rfl) (by omega) hzW ?_
        intro A2 c2 wt3 hown2 hg2 hb2
        rw [HNX.out] at hown2
        have B2 := BGW.below hb2 hle0
        have BR2 := BRW.below hb2 (by omega)
        replace cR0 := BR2.cell 0
        simp at cR0
        have T2 := hTW.trans (hb2.mono (by omega))
        have hz2 := hb2.size
        refine hK.out _ _ cR0 (fun hHeld3 => ?_)
        clear hK K hHeld2
        (try simp only [Act.put, List.getElem_toArray, List.getElem_cons_zero, List.getElem_cons_succ, List.setIfInBounds_toArray, List.set_cons_zero, List.set_cons_succ])
        refine wpAnyH_take (i := 23) (v := .pointer (some ⟨(w.heap.size + 1), 1, none⟩)) rfl (by kernel_rfl) (by kernel_rfl) (by kernel_rfl) (fun _ _ _ h => h) (Or.inl ⟨by kernel_rfl, fun _ _ => by go_simp⟩) (by assumption) ?_
        (try simp only [Act.put, List.getElem_toArray, List.getElem_cons_zero, List.getElem_cons_succ, List.setIfInBounds_toArray, List.set_cons_zero, List.set_cons_succ])
        refine wpAnyH_ready (rs := [24]) (by kernel_rfl) (by simp) ?_
        refine (AllReadyH.cons rfl (fun K hK => ?_) AllReadyH.nil)
        have f21 := B2.frozen 1
        have c21 := B2.cell 1
        simp at c21
        go_simp
        obtain ⟨wt4, Hwt4⟩ : ∃ x, Hid (x = wt3.setCell ⟨w.heap.size + 1, 1, none⟩ (.slice A2 (k + 1) c2)) := ⟨_, rfl⟩
        rw [← Hwt4.out]
        have B3 : Blk wt4 (w.heap.size + 1) 92 #[.int .i64 3, .slice A2 (k + 1) c2] := by rw [Hwt4.out]; simpa using B2.set_ 1 (.slice A2 (k + 1) c2)
        have BR3 : Blk wt4 w.heap.size 92 #[.int .i64 0, .slice none 0 0] := by rw [Hwt4.out]; exact BR2.far (by simp) _
        have hown3 : wt4.ownsRow w0.heap.size 3 1 (.slice A2 (k + 1) c2) (k + 1) (ints (L ++ [(R : Int)])) := by rw [Hwt4.out]; exact own_same hown2 fun b hb => Below.heap_setCell _ _ _ _ (fun e => by have := (hown2.lt b hb).1; rw [e] at this; simp at this; omega)
        have T3 : Below w.heap.size w wt4 := by rw [Hwt4.out]; exact T2.setCell (p := ⟨w.heap.size + 1, 1, none⟩) (by simp) _
        have hz3 : w0.heap.size ≤ wt4.heap.size := by rw [Hwt4.out]; simpa using Nat.le_trans hzW hz2
        replace cR0 := BR3.cell 0
        simp at cR0
        refine hK.out _ _ cR0 (fun hHeld4 => ?_)
        clear hK K hHeld3
        (try simp only [Act.put, List.getElem_toArray, List.getElem_cons_zero, List.getElem_cons_succ, List.setIfInBounds_toArray, List.set_cons_zero, List.set_cons_succ])
        refine wpAnyH_done (by kernel_rfl) ?_ _
        clear f1 f1t f2 f2t f3 f3t f4 f4t f5 f6 f7 f8 f8t g1 g2 g3 g4 g5 g6 g7 g8 g0
        go_wp2_with fail
        go_roundw
        case rel => exact ⟨k + 1, A2, c2, _, by omega, by go_num, B3, hown3, HL2, BR3, T3, hz3⟩
        case measure => simp [intOf]; omega
      · have hownW := hown1
        have BGW := BG
        have BRW := BR
        have hTW := hTr
        have hzW : w0.heap.size ≤ wt1.heap.size := Nat.le_trans hzr (by omega)
        go_simp
        obtain ⟨wt5, Hwt5⟩ : ∃ x, Hid (x = wt1.alloc (.cells #[.int .i64 (R : Int)] 3)) := ⟨_, Lib.hid rfl⟩
        rw [← Hwt5.out]
        have hbwt5 : Below wt1.heap.size wt1 wt5 := by rw [Hwt5.out]; exact below_box _ _
        have Bwt5 : Blk wt5 wt1.heap.size 3 #[.int .i64 (R : Int)] := by rw [Hwt5.out]; exact Blk.new _ _ _
        have zwt5 : wt1.heap.size < wt5.heap.size := Bwt5.lt
        have ywt5 := hbwt5.size
        replace BG := BG.next hbwt5
        replace BR := BR.next hbwt5
        replace hown1 := own_next hown1 hbwt5
        replace hTr := hTr.trans (hbwt5.mono hTr.size)
        replace cG1 := keepc hbwt5 cG1
        replace cR0 := keepc hbwt5 cR0
        refine hK.out _ _ cR0 (fun hHeld1 => ?_)
        clear hK K hHeld0
        (try simp only [Act.put, List.getElem_toArray, List.getElem_cons_zero, List.getElem_cons_succ, List.setIfInBounds_toArray, List.set_cons_zero, List.set_cons_succ])
        refine wpAnyH_ready (rs := [1]) (by kernel_rfl) (by simp) ?_
        refine (AllReadyH.cons rfl (fun K hK => ?_) AllReadyH.nil)
        go_simp
        refine hK.out _ _ cR0 (fun hHeld2 => ?_)
        clear hK K hHeld1
        (try simp only [Act.put, List.getElem_toArray, List.getElem_cons_zero, List.getElem_cons_succ, List.setIfInBounds_toArray, List.set_cons_zero, List.set_cons_succ])
        refine wpAnyH_ready (rs := [22]) (by kernel_rfl) (by simp) ?_
        refine (AllReadyH.cons rfl (fun K hK => ?_) AllReadyH.nil)
        rw [Hwt5.out]
        refine step_app1 wt1 rfl (.tmp 16) (.tmp 36) 55 3 rfl (.int .i64 0) 8 Try.underlying55 info_int rfl (by decide) w0.heap.size k c A (ints L) (by rfl) hownW _ rfl (by rfl) (by omega) hzW ?_
        intro A2 c2 wt6 hown2 hg2 hb2
        rw [HNX.out] at hown2
        have B2 := BGW.below hb2 hle0
        have BR2 := BRW.below hb2 (by omega)
        replace cR0 := BR2.cell 0
        simp at cR0
        have T2 := hTW.trans (hb2.mono (by omega))
        have hz2 := hb2.size
        refine hK.out _ _ cR0 (fun hHeld3 => ?_)
        clear hK K hHeld2
        (try simp only [Act.put, List.getElem_toArray, List.getElem_cons_zero, List.getElem_cons_succ, List.setIfInBounds_toArray, List.set_cons_zero, List.set_cons_succ])
        refine wpAnyH_take (i := 23) (v := .pointer (some ⟨(w.heap.size + 1), 1, none⟩)) rfl (by kernel_rfl) (by kernel_rfl) (by kernel_rfl) (fun _ _ _ h => h) (Or.inl ⟨by kernel_rfl, fun _ _ => by go_simp⟩) (by assumption) ?_
        (try simp only [Act.put, List.getElem_toArray, List.getElem_cons_zero, List.getElem_cons_succ, List.setIfInBounds_toArray, List.set_cons_zero, List.set_cons_succ])
        refine wpAnyH_ready (rs := [24]) (by kernel_rfl) (by simp) ?_
        refine (AllReadyH.cons rfl (fun K hK => ?_) AllReadyH.nil)
        have f21 := B2.frozen 1
        have c21 := B2.cell 1
        simp at c21
        go_simp
        obtain ⟨wt7, Hwt7⟩ : ∃ x, Hid (x = wt6.setCell ⟨w.heap.size + 1, 1, none⟩ (.slice A2 (k + 1) c2)) := ⟨_, rfl⟩
        rw [← Hwt7.out]
        have B3 : Blk wt7 (w.heap.size + 1) 92 #[.int .i64 3, .slice A2 (k + 1) c2] := by rw [Hwt7.out]; simpa using B2.set_ 1 (.slice A2 (k + 1) c2)
        have BR3 : Blk wt7 w.heap.size 92 #[.int .i64 0, .slice none 0 0] := by rw [Hwt7.out]; exact BR2.far (by simp) _
        have hown3 : wt7.ownsRow w0.heap.size 3 1 (.slice A2 (k + 1) c2) (k + 1) (ints (L ++ [(R : Int)])) := by rw [Hwt7.out]; exact own_same hown2 fun b hb => Below.heap_setCell _ _ _ _ (fun e => by have := (hown2.lt b hb).1; rw [e] at this; simp at this; omega)
        have T3 : Below w.heap.size w wt7 := by rw [Hwt7.out]; exact T2.setCell (p := ⟨w.heap.size + 1, 1, none⟩) (by simp) _
        have hz3 : w0.heap.size ≤ wt7.heap.size := by rw [Hwt7.out]; simpa using Nat.le_trans hzW hz2
        replace cR0 := BR3.cell 0
        simp at cR0
        refine hK.out _ _ cR0 (fun hHeld4 => ?_)
        clear hK K hHeld3
        (try simp only [Act.put, List.getElem_toArray, List.getElem_cons_zero, List.getElem_cons_succ, List.setIfInBounds_toArray, List.set_cons_zero, List.set_cons_succ])
        refine wpAnyH_done (by kernel_rfl) ?_ _
        clear f1 f1t f2 f2t f3 f3t f4 f4t f5 f6 f7 f8 f8t g1 g2 g3 g4 g5 g6 g7 g8 g0
        go_wp2_with fail
        go_roundw
        case rel => exact ⟨k + 1, A2, c2, _, by omega, by go_num, B3, hown3, HL2, BR3, T3, hz3⟩
        case measure => simp [intOf]; omega
    · obtain rfl : k = 8 := by omega
      have cG0 := BG.cell 0
      have cG1 := BG.cell 1
      have cR0 := BR.cell 0
      have cR1 := BR.cell 1
      simp at cG0 cG1 cR0 cR1
      have fR0 := BR.frozen 0
      have fR1 := BR.frozen 1
      obtain ⟨wf, HWF⟩ : ∃ wf, Hid (wf = (wr.setCell ⟨w.heap.size, 0, none⟩ (.int .i64 3)).setCell ⟨w.heap.size, 1, none⟩ (.slice A 8 c)) := ⟨_, rfl⟩
      have BLF : Hid (Blk wf w.heap.size 92 #[.int .i64 3, .slice A 8 c]) := by show Blk _ _ _ _; rw [HWF.out]; simpa using (BR.set_ 0 (.int .i64 3)).set_ 1 (.slice A 8 c)
      have OF : Hid (wf.ownsRow w0.heap.size 3 1 (.slice A 8 c) 8 (ints L)) := by show World.ownsRow _ _ _ _ _ _ _; rw [HWF.out]; exact own_same (own_same hown fun b hb => Below.heap_setCell _ _ _ _ (fun e => by have := (hown.lt b hb).1; rw [e] at this; simp at this; omega)) fun b hb => Below.heap_setCell _ _ _ _ (fun e => by have := (hown.lt b hb).1; rw [e] at this; simp at this; omega)
      have TF : Hid (Below w.heap.size w wf) := by show Below _ _ _; rw [HWF.out]; exact (hTr.setCell (p := ⟨w.heap.size, 0, none⟩) (Nat.le_refl _) _).setCell (p := ⟨w.heap.size, 1, none⟩) (Nat.le_refl _) _
      clear BG BR hown hTr
      go_wp2_with fail
      rw [← HWF.out]
      (try simp only [Exit.inBlock, Exit.then])
      refine bodyPost_ret (v := .agg #[.int .i64 3, .slice A 8 c]) (results_cell_row rfl _ _ w.heap.size 92 #[.int .i64 3, .slice A 8 c] (0, 0) _ (by simp) BLF.out Try.underlying92 rfl (by kernel_rfl)) rfl ?_
      have hoo := own_opE (w := w) (w' := wf) (a := 3) ⟨by omega, by omega⟩ HL.out.1 (own_mono OF.out (by omega)) fun v hv => by have := HL.out.2 v hv; exact ⟨by omega, by omega⟩
      exact ⟨L, ⟨[.int .i64 3, .slice A 8 c], _, rfl, hoo.1, hoo.2, TF.out⟩, HL.out.1, HL.out.2⟩
/-! ## l2Affine 3 -/
set_option maxRecDepth 20000 in
set_option maxHeartbeats 4000000 in
theorem l2Affine3_any (w : World) : Calls Try.prog 113 #[.int .i64 3] w fun e w' => ∃ L, ToE shOp w (3, L) e w' ∧ L.length = 27 ∧ ∀ v ∈ L, 0 ≤ v ∧ v ≤ 2 := by
  obtain ⟨w0, hw0, T0, hsz0, BR, BG⟩ := boxes2 w #[.int .i64 0, .slice none 0 0] #[.int .i64 3, .slice none 0 0] 92 92
  have hown0 : w0.ownsRow w0.heap.size 3 1 (.slice none 0 0) 0 (ints []) := ⟨rfl, .inl ⟨rfl, rfl⟩⟩
  have HW0 := Lib.hid hw0
  have hle0 : w.heap.size + 1 < w0.heap.size := by omega
  clear hw0 hsz0
  go_enter Try.func113, Try.ntmps113
  go_upto_region 2 with fail
  rw [← HW0.out]
  go_wp2_with fail
  go_loopw [4] (fun i wr => ∃ (k : Nat) (A : Option Addr) (c : Nat) (L : List Int), k ≤ 27 ∧ i = .int .i64 k ∧ Blk wr (w.heap.size + 1) 92 #[.int .i64 3, .slice A k c] ∧ wr.ownsRow w0.heap.size 3 1 (.slice A k c) k (ints L) ∧ Hid (L.length = k ∧ ∀ v ∈ L, 0 ≤ v ∧ v ≤ 2) ∧ Blk wr w.heap.size 92 #[.int .i64 0, .slice none 0 0] ∧ Below w.heap.size w wr ∧ w0.heap.size ≤ wr.heap.size) (fun i _ => 27 - (intOf i).toNat)
  case atStart => exact ⟨0, none, 0, [], Nat.zero_le _, rfl, BG, hown0, Lib.hid ⟨rfl, fun v hv => by cases hv⟩, BR, T0, Nat.le_refl _⟩
  case round =>
    clear BG hown0 BR T0
    obtain ⟨k, A, c, L, hk, rfl, BG, hown, HL, BR, hTr, hzr⟩ := hrel
    by_cases hlt : k < 27
    · have hk0 : (0 : Int) ≤ (k : Int) := by omega
      have hk1 : (k : Int) < 27 := by omega
      have cG1 := BG.cell 1
      simp at cG1
      have hown1 := hown
      have hzz := hzr
      have cR0 := BR.cell 0
      simp at cR0
      obtain ⟨D1, hD1⟩ : ∃ D, k / 9 = D := ⟨_, rfl⟩
      obtain ⟨D2, hD2⟩ : ∃ D, k / 3 = D := ⟨_, rfl⟩
      obtain ⟨D3, hD3⟩ : ∃ D, D2 % 3 = D := ⟨_, rfl⟩
      obtain ⟨D4, hD4⟩ : ∃ D, k % 3 = D := ⟨_, rfl⟩
      obtain ⟨E1, hE1⟩ : ∃ D, D1 + 3 = D := ⟨_, rfl⟩
      obtain ⟨E2, hE2⟩ : ∃ D, E1 - D3 = D := ⟨_, rfl⟩
      obtain ⟨E3, hE3⟩ : ∃ D, E2 + D4 = D := ⟨_, rfl⟩
      obtain ⟨R, hR⟩ : ∃ D, E3 % 3 = D := ⟨_, rfl⟩
      have f1 : (k : Int) / 9 = (D1 : Int) := by omega
      have f1t : (k : Int).tdiv 9 = (D1 : Int) := by rw [Int.tdiv_eq_ediv_of_nonneg hk0]; exact f1
      have f2 : (k : Int) / 3 = (D2 : Int) := by omega
      have f2t : (k : Int).tdiv 3 = (D2 : Int) := by rw [Int.tdiv_eq_ediv_of_nonneg hk0]; exact f2
      have f3 : (D2 : Int) % 3 = (D3 : Int) := by omega
      have f3t : (D2 : Int).tmod 3 = (D3 : Int) := by rw [Int.tmod_eq_emod_of_nonneg (by omega)]; exact f3
      have f4 : (k : Int) % 3 = (D4 : Int) := by omega
      have f4t : (k : Int).tmod 3 = (D4 : Int) := by rw [Int.tmod_eq_emod_of_nonneg hk0]; exact f4
      have f5 : (D1 : Int) + 3 = (E1 : Int) := by omega
      have f6 : (E1 : Int) - (D3 : Int) = (E2 : Int) := by omega
      have f7 : (E2 : Int) + (D4 : Int) = (E3 : Int) := by omega
      have f8 : (E3 : Int) % 3 = (R : Int) := by omega
      have f8t : (E3 : Int).tmod 3 = (R : Int) := by rw [Int.tmod_eq_emod_of_nonneg (by omega)]; exact f8
      have g1 : IntKind.i64.wrap (D1 : Int) = (D1 : Int) := by rw [IntKind.wrap_i64]; omega
      have g2 : IntKind.i64.wrap (D2 : Int) = (D2 : Int) := by rw [IntKind.wrap_i64]; omega
      have g3 : IntKind.i64.wrap (D3 : Int) = (D3 : Int) := by rw [IntKind.wrap_i64]; omega
      have g4 : IntKind.i64.wrap (D4 : Int) = (D4 : Int) := by rw [IntKind.wrap_i64]; omega
      have g5 : IntKind.i64.wrap (E1 : Int) = (E1 : Int) := by rw [IntKind.wrap_i64]; omega
      have g6 : IntKind.i64.wrap (E2 : Int) = (E2 : Int) := by rw [IntKind.wrap_i64]; omega
      have g7 : IntKind.i64.wrap (E3 : Int) = (E3 : Int) := by rw [IntKind.wrap_i64]; omega
      have g8 : IntKind.i64.wrap (R : Int) = (R : Int) := by rw [IntKind.wrap_i64]; omega
      have g0 : IntKind.i64.wrap 9 = 9 := by rw [IntKind.wrap_i64]; omega
      have HL2 : Hid ((L ++ [(R : Int)]).length = k + 1 ∧ ∀ v ∈ L ++ [(R : Int)], 0 ≤ v ∧ v ≤ 2) := by
        refine ⟨by rw [List.length_append, HL.out.1]; rfl, fun v hv => ?_⟩
        rcases List.mem_append.1 hv with hv | hv
        · exact HL.out.2 v hv
        · rw [List.mem_singleton.1 hv]; omega
      clear hD1 hD2 hD3 hD4 hE1 hE2 hE3 hR
      have HNX : Hid (ints L ++ [.int .i64 (R : Int)] = ints (L ++ [(R : Int)])) := by show _ = _; simp [ints]
      go_upto_region 5 with fail
      refine wp_region_held_drew (S := fun w' => w'.cell? ⟨w.heap.size, 0, none⟩ = some (.int .i64 0)) (by kernel_rfl) cR0 (fun hHeld0 => ?_)
      obtain ⟨wt1, Hwt1⟩ : ∃ x, Hid (x = World.drew wr) := ⟨_, rfl⟩
      have hbwt1 : Below wr.heap.size wr wt1 := by rw [Hwt1.out]; exact (Below.refl _ _).drew
      rw [← Hwt1.out] at hHeld0 ⊢
      have ywt1 := hbwt1.size
      replace BG := BG.next hbwt1
      replace BR := BR.next hbwt1
      replace hown1 := own_next hown1 hbwt1
      replace hTr := hTr.trans (hbwt1.mono hTr.size)
      replace cG1 := keepc hbwt1 cG1
      replace cR0 := keepc hbwt1 cR0
      refine wpAnyH_take (i := 0) (v := .pointer (some ⟨(w.heap.size + 1), 1, none⟩)) rfl (by kernel_rfl) (by kernel_rfl) (by kernel_rfl) (fun _ _ _ h => h) (Or.inl ⟨by kernel_rfl, fun _ _ => by go_simp⟩) (by assumption) ?_
      (try simp only [Act.put, List.getElem_toArray, List.getElem_cons_zero, List.getElem_cons_succ, List.setIfInBounds_toArray, List.set_cons_zero, List.set_cons_succ])
      refine wpAnyH_take (i := 2) (v := .int .i64 k) rfl (by kernel_rfl) (by kernel_rfl) (by kernel_rfl) (fun _ _ _ h => h) (Or.inl ⟨by kernel_rfl, fun _ _ => by go_simp⟩) (by assumption) ?_
      (try simp only [Act.put, List.getElem_toArray, List.getElem_cons_zero, List.getElem_cons_succ, List.setIfInBounds_toArray, List.set_cons_zero, List.set_cons_succ])
      refine wpAnyH_take (i := 3) (v := .int .i64 3) rfl (by kernel_rfl) (by kernel_rfl) (by kernel_rfl) (fun _ _ _ h => h) (Or.inl ⟨by kernel_rfl, fun _ _ => by go_simp⟩) (by assumption) ?_
      (try simp only [Act.put, List.getElem_toArray, List.getElem_cons_zero, List.getElem_cons_succ, List.setIfInBounds_toArray, List.set_cons_zero, List.set_cons_succ])
      refine wpAnyH_take (i := 4) (v := .int .i64 3) rfl (by kernel_rfl) (by kernel_rfl) (by kernel_rfl) (fun _ _ _ h => h) (Or.inl ⟨by kernel_rfl, fun _ _ => by go_simp⟩) (by assumption) ?_
      (try simp only [Act.put, List.getElem_toArray, List.getElem_cons_zero, List.getElem_cons_succ, List.setIfInBounds_toArray, List.set_cons_zero, List.set_cons_succ])
      refine wpAnyH_take (i := 5) (v := .int .i64 9) rfl (by kernel_rfl) (by kernel_rfl) (by kernel_rfl) (fun _ _ _ h => h) (Or.inl ⟨by kernel_rfl, fun _ _ => by go_simp⟩) (by assumption) ?_
      (try simp only [Act.put, List.getElem_toArray, List.getElem_cons_zero, List.getElem_cons_succ, List.setIfInBounds_toArray, List.set_cons_zero, List.set_cons_succ])
      refine wpAnyH_take (i := 6) (v := .int .i64 (D1 : Int)) rfl (by kernel_rfl) (by kernel_rfl) (by kernel_rfl) (fun _ _ _ h => h) (Or.inl ⟨by kernel_rfl, fun _ _ => by go_simp⟩) (by assumption) ?_
      (try simp only [Act.put, List.getElem_toArray, List.getElem_cons_zero, List.getElem_cons_succ, List.setIfInBounds_toArray, List.set_cons_zero, List.set_cons_succ])
      refine wpAnyH_take (i := 7) (v := .int .i64 3) rfl (by kernel_rfl) (by kernel_rfl) (by kernel_rfl) (fun _ _ _ h => h) (Or.inl ⟨by kernel_rfl, fun _ _ => by go_simp⟩) (by assumption) ?_
      (try simp only [Act.put, List.getElem_toArray, List.getElem_cons_zero, List.getElem_cons_succ, List.setIfInBounds_toArray, List.set_cons_zero, List.set_cons_succ])
      refine wpAnyH_take (i := 8) (v := .int .i64 (E1 : Int)) rfl (by kernel_rfl) (by kernel_rfl) (by kernel_rfl) (fun _ _ _ h => h) (Or.inl ⟨by kernel_rfl, fun _ _ => by go_simp⟩) (by assumption) ?_
      (try simp only [Act.put, List.getElem_toArray, List.getElem_cons_zero, List.getElem_cons_succ, List.setIfInBounds_toArray, List.set_cons_zero, List.set_cons_succ])
      refine wpAnyH_take (i := 9) (v := .int .i64 k) rfl (by kernel_rfl) (by kernel_rfl) (by kernel_rfl) (fun _ _ _ h => h) (Or.inl ⟨by kernel_rfl, fun _ _ => by go_simp⟩) (by assumption) ?_
      (try simp only [Act.put, List.getElem_toArray, List.getElem_cons_zero, List.getElem_cons_succ, List.setIfInBounds_toArray, List.set_cons_zero, List.set_cons_succ])
      refine wpAnyH_take (i := 10) (v := .int .i64 3) rfl (by kernel_rfl) (by kernel_rfl) (by kernel_rfl) (fun _ _ _ h => h) (Or.inl ⟨by kernel_rfl, fun _ _ => by go_simp⟩) (by assumption) ?_
      (try simp only [Act.put, List.getElem_toArray, List.getElem_cons_zero, List.getElem_cons_succ, List.setIfInBounds_toArray, List.set_cons_zero, List.set_cons_succ])
      refine wpAnyH_take (i := 11) (v := .int .i64 (D2 : Int)) rfl (by kernel_rfl) (by kernel_rfl) (by kernel_rfl) (fun _ _ _ h => h) (Or.inl ⟨by kernel_rfl, fun _ _ => by go_simp⟩) (by assumption) ?_
      (try simp only [Act.put, List.getElem_toArray, List.getElem_cons_zero, List.getElem_cons_succ, List.setIfInBounds_toArray, List.set_cons_zero, List.set_cons_succ])
      refine wpAnyH_take (i := 12) (v := .int .i64 3) rfl (by kernel_rfl) (by kernel_rfl) (by kernel_rfl) (fun _ _ _ h => h) (Or.inl ⟨by kernel_rfl, fun _ _ => by go_simp⟩) (by assumption) ?_
      (try simp only [Act.put, List.getElem_toArray, List.getElem_cons_zero, List.getElem_cons_succ, List.setIfInBounds_toArray, List.set_cons_zero, List.set_cons_succ])
      refine wpAnyH_take (i := 13) (v := .int .i64 (D3 : Int)) rfl (by kernel_rfl) (by kernel_rfl) (by kernel_rfl) (fun _ _ _ h => h) (Or.inl ⟨by kernel_rfl, fun _ _ => by go_simp⟩) (by assumption) ?_
      (try simp only [Act.put, List.getElem_toArray, List.getElem_cons_zero, List.getElem_cons_succ, List.setIfInBounds_toArray, List.set_cons_zero, List.set_cons_succ])
      refine wpAnyH_take (i := 14) (v := .int .i64 (E2 : Int)) rfl (by kernel_rfl) (by kernel_rfl) (by kernel_rfl) (fun _ _ _ h => h) (Or.inl ⟨by kernel_rfl, fun _ _ => by go_simp⟩) (by assumption) ?_
      (try simp only [Act.put, List.getElem_toArray, List.getElem_cons_zero, List.getElem_cons_succ, List.setIfInBounds_toArray, List.set_cons_zero, List.set_cons_succ])
      refine wpAnyH_take (i := 15) (v := .int .i64 k) rfl (by kernel_rfl) (by kernel_rfl) (by kernel_rfl) (fun _ _ _ h => h) (Or.inl ⟨by kernel_rfl, fun _ _ => by go_simp⟩) (by assumption) ?_
      (try simp only [Act.put, List.getElem_toArray, List.getElem_cons_zero, List.getElem_cons_succ, List.setIfInBounds_toArray, List.set_cons_zero, List.set_cons_succ])
      refine wpAnyH_take (i := 16) (v := .int .i64 3) rfl (by kernel_rfl) (by kernel_rfl) (by kernel_rfl) (fun _ _ _ h => h) (Or.inl ⟨by kernel_rfl, fun _ _ => by go_simp⟩) (by assumption) ?_
      (try simp only [Act.put, List.getElem_toArray, List.getElem_cons_zero, List.getElem_cons_succ, List.setIfInBounds_toArray, List.set_cons_zero, List.set_cons_succ])
      refine wpAnyH_take (i := 17) (v := .int .i64 (D4 : Int)) rfl (by kernel_rfl) (by kernel_rfl) (by kernel_rfl) (fun _ _ _ h => h) (Or.inl ⟨by kernel_rfl, fun _ _ => by go_simp⟩) (by assumption) ?_
      (try simp only [Act.put, List.getElem_toArray, List.getElem_cons_zero, List.getElem_cons_succ, List.setIfInBounds_toArray, List.set_cons_zero, List.set_cons_succ])
      refine wpAnyH_take (i := 18) (v := .int .i64 (E3 : Int)) rfl (by kernel_rfl) (by kernel_rfl) (by kernel_rfl) (fun _ _ _ h => h) (Or.inl ⟨by kernel_rfl, fun _ _ => by go_simp⟩) (by assumption) ?_
      (try simp only [Act.put, List.getElem_toArray, List.getElem_cons_zero, List.getElem_cons_succ, List.setIfInBounds_toArray, List.set_cons_zero, List.set_cons_succ])
      refine wpAnyH_take (i := 19) (v := .int .i64 3) rfl (by kernel_rfl) (by kernel_rfl) (by kernel_rfl) (fun _ _ _ h => h) (Or.inl ⟨by kernel_rfl, fun _ _ => by go_simp⟩) (by assumption) ?_
      (try simp only [Act.put, List.getElem_toArray, List.getElem_cons_zero, List.getElem_cons_succ, List.setIfInBounds_toArray, List.set_cons_zero, List.set_cons_succ])
      refine wpAnyH_take (i := 20) (v := .int .i64 (R : Int)) rfl (by kernel_rfl) (by kernel_rfl) (by kernel_rfl) (fun _ _ _ h => h) (Or.inl ⟨by kernel_rfl, fun _ _ => by go_simp⟩) (by assumption) ?_
      (try simp only [Act.put, List.getElem_toArray, List.getElem_cons_zero, List.getElem_cons_succ, List.setIfInBounds_toArray, List.set_cons_zero, List.set_cons_succ])
      refine wpAnyH_ready (rs := [1, 21]) (by kernel_rfl) (by simp) ?_
      refine (AllReadyH.cons rfl (fun K hK => ?_) (AllReadyH.cons rfl (fun K hK => ?_) AllReadyH.nil))
      · go_simp
        refine hK.out _ _ cR0 (fun hHeld1 => ?_)
        clear hK K hHeld0
        (try simp only [Act.put, List.getElem_toArray, List.getElem_cons_zero, List.getElem_cons_succ, List.setIfInBounds_toArray, List.set_cons_zero, List.set_cons_succ])
        refine wpAnyH_ready (rs := [21]) (by kernel_rfl) (by simp) ?_
        refine (AllReadyH.cons rfl (fun K hK => ?_) AllReadyH.nil)
        have hownW := hown1
        have BGW := BG
        have BRW := BR
        have hTW := hTr
        have hzW : w0.heap.size ≤ wt1.heap.size := Nat.le_trans hzr (by omega)
        go_simp
        obtain ⟨wt2, Hwt2⟩ : ∃ x, Hid (x = wt1.alloc (.cells #[.int .i64 (R : Int)] 3)) := ⟨_, Lib.hid rfl⟩
        rw [← Hwt2.out]
        have hbwt2 : Below wt1.heap.size wt1 wt2 := by rw [Hwt2.out]; exact below_box _ _
        have Bwt2 : Blk wt2 wt1.heap.size 3 #[.int .i64 (R : Int)] := by rw [Hwt2.out]; exact Blk.new _ _ _
        have zwt2 : wt1.heap.size < wt2.heap.size := Bwt2.lt
        have ywt2 := hbwt2.size
        replace BG := BG.next hbwt2
        replace BR := BR.next hbwt2
        replace hown1 := own_next hown1 hbwt2
        replace hTr := hTr.trans (hbwt2.mono hTr.size)
        replace cG1 := keepc hbwt2 cG1
        replace cR0 := keepc hbwt2 cR0
        refine hK.out _ _ cR0 (fun hHeld2 => ?_)
        clear hK K hHeld1
        (try simp only [Act.put, List.getElem_toArray, List.getElem_cons_zero, List.getElem_cons_succ, List.setIfInBounds_toArray, List.set_cons_zero, List.set_cons_succ])
        refine wpAnyH_ready (rs := [22]) (by kernel_rfl) (by simp) ?_
        refine (AllReadyH.cons rfl (fun K hK => ?_) AllReadyH.nil)
        rw [Hwt2.out]
        refine step_app1 wt1 rfl (.tmp 16) (.tmp 36) 55 3 rfl (.int .i64 0) 8 Try.underlying55 info_int rfl (by decide) w0.heap.size k c A (ints L) (by rfl) hownW _ rfl (by rfl) (by omega) hzW ?_
        intro A2 c2 wt3 hown2 hg2 hb2
        rw [HNX.out] at hown2
        have B2 := BGW.below hb2 hle0
        have BR2 := BRW.below hb2 (by omega)
        replace cR0 := BR2.cell 0
        simp at cR0
        have T2 := hTW.trans (hb2.mono (by omega))
        have hz2 := hb2.size
        refine hK.out _ _ cR0 (fun hHeld3 => ?_)
        clear hK K hHeld2
        (try simp only [Act.put, List.getElem_toArray, List.getElem_cons_zero, List.getElem_cons_succ, List.setIfInBounds_toArray, List.set_cons_zero, List.set_cons_succ])
        refine wpAnyH_take (i := 23) (v := .pointer (some ⟨(w.heap.size + 1), 1, none⟩)) rfl (by kernel_rfl) (by kernel_rfl) (by kernel_rfl) (fun _ _ _ h => h) (Or.inl ⟨by kernel_rfl, fun _ _ => by go_simp⟩) (by assumption) ?_
        (try simp only [Act.put, List.getElem_toArray, List.getElem_cons_zero, List.getElem_cons_succ, List.setIfInBounds_toArray, List.set_cons_zero, List.set_cons_succ])
        refine wpAnyH_ready (rs := [24]) (by kernel_rfl) (by simp) ?_
        refine (AllReadyH.cons rfl (fun K hK => ?_) AllReadyH.nil)
        have f21 := B2.frozen 1
        have c21 := B2.cell 1
        simp at c21
        go_simp
        obtain ⟨wt4, Hwt4⟩ : ∃ x, Hid (x = wt3.setCell ⟨w.heap.size + 1, 1, none⟩ (.slice A2 (k + 1) c2)) := ⟨_, rfl⟩
        rw [← Hwt4.out]
        have B3 : Blk wt4 (w.heap.size + 1) 92 #[.int .i64 3, .slice A2 (k + 1) c2] := by rw [Hwt4.out]; simpa using B2.set_ 1 (.slice A2 (k + 1) c2)
        have BR3 : Blk wt4 w.heap.size 92 #[.int .i64 0, .slice none 0 0] := by rw [Hwt4.out]; exact BR2.far (by simp) _
        have hown3 : wt4.ownsRow w0.heap.size 3 1 (.slice A2 (k + 1) c2) (k + 1) (ints (L ++ [(R : Int)])) := by rw [Hwt4.out]; exact own_same hown2 fun b hb => Below.heap_setCell _ _ _ _ (fun e => by have := (hown2.lt b hb).1; rw [e] at this; simp at this; omega)
        have T3 : Below w.heap.size w wt4 := by rw [Hwt4.out]; exact T2.setCell (p := ⟨w.heap.size + 1, 1, none⟩) (by simp) _
        have hz3 : w0.heap.size ≤ wt4.heap.size := by rw [Hwt4.out]; simpa using Nat.le_trans hzW hz2
        replace cR0 := BR3.cell 0
        simp at cR0
        refine hK.out _ _ cR0 (fun hHeld4 => ?_)
        clear hK K hHeld3
        (try simp only [Act.put, List.getElem_toArray, List.getElem_cons_zero, List.getElem_cons_succ, List.setIfInBounds_toArray, List.set_cons_zero, List.set_cons_succ])
        refine wpAnyH_done (by kernel_rfl) ?_ _
        clear f1 f1t f2 f2t f3 f3t f4 f4t f5 f6 f7 f8 f8t g1 g2 g3 g4 g5 g6 g7 g8 g0
        go_wp2_with fail
        go_roundw
        case rel => exact ⟨k + 1, A2, c2, _, by omega, by go_num, B3, hown3, HL2, BR3, T3, hz3⟩
        case measure => simp [intOf]; omega
      · have hownW := hown1
        have BGW := BG
        have BRW := BR
        have hTW := hTr
        have hzW : w0.heap.size ≤ wt1.heap.size := Nat.le_trans hzr (by omega)
        go_simp
        obtain ⟨wt5, Hwt5⟩ : ∃ x, Hid (x = wt1.alloc (.cells #[.int .i64 (R : Int)] 3)) := ⟨_, Lib.hid rfl⟩
        rw [← Hwt5.out]
        have hbwt5 : Below wt1.heap.size wt1 wt5 := by rw [Hwt5.out]; exact below_box _ _
        have Bwt5 : Blk wt5 wt1.heap.size 3 #[.int .i64 (R : Int)] := by rw [Hwt5.out]; exact Blk.new _ _ _
        have zwt5 : wt1.heap.size < wt5.heap.size := Bwt5.lt
        have ywt5 := hbwt5.size
        replace BG := BG.next hbwt5
        replace BR := BR.next hbwt5
        replace hown1 := own_next hown1 hbwt5
        replace hTr := hTr.trans (hbwt5.mono hTr.size)
        replace cG1 := keepc hbwt5 cG1
        replace cR0 := keepc hbwt5 cR0
        refine hK.out _ _ cR0 (fun hHeld1 => ?_)
        clear hK K hHeld0
        (try simp only [Act.put, List.getElem_toArray, List.getElem_cons_zero, List.getElem_cons_succ, List.setIfInBounds_toArray, List.set_cons_zero, List.set_cons_succ])
        refine wpAnyH_ready (rs := [1]) (by kernel_rfl) (by simp) ?_
        refine (AllReadyH.cons rfl (fun K hK => ?_) AllReadyH.nil)
        go_simp
        refine hK.out _ _ cR0 (fun hHeld2 => ?_)
        clear hK K hHeld1
        (try simp only [Act.put, List.getElem_toArray, List.getElem_cons_zero, List.getElem_cons_succ, List.setIfInBounds_toArray, List.set_cons_zero, List.set_cons_succ])
        refine wpAnyH_ready (rs := [22]) (by kernel_rfl) (by simp) ?_
        refine (AllReadyH.cons rfl (fun K hK => ?_) AllReadyH.nil)
        rw [Hwt5.out]
        refine step_app1 wt1 rfl (.tmp 16) (.tmp 36) 55 3 rfl (.int .i64 0) 8 Try.underlying55 info_int rfl (by decide) w0.heap.size k c A (ints L) (by rfl) hownW _ rfl (by rfl) (by omega) hzW ?_
        intro A2 c2 wt6 hown2 hg2 hb2
        rw [HNX.out] at hown2
        have B2 := BGW.below hb2 hle0
        have BR2 := BRW.below hb2 (by omega)
        replace cR0 := BR2.cell 0
        simp at cR0
        have T2 := hTW.trans (hb2.mono (by omega))
        have hz2 := hb2.size
        refine hK.out _ _ cR0 (fun hHeld3 => ?_)
        clear hK K hHeld2
        (try simp only [Act.put, List.getElem_toArray, List.getElem_cons_zero, List.getElem_cons_succ, List.setIfInBounds_toArray, List.set_cons_zero, List.set_cons_succ])
        refine wpAnyH_take (i := 23) (v := .pointer (some ⟨(w.heap.size + 1), 1, none⟩)) rfl (by kernel_rfl) (by kernel_rfl) (by kernel_rfl) (fun _ _ _ h => h) (Or.inl ⟨by kernel_rfl, fun _ _ => by go_simp⟩) (by assumption) ?_
        (try simp only [Act.put, List.getElem_toArray, List.getElem_cons_zero, List.getElem_cons_succ, List.setIfInBounds_toArray, List.set_cons_zero, List.set_cons_succ])
        refine wpAnyH_ready (rs := [24]) (by kernel_rfl) (by simp) ?_
        refine (AllReadyH.cons rfl (fun K hK => ?_) AllReadyH.nil)
        have f21 := B2.frozen 1
        have c21 := B2.cell 1
        simp at c21
        go_simp
        obtain ⟨wt7, Hwt7⟩ : ∃ x, Hid (x = wt6.setCell ⟨w.heap.size + 1, 1, none⟩ (.slice A2 (k + 1) c2)) := ⟨_, rfl⟩
        rw [← Hwt7.out]
        have B3 : Blk wt7 (w.heap.size + 1) 92 #[.int .i64 3, .slice A2 (k + 1) c2] := by rw [Hwt7.out]; simpa using B2.set_ 1 (.slice A2 (k + 1) c2)
        have BR3 : Blk wt7 w.heap.size 92 #[.int .i64 0, .slice none 0 0] := by rw [Hwt7.out]; exact BR2.far (by simp) _
        have hown3 : wt7.ownsRow w0.heap.size 3 1 (.slice A2 (k + 1) c2) (k + 1) (ints (L ++ [(R : Int)])) := by rw [Hwt7.out]; exact own_same hown2 fun b hb => Below.heap_setCell _ _ _ _ (fun e => by have := (hown2.lt b hb).1; rw [e] at this; simp at this; omega)
        have T3 : Below w.heap.size w wt7 := by rw [Hwt7.out]; exact T2.setCell (p := ⟨w.heap.size + 1, 1, none⟩) (by simp) _
        have hz3 : w0.heap.size ≤ wt7.heap.size := by rw [Hwt7.out]; simpa using Nat.le_trans hzW hz2
        replace cR0 := BR3.cell 0
        simp at cR0
        refine hK.out _ _ cR0 (fun hHeld4 => ?_)
        clear hK K hHeld3
        (try simp only [Act.put, List.getElem_toArray, List.getElem_cons_zero, List.getElem_cons_succ, List.setIfInBounds_toArray, List.set_cons_zero, List.set_cons_succ])
        refine wpAnyH_done (by kernel_rfl) ?_ _
        clear f1 f1t f2 f2t f3 f3t f4 f4t f5 f6 f7 f8 f8t g1 g2 g3 g4 g5 g6 g7 g8 g0
        go_wp2_with fail
        go_roundw
        case rel => exact ⟨k + 1, A2, c2, _, by omega, by go_num, B3, hown3, HL2, BR3, T3, hz3⟩
        case measure => simp [intOf]; omega
    · obtain rfl : k = 27 := by omega
      have cG0 := BG.cell 0
      have cG1 := BG.cell 1
      have cR0 := BR.cell 0
      have cR1 := BR.cell 1
      simp at cG0 cG1 cR0 cR1
      have fR0 := BR.frozen 0
      have fR1 := BR.frozen 1
      obtain ⟨wf, HWF⟩ : ∃ wf, Hid (wf = (wr.setCell ⟨w.heap.size, 0, none⟩ (.int .i64 3)).setCell ⟨w.heap.size, 1, none⟩ (.slice A 27 c)) := ⟨_, rfl⟩
      have BLF : Hid (Blk wf w.heap.size 92 #[.int .i64 3, .slice A 27 c]) := by show Blk _ _ _ _; rw [HWF.out]; simpa using (BR.set_ 0 (.int .i64 3)).set_ 1 (.slice A 27 c)
      have OF : Hid (wf.ownsRow w0.heap.size 3 1 (.slice A 27 c) 27 (ints L)) := by show World.ownsRow _ _ _ _ _ _ _; rw [HWF.out]; exact own_same (own_same hown fun b hb => Below.heap_setCell _ _ _ _ (fun e => by have := (hown.lt b hb).1; rw [e] at this; simp at this; omega)) fun b hb => Below.heap_setCell _ _ _ _ (fun e => by have := (hown.lt b hb).1; rw [e] at this; simp at this; omega)
      have TF : Hid (Below w.heap.size w wf) := by show Below _ _ _; rw [HWF.out]; exact (hTr.setCell (p := ⟨w.heap.size, 0, none⟩) (Nat.le_refl _) _).setCell (p := ⟨w.heap.size, 1, none⟩) (Nat.le_refl _) _
      clear BG BR hown hTr
      go_wp2_with fail
      rw [← HWF.out]
      (try simp only [Exit.inBlock, Exit.then])
      refine bodyPost_ret (v := .agg #[.int .i64 3, .slice A 27 c]) (results_cell_row rfl _ _ w.heap.size 92 #[.int .i64 3, .slice A 27 c] (0, 0) _ (by simp) BLF.out Try.underlying92 rfl (by kernel_rfl)) rfl ?_
      have hoo := own_opE (w := w) (w' := wf) (a := 3) ⟨by omega, by omega⟩ HL.out.1 (own_mono OF.out (by omega)) fun v hv => by have := HL.out.2 v hv; exact ⟨by omega, by omega⟩
      exact ⟨L, ⟨[.int .i64 3, .slice A 27 c], _, rfl, hoo.1, hoo.2, TF.out⟩, HL.out.1, HL.out.2⟩
/-! ## l2Known -/
set_option maxRecDepth 20000 in
set_option maxHeartbeats 16000000 in
theorem l2Known_any (k : Int) (w : World) (hk : 0 ≤ k) : Calls Try.prog 80 #[.int .i64 k] w fun e w' => ∃ x, ToE shAlgebra w x e w' ∧ SmallP x := by
  obtain ⟨w0, hw0, T0, hsz0, BR⟩ := boxes1 w #[.int .i64 0, .slice none 0 0] 27
  have HW0 := Lib.hid hw0
  have hle0 : w.heap.size < w0.heap.size := by omega
  clear hw0 hsz0
  obtain rfl | rfl | rfl | rfl | rfl | rfl | rfl | rfl | rfl | rfl | rfl | rfl | rfl | rfl | rfl | rfl | hk : k = 0 ∨ k = 1 ∨ k = 2 ∨ k = 3 ∨ k = 4 ∨ k = 5 ∨ k = 6 ∨ k = 7 ∨ k = 8 ∨ k = 9 ∨ k = 10 ∨ k = 11 ∨ k = 12 ∨ k = 13 ∨ k = 14 ∨ k = 15 ∨ 16 ≤ k := by omega
  · go_enter Try.func80, Try.ntmps80
    go_upto_region 3 with fail
    rw [← HW0.out]
    go_wp2_with fail
    refine (l2Binary_any ⟨#[48, 48, 48, 49]⟩ w0 (by decide)).mono ?_
    rintro e w1003 ⟨cs0, bl0, rfl, O0, I0, hb0⟩
    obtain ⟨A0, n0, c0, rfl, -, -⟩ := rdOp (shOp.ord O0)
    replace T0 := below_next T0 hb0 rfl
    replace BR := BR.next hb0
    have zw1003 := hb0.size
    have hiv : Iv w0.heap.size w1003.heap.size ([bl0].flatten : List Nat) := (Iv.app0 (I0.mono (Nat.le_refl _) (by omega)))
    obtain ⟨w1010, Hw1010⟩ : ∃ x, Hid (x = w1003.alloc (.cells #[.int .i64 2, .slice A0 n0 c0] 92)) := ⟨_, Lib.hid rfl⟩
    have hbw1010 : Below w1003.heap.size w1003 w1010 := by rw [Hw1010.out]; exact below_box _ _
    have hPO : PO w0.heap.size w1010 (.slice (some ⟨w1003.heap.size, 0, none⟩) 1 1) [(2, binL ⟨#[48, 48, 48, 49]⟩)] [[.int .i64 2, .slice A0 n0 c0]] [bl0] := by
      rw [Hw1010.out]
      have := PO.make (n := 1) (cells := #[.int .i64 2, .slice A0 n0 c0]) (OwnL.cons O0 (OwnL.nil _)) hiv (by omega) rfl (by decide) rfl
      exact this
    replace T0 := below_next T0 hbw1010 rfl
    replace BR := BR.next hbw1010
    have zw1010 := hbw1010.size
    have cR0 := BR.cell 0
    have cR1 := BR.cell 1
    simp at cR0 cR1
    have fR0 := BR.frozen 0
    have fR1 := BR.frozen 1
    rw [Hw1010.out] at cR0 cR1 fR0 fR1
    obtain ⟨wf, HWF⟩ : ∃ wf, Hid (wf = (w1010.setCell ⟨w.heap.size, 0, none⟩ (.int .i64 2)).setCell ⟨w.heap.size, 1, none⟩ (.slice (some ⟨w1003.heap.size, 0, none⟩) 1 1)) := ⟨_, Lib.hid rfl⟩
    have BLF : Hid (Blk wf w.heap.size 27 #[.int .i64 2, .slice (some ⟨w1003.heap.size, 0, none⟩) 1 1]) := by show Blk _ _ _ _; rw [HWF.out]; simpa using (BR.set_ 0 (.int .i64 2)).set_ 1 (.slice (some ⟨w1003.heap.size, 0, none⟩) 1 1)
    have hlo : w.heap.size < w0.heap.size := by omega
    have PF : Hid (PO w0.heap.size wf (.slice (some ⟨w1003.heap.size, 0, none⟩) 1 1) [(2, binL ⟨#[48, 48, 48, 49]⟩)] [[.int .i64 2, .slice A0 n0 c0]] [bl0]) := by show PO _ _ _ _ _ _; rw [HWF.out]; exact (hPO.far (p := ⟨w.heap.size, 0, none⟩) hlo _).far (p := ⟨w.heap.size, 1, none⟩) hlo _
    have TF : Hid (Below w.heap.size w wf) := by show Below _ _ _; rw [HWF.out]; exact (T0.setCell (p := ⟨w.heap.size, 0, none⟩) (Nat.le_refl _) _).setCell (p := ⟨w.heap.size, 1, none⟩) (Nat.le_refl _) _
    clear hPO T0 BR hiv O0 I0
    go_wp2_with fail
    rw [← Hw1010.out]
    rw [← HWF.out]
    (try simp only [Exit.inBlock, Exit.then])
    refine bodyPost_ret (v := .agg #[.int .i64 2, .slice (some ⟨w1003.heap.size, 0, none⟩) 1 1]) (results_cell_row rfl _ _ w.heap.size 27 #[.int .i64 2, .slice (some ⟨w1003.heap.size, 0, none⟩) 1 1] (0, 0) _ (by simp) BLF.out Try.underlying27 rfl (by kernel_rfl)) rfl ?_
    exact ⟨(2, [(2, binL ⟨#[48, 48, 48, 49]⟩)]), ⟨[.int .i64 2, .slice (some ⟨w1003.heap.size, 0, none⟩) 1 1], _, rfl, PF.out.algK ⟨by omega, by omega⟩, PF.out.2.2.mono (by omega) (Nat.le_refl _), TF.out⟩, small_iff.1 (by decide +kernel)⟩
  · go_enter Try.func80, Try.ntmps80
    go_upto_region 5 with fail
    rw [← HW0.out]
    go_wp2_with fail
    refine (l2Binary_any ⟨#[48, 48, 48, 49]⟩ w0 (by decide)).mono ?_
    rintro e w1003 ⟨cs0, bl0, rfl, O0, I0, hb0⟩
    obtain ⟨A0, n0, c0, rfl, -, -⟩ := rdOp (shOp.ord O0)
    replace T0 := below_next T0 hb0 rfl
    replace BR := BR.next hb0
    have zw1003 := hb0.size
    go_wp2_with fail
    refine (l2Binary_any ⟨#[48, 49, 49, 49]⟩ w1003 (by decide)).mono ?_
    rintro e w1010 ⟨cs1, bl1, rfl, O1, I1, hb1⟩
    obtain ⟨A1, n1, c1, rfl, -, -⟩ := rdOp (shOp.ord O1)
    replace T0 := below_next T0 hb1 rfl
    replace BR := BR.next hb1
    have zw1010 := hb1.size
    replace O0 := Sh.onext O0 hb1
    have hiv : Iv w0.heap.size w1010.heap.size ([bl0, bl1].flatten : List Nat) := (Iv.app I0 (Iv.app0 (I1.mono (Nat.le_refl _) (by omega))) (by omega) (by omega) (by omega))
    obtain ⟨w1018, Hw1018⟩ : ∃ x, Hid (x = w1010.alloc (.cells #[.int .i64 2, .slice A0 n0 c0, .int .i64 2, .slice A1 n1 c1] 92)) := ⟨_, Lib.hid rfl⟩
    have hbw1018 : Below w1010.heap.size w1010 w1018 := by rw [Hw1018.out]; exact below_box _ _
    have hPO : PO w0.heap.size w1018 (.slice (some ⟨w1010.heap.size, 0, none⟩) 2 2) [(2, binL ⟨#[48, 48, 48, 49]⟩), (2, binL ⟨#[48, 49, 49, 49]⟩)] [[.int .i64 2, .slice A0 n0 c0], [.int .i64 2, .slice A1 n1 c1]] [bl0, bl1] := by
      rw [Hw1018.out]
      have := PO.make (n := 2) (cells := #[.int .i64 2, .slice A0 n0 c0, .int .i64 2, .slice A1 n1 c1]) (OwnL.cons O0 (OwnL.cons O1 (OwnL.nil _))) hiv (by omega) rfl (by decide) rfl
      exact this
    replace T0 := below_next T0 hbw1018 rfl
    replace BR := BR.next hbw1018
    have zw1018 := hbw1018.size
    have cR0 := BR.cell 0
    have cR1 := BR.cell 1
    simp at cR0 cR1
    have fR0 := BR.frozen 0
    have fR1 := BR.frozen 1
    rw [Hw1018.out] at cR0 cR1 fR0 fR1
    obtain ⟨wf, HWF⟩ : ∃ wf, Hid (wf = (w1018.setCell ⟨w.heap.size, 0, none⟩ (.int .i64 2)).setCell ⟨w.heap.size, 1, none⟩ (.slice (some ⟨w1010.heap.size, 0, none⟩) 2 2)) := ⟨_, Lib.hid rfl⟩
    have BLF : Hid (Blk wf w.heap.size 27 #[.int .i64 2, .slice (some ⟨w1010.heap.size, 0, none⟩) 2 2]) := by show Blk _ _ _ _; rw [HWF.out]; simpa using (BR.set_ 0 (.int .i64 2)).set_ 1 (.slice (some ⟨w1010.heap.size, 0, none⟩) 2 2)
    have hlo : w.heap.size < w0.heap.size := by omega
    have PF : Hid (PO w0.heap.size wf (.slice (some ⟨w1010.heap.size, 0, none⟩) 2 2) [(2, binL ⟨#[48, 48, 48, 49]⟩), (2, binL ⟨#[48, 49, 49, 49]⟩)] [[.int .i64 2, .slice A0 n0 c0], [.int .i64 2, .slice A1 n1 c1]] [bl0, bl1]) := by show PO _ _ _ _ _ _; rw [HWF.out]; exact (hPO.far (p := ⟨w.heap.size, 0, none⟩) hlo _).far (p := ⟨w.heap.size, 1, none⟩) hlo _
    have TF : Hid (Below w.heap.size w wf) := by show Below _ _ _; rw [HWF.out]; exact (T0.setCell (p := ⟨w.heap.size, 0, none⟩) (Nat.le_refl _) _).setCell (p := ⟨w.heap.size, 1, none⟩) (Nat.le_refl _) _
    clear hPO T0 BR hiv O0 O1 I0 I1
    go_wp2_with fail
    rw [← Hw1018.out]
    rw [← HWF.out]
    (try simp only [Exit.inBlock, Exit.then])
    refine bodyPost_ret (v := .agg #[.int .i64 2, .slice (some ⟨w1010.heap.size, 0, none⟩) 2 2]) (results_cell_row rfl _ _ w.heap.size 27 #[.int .i64 2, .slice (some ⟨w1010.heap.size, 0, none⟩) 2 2] (0, 0) _ (by simp) BLF.out Try.underlying27 rfl (by kernel_rfl)) rfl ?_
    exact ⟨(2, [(2, binL ⟨#[48, 48, 48, 49]⟩), (2, binL ⟨#[48, 49, 49, 49]⟩)]), ⟨[.int .i64 2, .slice (some ⟨w1010.heap.size, 0, none⟩) 2 2], _, rfl, PF.out.algK ⟨by omega, by omega⟩, PF.out.2.2.mono (by omega) (Nat.le_refl _), TF.out⟩, small_iff.1 (by decide +kernel)⟩
  · go_enter Try.func80, Try.ntmps80
    go_upto_region 7 with fail
    rw [← HW0.out]
    go_wp2_with fail
    refine (l2Binary_any ⟨#[48, 48, 48, 49]⟩ w0 (by decide)).mono ?_
    rintro e w1003 ⟨cs0, bl0, rfl, O0, I0, hb0⟩
    obtain ⟨A0, n0, c0, rfl, -, -⟩ := rdOp (shOp.ord O0)
    replace T0 := below_next T0 hb0 rfl
    replace BR := BR.next hb0
    have zw1003 := hb0.size
    go_wp2_with fail
    refine (l2Binary_any ⟨#[48, 49, 49, 49]⟩ w1003 (by decide)).mono ?_
    rintro e w1010 ⟨cs1, bl1, rfl, O1, I1, hb1⟩
    obtain ⟨A1, n1, c1, rfl, -, -⟩ := rdOp (shOp.ord O1)
    replace T0 := below_next T0 hb1 rfl
    replace BR := BR.next hb1
    have zw1010 := hb1.size
    replace O0 := Sh.onext O0 hb1
    obtain ⟨w1018, Hw1018⟩ : ∃ x, Hid (x = w1010.alloc (.cells #[.int .i64 1, .int .i64 0] 3)) := ⟨_, Lib.hid rfl⟩
    have hbw1018 : Below w1010.heap.size w1010 w1018 := by rw [Hw1018.out]; exact below_box _ _
    replace T0 := below_next T0 hbw1018 rfl
    replace BR := BR.next hbw1018
    have zw1018 := hbw1018.size
    replace O0 := Sh.onext O0 hbw1018
    replace O1 := Sh.onext O1 hbw1018
    have yw1018 : w1018.heap.size = w1010.heap.size + 1 := by rw [Hw1018.out]; simp
    have ew1018 : w1018.heap.size = w1010.heap.size + 1 := by omega
    have O2 : shOp.own w1018 [.int .i64 1, .slice (some ⟨w1010.heap.size, 0, none⟩) 2 2] (1, [1, 0]) [w1010.heap.size] := by
      have := own_tab (w := w1010) (a := 1) (L := [1, 0]) (n := 2) ⟨by omega, by omega⟩ rfl (by decide) (by intro x hx; simp at hx; unfold InR; omega)
      have hh : shOp.own w1018 [.int .i64 1, .slice (some ⟨w1010.heap.size, 0, none⟩) 2 2] (1, [1, 0]) [w1010.heap.size] := by rw [Hw1018.out]; exact this
      exact hh
    have I2 : Iv w1010.heap.size w1018.heap.size [w1010.heap.size] := ⟨by simp, fun b hb => by simp at hb; omega⟩
    have hiv : Iv w0.heap.size w1018.heap.size ([bl0, bl1, [w1010.heap.size]].flatten : List Nat) := (Iv.app I0 (Iv.app I1 (Iv.app0 (I2.mono (Nat.le_refl _) (by omega))) (by omega) (by omega) (by omega)) (by omega) (by omega) (by omega))
    obtain ⟨w1032, Hw1032⟩ : ∃ x, Hid (x = w1018.alloc (.cells #[.int .i64 2, .slice A0 n0 c0, .int .i64 2, .slice A1 n1 c1, .int .i64 1, .slice (some ⟨w1010.heap.size, 0, none⟩) 2 2] 92)) := ⟨_, Lib.hid rfl⟩
    have hbw1032 : Below w1018.heap.size w1018 w1032 := by rw [Hw1032.out]; exact below_box _ _
    have hPO : PO w0.heap.size w1032 (.slice (some ⟨w1010.heap.size + 1, 0, none⟩) 3 3) [(2, binL ⟨#[48, 48, 48, 49]⟩), (2, binL ⟨#[48, 49, 49, 49]⟩), (1, [1, 0])] [[.int .i64 2, .slice A0 n0 c0], [.int .i64 2, .slice A1 n1 c1], [.int .i64 1, .slice (some ⟨w1010.heap.size, 0, none⟩) 2 2]] [bl0, bl1, [w1010.heap.size]] := by
      rw [Hw1032.out]
      have := PO.make (n := 3) (cells := #[.int .i64 2, .slice A0 n0 c0, .int .i64 2, .slice A1 n1 c1, .int .i64 1, .slice (some ⟨w1010.heap.size, 0, none⟩) 2 2]) (OwnL.cons O0 (OwnL.cons O1 (OwnL.cons O2 (OwnL.nil _)))) hiv (by omega) rfl (by decide) rfl
      rw [ew1018] at this
      exact this
    replace T0 := below_next T0 hbw1032 rfl
    replace BR := BR.next hbw1032
    have zw1032 := hbw1032.size
    have cR0 := BR.cell 0
    have cR1 := BR.cell 1
    simp at cR0 cR1
    have fR0 := BR.frozen 0
    have fR1 := BR.frozen 1
    rw [Hw1032.out] at cR0 cR1 fR0 fR1
    rw [Hw1018.out] at cR0 cR1 fR0 fR1
    obtain ⟨wf, HWF⟩ : ∃ wf, Hid (wf = (w1032.setCell ⟨w.heap.size, 0, none⟩ (.int .i64 2)).setCell ⟨w.heap.size, 1, none⟩ (.slice (some ⟨w1010.heap.size + 1, 0, none⟩) 3 3)) := ⟨_, Lib.hid rfl⟩
    have BLF : Hid (Blk wf w.heap.size 27 #[.int .i64 2, .slice (some ⟨w1010.heap.size + 1, 0, none⟩) 3 3]) := by show Blk _ _ _ _; rw [HWF.out]; simpa using (BR.set_ 0 (.int .i64 2)).set_ 1 (.slice (some ⟨w1010.heap.size + 1, 0, none⟩) 3 3)
    have hlo : w.heap.size < w0.heap.size := by omega
    have PF : Hid (PO w0.heap.size wf (.slice (some ⟨w1010.heap.size + 1, 0, none⟩) 3 3) [(2, binL ⟨#[48, 48, 48, 49]⟩), (2, binL ⟨#[48, 49, 49, 49]⟩), (1, [1, 0])] [[.int .i64 2, .slice A0 n0 c0], [.int .i64 2, .slice A1 n1 c1], [.int .i64 1, .slice (some ⟨w1010.heap.size, 0, none⟩) 2 2]] [bl0, bl1, [w1010.heap.size]]) := by show PO _ _ _ _ _ _; rw [HWF.out]; exact (hPO.far (p := ⟨w.heap.size, 0, none⟩) hlo _).far (p := ⟨w.heap.size, 1, none⟩) hlo _
    have TF : Hid (Below w.heap.size w wf) := by show Below _ _ _; rw [HWF.out]; exact (T0.setCell (p := ⟨w.heap.size, 0, none⟩) (Nat.le_refl _) _).setCell (p := ⟨w.heap.size, 1, none⟩) (Nat.le_refl _) _
    clear hPO T0 BR hiv O0 O1 O2 I0 I1 I2
    go_wp2_with fail
    rw [← Hw1018.out]
    rw [← Hw1032.out]
    rw [← HWF.out]
    (try simp only [Exit.inBlock, Exit.then])
    refine bodyPost_ret (v := .agg #[.int .i64 2, .slice (some ⟨w1010.heap.size + 1, 0, none⟩) 3 3]) (results_cell_row rfl _ _ w.heap.size 27 #[.int .i64 2, .slice (some ⟨w1010.heap.size + 1, 0, none⟩) 3 3] (0, 0) _ (by simp) BLF.out Try.underlying27 rfl (by kernel_rfl)) rfl ?_
    exact ⟨(2, [(2, binL ⟨#[48, 48, 48, 49]⟩), (2, binL ⟨#[48, 49, 49, 49]⟩), (1, [1, 0])]), ⟨[.int .i64 2, .slice (some ⟨w1010.heap.size + 1, 0, none⟩) 3 3], _, rfl, PF.out.algK ⟨by omega, by omega⟩, PF.out.2.2.mono (by omega) (Nat.le_refl _), TF.out⟩, small_iff.1 (by decide +kernel)⟩
  · go_enter Try.func80, Try.ntmps80
    go_upto_region 9 with fail
    rw [← HW0.out]
    go_wp2_with fail
    refine (l2Affine2_any w0).mono ?_
    rintro e w1003 ⟨L0, ⟨cs0, bl0, rfl, O0, I0, hb0⟩, hl0, hv0⟩
    obtain ⟨A0, n0, c0, rfl, -, -⟩ := rdOp (shOp.ord O0)
    replace T0 := below_next T0 hb0 rfl
    replace BR := BR.next hb0
    have zw1003 := hb0.size
    have hiv : Iv w0.heap.size w1003.heap.size ([bl0].flatten : List Nat) := (Iv.app0 (I0.mono (Nat.le_refl _) (by omega)))
    obtain ⟨w1010, Hw1010⟩ : ∃ x, Hid (x = w1003.alloc (.cells #[.int .i64 3, .slice A0 n0 c0] 92)) := ⟨_, Lib.hid rfl⟩
    have hbw1010 : Below w1003.heap.size w1003 w1010 := by rw [Hw1010.out]; exact below_box _ _
    have hPO : PO w0.heap.size w1010 (.slice (some ⟨w1003.heap.size, 0, none⟩) 1 1) [(3, L0)] [[.int .i64 3, .slice A0 n0 c0]] [bl0] := by
      rw [Hw1010.out]
      have := PO.make (n := 1) (cells := #[.int .i64 3, .slice A0 n0 c0]) (OwnL.cons O0 (OwnL.nil _)) hiv (by omega) rfl (by decide) rfl
      exact this
    replace T0 := below_next T0 hbw1010 rfl
    replace BR := BR.next hbw1010
    have zw1010 := hbw1010.size
    have cR0 := BR.cell 0
    have cR1 := BR.cell 1
    simp at cR0 cR1
    have fR0 := BR.frozen 0
    have fR1 := BR.frozen 1
    rw [Hw1010.out] at cR0 cR1 fR0 fR1
    obtain ⟨wf, HWF⟩ : ∃ wf, Hid (wf = (w1010.setCell ⟨w.heap.size, 0, none⟩ (.int .i64 2)).setCell ⟨w.heap.size, 1, none⟩ (.slice (some ⟨w1003.heap.size, 0, none⟩) 1 1)) := ⟨_, Lib.hid rfl⟩
    have BLF : Hid (Blk wf w.heap.size 27 #[.int .i64 2, .slice (some ⟨w1003.heap.size, 0, none⟩) 1 1]) := by show Blk _ _ _ _; rw [HWF.out]; simpa using (BR.set_ 0 (.int .i64 2)).set_ 1 (.slice (some ⟨w1003.heap.size, 0, none⟩) 1 1)
    have hlo : w.heap.size < w0.heap.size := by omega
    have PF : Hid (PO w0.heap.size wf (.slice (some ⟨w1003.heap.size, 0, none⟩) 1 1) [(3, L0)] [[.int .i64 3, .slice A0 n0 c0]] [bl0]) := by show PO _ _ _ _ _ _; rw [HWF.out]; exact (hPO.far (p := ⟨w.heap.size, 0, none⟩) hlo _).far (p := ⟨w.heap.size, 1, none⟩) hlo _
    have TF : Hid (Below w.heap.size w wf) := by show Below _ _ _; rw [HWF.out]; exact (T0.setCell (p := ⟨w.heap.size, 0, none⟩) (Nat.le_refl _) _).setCell (p := ⟨w.heap.size, 1, none⟩) (Nat.le_refl _) _
    clear hPO T0 BR hiv O0 I0
    go_wp2_with fail
    rw [← Hw1010.out]
    rw [← HWF.out]
    (try simp only [Exit.inBlock, Exit.then])
    refine bodyPost_ret (v := .agg #[.int .i64 2, .slice (some ⟨w1003.heap.size, 0, none⟩) 1 1]) (results_cell_row rfl _ _ w.heap.size 27 #[.int .i64 2, .slice (some ⟨w1003.heap.size, 0, none⟩) 1 1] (0, 0) _ (by simp) BLF.out Try.underlying27 rfl (by kernel_rfl)) rfl ?_
    exact ⟨(2, [(3, L0)]), ⟨[.int .i64 2, .slice (some ⟨w1003.heap.size, 0, none⟩) 1 1], _, rfl, PF.out.algK ⟨by omega, by omega⟩, PF.out.2.2.mono (by omega) (Nat.le_refl _), TF.out⟩, ⟨by show (1 : Int) ≤ 2; omega, by show (2 : Int) ≤ 5; omega, by simp, fun o ho => by
          rw [List.mem_singleton.1 ho]
          exact ⟨by show (0 : Int) ≤ 3; omega, by show (3 : Int) ≤ 3; omega, hl0, fun v hv => by have := hv0 v hv; simp; omega⟩⟩⟩
  · go_enter Try.func80, Try.ntmps80
    go_upto_region 11 with fail
    rw [← HW0.out]
    go_wp2_with fail
    refine (l2Binary_any ⟨#[48, 49, 50, 49, 50, 48, 50, 48, 49]⟩ w0 (by decide)).mono ?_
    rintro e w1003 ⟨cs0, bl0, rfl, O0, I0, hb0⟩
    obtain ⟨A0, n0, c0, rfl, -, -⟩ := rdOp (shOp.ord O0)
    replace T0 := below_next T0 hb0 rfl
    replace BR := BR.next hb0
    have zw1003 := hb0.size
    have hiv : Iv w0.heap.size w1003.heap.size ([bl0].flatten : List Nat) := (Iv.app0 (I0.mono (Nat.le_refl _) (by omega)))
    obtain ⟨w1010, Hw1010⟩ : ∃ x, Hid (x = w1003.alloc (.cells #[.int .i64 2, .slice A0 n0 c0] 92)) := ⟨_, Lib.hid rfl⟩
    have hbw1010 : Below w1003.heap.size w1003 w1010 := by rw [Hw1010.out]; exact below_box _ _
    have hPO : PO w0.heap.size w1010 (.slice (some ⟨w1003.heap.size, 0, none⟩) 1 1) [(2, binL ⟨#[48, 49, 50, 49, 50, 48, 50, 48, 49]⟩)] [[.int .i64 2, .slice A0 n0 c0]] [bl0] := by
      rw [Hw1010.out]
      have := PO.make (n := 1) (cells := #[.int .i64 2, .slice A0 n0 c0]) (OwnL.cons O0 (OwnL.nil _)) hiv (by omega) rfl (by decide) rfl
      exact this
    replace T0 := below_next T0 hbw1010 rfl
    replace BR := BR.next hbw1010
    have zw1010 := hbw1010.size
    have cR0 := BR.cell 0
    have cR1 := BR.cell 1
    simp at cR0 cR1
    have fR0 := BR.frozen 0
    have fR1 := BR.frozen 1
    rw [Hw1010.out] at cR0 cR1 fR0 fR1
    obtain ⟨wf, HWF⟩ : ∃ wf, Hid (wf = (w1010.setCell ⟨w.heap.size, 0, none⟩ (.int .i64 3)).setCell ⟨w.heap.size, 1, none⟩ (.slice (some ⟨w1003.heap.size, 0, none⟩) 1 1)) := ⟨_, Lib.hid rfl⟩
    have BLF : Hid (Blk wf w.heap.size 27 #[.int .i64 3, .slice (some ⟨w1003.heap.size, 0, none⟩) 1 1]) := by show Blk _ _ _ _; rw [HWF.out]; simpa using (BR.set_ 0 (.int .i64 3)).set_ 1 (.slice (some ⟨w1003.heap.size, 0, none⟩) 1 1)
    have hlo : w.heap.size < w0.heap.size := by omega
    have PF : Hid (PO w0.heap.size wf (.slice (some ⟨w1003.heap.size, 0, none⟩) 1 1) [(2, binL ⟨#[48, 49, 50, 49, 50, 48, 50, 48, 49]⟩)] [[.int .i64 2, .slice A0 n0 c0]] [bl0]) := by show PO _ _ _ _ _ _; rw [HWF.out]; exact (hPO.far (p := ⟨w.heap.size, 0, none⟩) hlo _).far (p := ⟨w.heap.size, 1, none⟩) hlo _
    have TF : Hid (Below w.heap.size w wf) := by show Below _ _ _; rw [HWF.out]; exact (T0.setCell (p := ⟨w.heap.size, 0, none⟩) (Nat.le_refl _) _).setCell (p := ⟨w.heap.size, 1, none⟩) (Nat.le_refl _) _
    clear hPO T0 BR hiv O0 I0
    go_wp2_with fail
    rw [← Hw1010.out]
    rw [← HWF.out]
    (try simp only [Exit.inBlock, Exit.then])
    refine bodyPost_ret (v := .agg #[.int .i64 3, .slice (some ⟨w1003.heap.size, 0, none⟩) 1 1]) (results_cell_row rfl _ _ w.heap.size 27 #[.int .i64 3, .slice (some ⟨w1003.heap.size, 0, none⟩) 1 1] (0, 0) _ (by simp) BLF.out Try.underlying27 rfl (by kernel_rfl)) rfl ?_
    exact ⟨(3, [(2, binL ⟨#[48, 49, 50, 49, 50, 48, 50, 48, 49]⟩)]), ⟨[.int .i64 3, .slice (some ⟨w1003.heap.size, 0, none⟩) 1 1], _, rfl, PF.out.algK ⟨by omega, by omega⟩, PF.out.2.2.mono (by omega) (Nat.le_refl _), TF.out⟩, small_iff.1 (by decide +kernel)⟩
  · go_enter Try.func80, Try.ntmps80
    go_upto_region 13 with fail
    rw [← HW0.out]
    go_wp2_with fail
    refine (l2Binary_any ⟨#[48, 49, 48, 49, 49, 50, 48, 50, 50]⟩ w0 (by decide)).mono ?_
    rintro e w1003 ⟨cs0, bl0, rfl, O0, I0, hb0⟩
    obtain ⟨A0, n0, c0, rfl, -, -⟩ := rdOp (shOp.ord O0)
    replace T0 := below_next T0 hb0 rfl
    replace BR := BR.next hb0
    have zw1003 := hb0.size
    have hiv : Iv w0.heap.size w1003.heap.size ([bl0].flatten : List Nat) := (Iv.app0 (I0.mono (Nat.le_refl _) (by omega)))
    obtain ⟨w1010, Hw1010⟩ : ∃ x, Hid (x = w1003.alloc (.cells #[.int .i64 2, .slice A0 n0 c0] 92)) := ⟨_, Lib.hid rfl⟩
    have hbw1010 : Below w1003.heap.size w1003 w1010 := by rw [Hw1010.out]; exact below_box _ _
    have hPO : PO w0.heap.size w1010 (.slice (some ⟨w1003.heap.size, 0, none⟩) 1 1) [(2, binL ⟨#[48, 49, 48, 49, 49, 50, 48, 50, 50]⟩)] [[.int .i64 2, .slice A0 n0 c0]] [bl0] := by
      rw [Hw1010.out]
      have := PO.make (n := 1) (cells := #[.int .i64 2, .slice A0 n0 c0]) (OwnL.cons O0 (OwnL.nil _)) hiv (by omega) rfl (by decide) rfl
      exact this
    replace T0 := below_next T0 hbw1010 rfl
    replace BR := BR.next hbw1010
    have zw1010 := hbw1010.size
    have cR0 := BR.cell 0
    have cR1 := BR.cell 1
    simp at cR0 cR1
    have fR0 := BR.frozen 0
    have fR1 := BR.frozen 1
    rw [Hw1010.out] at cR0 cR1 fR0 fR1
    obtain ⟨wf, HWF⟩ : ∃ wf, Hid (wf = (w1010.setCell ⟨w.heap.size, 0, none⟩ (.int .i64 3)).setCell ⟨w.heap.size, 1, none⟩ (.slice (some ⟨w1003.heap.size, 0, none⟩) 1 1)) := ⟨_, Lib.hid rfl⟩
    have BLF : Hid (Blk wf w.heap.size 27 #[.int .i64 3, .slice (some ⟨w1003.heap.size, 0, none⟩) 1 1]) := by show Blk _ _ _ _; rw [HWF.out]; simpa using (BR.set_ 0 (.int .i64 3)).set_ 1 (.slice (some ⟨w1003.heap.size, 0, none⟩) 1 1)
    have hlo : w.heap.size < w0.heap.size := by omega
    have PF : Hid (PO w0.heap.size wf (.slice (some ⟨w1003.heap.size, 0, none⟩) 1 1) [(2, binL ⟨#[48, 49, 48, 49, 49, 50, 48, 50, 50]⟩)] [[.int .i64 2, .slice A0 n0 c0]] [bl0]) := by show PO _ _ _ _ _ _; rw [HWF.out]; exact (hPO.far (p := ⟨w.heap.size, 0, none⟩) hlo _).far (p := ⟨w.heap.size, 1, none⟩) hlo _
    have TF : Hid (Below w.heap.size w wf) := by show Below _ _ _; rw [HWF.out]; exact (T0.setCell (p := ⟨w.heap.size, 0, none⟩) (Nat.le_refl _) _).setCell (p := ⟨w.heap.size, 1, none⟩) (Nat.le_refl _) _
    clear hPO T0 BR hiv O0 I0
    go_wp2_with fail
    rw [← Hw1010.out]
    rw [← HWF.out]
    (try simp only [Exit.inBlock, Exit.then])
    refine bodyPost_ret (v := .agg #[.int .i64 3, .slice (some ⟨w1003.heap.size, 0, none⟩) 1 1]) (results_cell_row rfl _ _ w.heap.size 27 #[.int .i64 3, .slice (some ⟨w1003.heap.size, 0, none⟩) 1 1] (0, 0) _ (by simp) BLF.out Try.underlying27 rfl (by kernel_rfl)) rfl ?_
    exact ⟨(3, [(2, binL ⟨#[48, 49, 48, 49, 49, 50, 48, 50, 50]⟩)]), ⟨[.int .i64 3, .slice (some ⟨w1003.heap.size, 0, none⟩) 1 1], _, rfl, PF.out.algK ⟨by omega, by omega⟩, PF.out.2.2.mono (by omega) (Nat.le_refl _), TF.out⟩, small_iff.1 (by decide +kernel)⟩
  · go_enter Try.func80, Try.ntmps80
    go_upto_region 15 with fail
    rw [← HW0.out]
    go_wp2_with fail
    refine (l2Binary_any ⟨#[48, 49, 50, 51, 49, 48, 51, 50, 50, 51, 48, 49, 51, 50, 49, 48]⟩ w0 (by decide)).mono ?_
    rintro e w1003 ⟨cs0, bl0, rfl, O0, I0, hb0⟩
    obtain ⟨A0, n0, c0, rfl, -, -⟩ := rdOp (shOp.ord O0)
    replace T0 := below_next T0 hb0 rfl
    replace BR := BR.next hb0
    have zw1003 := hb0.size
    have hiv : Iv w0.heap.size w1003.heap.size ([bl0].flatten : List Nat) := (Iv.app0 (I0.mono (Nat.le_refl _) (by omega)))
    obtain ⟨w1010, Hw1010⟩ : ∃ x, Hid (x = w1003.alloc (.cells #[.int .i64 2, .slice A0 n0 c0] 92)) := ⟨_, Lib.hid rfl⟩
    have hbw1010 : Below w1003.heap.size w1003 w1010 := by rw [Hw1010.out]; exact below_box _ _
    have hPO : PO w0.heap.size w1010 (.slice (some ⟨w1003.heap.size, 0, none⟩) 1 1) [(2, binL ⟨#[48, 49, 50, 51, 49, 48, 51, 50, 50, 51, 48, 49, 51, 50, 49, 48]⟩)] [[.int .i64 2, .slice A0 n0 c0]] [bl0] := by
      rw [Hw1010.out]
      have := PO.make (n := 1) (cells := #[.int .i64 2, .slice A0 n0 c0]) (OwnL.cons O0 (OwnL.nil _)) hiv (by omega) rfl (by decide) rfl
      exact this
    replace T0 := below_next T0 hbw1010 rfl
    replace BR := BR.next hbw1010
    have zw1010 := hbw1010.size
    have cR0 := BR.cell 0
    have cR1 := BR.cell 1
    simp at cR0 cR1
    have fR0 := BR.frozen 0
    have fR1 := BR.frozen 1
    rw [Hw1010.out] at cR0 cR1 fR0 fR1
    obtain ⟨wf, HWF⟩ : ∃ wf, Hid (wf = (w1010.setCell ⟨w.heap.size, 0, none⟩ (.int .i64 4)).setCell ⟨w.heap.size, 1, none⟩ (.slice (some ⟨w1003.heap.size, 0, none⟩) 1 1)) := ⟨_, Lib.hid rfl⟩
    have BLF : Hid (Blk wf w.heap.size 27 #[.int .i64 4, .slice (some ⟨w1003.heap.size, 0, none⟩) 1 1]) := by show Blk _ _ _ _; rw [HWF.out]; simpa using (BR.set_ 0 (.int .i64 4)).set_ 1 (.slice (some ⟨w1003.heap.size, 0, none⟩) 1 1)
    have hlo : w.heap.size < w0.heap.size := by omega
    have PF : Hid (PO w0.heap.size wf (.slice (some ⟨w1003.heap.size, 0, none⟩) 1 1) [(2, binL ⟨#[48, 49, 50, 51, 49, 48, 51, 50, 50, 51, 48, 49, 51, 50, 49, 48]⟩)] [[.int .i64 2, .slice A0 n0 c0]] [bl0]) := by show PO _ _ _ _ _ _; rw [HWF.out]; exact (hPO.far (p := ⟨w.heap.size, 0, none⟩) hlo _).far (p := ⟨w.heap.size, 1, none⟩) hlo _
    have TF : Hid (Below w.heap.size w wf) := by show Below _ _ _; rw [HWF.out]; exact (T0.setCell (p := ⟨w.heap.size, 0, none⟩) (Nat.le_refl _) _).setCell (p := ⟨w.heap.size, 1, none⟩) (Nat.le_refl _) _
    clear hPO T0 BR hiv O0 I0
    go_wp2_with fail
    rw [← Hw1010.out]
    rw [← HWF.out]
    (try simp only [Exit.inBlock, Exit.then])
    refine bodyPost_ret (v := .agg #[.int .i64 4, .slice (some ⟨w1003.heap.size, 0, none⟩) 1 1]) (results_cell_row rfl _ _ w.heap.size 27 #[.int .i64 4, .slice (some ⟨w1003.heap.size, 0, none⟩) 1 1] (0, 0) _ (by simp) BLF.out Try.underlying27 rfl (by kernel_rfl)) rfl ?_
    exact ⟨(4, [(2, binL ⟨#[48, 49, 50, 51, 49, 48, 51, 50, 50, 51, 48, 49, 51, 50, 49, 48]⟩)]), ⟨[.int .i64 4, .slice (some ⟨w1003.heap.size, 0, none⟩) 1 1], _, rfl, PF.out.algK ⟨by omega, by omega⟩, PF.out.2.2.mono (by omega) (Nat.le_refl _), TF.out⟩, small_iff.1 (by decide +kernel)⟩
  · go_enter Try.func80, Try.ntmps80
    go_upto_region 17 with fail
    rw [← HW0.out]
    go_wp2_with fail
    refine (l2Binary_any ⟨#[48, 48, 48, 48, 49, 49, 48, 49, 50]⟩ w0 (by decide)).mono ?_
    rintro e w1003 ⟨cs0, bl0, rfl, O0, I0, hb0⟩
    obtain ⟨A0, n0, c0, rfl, -, -⟩ := rdOp (shOp.ord O0)
    replace T0 := below_next T0 hb0 rfl
    replace BR := BR.next hb0
    have zw1003 := hb0.size
    go_wp2_with fail
    refine (l2Binary_any ⟨#[48, 49, 50, 49, 49, 50, 50, 50, 50]⟩ w1003 (by decide)).mono ?_
    rintro e w1010 ⟨cs1, bl1, rfl, O1, I1, hb1⟩
    obtain ⟨A1, n1, c1, rfl, -, -⟩ := rdOp (shOp.ord O1)
    replace T0 := below_next T0 hb1 rfl
    replace BR := BR.next hb1
    have zw1010 := hb1.size
    replace O0 := Sh.onext O0 hb1
    have hiv : Iv w0.heap.size w1010.heap.size ([bl0, bl1].flatten : List Nat) := (Iv.app I0 (Iv.app0 (I1.mono (Nat.le_refl _) (by omega))) (by omega) (by omega) (by omega))
    obtain ⟨w1018, Hw1018⟩ : ∃ x, Hid (x = w1010.alloc (.cells #[.int .i64 2, .slice A0 n0 c0, .int .i64 2, .slice A1 n1 c1] 92)) := ⟨_, Lib.hid rfl⟩
    have hbw1018 : Below w1010.heap.size w1010 w1018 := by rw [Hw1018.out]; exact below_box _ _
    have hPO : PO w0.heap.size w1018 (.slice (some ⟨w1010.heap.size, 0, none⟩) 2 2) [(2, binL ⟨#[48, 48, 48, 48, 49, 49, 48, 49, 50]⟩), (2, binL ⟨#[48, 49, 50, 49, 49, 50, 50, 50, 50]⟩)] [[.int .i64 2, .slice A0 n0 c0], [.int .i64 2, .slice A1 n1 c1]] [bl0, bl1] := by
      rw [Hw1018.out]
      have := PO.make (n := 2) (cells := #[.int .i64 2, .slice A0 n0 c0, .int .i64 2, .slice A1 n1 c1]) (OwnL.cons O0 (OwnL.cons O1 (OwnL.nil _))) hiv (by omega) rfl (by decide) rfl
      exact this
    replace T0 := below_next T0 hbw1018 rfl
    replace BR := BR.next hbw1018
    have zw1018 := hbw1018.size
    have cR0 := BR.cell 0
    have cR1 := BR.cell 1
    simp at cR0 cR1
    have fR0 := BR.frozen 0
    have fR1 := BR.frozen 1
    rw [Hw1018.out] at cR0 cR1 fR0 fR1
    obtain ⟨wf, HWF⟩ : ∃ wf, Hid (wf = (w1018.setCell ⟨w.heap.size, 0, none⟩ (.int .i64 3)).setCell ⟨w.heap.size, 1, none⟩ (.slice (some ⟨w1010.heap.size, 0, none⟩) 2 2)) := ⟨_, Lib.hid rfl⟩
    have BLF : Hid (Blk wf w.heap.size 27 #[.int .i64 3, .slice (some ⟨w1010.heap.size, 0, none⟩) 2 2]) := by show Blk _ _ _ _; rw [HWF.out]; simpa using (BR.set_ 0 (.int .i64 3)).set_ 1 (.slice (some ⟨w1010.heap.size, 0, none⟩) 2 2)
    have hlo : w.heap.size < w0.heap.size := by omega
    have PF : Hid (PO w0.heap.size wf (.slice (some ⟨w1010.heap.size, 0, none⟩) 2 2) [(2, binL ⟨#[48, 48, 48, 48, 49, 49, 48, 49, 50]⟩), (2, binL ⟨#[48, 49, 50, 49, 49, 50, 50, 50, 50]⟩)] [[.int .i64 2, .slice A0 n0 c0], [.int .i64 2, .slice A1 n1 c1]] [bl0, bl1]) := by show PO _ _ _ _ _ _; rw [HWF.out]; exact (hPO.far (p := ⟨w.heap.size, 0, none⟩) hlo _).far (p := ⟨w.heap.size, 1, none⟩) hlo _
    have TF : Hid (Below w.heap.size w wf) := by show Below _ _ _; rw [HWF.out]; exact (T0.setCell (p := ⟨w.heap.size, 0, none⟩) (Nat.le_refl _) _).setCell (p := ⟨w.heap.size, 1, none⟩) (Nat.le_refl _) _
    clear hPO T0 BR hiv O0 O1 I0 I1
    go_wp2_with fail
    rw [← Hw1018.out]
    rw [← HWF.out]
    (try simp only [Exit.inBlock, Exit.then])
    refine bodyPost_ret (v := .agg #[.int .i64 3, .slice (some ⟨w1010.heap.size, 0, none⟩) 2 2]) (results_cell_row rfl _ _ w.heap.size 27 #[.int .i64 3, .slice (some ⟨w1010.heap.size, 0, none⟩) 2 2] (0, 0) _ (by simp) BLF.out Try.underlying27 rfl (by kernel_rfl)) rfl ?_
    exact ⟨(3, [(2, binL ⟨#[48, 48, 48, 48, 49, 49, 48, 49, 50]⟩), (2, binL ⟨#[48, 49, 50, 49, 49, 50, 50, 50, 50]⟩)]), ⟨[.int .i64 3, .slice (some ⟨w1010.heap.size, 0, none⟩) 2 2], _, rfl, PF.out.algK ⟨by omega, by omega⟩, PF.out.2.2.mono (by omega) (Nat.le_refl _), TF.out⟩, small_iff.1 (by decide +kernel)⟩
  · go_enter Try.func80, Try.ntmps80
    go_upto_region 19 with fail
    rw [← HW0.out]
    have BR0 := BR
    have dR0 := BR.cell 0
    have dR1 := BR.cell 1
    simp at dR0 dR1
    have gR0 := BR.frozen 0
    have gR1 := BR.frozen 1
    obtain ⟨ws, HWS⟩ : ∃ x, Hid (x = (w0.setCell ⟨w.heap.size, 0, none⟩ (.int .i64 4)).setCell ⟨w.heap.size, 1, none⟩ (.slice (some ⟨w0.heap.size + 1, 0, none⟩) 1 1)) := ⟨_, Lib.hid rfl⟩
    have ews : ws.heap.size = w0.heap.size := by rw [HWS.out]; simp
    have BS : Blk ws w.heap.size 27 #[.int .i64 4, .slice (some ⟨w0.heap.size + 1, 0, none⟩) 1 1] := by rw [HWS.out]; simpa using (BR.set_ 0 (.int .i64 4)).set_ 1 (.slice (some ⟨w0.heap.size + 1, 0, none⟩) 1 1)
    replace T0 : Below w.heap.size w ws := by rw [HWS.out]; exact (T0.setCell (p := ⟨w.heap.size, 0, none⟩) (Nat.le_refl _) _).setCell (p := ⟨w.heap.size, 1, none⟩) (Nat.le_refl _) _
    replace BR := BS
    clear BS
    obtain ⟨w1015, Hw1015⟩ : ∃ x, Hid (x = ws.alloc (.cells #[.int .i64 1, .int .i64 2, .int .i64 3, .int .i64 0] 3)) := ⟨_, Lib.hid rfl⟩
    have hbw1015 : Below ws.heap.size ws w1015 := by rw [Hw1015.out]; exact below_box _ _
    replace T0 := below_next T0 hbw1015 rfl
    replace BR := BR.next hbw1015
    have zw1015 := hbw1015.size
    have yw1015 : w1015.heap.size = ws.heap.size + 1 := by rw [Hw1015.out]; simp
    have ew1015 : w1015.heap.size = w0.heap.size + 1 := by omega
    have O0 : shOp.own w1015 [.int .i64 1, .slice (some ⟨w0.heap.size, 0, none⟩) 4 4] (1, [1, 2, 3, 0]) [w0.heap.size] := by
      have := own_tab (w := ws) (a := 1) (L := [1, 2, 3, 0]) (n := 4) ⟨by omega, by omega⟩ rfl (by decide) (by intro x hx; simp at hx; unfold InR; omega)
      rw [ews] at this
      have hh : shOp.own w1015 [.int .i64 1, .slice (some ⟨w0.heap.size, 0, none⟩) 4 4] (1, [1, 2, 3, 0]) [w0.heap.size] := by rw [Hw1015.out]; exact this
      exact hh
    have I0 : Iv ws.heap.size w1015.heap.size [w0.heap.size] := ⟨by simp, fun b hb => by simp at hb; omega⟩
    have hiv : Iv ws.heap.size w1015.heap.size ([[w0.heap.size]].flatten : List Nat) := (Iv.app0 (I0.mono (Nat.le_refl _) (by omega)))
    obtain ⟨w1028, Hw1028⟩ : ∃ x, Hid (x = w1015.alloc (.cells #[.int .i64 1, .slice (some ⟨w0.heap.size, 0, none⟩) 4 4] 92)) := ⟨_, Lib.hid rfl⟩
    have hbw1028 : Below w1015.heap.size w1015 w1028 := by rw [Hw1028.out]; exact below_box _ _
    have hPO : PO ws.heap.size w1028 (.slice (some ⟨w0.heap.size + 1, 0, none⟩) 1 1) [(1, [1, 2, 3, 0])] [[.int .i64 1, .slice (some ⟨w0.heap.size, 0, none⟩) 4 4]] [[w0.heap.size]] := by
      rw [Hw1028.out]
      have := PO.make (n := 1) (cells := #[.int .i64 1, .slice (some ⟨w0.heap.size, 0, none⟩) 4 4]) (OwnL.cons O0 (OwnL.nil _)) hiv (by omega) rfl (by decide) rfl
      rw [ew1015] at this
      exact this
    replace T0 := below_next T0 hbw1028 rfl
    replace BR := BR.next hbw1028
    have zw1028 := hbw1028.size
    have BLF := Lib.hid BR
    have PF := Lib.hid hPO
    have TF := Lib.hid T0
    clear BR hPO T0
    have BA := (BR0.alloc (.cells #[.int .i64 1, .int .i64 2, .int .i64 3, .int .i64 0] 3)).alloc (.cells #[.int .i64 1, .slice (some ⟨w0.heap.size, 0, none⟩) 4 4] 92)
    have cR0 := BA.cell 0
    have cR1 := BA.cell 1
    simp at cR0 cR1
    have fR0 := BA.frozen 0
    have fR1 := BA.frozen 1
    clear BA BR0
    clear hiv O0 I0
    go_wp2_with fail
    rw [← HWS.out]
    rw [← Hw1015.out]
    rw [← Hw1028.out]
    (try simp only [Exit.inBlock, Exit.then])
    refine bodyPost_ret (v := .agg #[.int .i64 4, .slice (some ⟨w0.heap.size + 1, 0, none⟩) 1 1]) (results_cell_row rfl _ _ w.heap.size 27 #[.int .i64 4, .slice (some ⟨w0.heap.size + 1, 0, none⟩) 1 1] (0, 0) _ (by simp) BLF.out Try.underlying27 rfl (by kernel_rfl)) rfl ?_
    exact ⟨(4, [(1, [1, 2, 3, 0])]), ⟨[.int .i64 4, .slice (some ⟨w0.heap.size + 1, 0, none⟩) 1 1], _, rfl, PF.out.algK ⟨by omega, by omega⟩, PF.out.2.2.mono (by omega) (Nat.le_refl _), TF.out⟩, small_iff.1 (by decide +kernel)⟩
  · go_enter Try.func80, Try.ntmps80
    go_upto_region 21 with fail
    rw [← HW0.out]
    have BR0 := BR
    have dR0 := BR.cell 0
    have dR1 := BR.cell 1
    simp at dR0 dR1
    have gR0 := BR.frozen 0
    have gR1 := BR.frozen 1
    obtain ⟨ws, HWS⟩ : ∃ x, Hid (x = (w0.setCell ⟨w.heap.size, 0, none⟩ (.int .i64 2)).setCell ⟨w.heap.size, 1, none⟩ (.slice (some ⟨w0.heap.size + 1, 0, none⟩) 1 1)) := ⟨_, Lib.hid rfl⟩
    have ews : ws.heap.size = w0.heap.size := by rw [HWS.out]; simp
    have BS : Blk ws w.heap.size 27 #[.int .i64 2, .slice (some ⟨w0.heap.size + 1, 0, none⟩) 1 1] := by rw [HWS.out]; simpa using (BR.set_ 0 (.int .i64 2)).set_ 1 (.slice (some ⟨w0.heap.size + 1, 0, none⟩) 1 1)
    replace T0 : Below w.heap.size w ws := by rw [HWS.out]; exact (T0.setCell (p := ⟨w.heap.size, 0, none⟩) (Nat.le_refl _) _).setCell (p := ⟨w.heap.size, 1, none⟩) (Nat.le_refl _) _
    replace BR := BS
    clear BS
    obtain ⟨w1015, Hw1015⟩ : ∃ x, Hid (x = ws.alloc (.cells #[.int .i64 0, .int .i64 0, .int .i64 0, .int .i64 1, .int .i64 0, .int .i64 1, .int .i64 1, .int .i64 1] 3)) := ⟨_, Lib.hid rfl⟩
    have hbw1015 : Below ws.heap.size ws w1015 := by rw [Hw1015.out]; exact below_box _ _
    replace T0 := below_next T0 hbw1015 rfl
    replace BR := BR.next hbw1015
    have zw1015 := hbw1015.size
    have yw1015 : w1015.heap.size = ws.heap.size + 1 := by rw [Hw1015.out]; simp
    have ew1015 : w1015.heap.size = w0.heap.size + 1 := by omega
    have O0 : shOp.own w1015 [.int .i64 3, .slice (some ⟨w0.heap.size, 0, none⟩) 8 8] (3, [0, 0, 0, 1, 0, 1, 1, 1]) [w0.heap.size] := by
      have := own_tab (w := ws) (a := 3) (L := [0, 0, 0, 1, 0, 1, 1, 1]) (n := 8) ⟨by omega, by omega⟩ rfl (by decide) (by intro x hx; simp at hx; unfold InR; omega)
      rw [ews] at this
      have hh : shOp.own w1015 [.int .i64 3, .slice (some ⟨w0.heap.size, 0, none⟩) 8 8] (3, [0, 0, 0, 1, 0, 1, 1, 1]) [w0.heap.size] := by rw [Hw1015.out]; exact this
      exact hh
    have I0 : Iv ws.heap.size w1015.heap.size [w0.heap.size] := ⟨by simp, fun b hb => by simp at hb; omega⟩
    have hiv : Iv ws.heap.size w1015.heap.size ([[w0.heap.size]].flatten : List Nat) := (Iv.app0 (I0.mono (Nat.le_refl _) (by omega)))
    obtain ⟨w1028, Hw1028⟩ : ∃ x, Hid (x = w1015.alloc (.cells #[.int .i64 3, .slice (some ⟨w0.heap.size, 0, none⟩) 8 8] 92)) := ⟨_, Lib.hid rfl⟩
    have hbw1028 : Below w1015.heap.size w1015 w1028 := by rw [Hw1028.out]; exact below_box _ _
    have hPO : PO ws.heap.size w1028 (.slice (some ⟨w0.heap.size + 1, 0, none⟩) 1 1) [(3, [0, 0, 0, 1, 0, 1, 1, 1])] [[.int .i64 3, .slice (some ⟨w0.heap.size, 0, none⟩) 8 8]] [[w0.heap.size]] := by
      rw [Hw1028.out]
      have := PO.make (n := 1) (cells := #[.int .i64 3, .slice (some ⟨w0.heap.size, 0, none⟩) 8 8]) (OwnL.cons O0 (OwnL.nil _)) hiv (by omega) rfl (by decide) rfl
      rw [ew1015] at this
      exact this
    replace T0 := below_next T0 hbw1028 rfl
    replace BR := BR.next hbw1028
    have zw1028 := hbw1028.size
    have BLF := Lib.hid BR
    have PF := Lib.hid hPO
    have TF := Lib.hid T0
    clear BR hPO T0
    have BA := (BR0.alloc (.cells #[.int .i64 0, .int .i64 0, .int .i64 0, .int .i64 1, .int .i64 0, .int .i64 1, .int .i64 1, .int .i64 1] 3)).alloc (.cells #[.int .i64 3, .slice (some ⟨w0.heap.size, 0, none⟩) 8 8] 92)
    have cR0 := BA.cell 0
    have cR1 := BA.cell 1
    simp at cR0 cR1
    have fR0 := BA.frozen 0
    have fR1 := BA.frozen 1
    clear BA BR0
    clear hiv O0 I0
    go_wp2_with fail
    rw [← HWS.out]
    rw [← Hw1015.out]
    rw [← Hw1028.out]
    (try simp only [Exit.inBlock, Exit.then])
    refine bodyPost_ret (v := .agg #[.int .i64 2, .slice (some ⟨w0.heap.size + 1, 0, none⟩) 1 1]) (results_cell_row rfl _ _ w.heap.size 27 #[.int .i64 2, .slice (some ⟨w0.heap.size + 1, 0, none⟩) 1 1] (0, 0) _ (by simp) BLF.out Try.underlying27 rfl (by kernel_rfl)) rfl ?_
    exact ⟨(2, [(3, [0, 0, 0, 1, 0, 1, 1, 1])]), ⟨[.int .i64 2, .slice (some ⟨w0.heap.size + 1, 0, none⟩) 1 1], _, rfl, PF.out.algK ⟨by omega, by omega⟩, PF.out.2.2.mono (by omega) (Nat.le_refl _), TF.out⟩, small_iff.1 (by decide +kernel)⟩
  · go_enter Try.func80, Try.ntmps80
    go_upto_region 23 with fail
    rw [← HW0.out]
    go_wp2_with fail
    refine (l2Binary_any ⟨#[48, 48, 48, 49, 49, 49, 50, 50, 50]⟩ w0 (by decide)).mono ?_
    rintro e w1003 ⟨cs0, bl0, rfl, O0, I0, hb0⟩
    obtain ⟨A0, n0, c0, rfl, -, -⟩ := rdOp (shOp.ord O0)
    replace T0 := below_next T0 hb0 rfl
    replace BR := BR.next hb0
    have zw1003 := hb0.size
    have hiv : Iv w0.heap.size w1003.heap.size ([bl0].flatten : List Nat) := (Iv.app0 (I0.mono (Nat.le_refl _) (by omega)))
    obtain ⟨w1010, Hw1010⟩ : ∃ x, Hid (x = w1003.alloc (.cells #[.int .i64 2, .slice A0 n0 c0] 92)) := ⟨_, Lib.hid rfl⟩
    have hbw1010 : Below w1003.heap.size w1003 w1010 := by rw [Hw1010.out]; exact below_box _ _
    have hPO : PO w0.heap.size w1010 (.slice (some ⟨w1003.heap.size, 0, none⟩) 1 1) [(2, binL ⟨#[48, 48, 48, 49, 49, 49, 50, 50, 50]⟩)] [[.int .i64 2, .slice A0 n0 c0]] [bl0] := by
      rw [Hw1010.out]
      have := PO.make (n := 1) (cells := #[.int .i64 2, .slice A0 n0 c0]) (OwnL.cons O0 (OwnL.nil _)) hiv (by omega) rfl (by decide) rfl
      exact this
    replace T0 := below_next T0 hbw1010 rfl
    replace BR := BR.next hbw1010
    have zw1010 := hbw1010.size
    have cR0 := BR.cell 0
    have cR1 := BR.cell 1
    simp at cR0 cR1
    have fR0 := BR.frozen 0
    have fR1 := BR.frozen 1
    rw [Hw1010.out] at cR0 cR1 fR0 fR1
    obtain ⟨wf, HWF⟩ : ∃ wf, Hid (wf = (w1010.setCell ⟨w.heap.size, 0, none⟩ (.int .i64 3)).setCell ⟨w.heap.size, 1, none⟩ (.slice (some ⟨w1003.heap.size, 0, none⟩) 1 1)) := ⟨_, Lib.hid rfl⟩
    have BLF : Hid (Blk wf w.heap.size 27 #[.int .i64 3, .slice (some ⟨w1003.heap.size, 0, none⟩) 1 1]) := by show Blk _ _ _ _; rw [HWF.out]; simpa using (BR.set_ 0 (.int .i64 3)).set_ 1 (.slice (some ⟨w1003.heap.size, 0, none⟩) 1 1)
    have hlo : w.heap.size < w0.heap.size := by omega
    have PF : Hid (PO w0.heap.size wf (.slice (some ⟨w1003.heap.size, 0, none⟩) 1 1) [(2, binL ⟨#[48, 48, 48, 49, 49, 49, 50, 50, 50]⟩)] [[.int .i64 2, .slice A0 n0 c0]] [bl0]) := by show PO _ _ _ _ _ _; rw [HWF.out]; exact (hPO.far (p := ⟨w.heap.size, 0, none⟩) hlo _).far (p := ⟨w.heap.size, 1, none⟩) hlo _
    have TF : Hid (Below w.heap.size w wf) := by show Below _ _ _; rw [HWF.out]; exact (T0.setCell (p := ⟨w.heap.size, 0, none⟩) (Nat.le_refl _) _).setCell (p := ⟨w.heap.size, 1, none⟩) (Nat.le_refl _) _
    clear hPO T0 BR hiv O0 I0
    go_wp2_with fail
    rw [← Hw1010.out]
    rw [← HWF.out]
    (try simp only [Exit.inBlock, Exit.then])
    refine bodyPost_ret (v := .agg #[.int .i64 3, .slice (some ⟨w1003.heap.size, 0, none⟩) 1 1]) (results_cell_row rfl _ _ w.heap.size 27 #[.int .i64 3, .slice (some ⟨w1003.heap.size, 0, none⟩) 1 1] (0, 0) _ (by simp) BLF.out Try.underlying27 rfl (by kernel_rfl)) rfl ?_
    exact ⟨(3, [(2, binL ⟨#[48, 48, 48, 49, 49, 49, 50, 50, 50]⟩)]), ⟨[.int .i64 3, .slice (some ⟨w1003.heap.size, 0, none⟩) 1 1], _, rfl, PF.out.algK ⟨by omega, by omega⟩, PF.out.2.2.mono (by omega) (Nat.le_refl _), TF.out⟩, small_iff.1 (by decide +kernel)⟩
  · go_enter Try.func80, Try.ntmps80
    go_upto_region 25 with fail
    rw [← HW0.out]
    go_wp2_with fail
    refine (l2Binary_any ⟨#[48, 48, 48, 48, 48, 48, 49, 48, 48, 49, 48, 48, 50, 48, 50, 48, 48, 48, 51, 51, 48, 49, 50, 51, 52]⟩ w0 (by decide)).mono ?_
    rintro e w1003 ⟨cs0, bl0, rfl, O0, I0, hb0⟩
    obtain ⟨A0, n0, c0, rfl, -, -⟩ := rdOp (shOp.ord O0)
    replace T0 := below_next T0 hb0 rfl
    replace BR := BR.next hb0
    have zw1003 := hb0.size
    go_wp2_with fail
    refine (l2Binary_any ⟨#[48, 49, 50, 51, 52, 49, 49, 52, 52, 52, 50, 52, 50, 52, 52, 51, 52, 52, 51, 52, 52, 52, 52, 52, 52]⟩ w1003 (by decide)).mono ?_
    rintro e w1010 ⟨cs1, bl1, rfl, O1, I1, hb1⟩
    obtain ⟨A1, n1, c1, rfl, -, -⟩ := rdOp (shOp.ord O1)
    replace T0 := below_next T0 hb1 rfl
    replace BR := BR.next hb1
    have zw1010 := hb1.size
    replace O0 := Sh.onext O0 hb1
    have hiv : Iv w0.heap.size w1010.heap.size ([bl0, bl1].flatten : List Nat) := (Iv.app I0 (Iv.app0 (I1.mono (Nat.le_refl _) (by omega))) (by omega) (by omega) (by omega))
    obtain ⟨w1018, Hw1018⟩ : ∃ x, Hid (x = w1010.alloc (.cells #[.int .i64 2, .slice A0 n0 c0, .int .i64 2, .slice A1 n1 c1] 92)) := ⟨_, Lib.hid rfl⟩
    have hbw1018 : Below w1010.heap.size w1010 w1018 := by rw [Hw1018.out]; exact below_box _ _
    have hPO : PO w0.heap.size w1018 (.slice (some ⟨w1010.heap.size, 0, none⟩) 2 2) [(2, binL ⟨#[48, 48, 48, 48, 48, 48, 49, 48, 48, 49, 48, 48, 50, 48, 50, 48, 48, 48, 51, 51, 48, 49, 50, 51, 52]⟩), (2, binL ⟨#[48, 49, 50, 51, 52, 49, 49, 52, 52, 52, 50, 52, 50, 52, 52, 51, 52, 52, 51, 52, 52, 52, 52, 52, 52]⟩)] [[.int .i64 2, .slice A0 n0 c0], [.int .i64 2, .slice A1 n1 c1]] [bl0, bl1] := by
      rw [Hw1018.out]
      have := PO.make (n := 2) (cells := #[.int .i64 2, .slice A0 n0 c0, .int .i64 2, .slice A1 n1 c1]) (OwnL.cons O0 (OwnL.cons O1 (OwnL.nil _))) hiv (by omega) rfl (by decide) rfl
      exact this
    replace T0 := below_next T0 hbw1018 rfl
    replace BR := BR.next hbw1018
    have zw1018 := hbw1018.size
    have cR0 := BR.cell 0
    have cR1 := BR.cell 1
    simp at cR0 cR1
    have fR0 := BR.frozen 0
    have fR1 := BR.frozen 1
    rw [Hw1018.out] at cR0 cR1 fR0 fR1
    obtain ⟨wf, HWF⟩ : ∃ wf, Hid (wf = (w1018.setCell ⟨w.heap.size, 0, none⟩ (.int .i64 5)).setCell ⟨w.heap.size, 1, none⟩ (.slice (some ⟨w1010.heap.size, 0, none⟩) 2 2)) := ⟨_, Lib.hid rfl⟩
    have BLF : Hid (Blk wf w.heap.size 27 #[.int .i64 5, .slice (some ⟨w1010.heap.size, 0, none⟩) 2 2]) := by show Blk _ _ _ _; rw [HWF.out]; simpa using (BR.set_ 0 (.int .i64 5)).set_ 1 (.slice (some ⟨w1010.heap.size, 0, none⟩) 2 2)
    have hlo : w.heap.size < w0.heap.size := by omega
    have PF : Hid (PO w0.heap.size wf (.slice (some ⟨w1010.heap.size, 0, none⟩) 2 2) [(2, binL ⟨#[48, 48, 48, 48, 48, 48, 49, 48, 48, 49, 48, 48, 50, 48, 50, 48, 48, 48, 51, 51, 48, 49, 50, 51, 52]⟩), (2, binL ⟨#[48, 49, 50, 51, 52, 49, 49, 52, 52, 52, 50, 52, 50, 52, 52, 51, 52, 52, 51, 52, 52, 52, 52, 52, 52]⟩)] [[.int .i64 2, .slice A0 n0 c0], [.int .i64 2, .slice A1 n1 c1]] [bl0, bl1]) := by show PO _ _ _ _ _ _; rw [HWF.out]; exact (hPO.far (p := ⟨w.heap.size, 0, none⟩) hlo _).far (p := ⟨w.heap.size, 1, none⟩) hlo _
    have TF : Hid (Below w.heap.size w wf) := by show Below _ _ _; rw [HWF.out]; exact (T0.setCell (p := ⟨w.heap.size, 0, none⟩) (Nat.le_refl _) _).setCell (p := ⟨w.heap.size, 1, none⟩) (Nat.le_refl _) _
    clear hPO T0 BR hiv O0 O1 I0 I1
    go_wp2_with fail
    rw [← Hw1018.out]
    rw [← HWF.out]
    (try simp only [Exit.inBlock, Exit.then])
    refine bodyPost_ret (v := .agg #[.int .i64 5, .slice (some ⟨w1010.heap.size, 0, none⟩) 2 2]) (results_cell_row rfl _ _ w.heap.size 27 #[.int .i64 5, .slice (some ⟨w1010.heap.size, 0, none⟩) 2 2] (0, 0) _ (by simp) BLF.out Try.underlying27 rfl (by kernel_rfl)) rfl ?_
    exact ⟨(5, [(2, binL ⟨#[48, 48, 48, 48, 48, 48, 49, 48, 48, 49, 48, 48, 50, 48, 50, 48, 48, 48, 51, 51, 48, 49, 50, 51, 52]⟩), (2, binL ⟨#[48, 49, 50, 51, 52, 49, 49, 52, 52, 52, 50, 52, 50, 52, 52, 51, 52, 52, 51, 52, 52, 52, 52, 52, 52]⟩)]), ⟨[.int .i64 5, .slice (some ⟨w1010.heap.size, 0, none⟩) 2 2], _, rfl, PF.out.algK ⟨by omega, by omega⟩, PF.out.2.2.mono (by omega) (Nat.le_refl _), TF.out⟩, small_iff.1 (by decide +kernel)⟩
  · go_enter Try.func80, Try.ntmps80
    go_upto_region 27 with fail
    rw [← HW0.out]
    go_wp2_with fail
    refine (l2Binary_any ⟨#[48, 49, 50, 51, 49, 50, 51, 48, 50, 51, 48, 49, 51, 48, 49, 50]⟩ w0 (by decide)).mono ?_
    rintro e w1003 ⟨cs0, bl0, rfl, O0, I0, hb0⟩
    obtain ⟨A0, n0, c0, rfl, -, -⟩ := rdOp (shOp.ord O0)
    replace T0 := below_next T0 hb0 rfl
    replace BR := BR.next hb0
    have zw1003 := hb0.size
    have hiv : Iv w0.heap.size w1003.heap.size ([bl0].flatten : List Nat) := (Iv.app0 (I0.mono (Nat.le_refl _) (by omega)))
    obtain ⟨w1010, Hw1010⟩ : ∃ x, Hid (x = w1003.alloc (.cells #[.int .i64 2, .slice A0 n0 c0] 92)) := ⟨_, Lib.hid rfl⟩
    have hbw1010 : Below w1003.heap.size w1003 w1010 := by rw [Hw1010.out]; exact below_box _ _
    have hPO : PO w0.heap.size w1010 (.slice (some ⟨w1003.heap.size, 0, none⟩) 1 1) [(2, binL ⟨#[48, 49, 50, 51, 49, 50, 51, 48, 50, 51, 48, 49, 51, 48, 49, 50]⟩)] [[.int .i64 2, .slice A0 n0 c0]] [bl0] := by
      rw [Hw1010.out]
      have := PO.make (n := 1) (cells := #[.int .i64 2, .slice A0 n0 c0]) (OwnL.cons O0 (OwnL.nil _)) hiv (by omega) rfl (by decide) rfl
      exact this
    replace T0 := below_next T0 hbw1010 rfl
    replace BR := BR.next hbw1010
    have zw1010 := hbw1010.size
    have cR0 := BR.cell 0
    have cR1 := BR.cell 1
    simp at cR0 cR1
    have fR0 := BR.frozen 0
    have fR1 := BR.frozen 1
    rw [Hw1010.out] at cR0 cR1 fR0 fR1
    obtain ⟨wf, HWF⟩ : ∃ wf, Hid (wf = (w1010.setCell ⟨w.heap.size, 0, none⟩ (.int .i64 4)).setCell ⟨w.heap.size, 1, none⟩ (.slice (some ⟨w1003.heap.size, 0, none⟩) 1 1)) := ⟨_, Lib.hid rfl⟩
    have BLF : Hid (Blk wf w.heap.size 27 #[.int .i64 4, .slice (some ⟨w1003.heap.size, 0, none⟩) 1 1]) := by show Blk _ _ _ _; rw [HWF.out]; simpa using (BR.set_ 0 (.int .i64 4)).set_ 1 (.slice (some ⟨w1003.heap.size, 0, none⟩) 1 1)
    have hlo : w.heap.size < w0.heap.size := by omega
    have PF : Hid (PO w0.heap.size wf (.slice (some ⟨w1003.heap.size, 0, none⟩) 1 1) [(2, binL ⟨#[48, 49, 50, 51, 49, 50, 51, 48, 50, 51, 48, 49, 51, 48, 49, 50]⟩)] [[.int .i64 2, .slice A0 n0 c0]] [bl0]) := by show PO _ _ _ _ _ _; rw [HWF.out]; exact (hPO.far (p := ⟨w.heap.size, 0, none⟩) hlo _).far (p := ⟨w.heap.size, 1, none⟩) hlo _
    have TF : Hid (Below w.heap.size w wf) := by show Below _ _ _; rw [HWF.out]; exact (T0.setCell (p := ⟨w.heap.size, 0, none⟩) (Nat.le_refl _) _).setCell (p := ⟨w.heap.size, 1, none⟩) (Nat.le_refl _) _
    clear hPO T0 BR hiv O0 I0
    go_wp2_with fail
    rw [← Hw1010.out]
    rw [← HWF.out]
    (try simp only [Exit.inBlock, Exit.then])
    refine bodyPost_ret (v := .agg #[.int .i64 4, .slice (some ⟨w1003.heap.size, 0, none⟩) 1 1]) (results_cell_row rfl _ _ w.heap.size 27 #[.int .i64 4, .slice (some ⟨w1003.heap.size, 0, none⟩) 1 1] (0, 0) _ (by simp) BLF.out Try.underlying27 rfl (by kernel_rfl)) rfl ?_
    exact ⟨(4, [(2, binL ⟨#[48, 49, 50, 51, 49, 50, 51, 48, 50, 51, 48, 49, 51, 48, 49, 50]⟩)]), ⟨[.int .i64 4, .slice (some ⟨w1003.heap.size, 0, none⟩) 1 1], _, rfl, PF.out.algK ⟨by omega, by omega⟩, PF.out.2.2.mono (by omega) (Nat.le_refl _), TF.out⟩, small_iff.1 (by decide +kernel)⟩
  · go_enter Try.func80, Try.ntmps80
    go_upto_region 29 with fail
    rw [← HW0.out]
    obtain ⟨w1003, Hw1003⟩ : ∃ x, Hid (x = w0.alloc (.cells #[.int .i64 0, .int .i64 0, .int .i64 1] 3)) := ⟨_, Lib.hid rfl⟩
    have hbw1003 : Below w0.heap.size w0 w1003 := by rw [Hw1003.out]; exact below_box _ _
    replace T0 := below_next T0 hbw1003 rfl
    replace BR := BR.next hbw1003
    have zw1003 := hbw1003.size
    have yw1003 : w1003.heap.size = w0.heap.size + 1 := by rw [Hw1003.out]; simp
    have ew1003 : w1003.heap.size = w0.heap.size + 1 := by omega
    have O0 : shOp.own w1003 [.int .i64 1, .slice (some ⟨w0.heap.size, 0, none⟩) 3 3] (1, [0, 0, 1]) [w0.heap.size] := by
      have := own_tab (w := w0) (a := 1) (L := [0, 0, 1]) (n := 3) ⟨by omega, by omega⟩ rfl (by decide) (by intro x hx; simp at hx; unfold InR; omega)
      have hh : shOp.own w1003 [.int .i64 1, .slice (some ⟨w0.heap.size, 0, none⟩) 3 3] (1, [0, 0, 1]) [w0.heap.size] := by rw [Hw1003.out]; exact this
      exact hh
    have I0 : Iv w0.heap.size w1003.heap.size [w0.heap.size] := ⟨by simp, fun b hb => by simp at hb; omega⟩
    obtain ⟨w1015, Hw1015⟩ : ∃ x, Hid (x = w1003.alloc (.cells #[.int .i64 2] 3)) := ⟨_, Lib.hid rfl⟩
    have hbw1015 : Below w1003.heap.size w1003 w1015 := by rw [Hw1015.out]; exact below_box _ _
    replace T0 := below_next T0 hbw1015 rfl
    replace BR := BR.next hbw1015
    have zw1015 := hbw1015.size
    replace O0 := Sh.onext O0 hbw1015
    have yw1015 : w1015.heap.size = w1003.heap.size + 1 := by rw [Hw1015.out]; simp
    have ew1015 : w1015.heap.size = w0.heap.size + 1 + 1 := by omega
    have O1 : shOp.own w1015 [.int .i64 0, .slice (some ⟨w0.heap.size + 1, 0, none⟩) 1 1] (0, [2]) [w0.heap.size + 1] := by
      have := own_tab (w := w1003) (a := 0) (L := [2]) (n := 1) ⟨by omega, by omega⟩ rfl (by decide) (by intro x hx; simp at hx; unfold InR; omega)
      rw [ew1003] at this
      have hh : shOp.own w1015 [.int .i64 0, .slice (some ⟨w0.heap.size + 1, 0, none⟩) 1 1] (0, [2]) [w0.heap.size + 1] := by rw [Hw1015.out]; exact this
      exact hh
    have I1 : Iv w1003.heap.size w1015.heap.size [w0.heap.size + 1] := ⟨by simp, fun b hb => by simp at hb; omega⟩
    have hiv : Iv w0.heap.size w1015.heap.size ([[w0.heap.size], [w0.heap.size + 1]].flatten : List Nat) := (Iv.app I0 (Iv.app0 (I1.mono (Nat.le_refl _) (by omega))) (by omega) (by omega) (by omega))
    obtain ⟨w1029, Hw1029⟩ : ∃ x, Hid (x = w1015.alloc (.cells #[.int .i64 1, .slice (some ⟨w0.heap.size, 0, none⟩) 3 3, .int .i64 0, .slice (some ⟨w0.heap.size + 1, 0, none⟩) 1 1] 92)) := ⟨_, Lib.hid rfl⟩
    have hbw1029 : Below w1015.heap.size w1015 w1029 := by rw [Hw1029.out]; exact below_box _ _
    have hPO : PO w0.heap.size w1029 (.slice (some ⟨w0.heap.size + 1 + 1, 0, none⟩) 2 2) [(1, [0, 0, 1]), (0, [2])] [[.int .i64 1, .slice (some ⟨w0.heap.size, 0, none⟩) 3 3], [.int .i64 0, .slice (some ⟨w0.heap.size + 1, 0, none⟩) 1 1]] [[w0.heap.size], [w0.heap.size + 1]] := by
      rw [Hw1029.out]
      have := PO.make (n := 2) (cells := #[.int .i64 1, .slice (some ⟨w0.heap.size, 0, none⟩) 3 3, .int .i64 0, .slice (some ⟨w0.heap.size + 1, 0, none⟩) 1 1]) (OwnL.cons O0 (OwnL.cons O1 (OwnL.nil _))) hiv (by omega) rfl (by decide) rfl
      rw [ew1015] at this
      exact this
    replace T0 := below_next T0 hbw1029 rfl
    replace BR := BR.next hbw1029
    have zw1029 := hbw1029.size
    have cR0 := BR.cell 0
    have cR1 := BR.cell 1
    simp at cR0 cR1
    have fR0 := BR.frozen 0
    have fR1 := BR.frozen 1
    rw [Hw1029.out] at cR0 cR1 fR0 fR1
    rw [Hw1015.out] at cR0 cR1 fR0 fR1
    rw [Hw1003.out] at cR0 cR1 fR0 fR1
    obtain ⟨wf, HWF⟩ : ∃ wf, Hid (wf = (w1029.setCell ⟨w.heap.size, 0, none⟩ (.int .i64 3)).setCell ⟨w.heap.size, 1, none⟩ (.slice (some ⟨w0.heap.size + 1 + 1, 0, none⟩) 2 2)) := ⟨_, Lib.hid rfl⟩
    have BLF : Hid (Blk wf w.heap.size 27 #[.int .i64 3, .slice (some ⟨w0.heap.size + 1 + 1, 0, none⟩) 2 2]) := by show Blk _ _ _ _; rw [HWF.out]; simpa using (BR.set_ 0 (.int .i64 3)).set_ 1 (.slice (some ⟨w0.heap.size + 1 + 1, 0, none⟩) 2 2)
    have hlo : w.heap.size < w0.heap.size := by omega
    have PF : Hid (PO w0.heap.size wf (.slice (some ⟨w0.heap.size + 1 + 1, 0, none⟩) 2 2) [(1, [0, 0, 1]), (0, [2])] [[.int .i64 1, .slice (some ⟨w0.heap.size, 0, none⟩) 3 3], [.int .i64 0, .slice (some ⟨w0.heap.size + 1, 0, none⟩) 1 1]] [[w0.heap.size], [w0.heap.size + 1]]) := by show PO _ _ _ _ _ _; rw [HWF.out]; exact (hPO.far (p := ⟨w.heap.size, 0, none⟩) hlo _).far (p := ⟨w.heap.size, 1, none⟩) hlo _
    have TF : Hid (Below w.heap.size w wf) := by show Below _ _ _; rw [HWF.out]; exact (T0.setCell (p := ⟨w.heap.size, 0, none⟩) (Nat.le_refl _) _).setCell (p := ⟨w.heap.size, 1, none⟩) (Nat.le_refl _) _
    clear hPO T0 BR hiv O0 O1 I0 I1
    go_wp2_with fail
    rw [← Hw1003.out]
    rw [← Hw1015.out]
    rw [← Hw1029.out]
    rw [← HWF.out]
    (try simp only [Exit.inBlock, Exit.then])
    refine bodyPost_ret (v := .agg #[.int .i64 3, .slice (some ⟨w0.heap.size + 1 + 1, 0, none⟩) 2 2]) (results_cell_row rfl _ _ w.heap.size 27 #[.int .i64 3, .slice (some ⟨w0.heap.size + 1 + 1, 0, none⟩) 2 2] (0, 0) _ (by simp) BLF.out Try.underlying27 rfl (by kernel_rfl)) rfl ?_
    exact ⟨(3, [(1, [0, 0, 1]), (0, [2])]), ⟨[.int .i64 3, .slice (some ⟨w0.heap.size + 1 + 1, 0, none⟩) 2 2], _, rfl, PF.out.algK ⟨by omega, by omega⟩, PF.out.2.2.mono (by omega) (Nat.le_refl _), TF.out⟩, small_iff.1 (by decide +kernel)⟩
  · go_enter Try.func80, Try.ntmps80
    go_upto_region 31 with fail
    rw [← HW0.out]
    go_wp2_with fail
    refine (l2Binary_any ⟨#[48]⟩ w0 (by decide)).mono ?_
    rintro e w1003 ⟨cs0, bl0, rfl, O0, I0, hb0⟩
    obtain ⟨A0, n0, c0, rfl, -, -⟩ := rdOp (shOp.ord O0)
    replace T0 := below_next T0 hb0 rfl
    replace BR := BR.next hb0
    have zw1003 := hb0.size
    have hiv : Iv w0.heap.size w1003.heap.size ([bl0].flatten : List Nat) := (Iv.app0 (I0.mono (Nat.le_refl _) (by omega)))
    obtain ⟨w1010, Hw1010⟩ : ∃ x, Hid (x = w1003.alloc (.cells #[.int .i64 2, .slice A0 n0 c0] 92)) := ⟨_, Lib.hid rfl⟩
    have hbw1010 : Below w1003.heap.size w1003 w1010 := by rw [Hw1010.out]; exact below_box _ _
    have hPO : PO w0.heap.size w1010 (.slice (some ⟨w1003.heap.size, 0, none⟩) 1 1) [(2, binL ⟨#[48]⟩)] [[.int .i64 2, .slice A0 n0 c0]] [bl0] := by
      rw [Hw1010.out]
      have := PO.make (n := 1) (cells := #[.int .i64 2, .slice A0 n0 c0]) (OwnL.cons O0 (OwnL.nil _)) hiv (by omega) rfl (by decide) rfl
      exact this
    replace T0 := below_next T0 hbw1010 rfl
    replace BR := BR.next hbw1010
    have zw1010 := hbw1010.size
    have cR0 := BR.cell 0
    have cR1 := BR.cell 1
    simp at cR0 cR1
    have fR0 := BR.frozen 0
    have fR1 := BR.frozen 1
    rw [Hw1010.out] at cR0 cR1 fR0 fR1
    obtain ⟨wf, HWF⟩ : ∃ wf, Hid (wf = (w1010.setCell ⟨w.heap.size, 0, none⟩ (.int .i64 1)).setCell ⟨w.heap.size, 1, none⟩ (.slice (some ⟨w1003.heap.size, 0, none⟩) 1 1)) := ⟨_, Lib.hid rfl⟩
    have BLF : Hid (Blk wf w.heap.size 27 #[.int .i64 1, .slice (some ⟨w1003.heap.size, 0, none⟩) 1 1]) := by show Blk _ _ _ _; rw [HWF.out]; simpa using (BR.set_ 0 (.int .i64 1)).set_ 1 (.slice (some ⟨w1003.heap.size, 0, none⟩) 1 1)
    have hlo : w.heap.size < w0.heap.size := by omega
    have PF : Hid (PO w0.heap.size wf (.slice (some ⟨w1003.heap.size, 0, none⟩) 1 1) [(2, binL ⟨#[48]⟩)] [[.int .i64 2, .slice A0 n0 c0]] [bl0]) := by show PO _ _ _ _ _ _; rw [HWF.out]; exact (hPO.far (p := ⟨w.heap.size, 0, none⟩) hlo _).far (p := ⟨w.heap.size, 1, none⟩) hlo _
    have TF : Hid (Below w.heap.size w wf) := by show Below _ _ _; rw [HWF.out]; exact (T0.setCell (p := ⟨w.heap.size, 0, none⟩) (Nat.le_refl _) _).setCell (p := ⟨w.heap.size, 1, none⟩) (Nat.le_refl _) _
    clear hPO T0 BR hiv O0 I0
    go_wp2_with fail
    rw [← Hw1010.out]
    rw [← HWF.out]
    (try simp only [Exit.inBlock, Exit.then])
    refine bodyPost_ret (v := .agg #[.int .i64 1, .slice (some ⟨w1003.heap.size, 0, none⟩) 1 1]) (results_cell_row rfl _ _ w.heap.size 27 #[.int .i64 1, .slice (some ⟨w1003.heap.size, 0, none⟩) 1 1] (0, 0) _ (by simp) BLF.out Try.underlying27 rfl (by kernel_rfl)) rfl ?_
    exact ⟨(1, [(2, binL ⟨#[48]⟩)]), ⟨[.int .i64 1, .slice (some ⟨w1003.heap.size, 0, none⟩) 1 1], _, rfl, PF.out.algK ⟨by omega, by omega⟩, PF.out.2.2.mono (by omega) (Nat.le_refl _), TF.out⟩, small_iff.1 (by decide +kernel)⟩
  · go_enter Try.func80, Try.ntmps80
    go_upto_region 33 with fail
    rw [← HW0.out]
    go_wp2_with fail
    refine (l2Affine3_any w0).mono ?_
    rintro e w1003 ⟨L0, ⟨cs0, bl0, rfl, O0, I0, hb0⟩, hl0, hv0⟩
    obtain ⟨A0, n0, c0, rfl, -, -⟩ := rdOp (shOp.ord O0)
    replace T0 := below_next T0 hb0 rfl
    replace BR := BR.next hb0
    have zw1003 := hb0.size
    have hiv : Iv w0.heap.size w1003.heap.size ([bl0].flatten : List Nat) := (Iv.app0 (I0.mono (Nat.le_refl _) (by omega)))
    obtain ⟨w1010, Hw1010⟩ : ∃ x, Hid (x = w1003.alloc (.cells #[.int .i64 3, .slice A0 n0 c0] 92)) := ⟨_, Lib.hid rfl⟩
    have hbw1010 : Below w1003.heap.size w1003 w1010 := by rw [Hw1010.out]; exact below_box _ _
    have hPO : PO w0.heap.size w1010 (.slice (some ⟨w1003.heap.size, 0, none⟩) 1 1) [(3, L0)] [[.int .i64 3, .slice A0 n0 c0]] [bl0] := by
      rw [Hw1010.out]
      have := PO.make (n := 1) (cells := #[.int .i64 3, .slice A0 n0 c0]) (OwnL.cons O0 (OwnL.nil _)) hiv (by omega) rfl (by decide) rfl
      exact this
    replace T0 := below_next T0 hbw1010 rfl
    replace BR := BR.next hbw1010
    have zw1010 := hbw1010.size
    have cR0 := BR.cell 0
    have cR1 := BR.cell 1
    simp at cR0 cR1
    have fR0 := BR.frozen 0
    have fR1 := BR.frozen 1
    rw [Hw1010.out] at cR0 cR1 fR0 fR1
    obtain ⟨wf, HWF⟩ : ∃ wf, Hid (wf = (w1010.setCell ⟨w.heap.size, 0, none⟩ (.int .i64 3)).setCell ⟨w.heap.size, 1, none⟩ (.slice (some ⟨w1003.heap.size, 0, none⟩) 1 1)) := ⟨_, Lib.hid rfl⟩
    have BLF : Hid (Blk wf w.heap.size 27 #[.int .i64 3, .slice (some ⟨w1003.heap.size, 0, none⟩) 1 1]) := by show Blk _ _ _ _; rw [HWF.out]; simpa using (BR.set_ 0 (.int .i64 3)).set_ 1 (.slice (some ⟨w1003.heap.size, 0, none⟩) 1 1)
    have hlo : w.heap.size < w0.heap.size := by omega
    have PF : Hid (PO w0.heap.size wf (.slice (some ⟨w1003.heap.size, 0, none⟩) 1 1) [(3, L0)] [[.int .i64 3, .slice A0 n0 c0]] [bl0]) := by show PO _ _ _ _ _ _; rw [HWF.out]; exact (hPO.far (p := ⟨w.heap.size, 0, none⟩) hlo _).far (p := ⟨w.heap.size, 1, none⟩) hlo _
    have TF : Hid (Below w.heap.size w wf) := by show Below _ _ _; rw [HWF.out]; exact (T0.setCell (p := ⟨w.heap.size, 0, none⟩) (Nat.le_refl _) _).setCell (p := ⟨w.heap.size, 1, none⟩) (Nat.le_refl _) _
    clear hPO T0 BR hiv O0 I0
    go_wp2_with fail
    rw [← Hw1010.out]
    rw [← HWF.out]
    (try simp only [Exit.inBlock, Exit.then])
    refine bodyPost_ret (v := .agg #[.int .i64 3, .slice (some ⟨w1003.heap.size, 0, none⟩) 1 1]) (results_cell_row rfl _ _ w.heap.size 27 #[.int .i64 3, .slice (some ⟨w1003.heap.size, 0, none⟩) 1 1] (0, 0) _ (by simp) BLF.out Try.underlying27 rfl (by kernel_rfl)) rfl ?_
    exact ⟨(3, [(3, L0)]), ⟨[.int .i64 3, .slice (some ⟨w1003.heap.size, 0, none⟩) 1 1], _, rfl, PF.out.algK ⟨by omega, by omega⟩, PF.out.2.2.mono (by omega) (Nat.le_refl _), TF.out⟩, ⟨by show (1 : Int) ≤ 3; omega, by show (3 : Int) ≤ 5; omega, by simp, fun o ho => by
          rw [List.mem_singleton.1 ho]
          exact ⟨by show (0 : Int) ≤ 3; omega, by show (3 : Int) ≤ 3; omega, hl0, fun v hv => by have := hv0 v hv; simp; omega⟩⟩⟩
  · have hq0 : (k == 0) = false := by simp; omega
    have hq1 : (k == 1) = false := by simp; omega
    have hq2 : (k == 2) = false := by simp; omega
    have hq3 : (k == 3) = false := by simp; omega
    have hq4 : (k == 4) = false := by simp; omega
    have hq5 : (k == 5) = false := by simp; omega
    have hq6 : (k == 6) = false := by simp; omega
    have hq7 : (k == 7) = false := by simp; omega
    have hq8 : (k == 8) = false := by simp; omega
    have hq9 : (k == 9) = false := by simp; omega
    have hq10 : (k == 10) = false := by simp; omega
    have hq11 : (k == 11) = false := by simp; omega
    have hq12 : (k == 12) = false := by simp; omega
    have hq13 : (k == 13) = false := by simp; omega
    have hq14 : (k == 14) = false := by simp; omega
    have hq15 : (k == 15) = false := by simp; omega
    clear hk
    go_enter Try.func80, Try.ntmps80
    go_upto_region 34 with fail
    rw [← HW0.out]
    have hPO : PO w0.heap.size w0 (.slice none 0 0) [] [] [] := PO.nil _ _
    have cR0 := BR.cell 0
    have cR1 := BR.cell 1
    simp at cR0 cR1
    have fR0 := BR.frozen 0
    have fR1 := BR.frozen 1
    obtain ⟨wf, HWF⟩ : ∃ wf, Hid (wf = (w0.setCell ⟨w.heap.size, 0, none⟩ (.int .i64 2)).setCell ⟨w.heap.size, 1, none⟩ (.slice none 0 0)) := ⟨_, Lib.hid rfl⟩
    have BLF : Hid (Blk wf w.heap.size 27 #[.int .i64 2, .slice none 0 0]) := by show Blk _ _ _ _; rw [HWF.out]; simpa using (BR.set_ 0 (.int .i64 2)).set_ 1 (.slice none 0 0)
    have hlo : w.heap.size < w0.heap.size := by omega
    have PF : Hid (PO w0.heap.size wf (.slice none 0 0) [] [] []) := by show PO _ _ _ _ _ _; rw [HWF.out]; exact (hPO.far (p := ⟨w.heap.size, 0, none⟩) hlo _).far (p := ⟨w.heap.size, 1, none⟩) hlo _
    have TF : Hid (Below w.heap.size w wf) := by show Below _ _ _; rw [HWF.out]; exact (T0.setCell (p := ⟨w.heap.size, 0, none⟩) (Nat.le_refl _) _).setCell (p := ⟨w.heap.size, 1, none⟩) (Nat.le_refl _) _
    clear hPO T0 BR  
    go_wp2_with fail
    rw [← HWF.out]
    (try simp only [Exit.inBlock, Exit.then])
    refine bodyPost_ret (v := .agg #[.int .i64 2, .slice none 0 0]) (results_cell_row rfl _ _ w.heap.size 27 #[.int .i64 2, .slice none 0 0] (0, 0) _ (by simp) BLF.out Try.underlying27 rfl (by kernel_rfl)) rfl ?_
    exact ⟨(2, []), ⟨[.int .i64 2, .slice none 0 0], _, rfl, PF.out.algK ⟨by omega, by omega⟩, PF.out.2.2.mono (by omega) (Nat.le_refl _), TF.out⟩, small_iff.1 (by decide +kernel)⟩
end Go.Proofs.Ytkmgbdljiajlaaa
namespace Go.Proofs.Ytkmgbdljiajlaaa
open Go.RowKit

section
variable {B : Nat}
/-- A cursor in block g: its code stands in another block, it has gone on by t bytes at most. -/
def CurB (B : Nat) (w : World) (g t : Nat) : Prop := ∃ (A : Option Addr) (n c : Nat) (a : Nat) (s : Int), Blk w g 64 #[.slice A n c, .int .i64 a, .int .u64 s] ∧ n ≤ 65536 ∧ a ≤ t ∧ 0 ≤ s ∧ s < 18446744073709551616 ∧
  (0 < n → ∃ b o, A = some ⟨b, o, none⟩ ∧ b ≠ g ∧ b < B ∧ ∀ i, i < n → ∃ x : Nat, x < 256 ∧ w.cell? ⟨b, o + i, none⟩ = some (.int .u8 x))
theorem grown_setB {w w' : World} {g : Nat} (h : w.grownBy w' (some g)) {p : Addr} (hp : p.block = g) (v : Value) : w.grownBy (w'.setCell p v) (some g) :=
  ⟨h.os, h.tape, h.output, by simpa using h.size, fun k hk hne => (Below.heap_setCell w' p v k (by intro he; rw [he, hp] at hne; exact hne rfl)).trans (h.block k hk hne)⟩
theorem grown_reflB (w : World) (r : Option Nat) : w.grownBy w r := ⟨rfl, rfl, rfl, Nat.le_refl _, fun _ _ _ => rfl⟩
theorem grown_transB {w w1 w2 : World} {r : Option Nat} (h : w.grownBy w1 r) (k : w1.grownBy w2 r) : w.grownBy w2 r :=
  ⟨k.os.trans h.os, k.tape.trans h.tape, k.output.trans h.output, Nat.le_trans h.size k.size, fun b hb hne => (k.block b (Nat.lt_of_lt_of_le hb h.size) hne).trans (h.block b hb hne)⟩
theorem CurB.mono {w : World} {g t t' : Nat} (h : CurB B w g t) (ht : t ≤ t') : CurB B w g t' := by
  obtain ⟨A, n, c, a, s, h1, h2, h3, h4⟩ := h
  exact ⟨A, n, c, a, s, h1, h2, by omega, h4⟩
theorem CurB.next_ {w w' : World} {g t : Nat} (h : CurB B w g t) (hb : Below w.heap.size w w') : CurB B w' g t := by
  obtain ⟨A, n, c, a, s, h1, h2, h3, h4, h5, h6⟩ := h
  refine ⟨A, n, c, a, s, h1.next hb, h2, h3, h4, h5, fun hn => ?_⟩
  obtain ⟨b, o, e, hne, hbB, hc⟩ := h6 hn
  exact ⟨b, o, e, hne, hbB, fun i hi => by
    obtain ⟨x, hx, hcx⟩ := hc i hi
    exact ⟨x, hx, (hb.cell (cell_lt hcx)).trans hcx⟩⟩

theorem u64_rangeB (x : Int) : 0 ≤ IntKind.u64.wrap x ∧ IntKind.u64.wrap x < 18446744073709551616 := by
  unfold IntKind.wrap
  simp [IntKind.signed, IntKind.bits]
  omega
theorem low_byteB (U : Int) (h0 : 0 ≤ U) (h1 : U < 18446744073709551616) : ∃ y : Nat, y < 256 ∧ wrap64 (bits BinOp.and IntKind.u64 (U / 1099511627776) 255) = y := by
  refine ⟨(U / 1099511627776).toNat &&& 255, Nat.lt_succ_of_le (Nat.and_le_right), ?_⟩
  rw [u64_and _ _ (by omega) (by omega) (by decide) (by decide)]
  have := @Nat.and_le_right (U / 1099511627776).toNat 255
  show wrap64 (((U / 1099511627776).toNat &&& 255 : Nat) : Int) = _
  unfold wrap64
  omega
def NextB (B : Nat) (w : World) (g t : Nat) (e : Ending) (w' : World) : Prop := ∃ x : Nat, x < 256 ∧ e = .returned (.int .i64 x) ∧ CurB B w' g t ∧ w.grownBy w' (some g)

set_option maxRecDepth 20000 in
set_option maxHeartbeats 4000000 in
theorem cnextB_any (g t : Nat) (w : World) (h : CurB B w g t) (ht : t ≤ 1000000000) :
    Calls Try.prog 95 #[.pointer (some ⟨g, 0, none⟩)] w (NextB B w g (t + 1)) := by
  obtain ⟨A, n, c, a, s, BX, hn, ha, hs0, hs1, hcode⟩ := h
  have c0 := BX.cell 0
  have c1 := BX.cell 1
  have c2 := BX.cell 2
  have f1 := BX.frozen 1
  have f2 := BX.frozen 2
  simp at c0 c1 c2
  by_cases hlt : a < n
  · obtain ⟨b, o, rfl, hbg, hbB, hc⟩ := hcode (by omega)
    obtain ⟨x, hx, hcx⟩ := hc a hlt
    have ha0 : (0 : Int) ≤ (a : Int) := by omega
    have ha1 : (a : Int) < (n : Int) := by omega
    have ha2 : (a : Int) ≤ 1000000000 := by omega
    have ha3 : (a : Int) + 1 ≤ (n : Int) := by omega
    have hwx : IntKind.i64.wrap (x : Int) = x := by unfold IntKind.wrap; simp [IntKind.signed, IntKind.bits]; omega
    go_enter Try.func95, Try.ntmps95
    go_wp2_with fail
    go_still (by kernel_rfl)
    have BX1 : Blk w.drew g 64 #[.slice (some ⟨b, o, none⟩) n c, .int .i64 a, .int .u64 s] := BX.drew
    have hcx1 : w.drew.cell? ⟨b, o + a, none⟩ = some (.int .u8 x) := hcx
    have G1 : w.grownBy w.drew (some g) := ⟨rfl, rfl, rfl, Nat.le_refl _, fun _ _ _ => rfl⟩
    show Exit.then _ _ Exit.normal _ w.drew
    generalize w.drew = w1 at BX1 hcx1 G1 ⊢
    clear c0 c1 c2 f1 f2
    have c0 := BX1.cell 0
    have c1 := BX1.cell 1
    have c2 := BX1.cell 2
    have f1 := BX1.frozen 1
    have f2 := BX1.frozen 2
    simp at c0 c1 c2
    go_wp2_with fail
    go_still (by kernel_rfl)
    have BX2 : Blk w1.drew g 64 #[.slice (some ⟨b, o, none⟩) n c, .int .i64 a, .int .u64 s] := BX1.drew
    have G2 : w.grownBy w1.drew (some g) := grown_transB G1 ⟨rfl, rfl, rfl, Nat.le_refl _, fun _ _ _ => rfl⟩
    show Exit.then _ _ Exit.normal _ w1.drew
    generalize w1.drew = w2 at BX2 G2 ⊢
    clear c0 c1 c2 f1 f2
    have c0 := BX2.cell 0
    have c1 := BX2.cell 1
    have c2 := BX2.cell 2
    have f1 := BX2.frozen 1
    have f2 := BX2.frozen 2
    simp at c0 c1 c2
    go_wp2_with fail
    obtain ⟨U, HU⟩ : ∃ U, Hid (IntKind.u64.wrap (IntKind.u64.wrap (IntKind.u64.wrap (s * 6364136223846793005) + ↑x) + 550289) = U) := ⟨_, rfl⟩
    have hU : 0 ≤ U ∧ U < 18446744073709551616 := by rw [← HU.out]; exact u64_rangeB _
    rw [HU.out]
    have BX3 : Blk ((w2.setCell ⟨g, 1, none⟩ (.int .i64 ((a : Int) + 1))).setCell ⟨g, 2, none⟩ (.int .u64 U)) g 64 #[.slice (some ⟨b, o, none⟩) n c, .int .i64 ((a + 1 : Nat) : Int), .int .u64 U] := by
      have h2 := (BX2.set_ 1 (.int .i64 ((a : Int) + 1))).set_ 2 (.int .u64 U)
      simpa using h2
    have G3 := grown_setB (grown_setB G2 (p := ⟨g, 1, none⟩) rfl (.int .i64 ((a : Int) + 1))) (p := ⟨g, 2, none⟩) rfl (.int .u64 U)
    generalize (w2.setCell ⟨g, 1, none⟩ (.int .i64 ((a : Int) + 1))).setCell ⟨g, 2, none⟩ (.int .u64 U) = w3 at BX3 G3 ⊢
    clear c0 c1 c2 f1 f2
    have c0 := BX3.cell 0
    have c1 := BX3.cell 1
    simp at c0 c1
    go_still (by kernel_rfl)
    have BX4 : Blk w3.drew g 64 #[.slice (some ⟨b, o, none⟩) n c, .int .i64 ((a + 1 : Nat) : Int), .int .u64 U] := BX3.drew
    have G4 : w.grownBy w3.drew (some g) := grown_transB G3 ⟨rfl, rfl, rfl, Nat.le_refl _, fun _ _ _ => rfl⟩
    show Exit.then _ _ Exit.normal _ w3.drew
    generalize w3.drew = w4 at BX4 G4 ⊢
    go_wp2_with fail
    go_ret
    exact ⟨x, hx, rfl, ⟨_, n, c, a + 1, U, BX4, hn, by omega, hU.1, hU.2, fun _ => ⟨b, o, rfl, hbg, hbB, fun i hi => by
      obtain ⟨y, hy, hcy⟩ := hc i hi
      exact ⟨y, hy, (World.cell?_of_block (G4.block b (cell_lt hcy) (by simpa using hbg))).trans hcy⟩⟩⟩, G4⟩
  · have ha0 : (0 : Int) ≤ (a : Int) := by omega
    have ha1 : ¬ (a : Int) < (n : Int) := by omega
    have ha2 : (a : Int) ≤ 1000000000 := by omega
    have ha3 : ¬ (a : Int) + 1 ≤ (n : Int) := by omega
    go_enter Try.func95, Try.ntmps95
    go_wp2_with fail
    go_still (by kernel_rfl)
    have BX2 : Blk w.drew g 64 #[.slice A n c, .int .i64 a, .int .u64 s] := BX.drew
    have G2 : w.grownBy w.drew (some g) := ⟨rfl, rfl, rfl, Nat.le_refl _, fun _ _ _ => rfl⟩
    show Exit.then _ _ Exit.normal _ w.drew
    generalize w.drew = w2 at BX2 G2 ⊢
    clear c0 c1 c2 f1 f2
    have c0 := BX2.cell 0
    have c1 := BX2.cell 1
    have c2 := BX2.cell 2
    have f1 := BX2.frozen 1
    have f2 := BX2.frozen 2
    simp at c0 c1 c2
    go_wp2_with fail
    obtain ⟨U, HU⟩ : ∃ U, Hid (IntKind.u64.wrap (IntKind.u64.wrap (IntKind.u64.wrap (s * 6364136223846793005)) + 550289) = U) := ⟨_, rfl⟩
    have hU : 0 ≤ U ∧ U < 18446744073709551616 := by rw [← HU.out]; exact u64_rangeB _
    rw [HU.out]
    have BX3 : Blk ((w2.setCell ⟨g, 1, none⟩ (.int .i64 ((a : Int) + 1))).setCell ⟨g, 2, none⟩ (.int .u64 U)) g 64 #[.slice A n c, .int .i64 ((a + 1 : Nat) : Int), .int .u64 U] := by
      have h2 := (BX2.set_ 1 (.int .i64 ((a : Int) + 1))).set_ 2 (.int .u64 U)
      simpa using h2
    have G3 := grown_setB (grown_setB G2 (p := ⟨g, 1, none⟩) rfl (.int .i64 ((a : Int) + 1))) (p := ⟨g, 2, none⟩) rfl (.int .u64 U)
    generalize (w2.setCell ⟨g, 1, none⟩ (.int .i64 ((a : Int) + 1))).setCell ⟨g, 2, none⟩ (.int .u64 U) = w3 at BX3 G3 ⊢
    clear c0 c1 c2 f1 f2
    have c0 := BX3.cell 0
    have c1 := BX3.cell 1
    simp at c0 c1
    go_still (by kernel_rfl)
    have BX4 : Blk w3.drew g 64 #[.slice A n c, .int .i64 ((a + 1 : Nat) : Int), .int .u64 U] := BX3.drew
    have G4 : w.grownBy w3.drew (some g) := grown_transB G3 ⟨rfl, rfl, rfl, Nat.le_refl _, fun _ _ _ => rfl⟩
    show Exit.then _ _ Exit.normal _ w3.drew
    generalize w3.drew = w4 at BX4 G4 ⊢
    have c2 := BX4.cell 2
    simp at c2
    go_wp2_with fail
    obtain ⟨y, hy, hye⟩ := low_byteB U hU.1 hU.2
    go_ret
    refine ⟨y, hy, ret_int hye, ⟨_, n, c, a + 1, U, BX4, hn, by omega, hU.1, hU.2, fun hn => ?_⟩, G4⟩
    obtain ⟨b, o, e, hbg, hbB, hc⟩ := hcode hn
    exact ⟨b, o, e, hbg, hbB, fun i hi => by
      obtain ⟨y, hy, hcy⟩ := hc i hi
      exact ⟨y, hy, (World.cell?_of_block (G4.block b (cell_lt hcy) (by simpa using hbg))).trans hcy⟩⟩
def PickB (B : Nat) (w : World) (g t : Nat) (n : Int) (e : Ending) (w' : World) : Prop := ∃ x : Nat, ((x : Int) < n ∨ x = 0) ∧ e = .returned (.int .i64 x) ∧ CurB B w' g t ∧ w.grownBy w' (some g)

theorem mod_natB {x n : Int} (hn : 0 < n) : ∃ z : Nat, (z : Int) < n ∧ x % n = z := by
  have h1 := Int.emod_nonneg x (show n ≠ 0 by omega)
  have h2 := Int.emod_lt_of_pos x hn
  exact ⟨(x % n).toNat, by omega, by omega⟩

set_option maxRecDepth 20000 in
set_option maxHeartbeats 4000000 in
theorem pickB_any (g t : Nat) (n : Int) (w : World) (h : CurB B w g t) (ht : t ≤ 999999998) (hn : n ≤ 9223372036854775807) :
    Calls Try.prog 57 #[.pointer (some ⟨g, 0, none⟩), .int .i64 n] w (PickB B w g (t + 2) n) := by
  go_enter Try.func57, Try.ntmps57
  by_cases h1 : n ≤ 1
  · go_wp2_with fail
    go_ret
    exact ⟨0, .inr rfl, rfl, h.mono (by omega), grown_reflB _ _⟩
  · go_wp2_with fail
    refine (cnextB_any g t _ h (by omega)).mono ?_
    rintro e w1 ⟨x, hx, rfl, hc1, hg1⟩
    have hx0 : (0 : Int) ≤ (x : Int) := by omega
    have hx1 : (x : Int) < 256 := by omega
    by_cases h2 : 200 < n
    · go_wp2_with fail
      refine (cnextB_any g (t + 1) _ hc1 (by omega)).mono ?_
      rintro e w2 ⟨y, hy, rfl, hc2, hg2⟩
      have hy0 : (0 : Int) ≤ (y : Int) := by omega
      have hy1 : (y : Int) < 256 := by omega
      have hG := grown_transB hg1 hg2
      go_wp2_with fail
      obtain ⟨z, hz, hze⟩ := mod_natB (x := (x : Int) * 256 + y) (n := n) (by omega)
      go_ret
      exact ⟨z, .inl hz, ret_int hze, hc2, hG⟩
    · go_wp2_with fail
      obtain ⟨z, hz, hze⟩ := mod_natB (x := (x : Int)) (n := n) (by omega)
      go_ret
      exact ⟨z, .inl hz, ret_int hze, hc1.mono (by omega), hg1⟩

set_option maxHeartbeats 1000000 in
theorem oneB_any (g t : Nat) (n : Int) (w : World) (h : CurB B w g t) (ht : t ≤ 999999998) (hn : n ≤ 9223372036854775807) :
    Calls Try.prog 36 #[.pointer (some ⟨g, 0, none⟩), .int .i64 n] w (fun e w' => ∃ b, e = .returned (.bool b) ∧ CurB B w' g (t + 2) ∧ w.grownBy w' (some g)) := by
  go_enter Try.func36, Try.ntmps36
  go_wp2_with fail
  refine (pickB_any g t n _ h ht hn).mono ?_
  rintro e w1 ⟨x, -, rfl, hc1, hg1⟩
  go_wp2_with fail
  go_ret
  exact ⟨_, rfl, hc1, hg1⟩

/-- A list of numbers that may be picked from. -/
def NumsP (P : Int → Prop) (w : World) (g b n : Nat) : Prop := b ≠ g ∧ 0 < n ∧ n ≤ 1000 ∧ ∀ i, i < n → ∃ x : Int, P x ∧ w.cell? ⟨b, i, none⟩ = some (.int .i64 x)
set_option maxHeartbeats 1000000 in
theorem amongB_any (g t b n c : Nat) (w : World) (h : CurB B w g t) (ht : t ≤ 999999998) (P : Int → Prop) (hl : NumsP P w g b n) :
    Calls Try.prog 81 #[.pointer (some ⟨g, 0, none⟩), .slice (some ⟨b, 0, none⟩) n c] w (fun e w' => ∃ x : Int, P x ∧ e = .returned (.int .i64 x) ∧ CurB B w' g (t + 2) ∧ w.grownBy w' (some g)) := by
  obtain ⟨hbg, hn0, hn1, hc⟩ := hl
  go_enter Try.func81, Try.ntmps81
  go_wp2_with fail
  refine (pickB_any g t n _ h ht (by omega)).mono ?_
  rintro e w1 ⟨x, hx, rfl, hc1, hg1⟩
  have hxn : x < n := by omega
  have hx0 : (0 : Int) ≤ (x : Int) := by omega
  have hx1 : (x : Int) < (n : Int) := by omega
  obtain ⟨y, hy0, hcs⟩ := hc x hxn
  have hcs1 : w1.cell? ⟨b, x, none⟩ = some (.int .i64 y) := (World.cell?_of_block (hg1.block b (cell_lt hcs) (by simpa using hbg))).trans hcs
  clear hx
  go_wp2_with fail
  go_ret
  exact ⟨y, hy0, rfl, hc1, hg1⟩
theorem CurB.lt {w : World} {g t : Nat} (h : CurB B w g t) : g < w.heap.size := by
  obtain ⟨A, n, c, a, s, h1, -⟩ := h
  exact h1.lt
theorem CurB.grown {w w' : World} {g t : Nat} {row : Option Nat} (h : CurB B w g t) (hg : w.grownBy w' row) (hr : ∀ r, row = some r → B ≤ r ∧ r ≠ g) : CurB B w' g t := by
  obtain ⟨A, n, c, a, s, h1, h2, h3, h4, h5, h6⟩ := h
  refine ⟨A, n, c, a, s, h1.grown hg (fun e => (hr g e.symm).2 rfl), h2, h3, h4, h5, fun hn => ?_⟩
  obtain ⟨b, o, e, hne, hbB, hc⟩ := h6 hn
  exact ⟨b, o, e, hne, hbB, fun i hi => by
    obtain ⟨x, hx, hcx⟩ := hc i hi
    exact ⟨x, hx, (World.cell?_of_block (hg.block b (cell_lt hcx) (fun e => by have := (hr b e.symm).1; omega))).trans hcx⟩⟩
def CodeB (w : World) (A : Option Addr) (n : Nat) : Prop := n ≤ 65536 ∧ (0 < n → ∃ b o, A = some ⟨b, o, none⟩ ∧ ∀ i, i < n → ∃ x : Nat, x < 256 ∧ w.cell? ⟨b, o + i, none⟩ = some (.int .u8 x))
theorem CodeB.next {w w' : World} {A : Option Addr} {n : Nat} (h : CodeB w A n) (hb : Below w.heap.size w w') : CodeB w' A n := by
  refine ⟨h.1, fun hn => ?_⟩
  obtain ⟨b, o, e, hc⟩ := h.2 hn
  exact ⟨b, o, e, fun i hi => by
    obtain ⟨x, hx, hcx⟩ := hc i hi
    exact ⟨x, hx, (hb.cell (cell_lt hcx)).trans hcx⟩⟩
theorem CurB.made {w : World} {A : Option Addr} {n c : Nat} (h : CodeB w A n) {k : Nat} (hk : k = w.heap.size) : CurB k (w.alloc (.cells #[.slice A n c, .int .i64 0, .int .u64 0] 64)) k 0 := by
  subst hk
  refine ⟨A, n, c, 0, 0, Blk.new _ _ _, h.1, Nat.zero_le _, by omega, by omega, fun hn => ?_⟩
  obtain ⟨b, o, e, hc⟩ := h.2 hn
  obtain ⟨x0, -, hc0⟩ := hc 0 hn
  have hlt := cell_lt hc0
  exact ⟨b, o, e, Nat.ne_of_lt hlt, hlt, fun i hi => by
    obtain ⟨x, hx, hcx⟩ := hc i hi
    exact ⟨x, hx, ((below_box w _).cell (cell_lt hcx)).trans hcx⟩⟩
end
end Go.Proofs.Ytkmgbdljiajlaaa
namespace Go.Proofs.Ytkmgbdljiajlaaa
open Go.RowKit

abbrev SlT : Type := Option Addr × Nat × Nat
def slV (t : SlT) : Value := .slice t.1 t.2.1 t.2.2
def RSl (_ : World) (v : Value) (t : SlT) : Prop := v = slV t
end Go.Proofs.Ytkmgbdljiajlaaa
namespace Go.Proofs.Ytkmgbdljiajlaaa
open Go.RowKit

/-- Is the list a set of numbers below n? -/
def setB (n : Int) (s : List Int) : Bool := allIn 0 (n - 1) s && risesL s
/-- Is the meet of s with each of some lists among xss? -/
def meetsIn (xss : List (List Int)) (s : List Int) : List (List Int) → Bool
  | [] => true
  | t :: l => if place xss (meetL t s) < 0 then false else meetsIn xss s l
/-- What the loop over the sets says from the k-th on. -/
def sysRest (n : Int) (xss : List (List Int)) : Nat → List (List Int) → Bool
  | _, [] => decide (0 < xss.length) && ((xss.getLast?.getD []).length : Int) == n
  | k, s :: l => setB n s && (k == 0 || decide (cmpT (xss.getD (k - 1) []) s < 0)) && meetsIn xss s (xss.take k) && sysRest n xss (k + 1) l
def sysB (n : Int) (xss : List (List Int)) : Bool := sysRest n xss 0 xss
def SysAt (n : Int) (xss : List (List Int)) (k : Nat) : Prop := sysRest n xss k (xss.drop k) = sysB n xss
theorem SysAt.step {n : Int} {xss : List (List Int)} {k : Nat} {s : List Int} (h : SysAt n xss k) (hd : xss.drop k = s :: xss.drop (k + 1)) (h1 : setB n s = true) (h2 : (k == 0 || decide (cmpT (xss.getD (k - 1) []) s < 0)) = true) (h3 : true = meetsIn xss s (xss.take k)) : SysAt n xss (k + 1) := by
  unfold SysAt at *; rw [← h, hd, sysRest, h1, h2, ← h3]; rfl
theorem SysAt.done {n : Int} {xss : List (List Int)} {k : Nat} {r : Bool} (h : SysAt n xss k) (hd : xss.drop k = []) (hr : sysRest n xss k [] = r) : r = sysB n xss := by
  unfold SysAt at *; rw [← h, hd, hr]
theorem RdL.take {α : Type} {R : World → Value → α → Prop} {w : World} {A : Option Addr} {n : Nat} {xs : List α} (h : RdL R w A n xs) {k : Nat} (hk : k ≤ n) : RdL R w A k (xs.take k) := by
  refine ⟨by rw [List.length_take, h.1]; omega, Nat.le_trans hk h.2.1, fun j x hj => ?_⟩
  rw [List.getElem?_take] at hj
  split at hj
  · exact h.2.2 j x hj
  · cases hj

end Go.Proofs.Ytkmgbdljiajlaaa
namespace Go.Proofs.Ytkmgbdljiajlaaa
open Go.RowKit

/-- A slice value by its parts. -/
theorem choose_list {α : Type} {p : Nat → α → Prop} (n : Nat) (h : ∀ (k : Nat), k < n → ∃ x, p k x) : ∃ l : List α, l.length = n ∧ ∀ (k : Nat) x, l[k]? = some x → p k x := by
  induction n with
  | zero => exact ⟨[], rfl, fun k x hx => by simp at hx⟩
  | succ n ih =>
    obtain ⟨l, hl, hp⟩ := ih fun k hk => h k (by omega)
    obtain ⟨x, hx⟩ := h n (by omega)
    refine ⟨l ++ [x], by simp [hl], fun k y hy => ?_⟩
    rcases Nat.lt_or_ge k n with _ | _
    · rw [List.getElem?_append_left (by omega)] at hy
      exact hp k y hy
    · have hk2 := (List.getElem?_eq_some_iff.1 hy).1
      simp at hk2
      have hkn : k = n := by omega
      subst hkn
      rw [List.getElem?_append_right (by omega), hl, Nat.sub_self] at hy
      simp at hy
      subst hy
      exact hx
/-- The places of the inner slices. -/
theorem RdL.raw {α : Type} {R : World → Value → α → Prop} {w : World} {A : Option Addr} {n : Nat} {xss : List (List α)} (h : RdL (RV R) w A n xss) :
    ∃ ts : List SlT, RdL RSl w A n ts ∧ ∀ (k : Nat) t xs, ts[k]? = some t → xss[k]? = some xs → RdL R w t.1 t.2.1 xs := by
  obtain ⟨ts, hl, hp⟩ := choose_list (p := fun k (t : SlT) => ∃ b o xs, A = some ⟨b, o, none⟩ ∧ w.cell? ⟨b, o + k, none⟩ = some (slV t) ∧ xss[k]? = some xs ∧ RdL R w t.1 t.2.1 xs) n (fun k hk => by
    obtain ⟨b, o, v, xs, e, hc, ⟨B, m, c, rfl, hr⟩, -, hx⟩ := h.at hk
    exact ⟨(B, m, c), b, o, xs, e, hc, hx, hr⟩)
  refine ⟨ts, ⟨hl, h.2.1, fun k t hk => ?_⟩, fun k t xs ht hx => ?_⟩
  · obtain ⟨b, o, xs, e, hc, -, -⟩ := hp k t hk
    exact ⟨b, o, slV t, e, hc, rfl⟩
  · obtain ⟨b, o, ys, -, -, hy, hr⟩ := hp k t ht
    rw [hx] at hy
    injection hy with hy
    rw [hy]
    exact hr
theorem RdL.drop {α : Type} {R : World → Value → α → Prop} {w : World} {b o n : Nat} {xs : List α} (h : RdL R w (some ⟨b, o, none⟩) n xs) (k : Nat) : RdL R w (some ⟨b, o + k, none⟩) (n - k) (xs.drop k) := by
  refine ⟨by rw [List.length_drop, h.1], Nat.le_trans (Nat.sub_le _ _) h.2.1, fun j x hj => ?_⟩
  rw [List.getElem?_drop] at hj
  obtain ⟨b', o', v, e, hc, hr⟩ := h.2.2 (k + j) x hj
  simp only [Option.some.injEq, Addr.mk.injEq, and_true] at e
  obtain ⟨rfl, rfl⟩ := e
  exact ⟨b, o + k, v, rfl, by rw [Nat.add_assoc]; exact hc, hr⟩

theorem lit0 {B : Nat} {e : TypeId} (w : World) (hB : w.heap.size = B) : (w.alloc (.cells #[] e)).ownsRow B e 1 (.slice (some ⟨B, 0, none⟩) 0 0) 0 [] := by
  subst hB
  exact World.ownsRow_lit _ _ _ (Nat.le_refl _) (Nat.zero_le _) rfl
theorem lit1 {B : Nat} {e : TypeId} (w : World) (hB : w.heap.size = B + 1) : (w.alloc (.cells #[] e)).ownsRow B e 1 (.slice (some ⟨B + 1, 0, none⟩) 0 0) 0 [] := by
  rw [← hB]
  exact World.ownsRow_lit _ _ _ (by omega) (Nat.zero_le _) rfl

theorem cell_new {B : Nat} {e : TypeId} {u : Value} (w : World) (hB : w.heap.size = B) : (w.alloc (.cells #[u] e)).cell? ⟨B, 0, none⟩ = some u := by
  subst hB
  exact (Blk.new w e #[u]).cell 0
theorem cell_new2 {B : Nat} {e : TypeId} {u : Value} (w : World) (o : Obj) (hB : w.heap.size = B) : ((w.alloc (.cells #[u] e)).alloc o).cell? ⟨B, 0, none⟩ = some u := by
  subst hB
  exact ((Blk.new w e #[u]).alloc o).cell 0

/-- Does p go ahead of q? Shorter lists first, then by the numbers. -/
def lessT (p q : List Int) : Bool := decide (p.length < q.length) || (decide (p.length = q.length) && lessL p q)
theorem own_form {w : World} {base : Nat} {e : TypeId} {size : Nat} {A : Option Addr} {n c : Nat} {xs : List Value} (h : w.ownsRow base e size (.slice A n c) n xs) (hn : 0 < n) : ∃ g, A = some ⟨g, 0, none⟩ ∧ base ≤ g ∧ n ≤ c := by
  rcases h.2 with ⟨h0, h1⟩ | ⟨g, cap, cur, hv, hb, _, hnc, _⟩
  · omega
  · injection hv with hA _ hc
    exact ⟨g, hA, hb, by omega⟩
theorem sort_cap {w : World} {base : Nat} {e : TypeId} {size : Nat} {A : Option Addr} {n c : Nat} {xs : List Value} (h : w.ownsRow base e size (.slice A n c) n xs) : n ≤ c := by
  rcases h.2 with ⟨h0, h1⟩ | ⟨g, cap, cur, hv, _, _, hnc, _⟩
  · omega
  · injection hv with _ _ hc
    omega
end Go.Proofs.Ytkmgbdljiajlaaa
namespace Go.Proofs.Ytkmgbdljiajlaaa
open Go.RowKit

end Go.Proofs.Ytkmgbdljiajlaaa
namespace Go.Proofs.Ytkmgbdljiajlaaa
open Go.RowKit

/-! ## Lists in a strict order are known by their members -/
theorem ordered_ext {α : Type} {r : α → α → Prop} (hirr : ∀ x, ¬ r x x) (htr : ∀ x y z, r x y → r y z → r x z) : ∀ {l m : List α}, l.Pairwise r → m.Pairwise r → (∀ x, x ∈ l ↔ x ∈ m) → l = m
  | [], [], _, _, _ => rfl
  | [], y :: m, _, _, h => absurd ((h y).2 (List.mem_cons_self ..)) (by simp)
  | x :: l, [], _, _, h => absurd ((h x).1 (List.mem_cons_self ..)) (by simp)
  | x :: l, y :: m, hl, hm, h => by
    have hl' := List.pairwise_cons.1 hl
    have hm' := List.pairwise_cons.1 hm
    have hxy : x = y := by
      rcases List.mem_cons.1 ((h x).1 (List.mem_cons_self ..)) with e | e
      · exact e
      · rcases List.mem_cons.1 ((h y).2 (List.mem_cons_self ..)) with e' | e'
        · exact e'.symm
        · exact absurd (htr _ _ _ (hm'.1 x e) (hl'.1 y e')) (hirr y)
    subst hxy
    rw [ordered_ext hirr htr hl'.2 hm'.2 fun z => by
      constructor
      · intro hz
        rcases List.mem_cons.1 ((h z).1 (List.mem_cons_of_mem _ hz)) with e | e
        · subst e; exact absurd (hl'.1 z hz) (hirr z)
        · exact e
      · intro hz
        rcases List.mem_cons.1 ((h z).2 (List.mem_cons_of_mem _ hz)) with e | e
        · subst e; exact absurd (hm'.1 z hz) (hirr z)
        · exact e]
/-! ## Numbers, members -/
theorem hasI_iff {x : Int} : ∀ {l : List Int}, hasI x l = true ↔ x ∈ l
  | [] => by simp [hasI]
  | y :: l => by
    rw [hasI, Bool.or_eq_true, hasI_iff (l := l), beq_iff_eq, List.mem_cons]
    constructor
    · rintro (h | h)
      · exact .inl h.symm
      · exact .inr h
    · rintro (h | h)
      · exact .inl h.symm
      · exact .inr h
theorem mem_meetL {ys : List Int} {x : Int} : ∀ {xs : List Int}, x ∈ meetL ys xs ↔ x ∈ xs ∧ x ∈ ys
  | [] => by simp [meetL]
  | y :: l => by
    rw [meetL]
    split
    · rename_i h
      rw [hasI_iff] at h
      simp only [List.mem_cons, mem_meetL (xs := l)]
      constructor
      · rintro (rfl | h')
        · exact ⟨.inl rfl, h⟩
        · exact ⟨.inr h'.1, h'.2⟩
      · rintro ⟨rfl | h', h2⟩
        · exact .inl rfl
        · exact .inr ⟨h', h2⟩
    · rename_i h
      rw [hasI_iff] at h
      simp only [List.mem_cons, mem_meetL (xs := l)]
      constructor
      · rintro ⟨h1, h2⟩; exact ⟨.inr h1, h2⟩
      · rintro ⟨rfl | h', h2⟩
        · exact absurd h2 h
        · exact ⟨h', h2⟩
theorem meetL_sub (ys : List Int) : ∀ xs, (meetL ys xs).Sublist xs
  | [] => List.Sublist.refl _
  | x :: l => by
    rw [meetL]
    split
    · exact (meetL_sub ys l).cons_cons x
    · exact (meetL_sub ys l).cons x
theorem allIn_iff {a b : Int} : ∀ {l : List Int}, allIn a b l = true ↔ ∀ x ∈ l, a ≤ x ∧ x ≤ b
  | [] => by simp [allIn]
  | y :: l => by simp [allIn, allIn_iff (l := l), inB]
/-- A set of numbers from 0 on, below n. -/
def IsSet (n : Nat) (p : List Int) : Prop := p.Pairwise (· < ·) ∧ ∀ x ∈ p, 0 ≤ x ∧ x < (n : Int)
theorem IsSet.meet {n : Nat} {p : List Int} (h : IsSet n p) (q : List Int) : IsSet n (meetL q p) :=
  ⟨h.1.sublist (meetL_sub q p), fun x hx => h.2 x (mem_meetL.1 hx).1⟩
/-! ## The order of the sets -/
theorem lessL_irr : ∀ l : List Int, lessL l l = false
  | [] => rfl
  | x :: l => by simp [lessL, lessL_irr l]
theorem lessL_trans : ∀ {p q r : List Int}, p.length = q.length → q.length = r.length → lessL p q = true → lessL q r = true → lessL p r = true
  | [], _, _, _, _, h, _ => by simp [lessL] at h
  | x :: p, [], _, h, _, _, _ => by simp at h
  | x :: p, y :: q, [], _, h, _, _ => by simp at h
  | x :: p, y :: q, z :: r, h1, h2, h3, h4 => by
    simp only [List.length_cons, Nat.add_right_cancel_iff] at h1 h2
    simp only [lessL] at h3 h4 ⊢
    by_cases e1 : x = y
    · subst e1
      simp only [beq_self_eq_true, if_true] at h3
      by_cases e2 : x = z
      · subst e2
        simp only [beq_self_eq_true, if_true] at h4 ⊢
        exact lessL_trans h1 h2 h3 h4
      · have e2' : (x == z) = false := beq_eq_false_iff_ne.2 e2
        rw [e2'] at h4 ⊢
        exact h4
    · have e1' : (x == y) = false := beq_eq_false_iff_ne.2 e1
      rw [e1'] at h3
      simp at h3
      by_cases e2 : y = z
      · subst e2
        rw [e1']
        simp [h3]
      · have e2' : (y == z) = false := beq_eq_false_iff_ne.2 e2
        rw [e2'] at h4
        simp at h4
        have e3 : (x == z) = false := beq_eq_false_iff_ne.2 (by omega)
        rw [e3]
        simp; omega
theorem lessT_iff {p q : List Int} : lessT p q = true ↔ p.length < q.length ∨ (p.length = q.length ∧ lessL p q = true) := by
  unfold lessT
  rw [Bool.or_eq_true, Bool.and_eq_true, decide_eq_true_eq, decide_eq_true_eq]
theorem lessT_irr (p : List Int) : ¬ lessT p p = true := by
  rw [lessT_iff, lessL_irr]
  simp
theorem lessT_trans (p q r : List Int) (h1 : lessT p q = true) (h2 : lessT q r = true) : lessT p r = true := by
  rw [lessT_iff] at *
  rcases h1 with h1 | ⟨h1, h1'⟩ <;> rcases h2 with h2 | ⟨h2, h2'⟩
  · left; omega
  · left; omega
  · left; omega
  · exact .inr ⟨by omega, lessL_trans h1 h2 h1' h2'⟩
/-! ## Places, insertions -/
def Srt (xss : List (List Int)) : Prop := xss.Pairwise fun p q => lessT p q = true
theorem Srt.ext {xss yss : List (List Int)} (h1 : Srt xss) (h2 : Srt yss) (h : ∀ p, p ∈ xss ↔ p ∈ yss) : xss = yss :=
  ordered_ext (r := fun p q => lessT p q = true) lessT_irr lessT_trans h1 h2 h
/-! ## How many sets there are -/
/-! ## Closure systems -/
/-! ## What the program tests is just that -/
end Go.Proofs.Ytkmgbdljiajlaaa
