import Derived.Test.YtbkgbckbbnflpaaGreatQ5
import Derived.StillTactics
import Derived.Laws.BitsAllLaws
import Derived.Deep.OwnRows
set_option linter.unusedVariables false
set_option linter.unusedSimpArgs false
set_option maxRecDepth 100000
set_option maxHeartbeats 32000000
namespace Go.Proofs.YtbkgbckbbnflpaaGreat
open Go.RowKit
def OwnL (w : World) (xs : List OpM) (css : List (List Value)) (bls : List (List Nat)) : Prop := css.length = xs.length ∧ bls.length = xs.length ∧ ∀ (k : Nat) c x bk, css[k]? = some c → xs[k]? = some x → bls[k]? = some bk → shOp.own w c x bk
theorem OwnL.nil (w : World) : OwnL w [] [] [] := ⟨rfl, rfl, fun k c x bk h => by simp at h⟩
theorem OwnL.cons {w : World} {c : List Value} {x : OpM} {bk : List Nat} {xs : List OpM} {css : List (List Value)} {bls : List (List Nat)} (h : shOp.own w c x bk) (hs : OwnL w xs css bls) : OwnL w (x :: xs) (c :: css) (bk :: bls) := by
  obtain ⟨h1, h2, h3⟩ := hs
  refine ⟨by simp [h1], by simp [h2], fun k c' x' bk' e1 e2 e3 => ?_⟩
  cases k with
  | zero =>
    simp at e1 e2 e3
    subst e1 e2 e3
    exact h
  | succ k =>
    simp at e1 e2 e3
    exact h3 k c' x' bk' e1 e2 e3
theorem PO.make {lo n : Nat} {w : World} {xs : List OpM} {css : List (List Value)} {bls : List (List Nat)} {cells : Array Value} (hp : OwnL w xs css bls) (hiv : Iv lo w.heap.size bls.flatten) (hlo : lo ≤ w.heap.size) (hn : xs.length = n) (hm : n ≤ 1000) (hc : cells.toList = css.flatten) :
    PO lo (w.alloc (.cells cells 64)) (.slice (some ⟨w.heap.size, 0, none⟩) n n) xs css bls := by
  obtain ⟨h1, h2, h3⟩ := hp
  have hb := below_box w (.cells cells 64)
  have hall : ∀ c ∈ css, c.length = 2 := fun c hc' => by
    obtain ⟨k, hk⟩ := List.getElem?_of_mem hc'
    have hkl := (List.getElem?_eq_some_iff.1 hk).1
    have := h3 k c _ _ hk (List.getElem?_eq_getElem (by omega)) (List.getElem?_eq_getElem (by omega))
    exact shOp.rd_len (shOp.ord this)
  have hsz : cells.size = n * 2 := by
    have := congrArg List.length hc
    rw [flat_len hall, Array.length_toList] at this
    omega
  have hrow := World.ownsRow_lit (base := lo) (e := 64) (size := 2) w cells n hlo (by unfold maxLen; omega) hsz
  rw [hc] at hrow
  have hP : Parts shOp 64 (w.alloc (.cells cells 64)) (.slice (some ⟨w.heap.size, 0, none⟩) n n) xs css bls := by
    refine ⟨?_, h1, h2, fun k c x bk e1 e2 e3 => Sh.onext (h3 k c x bk e1 e2 e3) hb⟩
    rw [hn]
    exact own_mono hrow (Nat.zero_le _)
  refine ⟨hP, by rw [hn]; exact hrow, ?_, fun b hb' => ?_⟩
  · refine List.nodup_append.2 ⟨obl_nd _, hiv.1, fun a ha b hb' e => ?_⟩
    simp [obl, Value.ownBlock] at ha
    subst ha e
    have := (hiv.2 _ hb').2
    omega
  · have hz : (w.alloc (.cells cells 64)).heap.size = w.heap.size + 1 := by simp
    rcases List.mem_append.1 hb' with hb' | hb'
    · simp [obl, Value.ownBlock] at hb'
      omega
    · have := hiv.2 b hb'
      omega
theorem PO.algK {lo : Nat} {w : World} {v : Value} {a : Int} {xs : List OpM} {css : List (List Value)} {bls : List (List Nat)} (h : PO lo w v xs css bls) (ha : InR a) : shAlgebra.own w [.int .i64 a, v] (a, xs) (obl v ++ bls.flatten) :=
  ⟨[.int .i64 a], [v], [], obl v ++ bls.flatten, rfl, rfl, ⟨_, rfl, ⟨rfl, ha.1, ha.2⟩, rfl⟩, h.own⟩
/-- A literal table. -/
theorem own_tab {w : World} {a : Int} {L : List Int} {n : Nat} (ha : InR a) (hn : L.length = n) (hm : n ≤ 1000) (hL : ∀ x ∈ L, InR x) : shOp.own (w.alloc (.cells (ints L).toArray 3)) [.int .i64 a, .slice (some ⟨w.heap.size, 0, none⟩) n n] (a, L) [w.heap.size] := by
  have hrow := World.ownsRow_lit (base := 0) (e := 3) (size := 1) w (ints L).toArray n (Nat.zero_le _) (by unfold maxLen; omega) (by simp [ints, hn])
  refine ⟨[.int .i64 a], [.slice (some ⟨w.heap.size, 0, none⟩) n n], [], [w.heap.size], rfl, rfl, ⟨_, rfl, ⟨rfl, ha.1, ha.2⟩, rfl⟩, ⟨_, rfl, ?_, hL, by simp [obl, Value.ownBlock]⟩⟩
  show World.ownsRow _ 0 3 1 _ L.length _
  rw [hn]
  exact hrow
theorem own_opE {w w' : World} {a : Int} {L : List Int} {A : Option Addr} {n c : Nat} (ha : InR a) (hn : L.length = n) (h : w'.ownsRow w.heap.size 3 1 (.slice A n c) n (ints L)) (hL : ∀ x ∈ L, InR x) : shOp.own w' [.int .i64 a, .slice A n c] (a, L) (obl (.slice A n c)) ∧ Iv w.heap.size w'.heap.size (obl (.slice A n c)) := by
  refine ⟨⟨[.int .i64 a], [.slice A n c], [], _, rfl, rfl, ⟨_, rfl, ⟨rfl, ha.1, ha.2⟩, rfl⟩, ⟨_, rfl, ?_, hL, rfl⟩⟩, obl_nd _, fun b hb => h.lt b (mem_obl.1 hb)⟩
  show World.ownsRow _ 0 3 1 _ L.length _
  rw [hn]
  exact own_mono h (Nat.zero_le _)
def binV (c : UInt8) : Int := IntKind.u8.wrap ((c.toNat : Int) - 48)
def binL (s : ByteArray) : List Int := (bs s).map binV
theorem binV_in (c : UInt8) : 0 ≤ binV c ∧ binV c ≤ 255 := by
  unfold binV
  rw [IntKind.wrap_u8]
  omega
theorem binL_next {s : ByteArray} {k : Nat} (h : k < s.size) : ints ((binL s).take k) ++ [.int .i64 (binV s[k])] = ints ((binL s).take (k + 1)) := by
  have hl : k < (bs s).length := h
  have e : (binL s)[k]? = some (binV s[k]) := by
    unfold binL
    rw [List.getElem?_map, List.getElem?_eq_getElem hl]
    rfl
  rw [List.take_add_one, e]
  simp [ints]
  rfl
theorem l2Binary_any (s : ByteArray) (w : World) (hs : s.size ≤ 1000) : Calls Tryz.prog 72 #[.string s] w (ToE shOp w (2, binL s)) := by
  obtain ⟨w0, hw0, T0, hsz0, BR, BG⟩ := boxes2 w #[.int .i64 0, .slice none 0 0] #[.int .i64 2, .slice none 0 0] 64 64
  have HLEN : Hid ((binL s).length = s.size) := by show _ = _; unfold binL; rw [List.length_map]; rfl
  have hown0 : w0.ownsRow w0.heap.size 3 1 (.slice none 0 0) 0 (ints ((binL s).take 0)) := ⟨rfl, .inl ⟨rfl, rfl⟩⟩
  have HW0 := Lib.hid hw0
  have hle0 : w.heap.size + 1 < w0.heap.size := by omega
  clear hw0 hsz0
  go_enter Tryz.func72, Tryz.ntmps72
  go_upto_region 2 with fail
  rw [← HW0.out]
  go_wp2_with fail
  go_loopw [4] (fun i wr => ∃ (k : Nat) (A : Option Addr) (c : Nat), k ≤ s.size ∧ i = .int .i64 k ∧ Blk wr (w.heap.size + 1) 64 #[.int .i64 2, .slice A k c] ∧ wr.ownsRow w0.heap.size 3 1 (.slice A k c) k (ints ((binL s).take k)) ∧ Blk wr w.heap.size 64 #[.int .i64 0, .slice none 0 0] ∧ Below w.heap.size w wr ∧ w0.heap.size ≤ wr.heap.size) (fun i _ => s.size - (intOf i).toNat)
  case atStart => exact ⟨0, none, 0, Nat.zero_le _, rfl, BG, hown0, BR, T0, Nat.le_refl _⟩
  case round =>
    clear BG hown0 BR T0
    obtain ⟨k, A, c, hk, rfl, BG, hown, BR, hTr, hzr⟩ := hrel
    by_cases hlt : k < s.size
    · have hk0 : (0 : Int) ≤ (k : Int) := by omega
      have hk1 : (k : Int) < (s.size : Int) := by omega
      have cG1 := BG.cell 1
      simp at cG1
      have hown1 := hown
      have hzz := hzr
      have cR0 := BR.cell 0
      simp at cR0
      have hown2' : ints ((binL s).take k) ++ [.int .i64 (IntKind.i64.wrap (IntKind.u8.wrap ((s[k].toNat : Int) - 48)))] = ints ((binL s).take (k + 1)) := by
        have := binV_in s[k]
        rw [show IntKind.i64.wrap (IntKind.u8.wrap ((s[k].toNat : Int) - 48)) = binV s[k] by show IntKind.i64.wrap (binV s[k]) = _; rw [IntKind.wrap_i64]; omega]
        exact binL_next hlt
      have HNX := Lib.hid hown2'
      clear hown2'
      go_upto_region 5 with fail
      refine wp_region_held_drew (S := fun w' => w'.cell? ⟨w.heap.size, 0, none⟩ = some (.int .i64 0)) (by kernel_rfl) cR0 (fun hHeld0 => ?_)
      obtain ⟨wt1, Hwt1⟩ : ∃ x, Hid (x = World.drew wr) := ⟨_, rfl⟩
      have hbwt1 : Below wr.heap.size wr wt1 := by rw [Hwt1.out]; exact (Below.refl _ _).drew
      rw [← Hwt1.out] at hHeld0 ⊢
      have ywt1 := hbwt1.size
      replace BG := BG.next hbwt1
      replace BR := BR.next hbwt1
      replace hown1 := own_next hown1 hbwt1
      replace hTr := hTr.trans (hbwt1.mono hTr.size)
      replace cG1 := keepc hbwt1 cG1
      replace cR0 := keepc hbwt1 cR0
      refine wpAnyH_take (i := 0) (v := .pointer (some ⟨(w.heap.size + 1), 1, none⟩)) rfl (by kernel_rfl) (by kernel_rfl) (by kernel_rfl) (fun _ _ _ h => h) (Or.inl ⟨by kernel_rfl, fun _ _ => by go_simp⟩) (by assumption) ?_
      (try simp only [Act.put, List.getElem_toArray, List.getElem_cons_zero, List.getElem_cons_succ, List.setIfInBounds_toArray, List.set_cons_zero, List.set_cons_succ])
      refine wpAnyH_take (i := 2) (v := .string s) rfl (by kernel_rfl) (by kernel_rfl) (by kernel_rfl) (fun _ _ _ h => h) (Or.inl ⟨by kernel_rfl, fun _ _ => by go_simp⟩) (by assumption) ?_
      (try simp only [Act.put, List.getElem_toArray, List.getElem_cons_zero, List.getElem_cons_succ, List.setIfInBounds_toArray, List.set_cons_zero, List.set_cons_succ])
      refine wpAnyH_take (i := 3) (v := .int .i64 k) rfl (by kernel_rfl) (by kernel_rfl) (by kernel_rfl) (fun _ _ _ h => h) (Or.inl ⟨by kernel_rfl, fun _ _ => by go_simp⟩) (by assumption) ?_
      (try simp only [Act.put, List.getElem_toArray, List.getElem_cons_zero, List.getElem_cons_succ, List.setIfInBounds_toArray, List.set_cons_zero, List.set_cons_succ])
      refine wpAnyH_take (i := 4) (v := .int .u8 (s[k].toNat : Int)) rfl (by kernel_rfl) (by kernel_rfl) (by kernel_rfl) (fun _ _ _ h => h) (Or.inl ⟨by kernel_rfl, fun _ _ => by go_simp⟩) (by assumption) ?_
      (try simp only [Act.put, List.getElem_toArray, List.getElem_cons_zero, List.getElem_cons_succ, List.setIfInBounds_toArray, List.set_cons_zero, List.set_cons_succ])
      refine wpAnyH_take (i := 5) (v := .int .u8 (IntKind.u8.wrap ((s[k].toNat : Int) - 48))) rfl (by kernel_rfl) (by kernel_rfl) (by kernel_rfl) (fun _ _ _ h => h) (Or.inl ⟨by kernel_rfl, fun _ _ => by go_simp⟩) (by assumption) ?_
      (try simp only [Act.put, List.getElem_toArray, List.getElem_cons_zero, List.getElem_cons_succ, List.setIfInBounds_toArray, List.set_cons_zero, List.set_cons_succ])
      refine wpAnyH_take (i := 6) (v := .int .i64 (IntKind.i64.wrap (IntKind.u8.wrap ((s[k].toNat : Int) - 48)))) rfl (by kernel_rfl) (by kernel_rfl) (by kernel_rfl) (fun _ _ _ h => h) (Or.inl ⟨by kernel_rfl, fun _ _ => by go_simp⟩) (by assumption) ?_
      (try simp only [Act.put, List.getElem_toArray, List.getElem_cons_zero, List.getElem_cons_succ, List.setIfInBounds_toArray, List.set_cons_zero, List.set_cons_succ])
      refine wpAnyH_ready (rs := [1, 7]) (by kernel_rfl) (by simp) ?_
      refine (AllReadyH.cons rfl (fun K hK => ?_) (AllReadyH.cons rfl (fun K hK => ?_) AllReadyH.nil))
      · go_simp
        refine hK.out _ _ cR0 (fun hHeld1 => ?_)
        clear hK K hHeld0
        (try simp only [Act.put, List.getElem_toArray, List.getElem_cons_zero, List.getElem_cons_succ, List.setIfInBounds_toArray, List.set_cons_zero, List.set_cons_succ])
        refine wpAnyH_ready (rs := [7]) (by kernel_rfl) (by simp) ?_
        refine (AllReadyH.cons rfl (fun K hK => ?_) AllReadyH.nil)
        have hownW := hown1
        have BGW := BG
        have BRW := BR
        have hTW := hTr
        have hzW : w0.heap.size ≤ wt1.heap.size := Nat.le_trans hzr (by omega)
        go_simp
        obtain ⟨wt2, Hwt2⟩ : ∃ x, Hid (x = wt1.alloc (.cells #[.int .i64 (IntKind.i64.wrap (IntKind.u8.wrap ((s[k].toNat : Int) - 48)))] 3)) := ⟨_, Lib.hid rfl⟩
        rw [← Hwt2.out]
        have hbwt2 : Below wt1.heap.size wt1 wt2 := by rw [Hwt2.out]; exact below_box _ _
        have Bwt2 : Blk wt2 wt1.heap.size 3 #[.int .i64 (IntKind.i64.wrap (IntKind.u8.wrap ((s[k].toNat : Int) - 48)))] := by rw [Hwt2.out]; exact Blk.new _ _ _
        have zwt2 : wt1.heap.size < wt2.heap.size := Bwt2.lt
        have ywt2 := hbwt2.size
        replace BG := BG.next hbwt2
        replace BR := BR.next hbwt2
        replace hown1 := own_next hown1 hbwt2
        replace hTr := hTr.trans (hbwt2.mono hTr.size)
        replace cG1 := keepc hbwt2 cG1
        replace cR0 := keepc hbwt2 cR0
        refine hK.out _ _ cR0 (fun hHeld2 => ?_)
        clear hK K hHeld1
        (try simp only [Act.put, List.getElem_toArray, List.getElem_cons_zero, List.getElem_cons_succ, List.setIfInBounds_toArray, List.set_cons_zero, List.set_cons_succ])
        refine wpAnyH_ready (rs := [8]) (by kernel_rfl) (by simp) ?_
        refine (AllReadyH.cons rfl (fun K hK => ?_) AllReadyH.nil)
        rw [Hwt2.out]
        refine step_app1 wt1 rfl (.tmp 13) (.tmp 19) 27 3 rfl (.int .i64 0) 8 Tryz.underlying27 info_int rfl (by decide) w0.heap.size k c A (ints ((binL s).take k)) (by rfl) hownW _ rfl (by rfl) (by omega) hzW ?_
        intro A2 c2 wt3 hown2 hg2 hb2
        rw [HNX.out] at hown2
        have B2 := BGW.below hb2 hle0
        have BR2 := BRW.below hb2 (by omega)
        replace cR0 := BR2.cell 0
        simp at cR0
        have T2 := hTW.trans (hb2.mono (by omega))
        have hz2 := hb2.size
        refine hK.out _ _ cR0 (fun hHeld3 => ?_)
        clear hK K hHeld2
        (try simp only [Act.put, List.getElem_toArray, List.getElem_cons_zero, List.getElem_cons_succ, List.setIfInBounds_toArray, List.set_cons_zero, List.set_cons_succ])
        refine wpAnyH_take (i := 9) (v := .pointer (some ⟨(w.heap.size + 1), 1, none⟩)) rfl (by kernel_rfl) (by kernel_rfl) (by kernel_rfl) (fun _ _ _ h => h) (Or.inl ⟨by kernel_rfl, fun _ _ => by go_simp⟩) (by assumption) ?_
        (try simp only [Act.put, List.getElem_toArray, List.getElem_cons_zero, List.getElem_cons_succ, List.setIfInBounds_toArray, List.set_cons_zero, List.set_cons_succ])
        refine wpAnyH_ready (rs := [10]) (by kernel_rfl) (by simp) ?_
        refine (AllReadyH.cons rfl (fun K hK => ?_) AllReadyH.nil)
        have f21 := B2.frozen 1
        have c21 := B2.cell 1
        simp at c21
        go_simp
        obtain ⟨wt4, Hwt4⟩ : ∃ x, Hid (x = wt3.setCell ⟨w.heap.size + 1, 1, none⟩ (.slice A2 (k + 1) c2)) := ⟨_, rfl⟩
        rw [← Hwt4.out]
        have B3 : Blk wt4 (w.heap.size + 1) 64 #[.int .i64 2, .slice A2 (k + 1) c2] := by rw [Hwt4.out]; simpa using B2.set_ 1 (.slice A2 (k + 1) c2)
        have BR3 : Blk wt4 w.heap.size 64 #[.int .i64 0, .slice none 0 0] := by rw [Hwt4.out]; exact BR2.far (by simp) _
        have hown3 : wt4.ownsRow w0.heap.size 3 1 (.slice A2 (k + 1) c2) (k + 1) (ints ((binL s).take (k + 1))) := by rw [Hwt4.out]; exact own_same hown2 fun b hb => Below.heap_setCell _ _ _ _ (fun e => by have := (hown2.lt b hb).1; rw [e] at this; simp at this; omega)
        have T3 : Below w.heap.size w wt4 := by rw [Hwt4.out]; exact T2.setCell (p := ⟨w.heap.size + 1, 1, none⟩) (by simp) _
        have hz3 : w0.heap.size ≤ wt4.heap.size := by rw [Hwt4.out]; simpa using Nat.le_trans hzW hz2
        replace cR0 := BR3.cell 0
        simp at cR0
        refine hK.out _ _ cR0 (fun hHeld4 => ?_)
        clear hK K hHeld3
        (try simp only [Act.put, List.getElem_toArray, List.getElem_cons_zero, List.getElem_cons_succ, List.setIfInBounds_toArray, List.set_cons_zero, List.set_cons_succ])
        refine wpAnyH_done (by kernel_rfl) ?_ _
        go_wp2_with fail
        go_roundw
        case rel => exact ⟨k + 1, A2, c2, by omega, by go_num, B3, hown3, BR3, T3, hz3⟩
        case measure => simp [intOf]; omega
      · have hownW := hown1
        have BGW := BG
        have BRW := BR
        have hTW := hTr
        have hzW : w0.heap.size ≤ wt1.heap.size := Nat.le_trans hzr (by omega)
        go_simp
        obtain ⟨wt5, Hwt5⟩ : ∃ x, Hid (x = wt1.alloc (.cells #[.int .i64 (IntKind.i64.wrap (IntKind.u8.wrap ((s[k].toNat : Int) - 48)))] 3)) := ⟨_, Lib.hid rfl⟩
        rw [← Hwt5.out]
        have hbwt5 : Below wt1.heap.size wt1 wt5 := by rw [Hwt5.out]; exact below_box _ _
        have Bwt5 : Blk wt5 wt1.heap.size 3 #[.int .i64 (IntKind.i64.wrap (IntKind.u8.wrap ((s[k].toNat : Int) - 48)))] := by rw [Hwt5.out]; exact Blk.new _ _ _
        have zwt5 : wt1.heap.size < wt5.heap.size := Bwt5.lt
        have ywt5 := hbwt5.size
        replace BG := BG.next hbwt5
        replace BR := BR.next hbwt5
        replace hown1 := own_next hown1 hbwt5
        replace hTr := hTr.trans (hbwt5.mono hTr.size)
        replace cG1 := keepc hbwt5 cG1
        replace cR0 := keepc hbwt5 cR0
        refine hK.out _ _ cR0 (fun hHeld1 => ?_)
        clear hK K hHeld0
        (try simp only [Act.put, List.getElem_toArray, List.getElem_cons_zero, List.getElem_cons_succ, List.setIfInBounds_toArray, List.set_cons_zero, List.set_cons_succ])
        refine wpAnyH_ready (rs := [1]) (by kernel_rfl) (by simp) ?_
        refine (AllReadyH.cons rfl (fun K hK => ?_) AllReadyH.nil)
        go_simp
        refine hK.out _ _ cR0 (fun hHeld2 => ?_)
        clear hK K hHeld1
        (try simp only [Act.put, List.getElem_toArray, List.getElem_cons_zero, List.getElem_cons_succ, List.setIfInBounds_toArray, List.set_cons_zero, List.set_cons_succ])
        refine wpAnyH_ready (rs := [8]) (by kernel_rfl) (by simp) ?_
        refine (AllReadyH.cons rfl (fun K hK => ?_) AllReadyH.nil)
        rw [Hwt5.out]
        refine step_app1 wt1 rfl (.tmp 13) (.tmp 19) 27 3 rfl (.int .i64 0) 8 Tryz.underlying27 info_int rfl (by decide) w0.heap.size k c A (ints ((binL s).take k)) (by rfl) hownW _ rfl (by rfl) (by omega) hzW ?_
        intro A2 c2 wt6 hown2 hg2 hb2
        rw [HNX.out] at hown2
        have B2 := BGW.below hb2 hle0
        have BR2 := BRW.below hb2 (by omega)
        replace cR0 := BR2.cell 0
        simp at cR0
        have T2 := hTW.trans (hb2.mono (by omega))
        have hz2 := hb2.size
        refine hK.out _ _ cR0 (fun hHeld3 => ?_)
        clear hK K hHeld2
        (try simp only [Act.put, List.getElem_toArray, List.getElem_cons_zero, List.getElem_cons_succ, List.setIfInBounds_toArray, List.set_cons_zero, List.set_cons_succ])
        refine wpAnyH_take (i := 9) (v := .pointer (some ⟨(w.heap.size + 1), 1, none⟩)) rfl (by kernel_rfl) (by kernel_rfl) (by kernel_rfl) (fun _ _ _ h => h) (Or.inl ⟨by kernel_rfl, fun _ _ => by go_simp⟩) (by assumption) ?_
        (try simp only [Act.put, List.getElem_toArray, List.getElem_cons_zero, List.getElem_cons_succ, List.setIfInBounds_toArray, List.set_cons_zero, List.set_cons_succ])
        refine wpAnyH_ready (rs := [10]) (by kernel_rfl) (by simp) ?_
        refine (AllReadyH.cons rfl (fun K hK => ?_) AllReadyH.nil)
        have f21 := B2.frozen 1
        have c21 := B2.cell 1
        simp at c21
        go_simp
        obtain ⟨wt7, Hwt7⟩ : ∃ x, Hid (x = wt6.setCell ⟨w.heap.size + 1, 1, none⟩ (.slice A2 (k + 1) c2)) := ⟨_, rfl⟩
        rw [← Hwt7.out]
        have B3 : Blk wt7 (w.heap.size + 1) 64 #[.int .i64 2, .slice A2 (k + 1) c2] := by rw [Hwt7.out]; simpa using B2.set_ 1 (.slice A2 (k + 1) c2)
        have BR3 : Blk wt7 w.heap.size 64 #[.int .i64 0, .slice none 0 0] := by rw [Hwt7.out]; exact BR2.far (by simp) _
        have hown3 : wt7.ownsRow w0.heap.size 3 1 (.slice A2 (k + 1) c2) (k + 1) (ints ((binL s).take (k + 1))) := by rw [Hwt7.out]; exact own_same hown2 fun b hb => Below.heap_setCell _ _ _ _ (fun e => by have := (hown2.lt b hb).1; rw [e] at this; simp at this; omega)
        have T3 : Below w.heap.size w wt7 := by rw [Hwt7.out]; exact T2.setCell (p := ⟨w.heap.size + 1, 1, none⟩) (by simp) _
        have hz3 : w0.heap.size ≤ wt7.heap.size := by rw [Hwt7.out]; simpa using Nat.le_trans hzW hz2
        replace cR0 := BR3.cell 0
        simp at cR0
        refine hK.out _ _ cR0 (fun hHeld4 => ?_)
        clear hK K hHeld3
        (try simp only [Act.put, List.getElem_toArray, List.getElem_cons_zero, List.getElem_cons_succ, List.setIfInBounds_toArray, List.set_cons_zero, List.set_cons_succ])
        refine wpAnyH_done (by kernel_rfl) ?_ _
        go_wp2_with fail
        go_roundw
        case rel => exact ⟨k + 1, A2, c2, by omega, by go_num, B3, hown3, BR3, T3, hz3⟩
        case measure => simp [intOf]; omega
    · obtain rfl : k = s.size := by omega
      have hk1 : ¬ (s.size : Int) < (s.size : Int) := by omega
      rw [List.take_of_length_le (by rw [HLEN.out]; exact Nat.le_refl _)] at hown
      have cG0 := BG.cell 0
      have cG1 := BG.cell 1
      have cR0 := BR.cell 0
      have cR1 := BR.cell 1
      simp at cG0 cG1 cR0 cR1
      have fR0 := BR.frozen 0
      have fR1 := BR.frozen 1
      obtain ⟨wf, HWF⟩ : ∃ wf, Hid (wf = (wr.setCell ⟨w.heap.size, 0, none⟩ (.int .i64 2)).setCell ⟨w.heap.size, 1, none⟩ (.slice A s.size c)) := ⟨_, rfl⟩
      have BLF : Hid (Blk wf w.heap.size 64 #[.int .i64 2, .slice A s.size c]) := by show Blk _ _ _ _; rw [HWF.out]; simpa using (BR.set_ 0 (.int .i64 2)).set_ 1 (.slice A s.size c)
      have OF : Hid (wf.ownsRow w0.heap.size 3 1 (.slice A s.size c) s.size (ints (binL s))) := by show World.ownsRow _ _ _ _ _ _ _; rw [HWF.out]; exact own_same (own_same hown fun b hb => Below.heap_setCell _ _ _ _ (fun e => by have := (hown.lt b hb).1; rw [e] at this; simp at this; omega)) fun b hb => Below.heap_setCell _ _ _ _ (fun e => by have := (hown.lt b hb).1; rw [e] at this; simp at this; omega)
      have TF : Hid (Below w.heap.size w wf) := by show Below _ _ _; rw [HWF.out]; exact (hTr.setCell (p := ⟨w.heap.size, 0, none⟩) (Nat.le_refl _) _).setCell (p := ⟨w.heap.size, 1, none⟩) (Nat.le_refl _) _
      clear BG BR hown hTr
      go_wp2_with fail
      rw [← HWF.out]
      (try simp only [Exit.inBlock, Exit.then])
      refine bodyPost_ret (v := .agg #[.int .i64 2, .slice A s.size c]) (results_cell_row rfl _ _ w.heap.size 64 #[.int .i64 2, .slice A s.size c] (0, 0) _ (by simp) BLF.out Tryz.underlying64 rfl (by kernel_rfl)) rfl ?_
      have hbl : ∀ x ∈ binL s, InR x := fun x hx => by
        obtain ⟨y, -, rfl⟩ := List.mem_map.1 hx
        have := binV_in y
        exact ⟨by omega, by omega⟩
      have hoo := own_opE (w := w) (w' := wf) (a := 2) ⟨by omega, by omega⟩ HLEN.out (own_mono OF.out (by omega)) hbl
      exact ⟨[.int .i64 2, .slice A s.size c], _, rfl, hoo.1, hoo.2, TF.out⟩
theorem l2Affine2_any (w : World) : Calls Tryz.prog 73 #[.int .i64 2] w fun e w' => ∃ L, ToE shOp w (3, L) e w' ∧ L.length = 8 ∧ ∀ v ∈ L, 0 ≤ v ∧ v ≤ 1 := by
  obtain ⟨w0, hw0, T0, hsz0, BR, BG⟩ := boxes2 w #[.int .i64 0, .slice none 0 0] #[.int .i64 3, .slice none 0 0] 64 64
  have hown0 : w0.ownsRow w0.heap.size 3 1 (.slice none 0 0) 0 (ints []) := ⟨rfl, .inl ⟨rfl, rfl⟩⟩
  have HW0 := Lib.hid hw0
  have hle0 : w.heap.size + 1 < w0.heap.size := by omega
  clear hw0 hsz0
  go_enter Tryz.func73, Tryz.ntmps73
  go_upto_region 2 with fail
  rw [← HW0.out]
  go_wp2_with fail
  go_loopw [4] (fun i wr => ∃ (k : Nat) (A : Option Addr) (c : Nat) (L : List Int), k ≤ 8 ∧ i = .int .i64 k ∧ Blk wr (w.heap.size + 1) 64 #[.int .i64 3, .slice A k c] ∧ wr.ownsRow w0.heap.size 3 1 (.slice A k c) k (ints L) ∧ Hid (L.length = k ∧ ∀ v ∈ L, 0 ≤ v ∧ v ≤ 1) ∧ Blk wr w.heap.size 64 #[.int .i64 0, .slice none 0 0] ∧ Below w.heap.size w wr ∧ w0.heap.size ≤ wr.heap.size) (fun i _ => 8 - (intOf i).toNat)
  case atStart => exact ⟨0, none, 0, [], Nat.zero_le _, rfl, BG, hown0, Lib.hid ⟨rfl, fun v hv => by cases hv⟩, BR, T0, Nat.le_refl _⟩
  case round =>
    clear BG hown0 BR T0
    obtain ⟨k, A, c, L, hk, rfl, BG, hown, HL, BR, hTr, hzr⟩ := hrel
    by_cases hlt : k < 8
    · have hk0 : (0 : Int) ≤ (k : Int) := by omega
      have hk1 : (k : Int) < 8 := by omega
      have cG1 := BG.cell 1
      simp at cG1
      have hown1 := hown
      have hzz := hzr
      have cR0 := BR.cell 0
      simp at cR0
      obtain ⟨D1, hD1⟩ : ∃ D, k / 4 = D := ⟨_, rfl⟩
      obtain ⟨D2, hD2⟩ : ∃ D, k / 2 = D := ⟨_, rfl⟩
      obtain ⟨D3, hD3⟩ : ∃ D, D2 % 2 = D := ⟨_, rfl⟩
      obtain ⟨D4, hD4⟩ : ∃ D, k % 2 = D := ⟨_, rfl⟩
      obtain ⟨E1, hE1⟩ : ∃ D, D1 + 2 = D := ⟨_, rfl⟩
      obtain ⟨E2, hE2⟩ : ∃ D, E1 - D3 = D := ⟨_, rfl⟩
      obtain ⟨E3, hE3⟩ : ∃ D, E2 + D4 = D := ⟨_, rfl⟩
      obtain ⟨R, hR⟩ : ∃ D, E3 % 2 = D := ⟨_, rfl⟩
      have f1 : (k : Int) / 4 = (D1 : Int) := by omega
      have f1t : (k : Int).tdiv 4 = (D1 : Int) := by rw [Int.tdiv_eq_ediv_of_nonneg hk0]; exact f1
      have f2 : (k : Int) / 2 = (D2 : Int) := by omega
      have f2t : (k : Int).tdiv 2 = (D2 : Int) := by rw [Int.tdiv_eq_ediv_of_nonneg hk0]; exact f2
      have f3 : (D2 : Int) % 2 = (D3 : Int) := by omega
      have f3t : (D2 : Int).tmod 2 = (D3 : Int) := by rw [Int.tmod_eq_emod_of_nonneg (by omega)]; exact f3
      have f4 : (k : Int) % 2 = (D4 : Int) := by omega
      have f4t : (k : Int).tmod 2 = (D4 : Int) := by rw [Int.tmod_eq_emod_of_nonneg hk0]; exact f4
      have f5 : (D1 : Int) + 2 = (E1 : Int) := by omega
      have f6 : (E1 : Int) - (D3 : Int) = (E2 : Int) := by omega
      have f7 : (E2 : Int) + (D4 : Int) = (E3 : Int) := by omega
      have f8 : (E3 : Int) % 2 = (R : Int) := by omega
      have f8t : (E3 : Int).tmod 2 = (R : Int) := by rw [Int.tmod_eq_emod_of_nonneg (by omega)]; exact f8
      have g1 : IntKind.i64.wrap (D1 : Int) = (D1 : Int) := by rw [IntKind.wrap_i64]; omega
      have g2 : IntKind.i64.wrap (D2 : Int) = (D2 : Int) := by rw [IntKind.wrap_i64]; omega
      have g3 : IntKind.i64.wrap (D3 : Int) = (D3 : Int) := by rw [IntKind.wrap_i64]; omega
      have g4 : IntKind.i64.wrap (D4 : Int) = (D4 : Int) := by rw [IntKind.wrap_i64]; omega
      have g5 : IntKind.i64.wrap (E1 : Int) = (E1 : Int) := by rw [IntKind.wrap_i64]; omega
      have g6 : IntKind.i64.wrap (E2 : Int) = (E2 : Int) := by rw [IntKind.wrap_i64]; omega
      have g7 : IntKind.i64.wrap (E3 : Int) = (E3 : Int) := by rw [IntKind.wrap_i64]; omega
      have g8 : IntKind.i64.wrap (R : Int) = (R : Int) := by rw [IntKind.wrap_i64]; omega
      have g0 : IntKind.i64.wrap 4 = 4 := by rw [IntKind.wrap_i64]; omega
      have HL2 : Hid ((L ++ [(R : Int)]).length = k + 1 ∧ ∀ v ∈ L ++ [(R : Int)], 0 ≤ v ∧ v ≤ 1) := by
        refine ⟨by rw [List.length_append, HL.out.1]; rfl, fun v hv => ?_⟩
        rcases List.mem_append.1 hv with hv | hv
        · exact HL.out.2 v hv
        · rw [List.mem_singleton.1 hv]; omega
      clear hD1 hD2 hD3 hD4 hE1 hE2 hE3 hR
      have HNX : Hid (ints L ++ [.int .i64 (R : Int)] = ints (L ++ [(R : Int)])) := by show _ = _; simp [ints]
      go_upto_region 5 with fail
      refine wp_region_held_drew (S := fun w' => w'.cell? ⟨w.heap.size, 0, none⟩ = some (.int .i64 0)) (by kernel_rfl) cR0 (fun hHeld0 => ?_)
      obtain ⟨wt1, Hwt1⟩ : ∃ x, Hid (x = World.drew wr) := ⟨_, rfl⟩
      have hbwt1 : Below wr.heap.size wr wt1 := by rw [Hwt1.out]; exact (Below.refl _ _).drew
      rw [← Hwt1.out] at hHeld0 ⊢
      have ywt1 := hbwt1.size
      replace BG := BG.next hbwt1
      replace BR := BR.next hbwt1
      replace hown1 := own_next hown1 hbwt1
      replace hTr := hTr.trans (hbwt1.mono hTr.size)
      replace cG1 := keepc hbwt1 cG1
      replace cR0 := keepc hbwt1 cR0
      refine wpAnyH_take (i := 0) (v := .pointer (some ⟨(w.heap.size + 1), 1, none⟩)) rfl (by kernel_rfl) (by kernel_rfl) (by kernel_rfl) (fun _ _ _ h => h) (Or.inl ⟨by kernel_rfl, fun _ _ => by go_simp⟩) (by assumption) ?_
      (try simp only [Act.put, List.getElem_toArray, List.getElem_cons_zero, List.getElem_cons_succ, List.setIfInBounds_toArray, List.set_cons_zero, List.set_cons_succ])
      refine wpAnyH_take (i := 2) (v := .int .i64 k) rfl (by kernel_rfl) (by kernel_rfl) (by kernel_rfl) (fun _ _ _ h => h) (Or.inl ⟨by kernel_rfl, fun _ _ => by go_simp⟩) (by assumption) ?_
      (try simp only [Act.put, List.getElem_toArray, List.getElem_cons_zero, List.getElem_cons_succ, List.setIfInBounds_toArray, List.set_cons_zero, List.set_cons_succ])
      refine wpAnyH_take (i := 3) (v := .int .i64 2) rfl (by kernel_rfl) (by kernel_rfl) (by kernel_rfl) (fun _ _ _ h => h) (Or.inl ⟨by kernel_rfl, fun _ _ => by go_simp⟩) (by assumption) ?_
      (try simp only [Act.put, List.getElem_toArray, List.getElem_cons_zero, List.getElem_cons_succ, List.setIfInBounds_toArray, List.set_cons_zero, List.set_cons_succ])
      refine wpAnyH_take (i := 4) (v := .int .i64 2) rfl (by kernel_rfl) (by kernel_rfl) (by kernel_rfl) (fun _ _ _ h => h) (Or.inl ⟨by kernel_rfl, fun _ _ => by go_simp⟩) (by assumption) ?_
      (try simp only [Act.put, List.getElem_toArray, List.getElem_cons_zero, List.getElem_cons_succ, List.setIfInBounds_toArray, List.set_cons_zero, List.set_cons_succ])
      refine wpAnyH_take (i := 5) (v := .int .i64 4) rfl (by kernel_rfl) (by kernel_rfl) (by kernel_rfl) (fun _ _ _ h => h) (Or.inl ⟨by kernel_rfl, fun _ _ => by go_simp⟩) (by assumption) ?_
      (try simp only [Act.put, List.getElem_toArray, List.getElem_cons_zero, List.getElem_cons_succ, List.setIfInBounds_toArray, List.set_cons_zero, List.set_cons_succ])
      refine wpAnyH_take (i := 6) (v := .int .i64 (D1 : Int)) rfl (by kernel_rfl) (by kernel_rfl) (by kernel_rfl) (fun _ _ _ h => h) (Or.inl ⟨by kernel_rfl, fun _ _ => by go_simp⟩) (by assumption) ?_
      (try simp only [Act.put, List.getElem_toArray, List.getElem_cons_zero, List.getElem_cons_succ, List.setIfInBounds_toArray, List.set_cons_zero, List.set_cons_succ])
      refine wpAnyH_take (i := 7) (v := .int .i64 2) rfl (by kernel_rfl) (by kernel_rfl) (by kernel_rfl) (fun _ _ _ h => h) (Or.inl ⟨by kernel_rfl, fun _ _ => by go_simp⟩) (by assumption) ?_
      (try simp only [Act.put, List.getElem_toArray, List.getElem_cons_zero, List.getElem_cons_succ, List.setIfInBounds_toArray, List.set_cons_zero, List.set_cons_succ])
      refine wpAnyH_take (i := 8) (v := .int .i64 (E1 : Int)) rfl (by kernel_rfl) (by kernel_rfl) (by kernel_rfl) (fun _ _ _ h => h) (Or.inl ⟨by kernel_rfl, fun _ _ => by go_simp⟩) (by assumption) ?_
      (try simp only [Act.put, List.getElem_toArray, List.getElem_cons_zero, List.getElem_cons_succ, List.setIfInBounds_toArray, List.set_cons_zero, List.set_cons_succ])
      refine wpAnyH_take (i := 9) (v := .int .i64 k) rfl (by kernel_rfl) (by kernel_rfl) (by kernel_rfl) (fun _ _ _ h => h) (Or.inl ⟨by kernel_rfl, fun _ _ => by go_simp⟩) (by assumption) ?_
      (try simp only [Act.put, List.getElem_toArray, List.getElem_cons_zero, List.getElem_cons_succ, List.setIfInBounds_toArray, List.set_cons_zero, List.set_cons_succ])
      refine wpAnyH_take (i := 10) (v := .int .i64 2) rfl (by kernel_rfl) (by kernel_rfl) (by kernel_rfl) (fun _ _ _ h => h) (Or.inl ⟨by kernel_rfl, fun _ _ => by go_simp⟩) (by assumption) ?_
      (try simp only [Act.put, List.getElem_toArray, List.getElem_cons_zero, List.getElem_cons_succ, List.setIfInBounds_toArray, List.set_cons_zero, List.set_cons_succ])
      refine wpAnyH_take (i := 11) (v := .int .i64 (D2 : Int)) rfl (by kernel_rfl) (by kernel_rfl) (by kernel_rfl) (fun _ _ _ h => h) (Or.inl ⟨by kernel_rfl, fun _ _ => by go_simp⟩) (by assumption) ?_
      (try simp only [Act.put, List.getElem_toArray, List.getElem_cons_zero, List.getElem_cons_succ, List.setIfInBounds_toArray, List.set_cons_zero, List.set_cons_succ])
      refine wpAnyH_take (i := 12) (v := .int .i64 2) rfl (by kernel_rfl) (by kernel_rfl) (by kernel_rfl) (fun _ _ _ h => h) (Or.inl ⟨by kernel_rfl, fun _ _ => by go_simp⟩) (by assumption) ?_
      (try simp only [Act.put, List.getElem_toArray, List.getElem_cons_zero, List.getElem_cons_succ, List.setIfInBounds_toArray, List.set_cons_zero, List.set_cons_succ])
      refine wpAnyH_take (i := 13) (v := .int .i64 (D3 : Int)) rfl (by kernel_rfl) (by kernel_rfl) (by kernel_rfl) (fun _ _ _ h => h) (Or.inl ⟨by kernel_rfl, fun _ _ => by go_simp⟩) (by assumption) ?_
      (try simp only [Act.put, List.getElem_toArray, List.getElem_cons_zero, List.getElem_cons_succ, List.setIfInBounds_toArray, List.set_cons_zero, List.set_cons_succ])
      refine wpAnyH_take (i := 14) (v := .int .i64 (E2 : Int)) rfl (by kernel_rfl) (by kernel_rfl) (by kernel_rfl) (fun _ _ _ h => h) (Or.inl ⟨by kernel_rfl, fun _ _ => by go_simp⟩) (by assumption) ?_
      (try simp only [Act.put, List.getElem_toArray, List.getElem_cons_zero, List.getElem_cons_succ, List.setIfInBounds_toArray, List.set_cons_zero, List.set_cons_succ])
      refine wpAnyH_take (i := 15) (v := .int .i64 k) rfl (by kernel_rfl) (by kernel_rfl) (by kernel_rfl) (fun _ _ _ h => h) (Or.inl ⟨by kernel_rfl, fun _ _ => by go_simp⟩) (by assumption) ?_
      (try simp only [Act.put, List.getElem_toArray, List.getElem_cons_zero, List.getElem_cons_succ, List.setIfInBounds_toArray, List.set_cons_zero, List.set_cons_succ])
      refine wpAnyH_take (i := 16) (v := .int .i64 2) rfl (by kernel_rfl) (by kernel_rfl) (by kernel_rfl) (fun _ _ _ h => h) (Or.inl ⟨by kernel_rfl, fun _ _ => by go_simp⟩) (by assumption) ?_
      (try simp only [Act.put, List.getElem_toArray, List.getElem_cons_zero, List.getElem_cons_succ, List.setIfInBounds_toArray, List.set_cons_zero, List.set_cons_succ])
      refine wpAnyH_take (i := 17) (v := .int .i64 (D4 : Int)) rfl (by kernel_rfl) (by kernel_rfl) (by kernel_rfl) (fun _ _ _ h => h) (Or.inl ⟨by kernel_rfl, fun _ _ => by go_simp⟩) (by assumption) ?_
      (try simp only [Act.put, List.getElem_toArray, List.getElem_cons_zero, List.getElem_cons_succ, List.setIfInBounds_toArray, List.set_cons_zero, List.set_cons_succ])
      refine wpAnyH_take (i := 18) (v := .int .i64 (E3 : Int)) rfl (by kernel_rfl) (by kernel_rfl) (by kernel_rfl) (fun _ _ _ h => h) (Or.inl ⟨by kernel_rfl, fun _ _ => by go_simp⟩) (by assumption) ?_
      (try simp only [Act.put, List.getElem_toArray, List.getElem_cons_zero, List.getElem_cons_succ, List.setIfInBounds_toArray, List.set_cons_zero, List.set_cons_succ])
      refine wpAnyH_take (i := 19) (v := .int .i64 2) rfl (by kernel_rfl) (by kernel_rfl) (by kernel_rfl) (fun _ _ _ h => h) (Or.inl ⟨by kernel_rfl, fun _ _ => by go_simp⟩) (by assumption) ?_
      (try simp only [Act.put, List.getElem_toArray, List.getElem_cons_zero, List.getElem_cons_succ, List.setIfInBounds_toArray, List.set_cons_zero, List.set_cons_succ])
      refine wpAnyH_take (i := 20) (v := .int .i64 (R : Int)) rfl (by kernel_rfl) (by kernel_rfl) (by kernel_rfl) (fun _ _ _ h => h) (Or.inl ⟨by kernel_rfl, fun _ _ => by go_simp⟩) (by assumption) ?_
      (try simp only [Act.put, List.getElem_toArray, List.getElem_cons_zero, List.getElem_cons_succ, List.setIfInBounds_toArray, List.set_cons_zero, List.set_cons_succ])
      refine wpAnyH_ready (rs := [1, 21]) (by kernel_rfl) (by simp) ?_
      refine (AllReadyH.cons rfl (fun K hK => ?_) (AllReadyH.cons rfl (fun K hK => ?_) AllReadyH.nil))
      · go_simp
        refine hK.out _ _ cR0 (fun hHeld1 => ?_)
        clear hK K hHeld0
        (try simp only [Act.put, List.getElem_toArray, List.getElem_cons_zero, List.getElem_cons_succ, List.setIfInBounds_toArray, List.set_cons_zero, List.set_cons_succ])
        refine wpAnyH_ready (rs := [21]) (by kernel_rfl) (by simp) ?_
        refine (AllReadyH.cons rfl (fun K hK => ?_) AllReadyH.nil)
        have hownW := hown1
        have BGW := BG
        have BRW := BR
        have hTW := hTr
        have hzW : w0.heap.size ≤ wt1.heap.size := Nat.le_trans hzr (by omega)
        go_simp
        obtain ⟨wt2, Hwt2⟩ : ∃ x, Hid (x = wt1.alloc (.cells #[.int .i64 (R : Int)] 3)) := ⟨_, Lib.hid rfl⟩
        rw [← Hwt2.out]
        have hbwt2 : Below wt1.heap.size wt1 wt2 := by rw [Hwt2.out]; exact below_box _ _
        have Bwt2 : Blk wt2 wt1.heap.size 3 #[.int .i64 (R : Int)] := by rw [Hwt2.out]; exact Blk.new _ _ _
        have zwt2 : wt1.heap.size < wt2.heap.size := Bwt2.lt
        have ywt2 := hbwt2.size
        replace BG := BG.next hbwt2
        replace BR := BR.next hbwt2
        replace hown1 := own_next hown1 hbwt2
        replace hTr := hTr.trans (hbwt2.mono hTr.size)
        replace cG1 := keepc hbwt2 cG1
        replace cR0 := keepc hbwt2 cR0
        refine hK.out _ _ cR0 (fun hHeld2 => ?_)
        clear hK K hHeld1
        (try simp only [Act.put, List.getElem_toArray, List.getElem_cons_zero, List.getElem_cons_succ, List.setIfInBounds_toArray, List.set_cons_zero, List.set_cons_succ])
        refine wpAnyH_ready (rs := [22]) (by kernel_rfl) (by simp) ?_
        refine (AllReadyH.cons rfl (fun K hK => ?_) AllReadyH.nil)
        rw [Hwt2.out]
        refine step_app1 wt1 rfl (.tmp 16) (.tmp 36) 27 3 rfl (.int .i64 0) 8 Tryz.underlying27 info_int rfl (by decide) w0.heap.size k c A (ints L) (by rfl) hownW _ rfl (by rfl) (by omega) hzW ?_
        intro A2 c2 wt3 hown2 hg2 hb2
        rw [HNX.out] at hown2
        have B2 := BGW.below hb2 hle0
        have BR2 := BRW.below hb2 (by omega)
        replace cR0 := BR2.cell 0
        simp at cR0
        have T2 := hTW.trans (hb2.mono (by omega))
        have hz2 := hb2.size
        refine hK.out _ _ cR0 (fun hHeld3 => ?_)
        clear hK K hHeld2
        (try simp only [Act.put, List.getElem_toArray, List.getElem_cons_zero, List.getElem_cons_succ, List.setIfInBounds_toArray, List.set_cons_zero, List.set_cons_succ])
        refine wpAnyH_take (i := 23) (v := .pointer (some ⟨(w.heap.size + 1), 1, none⟩)) rfl (by kernel_rfl) (by kernel_rfl) (by kernel_rfl) (fun _ _ _ h => h) (Or.inl ⟨by kernel_rfl, fun _ _ => by go_simp⟩) (by assumption) ?_
        (try simp only [Act.put, List.getElem_toArray, List.getElem_cons_zero, List.getElem_cons_succ, List.setIfInBounds_toArray, List.set_cons_zero, List.set_cons_succ])
        refine wpAnyH_ready (rs := [24]) (by kernel_rfl) (by simp) ?_
        refine (AllReadyH.cons rfl (fun K hK => ?_) AllReadyH.nil)
        have f21 := B2.frozen 1
        have c21 := B2.cell 1
        simp at c21
        go_simp
        obtain ⟨wt4, Hwt4⟩ : ∃ x, Hid (x = wt3.setCell ⟨w.heap.size + 1, 1, none⟩ (.slice A2 (k + 1) c2)) := ⟨_, rfl⟩
        rw [← Hwt4.out]
        have B3 : Blk wt4 (w.heap.size + 1) 64 #[.int .i64 3, .slice A2 (k + 1) c2] := by rw [Hwt4.out]; simpa using B2.set_ 1 (.slice A2 (k + 1) c2)
        have BR3 : Blk wt4 w.heap.size 64 #[.int .i64 0, .slice none 0 0] := by rw [Hwt4.out]; exact BR2.far (by simp) _
        have hown3 : wt4.ownsRow w0.heap.size 3 1 (.slice A2 (k + 1) c2) (k + 1) (ints (L ++ [(R : Int)])) := by rw [Hwt4.out]; exact own_same hown2 fun b hb => Below.heap_setCell _ _ _ _ (fun e => by have := (hown2.lt b hb).1; rw [e] at this; simp at this; omega)
        have T3 : Below w.heap.size w wt4 := by rw [Hwt4.out]; exact T2.setCell (p := ⟨w.heap.size + 1, 1, none⟩) (by simp) _
        have hz3 : w0.heap.size ≤ wt4.heap.size := by rw [Hwt4.out]; simpa using Nat.le_trans hzW hz2
        replace cR0 := BR3.cell 0
        simp at cR0
        refine hK.out _ _ cR0 (fun hHeld4 => ?_)
        clear hK K hHeld3
        (try simp only [Act.put, List.getElem_toArray, List.getElem_cons_zero, List.getElem_cons_succ, List.setIfInBounds_toArray, List.set_cons_zero, List.set_cons_succ])
        refine wpAnyH_done (by kernel_rfl) ?_ _
        clear f1 f1t f2 f2t f3 f3t f4 f4t f5 f6 f7 f8 f8t g1 g2 g3 g4 g5 g6 g7 g8 g0
        go_wp2_with fail
        go_roundw
        case rel => exact ⟨k + 1, A2, c2, _, by omega, by go_num, B3, hown3, HL2, BR3, T3, hz3⟩
        case measure => simp [intOf]; omega
      · have hownW := hown1
        have BGW := BG
        have BRW := BR
        have hTW := hTr
        have hzW : w0.heap.size ≤ wt1.heap.size := Nat.le_trans hzr (by omega)
        go_simp
        obtain ⟨wt5, Hwt5⟩ : ∃ x, Hid (x = wt1.alloc (.cells #[.int .i64 (R : Int)] 3)) := ⟨_, Lib.hid rfl⟩
        rw [← Hwt5.out]
        have hbwt5 : Below wt1.heap.size wt1 wt5 := by rw [Hwt5.out]; exact below_box _ _
        have Bwt5 : Blk wt5 wt1.heap.size 3 #[.int .i64 (R : Int)] := by rw [Hwt5.out]; exact Blk.new _ _ _
        have zwt5 : wt1.heap.size < wt5.heap.size := Bwt5.lt
        have ywt5 := hbwt5.size
        replace BG := BG.next hbwt5
        replace BR := BR.next hbwt5
        replace hown1 := own_next hown1 hbwt5
        replace hTr := hTr.trans (hbwt5.mono hTr.size)
        replace cG1 := keepc hbwt5 cG1
        replace cR0 := keepc hbwt5 cR0
        refine hK.out _ _ cR0 (fun hHeld1 => ?_)
        clear hK K hHeld0
        (try simp only [Act.put, List.getElem_toArray, List.getElem_cons_zero, List.getElem_cons_succ, List.setIfInBounds_toArray, List.set_cons_zero, List.set_cons_succ])
        refine wpAnyH_ready (rs := [1]) (by kernel_rfl) (by simp) ?_
        refine (AllReadyH.cons rfl (fun K hK => ?_) AllReadyH.nil)
        go_simp
        refine hK.out _ _ cR0 (fun hHeld2 => ?_)
        clear hK K hHeld1
        (try simp only [Act.put, List.getElem_toArray, List.getElem_cons_zero, List.getElem_cons_succ, List.setIfInBounds_toArray, List.set_cons_zero, List.set_cons_succ])
        refine wpAnyH_ready (rs := [22]) (by kernel_rfl) (by simp) ?_
        refine (AllReadyH.cons rfl (fun K hK => ?_) AllReadyH.nil)
        rw [Hwt5.out]
        refine step_app1 wt1 rfl (.tmp 16) (.tmp 36) 27 3 rfl (.int .i64 0) 8 Tryz.underlying27 info_int rfl (by decide) w0.heap.size k c A (ints L) (by rfl) hownW _ rfl (by rfl) (by omega) hzW ?_
        intro A2 c2 wt6 hown2 hg2 hb2
        rw [HNX.out] at hown2
        have B2 := BGW.below hb2 hle0
        have BR2 := BRW.below hb2 (by omega)
        replace cR0 := BR2.cell 0
        simp at cR0
        have T2 := hTW.trans (hb2.mono (by omega))
        have hz2 := hb2.size
        refine hK.out _ _ cR0 (fun hHeld3 => ?_)
        clear hK K hHeld2
        (try simp only [Act.put, List.getElem_toArray, List.getElem_cons_zero, List.getElem_cons_succ, List.setIfInBounds_toArray, List.set_cons_zero, List.set_cons_succ])
        refine wpAnyH_take (i := 23) (v := .pointer (some ⟨(w.heap.size + 1), 1, none⟩)) rfl (by kernel_rfl) (by kernel_rfl) (by kernel_rfl) (fun _ _ _ h => h) (Or.inl ⟨by kernel_rfl, fun _ _ => by go_simp⟩) (by assumption) ?_
        (try simp only [Act.put, List.getElem_toArray, List.getElem_cons_zero, List.getElem_cons_succ, List.setIfInBounds_toArray, List.set_cons_zero, List.set_cons_succ])
        refine wpAnyH_ready (rs := [24]) (by kernel_rfl) (by simp) ?_
        refine (AllReadyH.cons rfl (fun K hK => ?_) AllReadyH.nil)
        have f21 := B2.frozen 1
        have c21 := B2.cell 1
        simp at c21
        go_simp
        obtain ⟨wt7, Hwt7⟩ : ∃ x, Hid (x = wt6.setCell ⟨w.heap.size + 1, 1, none⟩ (.slice A2 (k + 1) c2)) := ⟨_, rfl⟩
        rw [← Hwt7.out]
        have B3 : Blk wt7 (w.heap.size + 1) 64 #[.int .i64 3, .slice A2 (k + 1) c2] := by rw [Hwt7.out]; simpa using B2.set_ 1 (.slice A2 (k + 1) c2)
        have BR3 : Blk wt7 w.heap.size 64 #[.int .i64 0, .slice none 0 0] := by rw [Hwt7.out]; exact BR2.far (by simp) _
        have hown3 : wt7.ownsRow w0.heap.size 3 1 (.slice A2 (k + 1) c2) (k + 1) (ints (L ++ [(R : Int)])) := by rw [Hwt7.out]; exact own_same hown2 fun b hb => Below.heap_setCell _ _ _ _ (fun e => by have := (hown2.lt b hb).1; rw [e] at this; simp at this; omega)
        have T3 : Below w.heap.size w wt7 := by rw [Hwt7.out]; exact T2.setCell (p := ⟨w.heap.size + 1, 1, none⟩) (by simp) _
        have hz3 : w0.heap.size ≤ wt7.heap.size := by rw [Hwt7.out]; simpa using Nat.le_trans hzW hz2
        replace cR0 := BR3.cell 0
        simp at cR0
        refine hK.out _ _ cR0 (fun hHeld4 => ?_)
        clear hK K hHeld3
        (try simp only [Act.put, List.getElem_toArray, List.getElem_cons_zero, List.getElem_cons_succ, List.setIfInBounds_toArray, List.set_cons_zero, List.set_cons_succ])
        refine wpAnyH_done (by kernel_rfl) ?_ _
        clear f1 f1t f2 f2t f3 f3t f4 f4t f5 f6 f7 f8 f8t g1 g2 g3 g4 g5 g6 g7 g8 g0
        go_wp2_with fail
        go_roundw
        case rel => exact ⟨k + 1, A2, c2, _, by omega, by go_num, B3, hown3, HL2, BR3, T3, hz3⟩
        case measure => simp [intOf]; omega
    · obtain rfl : k = 8 := by omega
      have cG0 := BG.cell 0
      have cG1 := BG.cell 1
      have cR0 := BR.cell 0
      have cR1 := BR.cell 1
      simp at cG0 cG1 cR0 cR1
      have fR0 := BR.frozen 0
      have fR1 := BR.frozen 1
      obtain ⟨wf, HWF⟩ : ∃ wf, Hid (wf = (wr.setCell ⟨w.heap.size, 0, none⟩ (.int .i64 3)).setCell ⟨w.heap.size, 1, none⟩ (.slice A 8 c)) := ⟨_, rfl⟩
      have BLF : Hid (Blk wf w.heap.size 64 #[.int .i64 3, .slice A 8 c]) := by show Blk _ _ _ _; rw [HWF.out]; simpa using (BR.set_ 0 (.int .i64 3)).set_ 1 (.slice A 8 c)
      have OF : Hid (wf.ownsRow w0.heap.size 3 1 (.slice A 8 c) 8 (ints L)) := by show World.ownsRow _ _ _ _ _ _ _; rw [HWF.out]; exact own_same (own_same hown fun b hb => Below.heap_setCell _ _ _ _ (fun e => by have := (hown.lt b hb).1; rw [e] at this; simp at this; omega)) fun b hb => Below.heap_setCell _ _ _ _ (fun e => by have := (hown.lt b hb).1; rw [e] at this; simp at this; omega)
      have TF : Hid (Below w.heap.size w wf) := by show Below _ _ _; rw [HWF.out]; exact (hTr.setCell (p := ⟨w.heap.size, 0, none⟩) (Nat.le_refl _) _).setCell (p := ⟨w.heap.size, 1, none⟩) (Nat.le_refl _) _
      clear BG BR hown hTr
      go_wp2_with fail
      rw [← HWF.out]
      (try simp only [Exit.inBlock, Exit.then])
      refine bodyPost_ret (v := .agg #[.int .i64 3, .slice A 8 c]) (results_cell_row rfl _ _ w.heap.size 64 #[.int .i64 3, .slice A 8 c] (0, 0) _ (by simp) BLF.out Tryz.underlying64 rfl (by kernel_rfl)) rfl ?_
      have hoo := own_opE (w := w) (w' := wf) (a := 3) ⟨by omega, by omega⟩ HL.out.1 (own_mono OF.out (by omega)) fun v hv => by have := HL.out.2 v hv; exact ⟨by omega, by omega⟩
      exact ⟨L, ⟨[.int .i64 3, .slice A 8 c], _, rfl, hoo.1, hoo.2, TF.out⟩, HL.out.1, HL.out.2⟩
theorem l2Affine3_any (w : World) : Calls Tryz.prog 73 #[.int .i64 3] w fun e w' => ∃ L, ToE shOp w (3, L) e w' ∧ L.length = 27 ∧ ∀ v ∈ L, 0 ≤ v ∧ v ≤ 2 := by
  obtain ⟨w0, hw0, T0, hsz0, BR, BG⟩ := boxes2 w #[.int .i64 0, .slice none 0 0] #[.int .i64 3, .slice none 0 0] 64 64
  have hown0 : w0.ownsRow w0.heap.size 3 1 (.slice none 0 0) 0 (ints []) := ⟨rfl, .inl ⟨rfl, rfl⟩⟩
  have HW0 := Lib.hid hw0
  have hle0 : w.heap.size + 1 < w0.heap.size := by omega
  clear hw0 hsz0
  go_enter Tryz.func73, Tryz.ntmps73
  go_upto_region 2 with fail
  rw [← HW0.out]
  go_wp2_with fail
  go_loopw [4] (fun i wr => ∃ (k : Nat) (A : Option Addr) (c : Nat) (L : List Int), k ≤ 27 ∧ i = .int .i64 k ∧ Blk wr (w.heap.size + 1) 64 #[.int .i64 3, .slice A k c] ∧ wr.ownsRow w0.heap.size 3 1 (.slice A k c) k (ints L) ∧ Hid (L.length = k ∧ ∀ v ∈ L, 0 ≤ v ∧ v ≤ 2) ∧ Blk wr w.heap.size 64 #[.int .i64 0, .slice none 0 0] ∧ Below w.heap.size w wr ∧ w0.heap.size ≤ wr.heap.size) (fun i _ => 27 - (intOf i).toNat)
  case atStart => exact ⟨0, none, 0, [], Nat.zero_le _, rfl, BG, hown0, Lib.hid ⟨rfl, fun v hv => by cases hv⟩, BR, T0, Nat.le_refl _⟩
  case round =>
    clear BG hown0 BR T0
    obtain ⟨k, A, c, L, hk, rfl, BG, hown, HL, BR, hTr, hzr⟩ := hrel
    by_cases hlt : k < 27
    · have hk0 : (0 : Int) ≤ (k : Int) := by omega
      have hk1 : (k : Int) < 27 := by omega
      have cG1 := BG.cell 1
      simp at cG1
      have hown1 := hown
      have hzz := hzr
      have cR0 := BR.cell 0
      simp at cR0
      obtain ⟨D1, hD1⟩ : ∃ D, k / 9 = D := ⟨_, rfl⟩
      obtain ⟨D2, hD2⟩ : ∃ D, k / 3 = D := ⟨_, rfl⟩
      obtain ⟨D3, hD3⟩ : ∃ D, D2 % 3 = D := ⟨_, rfl⟩
      obtain ⟨D4, hD4⟩ : ∃ D, k % 3 = D := ⟨_, rfl⟩
      obtain ⟨E1, hE1⟩ : ∃ D, D1 + 3 = D := ⟨_, rfl⟩
      obtain ⟨E2, hE2⟩ : ∃ D, E1 - D3 = D := ⟨_, rfl⟩
      obtain ⟨E3, hE3⟩ : ∃ D, E2 + D4 = D := ⟨_, rfl⟩
      obtain ⟨R, hR⟩ : ∃ D, E3 % 3 = D := ⟨_, rfl⟩
      have f1 : (k : Int) / 9 = (D1 : Int) := by omega
      have f1t : (k : Int).tdiv 9 = (D1 : Int) := by rw [Int.tdiv_eq_ediv_of_nonneg hk0]; exact f1
      have f2 : (k : Int) / 3 = (D2 : Int) := by omega
      have f2t : (k : Int).tdiv 3 = (D2 : Int) := by rw [Int.tdiv_eq_ediv_of_nonneg hk0]; exact f2
      have f3 : (D2 : Int) % 3 = (D3 : Int) := by omega
      have f3t : (D2 : Int).tmod 3 = (D3 : Int) := by rw [Int.tmod_eq_emod_of_nonneg (by omega)]; exact f3
      have f4 : (k : Int) % 3 = (D4 : Int) := by omega
      have f4t : (k : Int).tmod 3 = (D4 : Int) := by rw [Int.tmod_eq_emod_of_nonneg hk0]; exact f4
      have f5 : (D1 : Int) + 3 = (E1 : Int) := by omega
      have f6 : (E1 : Int) - (D3 : Int) = (E2 : Int) := by omega
      have f7 : (E2 : Int) + (D4 : Int) = (E3 : Int) := by omega
      have f8 : (E3 : Int) % 3 = (R : Int) := by omega
      have f8t : (E3 : Int).tmod 3 = (R : Int) := by rw [Int.tmod_eq_emod_of_nonneg (by omega)]; exact f8
      have g1 : IntKind.i64.wrap (D1 : Int) = (D1 : Int) := by rw [IntKind.wrap_i64]; omega
      have g2 : IntKind.i64.wrap (D2 : Int) = (D2 : Int) := by rw [IntKind.wrap_i64]; omega
      have g3 : IntKind.i64.wrap (D3 : Int) = (D3 : Int) := by rw [IntKind.wrap_i64]; omega
      have g4 : IntKind.i64.wrap (D4 : Int) = (D4 : Int) := by rw [IntKind.wrap_i64]; omega
      have g5 : IntKind.i64.wrap (E1 : Int) = (E1 : Int) := by rw [IntKind.wrap_i64]; omega
      have g6 : IntKind.i64.wrap (E2 : Int) = (E2 : Int) := by rw [IntKind.wrap_i64]; omega
      have g7 : IntKind.i64.wrap (E3 : Int) = (E3 : Int) := by rw [IntKind.wrap_i64]; omega
      have g8 : IntKind.i64.wrap (R : Int) = (R : Int) := by rw [IntKind.wrap_i64]; omega
      have g0 : IntKind.i64.wrap 9 = 9 := by rw [IntKind.wrap_i64]; omega
      have HL2 : Hid ((L ++ [(R : Int)]).length = k + 1 ∧ ∀ v ∈ L ++ [(R : Int)], 0 ≤ v ∧ v ≤ 2) := by
        refine ⟨by rw [List.length_append, HL.out.1]; rfl, fun v hv => ?_⟩
        rcases List.mem_append.1 hv with hv | hv
        · exact HL.out.2 v hv
        · rw [List.mem_singleton.1 hv]; omega
      clear hD1 hD2 hD3 hD4 hE1 hE2 hE3 hR
      have HNX : Hid (ints L ++ [.int .i64 (R : Int)] = ints (L ++ [(R : Int)])) := by show _ = _; simp [ints]
      go_upto_region 5 with fail
      refine wp_region_held_drew (S := fun w' => w'.cell? ⟨w.heap.size, 0, none⟩ = some (.int .i64 0)) (by kernel_rfl) cR0 (fun hHeld0 => ?_)
      obtain ⟨wt1, Hwt1⟩ : ∃ x, Hid (x = World.drew wr) := ⟨_, rfl⟩
      have hbwt1 : Below wr.heap.size wr wt1 := by rw [Hwt1.out]; exact (Below.refl _ _).drew
      rw [← Hwt1.out] at hHeld0 ⊢
      have ywt1 := hbwt1.size
      replace BG := BG.next hbwt1
      replace BR := BR.next hbwt1
      replace hown1 := own_next hown1 hbwt1
      replace hTr := hTr.trans (hbwt1.mono hTr.size)
      replace cG1 := keepc hbwt1 cG1
      replace cR0 := keepc hbwt1 cR0
      refine wpAnyH_take (i := 0) (v := .pointer (some ⟨(w.heap.size + 1), 1, none⟩)) rfl (by kernel_rfl) (by kernel_rfl) (by kernel_rfl) (fun _ _ _ h => h) (Or.inl ⟨by kernel_rfl, fun _ _ => by go_simp⟩) (by assumption) ?_
      (try simp only [Act.put, List.getElem_toArray, List.getElem_cons_zero, List.getElem_cons_succ, List.setIfInBounds_toArray, List.set_cons_zero, List.set_cons_succ])
      refine wpAnyH_take (i := 2) (v := .int .i64 k) rfl (by kernel_rfl) (by kernel_rfl) (by kernel_rfl) (fun _ _ _ h => h) (Or.inl ⟨by kernel_rfl, fun _ _ => by go_simp⟩) (by assumption) ?_
      (try simp only [Act.put, List.getElem_toArray, List.getElem_cons_zero, List.getElem_cons_succ, List.setIfInBounds_toArray, List.set_cons_zero, List.set_cons_succ])
      refine wpAnyH_take (i := 3) (v := .int .i64 3) rfl (by kernel_rfl) (by kernel_rfl) (by kernel_rfl) (fun _ _ _ h => h) (Or.inl ⟨by kernel_rfl, fun _ _ => by go_simp⟩) (by assumption) ?_
      (try simp only [Act.put, List.getElem_toArray, List.getElem_cons_zero, List.getElem_cons_succ, List.setIfInBounds_toArray, List.set_cons_zero, List.set_cons_succ])
      refine wpAnyH_take (i := 4) (v := .int .i64 3) rfl (by kernel_rfl) (by kernel_rfl) (by kernel_rfl) (fun _ _ _ h => h) (Or.inl ⟨by kernel_rfl, fun _ _ => by go_simp⟩) (by assumption) ?_
      (try simp only [Act.put, List.getElem_toArray, List.getElem_cons_zero, List.getElem_cons_succ, List.setIfInBounds_toArray, List.set_cons_zero, List.set_cons_succ])
      refine wpAnyH_take (i := 5) (v := .int .i64 9) rfl (by kernel_rfl) (by kernel_rfl) (by kernel_rfl) (fun _ _ _ h => h) (Or.inl ⟨by kernel_rfl, fun _ _ => by go_simp⟩) (by assumption) ?_
      (try simp only [Act.put, List.getElem_toArray, List.getElem_cons_zero, List.getElem_cons_succ, List.setIfInBounds_toArray, List.set_cons_zero, List.set_cons_succ])
      refine wpAnyH_take (i := 6) (v := .int .i64 (D1 : Int)) rfl (by kernel_rfl) (by kernel_rfl) (by kernel_rfl) (fun _ _ _ h => h) (Or.inl ⟨by kernel_rfl, fun _ _ => by go_simp⟩) (by assumption) ?_
      (try simp only [Act.put, List.getElem_toArray, List.getElem_cons_zero, List.getElem_cons_succ, List.setIfInBounds_toArray, List.set_cons_zero, List.set_cons_succ])
      refine wpAnyH_take (i := 7) (v := .int .i64 3) rfl (by kernel_rfl) (by kernel_rfl) (by kernel_rfl) (fun _ _ _ h => h) (Or.inl ⟨by kernel_rfl, fun _ _ => by go_simp⟩) (by assumption) ?_
      (try simp only [Act.put, List.getElem_toArray, List.getElem_cons_zero, List.getElem_cons_succ, List.setIfInBounds_toArray, List.set_cons_zero, List.set_cons_succ])
      refine wpAnyH_take (i := 8) (v := .int .i64 (E1 : Int)) rfl (by kernel_rfl) (by kernel_rfl) (by kernel_rfl) (fun _ _ _ h => h) (Or.inl ⟨by kernel_rfl, fun _ _ => by go_simp⟩) (by assumption) ?_
      (try simp only [Act.put, List.getElem_toArray, List.getElem_cons_zero, List.getElem_cons_succ, List.setIfInBounds_toArray, List.set_cons_zero, List.set_cons_succ])
      refine wpAnyH_take (i := 9) (v := .int .i64 k) rfl (by kernel_rfl) (by kernel_rfl) (by kernel_rfl) (fun _ _ _ h => h) (Or.inl ⟨by kernel_rfl, fun _ _ => by go_simp⟩) (by assumption) ?_
      (try simp only [Act.put, List.getElem_toArray, List.getElem_cons_zero, List.getElem_cons_succ, List.setIfInBounds_toArray, List.set_cons_zero, List.set_cons_succ])
      refine wpAnyH_take (i := 10) (v := .int .i64 3) rfl (by kernel_rfl) (by kernel_rfl) (by kernel_rfl) (fun _ _ _ h => h) (Or.inl ⟨by kernel_rfl, fun _ _ => by go_simp⟩) (by assumption) ?_
      (try simp only [Act.put, List.getElem_toArray, List.getElem_cons_zero, List.getElem_cons_succ, List.setIfInBounds_toArray, List.set_cons_zero, List.set_cons_succ])
      refine wpAnyH_take (i := 11) (v := .int .i64 (D2 : Int)) rfl (by kernel_rfl) (by kernel_rfl) (by kernel_rfl) (fun _ _ _ h => h) (Or.inl ⟨by kernel_rfl, fun _ _ => by go_simp⟩) (by assumption) ?_
      (try simp only [Act.put, List.getElem_toArray, List.getElem_cons_zero, List.getElem_cons_succ, List.setIfInBounds_toArray, List.set_cons_zero, List.set_cons_succ])
      refine wpAnyH_take (i := 12) (v := .int .i64 3) rfl (by kernel_rfl) (by kernel_rfl) (by kernel_rfl) (fun _ _ _ h => h) (Or.inl ⟨by kernel_rfl, fun _ _ => by go_simp⟩) (by assumption) ?_
      (try simp only [Act.put, List.getElem_toArray, List.getElem_cons_zero, List.getElem_cons_succ, List.setIfInBounds_toArray, List.set_cons_zero, List.set_cons_succ])
      refine wpAnyH_take (i := 13) (v := .int .i64 (D3 : Int)) rfl (by kernel_rfl) (by kernel_rfl) (by kernel_rfl) (fun _ _ _ h => h) (Or.inl ⟨by kernel_rfl, fun _ _ => by go_simp⟩) (by assumption) ?_
      (try simp only [Act.put, List.getElem_toArray, List.getElem_cons_zero, List.getElem_cons_succ, List.setIfInBounds_toArray, List.set_cons_zero, List.set_cons_succ])
      refine wpAnyH_take (i := 14) (v := .int .i64 (E2 : Int)) rfl (by kernel_rfl) (by kernel_rfl) (by kernel_rfl) (fun _ _ _ h => h) (Or.inl ⟨by kernel_rfl, fun _ _ => by go_simp⟩) (by assumption) ?_
      (try simp only [Act.put, List.getElem_toArray, List.getElem_cons_zero, List.getElem_cons_succ, List.setIfInBounds_toArray, List.set_cons_zero, List.set_cons_succ])
      refine wpAnyH_take (i := 15) (v := .int .i64 k) rfl (by kernel_rfl) (by kernel_rfl) (by kernel_rfl) (fun _ _ _ h => h) (Or.inl ⟨by kernel_rfl, fun _ _ => by go_simp⟩) (by assumption) ?_
      (try simp only [Act.put, List.getElem_toArray, List.getElem_cons_zero, List.getElem_cons_succ, List.setIfInBounds_toArray, List.set_cons_zero, List.set_cons_succ])
      refine wpAnyH_take (i := 16) (v := .int .i64 3) rfl (by kernel_rfl) (by kernel_rfl) (by kernel_rfl) (fun _ _ _ h => h) (Or.inl ⟨by kernel_rfl, fun _ _ => by go_simp⟩) (by assumption) ?_
      (try simp only [Act.put, List.getElem_toArray, List.getElem_cons_zero, List.getElem_cons_succ, List.setIfInBounds_toArray, List.set_cons_zero, List.set_cons_succ])
      refine wpAnyH_take (i := 17) (v := .int .i64 (D4 : Int)) rfl (by kernel_rfl) (by kernel_rfl) (by kernel_rfl) (fun _ _ _ h => h) (Or.inl ⟨by kernel_rfl, fun _ _ => by go_simp⟩) (by assumption) ?_
      (try simp only [Act.put, List.getElem_toArray, List.getElem_cons_zero, List.getElem_cons_succ, List.setIfInBounds_toArray, List.set_cons_zero, List.set_cons_succ])
      refine wpAnyH_take (i := 18) (v := .int .i64 (E3 : Int)) rfl (by kernel_rfl) (by kernel_rfl) (by kernel_rfl) (fun _ _ _ h => h) (Or.inl ⟨by kernel_rfl, fun _ _ => by go_simp⟩) (by assumption) ?_
      (try simp only [Act.put, List.getElem_toArray, List.getElem_cons_zero, List.getElem_cons_succ, List.setIfInBounds_toArray, List.set_cons_zero, List.set_cons_succ])
      refine wpAnyH_take (i := 19) (v := .int .i64 3) rfl (by kernel_rfl) (by kernel_rfl) (by kernel_rfl) (fun _ _ _ h => h) (Or.inl ⟨by kernel_rfl, fun _ _ => by go_simp⟩) (by assumption) ?_
      (try simp only [Act.put, List.getElem_toArray, List.getElem_cons_zero, List.getElem_cons_succ, List.setIfInBounds_toArray, List.set_cons_zero, List.set_cons_succ])
      refine wpAnyH_take (i := 20) (v := .int .i64 (R : Int)) rfl (by kernel_rfl) (by kernel_rfl) (by kernel_rfl) (fun _ _ _ h => h) (Or.inl ⟨by kernel_rfl, fun _ _ => by go_simp⟩) (by assumption) ?_
      (try simp only [Act.put, List.getElem_toArray, List.getElem_cons_zero, List.getElem_cons_succ, List.setIfInBounds_toArray, List.set_cons_zero, List.set_cons_succ])
      refine wpAnyH_ready (rs := [1, 21]) (by kernel_rfl) (by simp) ?_
      refine (AllReadyH.cons rfl (fun K hK => ?_) (AllReadyH.cons rfl (fun K hK => ?_) AllReadyH.nil))
      · go_simp
        refine hK.out _ _ cR0 (fun hHeld1 => ?_)
        clear hK K hHeld0
        (try simp only [Act.put, List.getElem_toArray, List.getElem_cons_zero, List.getElem_cons_succ, List.setIfInBounds_toArray, List.set_cons_zero, List.set_cons_succ])
        refine wpAnyH_ready (rs := [21]) (by kernel_rfl) (by simp) ?_
        refine (AllReadyH.cons rfl (fun K hK => ?_) AllReadyH.nil)
        have hownW := hown1
        have BGW := BG
        have BRW := BR
        have hTW := hTr
        have hzW : w0.heap.size ≤ wt1.heap.size := Nat.le_trans hzr (by omega)
        go_simp
        obtain ⟨wt2, Hwt2⟩ : ∃ x, Hid (x = wt1.alloc (.cells #[.int .i64 (R : Int)] 3)) := ⟨_, Lib.hid rfl⟩
        rw [← Hwt2.out]
        have hbwt2 : Below wt1.heap.size wt1 wt2 := by rw [Hwt2.out]; exact below_box _ _
        have Bwt2 : Blk wt2 wt1.heap.size 3 #[.int .i64 (R : Int)] := by rw [Hwt2.out]; exact Blk.new _ _ _
        have zwt2 : wt1.heap.size < wt2.heap.size := Bwt2.lt
        have ywt2 := hbwt2.size
        replace BG := BG.next hbwt2
        replace BR := BR.next hbwt2
        replace hown1 := own_next hown1 hbwt2
        replace hTr := hTr.trans (hbwt2.mono hTr.size)
        replace cG1 := keepc hbwt2 cG1
        replace cR0 := keepc hbwt2 cR0
        refine hK.out _ _ cR0 (fun hHeld2 => ?_)
        clear hK K hHeld1
        (try simp only [Act.put, List.getElem_toArray, List.getElem_cons_zero, List.getElem_cons_succ, List.setIfInBounds_toArray, List.set_cons_zero, List.set_cons_succ])
        refine wpAnyH_ready (rs := [22]) (by kernel_rfl) (by simp) ?_
        refine (AllReadyH.cons rfl (fun K hK => ?_) AllReadyH.nil)
        rw [Hwt2.out]
        refine step_app1 wt1 rfl (.tmp 16) (.tmp 36) 27 3 rfl (.int .i64 0) 8 Tryz.underlying27 info_int rfl (by decide) w0.heap.size k c A (ints L) (by rfl) hownW _ rfl (by rfl) (by omega) hzW ?_
        intro A2 c2 wt3 hown2 hg2 hb2
        rw [HNX.out] at hown2
        have B2 := BGW.below hb2 hle0
        have BR2 := BRW.below hb2 (by omega)
        replace cR0 := BR2.cell 0
        simp at cR0
        have T2 := hTW.trans (hb2.mono (by omega))
        have hz2 := hb2.size
        refine hK.out _ _ cR0 (fun hHeld3 => ?_)
        clear hK K hHeld2
        (try simp only [Act.put, List.getElem_toArray, List.getElem_cons_zero, List.getElem_cons_succ, List.setIfInBounds_toArray, List.set_cons_zero, List.set_cons_succ])
        refine wpAnyH_take (i := 23) (v := .pointer (some ⟨(w.heap.size + 1), 1, none⟩)) rfl (by kernel_rfl) (by kernel_rfl) (by kernel_rfl) (fun _ _ _ h => h) (Or.inl ⟨by kernel_rfl, fun _ _ => by go_simp⟩) (by assumption) ?_
        (try simp only [Act.put, List.getElem_toArray, List.getElem_cons_zero, List.getElem_cons_succ, List.setIfInBounds_toArray, List.set_cons_zero, List.set_cons_succ])
        refine wpAnyH_ready (rs := [24]) (by kernel_rfl) (by simp) ?_
        refine (AllReadyH.cons rfl (fun K hK => ?_) AllReadyH.nil)
        have f21 := B2.frozen 1
        have c21 := B2.cell 1
        simp at c21
        go_simp
        obtain ⟨wt4, Hwt4⟩ : ∃ x, Hid (x = wt3.setCell ⟨w.heap.size + 1, 1, none⟩ (.slice A2 (k + 1) c2)) := ⟨_, rfl⟩
        rw [← Hwt4.out]
        have B3 : Blk wt4 (w.heap.size + 1) 64 #[.int .i64 3, .slice A2 (k + 1) c2] := by rw [Hwt4.out]; simpa using B2.set_ 1 (.slice A2 (k + 1) c2)
        have BR3 : Blk wt4 w.heap.size 64 #[.int .i64 0, .slice none 0 0] := by rw [Hwt4.out]; exact BR2.far (by simp) _
        have hown3 : wt4.ownsRow w0.heap.size 3 1 (.slice A2 (k + 1) c2) (k + 1) (ints (L ++ [(R : Int)])) := by rw [Hwt4.out]; exact own_same hown2 fun b hb => Below.heap_setCell _ _ _ _ (fun e => by have := (hown2.lt b hb).1; rw [e] at this; simp at this; omega)
        have T3 : Below w.heap.size w wt4 := by rw [Hwt4.out]; exact T2.setCell (p := ⟨w.heap.size + 1, 1, none⟩) (by simp) _
        have hz3 : w0.heap.size ≤ wt4.heap.size := by rw [Hwt4.out]; simpa using Nat.le_trans hzW hz2
        replace cR0 := BR3.cell 0
        simp at cR0
        refine hK.out _ _ cR0 (fun hHeld4 => ?_)
        clear hK K hHeld3
        (try simp only [Act.put, List.getElem_toArray, List.getElem_cons_zero, List.getElem_cons_succ, List.setIfInBounds_toArray, List.set_cons_zero, List.set_cons_succ])
        refine wpAnyH_done (by kernel_rfl) ?_ _
        clear f1 f1t f2 f2t f3 f3t f4 f4t f5 f6 f7 f8 f8t g1 g2 g3 g4 g5 g6 g7 g8 g0
        go_wp2_with fail
        go_roundw
        case rel => exact ⟨k + 1, A2, c2, _, by omega, by go_num, B3, hown3, HL2, BR3, T3, hz3⟩
        case measure => simp [intOf]; omega
      · have hownW := hown1
        have BGW := BG
        have BRW := BR
        have hTW := hTr
        have hzW : w0.heap.size ≤ wt1.heap.size := Nat.le_trans hzr (by omega)
        go_simp
        obtain ⟨wt5, Hwt5⟩ : ∃ x, Hid (x = wt1.alloc (.cells #[.int .i64 (R : Int)] 3)) := ⟨_, Lib.hid rfl⟩
        rw [← Hwt5.out]
        have hbwt5 : Below wt1.heap.size wt1 wt5 := by rw [Hwt5.out]; exact below_box _ _
        have Bwt5 : Blk wt5 wt1.heap.size 3 #[.int .i64 (R : Int)] := by rw [Hwt5.out]; exact Blk.new _ _ _
        have zwt5 : wt1.heap.size < wt5.heap.size := Bwt5.lt
        have ywt5 := hbwt5.size
        replace BG := BG.next hbwt5
        replace BR := BR.next hbwt5
        replace hown1 := own_next hown1 hbwt5
        replace hTr := hTr.trans (hbwt5.mono hTr.size)
        replace cG1 := keepc hbwt5 cG1
        replace cR0 := keepc hbwt5 cR0
        refine hK.out _ _ cR0 (fun hHeld1 => ?_)
        clear hK K hHeld0
        (try simp only [Act.put, List.getElem_toArray, List.getElem_cons_zero, List.getElem_cons_succ, List.setIfInBounds_toArray, List.set_cons_zero, List.set_cons_succ])
        refine wpAnyH_ready (rs := [1]) (by kernel_rfl) (by simp) ?_
        refine (AllReadyH.cons rfl (fun K hK => ?_) AllReadyH.nil)
        go_simp
        refine hK.out _ _ cR0 (fun hHeld2 => ?_)
        clear hK K hHeld1
        (try simp only [Act.put, List.getElem_toArray, List.getElem_cons_zero, List.getElem_cons_succ, List.setIfInBounds_toArray, List.set_cons_zero, List.set_cons_succ])
        refine wpAnyH_ready (rs := [22]) (by kernel_rfl) (by simp) ?_
        refine (AllReadyH.cons rfl (fun K hK => ?_) AllReadyH.nil)
        rw [Hwt5.out]
        refine step_app1 wt1 rfl (.tmp 16) (.tmp 36) 27 3 rfl (.int .i64 0) 8 Tryz.underlying27 info_int rfl (by decide) w0.heap.size k c A (ints L) (by rfl) hownW _ rfl (by rfl) (by omega) hzW ?_
        intro A2 c2 wt6 hown2 hg2 hb2
        rw [HNX.out] at hown2
        have B2 := BGW.below hb2 hle0
        have BR2 := BRW.below hb2 (by omega)
        replace cR0 := BR2.cell 0
        simp at cR0
        have T2 := hTW.trans (hb2.mono (by omega))
        have hz2 := hb2.size
        refine hK.out _ _ cR0 (fun hHeld3 => ?_)
        clear hK K hHeld2
        (try simp only [Act.put, List.getElem_toArray, List.getElem_cons_zero, List.getElem_cons_succ, List.setIfInBounds_toArray, List.set_cons_zero, List.set_cons_succ])
        refine wpAnyH_take (i := 23) (v := .pointer (some ⟨(w.heap.size + 1), 1, none⟩)) rfl (by kernel_rfl) (by kernel_rfl) (by kernel_rfl) (fun _ _ _ h => h) (Or.inl ⟨by kernel_rfl, fun _ _ => by go_simp⟩) (by assumption) ?_
        (try simp only [Act.put, List.getElem_toArray, List.getElem_cons_zero, List.getElem_cons_succ, List.setIfInBounds_toArray, List.set_cons_zero, List.set_cons_succ])
        refine wpAnyH_ready (rs := [24]) (by kernel_rfl) (by simp) ?_
        refine (AllReadyH.cons rfl (fun K hK => ?_) AllReadyH.nil)
        have f21 := B2.frozen 1
        have c21 := B2.cell 1
        simp at c21
        go_simp
        obtain ⟨wt7, Hwt7⟩ : ∃ x, Hid (x = wt6.setCell ⟨w.heap.size + 1, 1, none⟩ (.slice A2 (k + 1) c2)) := ⟨_, rfl⟩
        rw [← Hwt7.out]
        have B3 : Blk wt7 (w.heap.size + 1) 64 #[.int .i64 3, .slice A2 (k + 1) c2] := by rw [Hwt7.out]; simpa using B2.set_ 1 (.slice A2 (k + 1) c2)
        have BR3 : Blk wt7 w.heap.size 64 #[.int .i64 0, .slice none 0 0] := by rw [Hwt7.out]; exact BR2.far (by simp) _
        have hown3 : wt7.ownsRow w0.heap.size 3 1 (.slice A2 (k + 1) c2) (k + 1) (ints (L ++ [(R : Int)])) := by rw [Hwt7.out]; exact own_same hown2 fun b hb => Below.heap_setCell _ _ _ _ (fun e => by have := (hown2.lt b hb).1; rw [e] at this; simp at this; omega)
        have T3 : Below w.heap.size w wt7 := by rw [Hwt7.out]; exact T2.setCell (p := ⟨w.heap.size + 1, 1, none⟩) (by simp) _
        have hz3 : w0.heap.size ≤ wt7.heap.size := by rw [Hwt7.out]; simpa using Nat.le_trans hzW hz2
        replace cR0 := BR3.cell 0
        simp at cR0
        refine hK.out _ _ cR0 (fun hHeld4 => ?_)
        clear hK K hHeld3
        (try simp only [Act.put, List.getElem_toArray, List.getElem_cons_zero, List.getElem_cons_succ, List.setIfInBounds_toArray, List.set_cons_zero, List.set_cons_succ])
        refine wpAnyH_done (by kernel_rfl) ?_ _
        clear f1 f1t f2 f2t f3 f3t f4 f4t f5 f6 f7 f8 f8t g1 g2 g3 g4 g5 g6 g7 g8 g0
        go_wp2_with fail
        go_roundw
        case rel => exact ⟨k + 1, A2, c2, _, by omega, by go_num, B3, hown3, HL2, BR3, T3, hz3⟩
        case measure => simp [intOf]; omega
    · obtain rfl : k = 27 := by omega
      have cG0 := BG.cell 0
      have cG1 := BG.cell 1
      have cR0 := BR.cell 0
      have cR1 := BR.cell 1
      simp at cG0 cG1 cR0 cR1
      have fR0 := BR.frozen 0
      have fR1 := BR.frozen 1
      obtain ⟨wf, HWF⟩ : ∃ wf, Hid (wf = (wr.setCell ⟨w.heap.size, 0, none⟩ (.int .i64 3)).setCell ⟨w.heap.size, 1, none⟩ (.slice A 27 c)) := ⟨_, rfl⟩
      have BLF : Hid (Blk wf w.heap.size 64 #[.int .i64 3, .slice A 27 c]) := by show Blk _ _ _ _; rw [HWF.out]; simpa using (BR.set_ 0 (.int .i64 3)).set_ 1 (.slice A 27 c)
      have OF : Hid (wf.ownsRow w0.heap.size 3 1 (.slice A 27 c) 27 (ints L)) := by show World.ownsRow _ _ _ _ _ _ _; rw [HWF.out]; exact own_same (own_same hown fun b hb => Below.heap_setCell _ _ _ _ (fun e => by have := (hown.lt b hb).1; rw [e] at this; simp at this; omega)) fun b hb => Below.heap_setCell _ _ _ _ (fun e => by have := (hown.lt b hb).1; rw [e] at this; simp at this; omega)
      have TF : Hid (Below w.heap.size w wf) := by show Below _ _ _; rw [HWF.out]; exact (hTr.setCell (p := ⟨w.heap.size, 0, none⟩) (Nat.le_refl _) _).setCell (p := ⟨w.heap.size, 1, none⟩) (Nat.le_refl _) _
      clear BG BR hown hTr
      go_wp2_with fail
      rw [← HWF.out]
      (try simp only [Exit.inBlock, Exit.then])
      refine bodyPost_ret (v := .agg #[.int .i64 3, .slice A 27 c]) (results_cell_row rfl _ _ w.heap.size 64 #[.int .i64 3, .slice A 27 c] (0, 0) _ (by simp) BLF.out Tryz.underlying64 rfl (by kernel_rfl)) rfl ?_
      have hoo := own_opE (w := w) (w' := wf) (a := 3) ⟨by omega, by omega⟩ HL.out.1 (own_mono OF.out (by omega)) fun v hv => by have := HL.out.2 v hv; exact ⟨by omega, by omega⟩
      exact ⟨L, ⟨[.int .i64 3, .slice A 27 c], _, rfl, hoo.1, hoo.2, TF.out⟩, HL.out.1, HL.out.2⟩
theorem l2Known_any (k : Int) (w : World) (hk : 0 ≤ k) : Calls Tryz.prog 41 #[.int .i64 k] w fun e w' => ∃ x, ToE shAlgebra w x e w' ∧ SmallP x := by
  obtain ⟨w0, hw0, T0, hsz0, BR⟩ := boxes1 w #[.int .i64 0, .slice none 0 0] 26
  have HW0 := Lib.hid hw0
  have hle0 : w.heap.size < w0.heap.size := by omega
  clear hw0 hsz0
  obtain rfl | rfl | rfl | rfl | rfl | rfl | rfl | rfl | rfl | rfl | rfl | rfl | rfl | rfl | rfl | rfl | hk : k = 0 ∨ k = 1 ∨ k = 2 ∨ k = 3 ∨ k = 4 ∨ k = 5 ∨ k = 6 ∨ k = 7 ∨ k = 8 ∨ k = 9 ∨ k = 10 ∨ k = 11 ∨ k = 12 ∨ k = 13 ∨ k = 14 ∨ k = 15 ∨ 16 ≤ k := by omega
  · go_enter Tryz.func41, Tryz.ntmps41
    go_upto_region 3 with fail
    rw [← HW0.out]
    go_wp2_with fail
    refine (l2Binary_any ⟨#[48, 48, 48, 49]⟩ w0 (by decide)).mono ?_
    rintro e w1003 ⟨cs0, bl0, rfl, O0, I0, hb0⟩
    obtain ⟨A0, n0, c0, rfl, -, -⟩ := rdOp (shOp.ord O0)
    replace T0 := below_next T0 hb0 rfl
    replace BR := BR.next hb0
    have zw1003 := hb0.size
    have hiv : Iv w0.heap.size w1003.heap.size ([bl0].flatten : List Nat) := (Iv.app0 (I0.mono (Nat.le_refl _) (by omega)))
    obtain ⟨w1010, Hw1010⟩ : ∃ x, Hid (x = w1003.alloc (.cells #[.int .i64 2, .slice A0 n0 c0] 64)) := ⟨_, Lib.hid rfl⟩
    have hbw1010 : Below w1003.heap.size w1003 w1010 := by rw [Hw1010.out]; exact below_box _ _
    have hPO : PO w0.heap.size w1010 (.slice (some ⟨w1003.heap.size, 0, none⟩) 1 1) [(2, binL ⟨#[48, 48, 48, 49]⟩)] [[.int .i64 2, .slice A0 n0 c0]] [bl0] := by
      rw [Hw1010.out]
      have := PO.make (n := 1) (cells := #[.int .i64 2, .slice A0 n0 c0]) (OwnL.cons O0 (OwnL.nil _)) hiv (by omega) rfl (by decide) rfl
      exact this
    replace T0 := below_next T0 hbw1010 rfl
    replace BR := BR.next hbw1010
    have zw1010 := hbw1010.size
    have cR0 := BR.cell 0
    have cR1 := BR.cell 1
    simp at cR0 cR1
    have fR0 := BR.frozen 0
    have fR1 := BR.frozen 1
    rw [Hw1010.out] at cR0 cR1 fR0 fR1
    obtain ⟨wf, HWF⟩ : ∃ wf, Hid (wf = (w1010.setCell ⟨w.heap.size, 0, none⟩ (.int .i64 2)).setCell ⟨w.heap.size, 1, none⟩ (.slice (some ⟨w1003.heap.size, 0, none⟩) 1 1)) := ⟨_, Lib.hid rfl⟩
    have BLF : Hid (Blk wf w.heap.size 26 #[.int .i64 2, .slice (some ⟨w1003.heap.size, 0, none⟩) 1 1]) := by show Blk _ _ _ _; rw [HWF.out]; simpa using (BR.set_ 0 (.int .i64 2)).set_ 1 (.slice (some ⟨w1003.heap.size, 0, none⟩) 1 1)
    have hlo : w.heap.size < w0.heap.size := by omega
    have PF : Hid (PO w0.heap.size wf (.slice (some ⟨w1003.heap.size, 0, none⟩) 1 1) [(2, binL ⟨#[48, 48, 48, 49]⟩)] [[.int .i64 2, .slice A0 n0 c0]] [bl0]) := by show PO _ _ _ _ _ _; rw [HWF.out]; exact (hPO.far (p := ⟨w.heap.size, 0, none⟩) hlo _).far (p := ⟨w.heap.size, 1, none⟩) hlo _
    have TF : Hid (Below w.heap.size w wf) := by show Below _ _ _; rw [HWF.out]; exact (T0.setCell (p := ⟨w.heap.size, 0, none⟩) (Nat.le_refl _) _).setCell (p := ⟨w.heap.size, 1, none⟩) (Nat.le_refl _) _
    clear hPO T0 BR hiv O0 I0
    go_wp2_with fail
    rw [← Hw1010.out]
    rw [← HWF.out]
    (try simp only [Exit.inBlock, Exit.then])
    refine bodyPost_ret (v := .agg #[.int .i64 2, .slice (some ⟨w1003.heap.size, 0, none⟩) 1 1]) (results_cell_row rfl _ _ w.heap.size 26 #[.int .i64 2, .slice (some ⟨w1003.heap.size, 0, none⟩) 1 1] (0, 0) _ (by simp) BLF.out Tryz.underlying26 rfl (by kernel_rfl)) rfl ?_
    exact ⟨(2, [(2, binL ⟨#[48, 48, 48, 49]⟩)]), ⟨[.int .i64 2, .slice (some ⟨w1003.heap.size, 0, none⟩) 1 1], _, rfl, PF.out.algK ⟨by omega, by omega⟩, PF.out.2.2.mono (by omega) (Nat.le_refl _), TF.out⟩, small_iff.1 (by decide +kernel)⟩
  · go_enter Tryz.func41, Tryz.ntmps41
    go_upto_region 5 with fail
    rw [← HW0.out]
    go_wp2_with fail
    refine (l2Binary_any ⟨#[48, 48, 48, 49]⟩ w0 (by decide)).mono ?_
    rintro e w1003 ⟨cs0, bl0, rfl, O0, I0, hb0⟩
    obtain ⟨A0, n0, c0, rfl, -, -⟩ := rdOp (shOp.ord O0)
    replace T0 := below_next T0 hb0 rfl
    replace BR := BR.next hb0
    have zw1003 := hb0.size
    go_wp2_with fail
    refine (l2Binary_any ⟨#[48, 49, 49, 49]⟩ w1003 (by decide)).mono ?_
    rintro e w1010 ⟨cs1, bl1, rfl, O1, I1, hb1⟩
    obtain ⟨A1, n1, c1, rfl, -, -⟩ := rdOp (shOp.ord O1)
    replace T0 := below_next T0 hb1 rfl
    replace BR := BR.next hb1
    have zw1010 := hb1.size
    replace O0 := Sh.onext O0 hb1
    have hiv : Iv w0.heap.size w1010.heap.size ([bl0, bl1].flatten : List Nat) := (Iv.app I0 (Iv.app0 (I1.mono (Nat.le_refl _) (by omega))) (by omega) (by omega) (by omega))
    obtain ⟨w1018, Hw1018⟩ : ∃ x, Hid (x = w1010.alloc (.cells #[.int .i64 2, .slice A0 n0 c0, .int .i64 2, .slice A1 n1 c1] 64)) := ⟨_, Lib.hid rfl⟩
    have hbw1018 : Below w1010.heap.size w1010 w1018 := by rw [Hw1018.out]; exact below_box _ _
    have hPO : PO w0.heap.size w1018 (.slice (some ⟨w1010.heap.size, 0, none⟩) 2 2) [(2, binL ⟨#[48, 48, 48, 49]⟩), (2, binL ⟨#[48, 49, 49, 49]⟩)] [[.int .i64 2, .slice A0 n0 c0], [.int .i64 2, .slice A1 n1 c1]] [bl0, bl1] := by
      rw [Hw1018.out]
      have := PO.make (n := 2) (cells := #[.int .i64 2, .slice A0 n0 c0, .int .i64 2, .slice A1 n1 c1]) (OwnL.cons O0 (OwnL.cons O1 (OwnL.nil _))) hiv (by omega) rfl (by decide) rfl
      exact this
    replace T0 := below_next T0 hbw1018 rfl
    replace BR := BR.next hbw1018
    have zw1018 := hbw1018.size
    have cR0 := BR.cell 0
    have cR1 := BR.cell 1
    simp at cR0 cR1
    have fR0 := BR.frozen 0
    have fR1 := BR.frozen 1
    rw [Hw1018.out] at cR0 cR1 fR0 fR1
    obtain ⟨wf, HWF⟩ : ∃ wf, Hid (wf = (w1018.setCell ⟨w.heap.size, 0, none⟩ (.int .i64 2)).setCell ⟨w.heap.size, 1, none⟩ (.slice (some ⟨w1010.heap.size, 0, none⟩) 2 2)) := ⟨_, Lib.hid rfl⟩
    have BLF : Hid (Blk wf w.heap.size 26 #[.int .i64 2, .slice (some ⟨w1010.heap.size, 0, none⟩) 2 2]) := by show Blk _ _ _ _; rw [HWF.out]; simpa using (BR.set_ 0 (.int .i64 2)).set_ 1 (.slice (some ⟨w1010.heap.size, 0, none⟩) 2 2)
    have hlo : w.heap.size < w0.heap.size := by omega
    have PF : Hid (PO w0.heap.size wf (.slice (some ⟨w1010.heap.size, 0, none⟩) 2 2) [(2, binL ⟨#[48, 48, 48, 49]⟩), (2, binL ⟨#[48, 49, 49, 49]⟩)] [[.int .i64 2, .slice A0 n0 c0], [.int .i64 2, .slice A1 n1 c1]] [bl0, bl1]) := by show PO _ _ _ _ _ _; rw [HWF.out]; exact (hPO.far (p := ⟨w.heap.size, 0, none⟩) hlo _).far (p := ⟨w.heap.size, 1, none⟩) hlo _
    have TF : Hid (Below w.heap.size w wf) := by show Below _ _ _; rw [HWF.out]; exact (T0.setCell (p := ⟨w.heap.size, 0, none⟩) (Nat.le_refl _) _).setCell (p := ⟨w.heap.size, 1, none⟩) (Nat.le_refl _) _
    clear hPO T0 BR hiv O0 O1 I0 I1
    go_wp2_with fail
    rw [← Hw1018.out]
    rw [← HWF.out]
    (try simp only [Exit.inBlock, Exit.then])
    refine bodyPost_ret (v := .agg #[.int .i64 2, .slice (some ⟨w1010.heap.size, 0, none⟩) 2 2]) (results_cell_row rfl _ _ w.heap.size 26 #[.int .i64 2, .slice (some ⟨w1010.heap.size, 0, none⟩) 2 2] (0, 0) _ (by simp) BLF.out Tryz.underlying26 rfl (by kernel_rfl)) rfl ?_
    exact ⟨(2, [(2, binL ⟨#[48, 48, 48, 49]⟩), (2, binL ⟨#[48, 49, 49, 49]⟩)]), ⟨[.int .i64 2, .slice (some ⟨w1010.heap.size, 0, none⟩) 2 2], _, rfl, PF.out.algK ⟨by omega, by omega⟩, PF.out.2.2.mono (by omega) (Nat.le_refl _), TF.out⟩, small_iff.1 (by decide +kernel)⟩
  · go_enter Tryz.func41, Tryz.ntmps41
    go_upto_region 7 with fail
    rw [← HW0.out]
    go_wp2_with fail
    refine (l2Binary_any ⟨#[48, 48, 48, 49]⟩ w0 (by decide)).mono ?_
    rintro e w1003 ⟨cs0, bl0, rfl, O0, I0, hb0⟩
    obtain ⟨A0, n0, c0, rfl, -, -⟩ := rdOp (shOp.ord O0)
    replace T0 := below_next T0 hb0 rfl
    replace BR := BR.next hb0
    have zw1003 := hb0.size
    go_wp2_with fail
    refine (l2Binary_any ⟨#[48, 49, 49, 49]⟩ w1003 (by decide)).mono ?_
    rintro e w1010 ⟨cs1, bl1, rfl, O1, I1, hb1⟩
    obtain ⟨A1, n1, c1, rfl, -, -⟩ := rdOp (shOp.ord O1)
    replace T0 := below_next T0 hb1 rfl
    replace BR := BR.next hb1
    have zw1010 := hb1.size
    replace O0 := Sh.onext O0 hb1
    obtain ⟨w1018, Hw1018⟩ : ∃ x, Hid (x = w1010.alloc (.cells #[.int .i64 1, .int .i64 0] 3)) := ⟨_, Lib.hid rfl⟩
    have hbw1018 : Below w1010.heap.size w1010 w1018 := by rw [Hw1018.out]; exact below_box _ _
    replace T0 := below_next T0 hbw1018 rfl
    replace BR := BR.next hbw1018
    have zw1018 := hbw1018.size
    replace O0 := Sh.onext O0 hbw1018
    replace O1 := Sh.onext O1 hbw1018
    have yw1018 : w1018.heap.size = w1010.heap.size + 1 := by rw [Hw1018.out]; simp
    have ew1018 : w1018.heap.size = w1010.heap.size + 1 := by omega
    have O2 : shOp.own w1018 [.int .i64 1, .slice (some ⟨w1010.heap.size, 0, none⟩) 2 2] (1, [1, 0]) [w1010.heap.size] := by
      have := own_tab (w := w1010) (a := 1) (L := [1, 0]) (n := 2) ⟨by omega, by omega⟩ rfl (by decide) (by intro x hx; simp at hx; unfold InR; omega)
      have hh : shOp.own w1018 [.int .i64 1, .slice (some ⟨w1010.heap.size, 0, none⟩) 2 2] (1, [1, 0]) [w1010.heap.size] := by rw [Hw1018.out]; exact this
      exact hh
    have I2 : Iv w1010.heap.size w1018.heap.size [w1010.heap.size] := ⟨by simp, fun b hb => by simp at hb; omega⟩
    have hiv : Iv w0.heap.size w1018.heap.size ([bl0, bl1, [w1010.heap.size]].flatten : List Nat) := (Iv.app I0 (Iv.app I1 (Iv.app0 (I2.mono (Nat.le_refl _) (by omega))) (by omega) (by omega) (by omega)) (by omega) (by omega) (by omega))
    obtain ⟨w1032, Hw1032⟩ : ∃ x, Hid (x = w1018.alloc (.cells #[.int .i64 2, .slice A0 n0 c0, .int .i64 2, .slice A1 n1 c1, .int .i64 1, .slice (some ⟨w1010.heap.size, 0, none⟩) 2 2] 64)) := ⟨_, Lib.hid rfl⟩
    have hbw1032 : Below w1018.heap.size w1018 w1032 := by rw [Hw1032.out]; exact below_box _ _
    have hPO : PO w0.heap.size w1032 (.slice (some ⟨w1010.heap.size + 1, 0, none⟩) 3 3) [(2, binL ⟨#[48, 48, 48, 49]⟩), (2, binL ⟨#[48, 49, 49, 49]⟩), (1, [1, 0])] [[.int .i64 2, .slice A0 n0 c0], [.int .i64 2, .slice A1 n1 c1], [.int .i64 1, .slice (some ⟨w1010.heap.size, 0, none⟩) 2 2]] [bl0, bl1, [w1010.heap.size]] := by
      rw [Hw1032.out]
      have := PO.make (n := 3) (cells := #[.int .i64 2, .slice A0 n0 c0, .int .i64 2, .slice A1 n1 c1, .int .i64 1, .slice (some ⟨w1010.heap.size, 0, none⟩) 2 2]) (OwnL.cons O0 (OwnL.cons O1 (OwnL.cons O2 (OwnL.nil _)))) hiv (by omega) rfl (by decide) rfl
      rw [ew1018] at this
      exact this
    replace T0 := below_next T0 hbw1032 rfl
    replace BR := BR.next hbw1032
    have zw1032 := hbw1032.size
    have cR0 := BR.cell 0
    have cR1 := BR.cell 1
    simp at cR0 cR1
    have fR0 := BR.frozen 0
    have fR1 := BR.frozen 1
    rw [Hw1032.out] at cR0 cR1 fR0 fR1
    rw [Hw1018.out] at cR0 cR1 fR0 fR1
    obtain ⟨wf, HWF⟩ : ∃ wf, Hid (wf = (w1032.setCell ⟨w.heap.size, 0, none⟩ (.int .i64 2)).setCell ⟨w.heap.size, 1, none⟩ (.slice (some ⟨w1010.heap.size + 1, 0, none⟩) 3 3)) := ⟨_, Lib.hid rfl⟩
    have BLF : Hid (Blk wf w.heap.size 26 #[.int .i64 2, .slice (some ⟨w1010.heap.size + 1, 0, none⟩) 3 3]) := by show Blk _ _ _ _; rw [HWF.out]; simpa using (BR.set_ 0 (.int .i64 2)).set_ 1 (.slice (some ⟨w1010.heap.size + 1, 0, none⟩) 3 3)
    have hlo : w.heap.size < w0.heap.size := by omega
    have PF : Hid (PO w0.heap.size wf (.slice (some ⟨w1010.heap.size + 1, 0, none⟩) 3 3) [(2, binL ⟨#[48, 48, 48, 49]⟩), (2, binL ⟨#[48, 49, 49, 49]⟩), (1, [1, 0])] [[.int .i64 2, .slice A0 n0 c0], [.int .i64 2, .slice A1 n1 c1], [.int .i64 1, .slice (some ⟨w1010.heap.size, 0, none⟩) 2 2]] [bl0, bl1, [w1010.heap.size]]) := by show PO _ _ _ _ _ _; rw [HWF.out]; exact (hPO.far (p := ⟨w.heap.size, 0, none⟩) hlo _).far (p := ⟨w.heap.size, 1, none⟩) hlo _
    have TF : Hid (Below w.heap.size w wf) := by show Below _ _ _; rw [HWF.out]; exact (T0.setCell (p := ⟨w.heap.size, 0, none⟩) (Nat.le_refl _) _).setCell (p := ⟨w.heap.size, 1, none⟩) (Nat.le_refl _) _
    clear hPO T0 BR hiv O0 O1 O2 I0 I1 I2
    go_wp2_with fail
    rw [← Hw1018.out]
    rw [← Hw1032.out]
    rw [← HWF.out]
    (try simp only [Exit.inBlock, Exit.then])
    refine bodyPost_ret (v := .agg #[.int .i64 2, .slice (some ⟨w1010.heap.size + 1, 0, none⟩) 3 3]) (results_cell_row rfl _ _ w.heap.size 26 #[.int .i64 2, .slice (some ⟨w1010.heap.size + 1, 0, none⟩) 3 3] (0, 0) _ (by simp) BLF.out Tryz.underlying26 rfl (by kernel_rfl)) rfl ?_
    exact ⟨(2, [(2, binL ⟨#[48, 48, 48, 49]⟩), (2, binL ⟨#[48, 49, 49, 49]⟩), (1, [1, 0])]), ⟨[.int .i64 2, .slice (some ⟨w1010.heap.size + 1, 0, none⟩) 3 3], _, rfl, PF.out.algK ⟨by omega, by omega⟩, PF.out.2.2.mono (by omega) (Nat.le_refl _), TF.out⟩, small_iff.1 (by decide +kernel)⟩
  · go_enter Tryz.func41, Tryz.ntmps41
    go_upto_region 9 with fail
    rw [← HW0.out]
    go_wp2_with fail
    refine (l2Affine2_any w0).mono ?_
    rintro e w1003 ⟨L0, ⟨cs0, bl0, rfl, O0, I0, hb0⟩, hl0, hv0⟩
    obtain ⟨A0, n0, c0, rfl, -, -⟩ := rdOp (shOp.ord O0)
    replace T0 := below_next T0 hb0 rfl
    replace BR := BR.next hb0
    have zw1003 := hb0.size
    have hiv : Iv w0.heap.size w1003.heap.size ([bl0].flatten : List Nat) := (Iv.app0 (I0.mono (Nat.le_refl _) (by omega)))
    obtain ⟨w1010, Hw1010⟩ : ∃ x, Hid (x = w1003.alloc (.cells #[.int .i64 3, .slice A0 n0 c0] 64)) := ⟨_, Lib.hid rfl⟩
    have hbw1010 : Below w1003.heap.size w1003 w1010 := by rw [Hw1010.out]; exact below_box _ _
    have hPO : PO w0.heap.size w1010 (.slice (some ⟨w1003.heap.size, 0, none⟩) 1 1) [(3, L0)] [[.int .i64 3, .slice A0 n0 c0]] [bl0] := by
      rw [Hw1010.out]
      have := PO.make (n := 1) (cells := #[.int .i64 3, .slice A0 n0 c0]) (OwnL.cons O0 (OwnL.nil _)) hiv (by omega) rfl (by decide) rfl
      exact this
    replace T0 := below_next T0 hbw1010 rfl
    replace BR := BR.next hbw1010
    have zw1010 := hbw1010.size
    have cR0 := BR.cell 0
    have cR1 := BR.cell 1
    simp at cR0 cR1
    have fR0 := BR.frozen 0
    have fR1 := BR.frozen 1
    rw [Hw1010.out] at cR0 cR1 fR0 fR1
    obtain ⟨wf, HWF⟩ : ∃ wf, Hid (wf = (w1010.setCell ⟨w.heap.size, 0, none⟩ (.int .i64 2)).setCell ⟨w.heap.size, 1, none⟩ (.slice (some ⟨w1003.heap.size, 0, none⟩) 1 1)) := ⟨_, Lib.hid rfl⟩
    have BLF : Hid (Blk wf w.heap.size 26 #[.int .i64 2, .slice (some ⟨w1003.heap.size, 0, none⟩) 1 1]) := by show Blk _ _ _ _; rw [HWF.out]; simpa using (BR.set_ 0 (.int .i64 2)).set_ 1 (.slice (some ⟨w1003.heap.size, 0, none⟩) 1 1)
    have hlo : w.heap.size < w0.heap.size := by omega
    have PF : Hid (PO w0.heap.size wf (.slice (some ⟨w1003.heap.size, 0, none⟩) 1 1) [(3, L0)] [[.int .i64 3, .slice A0 n0 c0]] [bl0]) := by show PO _ _ _ _ _ _; rw [HWF.out]; exact (hPO.far (p := ⟨w.heap.size, 0, none⟩) hlo _).far (p := ⟨w.heap.size, 1, none⟩) hlo _
    have TF : Hid (Below w.heap.size w wf) := by show Below _ _ _; rw [HWF.out]; exact (T0.setCell (p := ⟨w.heap.size, 0, none⟩) (Nat.le_refl _) _).setCell (p := ⟨w.heap.size, 1, none⟩) (Nat.le_refl _) _
    clear hPO T0 BR hiv O0 I0
    go_wp2_with fail
    rw [← Hw1010.out]
    rw [← HWF.out]
    (try simp only [Exit.inBlock, Exit.then])
    refine bodyPost_ret (v := .agg #[.int .i64 2, .slice (some ⟨w1003.heap.size, 0, none⟩) 1 1]) (results_cell_row rfl _ _ w.heap.size 26 #[.int .i64 2, .slice (some ⟨w1003.heap.size, 0, none⟩) 1 1] (0, 0) _ (by simp) BLF.out Tryz.underlying26 rfl (by kernel_rfl)) rfl ?_
    exact ⟨(2, [(3, L0)]), ⟨[.int .i64 2, .slice (some ⟨w1003.heap.size, 0, none⟩) 1 1], _, rfl, PF.out.algK ⟨by omega, by omega⟩, PF.out.2.2.mono (by omega) (Nat.le_refl _), TF.out⟩, ⟨by show (1 : Int) ≤ 2; omega, by show (2 : Int) ≤ 5; omega, by simp, fun o ho => by
          rw [List.mem_singleton.1 ho]
          exact ⟨by show (0 : Int) ≤ 3; omega, by show (3 : Int) ≤ 3; omega, hl0, fun v hv => by have := hv0 v hv; simp; omega⟩⟩⟩
  · go_enter Tryz.func41, Tryz.ntmps41
    go_upto_region 11 with fail
    rw [← HW0.out]
    go_wp2_with fail
    refine (l2Binary_any ⟨#[48, 49, 50, 49, 50, 48, 50, 48, 49]⟩ w0 (by decide)).mono ?_
    rintro e w1003 ⟨cs0, bl0, rfl, O0, I0, hb0⟩
    obtain ⟨A0, n0, c0, rfl, -, -⟩ := rdOp (shOp.ord O0)
    replace T0 := below_next T0 hb0 rfl
    replace BR := BR.next hb0
    have zw1003 := hb0.size
    have hiv : Iv w0.heap.size w1003.heap.size ([bl0].flatten : List Nat) := (Iv.app0 (I0.mono (Nat.le_refl _) (by omega)))
    obtain ⟨w1010, Hw1010⟩ : ∃ x, Hid (x = w1003.alloc (.cells #[.int .i64 2, .slice A0 n0 c0] 64)) := ⟨_, Lib.hid rfl⟩
    have hbw1010 : Below w1003.heap.size w1003 w1010 := by rw [Hw1010.out]; exact below_box _ _
    have hPO : PO w0.heap.size w1010 (.slice (some ⟨w1003.heap.size, 0, none⟩) 1 1) [(2, binL ⟨#[48, 49, 50, 49, 50, 48, 50, 48, 49]⟩)] [[.int .i64 2, .slice A0 n0 c0]] [bl0] := by
      rw [Hw1010.out]
      have := PO.make (n := 1) (cells := #[.int .i64 2, .slice A0 n0 c0]) (OwnL.cons O0 (OwnL.nil _)) hiv (by omega) rfl (by decide) rfl
      exact this
    replace T0 := below_next T0 hbw1010 rfl
    replace BR := BR.next hbw1010
    have zw1010 := hbw1010.size
    have cR0 := BR.cell 0
    have cR1 := BR.cell 1
    simp at cR0 cR1
    have fR0 := BR.frozen 0
    have fR1 := BR.frozen 1
    rw [Hw1010.out] at cR0 cR1 fR0 fR1
    obtain ⟨wf, HWF⟩ : ∃ wf, Hid (wf = (w1010.setCell ⟨w.heap.size, 0, none⟩ (.int .i64 3)).setCell ⟨w.heap.size, 1, none⟩ (.slice (some ⟨w1003.heap.size, 0, none⟩) 1 1)) := ⟨_, Lib.hid rfl⟩
    have BLF : Hid (Blk wf w.heap.size 26 #[.int .i64 3, .slice (some ⟨w1003.heap.size, 0, none⟩) 1 1]) := by show Blk _ _ _ _; rw [HWF.out]; simpa using (BR.set_ 0 (.int .i64 3)).set_ 1 (.slice (some ⟨w1003.heap.size, 0, none⟩) 1 1)
    have hlo : w.heap.size < w0.heap.size := by omega
    have PF : Hid (PO w0.heap.size wf (.slice (some ⟨w1003.heap.size, 0, none⟩) 1 1) [(2, binL ⟨#[48, 49, 50, 49, 50, 48, 50, 48, 49]⟩)] [[.int .i64 2, .slice A0 n0 c0]] [bl0]) := by show PO _ _ _ _ _ _; rw [HWF.out]; exact (hPO.far (p := ⟨w.heap.size, 0, none⟩) hlo _).far (p := ⟨w.heap.size, 1, none⟩) hlo _
    have TF : Hid (Below w.heap.size w wf) := by show Below _ _ _; rw [HWF.out]; exact (T0.setCell (p := ⟨w.heap.size, 0, none⟩) (Nat.le_refl _) _).setCell (p := ⟨w.heap.size, 1, none⟩) (Nat.le_refl _) _
    clear hPO T0 BR hiv O0 I0
    go_wp2_with fail
    rw [← Hw1010.out]
    rw [← HWF.out]
    (try simp only [Exit.inBlock, Exit.then])
    refine bodyPost_ret (v := .agg #[.int .i64 3, .slice (some ⟨w1003.heap.size, 0, none⟩) 1 1]) (results_cell_row rfl _ _ w.heap.size 26 #[.int .i64 3, .slice (some ⟨w1003.heap.size, 0, none⟩) 1 1] (0, 0) _ (by simp) BLF.out Tryz.underlying26 rfl (by kernel_rfl)) rfl ?_
    exact ⟨(3, [(2, binL ⟨#[48, 49, 50, 49, 50, 48, 50, 48, 49]⟩)]), ⟨[.int .i64 3, .slice (some ⟨w1003.heap.size, 0, none⟩) 1 1], _, rfl, PF.out.algK ⟨by omega, by omega⟩, PF.out.2.2.mono (by omega) (Nat.le_refl _), TF.out⟩, small_iff.1 (by decide +kernel)⟩
  · go_enter Tryz.func41, Tryz.ntmps41
    go_upto_region 13 with fail
    rw [← HW0.out]
    go_wp2_with fail
    refine (l2Binary_any ⟨#[48, 49, 48, 49, 49, 50, 48, 50, 50]⟩ w0 (by decide)).mono ?_
    rintro e w1003 ⟨cs0, bl0, rfl, O0, I0, hb0⟩
    obtain ⟨A0, n0, c0, rfl, -, -⟩ := rdOp (shOp.ord O0)
    replace T0 := below_next T0 hb0 rfl
    replace BR := BR.next hb0
    have zw1003 := hb0.size
    have hiv : Iv w0.heap.size w1003.heap.size ([bl0].flatten : List Nat) := (Iv.app0 (I0.mono (Nat.le_refl _) (by omega)))
    obtain ⟨w1010, Hw1010⟩ : ∃ x, Hid (x = w1003.alloc (.cells #[.int .i64 2, .slice A0 n0 c0] 64)) := ⟨_, Lib.hid rfl⟩
    have hbw1010 : Below w1003.heap.size w1003 w1010 := by rw [Hw1010.out]; exact below_box _ _
    have hPO : PO w0.heap.size w1010 (.slice (some ⟨w1003.heap.size, 0, none⟩) 1 1) [(2, binL ⟨#[48, 49, 48, 49, 49, 50, 48, 50, 50]⟩)] [[.int .i64 2, .slice A0 n0 c0]] [bl0] := by
      rw [Hw1010.out]
      have := PO.make (n := 1) (cells := #[.int .i64 2, .slice A0 n0 c0]) (OwnL.cons O0 (OwnL.nil _)) hiv (by omega) rfl (by decide) rfl
      exact this
    replace T0 := below_next T0 hbw1010 rfl
    replace BR := BR.next hbw1010
    have zw1010 := hbw1010.size
    have cR0 := BR.cell 0
    have cR1 := BR.cell 1
    simp at cR0 cR1
    have fR0 := BR.frozen 0
    have fR1 := BR.frozen 1
    rw [Hw1010.out] at cR0 cR1 fR0 fR1
    obtain ⟨wf, HWF⟩ : ∃ wf, Hid (wf = (w1010.setCell ⟨w.heap.size, 0, none⟩ (.int .i64 3)).setCell ⟨w.heap.size, 1, none⟩ (.slice (some ⟨w1003.heap.size, 0, none⟩) 1 1)) := ⟨_, Lib.hid rfl⟩
    have BLF : Hid (Blk wf w.heap.size 26 #[.int .i64 3, .slice (some ⟨w1003.heap.size, 0, none⟩) 1 1]) := by show Blk _ _ _ _; rw [HWF.out]; simpa using (BR.set_ 0 (.int .i64 3)).set_ 1 (.slice (some ⟨w1003.heap.size, 0, none⟩) 1 1)
    have hlo : w.heap.size < w0.heap.size := by omega
    have PF : Hid (PO w0.heap.size wf (.slice (some ⟨w1003.heap.size, 0, none⟩) 1 1) [(2, binL ⟨#[48, 49, 48, 49, 49, 50, 48, 50, 50]⟩)] [[.int .i64 2, .slice A0 n0 c0]] [bl0]) := by show PO _ _ _ _ _ _; rw [HWF.out]; exact (hPO.far (p := ⟨w.heap.size, 0, none⟩) hlo _).far (p := ⟨w.heap.size, 1, none⟩) hlo _
    have TF : Hid (Below w.heap.size w wf) := by show Below _ _ _; rw [HWF.out]; exact (T0.setCell (p := ⟨w.heap.size, 0, none⟩) (Nat.le_refl _) _).setCell (p := ⟨w.heap.size, 1, none⟩) (Nat.le_refl _) _
    clear hPO T0 BR hiv O0 I0
    go_wp2_with fail
    rw [← Hw1010.out]
    rw [← HWF.out]
    (try simp only [Exit.inBlock, Exit.then])
    refine bodyPost_ret (v := .agg #[.int .i64 3, .slice (some ⟨w1003.heap.size, 0, none⟩) 1 1]) (results_cell_row rfl _ _ w.heap.size 26 #[.int .i64 3, .slice (some ⟨w1003.heap.size, 0, none⟩) 1 1] (0, 0) _ (by simp) BLF.out Tryz.underlying26 rfl (by kernel_rfl)) rfl ?_
    exact ⟨(3, [(2, binL ⟨#[48, 49, 48, 49, 49, 50, 48, 50, 50]⟩)]), ⟨[.int .i64 3, .slice (some ⟨w1003.heap.size, 0, none⟩) 1 1], _, rfl, PF.out.algK ⟨by omega, by omega⟩, PF.out.2.2.mono (by omega) (Nat.le_refl _), TF.out⟩, small_iff.1 (by decide +kernel)⟩
  · go_enter Tryz.func41, Tryz.ntmps41
    go_upto_region 15 with fail
    rw [← HW0.out]
    go_wp2_with fail
    refine (l2Binary_any ⟨#[48, 49, 50, 51, 49, 48, 51, 50, 50, 51, 48, 49, 51, 50, 49, 48]⟩ w0 (by decide)).mono ?_
    rintro e w1003 ⟨cs0, bl0, rfl, O0, I0, hb0⟩
    obtain ⟨A0, n0, c0, rfl, -, -⟩ := rdOp (shOp.ord O0)
    replace T0 := below_next T0 hb0 rfl
    replace BR := BR.next hb0
    have zw1003 := hb0.size
    have hiv : Iv w0.heap.size w1003.heap.size ([bl0].flatten : List Nat) := (Iv.app0 (I0.mono (Nat.le_refl _) (by omega)))
    obtain ⟨w1010, Hw1010⟩ : ∃ x, Hid (x = w1003.alloc (.cells #[.int .i64 2, .slice A0 n0 c0] 64)) := ⟨_, Lib.hid rfl⟩
    have hbw1010 : Below w1003.heap.size w1003 w1010 := by rw [Hw1010.out]; exact below_box _ _
    have hPO : PO w0.heap.size w1010 (.slice (some ⟨w1003.heap.size, 0, none⟩) 1 1) [(2, binL ⟨#[48, 49, 50, 51, 49, 48, 51, 50, 50, 51, 48, 49, 51, 50, 49, 48]⟩)] [[.int .i64 2, .slice A0 n0 c0]] [bl0] := by
      rw [Hw1010.out]
      have := PO.make (n := 1) (cells := #[.int .i64 2, .slice A0 n0 c0]) (OwnL.cons O0 (OwnL.nil _)) hiv (by omega) rfl (by decide) rfl
      exact this
    replace T0 := below_next T0 hbw1010 rfl
    replace BR := BR.next hbw1010
    have zw1010 := hbw1010.size
    have cR0 := BR.cell 0
    have cR1 := BR.cell 1
    simp at cR0 cR1
    have fR0 := BR.frozen 0
    have fR1 := BR.frozen 1
    rw [Hw1010.out] at cR0 cR1 fR0 fR1
    obtain ⟨wf, HWF⟩ : ∃ wf, Hid (wf = (w1010.setCell ⟨w.heap.size, 0, none⟩ (.int .i64 4)).setCell ⟨w.heap.size, 1, none⟩ (.slice (some ⟨w1003.heap.size, 0, none⟩) 1 1)) := ⟨_, Lib.hid rfl⟩
    have BLF : Hid (Blk wf w.heap.size 26 #[.int .i64 4, .slice (some ⟨w1003.heap.size, 0, none⟩) 1 1]) := by show Blk _ _ _ _; rw [HWF.out]; simpa using (BR.set_ 0 (.int .i64 4)).set_ 1 (.slice (some ⟨w1003.heap.size, 0, none⟩) 1 1)
    have hlo : w.heap.size < w0.heap.size := by omega
    have PF : Hid (PO w0.heap.size wf (.slice (some ⟨w1003.heap.size, 0, none⟩) 1 1) [(2, binL ⟨#[48, 49, 50, 51, 49, 48, 51, 50, 50, 51, 48, 49, 51, 50, 49, 48]⟩)] [[.int .i64 2, .slice A0 n0 c0]] [bl0]) := by show PO _ _ _ _ _ _; rw [HWF.out]; exact (hPO.far (p := ⟨w.heap.size, 0, none⟩) hlo _).far (p := ⟨w.heap.size, 1, none⟩) hlo _
    have TF : Hid (Below w.heap.size w wf) := by show Below _ _ _; rw [HWF.out]; exact (T0.setCell (p := ⟨w.heap.size, 0, none⟩) (Nat.le_refl _) _).setCell (p := ⟨w.heap.size, 1, none⟩) (Nat.le_refl _) _
    clear hPO T0 BR hiv O0 I0
    go_wp2_with fail
    rw [← Hw1010.out]
    rw [← HWF.out]
    (try simp only [Exit.inBlock, Exit.then])
    refine bodyPost_ret (v := .agg #[.int .i64 4, .slice (some ⟨w1003.heap.size, 0, none⟩) 1 1]) (results_cell_row rfl _ _ w.heap.size 26 #[.int .i64 4, .slice (some ⟨w1003.heap.size, 0, none⟩) 1 1] (0, 0) _ (by simp) BLF.out Tryz.underlying26 rfl (by kernel_rfl)) rfl ?_
    exact ⟨(4, [(2, binL ⟨#[48, 49, 50, 51, 49, 48, 51, 50, 50, 51, 48, 49, 51, 50, 49, 48]⟩)]), ⟨[.int .i64 4, .slice (some ⟨w1003.heap.size, 0, none⟩) 1 1], _, rfl, PF.out.algK ⟨by omega, by omega⟩, PF.out.2.2.mono (by omega) (Nat.le_refl _), TF.out⟩, small_iff.1 (by decide +kernel)⟩
  · go_enter Tryz.func41, Tryz.ntmps41
    go_upto_region 17 with fail
    rw [← HW0.out]
    go_wp2_with fail
    refine (l2Binary_any ⟨#[48, 48, 48, 48, 49, 49, 48, 49, 50]⟩ w0 (by decide)).mono ?_
    rintro e w1003 ⟨cs0, bl0, rfl, O0, I0, hb0⟩
    obtain ⟨A0, n0, c0, rfl, -, -⟩ := rdOp (shOp.ord O0)
    replace T0 := below_next T0 hb0 rfl
    replace BR := BR.next hb0
    have zw1003 := hb0.size
    go_wp2_with fail
    refine (l2Binary_any ⟨#[48, 49, 50, 49, 49, 50, 50, 50, 50]⟩ w1003 (by decide)).mono ?_
    rintro e w1010 ⟨cs1, bl1, rfl, O1, I1, hb1⟩
    obtain ⟨A1, n1, c1, rfl, -, -⟩ := rdOp (shOp.ord O1)
    replace T0 := below_next T0 hb1 rfl
    replace BR := BR.next hb1
    have zw1010 := hb1.size
    replace O0 := Sh.onext O0 hb1
    have hiv : Iv w0.heap.size w1010.heap.size ([bl0, bl1].flatten : List Nat) := (Iv.app I0 (Iv.app0 (I1.mono (Nat.le_refl _) (by omega))) (by omega) (by omega) (by omega))
    obtain ⟨w1018, Hw1018⟩ : ∃ x, Hid (x = w1010.alloc (.cells #[.int .i64 2, .slice A0 n0 c0, .int .i64 2, .slice A1 n1 c1] 64)) := ⟨_, Lib.hid rfl⟩
    have hbw1018 : Below w1010.heap.size w1010 w1018 := by rw [Hw1018.out]; exact below_box _ _
    have hPO : PO w0.heap.size w1018 (.slice (some ⟨w1010.heap.size, 0, none⟩) 2 2) [(2, binL ⟨#[48, 48, 48, 48, 49, 49, 48, 49, 50]⟩), (2, binL ⟨#[48, 49, 50, 49, 49, 50, 50, 50, 50]⟩)] [[.int .i64 2, .slice A0 n0 c0], [.int .i64 2, .slice A1 n1 c1]] [bl0, bl1] := by
      rw [Hw1018.out]
      have := PO.make (n := 2) (cells := #[.int .i64 2, .slice A0 n0 c0, .int .i64 2, .slice A1 n1 c1]) (OwnL.cons O0 (OwnL.cons O1 (OwnL.nil _))) hiv (by omega) rfl (by decide) rfl
      exact this
    replace T0 := below_next T0 hbw1018 rfl
    replace BR := BR.next hbw1018
    have zw1018 := hbw1018.size
    have cR0 := BR.cell 0
    have cR1 := BR.cell 1
    simp at cR0 cR1
    have fR0 := BR.frozen 0
    have fR1 := BR.frozen 1
    rw [Hw1018.out] at cR0 cR1 fR0 fR1
    obtain ⟨wf, HWF⟩ : ∃ wf, Hid (wf = (w1018.setCell ⟨w.heap.size, 0, none⟩ (.int .i64 3)).setCell ⟨w.heap.size, 1, none⟩ (.slice (some ⟨w1010.heap.size, 0, none⟩) 2 2)) := ⟨_, Lib.hid rfl⟩
    have BLF : Hid (Blk wf w.heap.size 26 #[.int .i64 3, .slice (some ⟨w1010.heap.size, 0, none⟩) 2 2]) := by show Blk _ _ _ _; rw [HWF.out]; simpa using (BR.set_ 0 (.int .i64 3)).set_ 1 (.slice (some ⟨w1010.heap.size, 0, none⟩) 2 2)
    have hlo : w.heap.size < w0.heap.size := by omega
    have PF : Hid (PO w0.heap.size wf (.slice (some ⟨w1010.heap.size, 0, none⟩) 2 2) [(2, binL ⟨#[48, 48, 48, 48, 49, 49, 48, 49, 50]⟩), (2, binL ⟨#[48, 49, 50, 49, 49, 50, 50, 50, 50]⟩)] [[.int .i64 2, .slice A0 n0 c0], [.int .i64 2, .slice A1 n1 c1]] [bl0, bl1]) := by show PO _ _ _ _ _ _; rw [HWF.out]; exact (hPO.far (p := ⟨w.heap.size, 0, none⟩) hlo _).far (p := ⟨w.heap.size, 1, none⟩) hlo _
    have TF : Hid (Below w.heap.size w wf) := by show Below _ _ _; rw [HWF.out]; exact (T0.setCell (p := ⟨w.heap.size, 0, none⟩) (Nat.le_refl _) _).setCell (p := ⟨w.heap.size, 1, none⟩) (Nat.le_refl _) _
    clear hPO T0 BR hiv O0 O1 I0 I1
    go_wp2_with fail
    rw [← Hw1018.out]
    rw [← HWF.out]
    (try simp only [Exit.inBlock, Exit.then])
    refine bodyPost_ret (v := .agg #[.int .i64 3, .slice (some ⟨w1010.heap.size, 0, none⟩) 2 2]) (results_cell_row rfl _ _ w.heap.size 26 #[.int .i64 3, .slice (some ⟨w1010.heap.size, 0, none⟩) 2 2] (0, 0) _ (by simp) BLF.out Tryz.underlying26 rfl (by kernel_rfl)) rfl ?_
    exact ⟨(3, [(2, binL ⟨#[48, 48, 48, 48, 49, 49, 48, 49, 50]⟩), (2, binL ⟨#[48, 49, 50, 49, 49, 50, 50, 50, 50]⟩)]), ⟨[.int .i64 3, .slice (some ⟨w1010.heap.size, 0, none⟩) 2 2], _, rfl, PF.out.algK ⟨by omega, by omega⟩, PF.out.2.2.mono (by omega) (Nat.le_refl _), TF.out⟩, small_iff.1 (by decide +kernel)⟩
  · go_enter Tryz.func41, Tryz.ntmps41
    go_upto_region 19 with fail
    rw [← HW0.out]
    have BR0 := BR
    have dR0 := BR.cell 0
    have dR1 := BR.cell 1
    simp at dR0 dR1
    have gR0 := BR.frozen 0
    have gR1 := BR.frozen 1
    obtain ⟨ws, HWS⟩ : ∃ x, Hid (x = (w0.setCell ⟨w.heap.size, 0, none⟩ (.int .i64 4)).setCell ⟨w.heap.size, 1, none⟩ (.slice (some ⟨w0.heap.size + 1, 0, none⟩) 1 1)) := ⟨_, Lib.hid rfl⟩
    have ews : ws.heap.size = w0.heap.size := by rw [HWS.out]; simp
    have BS : Blk ws w.heap.size 26 #[.int .i64 4, .slice (some ⟨w0.heap.size + 1, 0, none⟩) 1 1] := by rw [HWS.out]; simpa using (BR.set_ 0 (.int .i64 4)).set_ 1 (.slice (some ⟨w0.heap.size + 1, 0, none⟩) 1 1)
    replace T0 : Below w.heap.size w ws := by rw [HWS.out]; exact (T0.setCell (p := ⟨w.heap.size, 0, none⟩) (Nat.le_refl _) _).setCell (p := ⟨w.heap.size, 1, none⟩) (Nat.le_refl _) _
    replace BR := BS
    clear BS
    obtain ⟨w1015, Hw1015⟩ : ∃ x, Hid (x = ws.alloc (.cells #[.int .i64 1, .int .i64 2, .int .i64 3, .int .i64 0] 3)) := ⟨_, Lib.hid rfl⟩
    have hbw1015 : Below ws.heap.size ws w1015 := by rw [Hw1015.out]; exact below_box _ _
    replace T0 := below_next T0 hbw1015 rfl
    replace BR := BR.next hbw1015
    have zw1015 := hbw1015.size
    have yw1015 : w1015.heap.size = ws.heap.size + 1 := by rw [Hw1015.out]; simp
    have ew1015 : w1015.heap.size = w0.heap.size + 1 := by omega
    have O0 : shOp.own w1015 [.int .i64 1, .slice (some ⟨w0.heap.size, 0, none⟩) 4 4] (1, [1, 2, 3, 0]) [w0.heap.size] := by
      have := own_tab (w := ws) (a := 1) (L := [1, 2, 3, 0]) (n := 4) ⟨by omega, by omega⟩ rfl (by decide) (by intro x hx; simp at hx; unfold InR; omega)
      rw [ews] at this
      have hh : shOp.own w1015 [.int .i64 1, .slice (some ⟨w0.heap.size, 0, none⟩) 4 4] (1, [1, 2, 3, 0]) [w0.heap.size] := by rw [Hw1015.out]; exact this
      exact hh
    have I0 : Iv ws.heap.size w1015.heap.size [w0.heap.size] := ⟨by simp, fun b hb => by simp at hb; omega⟩
    have hiv : Iv ws.heap.size w1015.heap.size ([[w0.heap.size]].flatten : List Nat) := (Iv.app0 (I0.mono (Nat.le_refl _) (by omega)))
    obtain ⟨w1028, Hw1028⟩ : ∃ x, Hid (x = w1015.alloc (.cells #[.int .i64 1, .slice (some ⟨w0.heap.size, 0, none⟩) 4 4] 64)) := ⟨_, Lib.hid rfl⟩
    have hbw1028 : Below w1015.heap.size w1015 w1028 := by rw [Hw1028.out]; exact below_box _ _
    have hPO : PO ws.heap.size w1028 (.slice (some ⟨w0.heap.size + 1, 0, none⟩) 1 1) [(1, [1, 2, 3, 0])] [[.int .i64 1, .slice (some ⟨w0.heap.size, 0, none⟩) 4 4]] [[w0.heap.size]] := by
      rw [Hw1028.out]
      have := PO.make (n := 1) (cells := #[.int .i64 1, .slice (some ⟨w0.heap.size, 0, none⟩) 4 4]) (OwnL.cons O0 (OwnL.nil _)) hiv (by omega) rfl (by decide) rfl
      rw [ew1015] at this
      exact this
    replace T0 := below_next T0 hbw1028 rfl
    replace BR := BR.next hbw1028
    have zw1028 := hbw1028.size
    have BLF := Lib.hid BR
    have PF := Lib.hid hPO
    have TF := Lib.hid T0
    clear BR hPO T0
    have BA := (BR0.alloc (.cells #[.int .i64 1, .int .i64 2, .int .i64 3, .int .i64 0] 3)).alloc (.cells #[.int .i64 1, .slice (some ⟨w0.heap.size, 0, none⟩) 4 4] 64)
    have cR0 := BA.cell 0
    have cR1 := BA.cell 1
    simp at cR0 cR1
    have fR0 := BA.frozen 0
    have fR1 := BA.frozen 1
    clear BA BR0
    clear hiv O0 I0
    go_wp2_with fail
    rw [← HWS.out]
    rw [← Hw1015.out]
    rw [← Hw1028.out]
    (try simp only [Exit.inBlock, Exit.then])
    refine bodyPost_ret (v := .agg #[.int .i64 4, .slice (some ⟨w0.heap.size + 1, 0, none⟩) 1 1]) (results_cell_row rfl _ _ w.heap.size 26 #[.int .i64 4, .slice (some ⟨w0.heap.size + 1, 0, none⟩) 1 1] (0, 0) _ (by simp) BLF.out Tryz.underlying26 rfl (by kernel_rfl)) rfl ?_
    exact ⟨(4, [(1, [1, 2, 3, 0])]), ⟨[.int .i64 4, .slice (some ⟨w0.heap.size + 1, 0, none⟩) 1 1], _, rfl, PF.out.algK ⟨by omega, by omega⟩, PF.out.2.2.mono (by omega) (Nat.le_refl _), TF.out⟩, small_iff.1 (by decide +kernel)⟩
  · go_enter Tryz.func41, Tryz.ntmps41
    go_upto_region 21 with fail
    rw [← HW0.out]
    have BR0 := BR
    have dR0 := BR.cell 0
    have dR1 := BR.cell 1
    simp at dR0 dR1
    have gR0 := BR.frozen 0
    have gR1 := BR.frozen 1
    obtain ⟨ws, HWS⟩ : ∃ x, Hid (x = (w0.setCell ⟨w.heap.size, 0, none⟩ (.int .i64 2)).setCell ⟨w.heap.size, 1, none⟩ (.slice (some ⟨w0.heap.size + 1, 0, none⟩) 1 1)) := ⟨_, Lib.hid rfl⟩
    have ews : ws.heap.size = w0.heap.size := by rw [HWS.out]; simp
    have BS : Blk ws w.heap.size 26 #[.int .i64 2, .slice (some ⟨w0.heap.size + 1, 0, none⟩) 1 1] := by rw [HWS.out]; simpa using (BR.set_ 0 (.int .i64 2)).set_ 1 (.slice (some ⟨w0.heap.size + 1, 0, none⟩) 1 1)
    replace T0 : Below w.heap.size w ws := by rw [HWS.out]; exact (T0.setCell (p := ⟨w.heap.size, 0, none⟩) (Nat.le_refl _) _).setCell (p := ⟨w.heap.size, 1, none⟩) (Nat.le_refl _) _
    replace BR := BS
    clear BS
    obtain ⟨w1015, Hw1015⟩ : ∃ x, Hid (x = ws.alloc (.cells #[.int .i64 0, .int .i64 0, .int .i64 0, .int .i64 1, .int .i64 0, .int .i64 1, .int .i64 1, .int .i64 1] 3)) := ⟨_, Lib.hid rfl⟩
    have hbw1015 : Below ws.heap.size ws w1015 := by rw [Hw1015.out]; exact below_box _ _
    replace T0 := below_next T0 hbw1015 rfl
    replace BR := BR.next hbw1015
    have zw1015 := hbw1015.size
    have yw1015 : w1015.heap.size = ws.heap.size + 1 := by rw [Hw1015.out]; simp
    have ew1015 : w1015.heap.size = w0.heap.size + 1 := by omega
    have O0 : shOp.own w1015 [.int .i64 3, .slice (some ⟨w0.heap.size, 0, none⟩) 8 8] (3, [0, 0, 0, 1, 0, 1, 1, 1]) [w0.heap.size] := by
      have := own_tab (w := ws) (a := 3) (L := [0, 0, 0, 1, 0, 1, 1, 1]) (n := 8) ⟨by omega, by omega⟩ rfl (by decide) (by intro x hx; simp at hx; unfold InR; omega)
      rw [ews] at this
      have hh : shOp.own w1015 [.int .i64 3, .slice (some ⟨w0.heap.size, 0, none⟩) 8 8] (3, [0, 0, 0, 1, 0, 1, 1, 1]) [w0.heap.size] := by rw [Hw1015.out]; exact this
      exact hh
    have I0 : Iv ws.heap.size w1015.heap.size [w0.heap.size] := ⟨by simp, fun b hb => by simp at hb; omega⟩
    have hiv : Iv ws.heap.size w1015.heap.size ([[w0.heap.size]].flatten : List Nat) := (Iv.app0 (I0.mono (Nat.le_refl _) (by omega)))
    obtain ⟨w1028, Hw1028⟩ : ∃ x, Hid (x = w1015.alloc (.cells #[.int .i64 3, .slice (some ⟨w0.heap.size, 0, none⟩) 8 8] 64)) := ⟨_, Lib.hid rfl⟩
    have hbw1028 : Below w1015.heap.size w1015 w1028 := by rw [Hw1028.out]; exact below_box _ _
    have hPO : PO ws.heap.size w1028 (.slice (some ⟨w0.heap.size + 1, 0, none⟩) 1 1) [(3, [0, 0, 0, 1, 0, 1, 1, 1])] [[.int .i64 3, .slice (some ⟨w0.heap.size, 0, none⟩) 8 8]] [[w0.heap.size]] := by
      rw [Hw1028.out]
      have := PO.make (n := 1) (cells := #[.int .i64 3, .slice (some ⟨w0.heap.size, 0, none⟩) 8 8]) (OwnL.cons O0 (OwnL.nil _)) hiv (by omega) rfl (by decide) rfl
      rw [ew1015] at this
      exact this
    replace T0 := below_next T0 hbw1028 rfl
    replace BR := BR.next hbw1028
    have zw1028 := hbw1028.size
    have BLF := Lib.hid BR
    have PF := Lib.hid hPO
    have TF := Lib.hid T0
    clear BR hPO T0
    have BA := (BR0.alloc (.cells #[.int .i64 0, .int .i64 0, .int .i64 0, .int .i64 1, .int .i64 0, .int .i64 1, .int .i64 1, .int .i64 1] 3)).alloc (.cells #[.int .i64 3, .slice (some ⟨w0.heap.size, 0, none⟩) 8 8] 64)
    have cR0 := BA.cell 0
    have cR1 := BA.cell 1
    simp at cR0 cR1
    have fR0 := BA.frozen 0
    have fR1 := BA.frozen 1
    clear BA BR0
    clear hiv O0 I0
    go_wp2_with fail
    rw [← HWS.out]
    rw [← Hw1015.out]
    rw [← Hw1028.out]
    (try simp only [Exit.inBlock, Exit.then])
    refine bodyPost_ret (v := .agg #[.int .i64 2, .slice (some ⟨w0.heap.size + 1, 0, none⟩) 1 1]) (results_cell_row rfl _ _ w.heap.size 26 #[.int .i64 2, .slice (some ⟨w0.heap.size + 1, 0, none⟩) 1 1] (0, 0) _ (by simp) BLF.out Tryz.underlying26 rfl (by kernel_rfl)) rfl ?_
    exact ⟨(2, [(3, [0, 0, 0, 1, 0, 1, 1, 1])]), ⟨[.int .i64 2, .slice (some ⟨w0.heap.size + 1, 0, none⟩) 1 1], _, rfl, PF.out.algK ⟨by omega, by omega⟩, PF.out.2.2.mono (by omega) (Nat.le_refl _), TF.out⟩, small_iff.1 (by decide +kernel)⟩
  · go_enter Tryz.func41, Tryz.ntmps41
    go_upto_region 23 with fail
    rw [← HW0.out]
    go_wp2_with fail
    refine (l2Binary_any ⟨#[48, 48, 48, 49, 49, 49, 50, 50, 50]⟩ w0 (by decide)).mono ?_
    rintro e w1003 ⟨cs0, bl0, rfl, O0, I0, hb0⟩
    obtain ⟨A0, n0, c0, rfl, -, -⟩ := rdOp (shOp.ord O0)
    replace T0 := below_next T0 hb0 rfl
    replace BR := BR.next hb0
    have zw1003 := hb0.size
    have hiv : Iv w0.heap.size w1003.heap.size ([bl0].flatten : List Nat) := (Iv.app0 (I0.mono (Nat.le_refl _) (by omega)))
    obtain ⟨w1010, Hw1010⟩ : ∃ x, Hid (x = w1003.alloc (.cells #[.int .i64 2, .slice A0 n0 c0] 64)) := ⟨_, Lib.hid rfl⟩
    have hbw1010 : Below w1003.heap.size w1003 w1010 := by rw [Hw1010.out]; exact below_box _ _
    have hPO : PO w0.heap.size w1010 (.slice (some ⟨w1003.heap.size, 0, none⟩) 1 1) [(2, binL ⟨#[48, 48, 48, 49, 49, 49, 50, 50, 50]⟩)] [[.int .i64 2, .slice A0 n0 c0]] [bl0] := by
      rw [Hw1010.out]
      have := PO.make (n := 1) (cells := #[.int .i64 2, .slice A0 n0 c0]) (OwnL.cons O0 (OwnL.nil _)) hiv (by omega) rfl (by decide) rfl
      exact this
    replace T0 := below_next T0 hbw1010 rfl
    replace BR := BR.next hbw1010
    have zw1010 := hbw1010.size
    have cR0 := BR.cell 0
    have cR1 := BR.cell 1
    simp at cR0 cR1
    have fR0 := BR.frozen 0
    have fR1 := BR.frozen 1
    rw [Hw1010.out] at cR0 cR1 fR0 fR1
    obtain ⟨wf, HWF⟩ : ∃ wf, Hid (wf = (w1010.setCell ⟨w.heap.size, 0, none⟩ (.int .i64 3)).setCell ⟨w.heap.size, 1, none⟩ (.slice (some ⟨w1003.heap.size, 0, none⟩) 1 1)) := ⟨_, Lib.hid rfl⟩
    have BLF : Hid (Blk wf w.heap.size 26 #[.int .i64 3, .slice (some ⟨w1003.heap.size, 0, none⟩) 1 1]) := by show Blk _ _ _ _; rw [HWF.out]; simpa using (BR.set_ 0 (.int .i64 3)).set_ 1 (.slice (some ⟨w1003.heap.size, 0, none⟩) 1 1)
    have hlo : w.heap.size < w0.heap.size := by omega
    have PF : Hid (PO w0.heap.size wf (.slice (some ⟨w1003.heap.size, 0, none⟩) 1 1) [(2, binL ⟨#[48, 48, 48, 49, 49, 49, 50, 50, 50]⟩)] [[.int .i64 2, .slice A0 n0 c0]] [bl0]) := by show PO _ _ _ _ _ _; rw [HWF.out]; exact (hPO.far (p := ⟨w.heap.size, 0, none⟩) hlo _).far (p := ⟨w.heap.size, 1, none⟩) hlo _
    have TF : Hid (Below w.heap.size w wf) := by show Below _ _ _; rw [HWF.out]; exact (T0.setCell (p := ⟨w.heap.size, 0, none⟩) (Nat.le_refl _) _).setCell (p := ⟨w.heap.size, 1, none⟩) (Nat.le_refl _) _
    clear hPO T0 BR hiv O0 I0
    go_wp2_with fail
    rw [← Hw1010.out]
    rw [← HWF.out]
    (try simp only [Exit.inBlock, Exit.then])
    refine bodyPost_ret (v := .agg #[.int .i64 3, .slice (some ⟨w1003.heap.size, 0, none⟩) 1 1]) (results_cell_row rfl _ _ w.heap.size 26 #[.int .i64 3, .slice (some ⟨w1003.heap.size, 0, none⟩) 1 1] (0, 0) _ (by simp) BLF.out Tryz.underlying26 rfl (by kernel_rfl)) rfl ?_
    exact ⟨(3, [(2, binL ⟨#[48, 48, 48, 49, 49, 49, 50, 50, 50]⟩)]), ⟨[.int .i64 3, .slice (some ⟨w1003.heap.size, 0, none⟩) 1 1], _, rfl, PF.out.algK ⟨by omega, by omega⟩, PF.out.2.2.mono (by omega) (Nat.le_refl _), TF.out⟩, small_iff.1 (by decide +kernel)⟩
  · go_enter Tryz.func41, Tryz.ntmps41
    go_upto_region 25 with fail
    rw [← HW0.out]
    go_wp2_with fail
    refine (l2Binary_any ⟨#[48, 48, 48, 48, 48, 48, 49, 48, 48, 49, 48, 48, 50, 48, 50, 48, 48, 48, 51, 51, 48, 49, 50, 51, 52]⟩ w0 (by decide)).mono ?_
    rintro e w1003 ⟨cs0, bl0, rfl, O0, I0, hb0⟩
    obtain ⟨A0, n0, c0, rfl, -, -⟩ := rdOp (shOp.ord O0)
    replace T0 := below_next T0 hb0 rfl
    replace BR := BR.next hb0
    have zw1003 := hb0.size
    go_wp2_with fail
    refine (l2Binary_any ⟨#[48, 49, 50, 51, 52, 49, 49, 52, 52, 52, 50, 52, 50, 52, 52, 51, 52, 52, 51, 52, 52, 52, 52, 52, 52]⟩ w1003 (by decide)).mono ?_
    rintro e w1010 ⟨cs1, bl1, rfl, O1, I1, hb1⟩
    obtain ⟨A1, n1, c1, rfl, -, -⟩ := rdOp (shOp.ord O1)
    replace T0 := below_next T0 hb1 rfl
    replace BR := BR.next hb1
    have zw1010 := hb1.size
    replace O0 := Sh.onext O0 hb1
    have hiv : Iv w0.heap.size w1010.heap.size ([bl0, bl1].flatten : List Nat) := (Iv.app I0 (Iv.app0 (I1.mono (Nat.le_refl _) (by omega))) (by omega) (by omega) (by omega))
    obtain ⟨w1018, Hw1018⟩ : ∃ x, Hid (x = w1010.alloc (.cells #[.int .i64 2, .slice A0 n0 c0, .int .i64 2, .slice A1 n1 c1] 64)) := ⟨_, Lib.hid rfl⟩
    have hbw1018 : Below w1010.heap.size w1010 w1018 := by rw [Hw1018.out]; exact below_box _ _
    have hPO : PO w0.heap.size w1018 (.slice (some ⟨w1010.heap.size, 0, none⟩) 2 2) [(2, binL ⟨#[48, 48, 48, 48, 48, 48, 49, 48, 48, 49, 48, 48, 50, 48, 50, 48, 48, 48, 51, 51, 48, 49, 50, 51, 52]⟩), (2, binL ⟨#[48, 49, 50, 51, 52, 49, 49, 52, 52, 52, 50, 52, 50, 52, 52, 51, 52, 52, 51, 52, 52, 52, 52, 52, 52]⟩)] [[.int .i64 2, .slice A0 n0 c0], [.int .i64 2, .slice A1 n1 c1]] [bl0, bl1] := by
      rw [Hw1018.out]
      have := PO.make (n := 2) (cells := #[.int .i64 2, .slice A0 n0 c0, .int .i64 2, .slice A1 n1 c1]) (OwnL.cons O0 (OwnL.cons O1 (OwnL.nil _))) hiv (by omega) rfl (by decide) rfl
      exact this
    replace T0 := below_next T0 hbw1018 rfl
    replace BR := BR.next hbw1018
    have zw1018 := hbw1018.size
    have cR0 := BR.cell 0
    have cR1 := BR.cell 1
    simp at cR0 cR1
    have fR0 := BR.frozen 0
    have fR1 := BR.frozen 1
    rw [Hw1018.out] at cR0 cR1 fR0 fR1
    obtain ⟨wf, HWF⟩ : ∃ wf, Hid (wf = (w1018.setCell ⟨w.heap.size, 0, none⟩ (.int .i64 5)).setCell ⟨w.heap.size, 1, none⟩ (.slice (some ⟨w1010.heap.size, 0, none⟩) 2 2)) := ⟨_, Lib.hid rfl⟩
    have BLF : Hid (Blk wf w.heap.size 26 #[.int .i64 5, .slice (some ⟨w1010.heap.size, 0, none⟩) 2 2]) := by show Blk _ _ _ _; rw [HWF.out]; simpa using (BR.set_ 0 (.int .i64 5)).set_ 1 (.slice (some ⟨w1010.heap.size, 0, none⟩) 2 2)
    have hlo : w.heap.size < w0.heap.size := by omega
    have PF : Hid (PO w0.heap.size wf (.slice (some ⟨w1010.heap.size, 0, none⟩) 2 2) [(2, binL ⟨#[48, 48, 48, 48, 48, 48, 49, 48, 48, 49, 48, 48, 50, 48, 50, 48, 48, 48, 51, 51, 48, 49, 50, 51, 52]⟩), (2, binL ⟨#[48, 49, 50, 51, 52, 49, 49, 52, 52, 52, 50, 52, 50, 52, 52, 51, 52, 52, 51, 52, 52, 52, 52, 52, 52]⟩)] [[.int .i64 2, .slice A0 n0 c0], [.int .i64 2, .slice A1 n1 c1]] [bl0, bl1]) := by show PO _ _ _ _ _ _; rw [HWF.out]; exact (hPO.far (p := ⟨w.heap.size, 0, none⟩) hlo _).far (p := ⟨w.heap.size, 1, none⟩) hlo _
    have TF : Hid (Below w.heap.size w wf) := by show Below _ _ _; rw [HWF.out]; exact (T0.setCell (p := ⟨w.heap.size, 0, none⟩) (Nat.le_refl _) _).setCell (p := ⟨w.heap.size, 1, none⟩) (Nat.le_refl _) _
    clear hPO T0 BR hiv O0 O1 I0 I1
    go_wp2_with fail
    rw [← Hw1018.out]
    rw [← HWF.out]
    (try simp only [Exit.inBlock, Exit.then])
    refine bodyPost_ret (v := .agg #[.int .i64 5, .slice (some ⟨w1010.heap.size, 0, none⟩) 2 2]) (results_cell_row rfl _ _ w.heap.size 26 #[.int .i64 5, .slice (some ⟨w1010.heap.size, 0, none⟩) 2 2] (0, 0) _ (by simp) BLF.out Tryz.underlying26 rfl (by kernel_rfl)) rfl ?_
    exact ⟨(5, [(2, binL ⟨#[48, 48, 48, 48, 48, 48, 49, 48, 48, 49, 48, 48, 50, 48, 50, 48, 48, 48, 51, 51, 48, 49, 50, 51, 52]⟩), (2, binL ⟨#[48, 49, 50, 51, 52, 49, 49, 52, 52, 52, 50, 52, 50, 52, 52, 51, 52, 52, 51, 52, 52, 52, 52, 52, 52]⟩)]), ⟨[.int .i64 5, .slice (some ⟨w1010.heap.size, 0, none⟩) 2 2], _, rfl, PF.out.algK ⟨by omega, by omega⟩, PF.out.2.2.mono (by omega) (Nat.le_refl _), TF.out⟩, small_iff.1 (by decide +kernel)⟩
  · go_enter Tryz.func41, Tryz.ntmps41
    go_upto_region 27 with fail
    rw [← HW0.out]
    go_wp2_with fail
    refine (l2Binary_any ⟨#[48, 49, 50, 51, 49, 50, 51, 48, 50, 51, 48, 49, 51, 48, 49, 50]⟩ w0 (by decide)).mono ?_
    rintro e w1003 ⟨cs0, bl0, rfl, O0, I0, hb0⟩
    obtain ⟨A0, n0, c0, rfl, -, -⟩ := rdOp (shOp.ord O0)
    replace T0 := below_next T0 hb0 rfl
    replace BR := BR.next hb0
    have zw1003 := hb0.size
    have hiv : Iv w0.heap.size w1003.heap.size ([bl0].flatten : List Nat) := (Iv.app0 (I0.mono (Nat.le_refl _) (by omega)))
    obtain ⟨w1010, Hw1010⟩ : ∃ x, Hid (x = w1003.alloc (.cells #[.int .i64 2, .slice A0 n0 c0] 64)) := ⟨_, Lib.hid rfl⟩
    have hbw1010 : Below w1003.heap.size w1003 w1010 := by rw [Hw1010.out]; exact below_box _ _
    have hPO : PO w0.heap.size w1010 (.slice (some ⟨w1003.heap.size, 0, none⟩) 1 1) [(2, binL ⟨#[48, 49, 50, 51, 49, 50, 51, 48, 50, 51, 48, 49, 51, 48, 49, 50]⟩)] [[.int .i64 2, .slice A0 n0 c0]] [bl0] := by
      rw [Hw1010.out]
      have := PO.make (n := 1) (cells := #[.int .i64 2, .slice A0 n0 c0]) (OwnL.cons O0 (OwnL.nil _)) hiv (by omega) rfl (by decide) rfl
      exact this
    replace T0 := below_next T0 hbw1010 rfl
    replace BR := BR.next hbw1010
    have zw1010 := hbw1010.size
    have cR0 := BR.cell 0
    have cR1 := BR.cell 1
    simp at cR0 cR1
    have fR0 := BR.frozen 0
    have fR1 := BR.frozen 1
    rw [Hw1010.out] at cR0 cR1 fR0 fR1
    obtain ⟨wf, HWF⟩ : ∃ wf, Hid (wf = (w1010.setCell ⟨w.heap.size, 0, none⟩ (.int .i64 4)).setCell ⟨w.heap.size, 1, none⟩ (.slice (some ⟨w1003.heap.size, 0, none⟩) 1 1)) := ⟨_, Lib.hid rfl⟩
    have BLF : Hid (Blk wf w.heap.size 26 #[.int .i64 4, .slice (some ⟨w1003.heap.size, 0, none⟩) 1 1]) := by show Blk _ _ _ _; rw [HWF.out]; simpa using (BR.set_ 0 (.int .i64 4)).set_ 1 (.slice (some ⟨w1003.heap.size, 0, none⟩) 1 1)
    have hlo : w.heap.size < w0.heap.size := by omega
    have PF : Hid (PO w0.heap.size wf (.slice (some ⟨w1003.heap.size, 0, none⟩) 1 1) [(2, binL ⟨#[48, 49, 50, 51, 49, 50, 51, 48, 50, 51, 48, 49, 51, 48, 49, 50]⟩)] [[.int .i64 2, .slice A0 n0 c0]] [bl0]) := by show PO _ _ _ _ _ _; rw [HWF.out]; exact (hPO.far (p := ⟨w.heap.size, 0, none⟩) hlo _).far (p := ⟨w.heap.size, 1, none⟩) hlo _
    have TF : Hid (Below w.heap.size w wf) := by show Below _ _ _; rw [HWF.out]; exact (T0.setCell (p := ⟨w.heap.size, 0, none⟩) (Nat.le_refl _) _).setCell (p := ⟨w.heap.size, 1, none⟩) (Nat.le_refl _) _
    clear hPO T0 BR hiv O0 I0
    go_wp2_with fail
    rw [← Hw1010.out]
    rw [← HWF.out]
    (try simp only [Exit.inBlock, Exit.then])
    refine bodyPost_ret (v := .agg #[.int .i64 4, .slice (some ⟨w1003.heap.size, 0, none⟩) 1 1]) (results_cell_row rfl _ _ w.heap.size 26 #[.int .i64 4, .slice (some ⟨w1003.heap.size, 0, none⟩) 1 1] (0, 0) _ (by simp) BLF.out Tryz.underlying26 rfl (by kernel_rfl)) rfl ?_
    exact ⟨(4, [(2, binL ⟨#[48, 49, 50, 51, 49, 50, 51, 48, 50, 51, 48, 49, 51, 48, 49, 50]⟩)]), ⟨[.int .i64 4, .slice (some ⟨w1003.heap.size, 0, none⟩) 1 1], _, rfl, PF.out.algK ⟨by omega, by omega⟩, PF.out.2.2.mono (by omega) (Nat.le_refl _), TF.out⟩, small_iff.1 (by decide +kernel)⟩
  · go_enter Tryz.func41, Tryz.ntmps41
    go_upto_region 29 with fail
    rw [← HW0.out]
    obtain ⟨w1003, Hw1003⟩ : ∃ x, Hid (x = w0.alloc (.cells #[.int .i64 0, .int .i64 0, .int .i64 1] 3)) := ⟨_, Lib.hid rfl⟩
    have hbw1003 : Below w0.heap.size w0 w1003 := by rw [Hw1003.out]; exact below_box _ _
    replace T0 := below_next T0 hbw1003 rfl
    replace BR := BR.next hbw1003
    have zw1003 := hbw1003.size
    have yw1003 : w1003.heap.size = w0.heap.size + 1 := by rw [Hw1003.out]; simp
    have ew1003 : w1003.heap.size = w0.heap.size + 1 := by omega
    have O0 : shOp.own w1003 [.int .i64 1, .slice (some ⟨w0.heap.size, 0, none⟩) 3 3] (1, [0, 0, 1]) [w0.heap.size] := by
      have := own_tab (w := w0) (a := 1) (L := [0, 0, 1]) (n := 3) ⟨by omega, by omega⟩ rfl (by decide) (by intro x hx; simp at hx; unfold InR; omega)
      have hh : shOp.own w1003 [.int .i64 1, .slice (some ⟨w0.heap.size, 0, none⟩) 3 3] (1, [0, 0, 1]) [w0.heap.size] := by rw [Hw1003.out]; exact this
      exact hh
    have I0 : Iv w0.heap.size w1003.heap.size [w0.heap.size] := ⟨by simp, fun b hb => by simp at hb; omega⟩
    obtain ⟨w1015, Hw1015⟩ : ∃ x, Hid (x = w1003.alloc (.cells #[.int .i64 2] 3)) := ⟨_, Lib.hid rfl⟩
    have hbw1015 : Below w1003.heap.size w1003 w1015 := by rw [Hw1015.out]; exact below_box _ _
    replace T0 := below_next T0 hbw1015 rfl
    replace BR := BR.next hbw1015
    have zw1015 := hbw1015.size
    replace O0 := Sh.onext O0 hbw1015
    have yw1015 : w1015.heap.size = w1003.heap.size + 1 := by rw [Hw1015.out]; simp
    have ew1015 : w1015.heap.size = w0.heap.size + 1 + 1 := by omega
    have O1 : shOp.own w1015 [.int .i64 0, .slice (some ⟨w0.heap.size + 1, 0, none⟩) 1 1] (0, [2]) [w0.heap.size + 1] := by
      have := own_tab (w := w1003) (a := 0) (L := [2]) (n := 1) ⟨by omega, by omega⟩ rfl (by decide) (by intro x hx; simp at hx; unfold InR; omega)
      rw [ew1003] at this
      have hh : shOp.own w1015 [.int .i64 0, .slice (some ⟨w0.heap.size + 1, 0, none⟩) 1 1] (0, [2]) [w0.heap.size + 1] := by rw [Hw1015.out]; exact this
      exact hh
    have I1 : Iv w1003.heap.size w1015.heap.size [w0.heap.size + 1] := ⟨by simp, fun b hb => by simp at hb; omega⟩
    have hiv : Iv w0.heap.size w1015.heap.size ([[w0.heap.size], [w0.heap.size + 1]].flatten : List Nat) := (Iv.app I0 (Iv.app0 (I1.mono (Nat.le_refl _) (by omega))) (by omega) (by omega) (by omega))
    obtain ⟨w1029, Hw1029⟩ : ∃ x, Hid (x = w1015.alloc (.cells #[.int .i64 1, .slice (some ⟨w0.heap.size, 0, none⟩) 3 3, .int .i64 0, .slice (some ⟨w0.heap.size + 1, 0, none⟩) 1 1] 64)) := ⟨_, Lib.hid rfl⟩
    have hbw1029 : Below w1015.heap.size w1015 w1029 := by rw [Hw1029.out]; exact below_box _ _
    have hPO : PO w0.heap.size w1029 (.slice (some ⟨w0.heap.size + 1 + 1, 0, none⟩) 2 2) [(1, [0, 0, 1]), (0, [2])] [[.int .i64 1, .slice (some ⟨w0.heap.size, 0, none⟩) 3 3], [.int .i64 0, .slice (some ⟨w0.heap.size + 1, 0, none⟩) 1 1]] [[w0.heap.size], [w0.heap.size + 1]] := by
      rw [Hw1029.out]
      have := PO.make (n := 2) (cells := #[.int .i64 1, .slice (some ⟨w0.heap.size, 0, none⟩) 3 3, .int .i64 0, .slice (some ⟨w0.heap.size + 1, 0, none⟩) 1 1]) (OwnL.cons O0 (OwnL.cons O1 (OwnL.nil _))) hiv (by omega) rfl (by decide) rfl
      rw [ew1015] at this
      exact this
    replace T0 := below_next T0 hbw1029 rfl
    replace BR := BR.next hbw1029
    have zw1029 := hbw1029.size
    have cR0 := BR.cell 0
    have cR1 := BR.cell 1
    simp at cR0 cR1
    have fR0 := BR.frozen 0
    have fR1 := BR.frozen 1
    rw [Hw1029.out] at cR0 cR1 fR0 fR1
    rw [Hw1015.out] at cR0 cR1 fR0 fR1
    rw [Hw1003.out] at cR0 cR1 fR0 fR1
    obtain ⟨wf, HWF⟩ : ∃ wf, Hid (wf = (w1029.setCell ⟨w.heap.size, 0, none⟩ (.int .i64 3)).setCell ⟨w.heap.size, 1, none⟩ (.slice (some ⟨w0.heap.size + 1 + 1, 0, none⟩) 2 2)) := ⟨_, Lib.hid rfl⟩
    have BLF : Hid (Blk wf w.heap.size 26 #[.int .i64 3, .slice (some ⟨w0.heap.size + 1 + 1, 0, none⟩) 2 2]) := by show Blk _ _ _ _; rw [HWF.out]; simpa using (BR.set_ 0 (.int .i64 3)).set_ 1 (.slice (some ⟨w0.heap.size + 1 + 1, 0, none⟩) 2 2)
    have hlo : w.heap.size < w0.heap.size := by omega
    have PF : Hid (PO w0.heap.size wf (.slice (some ⟨w0.heap.size + 1 + 1, 0, none⟩) 2 2) [(1, [0, 0, 1]), (0, [2])] [[.int .i64 1, .slice (some ⟨w0.heap.size, 0, none⟩) 3 3], [.int .i64 0, .slice (some ⟨w0.heap.size + 1, 0, none⟩) 1 1]] [[w0.heap.size], [w0.heap.size + 1]]) := by show PO _ _ _ _ _ _; rw [HWF.out]; exact (hPO.far (p := ⟨w.heap.size, 0, none⟩) hlo _).far (p := ⟨w.heap.size, 1, none⟩) hlo _
    have TF : Hid (Below w.heap.size w wf) := by show Below _ _ _; rw [HWF.out]; exact (T0.setCell (p := ⟨w.heap.size, 0, none⟩) (Nat.le_refl _) _).setCell (p := ⟨w.heap.size, 1, none⟩) (Nat.le_refl _) _
    clear hPO T0 BR hiv O0 O1 I0 I1
    go_wp2_with fail
    rw [← Hw1003.out]
    rw [← Hw1015.out]
    rw [← Hw1029.out]
    rw [← HWF.out]
    (try simp only [Exit.inBlock, Exit.then])
    refine bodyPost_ret (v := .agg #[.int .i64 3, .slice (some ⟨w0.heap.size + 1 + 1, 0, none⟩) 2 2]) (results_cell_row rfl _ _ w.heap.size 26 #[.int .i64 3, .slice (some ⟨w0.heap.size + 1 + 1, 0, none⟩) 2 2] (0, 0) _ (by simp) BLF.out Tryz.underlying26 rfl (by kernel_rfl)) rfl ?_
    exact ⟨(3, [(1, [0, 0, 1]), (0, [2])]), ⟨[.int .i64 3, .slice (some ⟨w0.heap.size + 1 + 1, 0, none⟩) 2 2], _, rfl, PF.out.algK ⟨by omega, by omega⟩, PF.out.2.2.mono (by omega) (Nat.le_refl _), TF.out⟩, small_iff.1 (by decide +kernel)⟩
  · go_enter Tryz.func41, Tryz.ntmps41
    go_upto_region 31 with fail
    rw [← HW0.out]
    go_wp2_with fail
    refine (l2Binary_any ⟨#[48]⟩ w0 (by decide)).mono ?_
    rintro e w1003 ⟨cs0, bl0, rfl, O0, I0, hb0⟩
    obtain ⟨A0, n0, c0, rfl, -, -⟩ := rdOp (shOp.ord O0)
    replace T0 := below_next T0 hb0 rfl
    replace BR := BR.next hb0
    have zw1003 := hb0.size
    have hiv : Iv w0.heap.size w1003.heap.size ([bl0].flatten : List Nat) := (Iv.app0 (I0.mono (Nat.le_refl _) (by omega)))
    obtain ⟨w1010, Hw1010⟩ : ∃ x, Hid (x = w1003.alloc (.cells #[.int .i64 2, .slice A0 n0 c0] 64)) := ⟨_, Lib.hid rfl⟩
    have hbw1010 : Below w1003.heap.size w1003 w1010 := by rw [Hw1010.out]; exact below_box _ _
    have hPO : PO w0.heap.size w1010 (.slice (some ⟨w1003.heap.size, 0, none⟩) 1 1) [(2, binL ⟨#[48]⟩)] [[.int .i64 2, .slice A0 n0 c0]] [bl0] := by
      rw [Hw1010.out]
      have := PO.make (n := 1) (cells := #[.int .i64 2, .slice A0 n0 c0]) (OwnL.cons O0 (OwnL.nil _)) hiv (by omega) rfl (by decide) rfl
      exact this
    replace T0 := below_next T0 hbw1010 rfl
    replace BR := BR.next hbw1010
    have zw1010 := hbw1010.size
    have cR0 := BR.cell 0
    have cR1 := BR.cell 1
    simp at cR0 cR1
    have fR0 := BR.frozen 0
    have fR1 := BR.frozen 1
    rw [Hw1010.out] at cR0 cR1 fR0 fR1
    obtain ⟨wf, HWF⟩ : ∃ wf, Hid (wf = (w1010.setCell ⟨w.heap.size, 0, none⟩ (.int .i64 1)).setCell ⟨w.heap.size, 1, none⟩ (.slice (some ⟨w1003.heap.size, 0, none⟩) 1 1)) := ⟨_, Lib.hid rfl⟩
    have BLF : Hid (Blk wf w.heap.size 26 #[.int .i64 1, .slice (some ⟨w1003.heap.size, 0, none⟩) 1 1]) := by show Blk _ _ _ _; rw [HWF.out]; simpa using (BR.set_ 0 (.int .i64 1)).set_ 1 (.slice (some ⟨w1003.heap.size, 0, none⟩) 1 1)
    have hlo : w.heap.size < w0.heap.size := by omega
    have PF : Hid (PO w0.heap.size wf (.slice (some ⟨w1003.heap.size, 0, none⟩) 1 1) [(2, binL ⟨#[48]⟩)] [[.int .i64 2, .slice A0 n0 c0]] [bl0]) := by show PO _ _ _ _ _ _; rw [HWF.out]; exact (hPO.far (p := ⟨w.heap.size, 0, none⟩) hlo _).far (p := ⟨w.heap.size, 1, none⟩) hlo _
    have TF : Hid (Below w.heap.size w wf) := by show Below _ _ _; rw [HWF.out]; exact (T0.setCell (p := ⟨w.heap.size, 0, none⟩) (Nat.le_refl _) _).setCell (p := ⟨w.heap.size, 1, none⟩) (Nat.le_refl _) _
    clear hPO T0 BR hiv O0 I0
    go_wp2_with fail
    rw [← Hw1010.out]
    rw [← HWF.out]
    (try simp only [Exit.inBlock, Exit.then])
    refine bodyPost_ret (v := .agg #[.int .i64 1, .slice (some ⟨w1003.heap.size, 0, none⟩) 1 1]) (results_cell_row rfl _ _ w.heap.size 26 #[.int .i64 1, .slice (some ⟨w1003.heap.size, 0, none⟩) 1 1] (0, 0) _ (by simp) BLF.out Tryz.underlying26 rfl (by kernel_rfl)) rfl ?_
    exact ⟨(1, [(2, binL ⟨#[48]⟩)]), ⟨[.int .i64 1, .slice (some ⟨w1003.heap.size, 0, none⟩) 1 1], _, rfl, PF.out.algK ⟨by omega, by omega⟩, PF.out.2.2.mono (by omega) (Nat.le_refl _), TF.out⟩, small_iff.1 (by decide +kernel)⟩
  · go_enter Tryz.func41, Tryz.ntmps41
    go_upto_region 33 with fail
    rw [← HW0.out]
    go_wp2_with fail
    refine (l2Affine3_any w0).mono ?_
    rintro e w1003 ⟨L0, ⟨cs0, bl0, rfl, O0, I0, hb0⟩, hl0, hv0⟩
    obtain ⟨A0, n0, c0, rfl, -, -⟩ := rdOp (shOp.ord O0)
    replace T0 := below_next T0 hb0 rfl
    replace BR := BR.next hb0
    have zw1003 := hb0.size
    have hiv : Iv w0.heap.size w1003.heap.size ([bl0].flatten : List Nat) := (Iv.app0 (I0.mono (Nat.le_refl _) (by omega)))
    obtain ⟨w1010, Hw1010⟩ : ∃ x, Hid (x = w1003.alloc (.cells #[.int .i64 3, .slice A0 n0 c0] 64)) := ⟨_, Lib.hid rfl⟩
    have hbw1010 : Below w1003.heap.size w1003 w1010 := by rw [Hw1010.out]; exact below_box _ _
    have hPO : PO w0.heap.size w1010 (.slice (some ⟨w1003.heap.size, 0, none⟩) 1 1) [(3, L0)] [[.int .i64 3, .slice A0 n0 c0]] [bl0] := by
      rw [Hw1010.out]
      have := PO.make (n := 1) (cells := #[.int .i64 3, .slice A0 n0 c0]) (OwnL.cons O0 (OwnL.nil _)) hiv (by omega) rfl (by decide) rfl
      exact this
    replace T0 := below_next T0 hbw1010 rfl
    replace BR := BR.next hbw1010
    have zw1010 := hbw1010.size
    have cR0 := BR.cell 0
    have cR1 := BR.cell 1
    simp at cR0 cR1
    have fR0 := BR.frozen 0
    have fR1 := BR.frozen 1
    rw [Hw1010.out] at cR0 cR1 fR0 fR1
    obtain ⟨wf, HWF⟩ : ∃ wf, Hid (wf = (w1010.setCell ⟨w.heap.size, 0, none⟩ (.int .i64 3)).setCell ⟨w.heap.size, 1, none⟩ (.slice (some ⟨w1003.heap.size, 0, none⟩) 1 1)) := ⟨_, Lib.hid rfl⟩
    have BLF : Hid (Blk wf w.heap.size 26 #[.int .i64 3, .slice (some ⟨w1003.heap.size, 0, none⟩) 1 1]) := by show Blk _ _ _ _; rw [HWF.out]; simpa using (BR.set_ 0 (.int .i64 3)).set_ 1 (.slice (some ⟨w1003.heap.size, 0, none⟩) 1 1)
    have hlo : w.heap.size < w0.heap.size := by omega
    have PF : Hid (PO w0.heap.size wf (.slice (some ⟨w1003.heap.size, 0, none⟩) 1 1) [(3, L0)] [[.int .i64 3, .slice A0 n0 c0]] [bl0]) := by show PO _ _ _ _ _ _; rw [HWF.out]; exact (hPO.far (p := ⟨w.heap.size, 0, none⟩) hlo _).far (p := ⟨w.heap.size, 1, none⟩) hlo _
    have TF : Hid (Below w.heap.size w wf) := by show Below _ _ _; rw [HWF.out]; exact (T0.setCell (p := ⟨w.heap.size, 0, none⟩) (Nat.le_refl _) _).setCell (p := ⟨w.heap.size, 1, none⟩) (Nat.le_refl _) _
    clear hPO T0 BR hiv O0 I0
    go_wp2_with fail
    rw [← Hw1010.out]
    rw [← HWF.out]
    (try simp only [Exit.inBlock, Exit.then])
    refine bodyPost_ret (v := .agg #[.int .i64 3, .slice (some ⟨w1003.heap.size, 0, none⟩) 1 1]) (results_cell_row rfl _ _ w.heap.size 26 #[.int .i64 3, .slice (some ⟨w1003.heap.size, 0, none⟩) 1 1] (0, 0) _ (by simp) BLF.out Tryz.underlying26 rfl (by kernel_rfl)) rfl ?_
    exact ⟨(3, [(3, L0)]), ⟨[.int .i64 3, .slice (some ⟨w1003.heap.size, 0, none⟩) 1 1], _, rfl, PF.out.algK ⟨by omega, by omega⟩, PF.out.2.2.mono (by omega) (Nat.le_refl _), TF.out⟩, ⟨by show (1 : Int) ≤ 3; omega, by show (3 : Int) ≤ 5; omega, by simp, fun o ho => by
          rw [List.mem_singleton.1 ho]
          exact ⟨by show (0 : Int) ≤ 3; omega, by show (3 : Int) ≤ 3; omega, hl0, fun v hv => by have := hv0 v hv; simp; omega⟩⟩⟩
  · have hq0 : (k == 0) = false := by simp; omega
    have hq1 : (k == 1) = false := by simp; omega
    have hq2 : (k == 2) = false := by simp; omega
    have hq3 : (k == 3) = false := by simp; omega
    have hq4 : (k == 4) = false := by simp; omega
    have hq5 : (k == 5) = false := by simp; omega
    have hq6 : (k == 6) = false := by simp; omega
    have hq7 : (k == 7) = false := by simp; omega
    have hq8 : (k == 8) = false := by simp; omega
    have hq9 : (k == 9) = false := by simp; omega
    have hq10 : (k == 10) = false := by simp; omega
    have hq11 : (k == 11) = false := by simp; omega
    have hq12 : (k == 12) = false := by simp; omega
    have hq13 : (k == 13) = false := by simp; omega
    have hq14 : (k == 14) = false := by simp; omega
    have hq15 : (k == 15) = false := by simp; omega
    clear hk
    go_enter Tryz.func41, Tryz.ntmps41
    go_upto_region 34 with fail
    rw [← HW0.out]
    have hPO : PO w0.heap.size w0 (.slice none 0 0) [] [] [] := PO.nil _ _
    have cR0 := BR.cell 0
    have cR1 := BR.cell 1
    simp at cR0 cR1
    have fR0 := BR.frozen 0
    have fR1 := BR.frozen 1
    obtain ⟨wf, HWF⟩ : ∃ wf, Hid (wf = (w0.setCell ⟨w.heap.size, 0, none⟩ (.int .i64 2)).setCell ⟨w.heap.size, 1, none⟩ (.slice none 0 0)) := ⟨_, Lib.hid rfl⟩
    have BLF : Hid (Blk wf w.heap.size 26 #[.int .i64 2, .slice none 0 0]) := by show Blk _ _ _ _; rw [HWF.out]; simpa using (BR.set_ 0 (.int .i64 2)).set_ 1 (.slice none 0 0)
    have hlo : w.heap.size < w0.heap.size := by omega
    have PF : Hid (PO w0.heap.size wf (.slice none 0 0) [] [] []) := by show PO _ _ _ _ _ _; rw [HWF.out]; exact (hPO.far (p := ⟨w.heap.size, 0, none⟩) hlo _).far (p := ⟨w.heap.size, 1, none⟩) hlo _
    have TF : Hid (Below w.heap.size w wf) := by show Below _ _ _; rw [HWF.out]; exact (T0.setCell (p := ⟨w.heap.size, 0, none⟩) (Nat.le_refl _) _).setCell (p := ⟨w.heap.size, 1, none⟩) (Nat.le_refl _) _
    clear hPO T0 BR  
    go_wp2_with fail
    rw [← HWF.out]
    (try simp only [Exit.inBlock, Exit.then])
    refine bodyPost_ret (v := .agg #[.int .i64 2, .slice none 0 0]) (results_cell_row rfl _ _ w.heap.size 26 #[.int .i64 2, .slice none 0 0] (0, 0) _ (by simp) BLF.out Tryz.underlying26 rfl (by kernel_rfl)) rfl ?_
    exact ⟨(2, []), ⟨[.int .i64 2, .slice none 0 0], _, rfl, PF.out.algK ⟨by omega, by omega⟩, PF.out.2.2.mono (by omega) (Nat.le_refl _), TF.out⟩, small_iff.1 (by decide +kernel)⟩
section
variable {B : Nat}
/-- A cursor in block g: its code stands in another block, it has gone on by t bytes at most. -/
def CurB (B : Nat) (w : World) (g t : Nat) : Prop := ∃ (A : Option Addr) (n c : Nat) (a : Nat) (s : Int), Blk w g 46 #[.slice A n c, .int .i64 a, .int .u64 s] ∧ n ≤ 65536 ∧ a ≤ t ∧ 0 ≤ s ∧ s < 18446744073709551616 ∧
  (0 < n → ∃ b o, A = some ⟨b, o, none⟩ ∧ b ≠ g ∧ b < B ∧ ∀ i, i < n → ∃ x : Nat, x < 256 ∧ w.cell? ⟨b, o + i, none⟩ = some (.int .u8 x))
theorem grown_setB {w w' : World} {g : Nat} (h : w.grownBy w' (some g)) {p : Addr} (hp : p.block = g) (v : Value) : w.grownBy (w'.setCell p v) (some g) :=
  ⟨h.os, h.tape, h.output, by simpa using h.size, fun k hk hne => (Below.heap_setCell w' p v k (by intro he; rw [he, hp] at hne; exact hne rfl)).trans (h.block k hk hne)⟩
theorem grown_reflB (w : World) (r : Option Nat) : w.grownBy w r := ⟨rfl, rfl, rfl, Nat.le_refl _, fun _ _ _ => rfl⟩
theorem grown_transB {w w1 w2 : World} {r : Option Nat} (h : w.grownBy w1 r) (k : w1.grownBy w2 r) : w.grownBy w2 r :=
  ⟨k.os.trans h.os, k.tape.trans h.tape, k.output.trans h.output, Nat.le_trans h.size k.size, fun b hb hne => (k.block b (Nat.lt_of_lt_of_le hb h.size) hne).trans (h.block b hb hne)⟩
theorem CurB.mono {w : World} {g t t' : Nat} (h : CurB B w g t) (ht : t ≤ t') : CurB B w g t' := by
  obtain ⟨A, n, c, a, s, h1, h2, h3, h4⟩ := h
  exact ⟨A, n, c, a, s, h1, h2, by omega, h4⟩
theorem CurB.next_ {w w' : World} {g t : Nat} (h : CurB B w g t) (hb : Below w.heap.size w w') : CurB B w' g t := by
  obtain ⟨A, n, c, a, s, h1, h2, h3, h4, h5, h6⟩ := h
  refine ⟨A, n, c, a, s, h1.next hb, h2, h3, h4, h5, fun hn => ?_⟩
  obtain ⟨b, o, e, hne, hbB, hc⟩ := h6 hn
  exact ⟨b, o, e, hne, hbB, fun i hi => by
    obtain ⟨x, hx, hcx⟩ := hc i hi
    exact ⟨x, hx, (hb.cell (cell_lt hcx)).trans hcx⟩⟩
theorem u64_rangeB (x : Int) : 0 ≤ IntKind.u64.wrap x ∧ IntKind.u64.wrap x < 18446744073709551616 := by
  unfold IntKind.wrap
  simp [IntKind.signed, IntKind.bits]
  omega
theorem low_byteB (U : Int) (h0 : 0 ≤ U) (h1 : U < 18446744073709551616) : ∃ y : Nat, y < 256 ∧ wrap64 (bits BinOp.and IntKind.u64 (U / 1099511627776) 255) = y := by
  refine ⟨(U / 1099511627776).toNat &&& 255, Nat.lt_succ_of_le (Nat.and_le_right), ?_⟩
  rw [u64_and _ _ (by omega) (by omega) (by decide) (by decide)]
  have := @Nat.and_le_right (U / 1099511627776).toNat 255
  show wrap64 (((U / 1099511627776).toNat &&& 255 : Nat) : Int) = _
  unfold wrap64
  omega
def NextB (B : Nat) (w : World) (g t : Nat) (e : Ending) (w' : World) : Prop := ∃ x : Nat, x < 256 ∧ e = .returned (.int .i64 x) ∧ CurB B w' g t ∧ w.grownBy w' (some g)
theorem cnextB_any (g t : Nat) (w : World) (h : CurB B w g t) (ht : t ≤ 1000000000) :
    Calls Tryz.prog 74 #[.pointer (some ⟨g, 0, none⟩)] w (NextB B w g (t + 1)) := by
  obtain ⟨A, n, c, a, s, BX, hn, ha, hs0, hs1, hcode⟩ := h
  have c0 := BX.cell 0
  have c1 := BX.cell 1
  have c2 := BX.cell 2
  have f1 := BX.frozen 1
  have f2 := BX.frozen 2
  simp at c0 c1 c2
  by_cases hlt : a < n
  · obtain ⟨b, o, rfl, hbg, hbB, hc⟩ := hcode (by omega)
    obtain ⟨x, hx, hcx⟩ := hc a hlt
    have ha0 : (0 : Int) ≤ (a : Int) := by omega
    have ha1 : (a : Int) < (n : Int) := by omega
    have ha2 : (a : Int) ≤ 1000000000 := by omega
    have ha3 : (a : Int) + 1 ≤ (n : Int) := by omega
    have hwx : IntKind.i64.wrap (x : Int) = x := by unfold IntKind.wrap; simp [IntKind.signed, IntKind.bits]; omega
    go_enter Tryz.func74, Tryz.ntmps74
    go_wp2_with fail
    go_still (by kernel_rfl)
    have BX1 : Blk w.drew g 46 #[.slice (some ⟨b, o, none⟩) n c, .int .i64 a, .int .u64 s] := BX.drew
    have hcx1 : w.drew.cell? ⟨b, o + a, none⟩ = some (.int .u8 x) := hcx
    have G1 : w.grownBy w.drew (some g) := ⟨rfl, rfl, rfl, Nat.le_refl _, fun _ _ _ => rfl⟩
    show Exit.then _ _ Exit.normal _ w.drew
    generalize w.drew = w1 at BX1 hcx1 G1 ⊢
    clear c0 c1 c2 f1 f2
    have c0 := BX1.cell 0
    have c1 := BX1.cell 1
    have c2 := BX1.cell 2
    have f1 := BX1.frozen 1
    have f2 := BX1.frozen 2
    simp at c0 c1 c2
    go_wp2_with fail
    go_still (by kernel_rfl)
    have BX2 : Blk w1.drew g 46 #[.slice (some ⟨b, o, none⟩) n c, .int .i64 a, .int .u64 s] := BX1.drew
    have G2 : w.grownBy w1.drew (some g) := grown_transB G1 ⟨rfl, rfl, rfl, Nat.le_refl _, fun _ _ _ => rfl⟩
    show Exit.then _ _ Exit.normal _ w1.drew
    generalize w1.drew = w2 at BX2 G2 ⊢
    clear c0 c1 c2 f1 f2
    have c0 := BX2.cell 0
    have c1 := BX2.cell 1
    have c2 := BX2.cell 2
    have f1 := BX2.frozen 1
    have f2 := BX2.frozen 2
    simp at c0 c1 c2
    go_wp2_with fail
    obtain ⟨U, HU⟩ : ∃ U, Hid (IntKind.u64.wrap (IntKind.u64.wrap (IntKind.u64.wrap (s * 6364136223846793005) + ↑x) + 550289) = U) := ⟨_, rfl⟩
    have hU : 0 ≤ U ∧ U < 18446744073709551616 := by rw [← HU.out]; exact u64_rangeB _
    rw [HU.out]
    have BX3 : Blk ((w2.setCell ⟨g, 1, none⟩ (.int .i64 ((a : Int) + 1))).setCell ⟨g, 2, none⟩ (.int .u64 U)) g 46 #[.slice (some ⟨b, o, none⟩) n c, .int .i64 ((a + 1 : Nat) : Int), .int .u64 U] := by
      have h2 := (BX2.set_ 1 (.int .i64 ((a : Int) + 1))).set_ 2 (.int .u64 U)
      simpa using h2
    have G3 := grown_setB (grown_setB G2 (p := ⟨g, 1, none⟩) rfl (.int .i64 ((a : Int) + 1))) (p := ⟨g, 2, none⟩) rfl (.int .u64 U)
    generalize (w2.setCell ⟨g, 1, none⟩ (.int .i64 ((a : Int) + 1))).setCell ⟨g, 2, none⟩ (.int .u64 U) = w3 at BX3 G3 ⊢
    clear c0 c1 c2 f1 f2
    have c0 := BX3.cell 0
    have c1 := BX3.cell 1
    simp at c0 c1
    go_still (by kernel_rfl)
    have BX4 : Blk w3.drew g 46 #[.slice (some ⟨b, o, none⟩) n c, .int .i64 ((a + 1 : Nat) : Int), .int .u64 U] := BX3.drew
    have G4 : w.grownBy w3.drew (some g) := grown_transB G3 ⟨rfl, rfl, rfl, Nat.le_refl _, fun _ _ _ => rfl⟩
    show Exit.then _ _ Exit.normal _ w3.drew
    generalize w3.drew = w4 at BX4 G4 ⊢
    go_wp2_with fail
    go_ret
    exact ⟨x, hx, rfl, ⟨_, n, c, a + 1, U, BX4, hn, by omega, hU.1, hU.2, fun _ => ⟨b, o, rfl, hbg, hbB, fun i hi => by
      obtain ⟨y, hy, hcy⟩ := hc i hi
      exact ⟨y, hy, (World.cell?_of_block (G4.block b (cell_lt hcy) (by simpa using hbg))).trans hcy⟩⟩⟩, G4⟩
  · have ha0 : (0 : Int) ≤ (a : Int) := by omega
    have ha1 : ¬ (a : Int) < (n : Int) := by omega
    have ha2 : (a : Int) ≤ 1000000000 := by omega
    have ha3 : ¬ (a : Int) + 1 ≤ (n : Int) := by omega
    go_enter Tryz.func74, Tryz.ntmps74
    go_wp2_with fail
    go_still (by kernel_rfl)
    have BX2 : Blk w.drew g 46 #[.slice A n c, .int .i64 a, .int .u64 s] := BX.drew
    have G2 : w.grownBy w.drew (some g) := ⟨rfl, rfl, rfl, Nat.le_refl _, fun _ _ _ => rfl⟩
    show Exit.then _ _ Exit.normal _ w.drew
    generalize w.drew = w2 at BX2 G2 ⊢
    clear c0 c1 c2 f1 f2
    have c0 := BX2.cell 0
    have c1 := BX2.cell 1
    have c2 := BX2.cell 2
    have f1 := BX2.frozen 1
    have f2 := BX2.frozen 2
    simp at c0 c1 c2
    go_wp2_with fail
    obtain ⟨U, HU⟩ : ∃ U, Hid (IntKind.u64.wrap (IntKind.u64.wrap (IntKind.u64.wrap (s * 6364136223846793005)) + 550289) = U) := ⟨_, rfl⟩
    have hU : 0 ≤ U ∧ U < 18446744073709551616 := by rw [← HU.out]; exact u64_rangeB _
    rw [HU.out]
    have BX3 : Blk ((w2.setCell ⟨g, 1, none⟩ (.int .i64 ((a : Int) + 1))).setCell ⟨g, 2, none⟩ (.int .u64 U)) g 46 #[.slice A n c, .int .i64 ((a + 1 : Nat) : Int), .int .u64 U] := by
      have h2 := (BX2.set_ 1 (.int .i64 ((a : Int) + 1))).set_ 2 (.int .u64 U)
      simpa using h2
    have G3 := grown_setB (grown_setB G2 (p := ⟨g, 1, none⟩) rfl (.int .i64 ((a : Int) + 1))) (p := ⟨g, 2, none⟩) rfl (.int .u64 U)
    generalize (w2.setCell ⟨g, 1, none⟩ (.int .i64 ((a : Int) + 1))).setCell ⟨g, 2, none⟩ (.int .u64 U) = w3 at BX3 G3 ⊢
    clear c0 c1 c2 f1 f2
    have c0 := BX3.cell 0
    have c1 := BX3.cell 1
    simp at c0 c1
    go_still (by kernel_rfl)
    have BX4 : Blk w3.drew g 46 #[.slice A n c, .int .i64 ((a + 1 : Nat) : Int), .int .u64 U] := BX3.drew
    have G4 : w.grownBy w3.drew (some g) := grown_transB G3 ⟨rfl, rfl, rfl, Nat.le_refl _, fun _ _ _ => rfl⟩
    show Exit.then _ _ Exit.normal _ w3.drew
    generalize w3.drew = w4 at BX4 G4 ⊢
    have c2 := BX4.cell 2
    simp at c2
    go_wp2_with fail
    obtain ⟨y, hy, hye⟩ := low_byteB U hU.1 hU.2
    go_ret
    refine ⟨y, hy, ret_int hye, ⟨_, n, c, a + 1, U, BX4, hn, by omega, hU.1, hU.2, fun hn => ?_⟩, G4⟩
    obtain ⟨b, o, e, hbg, hbB, hc⟩ := hcode hn
    exact ⟨b, o, e, hbg, hbB, fun i hi => by
      obtain ⟨y, hy, hcy⟩ := hc i hi
      exact ⟨y, hy, (World.cell?_of_block (G4.block b (cell_lt hcy) (by simpa using hbg))).trans hcy⟩⟩
def PickB (B : Nat) (w : World) (g t : Nat) (n : Int) (e : Ending) (w' : World) : Prop := ∃ x : Nat, ((x : Int) < n ∨ x = 0) ∧ e = .returned (.int .i64 x) ∧ CurB B w' g t ∧ w.grownBy w' (some g)
theorem mod_natB {x n : Int} (hn : 0 < n) : ∃ z : Nat, (z : Int) < n ∧ x % n = z := by
  have h1 := Int.emod_nonneg x (show n ≠ 0 by omega)
  have h2 := Int.emod_lt_of_pos x hn
  exact ⟨(x % n).toNat, by omega, by omega⟩
theorem pickB_any (g t : Nat) (n : Int) (w : World) (h : CurB B w g t) (ht : t ≤ 999999998) (hn : n ≤ 9223372036854775807) :
    Calls Tryz.prog 42 #[.pointer (some ⟨g, 0, none⟩), .int .i64 n] w (PickB B w g (t + 2) n) := by
  go_enter Tryz.func42, Tryz.ntmps42
  by_cases h1 : n ≤ 1
  · go_wp2_with fail
    go_ret
    exact ⟨0, .inr rfl, rfl, h.mono (by omega), grown_reflB _ _⟩
  · go_wp2_with fail
    refine (cnextB_any g t _ h (by omega)).mono ?_
    rintro e w1 ⟨x, hx, rfl, hc1, hg1⟩
    have hx0 : (0 : Int) ≤ (x : Int) := by omega
    have hx1 : (x : Int) < 256 := by omega
    by_cases h2 : 200 < n
    · go_wp2_with fail
      refine (cnextB_any g (t + 1) _ hc1 (by omega)).mono ?_
      rintro e w2 ⟨y, hy, rfl, hc2, hg2⟩
      have hy0 : (0 : Int) ≤ (y : Int) := by omega
      have hy1 : (y : Int) < 256 := by omega
      have hG := grown_transB hg1 hg2
      go_wp2_with fail
      obtain ⟨z, hz, hze⟩ := mod_natB (x := (x : Int) * 256 + y) (n := n) (by omega)
      go_ret
      exact ⟨z, .inl hz, ret_int hze, hc2, hG⟩
    · go_wp2_with fail
      obtain ⟨z, hz, hze⟩ := mod_natB (x := (x : Int)) (n := n) (by omega)
      go_ret
      exact ⟨z, .inl hz, ret_int hze, hc1.mono (by omega), hg1⟩
theorem oneB_any (g t : Nat) (n : Int) (w : World) (h : CurB B w g t) (ht : t ≤ 999999998) (hn : n ≤ 9223372036854775807) :
    Calls Tryz.prog 40 #[.pointer (some ⟨g, 0, none⟩), .int .i64 n] w (fun e w' => ∃ b, e = .returned (.bool b) ∧ CurB B w' g (t + 2) ∧ w.grownBy w' (some g)) := by
  go_enter Tryz.func40, Tryz.ntmps40
  go_wp2_with fail
  refine (pickB_any g t n _ h ht hn).mono ?_
  rintro e w1 ⟨x, -, rfl, hc1, hg1⟩
  go_wp2_with fail
  go_ret
  exact ⟨_, rfl, hc1, hg1⟩
/-- A list of numbers that may be picked from. -/
def NumsP (P : Int → Prop) (w : World) (g b n : Nat) : Prop := b ≠ g ∧ 0 < n ∧ n ≤ 1000 ∧ ∀ i, i < n → ∃ x : Int, P x ∧ w.cell? ⟨b, i, none⟩ = some (.int .i64 x)
theorem amongB_any (g t b n c : Nat) (w : World) (h : CurB B w g t) (ht : t ≤ 999999998) (P : Int → Prop) (hl : NumsP P w g b n) :
    Calls Tryz.prog 43 #[.pointer (some ⟨g, 0, none⟩), .slice (some ⟨b, 0, none⟩) n c] w (fun e w' => ∃ x : Int, P x ∧ e = .returned (.int .i64 x) ∧ CurB B w' g (t + 2) ∧ w.grownBy w' (some g)) := by
  obtain ⟨hbg, hn0, hn1, hc⟩ := hl
  go_enter Tryz.func43, Tryz.ntmps43
  go_wp2_with fail
  refine (pickB_any g t n _ h ht (by omega)).mono ?_
  rintro e w1 ⟨x, hx, rfl, hc1, hg1⟩
  have hxn : x < n := by omega
  have hx0 : (0 : Int) ≤ (x : Int) := by omega
  have hx1 : (x : Int) < (n : Int) := by omega
  obtain ⟨y, hy0, hcs⟩ := hc x hxn
  have hcs1 : w1.cell? ⟨b, x, none⟩ = some (.int .i64 y) := (World.cell?_of_block (hg1.block b (cell_lt hcs) (by simpa using hbg))).trans hcs
  clear hx
  go_wp2_with fail
  go_ret
  exact ⟨y, hy0, rfl, hc1, hg1⟩
theorem CurB.lt {w : World} {g t : Nat} (h : CurB B w g t) : g < w.heap.size := by
  obtain ⟨A, n, c, a, s, h1, -⟩ := h
  exact h1.lt
theorem CurB.grown {w w' : World} {g t : Nat} {row : Option Nat} (h : CurB B w g t) (hg : w.grownBy w' row) (hr : ∀ r, row = some r → B ≤ r ∧ r ≠ g) : CurB B w' g t := by
  obtain ⟨A, n, c, a, s, h1, h2, h3, h4, h5, h6⟩ := h
  refine ⟨A, n, c, a, s, h1.grown hg (fun e => (hr g e.symm).2 rfl), h2, h3, h4, h5, fun hn => ?_⟩
  obtain ⟨b, o, e, hne, hbB, hc⟩ := h6 hn
  exact ⟨b, o, e, hne, hbB, fun i hi => by
    obtain ⟨x, hx, hcx⟩ := hc i hi
    exact ⟨x, hx, (World.cell?_of_block (hg.block b (cell_lt hcx) (fun e => by have := (hr b e.symm).1; omega))).trans hcx⟩⟩
def CodeB (w : World) (A : Option Addr) (n : Nat) : Prop := n ≤ 65536 ∧ (0 < n → ∃ b o, A = some ⟨b, o, none⟩ ∧ ∀ i, i < n → ∃ x : Nat, x < 256 ∧ w.cell? ⟨b, o + i, none⟩ = some (.int .u8 x))
theorem CodeB.next {w w' : World} {A : Option Addr} {n : Nat} (h : CodeB w A n) (hb : Below w.heap.size w w') : CodeB w' A n := by
  refine ⟨h.1, fun hn => ?_⟩
  obtain ⟨b, o, e, hc⟩ := h.2 hn
  exact ⟨b, o, e, fun i hi => by
    obtain ⟨x, hx, hcx⟩ := hc i hi
    exact ⟨x, hx, (hb.cell (cell_lt hcx)).trans hcx⟩⟩
theorem CurB.made {w : World} {A : Option Addr} {n c : Nat} (h : CodeB w A n) {k : Nat} (hk : k = w.heap.size) : CurB k (w.alloc (.cells #[.slice A n c, .int .i64 0, .int .u64 0] 46)) k 0 := by
  subst hk
  refine ⟨A, n, c, 0, 0, Blk.new _ _ _, h.1, Nat.zero_le _, by omega, by omega, fun hn => ?_⟩
  obtain ⟨b, o, e, hc⟩ := h.2 hn
  obtain ⟨x0, -, hc0⟩ := hc 0 hn
  have hlt := cell_lt hc0
  exact ⟨b, o, e, Nat.ne_of_lt hlt, hlt, fun i hi => by
    obtain ⟨x, hx, hcx⟩ := hc i hi
    exact ⟨x, hx, ((below_box w _).cell (cell_lt hcx)).trans hcx⟩⟩
end
theorem growB_trans {w w1 w2 : World} {r : Option Nat} (h : w.grownBy w1 r) (k : w1.grownBy w2 r) : w.grownBy w2 r :=
  ⟨k.os.trans h.os, k.tape.trans h.tape, k.output.trans h.output, Nat.le_trans h.size k.size, fun b hb hne => (k.block b (Nat.lt_of_lt_of_le hb h.size) hne).trans (h.block b hb hne)⟩
theorem growB_own {w w1 w2 : World} {r row : Option Nat} (h : w.grownBy w1 r) (k : w1.grownBy w2 row) (hr : ∀ q, row = some q → w.heap.size ≤ q) : w.grownBy w2 r :=
  ⟨k.os.trans h.os, k.tape.trans h.tape, k.output.trans h.output, Nat.le_trans h.size k.size, fun b hb hne => (k.block b (Nat.lt_of_lt_of_le hb h.size) (fun e => by have := hr b e.symm; omega)).trans (h.block b hb hne)⟩
theorem growB_box {w w1 : World} {r : Option Nat} (h : w.grownBy w1 r) (o : Obj) : w.grownBy (w1.alloc o) r :=
  ⟨h.os, h.tape, h.output, Nat.le_trans h.size (by simp), fun b hb hne => (Below.heap_alloc w1 o b (Nat.lt_of_lt_of_le hb h.size)).trans (h.block b hb hne)⟩
theorem own_grownG {w w' : World} {base size n g : Nat} {e : TypeId} {v : Value} {xs : List Value} (h : w.ownsRow base e size v n xs) (hg : w.grownBy w' (some g)) (hb : g < base) : w'.ownsRow base e size v n xs :=
  own_same h fun b hv => hg.block b (h.lt b hv).2 (fun e => by injection e with e; have := (h.lt b hv).1; omega)
theorem NumsP.grown {P : Int → Prop} {w w' : World} {g b n : Nat} (h : NumsP P w g b n) (hg : w.grownBy w' (some g)) : NumsP P w' g b n :=
  ⟨h.1, h.2.1, h.2.2.1, fun i hi => by
    obtain ⟨x, hx, hc⟩ := h.2.2.2 i hi
    exact ⟨x, hx, (World.cell?_of_block (hg.block b (cell_lt hc) (by simpa using h.1))).trans hc⟩⟩
theorem toGr {w w' : World} {r : Option Nat} (h : Below w.heap.size w w') : w.grownBy w' r := ⟨h.os, h.tape, h.output, h.size, fun b hb _ => h.block b hb⟩
section
variable {lo g n : Nat} {w w1 : World} {v : Value} {F : List (List Int)}
end
theorem ints_snocG (xs : List Int) (y : Int) : ints xs ++ [.int .i64 y] = ints (xs ++ [y]) := by simp [ints]
theorem rd_one {w : World} {g : Nat} {u : Int} (h : w.cell? ⟨g, 0, none⟩ = some (.int .i64 u)) (hu : -9223372036854775808 ≤ u ∧ u ≤ 9223372036854775807) : RdL RI w (some ⟨g, 0, none⟩) 1 [u] := by
  refine ⟨rfl, by unfold maxLen; omega, fun k x hk => ?_⟩
  have hk1 := (List.getElem?_eq_some_iff.1 hk).1
  simp at hk1
  subst hk1
  simp at hk
  subst hk
  exact ⟨g, 0, .int .i64 u, rfl, h, rfl, hu.1, hu.2⟩
theorem nums3n (w : World) (g : Nat) (n : Nat) (hn : n ≤ 1000) (hg : g < w.heap.size) {k : Nat} (hk : k = w.heap.size) : NumsP (fun x => -1 ≤ x ∧ x ≤ n) (w.alloc (.cells #[.int .i64 0, .int .i64 (-1), .int .i64 n] 3)) g k 3 := by
  subst hk
  refine ⟨by omega, by omega, by omega, fun i hi => ?_⟩
  have hc := (Blk.new w 3 #[.int .i64 0, .int .i64 (-1), .int .i64 n]).cell i
  rcases (by omega : i = 0 ∨ i = 1 ∨ i = 2) with rfl | rfl | rfl
  · exact ⟨0, ⟨by omega, by omega⟩, hc⟩
  · exact ⟨-1, ⟨by omega, by omega⟩, hc⟩
  · exact ⟨n, ⟨by omega, by omega⟩, hc⟩
/-- What drawn names are. -/
def NamD (B n : Nat) (w : World) (g t : Nat) (e : Ending) (w' : World) : Prop := ∃ A m c L, e = .returned (.slice A m c) ∧ w'.ownsRow w.heap.size 3 1 (.slice A m c) m (ints L) ∧ (∀ x ∈ L, -1 ≤ x ∧ x ≤ (n : Int)) ∧ m ≤ n + 1 ∧ CurB B w' g t ∧ w.grownBy w' (some g)
theorem names2_any (B g t n : Nat) (w : World) (h : CurB B w g t) (hB : B ≤ w.heap.size) (ht : t ≤ 999990000) (hn : n ≤ 100) :
    Calls Tryz.prog 19 #[.pointer (some ⟨g, 0, none⟩), .int .i64 n] w (NamD B n w g (t + 2 * n + 10)) := by
  have hgl := h.lt
  have hb0 := below_box w (.cells #[] 3)
  have hown0 : (w.alloc (.cells #[] 3)).ownsRow w.heap.size 3 1 (.slice (some ⟨w.heap.size, 0, none⟩) 0 0) 0 (ints []) := World.ownsRow_lit w #[] 0 (Nat.le_refl _) (Nat.zero_le _) rfl
  have hc0 := h.next_ hb0
  have hg0 : w.grownBy (w.alloc (.cells #[] 3)) (some g) := growB_box (grown_reflB w _) _
  go_enter Tryz.func19, Tryz.ntmps19
  go_wp2_with fail
  go_loopw [5, 6, 7] (fun v i _ wr => ∃ (q b c : Nat) (L : List Int), q ≤ n ∧ i = .int .i64 q ∧ v = .slice (some ⟨b, 0, none⟩) q c ∧ wr.ownsRow w.heap.size 3 1 (.slice (some ⟨b, 0, none⟩) q c) q (ints L) ∧ (∀ x ∈ L, -1 ≤ x ∧ x ≤ (n : Int)) ∧ CurB B wr g (t + 2 * q) ∧ w.grownBy wr (some g)) (fun _ i _ _ => n - (intOf i).toNat)
  case atStart => exact ⟨0, _, 0, [], Nat.zero_le _, rfl, rfl, hown0, fun x hx => by simp at hx, hc0, hg0⟩
  case round =>
    clear hown0 hc0 hg0 hb0
    obtain ⟨q, b, c, L, hq, rfl, rfl, hown, hL, hcur, hgr⟩ := hrel
    have HL := Lib.hid hL
    clear hL
    have hzr := hgr.size
    by_cases hlt : q < n
    · have hq1 : (q : Int) < (n : Int) := by omega
      have hwr : IntKind.i64.wrap ((q : Int) + 1) = (q : Int) + 1 := by rw [IntKind.wrap_i64]; omega
      have HPK := Lib.hid (pickB_any g (t + 2 * q) ((q : Int) + 1) wr hcur (by omega) (by omega))
      go_wp2_with fail
      refine HPK.out.mono ?_
      rintro e w1 ⟨x, hx, rfl, hc1, hg1⟩
      have hown1 := own_grownG hown hg1 hgl
      have hgr1 := growB_trans hgr hg1
      have hz1 := hgr1.size
      obtain ⟨wo, HWO⟩ : ∃ wo : World, wo = w1 := ⟨_, rfl⟩
      subst HWO
      have hxq : x ≤ q := by omega
      have hqc := sort_cap hown1
      have hk0 : (0 : Int) ≤ (x : Int) := by omega
      have hk1 : (x : Int) ≤ (c : Int) := by omega
      have hk3 : (x : Int) ≤ (q : Int) := by omega
      have hrd := rd_of_own (R := RI) hown1 (RI_ints fun y hy => by have := HL.out y hy; omega)
      have H1 := Lib.hid hrd
      obtain ⟨ad, HIF, H2⟩ : ∃ ad, Hid ((if c = x then some (⟨b, 0, none⟩ : Addr) else some ⟨b, x, none⟩) = ad) ∧ Hid (RdL RI wo ad (q - x) (L.drop x)) := by
        by_cases hq : c = x
        · refine ⟨_, if_pos hq, ?_⟩
          have e0 : q - x = 0 := by omega
          have e1 : L.drop x = [] := List.drop_eq_nil_of_le (by rw [(hrd).1]; omega)
          show RdL RI wo _ _ _
          rw [e0, e1]
          exact ⟨rfl, Nat.zero_le _, fun j x hj => by simp at hj⟩
        · exact ⟨_, if_neg hq, by show RdL RI _ _ _ _; simpa using (hrd).drop x⟩
      clear hx hown hown1 hrd HPK
      go_upto_region 6 with fail
      go_region_law (first
        | (refine step_appAny (R := RI) _ rfl (.tmp 19) (.tmp 22) 27 3 rfl (.int .i64 0) 8 Tryz.underlying27 info_int rfl (by decide) wo.heap.size 0 0 (some ⟨wo.heap.size, 0, none⟩) [] (by rfl) (by first | exact lit0 _ (by simp) | exact (lit0 _ (by simp)).alloc _) (some ⟨b, 0, none⟩) x c (L.take x) (fun y => .int .i64 y) (fun _ => rfl) (by rfl) ((H1.out.take (k := x) (by omega)).next stab_RI (by first | exact (below_drewN (Below.refl _ _) _).alloc (by simp) _ | exact ((below_drewN (Below.refl _ _) _).alloc (by simp) _).alloc (by first | (simp; done) | (simp; omega)) _)) (fun _ _ _ hr => hr.1) (by omega) (by first | (simp; done) | (simp; omega)) ?_; intro A2 c2 w2 hown2 hg2 hb2; simp only [Nat.zero_add, List.nil_append] at hown2)
          | (refine step_appAny (R := RI) _ rfl (.tmp 19) (.tmp 22) 27 3 rfl (.int .i64 0) 8 Tryz.underlying27 info_int rfl (by decide) wo.heap.size 0 0 (some ⟨wo.heap.size + 1, 0, none⟩) [] (by rfl) (lit1 _ (by simp)) (some ⟨b, 0, none⟩) x c (L.take x) (fun y => .int .i64 y) (fun _ => rfl) (by rfl) ((H1.out.take (k := x) (by omega)).next stab_RI (by first | exact (below_drewN (Below.refl _ _) _).alloc (by simp) _ | exact ((below_drewN (Below.refl _ _) _).alloc (by simp) _).alloc (by first | (simp; done) | (simp; omega)) _)) (fun _ _ _ hr => hr.1) (by omega) (by first | (simp; done) | (simp; omega)) ?_; intro A2 c2 w2 hown2 hg2 hb2; simp only [Nat.zero_add, List.nil_append] at hown2)
          | (refine step_appAny (R := RI) _ rfl (.tmp 23) (.tmp 25) 27 3 rfl (.int .i64 0) 8 Tryz.underlying27 info_int rfl (by decide) wo.heap.size x c2 A2 (ints (L.take x)) (by rfl) (by exact hown2.alloc _) (some ⟨w2.heap.size, 0, none⟩) 1 1 [(q : Int)] (fun y => .int .i64 y) (fun _ => rfl) (by rfl) (rd_one (cell_new _ rfl) (by omega)) (fun _ _ _ hr => hr.1) (by omega) (by have h1 := hb2.size; first | (simp at h1; omega) | (simp at h1 ⊢; omega) | (simp; omega) | omega) ?_; intro A3 c3 w3 hown3 hg3 hb3; have F3 : Below wo.heap.size wo w3 := (by refine Below.trans ?_ hb3; first | (refine Below.trans ?_ hb2; first | exact (below_drewN (Below.refl _ _) _).alloc (by simp) _ | exact ((below_drewN (Below.refl _ _) _).alloc (by simp) _).alloc (by first | (simp; done) | (simp; omega)) _) | (refine Below.alloc ?_ (by have h1 := hb2.size; first | (simp at h1; omega) | omega) _; refine Below.trans ?_ hb2; first | exact (below_drewN (Below.refl _ _) _).alloc (by simp) _ | exact ((below_drewN (Below.refl _ _) _).alloc (by simp) _).alloc (by first | (simp; done) | (simp; omega)) _)))
          | (refine step_appAny (R := RI) _ rfl (.tmp 23) (.tmp 25) 27 3 rfl (.int .i64 0) 8 Tryz.underlying27 info_int rfl (by decide) wo.heap.size x c2 A2 (ints (L.take x)) (by rfl) (by exact hown2) (some ⟨wo.heap.size + 1, 0, none⟩) 1 1 [(q : Int)] (fun y => .int .i64 y) (fun _ => rfl) (by rfl) (rd_one (hg2.cell (v := .int .i64 (q : Int)) (cell_new _ (by simp)) (by simp [Value.ownBlock])) (by omega)) (fun _ _ _ hr => hr.1) (by omega) (by have h1 := hb2.size; first | (simp at h1; omega) | (simp at h1 ⊢; omega) | (simp; omega) | omega) ?_; intro A3 c3 w3 hown3 hg3 hb3; have F3 : Below wo.heap.size wo w3 := (by refine Below.trans ?_ hb3; first | (refine Below.trans ?_ hb2; first | exact (below_drewN (Below.refl _ _) _).alloc (by simp) _ | exact ((below_drewN (Below.refl _ _) _).alloc (by simp) _).alloc (by first | (simp; done) | (simp; omega)) _) | (refine Below.alloc ?_ (by have h1 := hb2.size; first | (simp at h1; omega) | omega) _; refine Below.trans ?_ hb2; first | exact (below_drewN (Below.refl _ _) _).alloc (by simp) _ | exact ((below_drewN (Below.refl _ _) _).alloc (by simp) _).alloc (by first | (simp; done) | (simp; omega)) _)))
          | (refine step_appAny (R := RI) _ rfl (.tmp 23) (.tmp 25) 27 3 rfl (.int .i64 0) 8 Tryz.underlying27 info_int rfl (by decide) wo.heap.size x c2 A2 (ints (L.take x)) (by rfl) (by exact hown2) (some ⟨wo.heap.size, 0, none⟩) 1 1 [(q : Int)] (fun y => .int .i64 y) (fun _ => rfl) (by rfl) (rd_one (hg2.cell (v := .int .i64 (q : Int)) (cell_new2 _ _ (by simp)) (by simp [Value.ownBlock])) (by omega)) (fun _ _ _ hr => hr.1) (by omega) (by have h1 := hb2.size; first | (simp at h1; omega) | (simp at h1 ⊢; omega) | (simp; omega) | omega) ?_; intro A3 c3 w3 hown3 hg3 hb3; have F3 : Below wo.heap.size wo w3 := (by refine Below.trans ?_ hb3; first | (refine Below.trans ?_ hb2; first | exact (below_drewN (Below.refl _ _) _).alloc (by simp) _ | exact ((below_drewN (Below.refl _ _) _).alloc (by simp) _).alloc (by first | (simp; done) | (simp; omega)) _) | (refine Below.alloc ?_ (by have h1 := hb2.size; first | (simp at h1; omega) | omega) _; refine Below.trans ?_ hb2; first | exact (below_drewN (Below.refl _ _) _).alloc (by simp) _ | exact ((below_drewN (Below.refl _ _) _).alloc (by simp) _).alloc (by first | (simp; done) | (simp; omega)) _)))
          | (refine step_appAny (R := RI) _ rfl (.tmp 26) (.tmp 29) 27 3 rfl (.int .i64 0) 8 Tryz.underlying27 info_int rfl (by decide) wo.heap.size (x + 1) c3 A3 (ints (L.take x) ++ [.int .i64 (q : Int)]) (by rfl) (by exact hown3) ad (q - x) (c - x) (L.drop x) (fun y => .int .i64 y) (fun _ => rfl) (by first | rfl | (show Value.slice (if c = x then _ else _) _ _ = _; rw [HIF.out])) (H2.out.next stab_RI F3) (fun _ _ _ hr => hr.1) (by omega) (by exact F3.size) ?_; intro A4 c4 w4 hown4 hg4 hb4))
      all_goals
        have e1 : x + 1 + (q - x) = q + 1 := by omega
        rw [e1] at hown4
        have eL : ints (L.take x) ++ [.int .i64 (q : Int)] ++ (L.drop x).map (fun y => .int .i64 y) = ints (L.take x ++ (q : Int) :: L.drop x) := by simp [ints]
        rw [eL] at hown4
        obtain ⟨g4, hA4, -, -⟩ := own_form hown4 (by omega)
        subst hA4
        have HO4 := Lib.hid hown4
        have HF4 := Lib.hid (F3.trans hb4)
        have HE1 := Lib.hid e1
        clear hown4 eL e1
        have hTc := HF4.out
        go_wp2_with fail
        go_roundw
        case rel => exact ⟨q + 1, g4, c4, _, by omega, by go_num, by rw [HE1.out], own_mono HO4.out hz1, fun y hy => by
          rcases List.mem_append.1 hy with hy | hy
          · exact HL.out y (List.mem_of_mem_take hy)
          · rcases List.mem_cons.1 hy with rfl | hy
            · omega
            · exact HL.out y (List.mem_of_mem_drop hy), (hc1.next_ hTc).mono (by omega), growB_trans hgr1 (toGr hTc)⟩
        case measure => simp [intOf]; omega
    · obtain rfl : q = n := by omega
      have hq1 : ¬ (q : Int) < (q : Int) := by omega
      have HPK := Lib.hid (pickB_any g (t + 2 * q) 24 wr hcur (by omega) (by omega))
      go_wp2_with fail
      refine HPK.out.mono ?_
      rintro e w1 ⟨x, hx, rfl, hc1, hg1⟩
      have hown1 := own_grownG hown hg1 hgl
      have hgr1 := growB_trans hgr hg1
      have hz1 := hgr1.size
      clear hown HPK hx
      rcases (by omega : (x : Int) = 0 ∨ (x : Int) = 1 ∨ 1 < (x : Int)) with hx | hx | hx
      · have hx0 : ((x : Int) == 0) = true := by simp; omega
        have hx1 : ((x : Int) == 1) = false := by simp; omega
        go_wp2_with (at_builtin; refine app1 w1 rfl _ _ 27 3 rfl (.int .i64 0) 8 Tryz.underlying27 info_int rfl (by decide) w.heap.size q c (some ⟨b, 0, none⟩) (ints L) rfl hown1 (.int .i64 q) rfl rfl (by omega) hz1 ?_; intro A2 c2 w2 hown2 hg2 hb2)
        have HO := Lib.hid hown2
        clear hown2
        go_ret
        refine ⟨A2, q + 1, c2, L ++ [(q : Int)], rfl, ?_, fun y hy => ?_, by omega, (hc1.grown hg2 fun r hr => by have := (hown1.lt r hr).1; omega).mono (by omega), growB_own hgr1 hg2 fun r hr => (hown1.lt r hr).1⟩
        · rw [← ints_snocG]; exact HO.out
        · rcases List.mem_append.1 hy with hy | hy
          · exact HL.out y hy
          · rw [List.mem_singleton.1 hy]; omega
      · have hx0 : ((x : Int) == 0) = false := by simp; omega
        have hx1 : ((x : Int) == 1) = true := by simp; omega
        by_cases hn0 : 0 < q
        · have hn1 : (0 : Int) < (q : Int) := by omega
          have HPK := Lib.hid (pickB_any g (t + 2 * q + 2) (q : Int) w1 hc1 (by omega) (by omega))
          go_wp2_with fail
          refine HPK.out.mono ?_
          rintro e w2 ⟨y, hy, rfl, hc2, hg2⟩
          have hown2 := own_grownG hown1 hg2 hgl
          have hgr2 := growB_trans hgr1 hg2
          obtain ⟨w3, HW3⟩ : ∃ wb, Hid (wb = w2.alloc (.cells #[.int .i64 0, .int .i64 (-1), .int .i64 q] 3)) := ⟨_, rfl⟩
          have hb3 : Below w2.heap.size w2 w3 := by rw [HW3.out]; exact below_box _ _
          have hnum : NumsP (fun x => -1 ≤ x ∧ x ≤ (q : Int)) w3 g w2.heap.size 3 := by rw [HW3.out]; exact nums3n w2 g q (by omega) hc2.lt rfl
          have HAM := Lib.hid (amongB_any g (t + 2 * q + 2 + 2) w2.heap.size 3 3 w3 (hc2.next_ hb3) (by omega) _ hnum)
          have hown3 := own_next hown2 hb3
          have hgr3 := growB_trans hgr2 (toGr (r := some g) hb3)
          have hyq : y < q := by omega
          clear hown1 hown2 hnum HPK hy
          go_wp2_with fail
          rw [← HW3.out]
          refine HAM.out.mono ?_
          rintro e w4 ⟨z, hz, rfl, hc4, hg4⟩
          have hown4 := own_grownG hown3 hg4 hgl
          have hgr4 := growB_trans hgr3 hg4
          have hy0 : (0 : Int) ≤ (y : Int) := by omega
          have hy1 : (y : Int) < (q : Int) := by omega
          have hfz := hown4.frozenAt y
          obtain ⟨v0, hcl⟩ : ∃ v0, w4.cell? ⟨b, y, none⟩ = some v0 := ⟨_, (hown4.cellAt y (by omega)).trans (List.getElem?_eq_getElem (by have := hown4.1; omega))⟩
          obtain ⟨hst, -⟩ := hown4.stored y (.int .i64 z)
          have hG4 : w4.grownBy (w4.setCell ⟨b, y, none⟩ (.int .i64 z)) (some b) := grown_setB (grown_reflB w4 _) rfl _
          have hbw : w.heap.size ≤ b := (hown4.lt b rfl).1
          have hc5 := (hc4.grown hG4 fun r hr => by injection hr with hr; omega).mono (t' := t + 2 * q + 10) (by omega)
          have hgr5 := growB_own hgr4 hG4 fun r hr => by injection hr with hr; omega
          have HST := Lib.hid hst
          clear hown3 hown4 hst HAM
          go_wp2_with fail
          go_ret
          refine ⟨_, q, c, L.set y z, rfl, ?_, fun v hv => ?_, by omega, hc5, hgr5⟩
          · have e : ints (L.set y z) = (ints L).set y (.int .i64 z) := by simp [ints, List.map_set]
            rw [e]
            exact HST.out
          · rcases List.mem_or_eq_of_mem_set hv with hv | rfl
            · exact HL.out v hv
            · omega
        · have hn1 : ¬ (0 : Int) < (q : Int) := by omega
          have HO := Lib.hid hown1
          clear hown1
          go_wp2_with fail
          go_ret
          exact ⟨_, q, c, L, rfl, HO.out, HL.out, by omega, hc1.mono (by omega), hgr1⟩
      · have hx0 : ((x : Int) == 0) = false := by simp; omega
        have hx1 : ((x : Int) == 1) = false := by simp; omega
        have HO := Lib.hid hown1
        clear hown1
        go_wp2_with fail
        go_ret
        exact ⟨_, q, c, L, rfl, HO.out, HL.out, by omega, hc1.mono (by omega), hgr1⟩
theorem growB_new {w w' : World} {r : Option Nat} (h : w.grownBy w' r) {p : Addr} (hp : w.heap.size ≤ p.block) (v : Value) : w.grownBy (w'.setCell p v) r :=
  ⟨h.os, h.tape, h.output, by simpa using h.size, fun b hb hne => (Below.heap_setCell w' p v b (by omega)).trans (h.block b hb hne)⟩
theorem CurB.setFar {B g t : Nat} {w : World} (h : CurB B w g t) {p : Addr} (hp : B ≤ p.block) (hg : p.block ≠ g) (v : Value) : CurB B (w.setCell p v) g t :=
  h.grown (row := some p.block) ⟨rfl, rfl, rfl, by simp, fun b hb hne => Below.heap_setCell w p v b (fun e => hne (by rw [e]))⟩ fun r e => by injection e with e; subst e; exact ⟨hp, hg⟩
theorem PO.grownG {lo g : Nat} {w w' : World} {v : Value} {xs : List OpM} {css : List (List Value)} {bls : List (List Nat)} (h : PO lo w v xs css bls) (hg : w.grownBy w' (some g)) (hl : g < lo) : PO lo w' v xs css bls :=
  h.same hg.size fun b hb => hg.block b (h.2.2.2 b hb).2 fun e => by injection e with e; have := (h.2.2.2 b hb).1; omega
theorem Blk.grownG {w w' : World} {b g : Nat} {t : TypeId} {cs : Array Value} (h : Blk w b t cs) (hg : w.grownBy w' (some g)) (hne : b ≠ g) : Blk w' b t cs := h.grown hg fun e => hne (by injection e)
theorem Sh.ogrown {α : Type} {S : Sh α} {w w' : World} {cs : List Value} {x : α} {bl : List Nat} {g lo hi : Nat} (h : S.own w cs x bl) (hg : w.grownBy w' (some g)) (hi' : Iv lo hi bl) (hl : g < lo) : S.own w' cs x bl :=
  S.osame h fun b hb => hg.block b (S.olt h b hb) fun e => by injection e with e; have := (hi'.2 b hb).1; omega
def OpsQ (xs : List OpM) : Prop := ∀ o ∈ xs, 0 ≤ o.1 ∧ o.1 ≤ 3 ∧ 1 ≤ o.2.length ∧ o.2.length ≤ 64
/-- What is said of a drawn algebra. -/
def AlgQ (x : AlgebraM) : Prop := 0 ≤ x.1 ∧ x.1 ≤ 9 ∧ shAlgebra.cnt x ≤ 10000
theorem opsQ_alg {xs : List OpM} {z : Int} (h : OpsQ xs) (hl : xs.length ≤ 8) (h0 : 0 ≤ z) (h9 : z ≤ 9) : AlgQ (z, xs) := by
  refine ⟨h0, h9, ?_⟩
  have h2 : ∀ (l : List OpM), (∀ o ∈ l, o.2.length ≤ 64) → cntS shOp.cnt l ≤ 64 * l.length := by
    intro l hl
    induction l with
    | nil => simp [cntS]
    | cons o l ih =>
      rw [cntS_cons]
      have := hl o (List.mem_cons_self ..)
      have h3 := ih fun a ha => hl a (List.mem_cons_of_mem _ ha)
      have h4 : shOp.cnt o = 0 + o.2.length := rfl
      rw [List.length_cons]
      omega
  have h3 := h2 xs fun o ho => (h o ho).2.2.2
  show 0 + (xs.length + cntS shOp.cnt xs) ≤ 10000
  omega
theorem alg_q {xs : List OpM} {z : Int} (h : ∀ o ∈ xs, o.2.length ≤ 1000) (hl : xs.length ≤ 8) (h0 : 0 ≤ z) (h9 : z ≤ 9) : AlgQ (z, xs) := by
  refine ⟨h0, h9, ?_⟩
  have h2 : ∀ (l : List OpM), (∀ o ∈ l, o.2.length ≤ 1000) → cntS shOp.cnt l ≤ 1000 * l.length := by
    intro l hl
    induction l with
    | nil => simp [cntS]
    | cons o l ih =>
      rw [cntS_cons]
      have := hl o (List.mem_cons_self ..)
      have h3 := ih fun a ha => hl a (List.mem_cons_of_mem _ ha)
      have h4 : shOp.cnt o = 0 + o.2.length := rfl
      rw [List.length_cons]
      omega
  have h3 := h2 xs h
  show 0 + (xs.length + cntS shOp.cnt xs) ≤ 10000
  omega
theorem growB_set {w wr : World} {r : Option Nat} (h : w.grownBy wr r) (p : Addr) (v : Value) : ∀ b, b < w.heap.size → some b ≠ r → b ≠ p.block → (wr.setCell p v).heap[b]? = w.heap[b]? := fun b hb hr hp => (Below.heap_setCell wr p v b hp).trans (h.block b hb hr)
/-- A drawn algebra that is valid has five elements at most. -/
def AlgQ5 (x : AlgebraM) : Prop := AlgQ x ∧ (x.1 ≤ 5 ∨ x.1 = 9)
theorem opsQ_alg5 {xs : List OpM} {z : Int} (h : OpsQ xs) (hl : xs.length ≤ 8) (h0 : 0 ≤ z) (h9 : z ≤ 5 ∨ z = 9) : AlgQ5 (z, xs) := ⟨opsQ_alg h hl h0 (by omega), h9⟩
theorem alg_q5 {xs : List OpM} {z : Int} (h : ∀ o ∈ xs, o.2.length ≤ 1000) (hl : xs.length ≤ 8) (h0 : 0 ≤ z) (h9 : z ≤ 5 ∨ z = 9) : AlgQ5 (z, xs) := ⟨alg_q h hl h0 (by omega), h9⟩
def AlgD (B : Nat) (w : World) (g t : Nat) (e : Ending) (w' : World) : Prop := ∃ cs x bl, e = .returned (.agg cs.toArray) ∧ shAlgebra.own w' cs x bl ∧ Iv w.heap.size w'.heap.size bl ∧ AlgQ5 x ∧ CurB B w' g t ∧ w.grownBy w' (some g)
theorem small_q {x : AlgebraM} (h : SmallP x) : AlgQ x := by
  refine ⟨by have := h.1; omega, by have := h.2.1; omega, ?_⟩
  have h1 := h.2.2.1
  have h2 : ∀ (l : List OpM), (∀ o ∈ l, o.2.length ≤ 125) → cntS shOp.cnt l ≤ 125 * l.length := by
    intro l hl
    induction l with
    | nil => simp [cntS]
    | cons o l ih =>
      rw [cntS_cons]
      have := hl o (List.mem_cons_self ..)
      have h3 := ih fun a ha => hl a (List.mem_cons_of_mem _ ha)
      have h4 : shOp.cnt o = 0 + o.2.length := rfl
      rw [List.length_cons]
      omega
  have h3 := h2 x.2 fun o ho => by
    obtain ⟨q1, q2, q3, -⟩ := h.2.2.2 o ho
    rw [q3]
    have hn : x.1.toNat ≤ 5 := by have := h.2.1; omega
    have hk : o.1.toNat ≤ 3 := by omega
    calc x.1.toNat ^ o.1.toNat ≤ 5 ^ o.1.toNat := Nat.pow_le_pow_left hn _
      _ ≤ 5 ^ 3 := Nat.pow_le_pow_right (by omega) hk
      _ = 125 := rfl
  show 0 + (x.2.length + cntS shOp.cnt x.2) ≤ 10000
  omega
/-- append of an operation whose blocks are younger than hi. -/
theorem small_q5 {x : AlgebraM} (h : SmallP x) : AlgQ5 x := ⟨small_q h, .inl h.2.1⟩
theorem PO.push2 {lo hi : Nat} {w : World} {v : Value} {xs : List OpM} {css : List (List Value)} {bls : List (List Nat)} (h : PO lo w v xs css bls) (hI : Iv lo hi (obl v ++ bls.flatten)) {c : List Value} {x : OpM} {bk : List Nat} (ho : shOp.own w c x bk) (hk : Iv hi w.heap.size bk) (hlh : lo ≤ hi) :
    ∀ {w2 : World} {v' : Value}, w2.ownsRow lo 64 2 v' (xs.length + 1) (css.flatten ++ c) → w.grownBy w2 v.ownBlock → PO lo w2 v' (xs ++ [x]) (css ++ [c]) (bls ++ [bk]) := by
  intro w2 v' hown hg
  have hnd := List.nodup_append.1 h.2.2.1
  have far : ∀ b, b ∈ bls.flatten → w2.heap[b]? = w.heap[b]? := fun b hb' => hg.block b (h.2.2.2 b (List.mem_append_right _ hb')).2 fun e => hnd.2.2 b (mem_obl.2 e.symm) b hb' rfl
  have far2 : ∀ b, b ∈ bk → w2.heap[b]? = w.heap[b]? := fun b hb' => hg.block b (hk.2 b hb').2 fun e => by
    have h3 := (hI.2 b (List.mem_append_left _ (mem_obl.2 e.symm))).2
    have h4 := (hk.2 b hb').1
    omega
  have hl1 := h.1.l1
  have hl2 := h.1.l2
  have hP : Parts shOp 64 w2 v' (xs ++ [x]) (css ++ [c]) (bls ++ [bk]) := by
    refine ⟨?_, by simp [hl1], by simp [hl2], fun k c' x' bk' e1 e2 e3 => ?_⟩
    · rw [List.length_append, List.flatten_append, List.flatten_singleton]
      exact own_mono hown (Nat.zero_le _)
    · by_cases hk' : k < xs.length
      · rw [List.getElem?_append_left (by omega)] at e1 e2 e3
        exact shOp.osame (h.1.el k c' x' bk' e1 e2 e3) fun b hb' => far b (List.mem_flatten.2 ⟨_, List.mem_of_getElem? e3, hb'⟩)
      · have hk2 : k = xs.length := by
          have := (List.getElem?_eq_some_iff.1 e2).1
          simp at this
          omega
        subst hk2
        rw [List.getElem?_append_right (by omega)] at e1 e2 e3
        simp [hl1, hl2] at e1 e2 e3
        subst e1
        subst e2
        subst e3
        exact shOp.osame ho far2
  refine ⟨hP, by rw [List.length_append, List.flatten_append]; simpa using hown, ?_⟩
  rw [List.flatten_append]
  have hz : w.heap.size ≤ w2.heap.size := hg.size
  refine ⟨?_, fun b hb' => ?_⟩
  · rw [List.nodup_append]
    refine ⟨obl_nd _, ?_, fun a ha b hb' e => ?_⟩
    · rw [List.nodup_append]
      refine ⟨hnd.2.1, by simpa using hk.1, fun a ha b hb' e => ?_⟩
      simp at hb'
      subst e
      have h3 := (hI.2 a (List.mem_append_right _ ha)).2
      have h4 := (hk.2 a hb').1
      omega
    · subst e
      obtain ⟨cur, fr, hc⟩ := row_blk hown ha
      have hb2 : a ∈ (bls ++ [bk]).flatten := by rw [List.flatten_append]; exact hb'
      obtain ⟨bq, hbq, hab⟩ := List.mem_flatten.1 hb2
      obtain ⟨k, hk'⟩ := List.getElem?_of_mem hbq
      have hkl := (List.getElem?_eq_some_iff.1 hk').1
      have e1 := hP.l1
      have e2 := hP.l2
      have ho2 := hP.el k _ _ bq (List.getElem?_eq_getElem (by omega)) (List.getElem?_eq_getElem (by omega)) hk'
      obtain ⟨cur2, fr2, hc2⟩ := shOp_blk ho2 hab
      rw [hc] at hc2
      injection hc2 with hc2
      injection hc2 with _ h5
      exact absurd h5 (by decide)
  · rcases List.mem_append.1 hb' with hb' | hb'
    · exact hown.lt b (mem_obl.1 hb')
    · rcases List.mem_append.1 hb' with hb' | hb'
      · have := h.2.2.2 b (List.mem_append_right _ hb')
        omega
      · have := hk.2 b (by simpa using hb')
        omega
theorem own_opF {lo : Nat} {w : World} {a : Int} {L : List Int} {A : Option Addr} {n c : Nat} (ha : InR a) (hn : L.length = n) (h : w.ownsRow lo 3 1 (.slice A n c) n (ints L)) (hL : ∀ x ∈ L, InR x) : shOp.own w [.int .i64 a, .slice A n c] (a, L) (obl (.slice A n c)) ∧ Iv lo w.heap.size (obl (.slice A n c)) := by
  refine ⟨⟨[.int .i64 a], [.slice A n c], [], _, rfl, rfl, ⟨_, rfl, ⟨rfl, ha.1, ha.2⟩, rfl⟩, ⟨_, rfl, ?_, hL, rfl⟩⟩, obl_nd _, fun b hb => h.lt b (mem_obl.1 hb)⟩
  show World.ownsRow _ 0 3 1 _ L.length _
  rw [hn]
  exact own_mono h (Nat.zero_le _)
/-- The numbers of a literal list. -/
theorem numsL (P : Int → Prop) (L : List Int) (w : World) (g : Nat) (hg : g < w.heap.size) (h0 : 0 < L.length) (h1 : L.length ≤ 1000) (hP : ∀ x ∈ L, P x) {k : Nat} (hk : k = w.heap.size) : NumsP P (w.alloc (.cells (ints L).toArray 3)) g k L.length := by
  subst hk
  refine ⟨by omega, h0, h1, fun i hi => ?_⟩
  have hc := (Blk.new w 3 (ints L).toArray).cell i
  refine ⟨L[i], hP _ (List.getElem_mem hi), ?_⟩
  rw [hc]
  simp [ints, hi]
/-- The state of the walk while an algebra is built in the block gA: its rows lie from lo on and below hi. -/
def AlS (B g lo hi gA r0 : Nat) (w wr : World) (z : Int) (xs : List OpM) (t : Nat) : Prop :=
  ∃ A n c css bls, Blk wr gA 26 #[.int .i64 z, .slice A n c] ∧ PO lo wr (.slice A n c) xs css bls ∧ Blk wr r0 26 #[.int .i64 0, .slice none 0 0] ∧ CurB B wr g t ∧ w.grownBy wr (some g) ∧ Iv lo hi (obl (.slice A n c) ++ bls.flatten) ∧ lo ≤ hi ∧ hi ≤ wr.heap.size
section
variable {B g lo hi gA r0 t t' : Nat} {w wr w2 : World} {z : Int} {xs : List OpM}
theorem AlS.cur (h : AlS B g lo hi gA r0 w wr z xs t) (hg : wr.grownBy w2 (some g)) (hc : CurB B w2 g t') (h1 : gA ≠ g) (h2 : r0 ≠ g) (h3 : g < lo) : AlS B g lo hi gA r0 w w2 z xs t' := by
  obtain ⟨A, n, c, css, bls, b1, p1, b2, c1, g1, i1, l1, l2⟩ := h
  exact ⟨A, n, c, css, bls, b1.grownG hg h1, p1.grownG hg h3, b2.grownG hg h2, hc, growB_trans g1 hg, i1, l1, Nat.le_trans l2 hg.size⟩
theorem AlS.next (h : AlS B g lo hi gA r0 w wr z xs t) (hb : Below wr.heap.size wr w2) : AlS B g lo hi gA r0 w w2 z xs t := by
  obtain ⟨A, n, c, css, bls, b1, p1, b2, c1, g1, i1, l1, l2⟩ := h
  exact ⟨A, n, c, css, bls, b1.next hb, p1.next hb, b2.next hb, c1.next_ hb, growB_trans g1 (toGr hb), i1, l1, Nat.le_trans l2 hb.size⟩
theorem AlS.mono (h : AlS B g lo hi gA r0 w wr z xs t) (ht : t ≤ t') : AlS B g lo hi gA r0 w wr z xs t' := by
  obtain ⟨A, n, c, css, bls, b1, p1, b2, c1, g1, i1, l1, l2⟩ := h
  exact ⟨A, n, c, css, bls, b1, p1, b2, c1.mono ht, g1, i1, l1, l2⟩
theorem AlS.cu (h : AlS B g lo hi gA r0 w wr z xs t) : CurB B wr g t := by
  obtain ⟨A, n, c, css, bls, b1, p1, b2, c1, g1, i1, l1, l2⟩ := h
  exact c1
/-- A change of a block from hi on (or of new ones) leaves the state as it is. -/
theorem AlS.far {row : Option Nat} (h : AlS B g lo hi gA r0 w wr z xs t) (hg : wr.grownBy w2 row) (hr : ∀ r, row = some r → hi ≤ r) (h1 : gA < hi) (h2 : r0 < hi) (h3 : g < hi) (hB : B ≤ hi) (hw : w.heap.size ≤ hi) : AlS B g lo hi gA r0 w w2 z xs t := by
  obtain ⟨A, n, c, css, bls, b1, p1, b2, c1, g1, i1, l1, l2⟩ := h
  have hz := hg.size
  have same : ∀ b, b < hi → b < wr.heap.size → w2.heap[b]? = wr.heap[b]? := fun b hb hbs => hg.block b hbs fun e => by have := hr b e.symm; omega
  refine ⟨A, n, c, css, bls, (same _ h1 b1.lt).trans b1, p1.same hz fun b hb => same b (i1.2 b hb).2 (p1.2.2.2 b hb).2, (same _ h2 b2.lt).trans b2, c1.grown hg fun r e => ⟨by have := hr r e; omega, by have := hr r e; omega⟩, ?_, i1, l1, by omega⟩
  exact ⟨hg.os.trans g1.os, hg.tape.trans g1.tape, hg.output.trans g1.output, Nat.le_trans g1.size hz, fun b hb hne => (same b (by omega) (Nat.lt_of_lt_of_le hb g1.size)).trans (g1.block b hb hne)⟩
theorem AlS.setZ {z' : Int} (h : AlS B g lo hi gA r0 w wr z xs t) (h1 : gA < lo) (h2 : r0 ≠ gA) (h3 : B ≤ gA) (h4 : gA ≠ g) (h5 : w.heap.size ≤ gA) : AlS B g lo hi gA r0 w (wr.setCell ⟨gA, 0, none⟩ (.int .i64 z')) z' xs t := by
  obtain ⟨A, n, c, css, bls, b1, p1, b2, c1, g1, i1, l1, l2⟩ := h
  exact ⟨A, n, c, css, bls, by simpa using b1.set_ 0 (.int .i64 z'), p1.far (p := ⟨gA, 0, none⟩) h1 _, b2.far (p := ⟨gA, 0, none⟩) h2 _, c1.setFar (p := ⟨gA, 0, none⟩) h3 h4 _, growB_new g1 (p := ⟨gA, 0, none⟩) h5 _, i1, l1, by simpa using l2⟩
/-- The first operation of the algebra that is built, and how another takes its place. -/
theorem AlS.el0 {a : Int} {T : List Int} {rest : List OpM} (h : AlS B g lo hi gA r0 w wr z ((a, T) :: rest) t) : ∃ (go c : Nat) (TA : Option Addr) (cT : Nat) (css : List (List Value)),
    Blk wr gA 26 #[.int .i64 z, .slice (some ⟨go, 0, none⟩) (rest.length + 1) c] ∧ Blk wr r0 26 #[.int .i64 0, .slice none 0 0] ∧ CurB B wr g t ∧ w.grownBy wr (some g) ∧ lo ≤ go ∧ go < wr.heap.size ∧
    wr.ownsRow lo 64 2 (.slice (some ⟨go, 0, none⟩) (rest.length + 1) c) (rest.length + 1) ([.int .i64 a, .slice TA T.length cT] ++ css.flatten) ∧ wr.ownsRow lo 3 1 (.slice TA T.length cT) T.length (ints T) ∧ InR a ∧ (∀ u ∈ T, InR u) ∧ (Value.slice TA T.length cT).ownBlock ≠ some go ∧
    ∀ (w' : World) (a' : Int) (T' : List Int) (TA' : Option Addr) (cT' : Nat), InR a' → (∀ u ∈ T', InR u) → w'.ownsRow lo 3 1 (.slice TA' T'.length cT') T'.length (ints T') → wr.heap.size ≤ w'.heap.size →
      w'.ownsRow lo 64 2 (.slice (some ⟨go, 0, none⟩) (rest.length + 1) c) (rest.length + 1) ([.int .i64 a', .slice TA' T'.length cT'] ++ css.flatten) →
      (∀ b, b < wr.heap.size → b ≠ go → (Value.slice TA T.length cT).ownBlock ≠ some b → b ≠ gA → b ≠ r0 → b ≠ g → w'.heap[b]? = wr.heap[b]?) → gA < lo → r0 < lo → g < lo →
      ((Value.slice TA' T'.length cT').ownBlock = (Value.slice TA T.length cT).ownBlock ∨ ∀ b, (Value.slice TA' T'.length cT').ownBlock = some b → wr.heap.size ≤ b) →
      ∃ css' bls', PO lo w' (.slice (some ⟨go, 0, none⟩) (rest.length + 1) c) ((a', T') :: rest) css' bls' := by
  obtain ⟨A, n, c, css, bls, b1, p1, b2, c1, g1, i1, l1, l2⟩ := h
  obtain ⟨hP, hrow, hiv⟩ := p1
  have h1 := hP.l1
  have h2 := hP.l2
  obtain ⟨c0, css, rfl⟩ : ∃ c0 cs, css = c0 :: cs := by cases css with | nil => simp at h1 | cons c0 cs => exact ⟨c0, cs, rfl⟩
  obtain ⟨k0, bls, rfl⟩ : ∃ b0 bs, bls = b0 :: bs := by cases bls with | nil => simp at h2 | cons b0 bs => exact ⟨b0, bs, rfl⟩
  have ho := hP.el 0 c0 (a, T) k0 rfl rfl rfl
  obtain ⟨x0, x1, y0, y1, rfl, rfl, ⟨_, rfl, ⟨rfl, la, ha⟩, rfl⟩, ⟨tv, rfl, O1, hR, rfl⟩⟩ := ho
  obtain ⟨TA, cT, rfl⟩ : ∃ TA cT, tv = .slice TA T.length cT := by
    rcases O1.2 with ⟨rfl, h0⟩ | ⟨g', cap, cur, rfl, -⟩
    · exact ⟨none, 0, by rw [show T.length = 0 from h0]⟩
    · exact ⟨_, _, rfl⟩
  obtain ⟨go, hgo, hgl, hn⟩ : ∃ go, A = some ⟨go, 0, none⟩ ∧ lo ≤ go ∧ n = rest.length + 1 := by
    rcases hrow.2 with ⟨e, h0⟩ | ⟨g', cap, cur, e, hl, -⟩
    · simp at h0
    · injection e with e1 e2 e3
      exact ⟨g', e1, hl, by simpa using e2⟩
  subst hgo hn
  have hgob : (Value.slice (some ⟨go, 0, none⟩) (rest.length + 1) c).ownBlock = some go := by simp [Value.ownBlock]
  have hgw : go < wr.heap.size := (hrow.lt go hgob).2
  simp only [List.length_cons] at hrow
  have hb1 : ∀ b, (Value.slice TA T.length cT).ownBlock = some b → lo ≤ b ∧ b < wr.heap.size ∧ b ≠ go ∧ b ∉ bls.flatten := fun b hb => by
    have hm : b ∈ ((([] : List Nat) ++ obl (.slice TA T.length cT)) :: bls).flatten := by simp [obl, hb]
    have := hiv.2 b (List.mem_append_right _ hm)
    refine ⟨this.1, this.2, fun e => ?_, fun hh => ?_⟩
    · subst e
      exact (List.nodup_append.1 hiv.1).2.2 b (by simp [obl, hgob]) b hm rfl
    · have hn := (List.nodup_append.1 hiv.1).2.1
      simp only [List.nil_append, List.flatten_cons] at hn
      exact (List.nodup_append.1 hn).2.2 b (by simp [obl, hb]) b hh rfl
  refine ⟨go, c, TA, cT, css, b1, b2, c1, g1, hgl, hgw, by simpa using hrow, ?_, ⟨la, ha⟩, hR, fun e => (hb1 go e).2.2.1 rfl, ?_⟩
  · obtain ⟨o1, o2⟩ := O1
    refine ⟨o1, ?_⟩
    rcases o2 with h | ⟨g', cap, cur, e, -, rest'⟩
    · exact .inl h
    · exact .inr ⟨g', cap, cur, e, (hb1 g' (by rw [e]; simp [Value.ownBlock])).1, rest'⟩
  · intro w' a' T' TA' cT' qa qT qrow qsz qOps qfar qgA qr0 qg qor
    have rowgo : ∀ b ∈ bls.flatten, b < wr.heap.size ∧ lo ≤ b ∧ b ≠ go ∧ (Value.slice TA T.length cT).ownBlock ≠ some b := fun b hb => by
      have hm : b ∈ ((([] : List Nat) ++ obl (.slice TA T.length cT)) :: bls).flatten := by simp [hb]
      have := hiv.2 b (List.mem_append_right _ hm)
      exact ⟨this.2, this.1, fun e => (List.nodup_append.1 hiv.1).2.2 go (by simp [obl, hgob]) b hm e.symm, fun e => (hb1 b e).2.2.2 hb⟩
    have same : ∀ b ∈ bls.flatten, w'.heap[b]? = wr.heap[b]? := fun b hb => by
      obtain ⟨q1, q2, q3, q4⟩ := rowgo b hb
      exact qfar b q1 q3 q4 (by omega) (by omega) (by omega)
    have hnew : ∀ b, (Value.slice TA' T'.length cT').ownBlock = some b → b ≠ go ∧ b ∉ bls.flatten := fun b hb => by
      rcases qor with e | e
      · have := hb1 b (by rw [← e]; exact hb)
        exact this.2.2
      · have := e b hb
        exact ⟨by omega, fun hh => by have := (rowgo b hh).1; omega⟩
    refine ⟨[.int .i64 a', .slice TA' T'.length cT'] :: css, obl (.slice TA' T'.length cT') :: bls, ⟨?_, by simpa using h1, by simpa using h2, ?_⟩, by simpa using qOps, ?_⟩
    · simp only [List.length_cons, List.flatten_cons]
      exact own_mono qOps (Nat.zero_le _)
    · intro k c' x' bk e1 e2 e3
      cases k with
      | zero =>
        simp at e1 e2 e3
        subst e1 e2 e3
        exact ⟨[.int .i64 a'], [.slice TA' T'.length cT'], [], _, rfl, rfl, ⟨_, rfl, ⟨rfl, qa.1, qa.2⟩, rfl⟩, ⟨_, rfl, own_mono qrow (Nat.zero_le _), qT, rfl⟩⟩
      | succ k =>
        simp at e1 e2 e3
        exact shOp.osame (hP.el (k + 1) c' x' bk (by simpa using e1) (by simpa using e2) (by simpa using e3)) fun b hb => same b (List.mem_flatten.2 ⟨_, List.mem_of_getElem? e3, hb⟩)
    · have hnd := (List.nodup_append.1 hiv.1).2.1
      simp only [List.nil_append, List.flatten_cons] at hnd
      refine ⟨?_, fun b hb => ?_⟩
      · refine List.nodup_append.2 ⟨obl_nd _, ?_, fun x hx y hy e => ?_⟩
        · simp only [List.flatten_cons]
          exact List.nodup_append.2 ⟨obl_nd _, (List.nodup_append.1 hnd).2.1, fun x hx y hy e => (hnew x (mem_obl.1 hx)).2 (e ▸ hy)⟩
        · subst e
          have hx' : x = go := by have := mem_obl.1 hx; rw [hgob] at this; injection this with this; exact this.symm
          subst hx'
          simp only [List.flatten_cons] at hy
          rcases List.mem_append.1 hy with hy | hy
          · exact (hnew x (mem_obl.1 hy)).1 rfl
          · exact (rowgo x hy).2.2.1 rfl
      · rcases List.mem_append.1 hb with hb | hb
        · have : b = go := by have := mem_obl.1 hb; rw [hgob] at this; injection this with this; exact this.symm
          subst this
          exact ⟨hgl, by omega⟩
        · simp only [List.flatten_cons] at hb
          rcases List.mem_append.1 hb with hb | hb
          · exact qrow.lt b (mem_obl.1 hb)
          · have := rowgo b hb
            exact ⟨this.2.1, by omega⟩
end
/-- The length of the slice in a cell. -/
def lenAt (w : World) (g i : Nat) : Nat := match w.cell? ⟨g, i, none⟩ with | some (.slice _ n _) => n | _ => 0
theorem lenAt_eq {w : World} {g i n c : Nat} {A : Option Addr} (h : w.cell? ⟨g, i, none⟩ = some (.slice A n c)) : lenAt w g i = n := by unfold lenAt; rw [h]
section
variable {B g lo hi gA r0 t : Nat} {w wr : World} {z : Int} {xs : List OpM}
theorem AlS.row (h : AlS B g lo hi gA r0 w wr z xs t) : ∃ A c css bls, Blk wr gA 26 #[.int .i64 z, .slice A xs.length c] ∧ PO lo wr (.slice A xs.length c) xs css bls ∧ Blk wr r0 26 #[.int .i64 0, .slice none 0 0] ∧ CurB B wr g t ∧ w.grownBy wr (some g) ∧ Iv lo hi (obl (.slice A xs.length c) ++ bls.flatten) ∧ lo ≤ hi ∧ hi ≤ wr.heap.size := by
  obtain ⟨A, n, c, css, bls, b1, p1, b2, c1, g1, i1, l1, l2⟩ := h
  obtain rfl : n = xs.length := by
    rcases p1.2.1.2 with ⟨e, h0⟩ | ⟨g', cap, cur, e, -⟩
    · injection e with e1 e2 e3; omega
    · injection e with e1 e2 e3
  exact ⟨A, c, css, bls, b1, p1, b2, c1, g1, i1, l1, l2⟩
end
theorem made_ints (n : Nat) : madeCells #[Value.int .i64 0] n = (ints (List.replicate n 0)).toArray := by
  apply Array.ext'
  have := toList_madeCells_one (.int .i64 0) n
  rw [show (madeCells #[Value.int .i64 0] n).toList = List.replicate n (.int .i64 0) from this]
  simp [ints]
end Go.Proofs.YtbkgbckbbnflpaaGreat
