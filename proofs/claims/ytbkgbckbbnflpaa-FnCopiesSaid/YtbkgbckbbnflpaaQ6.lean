import Derived.Test.YtbkgbckbbnflpaaQ5
import Derived.Deep.OwnRows
set_option linter.unusedVariables false
set_option linter.unusedSimpArgs false
set_option maxRecDepth 100000
set_option maxHeartbeats 32000000
namespace Go.Proofs.Ytbkgbckbbnflpaa
open Go.RowKit
theorem rd_one {w : World} {g : Nat} {u : Int} (h : w.cell? ⟨g, 0, none⟩ = some (.int .i64 u)) (hu : -9223372036854775808 ≤ u ∧ u ≤ 9223372036854775807) : RdL RI w (some ⟨g, 0, none⟩) 1 [u] := by
  refine ⟨rfl, by unfold maxLen; omega, fun k x hk => ?_⟩
  have hk1 := (List.getElem?_eq_some_iff.1 hk).1
  simp at hk1
  subst hk1
  simp at hk
  subst hk
  exact ⟨g, 0, .int .i64 u, rfl, h, rfl, hu.1, hu.2⟩
theorem nums3n (w : World) (g : Nat) (n : Nat) (hn : n ≤ 1000) (hg : g < w.heap.size) {k : Nat} (hk : k = w.heap.size) : NumsP (fun x => -1 ≤ x ∧ x ≤ n) (w.alloc (.cells #[.int .i64 0, .int .i64 (-1), .int .i64 n] 3)) g k 3 := by
  subst hk
  refine ⟨by omega, by omega, by omega, fun i hi => ?_⟩
  have hc := (Blk.new w 3 #[.int .i64 0, .int .i64 (-1), .int .i64 n]).cell i
  rcases (by omega : i = 0 ∨ i = 1 ∨ i = 2) with rfl | rfl | rfl
  · exact ⟨0, ⟨by omega, by omega⟩, hc⟩
  · exact ⟨-1, ⟨by omega, by omega⟩, hc⟩
  · exact ⟨n, ⟨by omega, by omega⟩, hc⟩
/-- What drawn names are. -/
def NamD (B n : Nat) (w : World) (g t : Nat) (e : Ending) (w' : World) : Prop := ∃ A m c L, e = .returned (.slice A m c) ∧ w'.ownsRow w.heap.size 3 1 (.slice A m c) m (ints L) ∧ (∀ x ∈ L, -1 ≤ x ∧ x ≤ (n : Int)) ∧ m ≤ n + 1 ∧ CurB B w' g t ∧ w.grownBy w' (some g)
theorem names2_any (B g t n : Nat) (w : World) (h : CurB B w g t) (hB : B ≤ w.heap.size) (ht : t ≤ 999990000) (hn : n ≤ 100) :
    Calls Try.prog 24 #[.pointer (some ⟨g, 0, none⟩), .int .i64 n] w (NamD B n w g (t + 2 * n + 10)) := by
  have hgl := h.lt
  have hb0 := below_box w (.cells #[] 3)
  have hown0 : (w.alloc (.cells #[] 3)).ownsRow w.heap.size 3 1 (.slice (some ⟨w.heap.size, 0, none⟩) 0 0) 0 (ints []) := World.ownsRow_lit w #[] 0 (Nat.le_refl _) (Nat.zero_le _) rfl
  have hc0 := h.next_ hb0
  have hg0 : w.grownBy (w.alloc (.cells #[] 3)) (some g) := growB_box (grown_reflB w _) _
  go_enter Try.func24, Try.ntmps24
  go_wp2_with fail
  go_loopw [5, 6, 7] (fun v i _ wr => ∃ (q b c : Nat) (L : List Int), q ≤ n ∧ i = .int .i64 q ∧ v = .slice (some ⟨b, 0, none⟩) q c ∧ wr.ownsRow w.heap.size 3 1 (.slice (some ⟨b, 0, none⟩) q c) q (ints L) ∧ (∀ x ∈ L, -1 ≤ x ∧ x ≤ (n : Int)) ∧ CurB B wr g (t + 2 * q) ∧ w.grownBy wr (some g)) (fun _ i _ _ => n - (intOf i).toNat)
  case atStart => exact ⟨0, _, 0, [], Nat.zero_le _, rfl, rfl, hown0, fun x hx => by simp at hx, hc0, hg0⟩
  case round =>
    clear hown0 hc0 hg0 hb0
    obtain ⟨q, b, c, L, hq, rfl, rfl, hown, hL, hcur, hgr⟩ := hrel
    have HL := Lib.hid hL
    clear hL
    have hzr := hgr.size
    by_cases hlt : q < n
    · have hq1 : (q : Int) < (n : Int) := by omega
      have hwr : IntKind.i64.wrap ((q : Int) + 1) = (q : Int) + 1 := by rw [IntKind.wrap_i64]; omega
      have HPK := Lib.hid (pickB_any g (t + 2 * q) ((q : Int) + 1) wr hcur (by omega) (by omega))
      go_wp2_with fail
      refine HPK.out.mono ?_
      rintro e w1 ⟨x, hx, rfl, hc1, hg1⟩
      have hown1 := own_grownG hown hg1 hgl
      have hgr1 := growB_trans hgr hg1
      have hz1 := hgr1.size
      obtain ⟨wo, HWO⟩ : ∃ wo : World, wo = w1 := ⟨_, rfl⟩
      subst HWO
      have hxq : x ≤ q := by omega
      have hqc := sort_cap hown1
      have hk0 : (0 : Int) ≤ (x : Int) := by omega
      have hk1 : (x : Int) ≤ (c : Int) := by omega
      have hk3 : (x : Int) ≤ (q : Int) := by omega
      have hrd := rd_of_own (R := RI) hown1 (RI_ints fun y hy => by have := HL.out y hy; omega)
      have H1 := Lib.hid hrd
      obtain ⟨ad, HIF, H2⟩ : ∃ ad, Hid ((if c = x then some (⟨b, 0, none⟩ : Addr) else some ⟨b, x, none⟩) = ad) ∧ Hid (RdL RI wo ad (q - x) (L.drop x)) := by
        by_cases hq : c = x
        · refine ⟨_, if_pos hq, ?_⟩
          have e0 : q - x = 0 := by omega
          have e1 : L.drop x = [] := List.drop_eq_nil_of_le (by rw [(hrd).1]; omega)
          show RdL RI wo _ _ _
          rw [e0, e1]
          exact ⟨rfl, Nat.zero_le _, fun j x hj => by simp at hj⟩
        · exact ⟨_, if_neg hq, by show RdL RI _ _ _ _; simpa using (hrd).drop x⟩
      clear hx hown hown1 hrd HPK
      go_upto_region 6 with fail
      go_region_law (first
        | (refine step_appAny (R := RI) _ rfl (.tmp 19) (.tmp 22) 38 3 rfl (.int .i64 0) 8 Try.underlying38 info_int rfl (by decide) wo.heap.size 0 0 (some ⟨wo.heap.size, 0, none⟩) [] (by rfl) (by first | exact lit0 _ (by simp) | exact (lit0 _ (by simp)).alloc _) (some ⟨b, 0, none⟩) x c (L.take x) (fun y => .int .i64 y) (fun _ => rfl) (by rfl) ((H1.out.take (k := x) (by omega)).next stab_RI (by first | exact (below_drewN (Below.refl _ _) _).alloc (by simp) _ | exact ((below_drewN (Below.refl _ _) _).alloc (by simp) _).alloc (by first | (simp; done) | (simp; omega)) _)) (fun _ _ _ hr => hr.1) (by omega) (by first | (simp; done) | (simp; omega)) ?_; intro A2 c2 w2 hown2 hg2 hb2; simp only [Nat.zero_add, List.nil_append] at hown2)
          | (refine step_appAny (R := RI) _ rfl (.tmp 19) (.tmp 22) 38 3 rfl (.int .i64 0) 8 Try.underlying38 info_int rfl (by decide) wo.heap.size 0 0 (some ⟨wo.heap.size + 1, 0, none⟩) [] (by rfl) (lit1 _ (by simp)) (some ⟨b, 0, none⟩) x c (L.take x) (fun y => .int .i64 y) (fun _ => rfl) (by rfl) ((H1.out.take (k := x) (by omega)).next stab_RI (by first | exact (below_drewN (Below.refl _ _) _).alloc (by simp) _ | exact ((below_drewN (Below.refl _ _) _).alloc (by simp) _).alloc (by first | (simp; done) | (simp; omega)) _)) (fun _ _ _ hr => hr.1) (by omega) (by first | (simp; done) | (simp; omega)) ?_; intro A2 c2 w2 hown2 hg2 hb2; simp only [Nat.zero_add, List.nil_append] at hown2)
          | (refine step_appAny (R := RI) _ rfl (.tmp 23) (.tmp 25) 38 3 rfl (.int .i64 0) 8 Try.underlying38 info_int rfl (by decide) wo.heap.size x c2 A2 (ints (L.take x)) (by rfl) (by exact hown2.alloc _) (some ⟨w2.heap.size, 0, none⟩) 1 1 [(q : Int)] (fun y => .int .i64 y) (fun _ => rfl) (by rfl) (rd_one (cell_new _ rfl) (by omega)) (fun _ _ _ hr => hr.1) (by omega) (by have h1 := hb2.size; first | (simp at h1; omega) | (simp at h1 ⊢; omega) | (simp; omega) | omega) ?_; intro A3 c3 w3 hown3 hg3 hb3; have F3 : Below wo.heap.size wo w3 := (by refine Below.trans ?_ hb3; first | (refine Below.trans ?_ hb2; first | exact (below_drewN (Below.refl _ _) _).alloc (by simp) _ | exact ((below_drewN (Below.refl _ _) _).alloc (by simp) _).alloc (by first | (simp; done) | (simp; omega)) _) | (refine Below.alloc ?_ (by have h1 := hb2.size; first | (simp at h1; omega) | omega) _; refine Below.trans ?_ hb2; first | exact (below_drewN (Below.refl _ _) _).alloc (by simp) _ | exact ((below_drewN (Below.refl _ _) _).alloc (by simp) _).alloc (by first | (simp; done) | (simp; omega)) _)))
          | (refine step_appAny (R := RI) _ rfl (.tmp 23) (.tmp 25) 38 3 rfl (.int .i64 0) 8 Try.underlying38 info_int rfl (by decide) wo.heap.size x c2 A2 (ints (L.take x)) (by rfl) (by exact hown2) (some ⟨wo.heap.size + 1, 0, none⟩) 1 1 [(q : Int)] (fun y => .int .i64 y) (fun _ => rfl) (by rfl) (rd_one (hg2.cell (v := .int .i64 (q : Int)) (cell_new _ (by simp)) (by simp [Value.ownBlock])) (by omega)) (fun _ _ _ hr => hr.1) (by omega) (by have h1 := hb2.size; first | (simp at h1; omega) | (simp at h1 ⊢; omega) | (simp; omega) | omega) ?_; intro A3 c3 w3 hown3 hg3 hb3; have F3 : Below wo.heap.size wo w3 := (by refine Below.trans ?_ hb3; first | (refine Below.trans ?_ hb2; first | exact (below_drewN (Below.refl _ _) _).alloc (by simp) _ | exact ((below_drewN (Below.refl _ _) _).alloc (by simp) _).alloc (by first | (simp; done) | (simp; omega)) _) | (refine Below.alloc ?_ (by have h1 := hb2.size; first | (simp at h1; omega) | omega) _; refine Below.trans ?_ hb2; first | exact (below_drewN (Below.refl _ _) _).alloc (by simp) _ | exact ((below_drewN (Below.refl _ _) _).alloc (by simp) _).alloc (by first | (simp; done) | (simp; omega)) _)))
          | (refine step_appAny (R := RI) _ rfl (.tmp 23) (.tmp 25) 38 3 rfl (.int .i64 0) 8 Try.underlying38 info_int rfl (by decide) wo.heap.size x c2 A2 (ints (L.take x)) (by rfl) (by exact hown2) (some ⟨wo.heap.size, 0, none⟩) 1 1 [(q : Int)] (fun y => .int .i64 y) (fun _ => rfl) (by rfl) (rd_one (hg2.cell (v := .int .i64 (q : Int)) (cell_new2 _ _ (by simp)) (by simp [Value.ownBlock])) (by omega)) (fun _ _ _ hr => hr.1) (by omega) (by have h1 := hb2.size; first | (simp at h1; omega) | (simp at h1 ⊢; omega) | (simp; omega) | omega) ?_; intro A3 c3 w3 hown3 hg3 hb3; have F3 : Below wo.heap.size wo w3 := (by refine Below.trans ?_ hb3; first | (refine Below.trans ?_ hb2; first | exact (below_drewN (Below.refl _ _) _).alloc (by simp) _ | exact ((below_drewN (Below.refl _ _) _).alloc (by simp) _).alloc (by first | (simp; done) | (simp; omega)) _) | (refine Below.alloc ?_ (by have h1 := hb2.size; first | (simp at h1; omega) | omega) _; refine Below.trans ?_ hb2; first | exact (below_drewN (Below.refl _ _) _).alloc (by simp) _ | exact ((below_drewN (Below.refl _ _) _).alloc (by simp) _).alloc (by first | (simp; done) | (simp; omega)) _)))
          | (refine step_appAny (R := RI) _ rfl (.tmp 26) (.tmp 29) 38 3 rfl (.int .i64 0) 8 Try.underlying38 info_int rfl (by decide) wo.heap.size (x + 1) c3 A3 (ints (L.take x) ++ [.int .i64 (q : Int)]) (by rfl) (by exact hown3) ad (q - x) (c - x) (L.drop x) (fun y => .int .i64 y) (fun _ => rfl) (by first | rfl | (show Value.slice (if c = x then _ else _) _ _ = _; rw [HIF.out])) (H2.out.next stab_RI F3) (fun _ _ _ hr => hr.1) (by omega) (by exact F3.size) ?_; intro A4 c4 w4 hown4 hg4 hb4))
      all_goals
        have e1 : x + 1 + (q - x) = q + 1 := by omega
        rw [e1] at hown4
        have eL : ints (L.take x) ++ [.int .i64 (q : Int)] ++ (L.drop x).map (fun y => .int .i64 y) = ints (L.take x ++ (q : Int) :: L.drop x) := by simp [ints]
        rw [eL] at hown4
        obtain ⟨g4, hA4, -, -⟩ := own_form hown4 (by omega)
        subst hA4
        have HO4 := Lib.hid hown4
        have HF4 := Lib.hid (F3.trans hb4)
        have HE1 := Lib.hid e1
        clear hown4 eL e1
        have hTc := HF4.out
        go_wp2_with fail
        go_roundw
        case rel => exact ⟨q + 1, g4, c4, _, by omega, by go_num, by rw [HE1.out], own_mono HO4.out hz1, fun y hy => by
          rcases List.mem_append.1 hy with hy | hy
          · exact HL.out y (List.mem_of_mem_take hy)
          · rcases List.mem_cons.1 hy with rfl | hy
            · omega
            · exact HL.out y (List.mem_of_mem_drop hy), (hc1.next_ hTc).mono (by omega), growB_trans hgr1 (toGr hTc)⟩
        case measure => simp [intOf]; omega
    · obtain rfl : q = n := by omega
      have hq1 : ¬ (q : Int) < (q : Int) := by omega
      have HPK := Lib.hid (pickB_any g (t + 2 * q) 24 wr hcur (by omega) (by omega))
      go_wp2_with fail
      refine HPK.out.mono ?_
      rintro e w1 ⟨x, hx, rfl, hc1, hg1⟩
      have hown1 := own_grownG hown hg1 hgl
      have hgr1 := growB_trans hgr hg1
      have hz1 := hgr1.size
      clear hown HPK hx
      rcases (by omega : (x : Int) = 0 ∨ (x : Int) = 1 ∨ 1 < (x : Int)) with hx | hx | hx
      · have hx0 : ((x : Int) == 0) = true := by simp; omega
        have hx1 : ((x : Int) == 1) = false := by simp; omega
        go_wp2_with (at_builtin; refine app1 w1 rfl _ _ 38 3 rfl (.int .i64 0) 8 Try.underlying38 info_int rfl (by decide) w.heap.size q c (some ⟨b, 0, none⟩) (ints L) rfl hown1 (.int .i64 q) rfl rfl (by omega) hz1 ?_; intro A2 c2 w2 hown2 hg2 hb2)
        have HO := Lib.hid hown2
        clear hown2
        go_ret
        refine ⟨A2, q + 1, c2, L ++ [(q : Int)], rfl, ?_, fun y hy => ?_, by omega, (hc1.grown hg2 fun r hr => by have := (hown1.lt r hr).1; omega).mono (by omega), growB_own hgr1 hg2 fun r hr => (hown1.lt r hr).1⟩
        · rw [← ints_snocG]; exact HO.out
        · rcases List.mem_append.1 hy with hy | hy
          · exact HL.out y hy
          · rw [List.mem_singleton.1 hy]; omega
      · have hx0 : ((x : Int) == 0) = false := by simp; omega
        have hx1 : ((x : Int) == 1) = true := by simp; omega
        by_cases hn0 : 0 < q
        · have hn1 : (0 : Int) < (q : Int) := by omega
          have HPK := Lib.hid (pickB_any g (t + 2 * q + 2) (q : Int) w1 hc1 (by omega) (by omega))
          go_wp2_with fail
          refine HPK.out.mono ?_
          rintro e w2 ⟨y, hy, rfl, hc2, hg2⟩
          have hown2 := own_grownG hown1 hg2 hgl
          have hgr2 := growB_trans hgr1 hg2
          obtain ⟨w3, HW3⟩ : ∃ wb, Hid (wb = w2.alloc (.cells #[.int .i64 0, .int .i64 (-1), .int .i64 q] 3)) := ⟨_, rfl⟩
          have hb3 : Below w2.heap.size w2 w3 := by rw [HW3.out]; exact below_box _ _
          have hnum : NumsP (fun x => -1 ≤ x ∧ x ≤ (q : Int)) w3 g w2.heap.size 3 := by rw [HW3.out]; exact nums3n w2 g q (by omega) hc2.lt rfl
          have HAM := Lib.hid (amongB_any g (t + 2 * q + 2 + 2) w2.heap.size 3 3 w3 (hc2.next_ hb3) (by omega) _ hnum)
          have hown3 := own_next hown2 hb3
          have hgr3 := growB_trans hgr2 (toGr (r := some g) hb3)
          have hyq : y < q := by omega
          clear hown1 hown2 hnum HPK hy
          go_wp2_with fail
          rw [← HW3.out]
          refine HAM.out.mono ?_
          rintro e w4 ⟨z, hz, rfl, hc4, hg4⟩
          have hown4 := own_grownG hown3 hg4 hgl
          have hgr4 := growB_trans hgr3 hg4
          have hy0 : (0 : Int) ≤ (y : Int) := by omega
          have hy1 : (y : Int) < (q : Int) := by omega
          have hfz := hown4.frozenAt y
          obtain ⟨v0, hcl⟩ : ∃ v0, w4.cell? ⟨b, y, none⟩ = some v0 := ⟨_, (hown4.cellAt y (by omega)).trans (List.getElem?_eq_getElem (by have := hown4.1; omega))⟩
          obtain ⟨hst, -⟩ := hown4.stored y (.int .i64 z)
          have hG4 : w4.grownBy (w4.setCell ⟨b, y, none⟩ (.int .i64 z)) (some b) := grown_setB (grown_reflB w4 _) rfl _
          have hbw : w.heap.size ≤ b := (hown4.lt b rfl).1
          have hc5 := (hc4.grown hG4 fun r hr => by injection hr with hr; omega).mono (t' := t + 2 * q + 10) (by omega)
          have hgr5 := growB_own hgr4 hG4 fun r hr => by injection hr with hr; omega
          have HST := Lib.hid hst
          clear hown3 hown4 hst HAM
          go_wp2_with fail
          go_ret
          refine ⟨_, q, c, L.set y z, rfl, ?_, fun v hv => ?_, by omega, hc5, hgr5⟩
          · have e : ints (L.set y z) = (ints L).set y (.int .i64 z) := by simp [ints, List.map_set]
            rw [e]
            exact HST.out
          · rcases List.mem_or_eq_of_mem_set hv with hv | rfl
            · exact HL.out v hv
            · omega
        · have hn1 : ¬ (0 : Int) < (q : Int) := by omega
          have HO := Lib.hid hown1
          clear hown1
          go_wp2_with fail
          go_ret
          exact ⟨_, q, c, L, rfl, HO.out, HL.out, by omega, hc1.mono (by omega), hgr1⟩
      · have hx0 : ((x : Int) == 0) = false := by simp; omega
        have hx1 : ((x : Int) == 1) = false := by simp; omega
        have HO := Lib.hid hown1
        clear hown1
        go_wp2_with fail
        go_ret
        exact ⟨_, q, c, L, rfl, HO.out, HL.out, by omega, hc1.mono (by omega), hgr1⟩
theorem growB_new {w w' : World} {r : Option Nat} (h : w.grownBy w' r) {p : Addr} (hp : w.heap.size ≤ p.block) (v : Value) : w.grownBy (w'.setCell p v) r :=
  ⟨h.os, h.tape, h.output, by simpa using h.size, fun b hb hne => (Below.heap_setCell w' p v b (by omega)).trans (h.block b hb hne)⟩
theorem CurB.setFar {B g t : Nat} {w : World} (h : CurB B w g t) {p : Addr} (hp : B ≤ p.block) (hg : p.block ≠ g) (v : Value) : CurB B (w.setCell p v) g t :=
  h.grown (row := some p.block) ⟨rfl, rfl, rfl, by simp, fun b hb hne => Below.heap_setCell w p v b (fun e => hne (by rw [e]))⟩ fun r e => by injection e with e; subst e; exact ⟨hp, hg⟩
theorem PO.grownG {lo g : Nat} {w w' : World} {v : Value} {xs : List OpM} {css : List (List Value)} {bls : List (List Nat)} (h : PO lo w v xs css bls) (hg : w.grownBy w' (some g)) (hl : g < lo) : PO lo w' v xs css bls :=
  h.same hg.size fun b hb => hg.block b (h.2.2.2 b hb).2 fun e => by injection e with e; have := (h.2.2.2 b hb).1; omega
theorem Blk.grownG {w w' : World} {b g : Nat} {t : TypeId} {cs : Array Value} (h : Blk w b t cs) (hg : w.grownBy w' (some g)) (hne : b ≠ g) : Blk w' b t cs := h.grown hg fun e => hne (by injection e)
theorem Sh.ogrown {α : Type} {S : Sh α} {w w' : World} {cs : List Value} {x : α} {bl : List Nat} {g lo hi : Nat} (h : S.own w cs x bl) (hg : w.grownBy w' (some g)) (hi' : Iv lo hi bl) (hl : g < lo) : S.own w' cs x bl :=
  S.osame h fun b hb => hg.block b (S.olt h b hb) fun e => by injection e with e; have := (hi'.2 b hb).1; omega
def OpsQ (xs : List OpM) : Prop := ∀ o ∈ xs, 0 ≤ o.1 ∧ o.1 ≤ 3 ∧ 1 ≤ o.2.length ∧ o.2.length ≤ 64
/-- What is said of a drawn algebra. -/
def AlgQ (x : AlgebraM) : Prop := 0 ≤ x.1 ∧ x.1 ≤ 9 ∧ shAlgebra.cnt x ≤ 10000
theorem opsQ_alg {xs : List OpM} {z : Int} (h : OpsQ xs) (hl : xs.length ≤ 8) (h0 : 0 ≤ z) (h9 : z ≤ 9) : AlgQ (z, xs) := by
  refine ⟨h0, h9, ?_⟩
  have h2 : ∀ (l : List OpM), (∀ o ∈ l, o.2.length ≤ 64) → cntS shOp.cnt l ≤ 64 * l.length := by
    intro l hl
    induction l with
    | nil => simp [cntS]
    | cons o l ih =>
      rw [cntS_cons]
      have := hl o (List.mem_cons_self ..)
      have h3 := ih fun a ha => hl a (List.mem_cons_of_mem _ ha)
      have h4 : shOp.cnt o = 0 + o.2.length := rfl
      rw [List.length_cons]
      omega
  have h3 := h2 xs fun o ho => (h o ho).2.2.2
  show 0 + (xs.length + cntS shOp.cnt xs) ≤ 10000
  omega
theorem alg_q {xs : List OpM} {z : Int} (h : ∀ o ∈ xs, o.2.length ≤ 1000) (hl : xs.length ≤ 8) (h0 : 0 ≤ z) (h9 : z ≤ 9) : AlgQ (z, xs) := by
  refine ⟨h0, h9, ?_⟩
  have h2 : ∀ (l : List OpM), (∀ o ∈ l, o.2.length ≤ 1000) → cntS shOp.cnt l ≤ 1000 * l.length := by
    intro l hl
    induction l with
    | nil => simp [cntS]
    | cons o l ih =>
      rw [cntS_cons]
      have := hl o (List.mem_cons_self ..)
      have h3 := ih fun a ha => hl a (List.mem_cons_of_mem _ ha)
      have h4 : shOp.cnt o = 0 + o.2.length := rfl
      rw [List.length_cons]
      omega
  have h3 := h2 xs h
  show 0 + (xs.length + cntS shOp.cnt xs) ≤ 10000
  omega
theorem growB_set {w wr : World} {r : Option Nat} (h : w.grownBy wr r) (p : Addr) (v : Value) : ∀ b, b < w.heap.size → some b ≠ r → b ≠ p.block → (wr.setCell p v).heap[b]? = w.heap[b]? := fun b hb hr hp => (Below.heap_setCell wr p v b hp).trans (h.block b hb hr)
/-- A drawn algebra that is valid has five elements at most. -/
def AlgQ5 (x : AlgebraM) : Prop := AlgQ x ∧ (x.1 ≤ 5 ∨ x.1 = 9)
theorem opsQ_alg5 {xs : List OpM} {z : Int} (h : OpsQ xs) (hl : xs.length ≤ 8) (h0 : 0 ≤ z) (h9 : z ≤ 5 ∨ z = 9) : AlgQ5 (z, xs) := ⟨opsQ_alg h hl h0 (by omega), h9⟩
theorem alg_q5 {xs : List OpM} {z : Int} (h : ∀ o ∈ xs, o.2.length ≤ 1000) (hl : xs.length ≤ 8) (h0 : 0 ≤ z) (h9 : z ≤ 5 ∨ z = 9) : AlgQ5 (z, xs) := ⟨alg_q h hl h0 (by omega), h9⟩
def AlgD (B : Nat) (w : World) (g t : Nat) (e : Ending) (w' : World) : Prop := ∃ cs x bl, e = .returned (.agg cs.toArray) ∧ shAlgebra.own w' cs x bl ∧ Iv w.heap.size w'.heap.size bl ∧ AlgQ5 x ∧ CurB B w' g t ∧ w.grownBy w' (some g)
theorem small_q {x : AlgebraM} (h : SmallP x) : AlgQ x := by
  refine ⟨by have := h.1; omega, by have := h.2.1; omega, ?_⟩
  have h1 := h.2.2.1
  have h2 : ∀ (l : List OpM), (∀ o ∈ l, o.2.length ≤ 125) → cntS shOp.cnt l ≤ 125 * l.length := by
    intro l hl
    induction l with
    | nil => simp [cntS]
    | cons o l ih =>
      rw [cntS_cons]
      have := hl o (List.mem_cons_self ..)
      have h3 := ih fun a ha => hl a (List.mem_cons_of_mem _ ha)
      have h4 : shOp.cnt o = 0 + o.2.length := rfl
      rw [List.length_cons]
      omega
  have h3 := h2 x.2 fun o ho => by
    obtain ⟨q1, q2, q3, -⟩ := h.2.2.2 o ho
    rw [q3]
    have hn : x.1.toNat ≤ 5 := by have := h.2.1; omega
    have hk : o.1.toNat ≤ 3 := by omega
    calc x.1.toNat ^ o.1.toNat ≤ 5 ^ o.1.toNat := Nat.pow_le_pow_left hn _
      _ ≤ 5 ^ 3 := Nat.pow_le_pow_right (by omega) hk
      _ = 125 := rfl
  show 0 + (x.2.length + cntS shOp.cnt x.2) ≤ 10000
  omega
/-- append of an operation whose blocks are younger than hi. -/
theorem small_q5 {x : AlgebraM} (h : SmallP x) : AlgQ5 x := ⟨small_q h, .inl h.2.1⟩
theorem PO.push2 {lo hi : Nat} {w : World} {v : Value} {xs : List OpM} {css : List (List Value)} {bls : List (List Nat)} (h : PO lo w v xs css bls) (hI : Iv lo hi (obl v ++ bls.flatten)) {c : List Value} {x : OpM} {bk : List Nat} (ho : shOp.own w c x bk) (hk : Iv hi w.heap.size bk) (hlh : lo ≤ hi) :
    ∀ {w2 : World} {v' : Value}, w2.ownsRow lo 72 2 v' (xs.length + 1) (css.flatten ++ c) → w.grownBy w2 v.ownBlock → PO lo w2 v' (xs ++ [x]) (css ++ [c]) (bls ++ [bk]) := by
  intro w2 v' hown hg
  have hnd := List.nodup_append.1 h.2.2.1
  have far : ∀ b, b ∈ bls.flatten → w2.heap[b]? = w.heap[b]? := fun b hb' => hg.block b (h.2.2.2 b (List.mem_append_right _ hb')).2 fun e => hnd.2.2 b (mem_obl.2 e.symm) b hb' rfl
  have far2 : ∀ b, b ∈ bk → w2.heap[b]? = w.heap[b]? := fun b hb' => hg.block b (hk.2 b hb').2 fun e => by
    have h3 := (hI.2 b (List.mem_append_left _ (mem_obl.2 e.symm))).2
    have h4 := (hk.2 b hb').1
    omega
  have hl1 := h.1.l1
  have hl2 := h.1.l2
  have hP : Parts shOp 72 w2 v' (xs ++ [x]) (css ++ [c]) (bls ++ [bk]) := by
    refine ⟨?_, by simp [hl1], by simp [hl2], fun k c' x' bk' e1 e2 e3 => ?_⟩
    · rw [List.length_append, List.flatten_append, List.flatten_singleton]
      exact own_mono hown (Nat.zero_le _)
    · by_cases hk' : k < xs.length
      · rw [List.getElem?_append_left (by omega)] at e1 e2 e3
        exact shOp.osame (h.1.el k c' x' bk' e1 e2 e3) fun b hb' => far b (List.mem_flatten.2 ⟨_, List.mem_of_getElem? e3, hb'⟩)
      · have hk2 : k = xs.length := by
          have := (List.getElem?_eq_some_iff.1 e2).1
          simp at this
          omega
        subst hk2
        rw [List.getElem?_append_right (by omega)] at e1 e2 e3
        simp [hl1, hl2] at e1 e2 e3
        subst e1
        subst e2
        subst e3
        exact shOp.osame ho far2
  refine ⟨hP, by rw [List.length_append, List.flatten_append]; simpa using hown, ?_⟩
  rw [List.flatten_append]
  have hz : w.heap.size ≤ w2.heap.size := hg.size
  refine ⟨?_, fun b hb' => ?_⟩
  · rw [List.nodup_append]
    refine ⟨obl_nd _, ?_, fun a ha b hb' e => ?_⟩
    · rw [List.nodup_append]
      refine ⟨hnd.2.1, by simpa using hk.1, fun a ha b hb' e => ?_⟩
      simp at hb'
      subst e
      have h3 := (hI.2 a (List.mem_append_right _ ha)).2
      have h4 := (hk.2 a hb').1
      omega
    · subst e
      obtain ⟨cur, fr, hc⟩ := row_blk hown ha
      have hb2 : a ∈ (bls ++ [bk]).flatten := by rw [List.flatten_append]; exact hb'
      obtain ⟨bq, hbq, hab⟩ := List.mem_flatten.1 hb2
      obtain ⟨k, hk'⟩ := List.getElem?_of_mem hbq
      have hkl := (List.getElem?_eq_some_iff.1 hk').1
      have e1 := hP.l1
      have e2 := hP.l2
      have ho2 := hP.el k _ _ bq (List.getElem?_eq_getElem (by omega)) (List.getElem?_eq_getElem (by omega)) hk'
      obtain ⟨cur2, fr2, hc2⟩ := shOp_blk ho2 hab
      rw [hc] at hc2
      injection hc2 with hc2
      injection hc2 with _ h5
      exact absurd h5 (by decide)
  · rcases List.mem_append.1 hb' with hb' | hb'
    · exact hown.lt b (mem_obl.1 hb')
    · rcases List.mem_append.1 hb' with hb' | hb'
      · have := h.2.2.2 b (List.mem_append_right _ hb')
        omega
      · have := hk.2 b (by simpa using hb')
        omega
theorem own_opF {lo : Nat} {w : World} {a : Int} {L : List Int} {A : Option Addr} {n c : Nat} (ha : InR a) (hn : L.length = n) (h : w.ownsRow lo 3 1 (.slice A n c) n (ints L)) (hL : ∀ x ∈ L, InR x) : shOp.own w [.int .i64 a, .slice A n c] (a, L) (obl (.slice A n c)) ∧ Iv lo w.heap.size (obl (.slice A n c)) := by
  refine ⟨⟨[.int .i64 a], [.slice A n c], [], _, rfl, rfl, ⟨_, rfl, ⟨rfl, ha.1, ha.2⟩, rfl⟩, ⟨_, rfl, ?_, hL, rfl⟩⟩, obl_nd _, fun b hb => h.lt b (mem_obl.1 hb)⟩
  show World.ownsRow _ 0 3 1 _ L.length _
  rw [hn]
  exact own_mono h (Nat.zero_le _)
/-- The numbers of a literal list. -/
theorem numsL (P : Int → Prop) (L : List Int) (w : World) (g : Nat) (hg : g < w.heap.size) (h0 : 0 < L.length) (h1 : L.length ≤ 1000) (hP : ∀ x ∈ L, P x) {k : Nat} (hk : k = w.heap.size) : NumsP P (w.alloc (.cells (ints L).toArray 3)) g k L.length := by
  subst hk
  refine ⟨by omega, h0, h1, fun i hi => ?_⟩
  have hc := (Blk.new w 3 (ints L).toArray).cell i
  refine ⟨L[i], hP _ (List.getElem_mem hi), ?_⟩
  rw [hc]
  simp [ints, hi]
/-- The state of the walk while an algebra is built in the block gA: its rows lie from lo on and below hi. -/
def AlS (B g lo hi gA r0 : Nat) (w wr : World) (z : Int) (xs : List OpM) (t : Nat) : Prop :=
  ∃ A n c css bls, Blk wr gA 26 #[.int .i64 z, .slice A n c] ∧ PO lo wr (.slice A n c) xs css bls ∧ Blk wr r0 26 #[.int .i64 0, .slice none 0 0] ∧ CurB B wr g t ∧ w.grownBy wr (some g) ∧ Iv lo hi (obl (.slice A n c) ++ bls.flatten) ∧ lo ≤ hi ∧ hi ≤ wr.heap.size
section
variable {B g lo hi gA r0 t t' : Nat} {w wr w2 : World} {z : Int} {xs : List OpM}
theorem AlS.cur (h : AlS B g lo hi gA r0 w wr z xs t) (hg : wr.grownBy w2 (some g)) (hc : CurB B w2 g t') (h1 : gA ≠ g) (h2 : r0 ≠ g) (h3 : g < lo) : AlS B g lo hi gA r0 w w2 z xs t' := by
  obtain ⟨A, n, c, css, bls, b1, p1, b2, c1, g1, i1, l1, l2⟩ := h
  exact ⟨A, n, c, css, bls, b1.grownG hg h1, p1.grownG hg h3, b2.grownG hg h2, hc, growB_trans g1 hg, i1, l1, Nat.le_trans l2 hg.size⟩
theorem AlS.next (h : AlS B g lo hi gA r0 w wr z xs t) (hb : Below wr.heap.size wr w2) : AlS B g lo hi gA r0 w w2 z xs t := by
  obtain ⟨A, n, c, css, bls, b1, p1, b2, c1, g1, i1, l1, l2⟩ := h
  exact ⟨A, n, c, css, bls, b1.next hb, p1.next hb, b2.next hb, c1.next_ hb, growB_trans g1 (toGr hb), i1, l1, Nat.le_trans l2 hb.size⟩
theorem AlS.mono (h : AlS B g lo hi gA r0 w wr z xs t) (ht : t ≤ t') : AlS B g lo hi gA r0 w wr z xs t' := by
  obtain ⟨A, n, c, css, bls, b1, p1, b2, c1, g1, i1, l1, l2⟩ := h
  exact ⟨A, n, c, css, bls, b1, p1, b2, c1.mono ht, g1, i1, l1, l2⟩
theorem AlS.cu (h : AlS B g lo hi gA r0 w wr z xs t) : CurB B wr g t := by
  obtain ⟨A, n, c, css, bls, b1, p1, b2, c1, g1, i1, l1, l2⟩ := h
  exact c1
/-- A change of a block from hi on (or of new ones) leaves the state as it is. -/
theorem AlS.far {row : Option Nat} (h : AlS B g lo hi gA r0 w wr z xs t) (hg : wr.grownBy w2 row) (hr : ∀ r, row = some r → hi ≤ r) (h1 : gA < hi) (h2 : r0 < hi) (h3 : g < hi) (hB : B ≤ hi) (hw : w.heap.size ≤ hi) : AlS B g lo hi gA r0 w w2 z xs t := by
  obtain ⟨A, n, c, css, bls, b1, p1, b2, c1, g1, i1, l1, l2⟩ := h
  have hz := hg.size
  have same : ∀ b, b < hi → b < wr.heap.size → w2.heap[b]? = wr.heap[b]? := fun b hb hbs => hg.block b hbs fun e => by have := hr b e.symm; omega
  refine ⟨A, n, c, css, bls, (same _ h1 b1.lt).trans b1, p1.same hz fun b hb => same b (i1.2 b hb).2 (p1.2.2.2 b hb).2, (same _ h2 b2.lt).trans b2, c1.grown hg fun r e => ⟨by have := hr r e; omega, by have := hr r e; omega⟩, ?_, i1, l1, by omega⟩
  exact ⟨hg.os.trans g1.os, hg.tape.trans g1.tape, hg.output.trans g1.output, Nat.le_trans g1.size hz, fun b hb hne => (same b (by omega) (Nat.lt_of_lt_of_le hb g1.size)).trans (g1.block b hb hne)⟩
theorem AlS.setZ {z' : Int} (h : AlS B g lo hi gA r0 w wr z xs t) (h1 : gA < lo) (h2 : r0 ≠ gA) (h3 : B ≤ gA) (h4 : gA ≠ g) (h5 : w.heap.size ≤ gA) : AlS B g lo hi gA r0 w (wr.setCell ⟨gA, 0, none⟩ (.int .i64 z')) z' xs t := by
  obtain ⟨A, n, c, css, bls, b1, p1, b2, c1, g1, i1, l1, l2⟩ := h
  exact ⟨A, n, c, css, bls, by simpa using b1.set_ 0 (.int .i64 z'), p1.far (p := ⟨gA, 0, none⟩) h1 _, b2.far (p := ⟨gA, 0, none⟩) h2 _, c1.setFar (p := ⟨gA, 0, none⟩) h3 h4 _, growB_new g1 (p := ⟨gA, 0, none⟩) h5 _, i1, l1, by simpa using l2⟩
/-- The first operation of the algebra that is built, and how another takes its place. -/
theorem AlS.el0 {a : Int} {T : List Int} {rest : List OpM} (h : AlS B g lo hi gA r0 w wr z ((a, T) :: rest) t) : ∃ (go c : Nat) (TA : Option Addr) (cT : Nat) (css : List (List Value)),
    Blk wr gA 26 #[.int .i64 z, .slice (some ⟨go, 0, none⟩) (rest.length + 1) c] ∧ Blk wr r0 26 #[.int .i64 0, .slice none 0 0] ∧ CurB B wr g t ∧ w.grownBy wr (some g) ∧ lo ≤ go ∧ go < wr.heap.size ∧
    wr.ownsRow lo 72 2 (.slice (some ⟨go, 0, none⟩) (rest.length + 1) c) (rest.length + 1) ([.int .i64 a, .slice TA T.length cT] ++ css.flatten) ∧ wr.ownsRow lo 3 1 (.slice TA T.length cT) T.length (ints T) ∧ InR a ∧ (∀ u ∈ T, InR u) ∧ (Value.slice TA T.length cT).ownBlock ≠ some go ∧
    ∀ (w' : World) (a' : Int) (T' : List Int) (TA' : Option Addr) (cT' : Nat), InR a' → (∀ u ∈ T', InR u) → w'.ownsRow lo 3 1 (.slice TA' T'.length cT') T'.length (ints T') → wr.heap.size ≤ w'.heap.size →
      w'.ownsRow lo 72 2 (.slice (some ⟨go, 0, none⟩) (rest.length + 1) c) (rest.length + 1) ([.int .i64 a', .slice TA' T'.length cT'] ++ css.flatten) →
      (∀ b, b < wr.heap.size → b ≠ go → (Value.slice TA T.length cT).ownBlock ≠ some b → b ≠ gA → b ≠ r0 → b ≠ g → w'.heap[b]? = wr.heap[b]?) → gA < lo → r0 < lo → g < lo →
      ((Value.slice TA' T'.length cT').ownBlock = (Value.slice TA T.length cT).ownBlock ∨ ∀ b, (Value.slice TA' T'.length cT').ownBlock = some b → wr.heap.size ≤ b) →
      ∃ css' bls', PO lo w' (.slice (some ⟨go, 0, none⟩) (rest.length + 1) c) ((a', T') :: rest) css' bls' := by
  obtain ⟨A, n, c, css, bls, b1, p1, b2, c1, g1, i1, l1, l2⟩ := h
  obtain ⟨hP, hrow, hiv⟩ := p1
  have h1 := hP.l1
  have h2 := hP.l2
  obtain ⟨c0, css, rfl⟩ : ∃ c0 cs, css = c0 :: cs := by cases css with | nil => simp at h1 | cons c0 cs => exact ⟨c0, cs, rfl⟩
  obtain ⟨k0, bls, rfl⟩ : ∃ b0 bs, bls = b0 :: bs := by cases bls with | nil => simp at h2 | cons b0 bs => exact ⟨b0, bs, rfl⟩
  have ho := hP.el 0 c0 (a, T) k0 rfl rfl rfl
  obtain ⟨x0, x1, y0, y1, rfl, rfl, ⟨_, rfl, ⟨rfl, la, ha⟩, rfl⟩, ⟨tv, rfl, O1, hR, rfl⟩⟩ := ho
  obtain ⟨TA, cT, rfl⟩ : ∃ TA cT, tv = .slice TA T.length cT := by
    rcases O1.2 with ⟨rfl, h0⟩ | ⟨g', cap, cur, rfl, -⟩
    · exact ⟨none, 0, by rw [show T.length = 0 from h0]⟩
    · exact ⟨_, _, rfl⟩
  obtain ⟨go, hgo, hgl, hn⟩ : ∃ go, A = some ⟨go, 0, none⟩ ∧ lo ≤ go ∧ n = rest.length + 1 := by
    rcases hrow.2 with ⟨e, h0⟩ | ⟨g', cap, cur, e, hl, -⟩
    · simp at h0
    · injection e with e1 e2 e3
      exact ⟨g', e1, hl, by simpa using e2⟩
  subst hgo hn
  have hgob : (Value.slice (some ⟨go, 0, none⟩) (rest.length + 1) c).ownBlock = some go := by simp [Value.ownBlock]
  have hgw : go < wr.heap.size := (hrow.lt go hgob).2
  simp only [List.length_cons] at hrow
  have hb1 : ∀ b, (Value.slice TA T.length cT).ownBlock = some b → lo ≤ b ∧ b < wr.heap.size ∧ b ≠ go ∧ b ∉ bls.flatten := fun b hb => by
    have hm : b ∈ ((([] : List Nat) ++ obl (.slice TA T.length cT)) :: bls).flatten := by simp [obl, hb]
    have := hiv.2 b (List.mem_append_right _ hm)
    refine ⟨this.1, this.2, fun e => ?_, fun hh => ?_⟩
    · subst e
      exact (List.nodup_append.1 hiv.1).2.2 b (by simp [obl, hgob]) b hm rfl
    · have hn := (List.nodup_append.1 hiv.1).2.1
      simp only [List.nil_append, List.flatten_cons] at hn
      exact (List.nodup_append.1 hn).2.2 b (by simp [obl, hb]) b hh rfl
  refine ⟨go, c, TA, cT, css, b1, b2, c1, g1, hgl, hgw, by simpa using hrow, ?_, ⟨la, ha⟩, hR, fun e => (hb1 go e).2.2.1 rfl, ?_⟩
  · obtain ⟨o1, o2⟩ := O1
    refine ⟨o1, ?_⟩
    rcases o2 with h | ⟨g', cap, cur, e, -, rest'⟩
    · exact .inl h
    · exact .inr ⟨g', cap, cur, e, (hb1 g' (by rw [e]; simp [Value.ownBlock])).1, rest'⟩
  · intro w' a' T' TA' cT' qa qT qrow qsz qOps qfar qgA qr0 qg qor
    have rowgo : ∀ b ∈ bls.flatten, b < wr.heap.size ∧ lo ≤ b ∧ b ≠ go ∧ (Value.slice TA T.length cT).ownBlock ≠ some b := fun b hb => by
      have hm : b ∈ ((([] : List Nat) ++ obl (.slice TA T.length cT)) :: bls).flatten := by simp [hb]
      have := hiv.2 b (List.mem_append_right _ hm)
      exact ⟨this.2, this.1, fun e => (List.nodup_append.1 hiv.1).2.2 go (by simp [obl, hgob]) b hm e.symm, fun e => (hb1 b e).2.2.2 hb⟩
    have same : ∀ b ∈ bls.flatten, w'.heap[b]? = wr.heap[b]? := fun b hb => by
      obtain ⟨q1, q2, q3, q4⟩ := rowgo b hb
      exact qfar b q1 q3 q4 (by omega) (by omega) (by omega)
    have hnew : ∀ b, (Value.slice TA' T'.length cT').ownBlock = some b → b ≠ go ∧ b ∉ bls.flatten := fun b hb => by
      rcases qor with e | e
      · have := hb1 b (by rw [← e]; exact hb)
        exact this.2.2
      · have := e b hb
        exact ⟨by omega, fun hh => by have := (rowgo b hh).1; omega⟩
    refine ⟨[.int .i64 a', .slice TA' T'.length cT'] :: css, obl (.slice TA' T'.length cT') :: bls, ⟨?_, by simpa using h1, by simpa using h2, ?_⟩, by simpa using qOps, ?_⟩
    · simp only [List.length_cons, List.flatten_cons]
      exact own_mono qOps (Nat.zero_le _)
    · intro k c' x' bk e1 e2 e3
      cases k with
      | zero =>
        simp at e1 e2 e3
        subst e1 e2 e3
        exact ⟨[.int .i64 a'], [.slice TA' T'.length cT'], [], _, rfl, rfl, ⟨_, rfl, ⟨rfl, qa.1, qa.2⟩, rfl⟩, ⟨_, rfl, own_mono qrow (Nat.zero_le _), qT, rfl⟩⟩
      | succ k =>
        simp at e1 e2 e3
        exact shOp.osame (hP.el (k + 1) c' x' bk (by simpa using e1) (by simpa using e2) (by simpa using e3)) fun b hb => same b (List.mem_flatten.2 ⟨_, List.mem_of_getElem? e3, hb⟩)
    · have hnd := (List.nodup_append.1 hiv.1).2.1
      simp only [List.nil_append, List.flatten_cons] at hnd
      refine ⟨?_, fun b hb => ?_⟩
      · refine List.nodup_append.2 ⟨obl_nd _, ?_, fun x hx y hy e => ?_⟩
        · simp only [List.flatten_cons]
          exact List.nodup_append.2 ⟨obl_nd _, (List.nodup_append.1 hnd).2.1, fun x hx y hy e => (hnew x (mem_obl.1 hx)).2 (e ▸ hy)⟩
        · subst e
          have hx' : x = go := by have := mem_obl.1 hx; rw [hgob] at this; injection this with this; exact this.symm
          subst hx'
          simp only [List.flatten_cons] at hy
          rcases List.mem_append.1 hy with hy | hy
          · exact (hnew x (mem_obl.1 hy)).1 rfl
          · exact (rowgo x hy).2.2.1 rfl
      · rcases List.mem_append.1 hb with hb | hb
        · have : b = go := by have := mem_obl.1 hb; rw [hgob] at this; injection this with this; exact this.symm
          subst this
          exact ⟨hgl, by omega⟩
        · simp only [List.flatten_cons] at hb
          rcases List.mem_append.1 hb with hb | hb
          · exact qrow.lt b (mem_obl.1 hb)
          · have := rowgo b hb
            exact ⟨this.2.1, by omega⟩
end
/-- The length of the slice in a cell. -/
def lenAt (w : World) (g i : Nat) : Nat := match w.cell? ⟨g, i, none⟩ with | some (.slice _ n _) => n | _ => 0
theorem lenAt_eq {w : World} {g i n c : Nat} {A : Option Addr} (h : w.cell? ⟨g, i, none⟩ = some (.slice A n c)) : lenAt w g i = n := by unfold lenAt; rw [h]
section
variable {B g lo hi gA r0 t : Nat} {w wr : World} {z : Int} {xs : List OpM}
theorem AlS.row (h : AlS B g lo hi gA r0 w wr z xs t) : ∃ A c css bls, Blk wr gA 26 #[.int .i64 z, .slice A xs.length c] ∧ PO lo wr (.slice A xs.length c) xs css bls ∧ Blk wr r0 26 #[.int .i64 0, .slice none 0 0] ∧ CurB B wr g t ∧ w.grownBy wr (some g) ∧ Iv lo hi (obl (.slice A xs.length c) ++ bls.flatten) ∧ lo ≤ hi ∧ hi ≤ wr.heap.size := by
  obtain ⟨A, n, c, css, bls, b1, p1, b2, c1, g1, i1, l1, l2⟩ := h
  obtain rfl : n = xs.length := by
    rcases p1.2.1.2 with ⟨e, h0⟩ | ⟨g', cap, cur, e, -⟩
    · injection e with e1 e2 e3; omega
    · injection e with e1 e2 e3
  exact ⟨A, c, css, bls, b1, p1, b2, c1, g1, i1, l1, l2⟩
end
theorem made_ints (n : Nat) : madeCells #[Value.int .i64 0] n = (ints (List.replicate n 0)).toArray := by
  apply Array.ext'
  have := toList_madeCells_one (.int .i64 0) n
  rw [show (madeCells #[Value.int .i64 0] n).toList = List.replicate n (.int .i64 0) from this]
  simp [ints]
theorem algebra_any (B g t : Nat) (w : World) (h : CurB B w g t) (hB : B ≤ w.heap.size) (ht : t ≤ 999900000) :
    Calls Try.prog 51 #[.pointer (some ⟨g, 0, none⟩)] w (AlgD B w g (t + 2000)) := by
  have hgl := h.lt
  obtain ⟨w0, HW0⟩ : ∃ wb, Hid (wb = w.alloc (.cells #[.int .i64 0, .slice none 0 0] 26)) := ⟨_, Lib.hid rfl⟩
  have hb0 : Below w.heap.size w w0 := by rw [HW0.out]; exact below_box _ _
  have BR : Blk w0 w.heap.size 26 #[.int .i64 0, .slice none 0 0] := by rw [HW0.out]; exact Blk.new _ _ _
  have hs0 : w0.heap.size = w.heap.size + 1 := by rw [HW0.out]; simp
  have HON := Lib.hid (oneB_any g t 4 w0 (h.next_ hb0) (by omega) (by omega))
  have hr0g : w.heap.size ≠ g := by omega
  have hz0 : w.heap.size + 1 ≤ w0.heap.size := by omega
  clear hs0
  go_enter Try.func51, Try.ntmps51
  go_upto_region 1 with fail
  rw [← HW0.out]
  go_wp2_with fail
  refine HON.out.mono ?_
  rintro e w1 ⟨b, rfl, hc1, hg1⟩
  have BR1 := BR.grownG hg1 hr0g
  have hgr1 := growB_trans (toGr (r := some g) hb0) hg1
  have hz1 := hg1.size
  clear HON BR hg1
  rcases b with _ | _
  · -- a known one
    have HPK := Lib.hid (pickB_any g (t + 2) 17 w1 hc1 (by omega) (by omega))
    go_wp2_with fail
    refine HPK.out.mono ?_
    rintro e w2 ⟨k, -, rfl, hc2, hg2⟩
    have BR2 := BR1.grownG hg2 hr0g
    have hgr2 := growB_trans hgr1 hg2
    have hz2 := hg2.size
    have HKN := Lib.hid (l2Known_any (k : Int) w2 (by omega))
    clear HPK BR1 hg2
    go_wp2_with fail
    refine HKN.out.mono ?_
    rintro e w3 ⟨x, ⟨cs, bl, rfl, O3, I3, hb3⟩, hsm⟩
    obtain ⟨A, n, c, rfl, -, -⟩ := rdAlgebra (shAlgebra.ord O3)
    have BR3 := BR2.next hb3
    have hz3 := hb3.size
    obtain ⟨w4, HW4⟩ : ∃ wb, Hid (wb = w3.alloc (.cells #[.int .i64 x.1, .slice A n c] 26)) := ⟨_, Lib.hid rfl⟩
    have hb4 : Below w3.heap.size w3 w4 := by rw [HW4.out]; exact below_box _ _
    have BX : Blk w4 w3.heap.size 26 #[.int .i64 x.1, .slice A n c] := by rw [HW4.out]; exact Blk.new _ _ _
    have BR4 := BR3.next hb4
    have hc4 := (hc2.next_ hb3).next_ hb4
    have hgr4 := growB_trans (growB_trans hgr2 (toGr (r := some g) hb3)) (toGr (r := some g) hb4)
    have O4 := Sh.onext O3 hb4
    have hz4 := hb4.size
    have hrn : w.heap.size ∉ bl := fun hh => by have := (I3.2 _ hh).1; omega
    obtain ⟨wf, HWF⟩ : ∃ wf, Hid (wf = (w4.setCell ⟨w.heap.size, 0, none⟩ (.int .i64 x.1)).setCell ⟨w.heap.size, 1, none⟩ (.slice A n c)) := ⟨_, Lib.hid rfl⟩
    have BLF : Hid (Blk wf w.heap.size 26 #[.int .i64 x.1, .slice A n c]) := by show Blk _ _ _ _; rw [HWF.out]; simpa using (BR4.set_ 0 (.int .i64 x.1)).set_ 1 (.slice A n c)
    have OF : Hid (shAlgebra.own wf [.int .i64 x.1, .slice A n c] x bl) := by show shAlgebra.own _ _ _ _; rw [HWF.out]; exact Sh.oset' (p := ⟨w.heap.size, 1, none⟩) (Sh.oset' (p := ⟨w.heap.size, 0, none⟩) O4 hrn _) hrn _
    have CF : Hid (CurB B wf g (t + 2000)) := by show CurB _ _ _ _; rw [HWF.out]; exact ((hc4.setFar (p := ⟨w.heap.size, 0, none⟩) hB hr0g _).setFar (p := ⟨w.heap.size, 1, none⟩) hB hr0g _).mono (by omega)
    have GF : Hid (w.grownBy wf (some g)) := by show World.grownBy _ _ _; rw [HWF.out]; exact growB_new (growB_new hgr4 (p := ⟨w.heap.size, 0, none⟩) (Nat.le_refl _) _) (p := ⟨w.heap.size, 1, none⟩) (Nat.le_refl _) _
    have IF : Hid (Iv w.heap.size wf.heap.size bl) := by show Iv _ _ _; rw [HWF.out]; exact I3.mono (by omega) (by simpa using hz4)
    have cX0 := BX.cell 0
    have cX1 := BX.cell 1
    have cR0 := BR4.cell 0
    have cR1 := BR4.cell 1
    simp at cX0 cX1 cR0 cR1
    have fR0 := BR4.frozen 0
    have fR1 := BR4.frozen 1
    clear HKN BR2 BR3 BR4 BX hc2 hc4 hgr4 O3 O4 hrn
    go_upto_region 3 with fail
    rw [← HW4.out]
    go_wp2_with fail
    rw [← HWF.out]
    (try simp only [Exit.inBlock, Exit.then])
    refine bodyPost_ret (v := .agg #[.int .i64 x.1, .slice A n c]) (results_cell_row rfl _ _ w.heap.size 26 #[.int .i64 x.1, .slice A n c] (0, 0) _ (by simp) BLF.out Try.underlying26 rfl (by kernel_rfl)) rfl ?_
    exact ⟨[.int .i64 x.1, .slice A n c], x, bl, rfl, OF.out, IF.out, small_q5 hsm, CF.out, GF.out⟩
  · -- one that is built
    obtain ⟨w2, HW2⟩ : ∃ wb, Hid (wb = w1.alloc (.cells #[.int .i64 2, .int .i64 2, .int .i64 3, .int .i64 3, .int .i64 4] 3)) := ⟨_, Lib.hid rfl⟩
    have hb2 : Below w1.heap.size w1 w2 := by rw [HW2.out]; exact below_box _ _
    have hnum : NumsP (fun x => x = 2 ∨ x = 3 ∨ x = 4) w2 g w1.heap.size 5 := by rw [HW2.out]; exact numsL _ [2, 2, 3, 3, 4] w1 g hc1.lt (by decide) (by decide) (by intro x hx; simp at hx; omega) rfl
    have HAM := Lib.hid (amongB_any g (t + 2) w1.heap.size 5 5 w2 (hc1.next_ hb2) (by omega) _ hnum)
    have BR2 := BR1.next hb2
    have hgr2 := growB_trans hgr1 (toGr (r := some g) hb2)
    have hz2 := hb2.size
    clear hnum BR1
    go_wp2_with fail
    rw [← HW2.out]
    refine HAM.out.mono ?_
    rintro e w3 ⟨z, hzv, rfl, hc3, hg3⟩
    obtain ⟨n, rfl, hn2, hn4⟩ : ∃ n : Nat, z = (n : Int) ∧ 2 ≤ n ∧ n ≤ 4 := ⟨z.toNat, by omega, by omega, by omega⟩
    have BR3 := BR2.grownG hg3 hr0g
    have hgr3 := growB_trans hgr2 hg3
    have hz3 := hg3.size
    obtain ⟨w4, HW4⟩ : ∃ wb, Hid (wb = w3.alloc (.cells #[.int .i64 (n : Int), .slice none 0 0] 26)) := ⟨_, Lib.hid rfl⟩
    have hb4 : Below w3.heap.size w3 w4 := by rw [HW4.out]; exact below_box _ _
    have BA4 : Blk w4 w3.heap.size 26 #[.int .i64 (n : Int), .slice none 0 0] := by rw [HW4.out]; exact Blk.new _ _ _
    have hs4 : w4.heap.size = w3.heap.size + 1 := by rw [HW4.out]; simp
    obtain ⟨gA, hgA⟩ : ∃ a, a = w3.heap.size := ⟨_, rfl⟩
    obtain ⟨lo, hlo⟩ : ∃ a, a = w4.heap.size := ⟨_, rfl⟩
    have hS4 : AlS B g lo lo gA w.heap.size w w4 (n : Int) [] (t + 4) := ⟨none, 0, 0, [], [], by rw [hgA]; exact BA4, PO.nil _ _, BR3.next hb4, (hc3.next_ hb4).mono (by omega), growB_trans hgr3 (toGr hb4), Iv.nil _ _, Nat.le_refl _, by omega⟩
    have HGA := Lib.hid hgA
    have hgAl : gA < lo := by omega
    have hgAg : gA ≠ g := by omega
    have hglo : g < lo := by omega
    have hwlo : w.heap.size < lo := by omega
    have hBlo : B ≤ lo := by omega
    have hBgA : B ≤ gA := by omega
    have hwgA : w.heap.size ≠ gA := by omega
    have hwgA2 : w.heap.size ≤ gA := by omega
    have hlo4 : lo ≤ w4.heap.size := by omega
    clear hs4 hgA hlo HAM BR2 BR3 BA4 hc1 hc3 hgr1 hgr2 hgr3 hg3 hzv
    obtain ⟨w5, HW5⟩ : ∃ wb, Hid (wb = w4.alloc (.cells #[.int .i64 1, .int .i64 1, .int .i64 2] 3)) := ⟨_, Lib.hid rfl⟩
    have hb5 : Below w4.heap.size w4 w5 := by rw [HW5.out]; exact below_box _ _
    have hnum : NumsP (fun x => x = 1 ∨ x = 2) w5 g w4.heap.size 3 := by rw [HW5.out]; exact numsL _ [1, 1, 2] w4 g (by omega) (by decide) (by decide) (by intro x hx; simp at hx; omega) rfl
    have hS5 := hS4.next hb5
    have HAM := Lib.hid (amongB_any g (t + 4) w4.heap.size 3 3 w5 hS5.cu (by omega) _ hnum)
    clear hnum hS4
    go_upto_region 6 with fail
    rw [← HW4.out]
    go_wp2_with fail
    rw [← HW5.out]
    refine HAM.out.mono ?_
    rintro e w6 ⟨z, hzv, rfl, hc6, hg6⟩
    obtain ⟨k0, rfl, hk1, hk2⟩ : ∃ k : Nat, z = (k : Int) ∧ 1 ≤ k ∧ k ≤ 2 := ⟨z.toNat, by omega, by omega, by omega⟩
    have hS6 := hS5.cur hg6 hc6 hgAg hr0g hglo
    have hz56 := hb5.size
    have hz66 := hg6.size
    rw [← HGA.out]
    clear hzv HAM hS5 hc6 hg6
    -- loops
    obtain ⟨t6, HT6⟩ : ∃ x, Hid (t + 4 + 2 = x) := ⟨_, Lib.hid rfl⟩
    rw [HT6.out] at hS6
    have ht6 : t6 ≤ 999900006 := by have := HT6.out; omega
    go_wp2_with fail
    go_loopw [6, 7, 8] (fun kv _ _ wr => ∃ (q : Nat) (xs : List OpM) (hi : Nat), q ≤ k0 ∧ kv = .int .i64 q ∧ AlS B g lo hi gA w.heap.size w wr (n : Int) xs (t6 + 150 * (k0 - q)) ∧ Hid (xs.length + q = k0 ∧ OpsQ xs)) (fun kv _ _ _ => (intOf kv).toNat)
    case atStart => exact ⟨k0, [], lo, Nat.le_refl _, rfl, hS6.mono (by omega), Lib.hid ⟨by simp, fun o ho => by cases ho⟩⟩
    case round =>
      clear hS6 hz56 hz66 hb5 hb4 hb2 hz1 hz2 hz3 hz0 hb0 hlo4 HW5 HW4 HW2 HGA
      obtain ⟨q, xs, hi, hqk, rfl, hS, HX⟩ := hrel
      by_cases hq : 0 < q
      · have hq0 : (0 : Int) < (q : Int) := by omega
        obtain ⟨tq, HTQ⟩ : ∃ x, Hid (t6 + 150 * (k0 - q) = x) := ⟨_, Lib.hid rfl⟩
        rw [HTQ.out] at hS
        have htq : tq ≤ 999901000 := by have := HTQ.out; omega
        obtain ⟨hlh, hiw⟩ : lo ≤ hi ∧ hi ≤ wr.heap.size := by obtain ⟨_, _, _, _, _, _, _, _, _, _, _, l1, l2⟩ := hS; exact ⟨l1, l2⟩
        obtain ⟨w7, HW7⟩ : ∃ wb, Hid (wb = wr.alloc (.cells #[.int .i64 0, .int .i64 1, .int .i64 2, .int .i64 2, .int .i64 3] 3)) := ⟨_, Lib.hid rfl⟩
        have hb7 : Below wr.heap.size wr w7 := by rw [HW7.out]; exact below_box _ _
        have hnum : NumsP (fun x => 0 ≤ x ∧ x ≤ 3) w7 g wr.heap.size 5 := by rw [HW7.out]; exact numsL _ [0, 1, 2, 2, 3] wr g (by omega) (by decide) (by decide) (by intro x hx; simp at hx; omega) rfl
        have hS7 := hS.next hb7
        have HAM := Lib.hid (amongB_any g tq wr.heap.size 5 5 w7 hS7.cu (by omega) _ hnum)
        have hz7 := hb7.size
        clear hnum hS
        go_wp2_with fail
        rw [← HW7.out]
        refine HAM.out.mono ?_
        rintro e w8 ⟨z, hzv, rfl, hc8, hg8⟩
        obtain ⟨a, rfl, ha3⟩ : ∃ a : Nat, z = (a : Int) ∧ a ≤ 3 := ⟨z.toNat, by omega, by omega⟩
        have hS8 := hS7.cur hg8 hc8 hgAg hr0g hglo
        have hz8 := hg8.size
        obtain ⟨w9, HW9⟩ : ∃ wb, Hid (wb = w8.alloc (.cells #[.int .i64 (a : Int), .slice none 0 0] 72)) := ⟨_, Lib.hid rfl⟩
        have hb9 : Below w8.heap.size w8 w9 := by rw [HW9.out]; exact below_box _ _
        have BQ9 : Blk w9 w8.heap.size 72 #[.int .i64 (a : Int), .slice none 0 0] := by rw [HW9.out]; exact Blk.new _ _ _
        obtain ⟨gq, hgq⟩ : ∃ x, x = w8.heap.size := ⟨_, rfl⟩
        have HGQ := Lib.hid hgq
        rw [← hgq] at BQ9
        have hgq1 : hi ≤ gq := by omega
        have hgqg : gq ≠ g := by omega
        have hS9 := hS8.next hb9
        have hgq9 := BQ9.lt
        obtain ⟨bb, HBB⟩ : ∃ b, Hid ((decide (n = 4) && decide (a = 3)) = b) := ⟨_, Lib.hid rfl⟩
        clear hgq HAM hS7 hS8 hc8 hg8 hzv hb9 hb7
        have cQ0 := BQ9.cell 0
        simp at cQ0
        go_upto_region 10 with fail
        rw [← HW9.out, ← HGQ.out]
        go_cut [38] from 32 to 38 (fun u38 wx => u38 = .bool bb ∧ wx = w9)
        case first =>
          by_cases h4 : n = 4
          · have e4 : ((n : Int) == 4) = true := by simp; omega
            by_cases h3 : a = 3
            · have e3 : ((a : Int) == 3) = true := by simp; omega
              have hbb : Hid (true = bb) := by show _ = _; rw [← HBB.out]; simp [h4, h3]
              clear h4 h3
              go_wp2_with fail
              go_meet
              exact ⟨by rw [hbb.out], rfl⟩
            · have e3 : ((a : Int) == 3) = false := by simp; omega
              have hbb : Hid (false = bb) := by show _ = _; rw [← HBB.out]; simp [h3]
              clear h4 h3
              go_wp2_with fail
              go_meet
              exact ⟨by rw [hbb.out], rfl⟩
          · have e4 : ((n : Int) == 4) = false := by simp; omega
            have hbb : Hid (false = bb) := by show _ = _; rw [← HBB.out]; simp [h4]
            clear h4
            go_wp2_with fail
            go_meet
            exact ⟨by rw [hbb.out], rfl⟩
        case rest =>
          obtain ⟨rfl, HC9⟩ := hcut
          rw [HC9]
          clear HC9
          go_upto_if 38 with fail
          go_cut [] from 39 to 39 (fun wx => ∃ a' : Nat, a' ≤ 3 ∧ Blk wx gq 72 #[.int .i64 (a' : Int), .slice none 0 0] ∧ AlS B g lo hi gA w.heap.size w wx (n : Int) xs (tq + 2) ∧ gq < wx.heap.size)
          case first =>
            rcases bb with _ | _
            · go_wp2_with fail
              go_meet
              exact ⟨a, ha3, BQ9, hS9, hgq9⟩
            · have fQ0 := BQ9.frozen 0
              go_wp2_with fail
              go_meet
              exact ⟨2, by omega, by simpa using BQ9.set_ 0 (.int .i64 2), hS9.far (row := some gq) ⟨rfl, rfl, rfl, by simp, fun b hb hne => Below.heap_setCell _ _ _ b (fun e => hne (by rw [e]))⟩ (fun r e => by injection e with e; omega) (by omega) (by omega) (by omega) (by omega) (by omega), by simpa using hgq9⟩
          case rest =>
            clear BQ9 hS9 hgq9 cQ0
            obtain ⟨a', ha', BQ, hS, hgqw⟩ := hcut
            obtain ⟨wx, HWC⟩ : ∃ wq : World, wq = wc := ⟨_, rfl⟩
            subst HWC
            obtain ⟨r, HR⟩ : ∃ r, Hid (n ^ a' = r) := ⟨_, Lib.hid rfl⟩
            have hr64 : r ≤ 64 := by
              rw [← HR.out]
              calc n ^ a' ≤ 4 ^ a' := Nat.pow_le_pow_left hn4 _
                _ ≤ 4 ^ 3 := Nat.pow_le_pow_right (by omega) ha'
            have hr1 : 1 ≤ r := by rw [← HR.out]; exact Nat.pow_pos (show 0 < n by omega)
            obtain ⟨lo2, hlo2⟩ : ∃ x, x = wx.heap.size := ⟨_, rfl⟩
            have hgq2 : gq < lo2 := by omega
            have hglo2 : g < lo2 := by omega
            have hhl2 : hi ≤ lo2 := by omega
            have hown : wx.ownsRow lo2 3 1 (.slice none 0 0) 0 (ints []) := ⟨rfl, .inl ⟨rfl, rfl⟩⟩
            have hl2w : lo2 ≤ wx.heap.size := by omega
            have cQ0 := BQ.cell 0
            simp at cQ0
            have HPW := Lib.hid (l2Pow_any n a' r wx HR.out (by omega) (by omega))
            clear hlo2 hgqw
            go_wp2_with fail
            refine HPW.out.mono ?_
            rintro e w' ⟨rfl, rfl⟩
            clear HPW cQ0
            go_wp2_with fail
            go_loopw [8] (fun av w2r => ∃ (p m c : Nat) (A : Option Addr) (T : List Int), Hid (p + m = r) ∧ av = .int .i64 p ∧ Blk w2r gq 72 #[.int .i64 (a' : Int), .slice A m c] ∧ w2r.ownsRow lo2 3 1 (.slice A m c) m (ints T) ∧ Hid (T.length = m ∧ ∀ u ∈ T, 0 ≤ u ∧ u ≤ 9) ∧ AlS B g lo hi gA w.heap.size w w2r (n : Int) xs (tq + 2 + 2 * m) ∧ lo2 ≤ w2r.heap.size) (fun av _ => (intOf av).toNat)
            case atStart => exact ⟨r, 0, 0, none, [], Lib.hid (by omega), rfl, BQ, hown, Lib.hid ⟨rfl, fun u hu => by cases hu⟩, hS, hl2w⟩
            case round =>
              clear BQ hown hS hl2w
              obtain ⟨p, m, c, A, T, HPM, rfl, BQ, hown, HT, hS, hzl⟩ := hrel
              have hm64 : m ≤ 64 := by have := HPM.out; omega
              have hp64 : p ≤ 64 := by have := HPM.out; omega
              by_cases hp : 0 < p
              · have hp0 : (0 : Int) < (p : Int) := by omega
                have cQ0 := BQ.cell 0
                have cQ1 := BQ.cell 1
                simp at cQ0 cQ1
                go_upto_region 15 with fail
                refine wp_region_held_drew (S := fun w' => w'.cell? ⟨gq, 0, none⟩ = some (.int .i64 (a' : Int))) (by kernel_rfl) cQ0 (fun hHeld0 => ?_)
                obtain ⟨wt1, Hwt1⟩ : ∃ x, Hid (x = World.drew wr) := ⟨_, rfl⟩
                have hbwt1 : Below wr.heap.size wr wt1 := by rw [Hwt1.out]; exact (Below.refl _ _).drew
                rw [← Hwt1.out] at hHeld0 ⊢
                have ywt1 := hbwt1.size
                replace hS := hS.next hbwt1
                replace BQ := BQ.next hbwt1
                replace hown := own_next hown hbwt1
                replace cQ1 := keepc hbwt1 cQ1
                replace hzl := Nat.le_trans hzl hbwt1.size
                replace cQ0 := keepc hbwt1 cQ0
                refine wpAnyH_take (i := 0) (v := .pointer (some ⟨gq, 1, none⟩)) rfl (by kernel_rfl) (by kernel_rfl) (by kernel_rfl) (fun _ _ _ h => h) (Or.inl ⟨by kernel_rfl, fun _ _ => by go_simp⟩) (by assumption) ?_
                (try simp only [Act.put, List.getElem_toArray, List.getElem_cons_zero, List.getElem_cons_succ, List.setIfInBounds_toArray, List.set_cons_zero, List.set_cons_succ])
                refine wpAnyH_take (i := 2) (v := .pointer (some ⟨g, 0, none⟩)) rfl (by kernel_rfl) (by kernel_rfl) (by kernel_rfl) (fun _ _ _ h => h) (Or.inl ⟨by kernel_rfl, fun _ _ => by go_simp⟩) (by assumption) ?_
                (try simp only [Act.put, List.getElem_toArray, List.getElem_cons_zero, List.getElem_cons_succ, List.setIfInBounds_toArray, List.set_cons_zero, List.set_cons_succ])
                refine wpAnyH_take (i := 3) (v := .int .i64 (n : Int)) rfl (by kernel_rfl) (by kernel_rfl) (by kernel_rfl) (fun _ _ _ h => h) (Or.inl ⟨by kernel_rfl, fun _ _ => by go_simp⟩) (by assumption) ?_
                (try simp only [Act.put, List.getElem_toArray, List.getElem_cons_zero, List.getElem_cons_succ, List.setIfInBounds_toArray, List.set_cons_zero, List.set_cons_succ])
                refine wpAnyH_ready (rs := [1, 4]) (by kernel_rfl) (by simp) ?_
                refine (AllReadyH.cons rfl (fun K hK => ?_) (AllReadyH.cons rfl (fun K hK => ?_) AllReadyH.nil))
                · go_simp
                  refine hK.out _ _ cQ0 (fun hHeld1 => ?_)
                  clear hK K hHeld0
                  (try simp only [Act.put, List.getElem_toArray, List.getElem_cons_zero, List.getElem_cons_succ, List.setIfInBounds_toArray, List.set_cons_zero, List.set_cons_succ])
                  refine wpAnyH_ready (rs := [4]) (by kernel_rfl) (by simp) ?_
                  refine (AllReadyH.cons rfl (fun K hK => ?_) AllReadyH.nil)
                  go_simp
                  refine (pickB_any g (tq + 2 + 2 * m) (n : Int) wt1 hS.cu (by omega) (by omega)).mono ?_
                  rintro e wt2 ⟨v, hv, rfl, hcx, hgx⟩
                  replace hS := hS.cur hgx hcx hgAg hr0g hglo
                  replace BQ := BQ.grownG hgx hgqg
                  replace hown := own_grownG hown hgx hglo2
                  replace cQ0 := BQ.cell 0
                  replace cQ1 := BQ.cell 1
                  simp at cQ0 cQ1
                  replace hzl := Nat.le_trans hzl hgx.size
                  clear hcx hgx
                  go_wp2_with fail
                  refine hK.out _ _ cQ0 (fun hHeld2 => ?_)
                  clear hK K hHeld1
                  (try simp only [Act.put, List.getElem_toArray, List.getElem_cons_zero, List.getElem_cons_succ, List.setIfInBounds_toArray, List.set_cons_zero, List.set_cons_succ])
                  refine wpAnyH_ready (rs := [5]) (by kernel_rfl) (by simp) ?_
                  refine (AllReadyH.cons rfl (fun K hK => ?_) AllReadyH.nil)
                  have hownP := hown
                  have BQP := BQ
                  have hSP := hS
                  have hzP := hzl
                  go_simp
                  obtain ⟨wt3, Hwt3⟩ : ∃ x, Hid (x = wt2.alloc (.cells #[.int .i64 (v : Int)] 3)) := ⟨_, Lib.hid rfl⟩
                  rw [← Hwt3.out]
                  have hbwt3 : Below wt2.heap.size wt2 wt3 := by rw [Hwt3.out]; exact below_box _ _
                  have Bwt3 : Blk wt3 wt2.heap.size 3 #[.int .i64 (v : Int)] := by rw [Hwt3.out]; exact Blk.new _ _ _
                  have zwt3 : wt2.heap.size < wt3.heap.size := Bwt3.lt
                  have ywt3 := hbwt3.size
                  replace hS := hS.next hbwt3
                  replace BQ := BQ.next hbwt3
                  replace hown := own_next hown hbwt3
                  replace cQ1 := keepc hbwt3 cQ1
                  replace hzl := Nat.le_trans hzl hbwt3.size
                  replace cQ0 := keepc hbwt3 cQ0
                  refine hK.out _ _ cQ0 (fun hHeld3 => ?_)
                  clear hK K hHeld2
                  (try simp only [Act.put, List.getElem_toArray, List.getElem_cons_zero, List.getElem_cons_succ, List.setIfInBounds_toArray, List.set_cons_zero, List.set_cons_succ])
                  refine wpAnyH_ready (rs := [6]) (by kernel_rfl) (by simp) ?_
                  refine (AllReadyH.cons rfl (fun K hK => ?_) AllReadyH.nil)
                  rw [Hwt3.out]
                  refine step_app1 wt2 rfl (.tmp 49) (.tmp 53) 38 3 rfl (.int .i64 0) 8 Try.underlying38 info_int rfl (by decide) lo2 m c A (ints T) (by rfl) hownP _ rfl (by rfl) (by omega) hzP ?_
                  intro A2 c2 wt4 hown2 hg2 hb2
                  rw [ints_snocG] at hown2
                  have hS2 := hSP.far hg2 (fun r e => by have := (hownP.lt r e).1; omega) (by omega) (by omega) (by omega) (by omega) (by omega)
                  have B2 := BQP.below hb2 hgq2
                  have hz2 : lo2 ≤ wt4.heap.size := Nat.le_trans hzP hb2.size
                  replace cQ0 := B2.cell 0
                  simp at cQ0
                  refine hK.out _ _ cQ0 (fun hHeld4 => ?_)
                  clear hK K hHeld3
                  (try simp only [Act.put, List.getElem_toArray, List.getElem_cons_zero, List.getElem_cons_succ, List.setIfInBounds_toArray, List.set_cons_zero, List.set_cons_succ])
                  refine wpAnyH_take (i := 7) (v := .pointer (some ⟨gq, 1, none⟩)) rfl (by kernel_rfl) (by kernel_rfl) (by kernel_rfl) (fun _ _ _ h => h) (Or.inl ⟨by kernel_rfl, fun _ _ => by go_simp⟩) (by assumption) ?_
                  (try simp only [Act.put, List.getElem_toArray, List.getElem_cons_zero, List.getElem_cons_succ, List.setIfInBounds_toArray, List.set_cons_zero, List.set_cons_succ])
                  refine wpAnyH_ready (rs := [8]) (by kernel_rfl) (by simp) ?_
                  refine (AllReadyH.cons rfl (fun K hK => ?_) AllReadyH.nil)
                  have f21 := B2.frozen 1
                  have c21 := B2.cell 1
                  simp at c21
                  go_simp
                  obtain ⟨wt5, Hwt5⟩ : ∃ x, Hid (x = wt4.setCell ⟨gq, 1, none⟩ (.slice A2 (m + 1) c2)) := ⟨_, Lib.hid rfl⟩
                  rw [← Hwt5.out]
                  have B3 : Blk wt5 gq 72 #[.int .i64 (a' : Int), .slice A2 (m + 1) c2] := by rw [Hwt5.out]; simpa using B2.set_ 1 (.slice A2 (m + 1) c2)
                  have hS3 : AlS B g lo hi gA w.heap.size w wt5 (n : Int) xs (tq + 2 + 2 * m + 2) := by rw [Hwt5.out]; exact hS2.far (row := some gq) ⟨rfl, rfl, rfl, by simp, fun b hb hne => Below.heap_setCell _ _ _ b (fun e => hne (by rw [e]))⟩ (fun r e => by injection e with e; omega) (by omega) (by omega) (by omega) (by omega) (by omega)
                  have hown3 : wt5.ownsRow lo2 3 1 (.slice A2 (m + 1) c2) (m + 1) (ints (T ++ [(v : Int)])) := by rw [Hwt5.out]; exact own_same hown2 fun b hb => Below.heap_setCell _ _ _ _ (fun e => by have := (hown2.lt b hb).1; rw [e] at this; simp at this; omega)
                  have hz3 : lo2 ≤ wt5.heap.size := by rw [Hwt5.out]; simpa using hz2
                  replace cQ0 := B3.cell 0
                  simp at cQ0
                  refine hK.out _ _ cQ0 (fun hHeld5 => ?_)
                  clear hK K hHeld4
                  (try simp only [Act.put, List.getElem_toArray, List.getElem_cons_zero, List.getElem_cons_succ, List.setIfInBounds_toArray, List.set_cons_zero, List.set_cons_succ])
                  refine wpAnyH_done (by kernel_rfl) ?_ _
                  have HT2 : Hid ((T ++ [(v : Int)]).length = m + 1 ∧ ∀ u ∈ T ++ [(v : Int)], 0 ≤ u ∧ u ≤ 9) := by
                    refine ⟨by rw [List.length_append, HT.out.1]; rfl, fun u hu => ?_⟩
                    rcases List.mem_append.1 hu with hu | hu
                    · exact HT.out.2 u hu
                    · rw [List.mem_singleton.1 hu]; omega
                  go_wp2_with fail
                  go_roundw
                  case rel => exact ⟨p - 1, m + 1, c2, A2, T ++ [(v : Int)], (by have := HPM.out; show p - 1 + (m + 1) = r; omega), by go_num, B3, hown3, HT2, hS3.mono (by omega), hz3⟩
                  case measure => simp [intOf]; omega
                · go_simp
                  refine (pickB_any g (tq + 2 + 2 * m) (n : Int) wt1 hS.cu (by omega) (by omega)).mono ?_
                  rintro e wt6 ⟨v, hv, rfl, hcx, hgx⟩
                  replace hS := hS.cur hgx hcx hgAg hr0g hglo
                  replace BQ := BQ.grownG hgx hgqg
                  replace hown := own_grownG hown hgx hglo2
                  replace cQ0 := BQ.cell 0
                  replace cQ1 := BQ.cell 1
                  simp at cQ0 cQ1
                  replace hzl := Nat.le_trans hzl hgx.size
                  clear hcx hgx
                  go_wp2_with fail
                  refine hK.out _ _ cQ0 (fun hHeld1 => ?_)
                  clear hK K hHeld0
                  (try simp only [Act.put, List.getElem_toArray, List.getElem_cons_zero, List.getElem_cons_succ, List.setIfInBounds_toArray, List.set_cons_zero, List.set_cons_succ])
                  refine wpAnyH_ready (rs := [1, 5]) (by kernel_rfl) (by simp) ?_
                  refine (AllReadyH.cons rfl (fun K hK => ?_) (AllReadyH.cons rfl (fun K hK => ?_) AllReadyH.nil))
                  · go_simp
                    refine hK.out _ _ cQ0 (fun hHeld2 => ?_)
                    clear hK K hHeld1
                    (try simp only [Act.put, List.getElem_toArray, List.getElem_cons_zero, List.getElem_cons_succ, List.setIfInBounds_toArray, List.set_cons_zero, List.set_cons_succ])
                    refine wpAnyH_ready (rs := [5]) (by kernel_rfl) (by simp) ?_
                    refine (AllReadyH.cons rfl (fun K hK => ?_) AllReadyH.nil)
                    have hownP := hown
                    have BQP := BQ
                    have hSP := hS
                    have hzP := hzl
                    go_simp
                    obtain ⟨wt7, Hwt7⟩ : ∃ x, Hid (x = wt6.alloc (.cells #[.int .i64 (v : Int)] 3)) := ⟨_, Lib.hid rfl⟩
                    rw [← Hwt7.out]
                    have hbwt7 : Below wt6.heap.size wt6 wt7 := by rw [Hwt7.out]; exact below_box _ _
                    have Bwt7 : Blk wt7 wt6.heap.size 3 #[.int .i64 (v : Int)] := by rw [Hwt7.out]; exact Blk.new _ _ _
                    have zwt7 : wt6.heap.size < wt7.heap.size := Bwt7.lt
                    have ywt7 := hbwt7.size
                    replace hS := hS.next hbwt7
                    replace BQ := BQ.next hbwt7
                    replace hown := own_next hown hbwt7
                    replace cQ1 := keepc hbwt7 cQ1
                    replace hzl := Nat.le_trans hzl hbwt7.size
                    replace cQ0 := keepc hbwt7 cQ0
                    refine hK.out _ _ cQ0 (fun hHeld3 => ?_)
                    clear hK K hHeld2
                    (try simp only [Act.put, List.getElem_toArray, List.getElem_cons_zero, List.getElem_cons_succ, List.setIfInBounds_toArray, List.set_cons_zero, List.set_cons_succ])
                    refine wpAnyH_ready (rs := [6]) (by kernel_rfl) (by simp) ?_
                    refine (AllReadyH.cons rfl (fun K hK => ?_) AllReadyH.nil)
                    rw [Hwt7.out]
                    refine step_app1 wt6 rfl (.tmp 49) (.tmp 53) 38 3 rfl (.int .i64 0) 8 Try.underlying38 info_int rfl (by decide) lo2 m c A (ints T) (by rfl) hownP _ rfl (by rfl) (by omega) hzP ?_
                    intro A2 c2 wt8 hown2 hg2 hb2
                    rw [ints_snocG] at hown2
                    have hS2 := hSP.far hg2 (fun r e => by have := (hownP.lt r e).1; omega) (by omega) (by omega) (by omega) (by omega) (by omega)
                    have B2 := BQP.below hb2 hgq2
                    have hz2 : lo2 ≤ wt8.heap.size := Nat.le_trans hzP hb2.size
                    replace cQ0 := B2.cell 0
                    simp at cQ0
                    refine hK.out _ _ cQ0 (fun hHeld4 => ?_)
                    clear hK K hHeld3
                    (try simp only [Act.put, List.getElem_toArray, List.getElem_cons_zero, List.getElem_cons_succ, List.setIfInBounds_toArray, List.set_cons_zero, List.set_cons_succ])
                    refine wpAnyH_take (i := 7) (v := .pointer (some ⟨gq, 1, none⟩)) rfl (by kernel_rfl) (by kernel_rfl) (by kernel_rfl) (fun _ _ _ h => h) (Or.inl ⟨by kernel_rfl, fun _ _ => by go_simp⟩) (by assumption) ?_
                    (try simp only [Act.put, List.getElem_toArray, List.getElem_cons_zero, List.getElem_cons_succ, List.setIfInBounds_toArray, List.set_cons_zero, List.set_cons_succ])
                    refine wpAnyH_ready (rs := [8]) (by kernel_rfl) (by simp) ?_
                    refine (AllReadyH.cons rfl (fun K hK => ?_) AllReadyH.nil)
                    have f21 := B2.frozen 1
                    have c21 := B2.cell 1
                    simp at c21
                    go_simp
                    obtain ⟨wt9, Hwt9⟩ : ∃ x, Hid (x = wt8.setCell ⟨gq, 1, none⟩ (.slice A2 (m + 1) c2)) := ⟨_, Lib.hid rfl⟩
                    rw [← Hwt9.out]
                    have B3 : Blk wt9 gq 72 #[.int .i64 (a' : Int), .slice A2 (m + 1) c2] := by rw [Hwt9.out]; simpa using B2.set_ 1 (.slice A2 (m + 1) c2)
                    have hS3 : AlS B g lo hi gA w.heap.size w wt9 (n : Int) xs (tq + 2 + 2 * m + 2) := by rw [Hwt9.out]; exact hS2.far (row := some gq) ⟨rfl, rfl, rfl, by simp, fun b hb hne => Below.heap_setCell _ _ _ b (fun e => hne (by rw [e]))⟩ (fun r e => by injection e with e; omega) (by omega) (by omega) (by omega) (by omega) (by omega)
                    have hown3 : wt9.ownsRow lo2 3 1 (.slice A2 (m + 1) c2) (m + 1) (ints (T ++ [(v : Int)])) := by rw [Hwt9.out]; exact own_same hown2 fun b hb => Below.heap_setCell _ _ _ _ (fun e => by have := (hown2.lt b hb).1; rw [e] at this; simp at this; omega)
                    have hz3 : lo2 ≤ wt9.heap.size := by rw [Hwt9.out]; simpa using hz2
                    replace cQ0 := B3.cell 0
                    simp at cQ0
                    refine hK.out _ _ cQ0 (fun hHeld5 => ?_)
                    clear hK K hHeld4
                    (try simp only [Act.put, List.getElem_toArray, List.getElem_cons_zero, List.getElem_cons_succ, List.setIfInBounds_toArray, List.set_cons_zero, List.set_cons_succ])
                    refine wpAnyH_done (by kernel_rfl) ?_ _
                    have HT2 : Hid ((T ++ [(v : Int)]).length = m + 1 ∧ ∀ u ∈ T ++ [(v : Int)], 0 ≤ u ∧ u ≤ 9) := by
                      refine ⟨by rw [List.length_append, HT.out.1]; rfl, fun u hu => ?_⟩
                      rcases List.mem_append.1 hu with hu | hu
                      · exact HT.out.2 u hu
                      · rw [List.mem_singleton.1 hu]; omega
                    go_wp2_with fail
                    go_roundw
                    case rel => exact ⟨p - 1, m + 1, c2, A2, T ++ [(v : Int)], (by have := HPM.out; show p - 1 + (m + 1) = r; omega), by go_num, B3, hown3, HT2, hS3.mono (by omega), hz3⟩
                    case measure => simp [intOf]; omega
                  · have hownP := hown
                    have BQP := BQ
                    have hSP := hS
                    have hzP := hzl
                    go_simp
                    obtain ⟨wt10, Hwt10⟩ : ∃ x, Hid (x = wt6.alloc (.cells #[.int .i64 (v : Int)] 3)) := ⟨_, Lib.hid rfl⟩
                    rw [← Hwt10.out]
                    have hbwt10 : Below wt6.heap.size wt6 wt10 := by rw [Hwt10.out]; exact below_box _ _
                    have Bwt10 : Blk wt10 wt6.heap.size 3 #[.int .i64 (v : Int)] := by rw [Hwt10.out]; exact Blk.new _ _ _
                    have zwt10 : wt6.heap.size < wt10.heap.size := Bwt10.lt
                    have ywt10 := hbwt10.size
                    replace hS := hS.next hbwt10
                    replace BQ := BQ.next hbwt10
                    replace hown := own_next hown hbwt10
                    replace cQ1 := keepc hbwt10 cQ1
                    replace hzl := Nat.le_trans hzl hbwt10.size
                    replace cQ0 := keepc hbwt10 cQ0
                    refine hK.out _ _ cQ0 (fun hHeld2 => ?_)
                    clear hK K hHeld1
                    (try simp only [Act.put, List.getElem_toArray, List.getElem_cons_zero, List.getElem_cons_succ, List.setIfInBounds_toArray, List.set_cons_zero, List.set_cons_succ])
                    refine wpAnyH_ready (rs := [1]) (by kernel_rfl) (by simp) ?_
                    refine (AllReadyH.cons rfl (fun K hK => ?_) AllReadyH.nil)
                    go_simp
                    refine hK.out _ _ cQ0 (fun hHeld3 => ?_)
                    clear hK K hHeld2
                    (try simp only [Act.put, List.getElem_toArray, List.getElem_cons_zero, List.getElem_cons_succ, List.setIfInBounds_toArray, List.set_cons_zero, List.set_cons_succ])
                    refine wpAnyH_ready (rs := [6]) (by kernel_rfl) (by simp) ?_
                    refine (AllReadyH.cons rfl (fun K hK => ?_) AllReadyH.nil)
                    rw [Hwt10.out]
                    refine step_app1 wt6 rfl (.tmp 49) (.tmp 53) 38 3 rfl (.int .i64 0) 8 Try.underlying38 info_int rfl (by decide) lo2 m c A (ints T) (by rfl) hownP _ rfl (by rfl) (by omega) hzP ?_
                    intro A2 c2 wt11 hown2 hg2 hb2
                    rw [ints_snocG] at hown2
                    have hS2 := hSP.far hg2 (fun r e => by have := (hownP.lt r e).1; omega) (by omega) (by omega) (by omega) (by omega) (by omega)
                    have B2 := BQP.below hb2 hgq2
                    have hz2 : lo2 ≤ wt11.heap.size := Nat.le_trans hzP hb2.size
                    replace cQ0 := B2.cell 0
                    simp at cQ0
                    refine hK.out _ _ cQ0 (fun hHeld4 => ?_)
                    clear hK K hHeld3
                    (try simp only [Act.put, List.getElem_toArray, List.getElem_cons_zero, List.getElem_cons_succ, List.setIfInBounds_toArray, List.set_cons_zero, List.set_cons_succ])
                    refine wpAnyH_take (i := 7) (v := .pointer (some ⟨gq, 1, none⟩)) rfl (by kernel_rfl) (by kernel_rfl) (by kernel_rfl) (fun _ _ _ h => h) (Or.inl ⟨by kernel_rfl, fun _ _ => by go_simp⟩) (by assumption) ?_
                    (try simp only [Act.put, List.getElem_toArray, List.getElem_cons_zero, List.getElem_cons_succ, List.setIfInBounds_toArray, List.set_cons_zero, List.set_cons_succ])
                    refine wpAnyH_ready (rs := [8]) (by kernel_rfl) (by simp) ?_
                    refine (AllReadyH.cons rfl (fun K hK => ?_) AllReadyH.nil)
                    have f21 := B2.frozen 1
                    have c21 := B2.cell 1
                    simp at c21
                    go_simp
                    obtain ⟨wt12, Hwt12⟩ : ∃ x, Hid (x = wt11.setCell ⟨gq, 1, none⟩ (.slice A2 (m + 1) c2)) := ⟨_, Lib.hid rfl⟩
                    rw [← Hwt12.out]
                    have B3 : Blk wt12 gq 72 #[.int .i64 (a' : Int), .slice A2 (m + 1) c2] := by rw [Hwt12.out]; simpa using B2.set_ 1 (.slice A2 (m + 1) c2)
                    have hS3 : AlS B g lo hi gA w.heap.size w wt12 (n : Int) xs (tq + 2 + 2 * m + 2) := by rw [Hwt12.out]; exact hS2.far (row := some gq) ⟨rfl, rfl, rfl, by simp, fun b hb hne => Below.heap_setCell _ _ _ b (fun e => hne (by rw [e]))⟩ (fun r e => by injection e with e; omega) (by omega) (by omega) (by omega) (by omega) (by omega)
                    have hown3 : wt12.ownsRow lo2 3 1 (.slice A2 (m + 1) c2) (m + 1) (ints (T ++ [(v : Int)])) := by rw [Hwt12.out]; exact own_same hown2 fun b hb => Below.heap_setCell _ _ _ _ (fun e => by have := (hown2.lt b hb).1; rw [e] at this; simp at this; omega)
                    have hz3 : lo2 ≤ wt12.heap.size := by rw [Hwt12.out]; simpa using hz2
                    replace cQ0 := B3.cell 0
                    simp at cQ0
                    refine hK.out _ _ cQ0 (fun hHeld5 => ?_)
                    clear hK K hHeld4
                    (try simp only [Act.put, List.getElem_toArray, List.getElem_cons_zero, List.getElem_cons_succ, List.setIfInBounds_toArray, List.set_cons_zero, List.set_cons_succ])
                    refine wpAnyH_done (by kernel_rfl) ?_ _
                    have HT2 : Hid ((T ++ [(v : Int)]).length = m + 1 ∧ ∀ u ∈ T ++ [(v : Int)], 0 ≤ u ∧ u ≤ 9) := by
                      refine ⟨by rw [List.length_append, HT.out.1]; rfl, fun u hu => ?_⟩
                      rcases List.mem_append.1 hu with hu | hu
                      · exact HT.out.2 u hu
                      · rw [List.mem_singleton.1 hu]; omega
                    go_wp2_with fail
                    go_roundw
                    case rel => exact ⟨p - 1, m + 1, c2, A2, T ++ [(v : Int)], (by have := HPM.out; show p - 1 + (m + 1) = r; omega), by go_num, B3, hown3, HT2, hS3.mono (by omega), hz3⟩
                    case measure => simp [intOf]; omega
              · obtain rfl : p = 0 := by omega
                have hp0 : ¬ (0 : Int) < ((0 : Nat) : Int) := by omega
                obtain rfl : m = r := by have := HPM.out; omega
                obtain ⟨A1, n1, c1, css, bls, BA, PX, BR0, hcu, hgr, hI, l1, l2⟩ := hS
                obtain rfl : n1 = xs.length := by
                  rcases PX.2.1.2 with ⟨e, h0⟩ | ⟨g', cap, cur, e, -⟩
                  · injection e with e1 e2 e3; omega
                  · injection e with e1 e2 e3
                have hxl : xs.length ≤ 2 := by have := HX.out.1; omega
                have hoo := own_opF (w := wr) (a := (a' : Int)) ⟨by omega, by omega⟩ HT.out.1 hown fun u hu => by have := HT.out.2 u hu; exact ⟨by omega, by omega⟩
                have HPU : Hid (∀ (w2 : World) (v' : Value), w2.ownsRow lo 72 2 v' (xs.length + 1) (css.flatten ++ [.int .i64 (a' : Int), .slice A m c]) → wr.grownBy w2 (Value.slice A1 xs.length c1).ownBlock → PO lo w2 v' (xs ++ [((a' : Int), T)]) (css ++ [[.int .i64 (a' : Int), .slice A m c]]) (bls ++ [obl (.slice A m c)])) := fun w2 v' q1 q2 => PX.push2 hI hoo.1 (hoo.2.mono hhl2 (Nat.le_refl _)) l1 q1 q2
                have cQ0 := BQ.cell 0
                have cQ1 := BQ.cell 1
                have cA1 := BA.cell 1
                simp at cQ0 cQ1 cA1
                have hlw : lo ≤ wr.heap.size := by omega
                have hrow := PX.2.1
                have HRW : Hid (∀ r', (Value.slice A1 xs.length c1).ownBlock = some r' → lo ≤ r') := fun r' e => (PX.2.1.lt r' e).1
                obtain ⟨LL, HLL⟩ : ∃ x, Hid (xs.length = x) := ⟨_, Lib.hid rfl⟩
                have hll : LL ≤ 2 := by rw [← HLL.out]; exact hxl
                rw [HLL.out] at hrow cA1 BA HRW
                clear hoo PX hxl
                go_wp2_with (at_builtin; refine app2 wr rfl _ _ 24 72 rfl (.agg #[.int .i64 0, .slice none 0 0]) 32 Try.underlying24 info_op2 rfl (by decide) lo LL c1 A1 css.flatten rfl hrow (.int .i64 (a' : Int)) (.slice A m c) rfl rfl rfl (by omega) hlw ?_; intro A3 c3 w3 hown3 hg3 hb3; have BA3 := BA.below hb3 hgAl; have cA13 := BA3.cell 1; simp at cA13; have fA13 := BA3.frozen 1)
                have hz33 := hb3.size
                have PX2 := HPU.out w3 (.slice A3 (LL + 1) c3) (by rw [HLL.out]; exact hown3) (by rw [HLL.out]; exact hg3)
                have PX3 := PX2.far (p := ⟨gA, 1, none⟩) (by exact hgAl) (.slice A3 (LL + 1) c3)
                have BA4 : Blk (w3.setCell ⟨gA, 1, none⟩ (.slice A3 (LL + 1) c3)) gA 26 #[.int .i64 (n : Int), .slice A3 (LL + 1) c3] := by simpa using BA3.set_ 1 (.slice A3 (LL + 1) c3)
                have BR4 := (BR0.below hb3 hwlo).far (p := ⟨gA, 1, none⟩) (by exact hwgA) (.slice A3 (LL + 1) c3)
                have hcu4 := (hcu.grown hg3 (fun r' e => by have := HRW.out r' e; omega)).setFar (p := ⟨gA, 1, none⟩) (by exact hBgA) (by exact hgAg) (.slice A3 (LL + 1) c3)
                have hgr4 := growB_new (growB_own hgr hg3 (fun r' e => by have := HRW.out r' e; omega)) (p := ⟨gA, 1, none⟩) (by exact hwgA2) (.slice A3 (LL + 1) c3)
                have hS4 : AlS B g lo w3.heap.size gA w.heap.size w (w3.setCell ⟨gA, 1, none⟩ (.slice A3 (LL + 1) c3)) (n : Int) (xs ++ [((a' : Int), T)]) (tq + 2 + 2 * m) := ⟨A3, LL + 1, c3, _, _, BA4, PX3, BR4, hcu4, hgr4, PX2.2.2, by omega, by simp⟩
                have HX2 : Hid ((xs ++ [((a' : Int), T)]).length + (q - 1) = k0 ∧ OpsQ (xs ++ [((a' : Int), T)])) := by
                  refine ⟨by have := HX.out.1; rw [List.length_append, List.length_singleton]; omega, fun o ho => ?_⟩
                  rcases List.mem_append.1 ho with ho | ho
                  · exact HX.out.2 o ho
                  · rw [List.mem_singleton.1 ho]
                    have := HT.out.1
                    exact ⟨by show (0 : Int) ≤ (a' : Int); omega, by show (a' : Int) ≤ 3; omega, by show 1 ≤ T.length; omega, by show T.length ≤ 64; omega⟩
                have HS4 := Lib.hid hS4
                clear hS4 PX2 PX3 BA4 BR4 hcu4 hgr4 BA3 cA13 fA13 hown3 hg3 hb3 hrow cQ0 cQ1 cA1 BQ BA BR0 hcu hgr hown
                go_wp2_with fail
                go_roundw
                case rel => exact ⟨q - 1, xs ++ [((a' : Int), T)], w3.heap.size, by omega, by go_num, HS4.out.mono (by have := HTQ.out; omega), HX2⟩
                case measure => simp [intOf]; omega
      · obtain rfl : q = 0 := by omega
        have hq0 : ¬ (0 : Int) < ((0 : Nat) : Int) := by omega
        obtain ⟨tq, HTQ⟩ : ∃ x, Hid (t6 + 150 * (k0 - 0) = x) := ⟨_, Lib.hid rfl⟩
        rw [HTQ.out] at hS
        have htq : tq ≤ 999901000 := by have := HTQ.out; omega
        have HTT : Hid (tq + 600 ≤ t + 2000) := by have := HTQ.out; have := HT6.out; show tq + 600 ≤ t + 2000; omega
        have HPK := Lib.hid (pickB_any g tq 16 wr hS.cu (by omega) (by omega))
        go_wp2_with fail
        refine HPK.out.mono ?_
        rintro e w2 ⟨v, hv, rfl, hc2, hg2⟩
        have hS2 := hS.cur hg2 hc2 hgAg hr0g hglo
        have hz2 := hg2.size
        clear HPK hS hc2 hg2 hv
        go_upto_block 4 with fail
        go_cut [] from 64 to 130 (fun wx => ∃ (z : Int) (xs : List OpM) (hi : Nat), AlS B g lo hi gA w.heap.size w wx z xs (t + 2000) ∧ AlgQ5 (z, xs))
        case first =>
          rcases (by omega : v = 0 ∨ v = 1 ∨ v = 2 ∨ v = 3 ∨ v = 4 ∨ 4 < v) with hv | hv | hv | hv | hv | hv
          · -- another size
            subst hv
            obtain ⟨w3, HW3⟩ : ∃ wb, Hid (wb = w2.alloc (.cells #[.int .i64 0, .int .i64 9, .int .i64 ((n : Int) + 1)] 3)) := ⟨_, Lib.hid rfl⟩
            have hb3 : Below w2.heap.size w2 w3 := by rw [HW3.out]; exact below_box _ _
            have hgw2 : g < w2.heap.size := by have := hS2.cu.lt; exact this
            have hnum : NumsP (fun x => 0 ≤ x ∧ (x ≤ 5 ∨ x = 9)) w3 g w2.heap.size 3 := by rw [HW3.out]; exact numsL _ [0, 9, (n : Int) + 1] w2 g hgw2 (by simp) (by simp) (by intro x hx; simp at hx; omega) rfl
            have hS3 := hS2.next hb3
            have HAM := Lib.hid (amongB_any g (tq + 2) w2.heap.size 3 3 w3 hS3.cu (by omega) _ hnum)
            have hwn : IntKind.i64.wrap ((n : Int) + 1) = (n : Int) + 1 := by rw [IntKind.wrap_i64]; omega
            clear hnum hS2
            go_wp2_with fail
            rw [← HW3.out]
            refine HAM.out.mono ?_
            rintro e w4 ⟨z, hzv, rfl, hc4, hg4⟩
            have hS4 := hS3.cur hg4 hc4 hgAg hr0g hglo
            have HS5 := Lib.hid (hS4.setZ (z' := z) hgAl hwgA hBgA hgAg hwgA2)
            have HQ : Hid (AlgQ5 (z, xs)) := opsQ_alg5 HX.out.2 (by have := HX.out.1; omega) hzv.1 hzv.2
            obtain ⟨A1, n1, c1, css, bls, BA, -⟩ := hS4
            have cA0 := BA.cell 0
            simp at cA0
            have fA0 := BA.frozen 0
            clear HAM hS3 hc4 hg4 BA hwn
            go_wp2_with fail
            go_meet
            exact ⟨z, xs, hi, HS5.out.mono (by have := HTT.out; omega), HQ.out⟩
          · -- too long a table
            subst hv
            obtain ⟨⟨a, T⟩, rest, rfl⟩ : ∃ x l, xs = x :: l := by
              cases xs with
              | nil => have := HX.out.1; simp at this; omega
              | cons x l => exact ⟨x, l, rfl⟩
            have hOQ := HX.out.2
            have hTl := (hOQ _ (List.mem_cons_self ..)).2.2
            have hrl : rest.length ≤ 1 := by have := HX.out.1; rw [List.length_cons] at this; omega
            have HRS : Hid (∀ o ∈ rest, o.2.length ≤ 1000) := fun o ho => by have := (hOQ o (List.mem_cons_of_mem _ ho)).2.2.2; omega
            obtain ⟨go, c, TA, cT, css, BA, BR0, hcu, hgr, hgo, hgw, hops, htab, hia, hiT, hne, hput⟩ := hS2.el0
            have HPUT := Lib.hid hput
            have HIT := Lib.hid hiT
            obtain ⟨LL, HLL⟩ : ∃ x, Hid (rest.length + 1 = x) := ⟨_, Lib.hid rfl⟩
            obtain ⟨tl, HTL⟩ : ∃ x, Hid (T.length = x) := ⟨_, Lib.hid rfl⟩
            have htl : 1 ≤ tl ∧ tl ≤ 64 := by rw [← HTL.out]; exact hTl
            have hLL : 1 ≤ LL ∧ LL ≤ 2 := by have := HLL.out; omega
            rw [HLL.out] at BA hops HPUT
            rw [HTL.out] at htab hops hne HPUT
            have hLL0 : ¬ LL = 0 := by omega
            have hLL1 : (0 : Int) < (LL : Int) := by omega
            have hgf : w2.grownBy w2 (some g) := grown_reflB _ _
            have hgog : go ≠ g := by omega
            have hBgo : B ≤ go := by omega
            have hgAgo : gA ≠ go := by omega
            have hr0go : w.heap.size ≠ go := by omega
            have hwgo : w.heap.size ≤ go := by omega
            have cA1 := BA.cell 1
            simp at cA1
            have cO0 := hops.cellAt 0 (by omega)
            have cO1 := hops.cellAt 1 (by omega)
            simp at cO0 cO1
            clear hput hiT hOQ hTl hS2 HX
            obtain ⟨tb, rfl, htb, htc⟩ := own_form htab (by omega)
            have htbgo : tb ≠ go := fun e => hne (by simp [Value.ownBlock, e])
            have hgAtb : gA ≠ tb := by omega
            have hr0tb : w.heap.size ≠ tb := by omega
            have hBtb : B ≤ tb := by omega
            have htbg : tb ≠ g := by omega
            have hwtb : w.heap.size ≤ tb := by omega
            go_upto_region 21 with fail
            refine wp_region_held_drew (S := fun w' => w'.cell? ⟨gA, 1, none⟩ = some (.slice (some ⟨go, 0, none⟩) LL c)) (by kernel_rfl) cA1 (fun hHeld0 => ?_)
            obtain ⟨wt1, Hwt1⟩ : ∃ x, Hid (x = World.drew w2) := ⟨_, rfl⟩
            have hbwt1 : Below w2.heap.size w2 wt1 := by rw [Hwt1.out]; exact (Below.refl _ _).drew
            rw [← Hwt1.out] at hHeld0 ⊢
            have ywt1 := hbwt1.size
            replace BA := BA.next hbwt1
            replace BR0 := BR0.next hbwt1
            replace hops := own_next hops hbwt1
            replace htab := own_next htab hbwt1
            replace hcu := hcu.next_ hbwt1
            replace hgr := growB_trans hgr (toGr hbwt1)
            replace hgf := growB_trans hgf (toGr hbwt1)
            replace cO0 := keepc hbwt1 cO0
            replace cO1 := keepc hbwt1 cO1
            replace cA1 := keepc hbwt1 cA1
            refine wpAnyH_take (i := 0) (v := .pointer (some ⟨gA, 1, none⟩)) rfl (by kernel_rfl) (by kernel_rfl) (by kernel_rfl) (fun _ _ _ h => h) (Or.inl ⟨by kernel_rfl, fun _ _ => by go_simp⟩) (by assumption) ?_
            (try simp only [Act.put, List.getElem_toArray, List.getElem_cons_zero, List.getElem_cons_succ, List.setIfInBounds_toArray, List.set_cons_zero, List.set_cons_succ])
            refine wpAnyH_take (i := 1) (v := .slice (some ⟨go, 0, none⟩) LL c) rfl (by kernel_rfl) (by kernel_rfl) (by kernel_rfl) (fun _ _ _ h => h) (Or.inl ⟨by kernel_rfl, fun wv hSw => by (have hS0 := hSw); go_simp⟩) (by assumption) ?_
            (try simp only [Act.put, List.getElem_toArray, List.getElem_cons_zero, List.getElem_cons_succ, List.setIfInBounds_toArray, List.set_cons_zero, List.set_cons_succ])
            refine wpAnyH_take (i := 2) (v := .pointer (some ⟨gA, 1, none⟩)) rfl (by kernel_rfl) (by kernel_rfl) (by kernel_rfl) (fun _ _ _ h => h) (Or.inl ⟨by kernel_rfl, fun _ _ => by go_simp⟩) (by assumption) ?_
            (try simp only [Act.put, List.getElem_toArray, List.getElem_cons_zero, List.getElem_cons_succ, List.setIfInBounds_toArray, List.set_cons_zero, List.set_cons_succ])
            refine wpAnyH_take (i := 3) (v := .slice (some ⟨go, 0, none⟩) LL c) rfl (by kernel_rfl) (by kernel_rfl) (by kernel_rfl) (fun _ _ _ h => h) (Or.inl ⟨by kernel_rfl, fun wv hSw => by (have hS0 := hSw); go_simp⟩) (by assumption) ?_
            (try simp only [Act.put, List.getElem_toArray, List.getElem_cons_zero, List.getElem_cons_succ, List.setIfInBounds_toArray, List.set_cons_zero, List.set_cons_succ])
            refine wpAnyH_take (i := 4) (v := .pointer (some ⟨go, 0, none⟩)) rfl (by kernel_rfl) (by kernel_rfl) (by kernel_rfl) (fun _ _ _ h => h) (Or.inl ⟨by kernel_rfl, fun _ _ => by go_simp⟩) (by assumption) ?_
            (try simp only [Act.put, List.getElem_toArray, List.getElem_cons_zero, List.getElem_cons_succ, List.setIfInBounds_toArray, List.set_cons_zero, List.set_cons_succ])
            refine wpAnyH_take (i := 5) (v := .pointer (some ⟨go, 1, none⟩)) rfl (by kernel_rfl) (by kernel_rfl) (by kernel_rfl) (fun _ _ _ h => h) (Or.inl ⟨by kernel_rfl, fun _ _ => by go_simp⟩) (by assumption) ?_
            (try simp only [Act.put, List.getElem_toArray, List.getElem_cons_zero, List.getElem_cons_succ, List.setIfInBounds_toArray, List.set_cons_zero, List.set_cons_succ])
            refine wpAnyH_ready (rs := [6, 7]) (by kernel_rfl) (by simp) ?_
            refine (AllReadyH.cons rfl (fun K hK => ?_) (AllReadyH.cons rfl (fun K hK => ?_) AllReadyH.nil))
            · go_simp
              refine hK.out _ _ cA1 (fun hHeld1 => ?_)
              clear hK K hHeld0
              (try simp only [Act.put, List.getElem_toArray, List.getElem_cons_zero, List.getElem_cons_succ, List.setIfInBounds_toArray, List.set_cons_zero, List.set_cons_succ])
              refine wpAnyH_ready (rs := [7]) (by kernel_rfl) (by simp) ?_
              refine (AllReadyH.cons rfl (fun K hK => ?_) AllReadyH.nil)
              have htabP := htab
              have hopsP := hops
              have BAP := BA
              have BRP := BR0
              have hcuP := hcu
              have hgrP := hgr
              have hgfP := hgf
              have hloP : lo ≤ wt1.heap.size := by have := hgf.size; omega
              go_simp
              obtain ⟨wt2, Hwt2⟩ : ∃ x, Hid (x = wt1.alloc (.cells #[.int .i64 0] 3)) := ⟨_, Lib.hid rfl⟩
              rw [← Hwt2.out]
              have hbwt2 : Below wt1.heap.size wt1 wt2 := by rw [Hwt2.out]; exact below_box _ _
              have Bwt2 : Blk wt2 wt1.heap.size 3 #[.int .i64 0] := by rw [Hwt2.out]; exact Blk.new _ _ _
              have zwt2 : wt1.heap.size < wt2.heap.size := Bwt2.lt
              have ywt2 := hbwt2.size
              replace BA := BA.next hbwt2
              replace BR0 := BR0.next hbwt2
              replace hops := own_next hops hbwt2
              replace htab := own_next htab hbwt2
              replace hcu := hcu.next_ hbwt2
              replace hgr := growB_trans hgr (toGr hbwt2)
              replace hgf := growB_trans hgf (toGr hbwt2)
              replace cO0 := keepc hbwt2 cO0
              replace cO1 := keepc hbwt2 cO1
              replace cA1 := keepc hbwt2 cA1
              refine hK.out _ _ cA1 (fun hHeld2 => ?_)
              clear hK K hHeld1
              (try simp only [Act.put, List.getElem_toArray, List.getElem_cons_zero, List.getElem_cons_succ, List.setIfInBounds_toArray, List.set_cons_zero, List.set_cons_succ])
              refine wpAnyH_ready (rs := [8]) (by kernel_rfl) (by simp) ?_
              refine (AllReadyH.cons rfl (fun K hK => ?_) AllReadyH.nil)
              rw [Hwt2.out]
              refine step_app1at wt1 rfl (.tmp 80) (.tmp 81) 38 3 rfl (.int .i64 0) 8 Try.underlying38 info_int rfl (by decide) lo tl cT (some ⟨tb, 0, none⟩) (ints T) (by rfl) htabP _ rfl (by rfl) (by omega) hloP ?_
              intro A2 c2 wt3 hown2 hg2 hb2 hat
              rw [ints_snocG] at hown2
              have hne2 : ∀ r', (Value.slice (some ⟨tb, 0, none⟩) tl cT).ownBlock = some r' → r' = tb := fun r' e => by simp [Value.ownBlock] at e; exact e.symm
              have BA2 := BAP.below hb2 hgAl
              have BR2 := BRP.below hb2 hwlo
              have hcu2 := hcuP.grown hg2 (fun r' e => by have := hne2 r' e; omega)
              have hgr2 := growB_own hgrP hg2 (fun r' e => by have := hne2 r' e; omega)
              have hops2 := own_same hopsP (fun b hb => hg2.block b (hopsP.lt b hb).2 (fun e => by simp [Value.ownBlock] at hb; have := hne2 b e.symm; omega)) (w' := wt3)
              have hfar2 : ∀ b, b < w2.heap.size → b ≠ g → b ≠ tb → wt3.heap[b]? = w2.heap[b]? := fun b q1 q2 q3 => (hg2.block b (Nat.lt_of_lt_of_le q1 hgfP.size) (fun e => q3 (hne2 b e.symm))).trans (hgfP.block b q1 (fun e => q2 (by injection e)))
              have hz2 := hg2.size
              have hgfz := hgfP.size
              replace cA1 := BA2.cell 1
              simp at cA1
              refine hK.out _ _ cA1 (fun hHeld3 => ?_)
              clear hK K hHeld2
              (try simp only [Act.put, List.getElem_toArray, List.getElem_cons_zero, List.getElem_cons_succ, List.setIfInBounds_toArray, List.set_cons_zero, List.set_cons_succ])
              refine wpAnyH_take (i := 9) (v := .pointer (some ⟨go, 0, none⟩)) rfl (by kernel_rfl) (by kernel_rfl) (by kernel_rfl) (fun _ _ _ h => h) (Or.inl ⟨by kernel_rfl, fun _ _ => by go_simp⟩) (by assumption) ?_
              (try simp only [Act.put, List.getElem_toArray, List.getElem_cons_zero, List.getElem_cons_succ, List.setIfInBounds_toArray, List.set_cons_zero, List.set_cons_succ])
              refine wpAnyH_take (i := 10) (v := .pointer (some ⟨go, 1, none⟩)) rfl (by kernel_rfl) (by kernel_rfl) (by kernel_rfl) (fun _ _ _ h => h) (Or.inl ⟨by kernel_rfl, fun _ _ => by go_simp⟩) (by assumption) ?_
              (try simp only [Act.put, List.getElem_toArray, List.getElem_cons_zero, List.getElem_cons_succ, List.setIfInBounds_toArray, List.set_cons_zero, List.set_cons_succ])
              refine wpAnyH_ready (rs := [11]) (by kernel_rfl) (by simp) ?_
              refine (AllReadyH.cons rfl (fun K hK => ?_) AllReadyH.nil)
              have fO1 := hops2.frozenAt 1
              replace cO1 := hops2.cellAt 1 (by omega)
              simp at cO1
              go_simp
              obtain ⟨wt4, Hwt4⟩ : ∃ q, Hid (q = wt3.setCell ⟨go, 1, none⟩ (.slice A2 (tl + 1) c2)) := ⟨_, Lib.hid rfl⟩
              rw [← Hwt4.out]
              have BA4 : Blk wt4 gA 26 #[.int .i64 (n : Int), .slice (some ⟨go, 0, none⟩) LL c] := by rw [Hwt4.out]; exact BA2.far (by exact hgAgo) _
              have BR4 : Blk wt4 w.heap.size 26 #[.int .i64 0, .slice none 0 0] := by rw [Hwt4.out]; exact BR2.far (by exact hr0go) _
              have hcu4 : CurB B wt4 g (tq + 2) := by rw [Hwt4.out]; exact hcu2.setFar (by exact hBgo) (by exact hgog) _
              have hgr4 : w.grownBy wt4 (some g) := by rw [Hwt4.out]; exact growB_new hgr2 (by exact hwgo) _
              have hsz4 : wt4.heap.size = wt3.heap.size := by rw [Hwt4.out]; simp
              have hops4 : wt4.ownsRow lo 72 2 (.slice (some ⟨go, 0, none⟩) LL c) LL ([.int .i64 a, .slice A2 (tl + 1) c2] ++ css.flatten) := by rw [Hwt4.out]; simpa using (hops2.stored 1 (.slice A2 (tl + 1) c2)).1
              have hn2 : (Value.slice A2 (tl + 1) c2).ownBlock ≠ some go := by
                rcases hat with e | e
                · rw [e]; exact hne
                · rw [e]; intro e2; injection e2; omega
              have htab4 : wt4.ownsRow lo 3 1 (.slice A2 (tl + 1) c2) (tl + 1) (ints (T ++ [0])) := by rw [Hwt4.out]; exact own_same hown2 fun b hb => Below.heap_setCell _ _ _ _ (fun e => hn2 (by rw [hb, e]))
              have HSL : (T ++ [(0 : Int)]).length = tl + 1 := by rw [List.length_append, HTL.out]; rfl
              have HPX := HPUT.out wt4 a (T ++ [0]) A2 c2 hia (fun u hu => by rcases List.mem_append.1 hu with h1 | h1; exact HIT.out u h1; rw [List.mem_singleton.1 h1]; exact ⟨by omega, by omega⟩) (by rw [HSL]; exact htab4) (by omega) (by rw [HSL]; exact hops4) (fun b q1 q2 q3 q4 q5 q6 => by rw [Hwt4.out]; exact (Below.heap_setCell _ _ _ b q2).trans (hfar2 b q1 q6 (fun e => q3 (by simp [Value.ownBlock, e])))) hgAl hwlo hglo (by rw [HSL]; rcases hat with e | e; exact .inl e; exact .inr fun b hb => by rw [e] at hb; injection hb; omega)
              obtain ⟨css', bls', PX⟩ := HPX
              replace cA1 := BA4.cell 1
              simp at cA1
              refine hK.out _ _ cA1 (fun hHeld4 => ?_)
              clear hK K hHeld3
              (try simp only [Act.put, List.getElem_toArray, List.getElem_cons_zero, List.getElem_cons_succ, List.setIfInBounds_toArray, List.set_cons_zero, List.set_cons_succ])
              refine wpAnyH_done (by kernel_rfl) ?_ _
              have hl4 : lo ≤ wt4.heap.size := by omega
              go_wp2_with fail
              go_meet
              exact ⟨(n : Int), (a, T ++ [0]) :: rest, wt4.heap.size, ⟨_, _, _, _, _, BA4, PX, BR4, hcu4.mono (by have := HTT.out; omega), hgr4, PX.2.2, hl4, Nat.le_refl _⟩, alg_q5 (fun o ho => by rcases List.mem_cons.1 ho with rfl | ho; exact (by show (T ++ [(0 : Int)]).length ≤ 1000; rw [HSL]; omega); exact HRS.out o ho) (by rw [List.length_cons]; omega) (by omega) (by omega)⟩
            · have htabP := htab
              have hopsP := hops
              have BAP := BA
              have BRP := BR0
              have hcuP := hcu
              have hgrP := hgr
              have hgfP := hgf
              have hloP : lo ≤ wt1.heap.size := by have := hgf.size; omega
              go_simp
              obtain ⟨wt5, Hwt5⟩ : ∃ x, Hid (x = wt1.alloc (.cells #[.int .i64 0] 3)) := ⟨_, Lib.hid rfl⟩
              rw [← Hwt5.out]
              have hbwt5 : Below wt1.heap.size wt1 wt5 := by rw [Hwt5.out]; exact below_box _ _
              have Bwt5 : Blk wt5 wt1.heap.size 3 #[.int .i64 0] := by rw [Hwt5.out]; exact Blk.new _ _ _
              have zwt5 : wt1.heap.size < wt5.heap.size := Bwt5.lt
              have ywt5 := hbwt5.size
              replace BA := BA.next hbwt5
              replace BR0 := BR0.next hbwt5
              replace hops := own_next hops hbwt5
              replace htab := own_next htab hbwt5
              replace hcu := hcu.next_ hbwt5
              replace hgr := growB_trans hgr (toGr hbwt5)
              replace hgf := growB_trans hgf (toGr hbwt5)
              replace cO0 := keepc hbwt5 cO0
              replace cO1 := keepc hbwt5 cO1
              replace cA1 := keepc hbwt5 cA1
              refine hK.out _ _ cA1 (fun hHeld1 => ?_)
              clear hK K hHeld0
              (try simp only [Act.put, List.getElem_toArray, List.getElem_cons_zero, List.getElem_cons_succ, List.setIfInBounds_toArray, List.set_cons_zero, List.set_cons_succ])
              refine wpAnyH_ready (rs := [6]) (by kernel_rfl) (by simp) ?_
              refine (AllReadyH.cons rfl (fun K hK => ?_) AllReadyH.nil)
              go_simp
              refine hK.out _ _ cA1 (fun hHeld2 => ?_)
              clear hK K hHeld1
              (try simp only [Act.put, List.getElem_toArray, List.getElem_cons_zero, List.getElem_cons_succ, List.setIfInBounds_toArray, List.set_cons_zero, List.set_cons_succ])
              refine wpAnyH_ready (rs := [8]) (by kernel_rfl) (by simp) ?_
              refine (AllReadyH.cons rfl (fun K hK => ?_) AllReadyH.nil)
              rw [Hwt5.out]
              refine step_app1at wt1 rfl (.tmp 80) (.tmp 81) 38 3 rfl (.int .i64 0) 8 Try.underlying38 info_int rfl (by decide) lo tl cT (some ⟨tb, 0, none⟩) (ints T) (by rfl) htabP _ rfl (by rfl) (by omega) hloP ?_
              intro A2 c2 wt6 hown2 hg2 hb2 hat
              rw [ints_snocG] at hown2
              have hne2 : ∀ r', (Value.slice (some ⟨tb, 0, none⟩) tl cT).ownBlock = some r' → r' = tb := fun r' e => by simp [Value.ownBlock] at e; exact e.symm
              have BA2 := BAP.below hb2 hgAl
              have BR2 := BRP.below hb2 hwlo
              have hcu2 := hcuP.grown hg2 (fun r' e => by have := hne2 r' e; omega)
              have hgr2 := growB_own hgrP hg2 (fun r' e => by have := hne2 r' e; omega)
              have hops2 := own_same hopsP (fun b hb => hg2.block b (hopsP.lt b hb).2 (fun e => by simp [Value.ownBlock] at hb; have := hne2 b e.symm; omega)) (w' := wt6)
              have hfar2 : ∀ b, b < w2.heap.size → b ≠ g → b ≠ tb → wt6.heap[b]? = w2.heap[b]? := fun b q1 q2 q3 => (hg2.block b (Nat.lt_of_lt_of_le q1 hgfP.size) (fun e => q3 (hne2 b e.symm))).trans (hgfP.block b q1 (fun e => q2 (by injection e)))
              have hz2 := hg2.size
              have hgfz := hgfP.size
              replace cA1 := BA2.cell 1
              simp at cA1
              refine hK.out _ _ cA1 (fun hHeld3 => ?_)
              clear hK K hHeld2
              (try simp only [Act.put, List.getElem_toArray, List.getElem_cons_zero, List.getElem_cons_succ, List.setIfInBounds_toArray, List.set_cons_zero, List.set_cons_succ])
              refine wpAnyH_take (i := 9) (v := .pointer (some ⟨go, 0, none⟩)) rfl (by kernel_rfl) (by kernel_rfl) (by kernel_rfl) (fun _ _ _ h => h) (Or.inl ⟨by kernel_rfl, fun _ _ => by go_simp⟩) (by assumption) ?_
              (try simp only [Act.put, List.getElem_toArray, List.getElem_cons_zero, List.getElem_cons_succ, List.setIfInBounds_toArray, List.set_cons_zero, List.set_cons_succ])
              refine wpAnyH_take (i := 10) (v := .pointer (some ⟨go, 1, none⟩)) rfl (by kernel_rfl) (by kernel_rfl) (by kernel_rfl) (fun _ _ _ h => h) (Or.inl ⟨by kernel_rfl, fun _ _ => by go_simp⟩) (by assumption) ?_
              (try simp only [Act.put, List.getElem_toArray, List.getElem_cons_zero, List.getElem_cons_succ, List.setIfInBounds_toArray, List.set_cons_zero, List.set_cons_succ])
              refine wpAnyH_ready (rs := [11]) (by kernel_rfl) (by simp) ?_
              refine (AllReadyH.cons rfl (fun K hK => ?_) AllReadyH.nil)
              have fO1 := hops2.frozenAt 1
              replace cO1 := hops2.cellAt 1 (by omega)
              simp at cO1
              go_simp
              obtain ⟨wt7, Hwt7⟩ : ∃ q, Hid (q = wt6.setCell ⟨go, 1, none⟩ (.slice A2 (tl + 1) c2)) := ⟨_, Lib.hid rfl⟩
              rw [← Hwt7.out]
              have BA4 : Blk wt7 gA 26 #[.int .i64 (n : Int), .slice (some ⟨go, 0, none⟩) LL c] := by rw [Hwt7.out]; exact BA2.far (by exact hgAgo) _
              have BR4 : Blk wt7 w.heap.size 26 #[.int .i64 0, .slice none 0 0] := by rw [Hwt7.out]; exact BR2.far (by exact hr0go) _
              have hcu4 : CurB B wt7 g (tq + 2) := by rw [Hwt7.out]; exact hcu2.setFar (by exact hBgo) (by exact hgog) _
              have hgr4 : w.grownBy wt7 (some g) := by rw [Hwt7.out]; exact growB_new hgr2 (by exact hwgo) _
              have hsz4 : wt7.heap.size = wt6.heap.size := by rw [Hwt7.out]; simp
              have hops4 : wt7.ownsRow lo 72 2 (.slice (some ⟨go, 0, none⟩) LL c) LL ([.int .i64 a, .slice A2 (tl + 1) c2] ++ css.flatten) := by rw [Hwt7.out]; simpa using (hops2.stored 1 (.slice A2 (tl + 1) c2)).1
              have hn2 : (Value.slice A2 (tl + 1) c2).ownBlock ≠ some go := by
                rcases hat with e | e
                · rw [e]; exact hne
                · rw [e]; intro e2; injection e2; omega
              have htab4 : wt7.ownsRow lo 3 1 (.slice A2 (tl + 1) c2) (tl + 1) (ints (T ++ [0])) := by rw [Hwt7.out]; exact own_same hown2 fun b hb => Below.heap_setCell _ _ _ _ (fun e => hn2 (by rw [hb, e]))
              have HSL : (T ++ [(0 : Int)]).length = tl + 1 := by rw [List.length_append, HTL.out]; rfl
              have HPX := HPUT.out wt7 a (T ++ [0]) A2 c2 hia (fun u hu => by rcases List.mem_append.1 hu with h1 | h1; exact HIT.out u h1; rw [List.mem_singleton.1 h1]; exact ⟨by omega, by omega⟩) (by rw [HSL]; exact htab4) (by omega) (by rw [HSL]; exact hops4) (fun b q1 q2 q3 q4 q5 q6 => by rw [Hwt7.out]; exact (Below.heap_setCell _ _ _ b q2).trans (hfar2 b q1 q6 (fun e => q3 (by simp [Value.ownBlock, e])))) hgAl hwlo hglo (by rw [HSL]; rcases hat with e | e; exact .inl e; exact .inr fun b hb => by rw [e] at hb; injection hb; omega)
              obtain ⟨css', bls', PX⟩ := HPX
              replace cA1 := BA4.cell 1
              simp at cA1
              refine hK.out _ _ cA1 (fun hHeld4 => ?_)
              clear hK K hHeld3
              (try simp only [Act.put, List.getElem_toArray, List.getElem_cons_zero, List.getElem_cons_succ, List.setIfInBounds_toArray, List.set_cons_zero, List.set_cons_succ])
              refine wpAnyH_done (by kernel_rfl) ?_ _
              have hl4 : lo ≤ wt7.heap.size := by omega
              go_wp2_with fail
              go_meet
              exact ⟨(n : Int), (a, T ++ [0]) :: rest, wt7.heap.size, ⟨_, _, _, _, _, BA4, PX, BR4, hcu4.mono (by have := HTT.out; omega), hgr4, PX.2.2, hl4, Nat.le_refl _⟩, alg_q5 (fun o ho => by rcases List.mem_cons.1 ho with rfl | ho; exact (by show (T ++ [(0 : Int)]).length ≤ 1000; rw [HSL]; omega); exact HRS.out o ho) (by rw [List.length_cons]; omega) (by omega) (by omega)⟩
          · -- another value
            subst hv
            obtain ⟨⟨a, T⟩, rest, rfl⟩ : ∃ x l, xs = x :: l := by
              cases xs with
              | nil => have := HX.out.1; simp at this; omega
              | cons x l => exact ⟨x, l, rfl⟩
            have hOQ := HX.out.2
            have hTl := (hOQ _ (List.mem_cons_self ..)).2.2
            have hrl : rest.length ≤ 1 := by have := HX.out.1; rw [List.length_cons] at this; omega
            have HRS : Hid (∀ o ∈ rest, o.2.length ≤ 1000) := fun o ho => by have := (hOQ o (List.mem_cons_of_mem _ ho)).2.2.2; omega
            obtain ⟨go, c, TA, cT, css, BA, BR0, hcu, hgr, hgo, hgw, hops, htab, hia, hiT, hne, hput⟩ := hS2.el0
            have HPUT := Lib.hid hput
            have HIT := Lib.hid hiT
            obtain ⟨LL, HLL⟩ : ∃ x, Hid (rest.length + 1 = x) := ⟨_, Lib.hid rfl⟩
            obtain ⟨tl, HTL⟩ : ∃ x, Hid (T.length = x) := ⟨_, Lib.hid rfl⟩
            have htl : 1 ≤ tl ∧ tl ≤ 64 := by rw [← HTL.out]; exact hTl
            have hLL : 1 ≤ LL ∧ LL ≤ 2 := by have := HLL.out; omega
            rw [HLL.out] at BA hops HPUT
            rw [HTL.out] at htab hops hne HPUT
            have hLL0 : ¬ LL = 0 := by omega
            have hLL1 : (0 : Int) < (LL : Int) := by omega
            have hgf : w2.grownBy w2 (some g) := grown_reflB _ _
            have hgog : go ≠ g := by omega
            have hBgo : B ≤ go := by omega
            have hgAgo : gA ≠ go := by omega
            have hr0go : w.heap.size ≠ go := by omega
            have hwgo : w.heap.size ≤ go := by omega
            have cA1 := BA.cell 1
            simp at cA1
            have cO0 := hops.cellAt 0 (by omega)
            have cO1 := hops.cellAt 1 (by omega)
            simp at cO0 cO1
            clear hput hiT hOQ hTl hS2 HX
            obtain ⟨tb, rfl, htb, htc⟩ := own_form htab (by omega)
            have htbgo : tb ≠ go := fun e => hne (by simp [Value.ownBlock, e])
            have hgAtb : gA ≠ tb := by omega
            have hr0tb : w.heap.size ≠ tb := by omega
            have hBtb : B ≤ tb := by omega
            have htbg : tb ≠ g := by omega
            have hwtb : w.heap.size ≤ tb := by omega
            go_upto_region 23 with fail
            refine wp_region_held_drew (S := fun w' => w'.cell? ⟨gA, 1, none⟩ = some (.slice (some ⟨go, 0, none⟩) LL c) ∧ w'.cell? ⟨go, 1, none⟩ = some (.slice (some ⟨tb, 0, none⟩) tl cT)) (by kernel_rfl) ⟨cA1, cO1⟩ (fun hHeld0 => ?_)
            obtain ⟨wt1, Hwt1⟩ : ∃ x, Hid (x = World.drew w2) := ⟨_, rfl⟩
            have hbwt1 : Below w2.heap.size w2 wt1 := by rw [Hwt1.out]; exact (Below.refl _ _).drew
            rw [← Hwt1.out] at hHeld0 ⊢
            have ywt1 := hbwt1.size
            replace BA := BA.next hbwt1
            replace BR0 := BR0.next hbwt1
            replace hops := own_next hops hbwt1
            replace htab := own_next htab hbwt1
            replace hcu := hcu.next_ hbwt1
            replace hgr := growB_trans hgr (toGr hbwt1)
            replace hgf := growB_trans hgf (toGr hbwt1)
            replace cO0 := keepc hbwt1 cO0
            replace cA1 := keepc hbwt1 cA1
            replace cO1 := keepc hbwt1 cO1
            refine wpAnyH_take (i := 0) (v := .pointer (some ⟨gA, 1, none⟩)) rfl (by kernel_rfl) (by kernel_rfl) (by kernel_rfl) (fun _ _ _ h => h) (Or.inl ⟨by kernel_rfl, fun _ _ => by go_simp⟩) (by assumption) ?_
            (try simp only [Act.put, List.getElem_toArray, List.getElem_cons_zero, List.getElem_cons_succ, List.setIfInBounds_toArray, List.set_cons_zero, List.set_cons_succ])
            refine wpAnyH_take (i := 1) (v := .slice (some ⟨go, 0, none⟩) LL c) rfl (by kernel_rfl) (by kernel_rfl) (by kernel_rfl) (fun _ _ _ h => h) (Or.inl ⟨by kernel_rfl, fun wv hSw => by (obtain ⟨hS0, hS1⟩ := hSw); go_simp⟩) (by assumption) ?_
            (try simp only [Act.put, List.getElem_toArray, List.getElem_cons_zero, List.getElem_cons_succ, List.setIfInBounds_toArray, List.set_cons_zero, List.set_cons_succ])
            refine wpAnyH_take (i := 2) (v := .pointer (some ⟨go, 0, none⟩)) rfl (by kernel_rfl) (by kernel_rfl) (by kernel_rfl) (fun _ _ _ h => h) (Or.inl ⟨by kernel_rfl, fun _ _ => by go_simp⟩) (by assumption) ?_
            (try simp only [Act.put, List.getElem_toArray, List.getElem_cons_zero, List.getElem_cons_succ, List.setIfInBounds_toArray, List.set_cons_zero, List.set_cons_succ])
            refine wpAnyH_take (i := 3) (v := .pointer (some ⟨go, 1, none⟩)) rfl (by kernel_rfl) (by kernel_rfl) (by kernel_rfl) (fun _ _ _ h => h) (Or.inl ⟨by kernel_rfl, fun _ _ => by go_simp⟩) (by assumption) ?_
            (try simp only [Act.put, List.getElem_toArray, List.getElem_cons_zero, List.getElem_cons_succ, List.setIfInBounds_toArray, List.set_cons_zero, List.set_cons_succ])
            refine wpAnyH_take (i := 4) (v := .slice (some ⟨tb, 0, none⟩) tl cT) rfl (by kernel_rfl) (by kernel_rfl) (by kernel_rfl) (fun _ _ _ h => h) (Or.inl ⟨by kernel_rfl, fun wv hSw => by (obtain ⟨hS0, hS1⟩ := hSw); go_simp⟩) (by assumption) ?_
            (try simp only [Act.put, List.getElem_toArray, List.getElem_cons_zero, List.getElem_cons_succ, List.setIfInBounds_toArray, List.set_cons_zero, List.set_cons_succ])
            refine wpAnyH_take (i := 5) (v := .pointer (some ⟨g, 0, none⟩)) rfl (by kernel_rfl) (by kernel_rfl) (by kernel_rfl) (fun _ _ _ h => h) (Or.inl ⟨by kernel_rfl, fun _ _ => by go_simp⟩) (by assumption) ?_
            (try simp only [Act.put, List.getElem_toArray, List.getElem_cons_zero, List.getElem_cons_succ, List.setIfInBounds_toArray, List.set_cons_zero, List.set_cons_succ])
            refine wpAnyH_take (i := 6) (v := .pointer (some ⟨gA, 1, none⟩)) rfl (by kernel_rfl) (by kernel_rfl) (by kernel_rfl) (fun _ _ _ h => h) (Or.inl ⟨by kernel_rfl, fun _ _ => by go_simp⟩) (by assumption) ?_
            (try simp only [Act.put, List.getElem_toArray, List.getElem_cons_zero, List.getElem_cons_succ, List.setIfInBounds_toArray, List.set_cons_zero, List.set_cons_succ])
            refine wpAnyH_take (i := 7) (v := .slice (some ⟨go, 0, none⟩) LL c) rfl (by kernel_rfl) (by kernel_rfl) (by kernel_rfl) (fun _ _ _ h => h) (Or.inl ⟨by kernel_rfl, fun wv hSw => by (obtain ⟨hS0, hS1⟩ := hSw); go_simp⟩) (by assumption) ?_
            (try simp only [Act.put, List.getElem_toArray, List.getElem_cons_zero, List.getElem_cons_succ, List.setIfInBounds_toArray, List.set_cons_zero, List.set_cons_succ])
            refine wpAnyH_take (i := 8) (v := .pointer (some ⟨go, 0, none⟩)) rfl (by kernel_rfl) (by kernel_rfl) (by kernel_rfl) (fun _ _ _ h => h) (Or.inl ⟨by kernel_rfl, fun _ _ => by go_simp⟩) (by assumption) ?_
            (try simp only [Act.put, List.getElem_toArray, List.getElem_cons_zero, List.getElem_cons_succ, List.setIfInBounds_toArray, List.set_cons_zero, List.set_cons_succ])
            refine wpAnyH_take (i := 9) (v := .pointer (some ⟨go, 1, none⟩)) rfl (by kernel_rfl) (by kernel_rfl) (by kernel_rfl) (fun _ _ _ h => h) (Or.inl ⟨by kernel_rfl, fun _ _ => by go_simp⟩) (by assumption) ?_
            (try simp only [Act.put, List.getElem_toArray, List.getElem_cons_zero, List.getElem_cons_succ, List.setIfInBounds_toArray, List.set_cons_zero, List.set_cons_succ])
            refine wpAnyH_take (i := 10) (v := .slice (some ⟨tb, 0, none⟩) tl cT) rfl (by kernel_rfl) (by kernel_rfl) (by kernel_rfl) (fun _ _ _ h => h) (Or.inl ⟨by kernel_rfl, fun wv hSw => by (obtain ⟨hS0, hS1⟩ := hSw); go_simp⟩) (by assumption) ?_
            (try simp only [Act.put, List.getElem_toArray, List.getElem_cons_zero, List.getElem_cons_succ, List.setIfInBounds_toArray, List.set_cons_zero, List.set_cons_succ])
            refine wpAnyH_take (i := 11) (v := .int .i64 (tl : Int)) rfl (by kernel_rfl) (by kernel_rfl) (by kernel_rfl) (fun _ _ _ h => h) (Or.inl ⟨by kernel_rfl, fun _ _ => by go_simp⟩) (by assumption) ?_
            (try simp only [Act.put, List.getElem_toArray, List.getElem_cons_zero, List.getElem_cons_succ, List.setIfInBounds_toArray, List.set_cons_zero, List.set_cons_succ])
            refine wpAnyH_take (i := 13) (v := .pointer (some ⟨g, 0, none⟩)) rfl (by kernel_rfl) (by kernel_rfl) (by kernel_rfl) (fun _ _ _ h => h) (Or.inl ⟨by kernel_rfl, fun _ _ => by go_simp⟩) (by assumption) ?_
            (try simp only [Act.put, List.getElem_toArray, List.getElem_cons_zero, List.getElem_cons_succ, List.setIfInBounds_toArray, List.set_cons_zero, List.set_cons_succ])
            refine wpAnyH_take (i := 14) (v := .int .i64 (n : Int)) rfl (by kernel_rfl) (by kernel_rfl) (by kernel_rfl) (fun _ _ _ h => h) (Or.inl ⟨by kernel_rfl, fun _ _ => by go_simp⟩) (by assumption) ?_
            (try simp only [Act.put, List.getElem_toArray, List.getElem_cons_zero, List.getElem_cons_succ, List.setIfInBounds_toArray, List.set_cons_zero, List.set_cons_succ])
            refine wpAnyH_ready (rs := [12, 15]) (by kernel_rfl) (by simp) ?_
            refine (AllReadyH.cons rfl (fun K hK => ?_) (AllReadyH.cons rfl (fun K hK => ?_) AllReadyH.nil))
            · go_simp
              refine (pickB_any g (tq + 2) (tl : Int) wt1 hcu (by omega) (by omega)).mono ?_
              rintro e wt2 ⟨x, hx, rfl, hcx, hgx⟩
              replace BA := BA.grownG hgx hgAg
              replace BR0 := BR0.grownG hgx hr0g
              replace hops := own_grownG hops hgx hglo
              replace htab := own_grownG htab hgx hglo
              replace hcu := hcx
              replace hgr := growB_trans hgr hgx
              replace hgf := growB_trans hgf hgx
              replace cA1 := BA.cell 1
              simp at cA1
              replace cO0 := hops.cellAt 0 (by omega)
              replace cO1 := hops.cellAt 1 (by omega)
              simp at cO0 cO1
              have hx0 : (0 : Int) ≤ (x : Int) := by omega
              have hx1 : (x : Int) < (tl : Int) := by omega
              clear hcx hgx hx
              go_wp2_with fail
              refine hK.out _ _ ⟨cA1, cO1⟩ (fun hHeld1 => ?_)
              clear hK K hHeld0
              (try simp only [Act.put, List.getElem_toArray, List.getElem_cons_zero, List.getElem_cons_succ, List.setIfInBounds_toArray, List.set_cons_zero, List.set_cons_succ])
              refine wpAnyH_ready (rs := [15]) (by kernel_rfl) (by simp) ?_
              refine (AllReadyH.cons rfl (fun K hK => ?_) AllReadyH.nil)
              have hcu0 := hcu
              go_simp
              obtain ⟨wt3, Hwt3⟩ : ∃ x, Hid (x = wt2.alloc (.cells #[.int .i64 (-1), .int .i64 (n : Int)] 3)) := ⟨_, Lib.hid rfl⟩
              rw [← Hwt3.out]
              have hbwt3 : Below wt2.heap.size wt2 wt3 := by rw [Hwt3.out]; exact below_box _ _
              have Bwt3 : Blk wt3 wt2.heap.size 3 #[.int .i64 (-1), .int .i64 (n : Int)] := by rw [Hwt3.out]; exact Blk.new _ _ _
              have zwt3 : wt2.heap.size < wt3.heap.size := Bwt3.lt
              have ywt3 := hbwt3.size
              replace BA := BA.next hbwt3
              replace BR0 := BR0.next hbwt3
              replace hops := own_next hops hbwt3
              replace htab := own_next htab hbwt3
              replace hcu := hcu.next_ hbwt3
              replace hgr := growB_trans hgr (toGr hbwt3)
              replace hgf := growB_trans hgf (toGr hbwt3)
              replace cO0 := keepc hbwt3 cO0
              replace cA1 := keepc hbwt3 cA1
              replace cO1 := keepc hbwt3 cO1
              refine hK.out _ _ ⟨cA1, cO1⟩ (fun hHeld2 => ?_)
              clear hK K hHeld1
              (try simp only [Act.put, List.getElem_toArray, List.getElem_cons_zero, List.getElem_cons_succ, List.setIfInBounds_toArray, List.set_cons_zero, List.set_cons_succ])
              have hnum : NumsP (fun x => -1 ≤ x ∧ x ≤ 4) wt3 g wt2.heap.size 2 := by rw [Hwt3.out]; exact numsL _ [-1, (n : Int)] wt2 g hcu0.lt (by simp) (by simp) (by intro x hx; simp at hx; omega) rfl
              clear hcu0
              refine wpAnyH_ready (rs := [16]) (by kernel_rfl) (by simp) ?_
              refine (AllReadyH.cons rfl (fun K hK => ?_) AllReadyH.nil)
              go_simp
              refine (amongB_any g (tq + 2 + 2) wt2.heap.size 2 2 wt3 hcu (by omega) _ hnum).mono ?_
              rintro e wt4 ⟨z, hz, rfl, hcx, hgx⟩
              replace BA := BA.grownG hgx hgAg
              replace BR0 := BR0.grownG hgx hr0g
              replace hops := own_grownG hops hgx hglo
              replace htab := own_grownG htab hgx hglo
              replace hcu := hcx
              replace hgr := growB_trans hgr hgx
              replace hgf := growB_trans hgf hgx
              replace cA1 := BA.cell 1
              simp at cA1
              replace cO0 := hops.cellAt 0 (by omega)
              replace cO1 := hops.cellAt 1 (by omega)
              simp at cO0 cO1
              clear hcx hgx hnum
              go_wp2_with fail
              refine hK.out _ _ ⟨cA1, cO1⟩ (fun hHeld3 => ?_)
              clear hK K hHeld2
              (try simp only [Act.put, List.getElem_toArray, List.getElem_cons_zero, List.getElem_cons_succ, List.setIfInBounds_toArray, List.set_cons_zero, List.set_cons_succ])
              refine wpAnyH_take (i := 17) (v := .pointer (some ⟨tb, x, none⟩)) rfl (by kernel_rfl) (by kernel_rfl) (by kernel_rfl) (fun _ _ _ h => h) (Or.inl ⟨by kernel_rfl, fun _ _ => by go_simp⟩) (by assumption) ?_
              (try simp only [Act.put, List.getElem_toArray, List.getElem_cons_zero, List.getElem_cons_succ, List.setIfInBounds_toArray, List.set_cons_zero, List.set_cons_succ])
              refine wpAnyH_ready (rs := [18]) (by kernel_rfl) (by simp) ?_
              refine (AllReadyH.cons rfl (fun K hK => ?_) AllReadyH.nil)
              have fT := htab.frozenAt x
              have cT0 := htab.cellAt x (by omega)
              obtain ⟨u0, hu0⟩ : ∃ u0, (ints T)[x]? = some u0 := ⟨_, List.getElem?_eq_getElem (by rw [ints_len, HTL.out]; omega)⟩
              rw [hu0] at cT0
              go_simp
              obtain ⟨wt5, Hwt5⟩ : ∃ q, Hid (q = wt4.setCell ⟨tb, x, none⟩ (.int .i64 z)) := ⟨_, Lib.hid rfl⟩
              rw [← Hwt5.out]
              have BA4 : Blk wt5 gA 26 #[.int .i64 (n : Int), .slice (some ⟨go, 0, none⟩) LL c] := by rw [Hwt5.out]; exact BA.far (by exact hgAtb) _
              have BR4 : Blk wt5 w.heap.size 26 #[.int .i64 0, .slice none 0 0] := by rw [Hwt5.out]; exact BR0.far (by exact hr0tb) _
              have hcu4 : CurB B wt5 g (tq + 2 + 2 + 2) := by rw [Hwt5.out]; exact hcu.setFar (by exact hBtb) (by exact htbg) _
              have hgr4 : w.grownBy wt5 (some g) := by rw [Hwt5.out]; exact growB_new hgr (by exact hwtb) _
              have hsz4 : wt5.heap.size = wt4.heap.size := by rw [Hwt5.out]; simp
              have hgfz := hgf.size
              have hops4 : wt5.ownsRow lo 72 2 (.slice (some ⟨go, 0, none⟩) LL c) LL ([.int .i64 a, .slice (some ⟨tb, 0, none⟩) tl cT] ++ css.flatten) := by rw [Hwt5.out]; exact own_same hops fun b hb => Below.heap_setCell _ _ _ _ (fun e => by simp [Value.ownBlock] at hb; exact htbgo (by rw [hb, e]))
              have htab4 : wt5.ownsRow lo 3 1 (.slice (some ⟨tb, 0, none⟩) tl cT) tl (ints (T.set x z)) := by rw [Hwt5.out, ← ints_set]; exact (htab.stored x (.int .i64 z)).1
              have HSL : (T.set x z).length = tl := by rw [List.length_set]; exact HTL.out
              have HPX := HPUT.out wt5 a (T.set x z) (some ⟨tb, 0, none⟩) cT hia (fun u hu => by rcases List.mem_or_eq_of_mem_set hu with h1 | h1; exact HIT.out u h1; exact ⟨by omega, by omega⟩) (by rw [HSL]; exact htab4) (by omega) (by rw [HSL]; exact hops4) (fun b q1 q2 q3 q4 q5 q6 => by rw [Hwt5.out]; exact growB_set hgf _ _ b q1 (fun e => q6 (by injection e)) (fun e => q3 (by simp [Value.ownBlock, e]))) hgAl hwlo hglo (.inl rfl)
              obtain ⟨css', bls', PX⟩ := HPX
              replace cA1 := BA4.cell 1
              simp at cA1
              replace cO1 := hops4.cellAt 1 (by omega)
              simp at cO1
              refine hK.out _ _ ⟨cA1, cO1⟩ (fun hHeld4 => ?_)
              clear hK K hHeld3
              (try simp only [Act.put, List.getElem_toArray, List.getElem_cons_zero, List.getElem_cons_succ, List.setIfInBounds_toArray, List.set_cons_zero, List.set_cons_succ])
              refine wpAnyH_done (by kernel_rfl) ?_ _
              have hl4 : lo ≤ wt5.heap.size := by omega
              go_wp2_with fail
              go_meet
              exact ⟨(n : Int), (a, T.set x z) :: rest, wt5.heap.size, ⟨_, _, _, _, _, BA4, PX, BR4, hcu4.mono (by have := HTT.out; omega), hgr4, PX.2.2, hl4, Nat.le_refl _⟩, alg_q5 (fun o ho => by rcases List.mem_cons.1 ho with rfl | ho; exact (by show (T.set x z).length ≤ 1000; rw [HSL]; omega); exact HRS.out o ho) (by rw [List.length_cons]; omega) (by omega) (by omega)⟩
            · have hcu0 := hcu
              go_simp
              obtain ⟨wt6, Hwt6⟩ : ∃ x, Hid (x = wt1.alloc (.cells #[.int .i64 (-1), .int .i64 (n : Int)] 3)) := ⟨_, Lib.hid rfl⟩
              rw [← Hwt6.out]
              have hbwt6 : Below wt1.heap.size wt1 wt6 := by rw [Hwt6.out]; exact below_box _ _
              have Bwt6 : Blk wt6 wt1.heap.size 3 #[.int .i64 (-1), .int .i64 (n : Int)] := by rw [Hwt6.out]; exact Blk.new _ _ _
              have zwt6 : wt1.heap.size < wt6.heap.size := Bwt6.lt
              have ywt6 := hbwt6.size
              replace BA := BA.next hbwt6
              replace BR0 := BR0.next hbwt6
              replace hops := own_next hops hbwt6
              replace htab := own_next htab hbwt6
              replace hcu := hcu.next_ hbwt6
              replace hgr := growB_trans hgr (toGr hbwt6)
              replace hgf := growB_trans hgf (toGr hbwt6)
              replace cO0 := keepc hbwt6 cO0
              replace cA1 := keepc hbwt6 cA1
              replace cO1 := keepc hbwt6 cO1
              refine hK.out _ _ ⟨cA1, cO1⟩ (fun hHeld1 => ?_)
              clear hK K hHeld0
              (try simp only [Act.put, List.getElem_toArray, List.getElem_cons_zero, List.getElem_cons_succ, List.setIfInBounds_toArray, List.set_cons_zero, List.set_cons_succ])
              have hnum : NumsP (fun x => -1 ≤ x ∧ x ≤ 4) wt6 g wt1.heap.size 2 := by rw [Hwt6.out]; exact numsL _ [-1, (n : Int)] wt1 g hcu0.lt (by simp) (by simp) (by intro x hx; simp at hx; omega) rfl
              clear hcu0
              refine wpAnyH_ready (rs := [12]) (by kernel_rfl) (by simp) ?_
              refine (AllReadyH.cons rfl (fun K hK => ?_) AllReadyH.nil)
              go_simp
              refine (pickB_any g (tq + 2) (tl : Int) wt6 hcu (by omega) (by omega)).mono ?_
              rintro e wt7 ⟨x, hx, rfl, hcx, hgx⟩
              replace BA := BA.grownG hgx hgAg
              replace BR0 := BR0.grownG hgx hr0g
              replace hops := own_grownG hops hgx hglo
              replace htab := own_grownG htab hgx hglo
              replace hcu := hcx
              replace hgr := growB_trans hgr hgx
              replace hgf := growB_trans hgf hgx
              replace cA1 := BA.cell 1
              simp at cA1
              replace cO0 := hops.cellAt 0 (by omega)
              replace cO1 := hops.cellAt 1 (by omega)
              simp at cO0 cO1
              replace hnum := hnum.grown hgx
              have hx0 : (0 : Int) ≤ (x : Int) := by omega
              have hx1 : (x : Int) < (tl : Int) := by omega
              clear hcx hgx hx
              go_wp2_with fail
              refine hK.out _ _ ⟨cA1, cO1⟩ (fun hHeld2 => ?_)
              clear hK K hHeld1
              (try simp only [Act.put, List.getElem_toArray, List.getElem_cons_zero, List.getElem_cons_succ, List.setIfInBounds_toArray, List.set_cons_zero, List.set_cons_succ])
              refine wpAnyH_ready (rs := [16]) (by kernel_rfl) (by simp) ?_
              refine (AllReadyH.cons rfl (fun K hK => ?_) AllReadyH.nil)
              go_simp
              refine (amongB_any g (tq + 2 + 2) wt1.heap.size 2 2 wt7 hcu (by omega) _ hnum).mono ?_
              rintro e wt8 ⟨z, hz, rfl, hcx, hgx⟩
              replace BA := BA.grownG hgx hgAg
              replace BR0 := BR0.grownG hgx hr0g
              replace hops := own_grownG hops hgx hglo
              replace htab := own_grownG htab hgx hglo
              replace hcu := hcx
              replace hgr := growB_trans hgr hgx
              replace hgf := growB_trans hgf hgx
              replace cA1 := BA.cell 1
              simp at cA1
              replace cO0 := hops.cellAt 0 (by omega)
              replace cO1 := hops.cellAt 1 (by omega)
              simp at cO0 cO1
              clear hcx hgx hnum
              go_wp2_with fail
              refine hK.out _ _ ⟨cA1, cO1⟩ (fun hHeld3 => ?_)
              clear hK K hHeld2
              (try simp only [Act.put, List.getElem_toArray, List.getElem_cons_zero, List.getElem_cons_succ, List.setIfInBounds_toArray, List.set_cons_zero, List.set_cons_succ])
              refine wpAnyH_take (i := 17) (v := .pointer (some ⟨tb, x, none⟩)) rfl (by kernel_rfl) (by kernel_rfl) (by kernel_rfl) (fun _ _ _ h => h) (Or.inl ⟨by kernel_rfl, fun _ _ => by go_simp⟩) (by assumption) ?_
              (try simp only [Act.put, List.getElem_toArray, List.getElem_cons_zero, List.getElem_cons_succ, List.setIfInBounds_toArray, List.set_cons_zero, List.set_cons_succ])
              refine wpAnyH_ready (rs := [18]) (by kernel_rfl) (by simp) ?_
              refine (AllReadyH.cons rfl (fun K hK => ?_) AllReadyH.nil)
              have fT := htab.frozenAt x
              have cT0 := htab.cellAt x (by omega)
              obtain ⟨u0, hu0⟩ : ∃ u0, (ints T)[x]? = some u0 := ⟨_, List.getElem?_eq_getElem (by rw [ints_len, HTL.out]; omega)⟩
              rw [hu0] at cT0
              go_simp
              obtain ⟨wt9, Hwt9⟩ : ∃ q, Hid (q = wt8.setCell ⟨tb, x, none⟩ (.int .i64 z)) := ⟨_, Lib.hid rfl⟩
              rw [← Hwt9.out]
              have BA4 : Blk wt9 gA 26 #[.int .i64 (n : Int), .slice (some ⟨go, 0, none⟩) LL c] := by rw [Hwt9.out]; exact BA.far (by exact hgAtb) _
              have BR4 : Blk wt9 w.heap.size 26 #[.int .i64 0, .slice none 0 0] := by rw [Hwt9.out]; exact BR0.far (by exact hr0tb) _
              have hcu4 : CurB B wt9 g (tq + 2 + 2 + 2) := by rw [Hwt9.out]; exact hcu.setFar (by exact hBtb) (by exact htbg) _
              have hgr4 : w.grownBy wt9 (some g) := by rw [Hwt9.out]; exact growB_new hgr (by exact hwtb) _
              have hsz4 : wt9.heap.size = wt8.heap.size := by rw [Hwt9.out]; simp
              have hgfz := hgf.size
              have hops4 : wt9.ownsRow lo 72 2 (.slice (some ⟨go, 0, none⟩) LL c) LL ([.int .i64 a, .slice (some ⟨tb, 0, none⟩) tl cT] ++ css.flatten) := by rw [Hwt9.out]; exact own_same hops fun b hb => Below.heap_setCell _ _ _ _ (fun e => by simp [Value.ownBlock] at hb; exact htbgo (by rw [hb, e]))
              have htab4 : wt9.ownsRow lo 3 1 (.slice (some ⟨tb, 0, none⟩) tl cT) tl (ints (T.set x z)) := by rw [Hwt9.out, ← ints_set]; exact (htab.stored x (.int .i64 z)).1
              have HSL : (T.set x z).length = tl := by rw [List.length_set]; exact HTL.out
              have HPX := HPUT.out wt9 a (T.set x z) (some ⟨tb, 0, none⟩) cT hia (fun u hu => by rcases List.mem_or_eq_of_mem_set hu with h1 | h1; exact HIT.out u h1; exact ⟨by omega, by omega⟩) (by rw [HSL]; exact htab4) (by omega) (by rw [HSL]; exact hops4) (fun b q1 q2 q3 q4 q5 q6 => by rw [Hwt9.out]; exact growB_set hgf _ _ b q1 (fun e => q6 (by injection e)) (fun e => q3 (by simp [Value.ownBlock, e]))) hgAl hwlo hglo (.inl rfl)
              obtain ⟨css', bls', PX⟩ := HPX
              replace cA1 := BA4.cell 1
              simp at cA1
              replace cO1 := hops4.cellAt 1 (by omega)
              simp at cO1
              refine hK.out _ _ ⟨cA1, cO1⟩ (fun hHeld4 => ?_)
              clear hK K hHeld3
              (try simp only [Act.put, List.getElem_toArray, List.getElem_cons_zero, List.getElem_cons_succ, List.setIfInBounds_toArray, List.set_cons_zero, List.set_cons_succ])
              refine wpAnyH_done (by kernel_rfl) ?_ _
              have hl4 : lo ≤ wt9.heap.size := by omega
              go_wp2_with fail
              go_meet
              exact ⟨(n : Int), (a, T.set x z) :: rest, wt9.heap.size, ⟨_, _, _, _, _, BA4, PX, BR4, hcu4.mono (by have := HTT.out; omega), hgr4, PX.2.2, hl4, Nat.le_refl _⟩, alg_q5 (fun o ho => by rcases List.mem_cons.1 ho with rfl | ho; exact (by show (T.set x z).length ≤ 1000; rw [HSL]; omega); exact HRS.out o ho) (by rw [List.length_cons]; omega) (by omega) (by omega)⟩
          · -- another arity
            subst hv
            obtain ⟨⟨a, T⟩, rest, rfl⟩ : ∃ x l, xs = x :: l := by
              cases xs with
              | nil => have := HX.out.1; simp at this; omega
              | cons x l => exact ⟨x, l, rfl⟩
            have hOQ := HX.out.2
            have hTl := (hOQ _ (List.mem_cons_self ..)).2.2
            have hrl : rest.length ≤ 1 := by have := HX.out.1; rw [List.length_cons] at this; omega
            have HRS : Hid (∀ o ∈ rest, o.2.length ≤ 1000) := fun o ho => by have := (hOQ o (List.mem_cons_of_mem _ ho)).2.2.2; omega
            obtain ⟨go, c, TA, cT, css, BA, BR0, hcu, hgr, hgo, hgw, hops, htab, hia, hiT, hne, hput⟩ := hS2.el0
            have HPUT := Lib.hid hput
            have HIT := Lib.hid hiT
            obtain ⟨LL, HLL⟩ : ∃ x, Hid (rest.length + 1 = x) := ⟨_, Lib.hid rfl⟩
            obtain ⟨tl, HTL⟩ : ∃ x, Hid (T.length = x) := ⟨_, Lib.hid rfl⟩
            have htl : 1 ≤ tl ∧ tl ≤ 64 := by rw [← HTL.out]; exact hTl
            have hLL : 1 ≤ LL ∧ LL ≤ 2 := by have := HLL.out; omega
            rw [HLL.out] at BA hops HPUT
            rw [HTL.out] at htab hops hne HPUT
            have hLL0 : ¬ LL = 0 := by omega
            have hLL1 : (0 : Int) < (LL : Int) := by omega
            have hgf : w2.grownBy w2 (some g) := grown_reflB _ _
            have hgog : go ≠ g := by omega
            have hBgo : B ≤ go := by omega
            have hgAgo : gA ≠ go := by omega
            have hr0go : w.heap.size ≠ go := by omega
            have hwgo : w.heap.size ≤ go := by omega
            have cA1 := BA.cell 1
            simp at cA1
            have cO0 := hops.cellAt 0 (by omega)
            have cO1 := hops.cellAt 1 (by omega)
            simp at cO0 cO1
            clear hput hiT hOQ hTl hS2 HX
            go_upto_region 25 with fail
            refine wp_region_held_drew (S := fun w' => w'.cell? ⟨gA, 1, none⟩ = some (.slice (some ⟨go, 0, none⟩) LL c)) (by kernel_rfl) cA1 (fun hHeld0 => ?_)
            obtain ⟨wt1, Hwt1⟩ : ∃ x, Hid (x = World.drew w2) := ⟨_, rfl⟩
            have hbwt1 : Below w2.heap.size w2 wt1 := by rw [Hwt1.out]; exact (Below.refl _ _).drew
            rw [← Hwt1.out] at hHeld0 ⊢
            have ywt1 := hbwt1.size
            replace BA := BA.next hbwt1
            replace BR0 := BR0.next hbwt1
            replace hops := own_next hops hbwt1
            replace htab := own_next htab hbwt1
            replace hcu := hcu.next_ hbwt1
            replace hgr := growB_trans hgr (toGr hbwt1)
            replace hgf := growB_trans hgf (toGr hbwt1)
            replace cO0 := keepc hbwt1 cO0
            replace cO1 := keepc hbwt1 cO1
            replace cA1 := keepc hbwt1 cA1
            refine wpAnyH_take (i := 0) (v := .pointer (some ⟨gA, 1, none⟩)) rfl (by kernel_rfl) (by kernel_rfl) (by kernel_rfl) (fun _ _ _ h => h) (Or.inl ⟨by kernel_rfl, fun _ _ => by go_simp⟩) (by assumption) ?_
            (try simp only [Act.put, List.getElem_toArray, List.getElem_cons_zero, List.getElem_cons_succ, List.setIfInBounds_toArray, List.set_cons_zero, List.set_cons_succ])
            refine wpAnyH_take (i := 1) (v := .slice (some ⟨go, 0, none⟩) LL c) rfl (by kernel_rfl) (by kernel_rfl) (by kernel_rfl) (fun _ _ _ h => h) (Or.inl ⟨by kernel_rfl, fun wv hSw => by (have hS0 := hSw); go_simp⟩) (by assumption) ?_
            (try simp only [Act.put, List.getElem_toArray, List.getElem_cons_zero, List.getElem_cons_succ, List.setIfInBounds_toArray, List.set_cons_zero, List.set_cons_succ])
            refine wpAnyH_take (i := 2) (v := .pointer (some ⟨g, 0, none⟩)) rfl (by kernel_rfl) (by kernel_rfl) (by kernel_rfl) (fun _ _ _ h => h) (Or.inl ⟨by kernel_rfl, fun _ _ => by go_simp⟩) (by assumption) ?_
            (try simp only [Act.put, List.getElem_toArray, List.getElem_cons_zero, List.getElem_cons_succ, List.setIfInBounds_toArray, List.set_cons_zero, List.set_cons_succ])
            refine wpAnyH_ready (rs := [3]) (by kernel_rfl) (by simp) ?_
            refine (AllReadyH.cons rfl (fun K hK => ?_) AllReadyH.nil)
            have hcu0 := hcu
            go_simp
            obtain ⟨wt2, Hwt2⟩ : ∃ x, Hid (x = wt1.alloc (.cells #[.int .i64 (-1), .int .i64 4] 3)) := ⟨_, Lib.hid rfl⟩
            rw [← Hwt2.out]
            have hbwt2 : Below wt1.heap.size wt1 wt2 := by rw [Hwt2.out]; exact below_box _ _
            have Bwt2 : Blk wt2 wt1.heap.size 3 #[.int .i64 (-1), .int .i64 4] := by rw [Hwt2.out]; exact Blk.new _ _ _
            have zwt2 : wt1.heap.size < wt2.heap.size := Bwt2.lt
            have ywt2 := hbwt2.size
            replace BA := BA.next hbwt2
            replace BR0 := BR0.next hbwt2
            replace hops := own_next hops hbwt2
            replace htab := own_next htab hbwt2
            replace hcu := hcu.next_ hbwt2
            replace hgr := growB_trans hgr (toGr hbwt2)
            replace hgf := growB_trans hgf (toGr hbwt2)
            replace cO0 := keepc hbwt2 cO0
            replace cO1 := keepc hbwt2 cO1
            replace cA1 := keepc hbwt2 cA1
            refine hK.out _ _ cA1 (fun hHeld1 => ?_)
            clear hK K hHeld0
            (try simp only [Act.put, List.getElem_toArray, List.getElem_cons_zero, List.getElem_cons_succ, List.setIfInBounds_toArray, List.set_cons_zero, List.set_cons_succ])
            have hnum : NumsP (fun x => x = -1 ∨ x = 4) wt2 g wt1.heap.size 2 := by rw [Hwt2.out]; exact numsL _ [-1, 4] wt1 g hcu0.lt (by simp) (by simp) (by intro x hx; simp at hx; omega) rfl
            clear hcu0
            refine wpAnyH_ready (rs := [4]) (by kernel_rfl) (by simp) ?_
            refine (AllReadyH.cons rfl (fun K hK => ?_) AllReadyH.nil)
            go_simp
            refine (amongB_any g (tq + 2) wt1.heap.size 2 2 wt2 hcu (by omega) _ hnum).mono ?_
            rintro e wt3 ⟨z, hz, rfl, hcx, hgx⟩
            replace BA := BA.grownG hgx hgAg
            replace BR0 := BR0.grownG hgx hr0g
            replace hops := own_grownG hops hgx hglo
            replace htab := own_grownG htab hgx hglo
            replace hcu := hcx
            replace hgr := growB_trans hgr hgx
            replace hgf := growB_trans hgf hgx
            replace cA1 := BA.cell 1
            simp at cA1
            replace cO0 := hops.cellAt 0 (by omega)
            replace cO1 := hops.cellAt 1 (by omega)
            simp at cO0 cO1
            clear hcx hgx hnum
            go_wp2_with fail
            refine hK.out _ _ cA1 (fun hHeld2 => ?_)
            clear hK K hHeld1
            (try simp only [Act.put, List.getElem_toArray, List.getElem_cons_zero, List.getElem_cons_succ, List.setIfInBounds_toArray, List.set_cons_zero, List.set_cons_succ])
            refine wpAnyH_take (i := 5) (v := .pointer (some ⟨go, 0, none⟩)) rfl (by kernel_rfl) (by kernel_rfl) (by kernel_rfl) (fun _ _ _ h => h) (Or.inl ⟨by kernel_rfl, fun _ _ => by go_simp⟩) (by assumption) ?_
            (try simp only [Act.put, List.getElem_toArray, List.getElem_cons_zero, List.getElem_cons_succ, List.setIfInBounds_toArray, List.set_cons_zero, List.set_cons_succ])
            refine wpAnyH_take (i := 6) (v := .pointer (some ⟨go, 0, none⟩)) rfl (by kernel_rfl) (by kernel_rfl) (by kernel_rfl) (fun _ _ _ h => h) (Or.inl ⟨by kernel_rfl, fun _ _ => by go_simp⟩) (by assumption) ?_
            (try simp only [Act.put, List.getElem_toArray, List.getElem_cons_zero, List.getElem_cons_succ, List.setIfInBounds_toArray, List.set_cons_zero, List.set_cons_succ])
            refine wpAnyH_ready (rs := [7]) (by kernel_rfl) (by simp) ?_
            refine (AllReadyH.cons rfl (fun K hK => ?_) AllReadyH.nil)
            have fO0 := hops.frozenAt 0
            go_simp
            obtain ⟨wt4, Hwt4⟩ : ∃ x, Hid (x = wt3.setCell ⟨go, 0, none⟩ (.int .i64 z)) := ⟨_, Lib.hid rfl⟩
            rw [← Hwt4.out]
            have BA4 : Blk wt4 gA 26 #[.int .i64 (n : Int), .slice (some ⟨go, 0, none⟩) LL c] := by rw [Hwt4.out]; exact BA.far (by exact hgAgo) _
            have BR4 : Blk wt4 w.heap.size 26 #[.int .i64 0, .slice none 0 0] := by rw [Hwt4.out]; exact BR0.far (by exact hr0go) _
            have hcu4 : CurB B wt4 g (tq + 2 + 2) := by rw [Hwt4.out]; exact hcu.setFar (by exact hBgo) (by exact hgog) _
            have hgr4 : w.grownBy wt4 (some g) := by rw [Hwt4.out]; exact growB_new hgr (by exact hwgo) _
            have hsz4 : wt4.heap.size = wt3.heap.size := by rw [Hwt4.out]; simp
            have hgfz := hgf.size
            have hops4 : wt4.ownsRow lo 72 2 (.slice (some ⟨go, 0, none⟩) LL c) LL ([.int .i64 z, .slice TA tl cT] ++ css.flatten) := by rw [Hwt4.out]; simpa using (hops.stored 0 (.int .i64 z)).1
            have htab4 : wt4.ownsRow lo 3 1 (.slice TA tl cT) tl (ints T) := by rw [Hwt4.out]; exact own_same htab fun b hb => Below.heap_setCell _ _ _ _ (fun e => hne (by rw [hb, e]))
            have HPX := HPUT.out wt4 z T TA cT ⟨by omega, by omega⟩ HIT.out (by rw [HTL.out]; exact htab4) (by omega) (by rw [HTL.out]; exact hops4) (fun b q1 q2 q3 q4 q5 q6 => by rw [Hwt4.out]; exact growB_set hgf _ _ b q1 (fun e => q6 (by injection e)) q2) hgAl hwlo hglo (.inl (by rw [HTL.out]))
            obtain ⟨css', bls', PX⟩ := HPX
            replace cA1 := BA4.cell 1
            simp at cA1
            refine hK.out _ _ cA1 (fun hHeld3 => ?_)
            clear hK K hHeld2
            (try simp only [Act.put, List.getElem_toArray, List.getElem_cons_zero, List.getElem_cons_succ, List.setIfInBounds_toArray, List.set_cons_zero, List.set_cons_succ])
            refine wpAnyH_done (by kernel_rfl) ?_ _
            have hl4 : lo ≤ wt4.heap.size := by omega
            go_wp2_with fail
            go_meet
            exact ⟨(n : Int), (z, T) :: rest, wt4.heap.size, ⟨_, _, _, _, _, BA4, PX, BR4, hcu4.mono (by have := HTT.out; omega), hgr4, PX.2.2, hl4, Nat.le_refl _⟩, alg_q5 (fun o ho => by rcases List.mem_cons.1 ho with rfl | ho; exact (by show T.length ≤ 1000; rw [HTL.out]; omega); exact HRS.out o ho) (by rw [List.length_cons]; omega) (by omega) (by omega)⟩
          · -- too many operations
            subst hv
            have hxl : xs.length ≤ 2 := by have := HX.out.1; omega
            have hx64 : ∀ o ∈ xs, o.2.length ≤ 64 := fun o ho => (HX.out.2 o ho).2.2.2
            clear HX
            go_wp2_with fail
            go_loopw [122] (fun _ wr => ∃ (xs : List OpM) (hi LL : Nat), Hid (xs.length = LL ∧ ∀ o ∈ xs, o.2.length ≤ 64) ∧ LL ≤ 5 ∧ lo ≤ wr.heap.size ∧ AlS B g lo hi gA w.heap.size w wr (n : Int) xs (tq + 2 + 2 * LL)) (fun _ wr => 6 - lenAt wr gA 1)
            case atStart => exact ⟨xs, hi, xs.length, Lib.hid ⟨rfl, hx64⟩, by omega, by have := hS2.row; obtain ⟨_, _, _, _, _, _, _, _, _, _, q1, q2⟩ := this; omega, hS2.mono (by omega)⟩
            case round =>
              clear hS2 hxl hx64 hz2
              obtain ⟨xs, hi, LL, HXO', hL5, hlwr, hS⟩ := hrel
              obtain ⟨A, c, css, bls, BA, PX, BR0, hcu, hgr, hI, l1, l2⟩ := hS.row
              have HLL : Hid (xs.length = LL) := HXO'.out.1
              have HXO : Hid (∀ o ∈ xs, o.2.length ≤ 64) := HXO'.out.2
              rw [HLL.out] at BA PX hI
              have cA1 := BA.cell 1
              simp at cA1
              have hme := lenAt_eq cA1
              clear hS HXO'
              go_upto_region 27 with fail
              go_cut [122] from 116 to 122 (fun u wx => ∃ bb, u = .bool bb ∧ (bb = true → LL ≤ 4) ∧ ∃ A c css bls, Blk wx gA 26 #[.int .i64 (n : Int), .slice A LL c] ∧ PO lo wx (.slice A LL c) xs css bls ∧ Blk wx w.heap.size 26 #[.int .i64 0, .slice none 0 0] ∧ CurB B wx g (tq + 2 + 2 * LL + 2) ∧ w.grownBy wx (some g) ∧ hi ≤ wx.heap.size ∧ Iv lo hi (obl (.slice A LL c) ++ bls.flatten))
              case first =>
                refine wp_region_held_drew (S := fun w' => w'.cell? ⟨gA, 1, none⟩ = some (.slice A LL c)) (by kernel_rfl) cA1 (fun hHeld0 => ?_)
                obtain ⟨wt1, Hwt1⟩ : ∃ x, Hid (x = World.drew wr) := ⟨_, rfl⟩
                have hbwt1 : Below wr.heap.size wr wt1 := by rw [Hwt1.out]; exact (Below.refl _ _).drew
                rw [← Hwt1.out] at hHeld0 ⊢
                have ywt1 := hbwt1.size
                replace BA := BA.next hbwt1
                replace PX := PX.next hbwt1
                replace BR0 := BR0.next hbwt1
                replace hcu := hcu.next_ hbwt1
                replace hgr := growB_trans hgr (toGr hbwt1)
                replace cA1 := keepc hbwt1 cA1
                refine wpAnyH_take (i := 0) (v := .pointer (some ⟨gA, 1, none⟩)) rfl (by kernel_rfl) (by kernel_rfl) (by kernel_rfl) (fun _ _ _ h => h) (Or.inl ⟨by kernel_rfl, fun _ _ => by go_simp⟩) (by assumption) ?_
                (try simp only [Act.put, List.getElem_toArray, List.getElem_cons_zero, List.getElem_cons_succ, List.setIfInBounds_toArray, List.set_cons_zero, List.set_cons_succ])
                refine wpAnyH_take (i := 1) (v := .slice A LL c) rfl (by kernel_rfl) (by kernel_rfl) (by kernel_rfl) (fun _ _ _ h => h) (Or.inl ⟨by kernel_rfl, fun wv hSw => by (have hS0 := hSw); go_simp⟩) (by assumption) ?_
                (try simp only [Act.put, List.getElem_toArray, List.getElem_cons_zero, List.getElem_cons_succ, List.setIfInBounds_toArray, List.set_cons_zero, List.set_cons_succ])
                refine wpAnyH_take (i := 2) (v := .int .i64 (LL : Int)) rfl (by kernel_rfl) (by kernel_rfl) (by kernel_rfl) (fun _ _ _ h => h) (Or.inl ⟨by kernel_rfl, fun _ _ => by go_simp⟩) (by assumption) ?_
                (try simp only [Act.put, List.getElem_toArray, List.getElem_cons_zero, List.getElem_cons_succ, List.setIfInBounds_toArray, List.set_cons_zero, List.set_cons_succ])
                refine wpAnyH_take (i := 3) (v := .pointer (some ⟨g, 0, none⟩)) rfl (by kernel_rfl) (by kernel_rfl) (by kernel_rfl) (fun _ _ _ h => h) (Or.inl ⟨by kernel_rfl, fun _ _ => by go_simp⟩) (by assumption) ?_
                (try simp only [Act.put, List.getElem_toArray, List.getElem_cons_zero, List.getElem_cons_succ, List.setIfInBounds_toArray, List.set_cons_zero, List.set_cons_succ])
                refine wpAnyH_ready (rs := [4]) (by kernel_rfl) (by simp) ?_
                refine (AllReadyH.cons rfl (fun K hK => ?_) AllReadyH.nil)
                go_simp
                refine (pickB_any g (tq + 2 + 2 * LL) 2 wt1 hcu (by omega) (by omega)).mono ?_
                rintro e wt2 ⟨x, hx, rfl, hcx, hgx⟩
                replace BA := BA.grownG hgx hgAg
                replace PX := PX.grownG hgx hglo
                replace BR0 := BR0.grownG hgx hr0g
                replace hcu := hcx
                replace hgr := growB_trans hgr hgx
                replace cA1 := BA.cell 1
                simp at cA1
                have hw4 : IntKind.i64.wrap (4 + (x : Int)) = 4 + (x : Int) := by rw [IntKind.wrap_i64]; omega
                have hzx := hgx.size
                clear hcx hgx
                go_wp2_with fail
                refine hK.out _ _ cA1 (fun hHeld1 => ?_)
                clear hK K hHeld0
                (try simp only [Act.put, List.getElem_toArray, List.getElem_cons_zero, List.getElem_cons_succ, List.setIfInBounds_toArray, List.set_cons_zero, List.set_cons_succ])
                refine wpAnyH_take (i := 5) (v := .int .i64 (4 + (x : Int))) rfl (by kernel_rfl) (by kernel_rfl) (by kernel_rfl) (fun _ _ _ h => h) (Or.inl ⟨by kernel_rfl, fun _ _ => by go_simp⟩) (by assumption) ?_
                (try simp only [Act.put, List.getElem_toArray, List.getElem_cons_zero, List.getElem_cons_succ, List.setIfInBounds_toArray, List.set_cons_zero, List.set_cons_succ])
                refine wpAnyH_take (i := 6) (v := .bool (decide ((LL : Int) < 4 + (x : Int)))) rfl (by kernel_rfl) (by kernel_rfl) (by kernel_rfl) (fun _ _ _ h => h) (Or.inl ⟨by kernel_rfl, fun _ _ => by go_simp⟩) (by assumption) ?_
                (try simp only [Act.put, List.getElem_toArray, List.getElem_cons_zero, List.getElem_cons_succ, List.setIfInBounds_toArray, List.set_cons_zero, List.set_cons_succ])
                refine wpAnyH_done (by kernel_rfl) ?_ _
                have hbx : decide ((LL : Int) < 4 + (x : Int)) = true → LL ≤ 4 := fun h => by have := of_decide_eq_true h; omega
                have hl2 : hi ≤ wt2.heap.size := by omega
                go_wp2_with fail
                go_meet
                exact ⟨_, rfl, hbx, A, c, css, bls, BA, PX, BR0, hcu, hgr, hl2, hI⟩
              case rest =>
                clear BA PX BR0 hcu hgr hI l2 cA1
                obtain ⟨bb, rfl, hbb, A, c, css, bls, BA, PX, BR0, hcu, hgr, l2, hI⟩ := hcut
                obtain ⟨wd, HWC⟩ : ∃ wq : World, wq = wc := ⟨_, rfl⟩
                subst HWC
                rcases bb with _ | _
                · go_wp2_with fail
                  go_meet
                  exact ⟨(n : Int), xs, hi, ⟨A, LL, c, css, bls, BA, PX, BR0, hcu.mono (by have := HTT.out; omega), hgr, hI, l1, l2⟩, alg_q5 (fun o ho => by have := HXO.out o ho; omega) (by rw [HLL.out]; omega) (by omega) (by omega)⟩
                · have hL4 := hbb rfl
                  have cA0 := BA.cell 0
                  have cA1 := BA.cell 1
                  simp at cA0 cA1
                  clear hbb
                  go_upto_region 28 with fail
                  refine wp_region_held_drew (S := fun w' => w'.cell? ⟨gA, 0, none⟩ = some (.int .i64 (n : Int))) (by kernel_rfl) cA0 (fun hHeld0 => ?_)
                  obtain ⟨wt1, Hwt1⟩ : ∃ x, Hid (x = World.drew wd) := ⟨_, rfl⟩
                  have hbwt1 : Below wd.heap.size wd wt1 := by rw [Hwt1.out]; exact (Below.refl _ _).drew
                  rw [← Hwt1.out] at hHeld0 ⊢
                  have ywt1 := hbwt1.size
                  replace BA := BA.next hbwt1
                  replace PX := PX.next hbwt1
                  replace BR0 := BR0.next hbwt1
                  replace hcu := hcu.next_ hbwt1
                  replace hgr := growB_trans hgr (toGr hbwt1)
                  replace cA1 := keepc hbwt1 cA1
                  replace cA0 := keepc hbwt1 cA0
                  refine wpAnyH_take (i := 0) (v := .pointer (some ⟨gA, 1, none⟩)) rfl (by kernel_rfl) (by kernel_rfl) (by kernel_rfl) (fun _ _ _ h => h) (Or.inl ⟨by kernel_rfl, fun _ _ => by go_simp⟩) (by assumption) ?_
                  (try simp only [Act.put, List.getElem_toArray, List.getElem_cons_zero, List.getElem_cons_succ, List.setIfInBounds_toArray, List.set_cons_zero, List.set_cons_succ])
                  refine wpAnyH_take (i := 2) (v := .int .i64 (n : Int)) rfl (by kernel_rfl) (by kernel_rfl) (by kernel_rfl) (fun _ _ _ h => h) (Or.inl ⟨by kernel_rfl, fun _ _ => by go_simp⟩) (by assumption) ?_
                  (try simp only [Act.put, List.getElem_toArray, List.getElem_cons_zero, List.getElem_cons_succ, List.setIfInBounds_toArray, List.set_cons_zero, List.set_cons_succ])
                  refine wpAnyH_ready (rs := [1, 3]) (by kernel_rfl) (by simp) ?_
                  refine (AllReadyH.cons rfl (fun K hK => ?_) (AllReadyH.cons rfl (fun K hK => ?_) AllReadyH.nil))
                  · go_simp
                    refine hK.out _ _ cA0 (fun hHeld1 => ?_)
                    clear hK K hHeld0
                    (try simp only [Act.put, List.getElem_toArray, List.getElem_cons_zero, List.getElem_cons_succ, List.setIfInBounds_toArray, List.set_cons_zero, List.set_cons_succ])
                    refine wpAnyH_ready (rs := [3]) (by kernel_rfl) (by simp) ?_
                    refine (AllReadyH.cons rfl (fun K hK => ?_) AllReadyH.nil)
                    have hmk := run_make_row' (P := Try.prog) 38 3 (.int .i64 0) 8 Try.underlying38 info_int rfl .i64 .i64 n (by omega) (by omega) wt1
                    rw [made_ints] at hmk
                    go_simp
                    obtain ⟨wt2, Hwt2⟩ : ∃ q, Hid (q = wt1.alloc (.cells (ints (List.replicate n 0)).toArray 3)) := ⟨_, Lib.hid rfl⟩
                    rw [← Hwt2.out]
                    have hbwt2 : Below wt1.heap.size wt1 wt2 := by rw [Hwt2.out]; exact below_box _ _
                    have OT : shOp.own wt2 [.int .i64 1, .slice (some ⟨wt1.heap.size, 0, none⟩) n n] (1, List.replicate n 0) [wt1.heap.size] := by rw [Hwt2.out]; exact own_tab ⟨by omega, by omega⟩ (List.length_replicate ..) (by omega) (fun u hu => by rw [List.eq_of_mem_replicate hu]; exact ⟨by omega, by omega⟩)
                    have hTl : hi ≤ wt1.heap.size := by omega
                    have hTs : wt1.heap.size < wt2.heap.size := by rw [Hwt2.out]; simp
                    clear hmk
                    have ywt2 := hbwt2.size
                    replace BA := BA.next hbwt2
                    replace PX := PX.next hbwt2
                    replace BR0 := BR0.next hbwt2
                    replace hcu := hcu.next_ hbwt2
                    replace hgr := growB_trans hgr (toGr hbwt2)
                    replace cA1 := keepc hbwt2 cA1
                    replace cA0 := keepc hbwt2 cA0
                    skip
                    refine hK.out _ _ cA0 (fun hHeld2 => ?_)
                    clear hK K hHeld1
                    (try simp only [Act.put, List.getElem_toArray, List.getElem_cons_zero, List.getElem_cons_succ, List.setIfInBounds_toArray, List.set_cons_zero, List.set_cons_succ])
                    refine wpAnyH_take (i := 4) (v := .agg #[.int .i64 1, .slice (some ⟨wt1.heap.size, 0, none⟩) n n]) rfl (by kernel_rfl) (by kernel_rfl) (by kernel_rfl) (fun _ _ _ h => h) (Or.inl ⟨by kernel_rfl, fun _ _ => by go_simp⟩) (by assumption) ?_
                    (try simp only [Act.put, List.getElem_toArray, List.getElem_cons_zero, List.getElem_cons_succ, List.setIfInBounds_toArray, List.set_cons_zero, List.set_cons_succ])
                    refine wpAnyH_ready (rs := [5]) (by kernel_rfl) (by simp) ?_
                    refine (AllReadyH.cons rfl (fun K hK => ?_) AllReadyH.nil)
                    have PXP := PX
                    have hrowP := PX.2.1
                    rw [HLL.out] at hrowP
                    have BAP := BA
                    have BRP := BR0
                    have hcuP := hcu
                    have hgrP := hgr
                    have OTP := OT
                    have hloP : lo ≤ wt2.heap.size := by omega
                    go_simp
                    obtain ⟨wt3, Hwt3⟩ : ∃ x, Hid (x = wt2.alloc (.cells #[.int .i64 1, .slice (some ⟨wt1.heap.size, 0, none⟩) n n] 72)) := ⟨_, Lib.hid rfl⟩
                    rw [← Hwt3.out]
                    have hbwt3 : Below wt2.heap.size wt2 wt3 := by rw [Hwt3.out]; exact below_box _ _
                    have Bwt3 : Blk wt3 wt2.heap.size 72 #[.int .i64 1, .slice (some ⟨wt1.heap.size, 0, none⟩) n n] := by rw [Hwt3.out]; exact Blk.new _ _ _
                    have zwt3 : wt2.heap.size < wt3.heap.size := Bwt3.lt
                    have ywt3 := hbwt3.size
                    replace BA := BA.next hbwt3
                    replace PX := PX.next hbwt3
                    replace BR0 := BR0.next hbwt3
                    replace hcu := hcu.next_ hbwt3
                    replace hgr := growB_trans hgr (toGr hbwt3)
                    replace cA1 := keepc hbwt3 cA1
                    replace OT := Sh.onext OT hbwt3
                    replace cA0 := keepc hbwt3 cA0
                    refine hK.out _ _ cA0 (fun hHeld3 => ?_)
                    clear hK K hHeld2
                    (try simp only [Act.put, List.getElem_toArray, List.getElem_cons_zero, List.getElem_cons_succ, List.setIfInBounds_toArray, List.set_cons_zero, List.set_cons_succ])
                    refine wpAnyH_ready (rs := [6]) (by kernel_rfl) (by simp) ?_
                    refine (AllReadyH.cons rfl (fun K hK => ?_) AllReadyH.nil)
                    rw [Hwt3.out]
                    refine step_app2 wt2 rfl (.tmp 124) (.tmp 128) 24 72 rfl (.agg #[.int .i64 0, .slice none 0 0]) 32 Try.underlying24 info_op2 rfl (by decide) lo LL c A css.flatten (by rfl) hrowP (.int .i64 1) (.slice (some ⟨wt1.heap.size, 0, none⟩) n n) rfl rfl (by rfl) (by omega) hloP ?_
                    intro A3 c3 wt4 hown3 hg3 hb3
                    have PX2 := PXP.push2 hI OTP ⟨by simp, fun b hb => by rw [List.mem_singleton.1 hb]; omega⟩ l1 (by rw [HLL.out]; exact hown3) hg3
                    have BA2 := BAP.below hb3 hgAl
                    have BR2 := BRP.below hb3 hwlo
                    have hrl := fun r' e => (hrowP.lt r' e).1
                    have hcu2 := hcuP.grown hg3 (fun r' e => by have := hrl r' e; omega)
                    have hgr2 := growB_own hgrP hg3 (fun r' e => by have := hrl r' e; omega)
                    have hz3 := hg3.size
                    replace cA0 := BA2.cell 0
                    simp at cA0
                    refine hK.out _ _ cA0 (fun hHeld4 => ?_)
                    clear hK K hHeld3
                    (try simp only [Act.put, List.getElem_toArray, List.getElem_cons_zero, List.getElem_cons_succ, List.setIfInBounds_toArray, List.set_cons_zero, List.set_cons_succ])
                    refine wpAnyH_take (i := 7) (v := .pointer (some ⟨gA, 1, none⟩)) rfl (by kernel_rfl) (by kernel_rfl) (by kernel_rfl) (fun _ _ _ h => h) (Or.inl ⟨by kernel_rfl, fun _ _ => by go_simp⟩) (by assumption) ?_
                    (try simp only [Act.put, List.getElem_toArray, List.getElem_cons_zero, List.getElem_cons_succ, List.setIfInBounds_toArray, List.set_cons_zero, List.set_cons_succ])
                    refine wpAnyH_ready (rs := [8]) (by kernel_rfl) (by simp) ?_
                    refine (AllReadyH.cons rfl (fun K hK => ?_) AllReadyH.nil)
                    have fA1 := BA2.frozen 1
                    replace cA1 := BA2.cell 1
                    simp at cA1
                    go_simp
                    obtain ⟨wt5, Hwt5⟩ : ∃ q, Hid (q = wt4.setCell ⟨gA, 1, none⟩ (.slice A3 (LL + 1) c3)) := ⟨_, Lib.hid rfl⟩
                    rw [← Hwt5.out]
                    have BA4 : Blk wt5 gA 26 #[.int .i64 (n : Int), .slice A3 (LL + 1) c3] := by rw [Hwt5.out]; simpa using BA2.set_ 1 (.slice A3 (LL + 1) c3)
                    have BR4 : Blk wt5 w.heap.size 26 #[.int .i64 0, .slice none 0 0] := by rw [Hwt5.out]; exact BR2.far (by exact hwgA) _
                    have PX4 : PO lo wt5 (.slice A3 (LL + 1) c3) (xs ++ [(1, List.replicate n 0)]) (css ++ [[.int .i64 1, .slice (some ⟨wt1.heap.size, 0, none⟩) n n]]) (bls ++ [[wt1.heap.size]]) := by rw [Hwt5.out]; exact PX2.far (p := ⟨gA, 1, none⟩) (by exact hgAl) _
                    have hcu4 : CurB B wt5 g (tq + 2 + 2 * LL + 2) := by rw [Hwt5.out]; exact hcu2.setFar (by exact hBgA) (by exact hgAg) _
                    have hgr4 : w.grownBy wt5 (some g) := by rw [Hwt5.out]; exact growB_new hgr2 (by exact hwgA2) _
                    have hsz4 : wt5.heap.size = wt4.heap.size := by rw [Hwt5.out]; simp
                    replace cA0 := BA4.cell 0
                    simp at cA0
                    refine hK.out _ _ cA0 (fun hHeld5 => ?_)
                    clear hK K hHeld4
                    (try simp only [Act.put, List.getElem_toArray, List.getElem_cons_zero, List.getElem_cons_succ, List.setIfInBounds_toArray, List.set_cons_zero, List.set_cons_succ])
                    refine wpAnyH_done (by kernel_rfl) ?_ _
                    have HX2 : Hid ((xs ++ [((1 : Int), List.replicate n (0 : Int))]).length = LL + 1 ∧ ∀ o ∈ xs ++ [((1 : Int), List.replicate n (0 : Int))], o.2.length ≤ 64) := by
                      refine ⟨by rw [List.length_append, HLL.out]; rfl, fun o ho => ?_⟩
                      rcases List.mem_append.1 ho with ho | ho
                      · exact HXO.out o ho
                      · rw [List.mem_singleton.1 ho]; simp; omega
                    have hl4 : lo ≤ wt5.heap.size := by omega
                    have cA9 := BA4.cell 1
                    simp at cA9
                    have hmes := lenAt_eq cA9
                    go_wp2_with fail
                    go_roundw
                    case rel =>
                      (repeat apply Exists.intro)
                      refine ⟨?_, rfl⟩
                      exact ⟨xs ++ [((1 : Int), List.replicate n (0 : Int))], wt5.heap.size, LL + 1, HX2, by omega, by omega, ⟨_, _, _, _, _, BA4, PX4, BR4, hcu4.mono (by omega), hgr4, PX4.2.2, hl4, Nat.le_refl _⟩⟩
                    case measure => rw [hmes]; have := hme; omega
                  · have hmk := run_make_row' (P := Try.prog) 38 3 (.int .i64 0) 8 Try.underlying38 info_int rfl .i64 .i64 n (by omega) (by omega) wt1
                    rw [made_ints] at hmk
                    go_simp
                    obtain ⟨wt6, Hwt6⟩ : ∃ q, Hid (q = wt1.alloc (.cells (ints (List.replicate n 0)).toArray 3)) := ⟨_, Lib.hid rfl⟩
                    rw [← Hwt6.out]
                    have hbwt6 : Below wt1.heap.size wt1 wt6 := by rw [Hwt6.out]; exact below_box _ _
                    have OT : shOp.own wt6 [.int .i64 1, .slice (some ⟨wt1.heap.size, 0, none⟩) n n] (1, List.replicate n 0) [wt1.heap.size] := by rw [Hwt6.out]; exact own_tab ⟨by omega, by omega⟩ (List.length_replicate ..) (by omega) (fun u hu => by rw [List.eq_of_mem_replicate hu]; exact ⟨by omega, by omega⟩)
                    have hTl : hi ≤ wt1.heap.size := by omega
                    have hTs : wt1.heap.size < wt6.heap.size := by rw [Hwt6.out]; simp
                    clear hmk
                    have ywt6 := hbwt6.size
                    replace BA := BA.next hbwt6
                    replace PX := PX.next hbwt6
                    replace BR0 := BR0.next hbwt6
                    replace hcu := hcu.next_ hbwt6
                    replace hgr := growB_trans hgr (toGr hbwt6)
                    replace cA1 := keepc hbwt6 cA1
                    replace cA0 := keepc hbwt6 cA0
                    skip
                    refine hK.out _ _ cA0 (fun hHeld1 => ?_)
                    clear hK K hHeld0
                    (try simp only [Act.put, List.getElem_toArray, List.getElem_cons_zero, List.getElem_cons_succ, List.setIfInBounds_toArray, List.set_cons_zero, List.set_cons_succ])
                    refine wpAnyH_take (i := 4) (v := .agg #[.int .i64 1, .slice (some ⟨wt1.heap.size, 0, none⟩) n n]) rfl (by kernel_rfl) (by kernel_rfl) (by kernel_rfl) (fun _ _ _ h => h) (Or.inl ⟨by kernel_rfl, fun _ _ => by go_simp⟩) (by assumption) ?_
                    (try simp only [Act.put, List.getElem_toArray, List.getElem_cons_zero, List.getElem_cons_succ, List.setIfInBounds_toArray, List.set_cons_zero, List.set_cons_succ])
                    refine wpAnyH_ready (rs := [1, 5]) (by kernel_rfl) (by simp) ?_
                    refine (AllReadyH.cons rfl (fun K hK => ?_) (AllReadyH.cons rfl (fun K hK => ?_) AllReadyH.nil))
                    · go_simp
                      refine hK.out _ _ cA0 (fun hHeld2 => ?_)
                      clear hK K hHeld1
                      (try simp only [Act.put, List.getElem_toArray, List.getElem_cons_zero, List.getElem_cons_succ, List.setIfInBounds_toArray, List.set_cons_zero, List.set_cons_succ])
                      refine wpAnyH_ready (rs := [5]) (by kernel_rfl) (by simp) ?_
                      refine (AllReadyH.cons rfl (fun K hK => ?_) AllReadyH.nil)
                      have PXP := PX
                      have hrowP := PX.2.1
                      rw [HLL.out] at hrowP
                      have BAP := BA
                      have BRP := BR0
                      have hcuP := hcu
                      have hgrP := hgr
                      have OTP := OT
                      have hloP : lo ≤ wt6.heap.size := by omega
                      go_simp
                      obtain ⟨wt7, Hwt7⟩ : ∃ x, Hid (x = wt6.alloc (.cells #[.int .i64 1, .slice (some ⟨wt1.heap.size, 0, none⟩) n n] 72)) := ⟨_, Lib.hid rfl⟩
                      rw [← Hwt7.out]
                      have hbwt7 : Below wt6.heap.size wt6 wt7 := by rw [Hwt7.out]; exact below_box _ _
                      have Bwt7 : Blk wt7 wt6.heap.size 72 #[.int .i64 1, .slice (some ⟨wt1.heap.size, 0, none⟩) n n] := by rw [Hwt7.out]; exact Blk.new _ _ _
                      have zwt7 : wt6.heap.size < wt7.heap.size := Bwt7.lt
                      have ywt7 := hbwt7.size
                      replace BA := BA.next hbwt7
                      replace PX := PX.next hbwt7
                      replace BR0 := BR0.next hbwt7
                      replace hcu := hcu.next_ hbwt7
                      replace hgr := growB_trans hgr (toGr hbwt7)
                      replace cA1 := keepc hbwt7 cA1
                      replace OT := Sh.onext OT hbwt7
                      replace cA0 := keepc hbwt7 cA0
                      refine hK.out _ _ cA0 (fun hHeld3 => ?_)
                      clear hK K hHeld2
                      (try simp only [Act.put, List.getElem_toArray, List.getElem_cons_zero, List.getElem_cons_succ, List.setIfInBounds_toArray, List.set_cons_zero, List.set_cons_succ])
                      refine wpAnyH_ready (rs := [6]) (by kernel_rfl) (by simp) ?_
                      refine (AllReadyH.cons rfl (fun K hK => ?_) AllReadyH.nil)
                      rw [Hwt7.out]
                      refine step_app2 wt6 rfl (.tmp 124) (.tmp 128) 24 72 rfl (.agg #[.int .i64 0, .slice none 0 0]) 32 Try.underlying24 info_op2 rfl (by decide) lo LL c A css.flatten (by rfl) hrowP (.int .i64 1) (.slice (some ⟨wt1.heap.size, 0, none⟩) n n) rfl rfl (by rfl) (by omega) hloP ?_
                      intro A3 c3 wt8 hown3 hg3 hb3
                      have PX2 := PXP.push2 hI OTP ⟨by simp, fun b hb => by rw [List.mem_singleton.1 hb]; omega⟩ l1 (by rw [HLL.out]; exact hown3) hg3
                      have BA2 := BAP.below hb3 hgAl
                      have BR2 := BRP.below hb3 hwlo
                      have hrl := fun r' e => (hrowP.lt r' e).1
                      have hcu2 := hcuP.grown hg3 (fun r' e => by have := hrl r' e; omega)
                      have hgr2 := growB_own hgrP hg3 (fun r' e => by have := hrl r' e; omega)
                      have hz3 := hg3.size
                      replace cA0 := BA2.cell 0
                      simp at cA0
                      refine hK.out _ _ cA0 (fun hHeld4 => ?_)
                      clear hK K hHeld3
                      (try simp only [Act.put, List.getElem_toArray, List.getElem_cons_zero, List.getElem_cons_succ, List.setIfInBounds_toArray, List.set_cons_zero, List.set_cons_succ])
                      refine wpAnyH_take (i := 7) (v := .pointer (some ⟨gA, 1, none⟩)) rfl (by kernel_rfl) (by kernel_rfl) (by kernel_rfl) (fun _ _ _ h => h) (Or.inl ⟨by kernel_rfl, fun _ _ => by go_simp⟩) (by assumption) ?_
                      (try simp only [Act.put, List.getElem_toArray, List.getElem_cons_zero, List.getElem_cons_succ, List.setIfInBounds_toArray, List.set_cons_zero, List.set_cons_succ])
                      refine wpAnyH_ready (rs := [8]) (by kernel_rfl) (by simp) ?_
                      refine (AllReadyH.cons rfl (fun K hK => ?_) AllReadyH.nil)
                      have fA1 := BA2.frozen 1
                      replace cA1 := BA2.cell 1
                      simp at cA1
                      go_simp
                      obtain ⟨wt9, Hwt9⟩ : ∃ q, Hid (q = wt8.setCell ⟨gA, 1, none⟩ (.slice A3 (LL + 1) c3)) := ⟨_, Lib.hid rfl⟩
                      rw [← Hwt9.out]
                      have BA4 : Blk wt9 gA 26 #[.int .i64 (n : Int), .slice A3 (LL + 1) c3] := by rw [Hwt9.out]; simpa using BA2.set_ 1 (.slice A3 (LL + 1) c3)
                      have BR4 : Blk wt9 w.heap.size 26 #[.int .i64 0, .slice none 0 0] := by rw [Hwt9.out]; exact BR2.far (by exact hwgA) _
                      have PX4 : PO lo wt9 (.slice A3 (LL + 1) c3) (xs ++ [(1, List.replicate n 0)]) (css ++ [[.int .i64 1, .slice (some ⟨wt1.heap.size, 0, none⟩) n n]]) (bls ++ [[wt1.heap.size]]) := by rw [Hwt9.out]; exact PX2.far (p := ⟨gA, 1, none⟩) (by exact hgAl) _
                      have hcu4 : CurB B wt9 g (tq + 2 + 2 * LL + 2) := by rw [Hwt9.out]; exact hcu2.setFar (by exact hBgA) (by exact hgAg) _
                      have hgr4 : w.grownBy wt9 (some g) := by rw [Hwt9.out]; exact growB_new hgr2 (by exact hwgA2) _
                      have hsz4 : wt9.heap.size = wt8.heap.size := by rw [Hwt9.out]; simp
                      replace cA0 := BA4.cell 0
                      simp at cA0
                      refine hK.out _ _ cA0 (fun hHeld5 => ?_)
                      clear hK K hHeld4
                      (try simp only [Act.put, List.getElem_toArray, List.getElem_cons_zero, List.getElem_cons_succ, List.setIfInBounds_toArray, List.set_cons_zero, List.set_cons_succ])
                      refine wpAnyH_done (by kernel_rfl) ?_ _
                      have HX2 : Hid ((xs ++ [((1 : Int), List.replicate n (0 : Int))]).length = LL + 1 ∧ ∀ o ∈ xs ++ [((1 : Int), List.replicate n (0 : Int))], o.2.length ≤ 64) := by
                        refine ⟨by rw [List.length_append, HLL.out]; rfl, fun o ho => ?_⟩
                        rcases List.mem_append.1 ho with ho | ho
                        · exact HXO.out o ho
                        · rw [List.mem_singleton.1 ho]; simp; omega
                      have hl4 : lo ≤ wt9.heap.size := by omega
                      have cA9 := BA4.cell 1
                      simp at cA9
                      have hmes := lenAt_eq cA9
                      go_wp2_with fail
                      go_roundw
                      case rel =>
                        (repeat apply Exists.intro)
                        refine ⟨?_, rfl⟩
                        exact ⟨xs ++ [((1 : Int), List.replicate n (0 : Int))], wt9.heap.size, LL + 1, HX2, by omega, by omega, ⟨_, _, _, _, _, BA4, PX4, BR4, hcu4.mono (by omega), hgr4, PX4.2.2, hl4, Nat.le_refl _⟩⟩
                      case measure => rw [hmes]; have := hme; omega
                    · have PXP := PX
                      have hrowP := PX.2.1
                      rw [HLL.out] at hrowP
                      have BAP := BA
                      have BRP := BR0
                      have hcuP := hcu
                      have hgrP := hgr
                      have OTP := OT
                      have hloP : lo ≤ wt6.heap.size := by omega
                      go_simp
                      obtain ⟨wt10, Hwt10⟩ : ∃ x, Hid (x = wt6.alloc (.cells #[.int .i64 1, .slice (some ⟨wt1.heap.size, 0, none⟩) n n] 72)) := ⟨_, Lib.hid rfl⟩
                      rw [← Hwt10.out]
                      have hbwt10 : Below wt6.heap.size wt6 wt10 := by rw [Hwt10.out]; exact below_box _ _
                      have Bwt10 : Blk wt10 wt6.heap.size 72 #[.int .i64 1, .slice (some ⟨wt1.heap.size, 0, none⟩) n n] := by rw [Hwt10.out]; exact Blk.new _ _ _
                      have zwt10 : wt6.heap.size < wt10.heap.size := Bwt10.lt
                      have ywt10 := hbwt10.size
                      replace BA := BA.next hbwt10
                      replace PX := PX.next hbwt10
                      replace BR0 := BR0.next hbwt10
                      replace hcu := hcu.next_ hbwt10
                      replace hgr := growB_trans hgr (toGr hbwt10)
                      replace cA1 := keepc hbwt10 cA1
                      replace OT := Sh.onext OT hbwt10
                      replace cA0 := keepc hbwt10 cA0
                      refine hK.out _ _ cA0 (fun hHeld2 => ?_)
                      clear hK K hHeld1
                      (try simp only [Act.put, List.getElem_toArray, List.getElem_cons_zero, List.getElem_cons_succ, List.setIfInBounds_toArray, List.set_cons_zero, List.set_cons_succ])
                      refine wpAnyH_ready (rs := [1]) (by kernel_rfl) (by simp) ?_
                      refine (AllReadyH.cons rfl (fun K hK => ?_) AllReadyH.nil)
                      go_simp
                      refine hK.out _ _ cA0 (fun hHeld3 => ?_)
                      clear hK K hHeld2
                      (try simp only [Act.put, List.getElem_toArray, List.getElem_cons_zero, List.getElem_cons_succ, List.setIfInBounds_toArray, List.set_cons_zero, List.set_cons_succ])
                      refine wpAnyH_ready (rs := [6]) (by kernel_rfl) (by simp) ?_
                      refine (AllReadyH.cons rfl (fun K hK => ?_) AllReadyH.nil)
                      rw [Hwt10.out]
                      refine step_app2 wt6 rfl (.tmp 124) (.tmp 128) 24 72 rfl (.agg #[.int .i64 0, .slice none 0 0]) 32 Try.underlying24 info_op2 rfl (by decide) lo LL c A css.flatten (by rfl) hrowP (.int .i64 1) (.slice (some ⟨wt1.heap.size, 0, none⟩) n n) rfl rfl (by rfl) (by omega) hloP ?_
                      intro A3 c3 wt11 hown3 hg3 hb3
                      have PX2 := PXP.push2 hI OTP ⟨by simp, fun b hb => by rw [List.mem_singleton.1 hb]; omega⟩ l1 (by rw [HLL.out]; exact hown3) hg3
                      have BA2 := BAP.below hb3 hgAl
                      have BR2 := BRP.below hb3 hwlo
                      have hrl := fun r' e => (hrowP.lt r' e).1
                      have hcu2 := hcuP.grown hg3 (fun r' e => by have := hrl r' e; omega)
                      have hgr2 := growB_own hgrP hg3 (fun r' e => by have := hrl r' e; omega)
                      have hz3 := hg3.size
                      replace cA0 := BA2.cell 0
                      simp at cA0
                      refine hK.out _ _ cA0 (fun hHeld4 => ?_)
                      clear hK K hHeld3
                      (try simp only [Act.put, List.getElem_toArray, List.getElem_cons_zero, List.getElem_cons_succ, List.setIfInBounds_toArray, List.set_cons_zero, List.set_cons_succ])
                      refine wpAnyH_take (i := 7) (v := .pointer (some ⟨gA, 1, none⟩)) rfl (by kernel_rfl) (by kernel_rfl) (by kernel_rfl) (fun _ _ _ h => h) (Or.inl ⟨by kernel_rfl, fun _ _ => by go_simp⟩) (by assumption) ?_
                      (try simp only [Act.put, List.getElem_toArray, List.getElem_cons_zero, List.getElem_cons_succ, List.setIfInBounds_toArray, List.set_cons_zero, List.set_cons_succ])
                      refine wpAnyH_ready (rs := [8]) (by kernel_rfl) (by simp) ?_
                      refine (AllReadyH.cons rfl (fun K hK => ?_) AllReadyH.nil)
                      have fA1 := BA2.frozen 1
                      replace cA1 := BA2.cell 1
                      simp at cA1
                      go_simp
                      obtain ⟨wt12, Hwt12⟩ : ∃ q, Hid (q = wt11.setCell ⟨gA, 1, none⟩ (.slice A3 (LL + 1) c3)) := ⟨_, Lib.hid rfl⟩
                      rw [← Hwt12.out]
                      have BA4 : Blk wt12 gA 26 #[.int .i64 (n : Int), .slice A3 (LL + 1) c3] := by rw [Hwt12.out]; simpa using BA2.set_ 1 (.slice A3 (LL + 1) c3)
                      have BR4 : Blk wt12 w.heap.size 26 #[.int .i64 0, .slice none 0 0] := by rw [Hwt12.out]; exact BR2.far (by exact hwgA) _
                      have PX4 : PO lo wt12 (.slice A3 (LL + 1) c3) (xs ++ [(1, List.replicate n 0)]) (css ++ [[.int .i64 1, .slice (some ⟨wt1.heap.size, 0, none⟩) n n]]) (bls ++ [[wt1.heap.size]]) := by rw [Hwt12.out]; exact PX2.far (p := ⟨gA, 1, none⟩) (by exact hgAl) _
                      have hcu4 : CurB B wt12 g (tq + 2 + 2 * LL + 2) := by rw [Hwt12.out]; exact hcu2.setFar (by exact hBgA) (by exact hgAg) _
                      have hgr4 : w.grownBy wt12 (some g) := by rw [Hwt12.out]; exact growB_new hgr2 (by exact hwgA2) _
                      have hsz4 : wt12.heap.size = wt11.heap.size := by rw [Hwt12.out]; simp
                      replace cA0 := BA4.cell 0
                      simp at cA0
                      refine hK.out _ _ cA0 (fun hHeld5 => ?_)
                      clear hK K hHeld4
                      (try simp only [Act.put, List.getElem_toArray, List.getElem_cons_zero, List.getElem_cons_succ, List.setIfInBounds_toArray, List.set_cons_zero, List.set_cons_succ])
                      refine wpAnyH_done (by kernel_rfl) ?_ _
                      have HX2 : Hid ((xs ++ [((1 : Int), List.replicate n (0 : Int))]).length = LL + 1 ∧ ∀ o ∈ xs ++ [((1 : Int), List.replicate n (0 : Int))], o.2.length ≤ 64) := by
                        refine ⟨by rw [List.length_append, HLL.out]; rfl, fun o ho => ?_⟩
                        rcases List.mem_append.1 ho with ho | ho
                        · exact HXO.out o ho
                        · rw [List.mem_singleton.1 ho]; simp; omega
                      have hl4 : lo ≤ wt12.heap.size := by omega
                      have cA9 := BA4.cell 1
                      simp at cA9
                      have hmes := lenAt_eq cA9
                      go_wp2_with fail
                      go_roundw
                      case rel =>
                        (repeat apply Exists.intro)
                        refine ⟨?_, rfl⟩
                        exact ⟨xs ++ [((1 : Int), List.replicate n (0 : Int))], wt12.heap.size, LL + 1, HX2, by omega, by omega, ⟨_, _, _, _, _, BA4, PX4, BR4, hcu4.mono (by omega), hgr4, PX4.2.2, hl4, Nat.le_refl _⟩⟩
                      case measure => rw [hmes]; have := hme; omega
          · have e0 : ((v : Int) == 0) = false := by simp; omega
            have e1 : ((v : Int) == 1) = false := by simp; omega
            have e2 : ((v : Int) == 2) = false := by simp; omega
            have e3 : ((v : Int) == 3) = false := by simp; omega
            have e4 : ((v : Int) == 4) = false := by simp; omega
            clear hv
            go_wp2_with fail
            go_meet
            exact ⟨(n : Int), xs, hi, hS2.mono (by have := HTT.out; omega), opsQ_alg5 HX.out.2 (by have := HX.out.1; omega) (by omega) (by omega)⟩
        case rest =>
          clear hS2 HX HTT HTQ htq
          obtain ⟨z, ys, hi2, hS, hQ⟩ := hcut
          obtain ⟨wx, HWC⟩ : ∃ wq : World, wq = wc := ⟨_, rfl⟩
          subst HWC
          obtain ⟨A, m, c, css, bls, BA, PX, BR, hcu, hgr, hI, l1, l2⟩ := hS
          obtain ⟨wf, HWF⟩ : ∃ wf, Hid (wf = (wx.setCell ⟨w.heap.size, 0, none⟩ (.int .i64 z)).setCell ⟨w.heap.size, 1, none⟩ (.slice A m c)) := ⟨_, Lib.hid rfl⟩
          have BLF : Hid (Blk wf w.heap.size 26 #[.int .i64 z, .slice A m c]) := by show Blk _ _ _ _; rw [HWF.out]; simpa using (BR.set_ 0 (.int .i64 z)).set_ 1 (.slice A m c)
          have PF := (PX.far (p := ⟨w.heap.size, 0, none⟩) (by exact hwlo) (.int .i64 z)).far (p := ⟨w.heap.size, 1, none⟩) (by exact hwlo) (.slice A m c)
          rw [← HWF.out] at PF
          have hzz : InR z := ⟨by have := hQ.1.1; omega, by have := hQ.1.2.1; omega⟩
          have OF := Lib.hid (PF.algK hzz)
          have CF : Hid (CurB B wf g (t + 2000)) := by show CurB _ _ _ _; rw [HWF.out]; exact (hcu.setFar (p := ⟨w.heap.size, 0, none⟩) hB hr0g _).setFar (p := ⟨w.heap.size, 1, none⟩) hB hr0g _
          have GF : Hid (w.grownBy wf (some g)) := by show World.grownBy _ _ _; rw [HWF.out]; exact growB_new (growB_new hgr (p := ⟨w.heap.size, 0, none⟩) (Nat.le_refl _) _) (p := ⟨w.heap.size, 1, none⟩) (Nat.le_refl _) _
          have IF : Hid (Iv w.heap.size wf.heap.size (obl (.slice A m c) ++ bls.flatten)) := PF.2.2.mono (by omega) (Nat.le_refl _)
          have cA0 := BA.cell 0
          have cA1 := BA.cell 1
          have cR0 := BR.cell 0
          have cR1 := BR.cell 1
          simp at cA0 cA1 cR0 cR1
          have fR0 := BR.frozen 0
          have fR1 := BR.frozen 1
          have HQ := Lib.hid hQ
          clear PF PX BA BR hcu hgr hI hQ hzz
          go_wp2_with fail
          rw [← HWF.out]
          (try simp only [Exit.inBlock, Exit.then])
          refine bodyPost_ret (v := .agg #[.int .i64 z, .slice A m c]) (results_cell_row rfl _ _ w.heap.size 26 #[.int .i64 z, .slice A m c] (0, 0) _ (by simp) BLF.out Try.underlying26 rfl (by kernel_rfl)) rfl ?_
          exact ⟨[.int .i64 z, .slice A m c], (z, ys), _, rfl, OF.out, IF.out, HQ.out, CF.out, GF.out⟩
/-- What the walk of algebra hands on. -/
def AlgC : Prop := ∀ (B g t : Nat) (w : World), CurB B w g t → B ≤ w.heap.size → t ≤ 999900000 → Calls Try.prog 51 #[.pointer (some ⟨g, 0, none⟩)] w (AlgD B w g (t + 2000))
/-- The last words of a draw: the result box is filled and handed back. -/
theorem alg_fin {B g t t' : Nat} {w w4 : World} {x : AlgebraM} {A : Option Addr} {n c : Nat} {bl : List Nat} (BR4 : Blk w4 w.heap.size 26 #[.int .i64 0, .slice none 0 0]) (O4 : shAlgebra.own w4 [.int .i64 x.1, .slice A n c] x bl) (I3 : Iv (w.heap.size + 1) w4.heap.size bl) (hQ : AlgQ5 x) (hc4 : CurB B w4 g t) (hgr4 : w.grownBy w4 (some g))
    (hB : B ≤ w.heap.size) (hr0g : w.heap.size ≠ g) (ht : t ≤ t') : ∀ wf, wf = (w4.setCell ⟨w.heap.size, 0, none⟩ (.int .i64 x.1)).setCell ⟨w.heap.size, 1, none⟩ (.slice A n c) →
    Blk wf w.heap.size 26 #[.int .i64 x.1, .slice A n c] ∧ AlgD B w g t' (.returned (.agg #[.int .i64 x.1, .slice A n c])) wf := by
  rintro wf rfl
  have hrn : w.heap.size ∉ bl := fun hh => by have := (I3.2 _ hh).1; omega
  refine ⟨by simpa using (BR4.set_ 0 (.int .i64 x.1)).set_ 1 (.slice A n c), [.int .i64 x.1, .slice A n c], x, bl, rfl, ?_, ?_, hQ, ?_, ?_⟩
  · exact Sh.oset' (p := ⟨w.heap.size, 1, none⟩) (Sh.oset' (p := ⟨w.heap.size, 0, none⟩) O4 hrn _) hrn _
  · exact I3.mono (by omega) (by simp)
  · exact ((hc4.setFar (p := ⟨w.heap.size, 0, none⟩) hB hr0g _).setFar (p := ⟨w.heap.size, 1, none⟩) hB hr0g _).mono ht
  · exact growB_new (growB_new hgr4 (p := ⟨w.heap.size, 0, none⟩) (Nat.le_refl _) _) (p := ⟨w.heap.size, 1, none⟩) (Nat.le_refl _) _
theorem algebra31_of (HALG : AlgC) (B g t : Nat) (w : World) (h : CurB B w g t) (hB : B ≤ w.heap.size) (ht : t ≤ 999890000) :
    Calls Try.prog 23 #[.pointer (some ⟨g, 0, none⟩)] w (AlgD B w g (t + 2100)) := by
  have hgl := h.lt
  obtain ⟨w0, HW0⟩ : ∃ wb, Hid (wb = w.alloc (.cells #[.int .i64 0, .slice none 0 0] 26)) := ⟨_, Lib.hid rfl⟩
  have hb0 : Below w.heap.size w w0 := by rw [HW0.out]; exact below_box _ _
  have BR : Blk w0 w.heap.size 26 #[.int .i64 0, .slice none 0 0] := by rw [HW0.out]; exact Blk.new _ _ _
  have hz0 : w.heap.size + 1 ≤ w0.heap.size := by rw [HW0.out]; simp
  have HON := Lib.hid (oneB_any g t 12 w0 (h.next_ hb0) (by omega) (by omega))
  have hr0g : w.heap.size ≠ g := by omega
  go_enter Try.func23, Try.ntmps23
  go_upto_region 1 with fail
  rw [← HW0.out]
  go_wp2_with fail
  refine HON.out.mono ?_
  rintro e w1 ⟨b, rfl, hc1, hg1⟩
  have BR1 := BR.grownG hg1 hr0g
  have hgr1 := growB_trans (toGr (r := some g) hb0) hg1
  have hz1 := hg1.size
  clear HON BR hg1
  rcases b with _ | _
  · -- a known one
    obtain ⟨w2, HW2⟩ : ∃ wb, Hid (wb = w1.alloc (.cells #[.int .i64 0, .int .i64 1, .int .i64 2, .int .i64 3, .int .i64 4, .int .i64 5, .int .i64 7, .int .i64 8, .int .i64 9, .int .i64 10, .int .i64 13, .int .i64 14, .int .i64 16, .int .i64 12, .int .i64 11] 3)) := ⟨_, Lib.hid rfl⟩
    have hb2 : Below w1.heap.size w1 w2 := by rw [HW2.out]; exact below_box _ _
    have hnum : NumsP (fun x => 0 ≤ x) w2 g w1.heap.size 15 := by rw [HW2.out]; exact numsL _ [0, 1, 2, 3, 4, 5, 7, 8, 9, 10, 13, 14, 16, 12, 11] w1 g hc1.lt (by decide) (by decide) (by intro x hx; simp at hx; omega) rfl
    have HAM := Lib.hid (amongB_any g (t + 2) w1.heap.size 15 15 w2 (hc1.next_ hb2) (by omega) _ hnum)
    have BR2 := BR1.next hb2
    have hgr2 := growB_trans hgr1 (toGr (r := some g) hb2)
    have hz2 := hb2.size
    clear hnum BR1
    go_wp2_with fail
    rw [← HW2.out]
    refine HAM.out.mono ?_
    rintro e w3 ⟨k, hk, rfl, hc3, hg3⟩
    have BR3 := BR2.grownG hg3 hr0g
    have hgr3 := growB_trans hgr2 hg3
    have hz3 := hg3.size
    have HKN := Lib.hid (l2Known_any k w3 hk)
    clear HAM BR2 hg3
    go_wp2_with fail
    refine HKN.out.mono ?_
    rintro e w4 ⟨⟨z, ops⟩, ⟨cs, bl, rfl, O4, I4, hb4⟩, hsm⟩
    obtain ⟨n, rfl⟩ : ∃ n : Nat, z = (n : Int) := ⟨z.toNat, by have h1 : 1 ≤ z := hsm.1; omega⟩
    have hn5 : n ≤ 5 := by have h1 : (n : Int) ≤ 5 := hsm.2.1; omega
    obtain ⟨A, m, c, rfl, -, -⟩ := rdAlgebra (shAlgebra.ord O4)
    have BR4 := BR3.next hb4
    have hz4 := hb4.size
    obtain ⟨w5, HW5⟩ : ∃ wb, Hid (wb = w4.alloc (.cells #[.int .i64 (n : Int), .slice A m c] 26)) := ⟨_, Lib.hid rfl⟩
    have hb5 : Below w4.heap.size w4 w5 := by rw [HW5.out]; exact below_box _ _
    have BX : Blk w5 w4.heap.size 26 #[.int .i64 (n : Int), .slice A m c] := by rw [HW5.out]; exact Blk.new _ _ _
    have BR5 := BR4.next hb5
    have hc5 := (hc3.next_ hb4).next_ hb5
    have hgr5 := growB_trans (growB_trans hgr3 (toGr (r := some g) hb4)) (toGr (r := some g) hb5)
    have O5 := Sh.onext O4 hb5
    have hz5 := hb5.size
    have hxg : w4.heap.size ≠ g := by omega
    have HNM := Lib.hid (names2_any B g (t + 2 + 2) n w5 hc5 (by omega) (by omega) (by omega))
    have cX0 := BX.cell 0
    simp at cX0
    have HSM := Lib.hid hsm
    clear HKN BR3 BR4 hc3 hc5 O4 hsm
    go_upto_region 4 with fail
    rw [← HW5.out]
    go_wp2_with fail
    refine HNM.out.mono ?_
    rintro e w6 ⟨N, p, cN, L, rfl, hown, hL, hp, hc6, hg6⟩
    have BX6 := BX.grownG hg6 hxg
    have BR6 := BR5.grownG hg6 hr0g
    have hgr6 := growB_trans hgr5 hg6
    have O6 := Sh.ogrown O5 hg6 I4 (by omega)
    have hz6 := hg6.size
    have hrd := rd_of_own (R := RI) hown (RI_ints fun v hv => by have := hL v hv; omega)
    obtain ⟨pb, HPB⟩ : ∃ b, Hid (permB n L = b) := ⟨_, Lib.hid rfl⟩
    have HPM : Hid (Calls Try.prog 26 #[.slice N p cN, .int .i64 (n : Int)] w6 (Bl w6 (.bool pb))) := by
      have := l2PermB_any N p cN n L w6 hrd (by omega)
      rw [HPB.out] at this
      exact this
    clear cX0
    have cX0 := BX6.cell 0
    have cX1 := BX6.cell 1
    simp at cX0 cX1
    clear HNM BX BR5 O5 hg6
    go_wp2_with fail
    refine HPM.out.mono ?_
    rintro e w7 ⟨rfl, hb7⟩
    have BX7 := BX6.next hb7
    have BR7 := BR6.next hb7
    have hgr7 := growB_trans hgr6 (toGr (r := some g) hb7)
    have O7 := Sh.onext O6 hb7
    have hrd7 := hrd.next stab_RI hb7
    have hc7 := hc6.next_ hb7
    have hz7 := hb7.size
    clear cX0 cX1
    have cX0 := BX7.cell 0
    have cX1 := BX7.cell 1
    simp at cX0 cX1
    clear HPM BX6 BR6 O6 hc6 hown hrd
    rcases pb with _ | _
    · obtain ⟨wf, HWF⟩ : ∃ wf, Hid (wf = (w7.setCell ⟨w.heap.size, 0, none⟩ (.int .i64 (n : Int))).setCell ⟨w.heap.size, 1, none⟩ (.slice A m c)) := ⟨_, Lib.hid rfl⟩
      have HFIN := Lib.hid (alg_fin (t' := t + 2100) (x := ((n : Int), ops)) BR7 O7 (I4.mono (by omega) (by omega)) (small_q5 HSM.out) hc7 hgr7 hB hr0g (by omega) wf HWF.out)
      have cR0 := BR7.cell 0
      have cR1 := BR7.cell 1
      simp at cR0 cR1
      have fR0 := BR7.frozen 0
      have fR1 := BR7.frozen 1
      clear BX7 BR7 O7 hc7 hgr7 hrd7
      go_wp2_with fail
      rw [← HWF.out]
      (try simp only [Exit.inBlock, Exit.then])
      refine bodyPost_ret (v := .agg #[.int .i64 (n : Int), .slice A m c]) (results_cell_row rfl _ _ w.heap.size 26 #[.int .i64 (n : Int), .slice A m c] (0, 0) _ (by simp) HFIN.out.1 Try.underlying26 rfl (by kernel_rfl)) rfl ?_
      exact HFIN.out.2
    · have hpm : PermL n L := tt_iff.1 HPB.out
      have HRN : Hid (Calls Try.prog 28 #[.agg #[.int .i64 (n : Int), .slice A m c], .slice N p cN] w7 (AlgE w7 (ren ((n : Int), ops) L))) := l2Rename_any [.int .i64 (n : Int), .slice A m c] ((n : Int), ops) N p cN L w7 (shAlgebra.ord O7) hrd7 HSM.out (by simpa using hpm)
      have HSR := Lib.hid (small_q5 (ren_small (x := ((n : Int), ops)) (s := L) (by simpa using hpm) HSM.out))
      clear hpm
      go_wp2_with fail
      refine HRN.out.mono ?_
      rintro e w8 ⟨v8, css, bls, rfl, PX, hb8⟩
      have BR8 := BR7.next hb8
      have hgr8 := growB_trans hgr7 (toGr (r := some g) hb8)
      have hc8 := hc7.next_ hb8
      have hz8 := hb8.size
      obtain ⟨A8, c8, rfl⟩ := own_slice PX.2.1
      obtain ⟨M8, HM8⟩ : ∃ M, Hid ((ren ((n : Int), ops) L).2.length = M) := ⟨_, Lib.hid rfl⟩
      have hn8 : (ren ((n : Int), ops) L).1 = (n : Int) := rfl
      have O8 := PX.algK (a := (ren ((n : Int), ops) L).1) ⟨by rw [hn8]; omega, by rw [hn8]; omega⟩
      have I8 := PX.2.2
      rw [HM8.out] at O8 I8 ⊢
      obtain ⟨wf, HWF⟩ : ∃ wf, Hid (wf = (w8.setCell ⟨w.heap.size, 0, none⟩ (.int .i64 (n : Int))).setCell ⟨w.heap.size, 1, none⟩ (.slice A8 M8 c8)) := ⟨_, Lib.hid rfl⟩
      have HFIN := Lib.hid (alg_fin (t' := t + 2100) (x := ren ((n : Int), ops) L) BR8 O8 (I8.mono (by omega) (Nat.le_refl _)) HSR.out hc8 hgr8 hB hr0g (by omega) wf HWF.out)
      have cR0 := BR8.cell 0
      have cR1 := BR8.cell 1
      simp at cR0 cR1
      have fR0 := BR8.frozen 0
      have fR1 := BR8.frozen 1
      clear BX7 BR7 BR8 O7 O8 I8 PX hc7 hc8 hgr7 hgr8 hrd7
      go_wp2_with fail
      rw [← HWF.out]
      (try simp only [Exit.inBlock, Exit.then])
      refine bodyPost_ret (v := .agg #[.int .i64 (n : Int), .slice A8 M8 c8]) (results_cell_row rfl _ _ w.heap.size 26 #[.int .i64 (n : Int), .slice A8 M8 c8] (0, 0) _ (by simp) HFIN.out.1 Try.underlying26 rfl (by kernel_rfl)) rfl ?_
      exact HFIN.out.2
  · -- any one
    have HAL := Lib.hid (HALG B g (t + 2) w1 hc1 (by omega) (by omega))
    go_wp2_with fail
    refine HAL.out.mono ?_
    rintro e w2 ⟨cs, x, bl, rfl, O2, I2, hQ, hc2, hg2⟩
    obtain ⟨A, m, c, rfl, -, -⟩ := rdAlgebra (shAlgebra.ord O2)
    have BR2 := BR1.grownG hg2 hr0g
    have hgr2 := growB_trans hgr1 hg2
    have hz2 := hg2.size
    obtain ⟨wf, HWF⟩ : ∃ wf, Hid (wf = (w2.setCell ⟨w.heap.size, 0, none⟩ (.int .i64 x.1)).setCell ⟨w.heap.size, 1, none⟩ (.slice A m c)) := ⟨_, Lib.hid rfl⟩
    have HFIN := Lib.hid (alg_fin (t' := t + 2100) BR2 O2 (I2.mono (by omega) (Nat.le_refl _)) hQ hc2 hgr2 hB hr0g (by omega) wf HWF.out)
    have cR0 := BR2.cell 0
    have cR1 := BR2.cell 1
    simp at cR0 cR1
    have fR0 := BR2.frozen 0
    have fR1 := BR2.frozen 1
    clear HAL BR1 BR2 O2 I2 hc2 hgr2 hg2
    go_wp2_with fail
    rw [← HWF.out]
    (try simp only [Exit.inBlock, Exit.then])
    refine bodyPost_ret (v := .agg #[.int .i64 x.1, .slice A m c]) (results_cell_row rfl _ _ w.heap.size 26 #[.int .i64 x.1, .slice A m c] (0, 0) _ (by simp) HFIN.out.1 Try.underlying26 rfl (by kernel_rfl)) rfl ?_
    exact HFIN.out.2
end Go.Proofs.Ytbkgbckbbnflpaa
