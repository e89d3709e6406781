
/- Walks: drawn names. Printed by gennm.py. -/
import Derived.Test.YtlncpabnlnipoaaGrow
namespace Go.Proofs.Ytlncpabnlnipoaa
open Go.RowKit

theorem rd_one {w : World} {g : Nat} {u : Int} (h : w.cell? ⟨g, 0, none⟩ = some (.int .i64 u)) (hu : -9223372036854775808 ≤ u ∧ u ≤ 9223372036854775807) : RdL RI w (some ⟨g, 0, none⟩) 1 [u] := by
  refine ⟨rfl, by unfold maxLen; omega, fun k x hk => ?_⟩
  have hk1 := (List.getElem?_eq_some_iff.1 hk).1
  simp at hk1
  subst hk1
  simp at hk
  subst hk
  exact ⟨g, 0, .int .i64 u, rfl, h, rfl, hu.1, hu.2⟩
theorem nums3n (w : World) (g : Nat) (n : Nat) (hn : n ≤ 1000) (hg : g < w.heap.size) {k : Nat} (hk : k = w.heap.size) : NumsP (fun x => -1 ≤ x ∧ x ≤ n) (w.alloc (.cells #[.int .i64 0, .int .i64 (-1), .int .i64 n] 3)) g k 3 := by
  subst hk
  refine ⟨by omega, by omega, by omega, fun i hi => ?_⟩
  have hc := (Blk.new w 3 #[.int .i64 0, .int .i64 (-1), .int .i64 n]).cell i
  rcases (by omega : i = 0 ∨ i = 1 ∨ i = 2) with rfl | rfl | rfl
  · exact ⟨0, ⟨by omega, by omega⟩, hc⟩
  · exact ⟨-1, ⟨by omega, by omega⟩, hc⟩
  · exact ⟨n, ⟨by omega, by omega⟩, hc⟩
/-- What drawn names are. -/
def NamD (B n : Nat) (w : World) (g t : Nat) (e : Ending) (w' : World) : Prop := ∃ A m c L, e = .returned (.slice A m c) ∧ w'.ownsRow w.heap.size 3 1 (.slice A m c) m (ints L) ∧ (∀ x ∈ L, -1 ≤ x ∧ x ≤ (n : Int)) ∧ m ≤ n + 1 ∧ CurB B w' g t ∧ w.grownBy w' (some g)
set_option linter.unusedVariables false in
set_option maxRecDepth 20000 in
set_option maxHeartbeats 8000000 in
theorem names2_any (B g t n : Nat) (w : World) (h : CurB B w g t) (hB : B ≤ w.heap.size) (ht : t ≤ 999990000) (hn : n ≤ 100) :
    Calls Try.prog 46 #[.pointer (some ⟨g, 0, none⟩), .int .i64 n] w (NamD B n w g (t + 2 * n + 10)) := by
  have hgl := h.lt
  have hb0 := below_box w (.cells #[] 3)
  have hown0 : (w.alloc (.cells #[] 3)).ownsRow w.heap.size 3 1 (.slice (some ⟨w.heap.size, 0, none⟩) 0 0) 0 (ints []) := World.ownsRow_lit w #[] 0 (Nat.le_refl _) (Nat.zero_le _) rfl
  have hc0 := h.next_ hb0
  have hg0 : w.grownBy (w.alloc (.cells #[] 3)) (some g) := growB_box (grown_reflB w _) _
  go_enter Try.func46, Try.ntmps46
  go_wp2_with fail
  go_loopw [5, 6, 7] (fun v i _ wr => ∃ (q b c : Nat) (L : List Int), q ≤ n ∧ i = .int .i64 q ∧ v = .slice (some ⟨b, 0, none⟩) q c ∧ wr.ownsRow w.heap.size 3 1 (.slice (some ⟨b, 0, none⟩) q c) q (ints L) ∧ (∀ x ∈ L, -1 ≤ x ∧ x ≤ (n : Int)) ∧ CurB B wr g (t + 2 * q) ∧ w.grownBy wr (some g)) (fun _ i _ _ => n - (intOf i).toNat)
  case atStart => exact ⟨0, _, 0, [], Nat.zero_le _, rfl, rfl, hown0, fun x hx => by simp at hx, hc0, hg0⟩
  case round =>
    clear hown0 hc0 hg0 hb0
    obtain ⟨q, b, c, L, hq, rfl, rfl, hown, hL, hcur, hgr⟩ := hrel
    have HL := Lib.hid hL
    clear hL
    have hzr := hgr.size
    by_cases hlt : q < n
    · have hq1 : (q : Int) < (n : Int) := by omega
      have hwr : IntKind.i64.wrap ((q : Int) + 1) = (q : Int) + 1 := by rw [IntKind.wrap_i64]; omega
      have HPK := Lib.hid (pickB_any g (t + 2 * q) ((q : Int) + 1) wr hcur (by omega) (by omega))
      go_wp2_with fail
      refine HPK.out.mono ?_
      rintro e w1 ⟨x, hx, rfl, hc1, hg1⟩
      have hown1 := own_grownG hown hg1 hgl
      have hgr1 := growB_trans hgr hg1
      have hz1 := hgr1.size
      obtain ⟨wo, HWO⟩ : ∃ wo : World, wo = w1 := ⟨_, rfl⟩
      subst HWO
      have hxq : x ≤ q := by omega
      have hqc := sort_cap hown1
      have hk0 : (0 : Int) ≤ (x : Int) := by omega
      have hk1 : (x : Int) ≤ (c : Int) := by omega
      have hk3 : (x : Int) ≤ (q : Int) := by omega
      have hrd := rd_of_own (R := RI) hown1 (RI_ints fun y hy => by have := HL.out y hy; omega)
      have H1 := Lib.hid hrd
      obtain ⟨ad, HIF, H2⟩ : ∃ ad, Hid ((if c = x then some (⟨b, 0, none⟩ : Addr) else some ⟨b, x, none⟩) = ad) ∧ Hid (RdL RI wo ad (q - x) (L.drop x)) := by
        by_cases hq : c = x
        · refine ⟨_, if_pos hq, ?_⟩
          have e0 : q - x = 0 := by omega
          have e1 : L.drop x = [] := List.drop_eq_nil_of_le (by rw [(hrd).1]; omega)
          show RdL RI wo _ _ _
          rw [e0, e1]
          exact ⟨rfl, Nat.zero_le _, fun j x hj => by simp at hj⟩
        · exact ⟨_, if_neg hq, by show RdL RI _ _ _ _; simpa using (hrd).drop x⟩
      clear hx hown hown1 hrd HPK
      go_upto_region 6 with fail
      go_region_law (first
        | (refine step_appAny (R := RI) _ rfl (.tmp 19) (.tmp 22) 27 3 rfl (.int .i64 0) 8 Try.underlying27 info_int rfl (by decide) wo.heap.size 0 0 (some ⟨wo.heap.size, 0, none⟩) [] (by rfl) (by first | exact lit0 _ (by simp) | exact (lit0 _ (by simp)).alloc _) (some ⟨b, 0, none⟩) x c (L.take x) (fun y => .int .i64 y) (fun _ => rfl) (by rfl) ((H1.out.take (k := x) (by omega)).next stab_RI (by first | exact (below_drewN (Below.refl _ _) _).alloc (by simp) _ | exact ((below_drewN (Below.refl _ _) _).alloc (by simp) _).alloc (by first | (simp; done) | (simp; omega)) _)) (fun _ _ _ hr => hr.1) (by omega) (by first | (simp; done) | (simp; omega)) ?_; intro A2 c2 w2 hown2 hg2 hb2; simp only [Nat.zero_add, List.nil_append] at hown2)
          | (refine step_appAny (R := RI) _ rfl (.tmp 19) (.tmp 22) 27 3 rfl (.int .i64 0) 8 Try.underlying27 info_int rfl (by decide) wo.heap.size 0 0 (some ⟨wo.heap.size + 1, 0, none⟩) [] (by rfl) (lit1 _ (by simp)) (some ⟨b, 0, none⟩) x c (L.take x) (fun y => .int .i64 y) (fun _ => rfl) (by rfl) ((H1.out.take (k := x) (by omega)).next stab_RI (by first | exact (below_drewN (Below.refl _ _) _).alloc (by simp) _ | exact ((below_drewN (Below.refl _ _) _).alloc (by simp) _).alloc (by first | (simp; done) | (simp; omega)) _)) (fun _ _ _ hr => hr.1) (by omega) (by first | (simp; done) | (simp; omega)) ?_; intro A2 c2 w2 hown2 hg2 hb2; simp only [Nat.zero_add, List.nil_append] at hown2)
          | (refine step_appAny (R := RI) _ rfl (.tmp 23) (.tmp 25) 27 3 rfl (.int .i64 0) 8 Try.underlying27 info_int rfl (by decide) wo.heap.size x c2 A2 (ints (L.take x)) (by rfl) (by exact hown2.alloc _) (some ⟨w2.heap.size, 0, none⟩) 1 1 [(q : Int)] (fun y => .int .i64 y) (fun _ => rfl) (by rfl) (rd_one (cell_new _ rfl) (by omega)) (fun _ _ _ hr => hr.1) (by omega) (by have h1 := hb2.size; first | (simp at h1; omega) | (simp at h1 ⊢; omega) | (simp; omega) | omega) ?_; intro A3 c3 w3 hown3 hg3 hb3; have F3 : Below wo.heap.size wo w3 := (by refine Below.trans ?_ hb3; first | (refine Below.trans ?_ hb2; first | exact (below_drewN (Below.refl _ _) _).alloc (by simp) _ | exact ((below_drewN (Below.refl _ _) _).alloc (by simp) _).alloc (by first | (simp; done) | (simp; omega)) _) | (refine Below.alloc ?_ (by have h1 := hb2.size; first | (simp at h1; omega) | omega) _; refine Below.trans ?_ hb2; first | exact (below_drewN (Below.refl _ _) _).alloc (by simp) _ | exact ((below_drewN (Below.refl _ _) _).alloc (by simp) _).alloc (by first | (simp; done) | (simp; omega)) _)))
          | (refine step_appAny (R := RI) _ rfl (.tmp 23) (.tmp 25) 27 3 rfl (.int .i64 0) 8 Try.underlying27 info_int rfl (by decide) wo.heap.size x c2 A2 (ints (L.take x)) (by rfl) (by exact hown2) (some ⟨wo.heap.size + 1, 0, none⟩) 1 1 [(q : Int)] (fun y => .int .i64 y) (fun _ => rfl) (by rfl) (rd_one (hg2.cell (v := .int .i64 (q : Int)) (cell_new _ (by simp)) (by simp [Value.ownBlock])) (by omega)) (fun _ _ _ hr => hr.1) (by omega) (by have h1 := hb2.size; first | (simp at h1; omega) | (simp at h1 ⊢; omega) | (simp; omega) | omega) ?_; intro A3 c3 w3 hown3 hg3 hb3; have F3 : Below wo.heap.size wo w3 := (by refine Below.trans ?_ hb3; first | (refine Below.trans ?_ hb2; first | exact (below_drewN (Below.refl _ _) _).alloc (by simp) _ | exact ((below_drewN (Below.refl _ _) _).alloc (by simp) _).alloc (by first | (simp; done) | (simp; omega)) _) | (refine Below.alloc ?_ (by have h1 := hb2.size; first | (simp at h1; omega) | omega) _; refine Below.trans ?_ hb2; first | exact (below_drewN (Below.refl _ _) _).alloc (by simp) _ | exact ((below_drewN (Below.refl _ _) _).alloc (by simp) _).alloc (by first | (simp; done) | (simp; omega)) _)))
          | (refine step_appAny (R := RI) _ rfl (.tmp 23) (.tmp 25) 27 3 rfl (.int .i64 0) 8 Try.underlying27 info_int rfl (by decide) wo.heap.size x c2 A2 (ints (L.take x)) (by rfl) (by exact hown2) (some ⟨wo.heap.size, 0, none⟩) 1 1 [(q : Int)] (fun y => .int .i64 y) (fun _ => rfl) (by rfl) (rd_one (hg2.cell (v := .int .i64 (q : Int)) (cell_new2 _ _ (by simp)) (by simp [Value.ownBlock])) (by omega)) (fun _ _ _ hr => hr.1) (by omega) (by have h1 := hb2.size; first | (simp at h1; omega) | (simp at h1 ⊢; omega) | (simp; omega) | omega) ?_; intro A3 c3 w3 hown3 hg3 hb3; have F3 : Below wo.heap.size wo w3 := (by refine Below.trans ?_ hb3; first | (refine Below.trans ?_ hb2; first | exact (below_drewN (Below.refl _ _) _).alloc (by simp) _ | exact ((below_drewN (Below.refl _ _) _).alloc (by simp) _).alloc (by first | (simp; done) | (simp; omega)) _) | (refine Below.alloc ?_ (by have h1 := hb2.size; first | (simp at h1; omega) | omega) _; refine Below.trans ?_ hb2; first | exact (below_drewN (Below.refl _ _) _).alloc (by simp) _ | exact ((below_drewN (Below.refl _ _) _).alloc (by simp) _).alloc (by first | (simp; done) | (simp; omega)) _)))
          | (refine step_appAny (R := RI) _ rfl (.tmp 26) (.tmp 29) 27 3 rfl (.int .i64 0) 8 Try.underlying27 info_int rfl (by decide) wo.heap.size (x + 1) c3 A3 (ints (L.take x) ++ [.int .i64 (q : Int)]) (by rfl) (by exact hown3) ad (q - x) (c - x) (L.drop x) (fun y => .int .i64 y) (fun _ => rfl) (by first | rfl | (show Value.slice (if c = x then _ else _) _ _ = _; rw [HIF.out])) (H2.out.next stab_RI F3) (fun _ _ _ hr => hr.1) (by omega) (by exact F3.size) ?_; intro A4 c4 w4 hown4 hg4 hb4))
      all_goals
        have e1 : x + 1 + (q - x) = q + 1 := by omega
        rw [e1] at hown4
        have eL : ints (L.take x) ++ [.int .i64 (q : Int)] ++ (L.drop x).map (fun y => .int .i64 y) = ints (L.take x ++ (q : Int) :: L.drop x) := by simp [ints]
        rw [eL] at hown4
        obtain ⟨g4, hA4, -, -⟩ := own_form hown4 (by omega)
        subst hA4
        have HO4 := Lib.hid hown4
        have HF4 := Lib.hid (F3.trans hb4)
        have HE1 := Lib.hid e1
        clear hown4 eL e1
        have hTc := HF4.out
        go_wp2_with fail
        go_roundw
        case rel => exact ⟨q + 1, g4, c4, _, by omega, by go_num, by rw [HE1.out], own_mono HO4.out hz1, fun y hy => by
          rcases List.mem_append.1 hy with hy | hy
          · exact HL.out y (List.mem_of_mem_take hy)
          · rcases List.mem_cons.1 hy with rfl | hy
            · omega
            · exact HL.out y (List.mem_of_mem_drop hy), (hc1.next_ hTc).mono (by omega), growB_trans hgr1 (toGr hTc)⟩
        case measure => simp [intOf]; omega
    · obtain rfl : q = n := by omega
      have hq1 : ¬ (q : Int) < (q : Int) := by omega
      have HPK := Lib.hid (pickB_any g (t + 2 * q) 24 wr hcur (by omega) (by omega))
      go_wp2_with fail
      refine HPK.out.mono ?_
      rintro e w1 ⟨x, hx, rfl, hc1, hg1⟩
      have hown1 := own_grownG hown hg1 hgl
      have hgr1 := growB_trans hgr hg1
      have hz1 := hgr1.size
      clear hown HPK hx
      rcases (by omega : (x : Int) = 0 ∨ (x : Int) = 1 ∨ 1 < (x : Int)) with hx | hx | hx
      · have hx0 : ((x : Int) == 0) = true := by simp; omega
        have hx1 : ((x : Int) == 1) = false := by simp; omega
        go_wp2_with (at_builtin; refine app1 w1 rfl _ _ 27 3 rfl (.int .i64 0) 8 Try.underlying27 info_int rfl (by decide) w.heap.size q c (some ⟨b, 0, none⟩) (ints L) rfl hown1 (.int .i64 q) rfl rfl (by omega) hz1 ?_; intro A2 c2 w2 hown2 hg2 hb2)
        have HO := Lib.hid hown2
        clear hown2
        go_ret
        refine ⟨A2, q + 1, c2, L ++ [(q : Int)], rfl, ?_, fun y hy => ?_, by omega, (hc1.grown hg2 fun r hr => by have := (hown1.lt r hr).1; omega).mono (by omega), growB_own hgr1 hg2 fun r hr => (hown1.lt r hr).1⟩
        · rw [← ints_snocG]; exact HO.out
        · rcases List.mem_append.1 hy with hy | hy
          · exact HL.out y hy
          · rw [List.mem_singleton.1 hy]; omega
      · have hx0 : ((x : Int) == 0) = false := by simp; omega
        have hx1 : ((x : Int) == 1) = true := by simp; omega
        by_cases hn0 : 0 < q
        · have hn1 : (0 : Int) < (q : Int) := by omega
          have HPK := Lib.hid (pickB_any g (t + 2 * q + 2) (q : Int) w1 hc1 (by omega) (by omega))
          go_wp2_with fail
          refine HPK.out.mono ?_
          rintro e w2 ⟨y, hy, rfl, hc2, hg2⟩
          have hown2 := own_grownG hown1 hg2 hgl
          have hgr2 := growB_trans hgr1 hg2
          obtain ⟨w3, HW3⟩ : ∃ wb, Hid (wb = w2.alloc (.cells #[.int .i64 0, .int .i64 (-1), .int .i64 q] 3)) := ⟨_, rfl⟩
          have hb3 : Below w2.heap.size w2 w3 := by rw [HW3.out]; exact below_box _ _
          have hnum : NumsP (fun x => -1 ≤ x ∧ x ≤ (q : Int)) w3 g w2.heap.size 3 := by rw [HW3.out]; exact nums3n w2 g q (by omega) hc2.lt rfl
          have HAM := Lib.hid (amongB_any g (t + 2 * q + 2 + 2) w2.heap.size 3 3 w3 (hc2.next_ hb3) (by omega) _ hnum)
          have hown3 := own_next hown2 hb3
          have hgr3 := growB_trans hgr2 (toGr (r := some g) hb3)
          have hyq : y < q := by omega
          clear hown1 hown2 hnum HPK hy
          go_wp2_with fail
          rw [← HW3.out]
          refine HAM.out.mono ?_
          rintro e w4 ⟨z, hz, rfl, hc4, hg4⟩
          have hown4 := own_grownG hown3 hg4 hgl
          have hgr4 := growB_trans hgr3 hg4
          have hy0 : (0 : Int) ≤ (y : Int) := by omega
          have hy1 : (y : Int) < (q : Int) := by omega
          have hfz := hown4.frozenAt y
          obtain ⟨v0, hcl⟩ : ∃ v0, w4.cell? ⟨b, y, none⟩ = some v0 := ⟨_, (hown4.cellAt y (by omega)).trans (List.getElem?_eq_getElem (by have := hown4.1; omega))⟩
          obtain ⟨hst, -⟩ := hown4.stored y (.int .i64 z)
          have hG4 : w4.grownBy (w4.setCell ⟨b, y, none⟩ (.int .i64 z)) (some b) := grown_setB (grown_reflB w4 _) rfl _
          have hbw : w.heap.size ≤ b := (hown4.lt b rfl).1
          have hc5 := (hc4.grown hG4 fun r hr => by injection hr with hr; omega).mono (t' := t + 2 * q + 10) (by omega)
          have hgr5 := growB_own hgr4 hG4 fun r hr => by injection hr with hr; omega
          have HST := Lib.hid hst
          clear hown3 hown4 hst HAM
          go_wp2_with fail
          go_ret
          refine ⟨_, q, c, L.set y z, rfl, ?_, fun v hv => ?_, by omega, hc5, hgr5⟩
          · have e : ints (L.set y z) = (ints L).set y (.int .i64 z) := by simp [ints, List.map_set]
            rw [e]
            exact HST.out
          · rcases List.mem_or_eq_of_mem_set hv with hv | rfl
            · exact HL.out v hv
            · omega
        · have hn1 : ¬ (0 : Int) < (q : Int) := by omega
          have HO := Lib.hid hown1
          clear hown1
          go_wp2_with fail
          go_ret
          exact ⟨_, q, c, L, rfl, HO.out, HL.out, by omega, hc1.mono (by omega), hgr1⟩
      · have hx0 : ((x : Int) == 0) = false := by simp; omega
        have hx1 : ((x : Int) == 1) = false := by simp; omega
        have HO := Lib.hid hown1
        clear hown1
        go_wp2_with fail
        go_ret
        exact ⟨_, q, c, L, rfl, HO.out, HL.out, by omega, hc1.mono (by omega), hgr1⟩
end Go.Proofs.Ytlncpabnlnipoaa
