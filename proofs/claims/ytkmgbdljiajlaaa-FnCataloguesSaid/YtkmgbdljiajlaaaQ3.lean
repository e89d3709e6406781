/- Parts of the proof: Grow, Names2, DrL, HEntry, PE, Names, First, Each, Canon, CNames, CForm, Cat5, Own2, Same, Tt, PutX, HIdentity, HLabStep, Step, TermP, Grp, MapS. -/
import Derived.Test.YtkmgbdljiajlaaaQ2
import Derived.Deep.OwnRows
import Derived.Test.YtkmgbdljiajlaaaQ1
import Derived.Deep.RegionHeld3
import Derived.Deep.DeepCutAuto
import Derived.Deep.DeepAppendRoom
import Derived.ArgAppend
import Derived.Deep.RegionLaw
import Derived.Maps.Own
import Derived.Maps.OwnSet
import Derived.Maps.Views
namespace Go.Proofs.Ytkmgbdljiajlaaa
open Go.RowKit

theorem growB_trans {w w1 w2 : World} {r : Option Nat} (h : w.grownBy w1 r) (k : w1.grownBy w2 r) : w.grownBy w2 r :=
  ⟨k.os.trans h.os, k.tape.trans h.tape, k.output.trans h.output, Nat.le_trans h.size k.size, fun b hb hne => (k.block b (Nat.lt_of_lt_of_le hb h.size) hne).trans (h.block b hb hne)⟩
theorem growB_own {w w1 w2 : World} {r row : Option Nat} (h : w.grownBy w1 r) (k : w1.grownBy w2 row) (hr : ∀ q, row = some q → w.heap.size ≤ q) : w.grownBy w2 r :=
  ⟨k.os.trans h.os, k.tape.trans h.tape, k.output.trans h.output, Nat.le_trans h.size k.size, fun b hb hne => (k.block b (Nat.lt_of_lt_of_le hb h.size) (fun e => by have := hr b e.symm; omega)).trans (h.block b hb hne)⟩
theorem growB_box {w w1 : World} {r : Option Nat} (h : w.grownBy w1 r) (o : Obj) : w.grownBy (w1.alloc o) r :=
  ⟨h.os, h.tape, h.output, Nat.le_trans h.size (by simp), fun b hb hne => (Below.heap_alloc w1 o b (Nat.lt_of_lt_of_le hb h.size)).trans (h.block b hb hne)⟩
theorem own_grownG {w w' : World} {base size n g : Nat} {e : TypeId} {v : Value} {xs : List Value} (h : w.ownsRow base e size v n xs) (hg : w.grownBy w' (some g)) (hb : g < base) : w'.ownsRow base e size v n xs :=
  own_same h fun b hv => hg.block b (h.lt b hv).2 (fun e => by injection e with e; have := (h.lt b hv).1; omega)
theorem rdl_grown {α : Type} {R : World → Value → α → Prop} {w w' : World} {A : Option Addr} {n g : Nat} {xs : List α} (h : RdL R w A n xs) (hA : ∀ b o, A = some ⟨b, o, none⟩ → b ≠ g) (hR : ∀ v x, R w v x → R w' v x) (hg : w.grownBy w' (some g)) : RdL R w' A n xs :=
  ⟨h.1, h.2.1, fun k x hk => by
    obtain ⟨b, o, v, e, hc, hr⟩ := h.2.2 k x hk
    exact ⟨b, o, v, e, (World.cell?_of_block (hg.block b (cell_lt hc) (fun e2 => hA b o e (by injection e2)))).trans hc, hR v x hr⟩⟩
theorem NumsP.grown {P : Int → Prop} {w w' : World} {g b n : Nat} (h : NumsP P w g b n) (hg : w.grownBy w' (some g)) : NumsP P w' g b n :=
  ⟨h.1, h.2.1, h.2.2.1, fun i hi => by
    obtain ⟨x, hx, hc⟩ := h.2.2.2 i hi
    exact ⟨x, hx, (World.cell?_of_block (hg.block b (cell_lt hc) (by simpa using h.1))).trans hc⟩⟩
theorem toGr {w w' : World} {r : Option Nat} (h : Below w.heap.size w w') : w.grownBy w' r := ⟨h.os, h.tape, h.output, h.size, fun b hb _ => h.block b hb⟩
def Off (q : Nat) (A : Option Addr) : Prop := ∀ b o, A = some ⟨b, o, none⟩ → b ≠ q
def RG (q : Nat) (w : World) (v : Value) (xs : List Int) : Prop := ∃ A n c, v = .slice A n c ∧ RdL RI w A n xs ∧ Off q A
section
variable {lo g n : Nat} {w w1 : World} {v : Value} {F : List (List Int)}
theorem RdL.grownG {w' : World} {A : Option Addr} (h : RdL (RG g) w A n F) (hA : Off g A) (hg : w.grownBy w' (some g)) : RdL (RG g) w' A n F :=
  rdl_grown h hA (fun _ _ ⟨A', n', c', e, hr, ho⟩ => ⟨A', n', c', e, rdl_grown hr ho (fun _ _ h => h) hg, ho⟩) hg
end
theorem ints_snocG (xs : List Int) (y : Int) : ints xs ++ [.int .i64 y] = ints (xs ++ [y]) := by simp [ints]
end Go.Proofs.Ytkmgbdljiajlaaa
namespace Go.Proofs.Ytkmgbdljiajlaaa
open Go.RowKit

theorem rd_one {w : World} {g : Nat} {u : Int} (h : w.cell? ⟨g, 0, none⟩ = some (.int .i64 u)) (hu : -9223372036854775808 ≤ u ∧ u ≤ 9223372036854775807) : RdL RI w (some ⟨g, 0, none⟩) 1 [u] := by
  refine ⟨rfl, by unfold maxLen; omega, fun k x hk => ?_⟩
  have hk1 := (List.getElem?_eq_some_iff.1 hk).1
  simp at hk1
  subst hk1
  simp at hk
  subst hk
  exact ⟨g, 0, .int .i64 u, rfl, h, rfl, hu.1, hu.2⟩
theorem nums3n (w : World) (g : Nat) (n : Nat) (hn : n ≤ 1000) (hg : g < w.heap.size) {k : Nat} (hk : k = w.heap.size) : NumsP (fun x => -1 ≤ x ∧ x ≤ n) (w.alloc (.cells #[.int .i64 0, .int .i64 (-1), .int .i64 n] 3)) g k 3 := by
  subst hk
  refine ⟨by omega, by omega, by omega, fun i hi => ?_⟩
  have hc := (Blk.new w 3 #[.int .i64 0, .int .i64 (-1), .int .i64 n]).cell i
  rcases (by omega : i = 0 ∨ i = 1 ∨ i = 2) with rfl | rfl | rfl
  · exact ⟨0, ⟨by omega, by omega⟩, hc⟩
  · exact ⟨-1, ⟨by omega, by omega⟩, hc⟩
  · exact ⟨n, ⟨by omega, by omega⟩, hc⟩
/-- What drawn names are. -/
def NamD (B n : Nat) (w : World) (g t : Nat) (e : Ending) (w' : World) : Prop := ∃ A m c L, e = .returned (.slice A m c) ∧ w'.ownsRow w.heap.size 3 1 (.slice A m c) m (ints L) ∧ (∀ x ∈ L, -1 ≤ x ∧ x ≤ (n : Int)) ∧ m ≤ n + 1 ∧ CurB B w' g t ∧ w.grownBy w' (some g)
set_option linter.unusedVariables false in
set_option maxRecDepth 20000 in
set_option maxHeartbeats 8000000 in
theorem names2_any (B g t n : Nat) (w : World) (h : CurB B w g t) (hB : B ≤ w.heap.size) (ht : t ≤ 999990000) (hn : n ≤ 100) :
    Calls Try.prog 58 #[.pointer (some ⟨g, 0, none⟩), .int .i64 n] w (NamD B n w g (t + 2 * n + 10)) := by
  have hgl := h.lt
  have hb0 := below_box w (.cells #[] 3)
  have hown0 : (w.alloc (.cells #[] 3)).ownsRow w.heap.size 3 1 (.slice (some ⟨w.heap.size, 0, none⟩) 0 0) 0 (ints []) := World.ownsRow_lit w #[] 0 (Nat.le_refl _) (Nat.zero_le _) rfl
  have hc0 := h.next_ hb0
  have hg0 : w.grownBy (w.alloc (.cells #[] 3)) (some g) := growB_box (grown_reflB w _) _
  go_enter Try.func58, Try.ntmps58
  go_wp2_with fail
  go_loopw [5, 6, 7] (fun v i _ wr => ∃ (q b c : Nat) (L : List Int), q ≤ n ∧ i = .int .i64 q ∧ v = .slice (some ⟨b, 0, none⟩) q c ∧ wr.ownsRow w.heap.size 3 1 (.slice (some ⟨b, 0, none⟩) q c) q (ints L) ∧ (∀ x ∈ L, -1 ≤ x ∧ x ≤ (n : Int)) ∧ CurB B wr g (t + 2 * q) ∧ w.grownBy wr (some g)) (fun _ i _ _ => n - (intOf i).toNat)
  case atStart => exact ⟨0, _, 0, [], Nat.zero_le _, rfl, rfl, hown0, fun x hx => by simp at hx, hc0, hg0⟩
  case round =>
    clear hown0 hc0 hg0 hb0
    obtain ⟨q, b, c, L, hq, rfl, rfl, hown, hL, hcur, hgr⟩ := hrel
    have HL := Lib.hid hL
    clear hL
    have hzr := hgr.size
    by_cases hlt : q < n
    · have hq1 : (q : Int) < (n : Int) := by omega
      have hwr : IntKind.i64.wrap ((q : Int) + 1) = (q : Int) + 1 := by rw [IntKind.wrap_i64]; omega
      have HPK := Lib.hid (pickB_any g (t + 2 * q) ((q : Int) + 1) wr hcur (by omega) (by omega))
      go_wp2_with fail
      refine HPK.out.mono ?_
      rintro e w1 ⟨x, hx, rfl, hc1, hg1⟩
      have hown1 := own_grownG hown hg1 hgl
      have hgr1 := growB_trans hgr hg1
      have hz1 := hgr1.size
      obtain ⟨wo, HWO⟩ : ∃ wo : World, wo = w1 := ⟨_, rfl⟩
      subst HWO
      have hxq : x ≤ q := by omega
      have hqc := sort_cap hown1
      have hk0 : (0 : Int) ≤ (x : Int) := by omega
      have hk1 : (x : Int) ≤ (c : Int) := by omega
      have hk3 : (x : Int) ≤ (q : Int) := by omega
      have hrd := rd_of_own (R := RI) hown1 (RI_ints fun y hy => by have := HL.out y hy; omega)
      have H1 := Lib.hid hrd
      obtain ⟨ad, HIF, H2⟩ : ∃ ad, Hid ((if c = x then some (⟨b, 0, none⟩ : Addr) else some ⟨b, x, none⟩) = ad) ∧ Hid (RdL RI wo ad (q - x) (L.drop x)) := by
        by_cases hq : c = x
        · refine ⟨_, if_pos hq, ?_⟩
          have e0 : q - x = 0 := by omega
          have e1 : L.drop x = [] := List.drop_eq_nil_of_le (by rw [(hrd).1]; omega)
          show RdL RI wo _ _ _
          rw [e0, e1]
          exact ⟨rfl, Nat.zero_le _, fun j x hj => by simp at hj⟩
        · exact ⟨_, if_neg hq, by show RdL RI _ _ _ _; simpa using (hrd).drop x⟩
      clear hx hown hown1 hrd HPK
      go_upto_region 6 with fail
      go_region_law (first
        | (refine step_appAny (R := RI) _ rfl (.tmp 19) (.tmp 22) 55 3 rfl (.int .i64 0) 8 Try.underlying55 info_int rfl (by decide) wo.heap.size 0 0 (some ⟨wo.heap.size, 0, none⟩) [] (by rfl) (by first | exact lit0 _ (by simp) | exact (lit0 _ (by simp)).alloc _) (some ⟨b, 0, none⟩) x c (L.take x) (fun y => .int .i64 y) (fun _ => rfl) (by rfl) ((H1.out.take (k := x) (by omega)).next stab_RI (by first | exact (below_drewN (Below.refl _ _) _).alloc (by simp) _ | exact ((below_drewN (Below.refl _ _) _).alloc (by simp) _).alloc (by first | (simp; done) | (simp; omega)) _)) (fun _ _ _ hr => hr.1) (by omega) (by first | (simp; done) | (simp; omega)) ?_; intro A2 c2 w2 hown2 hg2 hb2; simp only [Nat.zero_add, List.nil_append] at hown2)
          | (refine step_appAny (R := RI) _ rfl (.tmp 19) (.tmp 22) 55 3 rfl (.int .i64 0) 8 Try.underlying55 info_int rfl (by decide) wo.heap.size 0 0 (some ⟨wo.heap.size + 1, 0, none⟩) [] (by rfl) (lit1 _ (by simp)) (some ⟨b, 0, none⟩) x c (L.take x) (fun y => .int .i64 y) (fun _ => rfl) (by rfl) ((H1.out.take (k := x) (by omega)).next stab_RI (by first | exact (below_drewN (Below.refl _ _) _).alloc (by simp) _ | exact ((below_drewN (Below.refl _ _) _).alloc (by simp) _).alloc (by first | (simp; done) | (simp; omega)) _)) (fun _ _ _ hr => hr.1) (by omega) (by first | (simp; done) | (simp; omega)) ?_; intro A2 c2 w2 hown2 hg2 hb2; simp only [Nat.zero_add, List.nil_append] at hown2)
          | (refine step_appAny (R := RI) _ rfl (.tmp 23) (.tmp 25) 55 3 rfl (.int .i64 0) 8 Try.underlying55 info_int rfl (by decide) wo.heap.size x c2 A2 (ints (L.take x)) (by rfl) (by exact hown2.alloc _) (some ⟨w2.heap.size, 0, none⟩) 1 1 [(q : Int)] (fun y => .int .i64 y) (fun _ => rfl) (by rfl) (rd_one (cell_new _ rfl) (by omega)) (fun _ _ _ hr => hr.1) (by omega) (by have h1 := hb2.size; first | (simp at h1; omega) | (simp at h1 ⊢; omega) | (simp; omega) | omega) ?_; intro A3 c3 w3 hown3 hg3 hb3; have F3 : Below wo.heap.size wo w3 := (by refine Below.trans ?_ hb3; first | (refine Below.trans ?_ hb2; first | exact (below_drewN (Below.refl _ _) _).alloc (by simp) _ | exact ((below_drewN (Below.refl _ _) _).alloc (by simp) _).alloc (by first | (simp; done) | (simp; omega)) _) | (refine Below.alloc ?_ (by have h1 := hb2.size; first | (simp at h1; omega) | omega) _; refine Below.trans ?_ hb2; first | exact (below_drewN (Below.refl _ _) _).alloc (by simp) _ | exact ((below_drewN (Below.refl _ _) _).alloc (by simp) _).alloc (by first | (simp; done) | (simp; omega)) _)))
          | (refine step_appAny (R := RI) _ rfl (.tmp 23) (.tmp 25) 55 3 rfl (.int .i64 0) 8 Try.underlying55 info_int rfl (by decide) wo.heap.size x c2 A2 (ints (L.take x)) (by rfl) (by exact hown2) (some ⟨wo.heap.size + 1, 0, none⟩) 1 1 [(q : Int)] (fun y => .int .i64 y) (fun _ => rfl) (by rfl) (rd_one (hg2.cell (v := .int .i64 (q : Int)) (cell_new _ (by simp)) (by simp [Value.ownBlock])) (by omega)) (fun _ _ _ hr => hr.1) (by omega) (by have h1 := hb2.size; first | (simp at h1; omega) | (simp at h1 ⊢; omega) | (simp; omega) | omega) ?_; intro A3 c3 w3 hown3 hg3 hb3; have F3 : Below wo.heap.size wo w3 := (by refine Below.trans ?_ hb3; first | (refine Below.trans ?_ hb2; first | exact (below_drewN (Below.refl _ _) _).alloc (by simp) _ | exact ((below_drewN (Below.refl _ _) _).alloc (by simp) _).alloc (by first | (simp; done) | (simp; omega)) _) | (refine Below.alloc ?_ (by have h1 := hb2.size; first | (simp at h1; omega) | omega) _; refine Below.trans ?_ hb2; first | exact (below_drewN (Below.refl _ _) _).alloc (by simp) _ | exact ((below_drewN (Below.refl _ _) _).alloc (by simp) _).alloc (by first | (simp; done) | (simp; omega)) _)))
          | (refine step_appAny (R := RI) _ rfl (.tmp 23) (.tmp 25) 55 3 rfl (.int .i64 0) 8 Try.underlying55 info_int rfl (by decide) wo.heap.size x c2 A2 (ints (L.take x)) (by rfl) (by exact hown2) (some ⟨wo.heap.size, 0, none⟩) 1 1 [(q : Int)] (fun y => .int .i64 y) (fun _ => rfl) (by rfl) (rd_one (hg2.cell (v := .int .i64 (q : Int)) (cell_new2 _ _ (by simp)) (by simp [Value.ownBlock])) (by omega)) (fun _ _ _ hr => hr.1) (by omega) (by have h1 := hb2.size; first | (simp at h1; omega) | (simp at h1 ⊢; omega) | (simp; omega) | omega) ?_; intro A3 c3 w3 hown3 hg3 hb3; have F3 : Below wo.heap.size wo w3 := (by refine Below.trans ?_ hb3; first | (refine Below.trans ?_ hb2; first | exact (below_drewN (Below.refl _ _) _).alloc (by simp) _ | exact ((below_drewN (Below.refl _ _) _).alloc (by simp) _).alloc (by first | (simp; done) | (simp; omega)) _) | (refine Below.alloc ?_ (by have h1 := hb2.size; first | (simp at h1; omega) | omega) _; refine Below.trans ?_ hb2; first | exact (below_drewN (Below.refl _ _) _).alloc (by simp) _ | exact ((below_drewN (Below.refl _ _) _).alloc (by simp) _).alloc (by first | (simp; done) | (simp; omega)) _)))
          | (refine step_appAny (R := RI) _ rfl (.tmp 26) (.tmp 29) 55 3 rfl (.int .i64 0) 8 Try.underlying55 info_int rfl (by decide) wo.heap.size (x + 1) c3 A3 (ints (L.take x) ++ [.int .i64 (q : Int)]) (by rfl) (by exact hown3) ad (q - x) (c - x) (L.drop x) (fun y => .int .i64 y) (fun _ => rfl) (by first | rfl | (show Value.slice (if c = x then _ else _) _ _ = _; rw [HIF.out])) (H2.out.next stab_RI F3) (fun _ _ _ hr => hr.1) (by omega) (by exact F3.size) ?_; intro A4 c4 w4 hown4 hg4 hb4))
      all_goals
        have e1 : x + 1 + (q - x) = q + 1 := by omega
        rw [e1] at hown4
        have eL : ints (L.take x) ++ [.int .i64 (q : Int)] ++ (L.drop x).map (fun y => .int .i64 y) = ints (L.take x ++ (q : Int) :: L.drop x) := by simp [ints]
        rw [eL] at hown4
        obtain ⟨g4, hA4, -, -⟩ := own_form hown4 (by omega)
        subst hA4
        have HO4 := Lib.hid hown4
        have HF4 := Lib.hid (F3.trans hb4)
        have HE1 := Lib.hid e1
        clear hown4 eL e1
        have hTc := HF4.out
        go_wp2_with fail
        go_roundw
        case rel => exact ⟨q + 1, g4, c4, _, by omega, by go_num, by rw [HE1.out], own_mono HO4.out hz1, fun y hy => by
          rcases List.mem_append.1 hy with hy | hy
          · exact HL.out y (List.mem_of_mem_take hy)
          · rcases List.mem_cons.1 hy with rfl | hy
            · omega
            · exact HL.out y (List.mem_of_mem_drop hy), (hc1.next_ hTc).mono (by omega), growB_trans hgr1 (toGr hTc)⟩
        case measure => simp [intOf]; omega
    · obtain rfl : q = n := by omega
      have hq1 : ¬ (q : Int) < (q : Int) := by omega
      have HPK := Lib.hid (pickB_any g (t + 2 * q) 24 wr hcur (by omega) (by omega))
      go_wp2_with fail
      refine HPK.out.mono ?_
      rintro e w1 ⟨x, hx, rfl, hc1, hg1⟩
      have hown1 := own_grownG hown hg1 hgl
      have hgr1 := growB_trans hgr hg1
      have hz1 := hgr1.size
      clear hown HPK hx
      rcases (by omega : (x : Int) = 0 ∨ (x : Int) = 1 ∨ 1 < (x : Int)) with hx | hx | hx
      · have hx0 : ((x : Int) == 0) = true := by simp; omega
        have hx1 : ((x : Int) == 1) = false := by simp; omega
        go_wp2_with (at_builtin; refine app1 w1 rfl _ _ 55 3 rfl (.int .i64 0) 8 Try.underlying55 info_int rfl (by decide) w.heap.size q c (some ⟨b, 0, none⟩) (ints L) rfl hown1 (.int .i64 q) rfl rfl (by omega) hz1 ?_; intro A2 c2 w2 hown2 hg2 hb2)
        have HO := Lib.hid hown2
        clear hown2
        go_ret
        refine ⟨A2, q + 1, c2, L ++ [(q : Int)], rfl, ?_, fun y hy => ?_, by omega, (hc1.grown hg2 fun r hr => by have := (hown1.lt r hr).1; omega).mono (by omega), growB_own hgr1 hg2 fun r hr => (hown1.lt r hr).1⟩
        · rw [← ints_snocG]; exact HO.out
        · rcases List.mem_append.1 hy with hy | hy
          · exact HL.out y hy
          · rw [List.mem_singleton.1 hy]; omega
      · have hx0 : ((x : Int) == 0) = false := by simp; omega
        have hx1 : ((x : Int) == 1) = true := by simp; omega
        by_cases hn0 : 0 < q
        · have hn1 : (0 : Int) < (q : Int) := by omega
          have HPK := Lib.hid (pickB_any g (t + 2 * q + 2) (q : Int) w1 hc1 (by omega) (by omega))
          go_wp2_with fail
          refine HPK.out.mono ?_
          rintro e w2 ⟨y, hy, rfl, hc2, hg2⟩
          have hown2 := own_grownG hown1 hg2 hgl
          have hgr2 := growB_trans hgr1 hg2
          obtain ⟨w3, HW3⟩ : ∃ wb, Hid (wb = w2.alloc (.cells #[.int .i64 0, .int .i64 (-1), .int .i64 q] 3)) := ⟨_, rfl⟩
          have hb3 : Below w2.heap.size w2 w3 := by rw [HW3.out]; exact below_box _ _
          have hnum : NumsP (fun x => -1 ≤ x ∧ x ≤ (q : Int)) w3 g w2.heap.size 3 := by rw [HW3.out]; exact nums3n w2 g q (by omega) hc2.lt rfl
          have HAM := Lib.hid (amongB_any g (t + 2 * q + 2 + 2) w2.heap.size 3 3 w3 (hc2.next_ hb3) (by omega) _ hnum)
          have hown3 := own_next hown2 hb3
          have hgr3 := growB_trans hgr2 (toGr (r := some g) hb3)
          have hyq : y < q := by omega
          clear hown1 hown2 hnum HPK hy
          go_wp2_with fail
          rw [← HW3.out]
          refine HAM.out.mono ?_
          rintro e w4 ⟨z, hz, rfl, hc4, hg4⟩
          have hown4 := own_grownG hown3 hg4 hgl
          have hgr4 := growB_trans hgr3 hg4
          have hy0 : (0 : Int) ≤ (y : Int) := by omega
          have hy1 : (y : Int) < (q : Int) := by omega
          have hfz := hown4.frozenAt y
          obtain ⟨v0, hcl⟩ : ∃ v0, w4.cell? ⟨b, y, none⟩ = some v0 := ⟨_, (hown4.cellAt y (by omega)).trans (List.getElem?_eq_getElem (by have := hown4.1; omega))⟩
          obtain ⟨hst, -⟩ := hown4.stored y (.int .i64 z)
          have hG4 : w4.grownBy (w4.setCell ⟨b, y, none⟩ (.int .i64 z)) (some b) := grown_setB (grown_reflB w4 _) rfl _
          have hbw : w.heap.size ≤ b := (hown4.lt b rfl).1
          have hc5 := (hc4.grown hG4 fun r hr => by injection hr with hr; omega).mono (t' := t + 2 * q + 10) (by omega)
          have hgr5 := growB_own hgr4 hG4 fun r hr => by injection hr with hr; omega
          have HST := Lib.hid hst
          clear hown3 hown4 hst HAM
          go_wp2_with fail
          go_ret
          refine ⟨_, q, c, L.set y z, rfl, ?_, fun v hv => ?_, by omega, hc5, hgr5⟩
          · have e : ints (L.set y z) = (ints L).set y (.int .i64 z) := by simp [ints, List.map_set]
            rw [e]
            exact HST.out
          · rcases List.mem_or_eq_of_mem_set hv with hv | rfl
            · exact HL.out v hv
            · omega
        · have hn1 : ¬ (0 : Int) < (q : Int) := by omega
          have HO := Lib.hid hown1
          clear hown1
          go_wp2_with fail
          go_ret
          exact ⟨_, q, c, L, rfl, HO.out, HL.out, by omega, hc1.mono (by omega), hgr1⟩
      · have hx0 : ((x : Int) == 0) = false := by simp; omega
        have hx1 : ((x : Int) == 1) = false := by simp; omega
        have HO := Lib.hid hown1
        clear hown1
        go_wp2_with fail
        go_ret
        exact ⟨_, q, c, L, rfl, HO.out, HL.out, by omega, hc1.mono (by omega), hgr1⟩
end Go.Proofs.Ytkmgbdljiajlaaa
namespace Go.Proofs.Ytkmgbdljiajlaaa
open Go.RowKit
set_option linter.unusedVariables false
set_option linter.unusedSimpArgs false

theorem growB_new {w w' : World} {r : Option Nat} (h : w.grownBy w' r) {p : Addr} (hp : w.heap.size ≤ p.block) (v : Value) : w.grownBy (w'.setCell p v) r :=
  ⟨h.os, h.tape, h.output, by simpa using h.size, fun b hb hne => (Below.heap_setCell w' p v b (by omega)).trans (h.block b hb hne)⟩
theorem CurB.setFar {B g t : Nat} {w : World} (h : CurB B w g t) {p : Addr} (hp : B ≤ p.block) (hg : p.block ≠ g) (v : Value) : CurB B (w.setCell p v) g t :=
  h.grown (row := some p.block) ⟨rfl, rfl, rfl, by simp, fun b hb hne => Below.heap_setCell w p v b (fun e => hne (by rw [e]))⟩ fun r e => by injection e with e; subst e; exact ⟨hp, hg⟩
theorem PO.grownG {lo g : Nat} {w w' : World} {v : Value} {xs : List OpM} {css : List (List Value)} {bls : List (List Nat)} (h : PO lo w v xs css bls) (hg : w.grownBy w' (some g)) (hl : g < lo) : PO lo w' v xs css bls :=
  h.same hg.size fun b hb => hg.block b (h.2.2.2 b hb).2 fun e => by injection e with e; have := (h.2.2.2 b hb).1; omega
theorem Blk.grownG {w w' : World} {b g : Nat} {t : TypeId} {cs : Array Value} (h : Blk w b t cs) (hg : w.grownBy w' (some g)) (hne : b ≠ g) : Blk w' b t cs := h.grown hg fun e => hne (by injection e)
theorem Sh.ogrown {α : Type} {S : Sh α} {w w' : World} {cs : List Value} {x : α} {bl : List Nat} {g lo hi : Nat} (h : S.own w cs x bl) (hg : w.grownBy w' (some g)) (hi' : Iv lo hi bl) (hl : g < lo) : S.own w' cs x bl :=
  S.osame h fun b hb => hg.block b (S.olt h b hb) fun e => by injection e with e; have := (hi'.2 b hb).1; omega
def OpsQ (xs : List OpM) : Prop := ∀ o ∈ xs, 0 ≤ o.1 ∧ o.1 ≤ 3 ∧ 1 ≤ o.2.length ∧ o.2.length ≤ 64
/-- What is said of a drawn algebra. -/
def AlgQ (x : AlgebraM) : Prop := 0 ≤ x.1 ∧ x.1 ≤ 9 ∧ shAlgebra.cnt x ≤ 10000
theorem opsQ_alg {xs : List OpM} {z : Int} (h : OpsQ xs) (hl : xs.length ≤ 8) (h0 : 0 ≤ z) (h9 : z ≤ 9) : AlgQ (z, xs) := by
  refine ⟨h0, h9, ?_⟩
  have h2 : ∀ (l : List OpM), (∀ o ∈ l, o.2.length ≤ 64) → cntS shOp.cnt l ≤ 64 * l.length := by
    intro l hl
    induction l with
    | nil => simp [cntS]
    | cons o l ih =>
      rw [cntS_cons]
      have := hl o (List.mem_cons_self ..)
      have h3 := ih fun a ha => hl a (List.mem_cons_of_mem _ ha)
      have h4 : shOp.cnt o = 0 + o.2.length := rfl
      rw [List.length_cons]
      omega
  have h3 := h2 xs fun o ho => (h o ho).2.2.2
  show 0 + (xs.length + cntS shOp.cnt xs) ≤ 10000
  omega
theorem alg_q {xs : List OpM} {z : Int} (h : ∀ o ∈ xs, o.2.length ≤ 1000) (hl : xs.length ≤ 8) (h0 : 0 ≤ z) (h9 : z ≤ 9) : AlgQ (z, xs) := by
  refine ⟨h0, h9, ?_⟩
  have h2 : ∀ (l : List OpM), (∀ o ∈ l, o.2.length ≤ 1000) → cntS shOp.cnt l ≤ 1000 * l.length := by
    intro l hl
    induction l with
    | nil => simp [cntS]
    | cons o l ih =>
      rw [cntS_cons]
      have := hl o (List.mem_cons_self ..)
      have h3 := ih fun a ha => hl a (List.mem_cons_of_mem _ ha)
      have h4 : shOp.cnt o = 0 + o.2.length := rfl
      rw [List.length_cons]
      omega
  have h3 := h2 xs h
  show 0 + (xs.length + cntS shOp.cnt xs) ≤ 10000
  omega
theorem growB_set {w wr : World} {r : Option Nat} (h : w.grownBy wr r) (p : Addr) (v : Value) : ∀ b, b < w.heap.size → some b ≠ r → b ≠ p.block → (wr.setCell p v).heap[b]? = w.heap[b]? := fun b hb hr hp => (Below.heap_setCell wr p v b hp).trans (h.block b hb hr)
def AlgD (B : Nat) (w : World) (g t : Nat) (e : Ending) (w' : World) : Prop := ∃ cs x bl, e = .returned (.agg cs.toArray) ∧ shAlgebra.own w' cs x bl ∧ Iv w.heap.size w'.heap.size bl ∧ AlgQ x ∧ CurB B w' g t ∧ w.grownBy w' (some g)
theorem small_q {x : AlgebraM} (h : SmallP x) : AlgQ x := by
  refine ⟨by have := h.1; omega, by have := h.2.1; omega, ?_⟩
  have h1 := h.2.2.1
  have h2 : ∀ (l : List OpM), (∀ o ∈ l, o.2.length ≤ 125) → cntS shOp.cnt l ≤ 125 * l.length := by
    intro l hl
    induction l with
    | nil => simp [cntS]
    | cons o l ih =>
      rw [cntS_cons]
      have := hl o (List.mem_cons_self ..)
      have h3 := ih fun a ha => hl a (List.mem_cons_of_mem _ ha)
      have h4 : shOp.cnt o = 0 + o.2.length := rfl
      rw [List.length_cons]
      omega
  have h3 := h2 x.2 fun o ho => by
    obtain ⟨q1, q2, q3, -⟩ := h.2.2.2 o ho
    rw [q3]
    have hn : x.1.toNat ≤ 5 := by have := h.2.1; omega
    have hk : o.1.toNat ≤ 3 := by omega
    calc x.1.toNat ^ o.1.toNat ≤ 5 ^ o.1.toNat := Nat.pow_le_pow_left hn _
      _ ≤ 5 ^ 3 := Nat.pow_le_pow_right (by omega) hk
      _ = 125 := rfl
  show 0 + (x.2.length + cntS shOp.cnt x.2) ≤ 10000
  omega
/-- append of an operation whose blocks are younger than hi. -/
theorem PO.push2 {lo hi : Nat} {w : World} {v : Value} {xs : List OpM} {css : List (List Value)} {bls : List (List Nat)} (h : PO lo w v xs css bls) (hI : Iv lo hi (obl v ++ bls.flatten)) {c : List Value} {x : OpM} {bk : List Nat} (ho : shOp.own w c x bk) (hk : Iv hi w.heap.size bk) (hlh : lo ≤ hi) :
    ∀ {w2 : World} {v' : Value}, w2.ownsRow lo 92 2 v' (xs.length + 1) (css.flatten ++ c) → w.grownBy w2 v.ownBlock → PO lo w2 v' (xs ++ [x]) (css ++ [c]) (bls ++ [bk]) := by
  intro w2 v' hown hg
  have hnd := List.nodup_append.1 h.2.2.1
  have far : ∀ b, b ∈ bls.flatten → w2.heap[b]? = w.heap[b]? := fun b hb' => hg.block b (h.2.2.2 b (List.mem_append_right _ hb')).2 fun e => hnd.2.2 b (mem_obl.2 e.symm) b hb' rfl
  have far2 : ∀ b, b ∈ bk → w2.heap[b]? = w.heap[b]? := fun b hb' => hg.block b (hk.2 b hb').2 fun e => by
    have h3 := (hI.2 b (List.mem_append_left _ (mem_obl.2 e.symm))).2
    have h4 := (hk.2 b hb').1
    omega
  have hl1 := h.1.l1
  have hl2 := h.1.l2
  have hP : Parts shOp 92 w2 v' (xs ++ [x]) (css ++ [c]) (bls ++ [bk]) := by
    refine ⟨?_, by simp [hl1], by simp [hl2], fun k c' x' bk' e1 e2 e3 => ?_⟩
    · rw [List.length_append, List.flatten_append, List.flatten_singleton]
      exact own_mono hown (Nat.zero_le _)
    · by_cases hk' : k < xs.length
      · rw [List.getElem?_append_left (by omega)] at e1 e2 e3
        exact shOp.osame (h.1.el k c' x' bk' e1 e2 e3) fun b hb' => far b (List.mem_flatten.2 ⟨_, List.mem_of_getElem? e3, hb'⟩)
      · have hk2 : k = xs.length := by
          have := (List.getElem?_eq_some_iff.1 e2).1
          simp at this
          omega
        subst hk2
        rw [List.getElem?_append_right (by omega)] at e1 e2 e3
        simp [hl1, hl2] at e1 e2 e3
        subst e1
        subst e2
        subst e3
        exact shOp.osame ho far2
  refine ⟨hP, by rw [List.length_append, List.flatten_append]; simpa using hown, ?_⟩
  rw [List.flatten_append]
  have hz : w.heap.size ≤ w2.heap.size := hg.size
  refine ⟨?_, fun b hb' => ?_⟩
  · rw [List.nodup_append]
    refine ⟨obl_nd _, ?_, fun a ha b hb' e => ?_⟩
    · rw [List.nodup_append]
      refine ⟨hnd.2.1, by simpa using hk.1, fun a ha b hb' e => ?_⟩
      simp at hb'
      subst e
      have h3 := (hI.2 a (List.mem_append_right _ ha)).2
      have h4 := (hk.2 a hb').1
      omega
    · subst e
      obtain ⟨cur, fr, hc⟩ := row_blk hown ha
      have hb2 : a ∈ (bls ++ [bk]).flatten := by rw [List.flatten_append]; exact hb'
      obtain ⟨bq, hbq, hab⟩ := List.mem_flatten.1 hb2
      obtain ⟨k, hk'⟩ := List.getElem?_of_mem hbq
      have hkl := (List.getElem?_eq_some_iff.1 hk').1
      have e1 := hP.l1
      have e2 := hP.l2
      have ho2 := hP.el k _ _ bq (List.getElem?_eq_getElem (by omega)) (List.getElem?_eq_getElem (by omega)) hk'
      obtain ⟨cur2, fr2, hc2⟩ := shOp_blk ho2 hab
      rw [hc] at hc2
      injection hc2 with hc2
      injection hc2 with _ h5
      exact absurd h5 (by decide)
  · rcases List.mem_append.1 hb' with hb' | hb'
    · exact hown.lt b (mem_obl.1 hb')
    · rcases List.mem_append.1 hb' with hb' | hb'
      · have := h.2.2.2 b (List.mem_append_right _ hb')
        omega
      · have := hk.2 b (by simpa using hb')
        omega
theorem own_opF {lo : Nat} {w : World} {a : Int} {L : List Int} {A : Option Addr} {n c : Nat} (ha : InR a) (hn : L.length = n) (h : w.ownsRow lo 3 1 (.slice A n c) n (ints L)) (hL : ∀ x ∈ L, InR x) : shOp.own w [.int .i64 a, .slice A n c] (a, L) (obl (.slice A n c)) ∧ Iv lo w.heap.size (obl (.slice A n c)) := by
  refine ⟨⟨[.int .i64 a], [.slice A n c], [], _, rfl, rfl, ⟨_, rfl, ⟨rfl, ha.1, ha.2⟩, rfl⟩, ⟨_, rfl, ?_, hL, rfl⟩⟩, obl_nd _, fun b hb => h.lt b (mem_obl.1 hb)⟩
  show World.ownsRow _ 0 3 1 _ L.length _
  rw [hn]
  exact own_mono h (Nat.zero_le _)
/-- The numbers of a literal list. -/
theorem numsL (P : Int → Prop) (L : List Int) (w : World) (g : Nat) (hg : g < w.heap.size) (h0 : 0 < L.length) (h1 : L.length ≤ 1000) (hP : ∀ x ∈ L, P x) {k : Nat} (hk : k = w.heap.size) : NumsP P (w.alloc (.cells (ints L).toArray 3)) g k L.length := by
  subst hk
  refine ⟨by omega, h0, h1, fun i hi => ?_⟩
  have hc := (Blk.new w 3 (ints L).toArray).cell i
  refine ⟨L[i], hP _ (List.getElem_mem hi), ?_⟩
  rw [hc]
  simp [ints, hi]
/-- The state of the walk while an algebra is built in the block gA: its rows lie from lo on and below hi. -/
def AlS (B g lo hi gA r0 : Nat) (w wr : World) (z : Int) (xs : List OpM) (t : Nat) : Prop :=
  ∃ A n c css bls, Blk wr gA 27 #[.int .i64 z, .slice A n c] ∧ PO lo wr (.slice A n c) xs css bls ∧ Blk wr r0 27 #[.int .i64 0, .slice none 0 0] ∧ CurB B wr g t ∧ w.grownBy wr (some g) ∧ Iv lo hi (obl (.slice A n c) ++ bls.flatten) ∧ lo ≤ hi ∧ hi ≤ wr.heap.size
section
variable {B g lo hi gA r0 t t' : Nat} {w wr w2 : World} {z : Int} {xs : List OpM}
theorem AlS.cur (h : AlS B g lo hi gA r0 w wr z xs t) (hg : wr.grownBy w2 (some g)) (hc : CurB B w2 g t') (h1 : gA ≠ g) (h2 : r0 ≠ g) (h3 : g < lo) : AlS B g lo hi gA r0 w w2 z xs t' := by
  obtain ⟨A, n, c, css, bls, b1, p1, b2, c1, g1, i1, l1, l2⟩ := h
  exact ⟨A, n, c, css, bls, b1.grownG hg h1, p1.grownG hg h3, b2.grownG hg h2, hc, growB_trans g1 hg, i1, l1, Nat.le_trans l2 hg.size⟩
theorem AlS.next (h : AlS B g lo hi gA r0 w wr z xs t) (hb : Below wr.heap.size wr w2) : AlS B g lo hi gA r0 w w2 z xs t := by
  obtain ⟨A, n, c, css, bls, b1, p1, b2, c1, g1, i1, l1, l2⟩ := h
  exact ⟨A, n, c, css, bls, b1.next hb, p1.next hb, b2.next hb, c1.next_ hb, growB_trans g1 (toGr hb), i1, l1, Nat.le_trans l2 hb.size⟩
theorem AlS.mono (h : AlS B g lo hi gA r0 w wr z xs t) (ht : t ≤ t') : AlS B g lo hi gA r0 w wr z xs t' := by
  obtain ⟨A, n, c, css, bls, b1, p1, b2, c1, g1, i1, l1, l2⟩ := h
  exact ⟨A, n, c, css, bls, b1, p1, b2, c1.mono ht, g1, i1, l1, l2⟩
theorem AlS.cu (h : AlS B g lo hi gA r0 w wr z xs t) : CurB B wr g t := by
  obtain ⟨A, n, c, css, bls, b1, p1, b2, c1, g1, i1, l1, l2⟩ := h
  exact c1
/-- A change of a block from hi on (or of new ones) leaves the state as it is. -/
theorem AlS.far {row : Option Nat} (h : AlS B g lo hi gA r0 w wr z xs t) (hg : wr.grownBy w2 row) (hr : ∀ r, row = some r → hi ≤ r) (h1 : gA < hi) (h2 : r0 < hi) (h3 : g < hi) (hB : B ≤ hi) (hw : w.heap.size ≤ hi) : AlS B g lo hi gA r0 w w2 z xs t := by
  obtain ⟨A, n, c, css, bls, b1, p1, b2, c1, g1, i1, l1, l2⟩ := h
  have hz := hg.size
  have same : ∀ b, b < hi → b < wr.heap.size → w2.heap[b]? = wr.heap[b]? := fun b hb hbs => hg.block b hbs fun e => by have := hr b e.symm; omega
  refine ⟨A, n, c, css, bls, (same _ h1 b1.lt).trans b1, p1.same hz fun b hb => same b (i1.2 b hb).2 (p1.2.2.2 b hb).2, (same _ h2 b2.lt).trans b2, c1.grown hg fun r e => ⟨by have := hr r e; omega, by have := hr r e; omega⟩, ?_, i1, l1, by omega⟩
  exact ⟨hg.os.trans g1.os, hg.tape.trans g1.tape, hg.output.trans g1.output, Nat.le_trans g1.size hz, fun b hb hne => (same b (by omega) (Nat.lt_of_lt_of_le hb g1.size)).trans (g1.block b hb hne)⟩
theorem AlS.setZ {z' : Int} (h : AlS B g lo hi gA r0 w wr z xs t) (h1 : gA < lo) (h2 : r0 ≠ gA) (h3 : B ≤ gA) (h4 : gA ≠ g) (h5 : w.heap.size ≤ gA) : AlS B g lo hi gA r0 w (wr.setCell ⟨gA, 0, none⟩ (.int .i64 z')) z' xs t := by
  obtain ⟨A, n, c, css, bls, b1, p1, b2, c1, g1, i1, l1, l2⟩ := h
  exact ⟨A, n, c, css, bls, by simpa using b1.set_ 0 (.int .i64 z'), p1.far (p := ⟨gA, 0, none⟩) h1 _, b2.far (p := ⟨gA, 0, none⟩) h2 _, c1.setFar (p := ⟨gA, 0, none⟩) h3 h4 _, growB_new g1 (p := ⟨gA, 0, none⟩) h5 _, i1, l1, by simpa using l2⟩
/-- The first operation of the algebra that is built, and how another takes its place. -/
theorem AlS.el0 {a : Int} {T : List Int} {rest : List OpM} (h : AlS B g lo hi gA r0 w wr z ((a, T) :: rest) t) : ∃ (go c : Nat) (TA : Option Addr) (cT : Nat) (css : List (List Value)),
    Blk wr gA 27 #[.int .i64 z, .slice (some ⟨go, 0, none⟩) (rest.length + 1) c] ∧ Blk wr r0 27 #[.int .i64 0, .slice none 0 0] ∧ CurB B wr g t ∧ w.grownBy wr (some g) ∧ lo ≤ go ∧ go < wr.heap.size ∧
    wr.ownsRow lo 92 2 (.slice (some ⟨go, 0, none⟩) (rest.length + 1) c) (rest.length + 1) ([.int .i64 a, .slice TA T.length cT] ++ css.flatten) ∧ wr.ownsRow lo 3 1 (.slice TA T.length cT) T.length (ints T) ∧ InR a ∧ (∀ u ∈ T, InR u) ∧ (Value.slice TA T.length cT).ownBlock ≠ some go ∧
    ∀ (w' : World) (a' : Int) (T' : List Int) (TA' : Option Addr) (cT' : Nat), InR a' → (∀ u ∈ T', InR u) → w'.ownsRow lo 3 1 (.slice TA' T'.length cT') T'.length (ints T') → wr.heap.size ≤ w'.heap.size →
      w'.ownsRow lo 92 2 (.slice (some ⟨go, 0, none⟩) (rest.length + 1) c) (rest.length + 1) ([.int .i64 a', .slice TA' T'.length cT'] ++ css.flatten) →
      (∀ b, b < wr.heap.size → b ≠ go → (Value.slice TA T.length cT).ownBlock ≠ some b → b ≠ gA → b ≠ r0 → b ≠ g → w'.heap[b]? = wr.heap[b]?) → gA < lo → r0 < lo → g < lo →
      ((Value.slice TA' T'.length cT').ownBlock = (Value.slice TA T.length cT).ownBlock ∨ ∀ b, (Value.slice TA' T'.length cT').ownBlock = some b → wr.heap.size ≤ b) →
      ∃ css' bls', PO lo w' (.slice (some ⟨go, 0, none⟩) (rest.length + 1) c) ((a', T') :: rest) css' bls' := by
  obtain ⟨A, n, c, css, bls, b1, p1, b2, c1, g1, i1, l1, l2⟩ := h
  obtain ⟨hP, hrow, hiv⟩ := p1
  have h1 := hP.l1
  have h2 := hP.l2
  obtain ⟨c0, css, rfl⟩ : ∃ c0 cs, css = c0 :: cs := by cases css with | nil => simp at h1 | cons c0 cs => exact ⟨c0, cs, rfl⟩
  obtain ⟨k0, bls, rfl⟩ : ∃ b0 bs, bls = b0 :: bs := by cases bls with | nil => simp at h2 | cons b0 bs => exact ⟨b0, bs, rfl⟩
  have ho := hP.el 0 c0 (a, T) k0 rfl rfl rfl
  obtain ⟨x0, x1, y0, y1, rfl, rfl, ⟨_, rfl, ⟨rfl, la, ha⟩, rfl⟩, ⟨tv, rfl, O1, hR, rfl⟩⟩ := ho
  obtain ⟨TA, cT, rfl⟩ : ∃ TA cT, tv = .slice TA T.length cT := by
    rcases O1.2 with ⟨rfl, h0⟩ | ⟨g', cap, cur, rfl, -⟩
    · exact ⟨none, 0, by rw [show T.length = 0 from h0]⟩
    · exact ⟨_, _, rfl⟩
  obtain ⟨go, hgo, hgl, hn⟩ : ∃ go, A = some ⟨go, 0, none⟩ ∧ lo ≤ go ∧ n = rest.length + 1 := by
    rcases hrow.2 with ⟨e, h0⟩ | ⟨g', cap, cur, e, hl, -⟩
    · simp at h0
    · injection e with e1 e2 e3
      exact ⟨g', e1, hl, by simpa using e2⟩
  subst hgo hn
  have hgob : (Value.slice (some ⟨go, 0, none⟩) (rest.length + 1) c).ownBlock = some go := by simp [Value.ownBlock]
  have hgw : go < wr.heap.size := (hrow.lt go hgob).2
  simp only [List.length_cons] at hrow
  have hb1 : ∀ b, (Value.slice TA T.length cT).ownBlock = some b → lo ≤ b ∧ b < wr.heap.size ∧ b ≠ go ∧ b ∉ bls.flatten := fun b hb => by
    have hm : b ∈ ((([] : List Nat) ++ obl (.slice TA T.length cT)) :: bls).flatten := by simp [obl, hb]
    have := hiv.2 b (List.mem_append_right _ hm)
    refine ⟨this.1, this.2, fun e => ?_, fun hh => ?_⟩
    · subst e
      exact (List.nodup_append.1 hiv.1).2.2 b (by simp [obl, hgob]) b hm rfl
    · have hn := (List.nodup_append.1 hiv.1).2.1
      simp only [List.nil_append, List.flatten_cons] at hn
      exact (List.nodup_append.1 hn).2.2 b (by simp [obl, hb]) b hh rfl
  refine ⟨go, c, TA, cT, css, b1, b2, c1, g1, hgl, hgw, by simpa using hrow, ?_, ⟨la, ha⟩, hR, fun e => (hb1 go e).2.2.1 rfl, ?_⟩
  · obtain ⟨o1, o2⟩ := O1
    refine ⟨o1, ?_⟩
    rcases o2 with h | ⟨g', cap, cur, e, -, rest'⟩
    · exact .inl h
    · exact .inr ⟨g', cap, cur, e, (hb1 g' (by rw [e]; simp [Value.ownBlock])).1, rest'⟩
  · intro w' a' T' TA' cT' qa qT qrow qsz qOps qfar qgA qr0 qg qor
    have rowgo : ∀ b ∈ bls.flatten, b < wr.heap.size ∧ lo ≤ b ∧ b ≠ go ∧ (Value.slice TA T.length cT).ownBlock ≠ some b := fun b hb => by
      have hm : b ∈ ((([] : List Nat) ++ obl (.slice TA T.length cT)) :: bls).flatten := by simp [hb]
      have := hiv.2 b (List.mem_append_right _ hm)
      exact ⟨this.2, this.1, fun e => (List.nodup_append.1 hiv.1).2.2 go (by simp [obl, hgob]) b hm e.symm, fun e => (hb1 b e).2.2.2 hb⟩
    have same : ∀ b ∈ bls.flatten, w'.heap[b]? = wr.heap[b]? := fun b hb => by
      obtain ⟨q1, q2, q3, q4⟩ := rowgo b hb
      exact qfar b q1 q3 q4 (by omega) (by omega) (by omega)
    have hnew : ∀ b, (Value.slice TA' T'.length cT').ownBlock = some b → b ≠ go ∧ b ∉ bls.flatten := fun b hb => by
      rcases qor with e | e
      · have := hb1 b (by rw [← e]; exact hb)
        exact this.2.2
      · have := e b hb
        exact ⟨by omega, fun hh => by have := (rowgo b hh).1; omega⟩
    refine ⟨[.int .i64 a', .slice TA' T'.length cT'] :: css, obl (.slice TA' T'.length cT') :: bls, ⟨?_, by simpa using h1, by simpa using h2, ?_⟩, by simpa using qOps, ?_⟩
    · simp only [List.length_cons, List.flatten_cons]
      exact own_mono qOps (Nat.zero_le _)
    · intro k c' x' bk e1 e2 e3
      cases k with
      | zero =>
        simp at e1 e2 e3
        subst e1 e2 e3
        exact ⟨[.int .i64 a'], [.slice TA' T'.length cT'], [], _, rfl, rfl, ⟨_, rfl, ⟨rfl, qa.1, qa.2⟩, rfl⟩, ⟨_, rfl, own_mono qrow (Nat.zero_le _), qT, rfl⟩⟩
      | succ k =>
        simp at e1 e2 e3
        exact shOp.osame (hP.el (k + 1) c' x' bk (by simpa using e1) (by simpa using e2) (by simpa using e3)) fun b hb => same b (List.mem_flatten.2 ⟨_, List.mem_of_getElem? e3, hb⟩)
    · have hnd := (List.nodup_append.1 hiv.1).2.1
      simp only [List.nil_append, List.flatten_cons] at hnd
      refine ⟨?_, fun b hb => ?_⟩
      · refine List.nodup_append.2 ⟨obl_nd _, ?_, fun x hx y hy e => ?_⟩
        · simp only [List.flatten_cons]
          exact List.nodup_append.2 ⟨obl_nd _, (List.nodup_append.1 hnd).2.1, fun x hx y hy e => (hnew x (mem_obl.1 hx)).2 (e ▸ hy)⟩
        · subst e
          have hx' : x = go := by have := mem_obl.1 hx; rw [hgob] at this; injection this with this; exact this.symm
          subst hx'
          simp only [List.flatten_cons] at hy
          rcases List.mem_append.1 hy with hy | hy
          · exact (hnew x (mem_obl.1 hy)).1 rfl
          · exact (rowgo x hy).2.2.1 rfl
      · rcases List.mem_append.1 hb with hb | hb
        · have : b = go := by have := mem_obl.1 hb; rw [hgob] at this; injection this with this; exact this.symm
          subst this
          exact ⟨hgl, by omega⟩
        · simp only [List.flatten_cons] at hb
          rcases List.mem_append.1 hb with hb | hb
          · exact qrow.lt b (mem_obl.1 hb)
          · have := rowgo b hb
            exact ⟨this.2.1, by omega⟩
end
/-- The length of the slice in a cell. -/
def lenAt (w : World) (g i : Nat) : Nat := match w.cell? ⟨g, i, none⟩ with | some (.slice _ n _) => n | _ => 0
theorem lenAt_eq {w : World} {g i n c : Nat} {A : Option Addr} (h : w.cell? ⟨g, i, none⟩ = some (.slice A n c)) : lenAt w g i = n := by unfold lenAt; rw [h]
section
variable {B g lo hi gA r0 t : Nat} {w wr : World} {z : Int} {xs : List OpM}
theorem AlS.row (h : AlS B g lo hi gA r0 w wr z xs t) : ∃ A c css bls, Blk wr gA 27 #[.int .i64 z, .slice A xs.length c] ∧ PO lo wr (.slice A xs.length c) xs css bls ∧ Blk wr r0 27 #[.int .i64 0, .slice none 0 0] ∧ CurB B wr g t ∧ w.grownBy wr (some g) ∧ Iv lo hi (obl (.slice A xs.length c) ++ bls.flatten) ∧ lo ≤ hi ∧ hi ≤ wr.heap.size := by
  obtain ⟨A, n, c, css, bls, b1, p1, b2, c1, g1, i1, l1, l2⟩ := h
  obtain rfl : n = xs.length := by
    rcases p1.2.1.2 with ⟨e, h0⟩ | ⟨g', cap, cur, e, -⟩
    · injection e with e1 e2 e3; omega
    · injection e with e1 e2 e3
  exact ⟨A, c, css, bls, b1, p1, b2, c1, g1, i1, l1, l2⟩
end
theorem made_ints (n : Nat) : madeCells #[Value.int .i64 0] n = (ints (List.replicate n 0)).toArray := by
  apply Array.ext'
  have := toList_madeCells_one (.int .i64 0) n
  rw [show (madeCells #[Value.int .i64 0] n).toList = List.replicate n (.int .i64 0) from this]
  simp [ints]
end Go.Proofs.Ytkmgbdljiajlaaa
namespace Go.Proofs.Ytkmgbdljiajlaaa
open Go.RowKit

abbrev EntryM : Type := (ByteArray × AlgebraM)
def shEntry : Sh EntryM := (Sh.pair Sh.str shAlgebra)
theorem rdEntry {w : World} {cs : List Value} {x : EntryM} (h : shEntry.rd w cs x) : ∃ (AModelOps : Option Addr) (nModelOps cModelOps : Nat), cs = [.string x.1, .int .i64 x.2.1, .slice AModelOps nModelOps cModelOps] ∧ x.1.size ≤ maxLen ∧ InR x.2.1 ∧ RdN shOp.m shOp.rd w AModelOps nModelOps x.2.2 := by
  obtain ⟨_, _, rfl, ⟨_, rfl, rfl, hsName⟩, ⟨_, _, rfl, ⟨_, rfl, rfl, loModelSize, hiModelSize⟩, ⟨AModelOps, nModelOps, cModelOps, rfl, rModelOps⟩⟩⟩ := h
  exact ⟨AModelOps, nModelOps, cModelOps, rfl, hsName, ⟨loModelSize, hiModelSize⟩, rModelOps⟩
end Go.Proofs.Ytkmgbdljiajlaaa
namespace Go.Proofs.Ytkmgbdljiajlaaa
open Go.RowKit

/-- append of one element of three cells to a row of the call's own. -/
theorem wp_app3 {P : Program} (w0 : World) {o : Oper} {a : Act} {K : Act → World → Prop} {Q : Exit → Act → World → Prop} (s x : Operand) (t e : TypeId)
    (ho : o.op = .call { callee := .builtin .append, args := #[s, x], argTypes := #[t, t] }) (z : Value) (bytes : Nat)
    (ht : P.underlying t = some (.slice e)) (hi : (P.info? e).map (fun i => (i.zero, i.size, i.bytes)) = some (some z, 3, bytes)) (hzs : z.cells.size = 3) (hbb : bytes ≤ 64)
    (base n c : Nat) (A : Option Addr) (xs : List Value) (hs : a.eval s = .slice A n c) (hown : w0.ownsRow base e 3 (.slice A n c) n xs) (u v y : Value) (h1 : u.oneCell' = true) (h2 : v.oneCell' = true) (h3 : y.oneCell' = true) (hx : a.eval x = .slice (some ⟨w0.heap.size, 0, none⟩) 1 1)
    (hn : n ≤ 1099511627776) (hbase : base ≤ w0.heap.size)
    (hK : ∀ A' c' w', w'.ownsRow base e 3 (.slice A' (n + 1) c') (n + 1) (xs ++ [u, v, y]) → w0.grownBy w' (Value.slice A n c).ownBlock → Below base w0 w' → K (a.put o.dst (.slice A' (n + 1) c')) w') :
    o.wp P a (w0.alloc (.cells #[u, v, y] e)) K Q := by
  obtain ⟨i, hi, hz, hsize, hby⟩ := info_parts hi
  have hbound : (n + 1) * bytes ≤ 140737488355328 := Nat.le_trans (Nat.mul_le_mul_left (n + 1) hbb) (by omega)
  refine wp_append_own (w0.alloc (.cells #[u, v, y] e)) s x t ho base e i z 3 bytes ht hi hz hsize hby hzs (by omega) (.slice A n c) n xs hs (hown.alloc _) ⟨w0.heap.size, 0, none⟩ 1 1 [u, v, y] hx rfl ?_ ?_ (by unfold maxLen; omega) hbound (by simp; omega) ?_
  · intro j q hj
    match j, hj with
    | 0, hj => simp at hj; subst hj; simp [Addr.add]
    | 1, hj => simp at hj; subst hj; simp [Addr.add]
    | 2, hj => simp at hj; subst hj; simp [Addr.add]
  · intro y hy
    simp at hy
    rcases hy with rfl | rfl | rfl
    · exact h1
    · exact h2
    · exact h3
  · intro v' w' hown' hgrow _
    obtain ⟨A', c', rfl⟩ := own_slice hown'
    have hg : w0.grownBy w' (Value.slice A n c).ownBlock :=
      ⟨hgrow.os, hgrow.tape, hgrow.output, Nat.le_trans (by simp) hgrow.size, fun k hk hne => (hgrow.block k (by simp; omega) hne).trans (Below.heap_alloc w0 _ k hk)⟩
    exact hK A' c' w' hown' hg ((Below.refl base w0).grown hg hbase (fun k hk => (hown.lt k hk).1))
theorem app3 {P : Program} (w0 : World) {ops : Array Oper} {rest : List Oper} {o : Oper} {a : Act} {Q : Exit → Act → World → Prop} (hgd : o.guard = none) (s x : Operand) (t e : TypeId)
    (ho : o.op = .call { callee := .builtin .append, args := #[s, x], argTypes := #[t, t] }) (z : Value) (bytes : Nat)
    (ht : P.underlying t = some (.slice e)) (hi : (P.info? e).map (fun i => (i.zero, i.size, i.bytes)) = some (some z, 3, bytes)) (hzs : z.cells.size = 3) (hbb : bytes ≤ 64)
    (base n c : Nat) (A : Option Addr) (xs : List Value) (hs : a.eval s = .slice A n c) (hown : w0.ownsRow base e 3 (.slice A n c) n xs) (u v y : Value) (h1 : u.oneCell' = true) (h2 : v.oneCell' = true) (h3 : y.oneCell' = true) (hx : a.eval x = .slice (some ⟨w0.heap.size, 0, none⟩) 1 1)
    (hn : n ≤ 1099511627776) (hbase : base ≤ w0.heap.size)
    (hK : ∀ A' c' w', w'.ownsRow base e 3 (.slice A' (n + 1) c') (n + 1) (xs ++ [u, v, y]) → w0.grownBy w' (Value.slice A n c).ownBlock → Below base w0 w' → wpList P ops Q rest (a.put o.dst (.slice A' (n + 1) c')) w') :
    wpList P ops Q (o :: rest) a (w0.alloc (.cells #[u, v, y] e)) :=
  wpList_plain hgd fun _ hK' => wp_app3 w0 s x t e ho z bytes ht hi hzs hbb base n c A xs hs hown u v y h1 h2 h3 hx hn hbase fun A' c' w' k2 k3 k4 => hK' _ _ (hK A' c' w' k2 k3 k4)
theorem step_app3 {P : Program} (w0 : World) {ops : Array Oper} {o : Oper} {a : Act} {K : Act → World → Prop} {Q : Exit → Act → World → Prop} {E : Prop} (hgd : o.guard = none) (s x : Operand) (t e : TypeId)
    (ho : o.op = .call { callee := .builtin .append, args := #[s, x], argTypes := #[t, t] }) (z : Value) (bytes : Nat)
    (ht : P.underlying t = some (.slice e)) (hi : (P.info? e).map (fun i => (i.zero, i.size, i.bytes)) = some (some z, 3, bytes)) (hzs : z.cells.size = 3) (hbb : bytes ≤ 64)
    (base n c : Nat) (A : Option Addr) (xs : List Value) (hs : a.eval s = .slice A n c) (hown : w0.ownsRow base e 3 (.slice A n c) n xs) (u v y : Value) (h1 : u.oneCell' = true) (h2 : v.oneCell' = true) (h3 : y.oneCell' = true) (hx : a.eval x = .slice (some ⟨w0.heap.size, 0, none⟩) 1 1)
    (hn : n ≤ 1099511627776) (hbase : base ≤ w0.heap.size)
    (hK : ∀ A' c' w', w'.ownsRow base e 3 (.slice A' (n + 1) c') (n + 1) (xs ++ [u, v, y]) → w0.grownBy w' (Value.slice A n c).ownBlock → Below base w0 w' → K (a.put o.dst (.slice A' (n + 1) c')) w') :
    if Region.wanted o (yielded ops a.tmps) = true then Oper.wp P o a (w0.alloc (.cells #[u, v, y] e)) K Q else E := by
  have hw : Region.wanted o (yielded ops a.tmps) = true := by simp [Region.wanted, hgd]
  rw [if_pos hw]
  exact wp_app3 w0 s x t e ho z bytes ht hi hzs hbb base n c A xs hs hown u v y h1 h2 h3 hx hn hbase hK

theorem info_entry3 : (Try.prog.info? 33).map (fun i => (i.zero, i.size, i.bytes)) = some (some (.agg #[.string ⟨#[]⟩, .int .i64 0, .slice none 0 0]), 3, 48) := by kernel_rfl
/-- A slice of entries of the call's own, its blocks from lo on. -/
def PE (lo : Nat) (w : World) (v : Value) (xs : List EntryM) (css : List (List Value)) (bls : List (List Nat)) : Prop :=
  Parts shEntry 33 w v xs css bls ∧ w.ownsRow lo 33 3 v xs.length css.flatten ∧ Iv lo w.heap.size (obl v ++ bls.flatten)
theorem shEntry_blk {w : World} {c : List Value} {x : EntryM} {bk : List Nat} (h : shEntry.own w c x bk) {b : Nat} (hb : b ∈ bk) : ∃ cur t fr, w.heap[b]? = some (.cells cur t fr) ∧ t ≠ 33 := by
  obtain ⟨c0, cA, b0, bA, rfl, rfl, O0, ⟨c1, c2, b1, b2, rfl, rfl, O1, O2⟩⟩ := h
  obtain ⟨_, rfl, -, rfl⟩ := O0
  obtain ⟨_, rfl, -, rfl⟩ := O1
  obtain ⟨v, css, bls, rfl, P, rfl⟩ := O2
  rw [List.nil_append, List.nil_append] at hb
  rcases List.mem_append.1 hb with hb | hb
  · obtain ⟨cur, fr, hc⟩ := row_blk P.row hb
    exact ⟨cur, _, fr, hc, by decide⟩
  · obtain ⟨bk, hbk, hb⟩ := List.mem_flatten.1 hb
    obtain ⟨k, hk⟩ := List.getElem?_of_mem hbk
    have hkl := (List.getElem?_eq_some_iff.1 hk).1
    have e1 := P.l1
    have e2 := P.l2
    obtain ⟨cur, fr, hc⟩ := shOp_blk (P.el k _ _ bk (List.getElem?_eq_getElem (by omega)) (List.getElem?_eq_getElem (by omega)) hk) hb
    exact ⟨cur, _, fr, hc, by decide⟩
section
variable {lo : Nat} {w : World} {v : Value} {xs : List EntryM} {css : List (List Value)} {bls : List (List Nat)}
theorem PE.nil (lo : Nat) (w : World) : PE lo w (.slice none 0 0) [] [] [] :=
  ⟨⟨⟨rfl, .inl ⟨rfl, rfl⟩⟩, rfl, rfl, fun k c x bk h => by simp at h⟩, ⟨rfl, .inl ⟨rfl, rfl⟩⟩, Iv.nil _ _⟩
theorem PE.lit {lo : Nat} {w : World} (hlo : lo ≤ w.heap.size) : PE lo (w.alloc (.cells #[] 33)) (.slice (some ⟨w.heap.size, 0, none⟩) 0 0) [] [] [] := by
  have h := World.ownsRow_lit (e := 33) (size := 3) w #[] 0 hlo (Nat.zero_le _) rfl
  exact ⟨⟨own_mono h (Nat.zero_le _), rfl, rfl, fun k c x bk h => by simp at h⟩, h, by simp [obl, Value.ownBlock], fun b hb => by
    simp [obl, Value.ownBlock] at hb
    subst hb
    simp
    exact hlo⟩
theorem PE.own (h : PE lo w v xs css bls) : (Sh.rows shEntry 33).own w [v] xs (obl v ++ bls.flatten) := ⟨v, css, bls, rfl, h.1, rfl⟩
theorem PE.next {w' : World} (h : PE lo w v xs css bls) (hb : Below w.heap.size w w') : PE lo w' v xs css bls :=
  ⟨h.1.same fun b hb' => hb.block b (h.1.lt b hb'), own_next h.2.1 hb, h.2.2.mono (Nat.le_refl _) hb.size⟩
theorem PE.same {w' : World} (h : PE lo w v xs css bls) (hz : w.heap.size ≤ w'.heap.size) (hs : ∀ b ∈ obl v ++ bls.flatten, w'.heap[b]? = w.heap[b]?) : PE lo w' v xs css bls :=
  ⟨h.1.same hs, own_same h.2.1 fun b hb => hs b (List.mem_append_left _ (mem_obl.2 hb)), h.2.2.mono (Nat.le_refl _) hz⟩
theorem PE.mono {lo' : Nat} (h : PE lo w v xs css bls) (hl : lo' ≤ lo) : PE lo' w v xs css bls := ⟨h.1, own_mono h.2.1 hl, h.2.2.mono hl (Nat.le_refl _)⟩
theorem PE.push (h : PE lo w v xs css bls) {w1 : World} (hb : Below w.heap.size w w1) (hlo : lo ≤ w.heap.size) {c : List Value} {x : EntryM} {bk : List Nat} (ho : shEntry.own w1 c x bk) (hiv : Iv w.heap.size w1.heap.size bk) :
    w1.ownsRow lo 33 3 v xs.length css.flatten ∧ ∀ {w2 : World} {v' : Value}, w2.ownsRow lo 33 3 v' (xs.length + 1) (css.flatten ++ c) → w1.grownBy w2 v.ownBlock → PE lo w2 v' (xs ++ [x]) (css ++ [c]) (bls ++ [bk]) := by
  have h1 := h.next hb
  refine ⟨h1.2.1, fun {w2 v'} hown hg => ?_⟩
  have hnd := List.nodup_append.1 h.2.2.1
  have far : ∀ b, b ∈ bls.flatten → w2.heap[b]? = w1.heap[b]? := fun b hb' => hg.block b (h1.2.2.2 b (List.mem_append_right _ hb')).2 fun e => hnd.2.2 b (mem_obl.2 e.symm) b hb' rfl
  have far2 : ∀ b, b ∈ bk → w2.heap[b]? = w1.heap[b]? := fun b hb' => hg.block b (hiv.2 b hb').2 fun e => by
    have h3 := (h.2.2.2 b (List.mem_append_left _ (mem_obl.2 e.symm))).2
    have h4 := (hiv.2 b hb').1
    omega
  have hl1 := h.1.l1
  have hl2 := h.1.l2
  have hP : Parts shEntry 33 w2 v' (xs ++ [x]) (css ++ [c]) (bls ++ [bk]) := by
    refine ⟨?_, by simp [hl1], by simp [hl2], fun k c' x' bk' e1 e2 e3 => ?_⟩
    · rw [List.length_append, List.flatten_append, List.flatten_singleton]
      exact own_mono hown (Nat.zero_le _)
    · by_cases hk : k < xs.length
      · rw [List.getElem?_append_left (by omega)] at e1 e2 e3
        exact shEntry.osame (h1.1.el k c' x' bk' e1 e2 e3) fun b hb' => far b (List.mem_flatten.2 ⟨_, List.mem_of_getElem? e3, hb'⟩)
      · have hk2 : k = xs.length := by
          have := (List.getElem?_eq_some_iff.1 e2).1
          simp at this
          omega
        subst hk2
        rw [List.getElem?_append_right (by omega)] at e1 e2 e3
        simp [hl1, hl2] at e1 e2 e3
        subst e1
        subst e2
        subst e3
        exact shEntry.osame ho far2
  refine ⟨hP, by rw [List.length_append, List.flatten_append]; simpa using hown, ?_⟩
  rw [List.flatten_append]
  have hz : w1.heap.size ≤ w2.heap.size := hg.size
  have hzb := hb.size
  refine ⟨?_, fun b hb' => ?_⟩
  · rw [List.nodup_append]
    refine ⟨obl_nd _, ?_, fun a ha b hb' e => ?_⟩
    · rw [List.nodup_append]
      refine ⟨hnd.2.1, by simpa using hiv.1, fun a ha b hb' e => ?_⟩
      simp at hb'
      subst e
      have h3 := (h.2.2.2 a (List.mem_append_right _ ha)).2
      have h4 := (hiv.2 a hb').1
      omega
    · subst e
      obtain ⟨cur, fr, hc⟩ := row_blk hown ha
      have hb2 : a ∈ (bls ++ [bk]).flatten := by rw [List.flatten_append]; exact hb'
      obtain ⟨bq, hbq, hab⟩ := List.mem_flatten.1 hb2
      obtain ⟨k, hk⟩ := List.getElem?_of_mem hbq
      have hkl := (List.getElem?_eq_some_iff.1 hk).1
      have e1 := hP.l1
      have e2 := hP.l2
      have ho2 := hP.el k _ _ bq (List.getElem?_eq_getElem (by omega)) (List.getElem?_eq_getElem (by omega)) hk
      obtain ⟨cur2, t2, fr2, hc2, hne⟩ := shEntry_blk ho2 hab
      rw [hc] at hc2
      injection hc2 with hc2
      injection hc2 with _ h5
      exact absurd h5.symm hne
  · rcases List.mem_append.1 hb' with hb' | hb'
    · exact hown.lt b (mem_obl.1 hb')
    · rcases List.mem_append.1 hb' with hb' | hb'
      · have := h.2.2.2 b (List.mem_append_right _ hb')
        omega
      · have := hiv.2 b (by simpa using hb')
        omega
end
end Go.Proofs.Ytkmgbdljiajlaaa
namespace Go.Proofs.Ytkmgbdljiajlaaa
open Go.RowKit

theorem ords_len {n : Nat} : ∀ (r : Nat) (s : List Int), (ords n r s).length ≤ n ^ r
  | 0, s => by simp [ords]
  | r + 1, s => by
    have key : ∀ k, (ordsTo n r s k).length ≤ k * n ^ r := by
      intro k
      induction k with
      | zero => simp [ordsTo]
      | succ k ih =>
        rw [ordsTo_succ, List.length_append, Nat.succ_mul]
        have h1 := ords_len (n := n) r (s ++ [(k : Int)])
        split
        · simp; omega
        · omega
    have := key n
    rw [Nat.pow_succ, Nat.mul_comm]
    exact this
theorem ordsTo_len {n r : Nat} {s : List Int} : ∀ k, (ordsTo n r s k).length ≤ k * n ^ r
  | 0 => by simp [ordsTo]
  | k + 1 => by
    rw [ordsTo_succ, List.length_append, Nat.succ_mul]
    have h1 := ords_len (n := n) r (s ++ [(k : Int)])
    have h2 := ordsTo_len (n := n) (r := r) (s := s) k
    split
    · simp; omega
    · omega
theorem pow5 {n r : Nat} (hn : n ≤ 5) (hr : r ≤ 5) : n ^ r ≤ 3125 := by
  have h1 : n ^ r ≤ 5 ^ r := Nat.pow_le_pow_left hn r
  have h2 : 5 ^ r ≤ 5 ^ 5 := Nat.pow_le_pow_right (by decide) hr
  exact Nat.le_trans h1 h2

/-- A slice's header. -/
theorem rdl_block {w w' : World} {A : Option Addr} {n : Nat} {xs : List Int} (h : RdL RI w A n xs) (hs : ∀ p, A = some p → w'.heap[p.block]? = w.heap[p.block]?) : RdL RI w' A n xs :=
  ⟨h.1, h.2.1, fun k x hk => by
    obtain ⟨b, o, v, e, hc, hv⟩ := h.2.2 k x hk
    exact ⟨b, o, v, e, (World.cell?_of_block (w := w) (w' := w') (a := ⟨b, o + k, none⟩) (hs ⟨b, o, none⟩ e)).trans hc, hv⟩⟩
/-- The rows read so, each in a block of ints. -/
def Rws (w : World) (ts : List SlT) (xss : List (List Int)) : Prop :=
  ts.length = xss.length ∧ ∀ (k : Nat) (t : SlT) (xs : List Int), ts[k]? = some t → xss[k]? = some xs → RdL RI w t.1 t.2.1 xs ∧ ∀ p, t.1 = some p → ∃ cur fr, w.heap[p.block]? = some (.cells cur 3 fr)
/-- The call hands back a slice of slices of its own. -/
def NmE (w : World) (xss : List (List Int)) (e : Ending) (w' : World) : Prop := ∃ A c ts, e = .returned (.slice A xss.length c) ∧ w'.ownsRow w.heap.size 55 1 (.slice A xss.length c) xss.length (ts.map slV) ∧ Rws w' ts xss ∧ Below w.heap.size w w'
theorem Rws.nil (w : World) : Rws w [] [] := ⟨rfl, fun k t xs h => by simp at h⟩
theorem Rws.same {w w' : World} {ts : List SlT} {xss : List (List Int)} (h : Rws w ts xss) (hs : ∀ (b : Nat) (cur : Array Value) (fr : Nat × Nat), w.heap[b]? = some (.cells cur 3 fr) → w'.heap[b]? = w.heap[b]?) : Rws w' ts xss :=
  ⟨h.1, fun k t xs h1 h2 => ⟨rdl_block (h.2 k t xs h1 h2).1 fun p e => by
    obtain ⟨cur, fr, hc⟩ := (h.2 k t xs h1 h2).2 p e
    exact hs _ _ _ hc, fun p e => by
    obtain ⟨cur, fr, hc⟩ := (h.2 k t xs h1 h2).2 p e
    exact ⟨cur, fr, (hs _ _ _ hc).trans hc⟩⟩⟩
theorem Rws.next {w w' : World} {ts : List SlT} {xss : List (List Int)} (h : Rws w ts xss) (hb : Below w.heap.size w w') : Rws w' ts xss :=
  h.same fun b _ _ hc => hb.block b (Array.getElem?_eq_some_iff.1 hc).1
theorem Rws.grown {w w' : World} {ts : List SlT} {xss : List (List Int)} {base size n : Nat} {e : TypeId} {v : Value} {vs : List Value} (h : Rws w ts xss) (ho : w.ownsRow base e size v n vs) (hne : e ≠ 3) (hg : w.grownBy w' v.ownBlock) : Rws w' ts xss :=
  h.same fun b cur fr hc => hg.block b (Array.getElem?_eq_some_iff.1 hc).1 fun eb => by
    obtain ⟨cur2, fr2, hc2⟩ := row_blk ho (mem_obl.2 eb.symm)
    rw [hc] at hc2
    injection hc2 with hc2
    injection hc2 with _ h5
    exact hne h5.symm
theorem Rws.app {w : World} {ts us : List SlT} {xss yss : List (List Int)} (h : Rws w ts xss) (h' : Rws w us yss) : Rws w (ts ++ us) (xss ++ yss) := by
  refine ⟨by rw [List.length_append, List.length_append, h.1, h'.1], fun k t xs h1 h2 => ?_⟩
  by_cases hk : k < ts.length
  · rw [List.getElem?_append_left hk] at h1
    rw [List.getElem?_append_left (by rw [← h.1]; exact hk)] at h2
    exact h.2 k t xs h1 h2
  · rw [List.getElem?_append_right (by omega)] at h1
    rw [List.getElem?_append_right (by rw [← h.1]; omega), ← h.1] at h2
    exact h'.2 _ t xs h1 h2
theorem Rws.one {w : World} {base n : Nat} {A : Option Addr} {c : Nat} {xs : List Int} (ho : w.ownsRow base 3 1 (.slice A n c) n (ints xs)) (hx : ∀ x ∈ xs, InR x) : Rws w [(A, n, c)] [xs] := by
  refine ⟨rfl, fun k t ys h1 h2 => ?_⟩
  rcases k with _ | k
  · simp at h1 h2
    subst h1
    subst h2
    refine ⟨rd_of_own (R := RI) ho (RI_ints hx), fun p e => ?_⟩
    have e' : A = some p := e
    subst e'
    exact row_blk ho (mem_obl.2 rfl)
  · simp at h1
theorem raw_rd {w : World} {base : Nat} {A : Option Addr} {n c : Nat} {ts : List SlT} (h : w.ownsRow base 55 1 (.slice A n c) n (ts.map slV)) : RdL RSl w A n ts := by
  have hl : ts.length = n := by have := h.1; simpa using this
  refine ⟨hl, own_len_le h, fun k t hk => ?_⟩
  have hkn := (List.getElem?_eq_some_iff.1 hk).1
  rcases h.2 with ⟨_, h0⟩ | ⟨g, cap, cur, e, -⟩
  · omega
  · injection e with e
    subst e
    refine ⟨g, 0, slV t, rfl, ?_, rfl⟩
    rw [Nat.zero_add, h.cellAt k (by omega), List.getElem?_map, hk]
    rfl
theorem rws_rd {w : World} {base : Nat} {A : Option Addr} {n c : Nat} {ts : List SlT} {xss : List (List Int)} (h : w.ownsRow base 55 1 (.slice A n c) n (ts.map slV)) (hr : Rws w ts xss) : RdL (RV RI) w A n xss := by
  have hr0 := raw_rd h
  refine ⟨by rw [← hr.1]; exact hr0.1, hr0.2.1, fun k xs hk => ?_⟩
  have hkl := (List.getElem?_eq_some_iff.1 hk).1
  have ht : ts[k]? = some (ts[k]'(by rw [hr.1]; exact hkl)) := List.getElem?_eq_getElem _
  obtain ⟨b, o, v, e, hc, hv⟩ := hr0.2.2 k _ ht
  exact ⟨b, o, v, e, hc, _, _, _, hv, (hr.2 k _ xs ht hk).1⟩
theorem NmE.rd {w w' : World} {xss : List (List Int)} {e : Ending} (h : NmE w xss e w') : ∃ A c, e = .returned (.slice A xss.length c) ∧ RdL (RV RI) w' A xss.length xss ∧ Below w.heap.size w w' := by
  obtain ⟨A, c, ts, e, ho, hr, hb⟩ := h
  exact ⟨A, c, e, rws_rd ho hr, hb⟩

set_option maxRecDepth 20000 in
set_option maxHeartbeats 4000000 in
theorem l31Names_any (n : Nat) (hn : n ≤ 5) : ∀ (r : Nat) (A : Option Addr) (m c : Nat) (s : List Int) (w : World), RdL RI w A m s → m + r = n → Calls Try.prog 70 #[.int .i64 n, .slice A m c] w (NmE w (ords n r s))
  | 0, A, m, c, s, w, h, hm => by
    obtain rfl : m = n := by omega
    have HB := Lib.hid h.bounds
    have HO : Hid (ords m 0 s = [s]) := rfl
    go_enter Try.func70, Try.ntmps70
    go_wp2_with fail
    refine (l1Own_any _ _ _ _ _ h (by omega)).mono ?_
    rintro e w2 ⟨A2, c2, rfl, ho, hb⟩
    have hR := (Rws.one ho HB.out).next (below_box w2 (.cells #[.slice A2 m c2] 55))
    have hl : (w2.alloc (.cells #[.slice A2 m c2] 55)).ownsRow w.heap.size 55 1 (.slice (some ⟨w2.heap.size, 0, none⟩) 1 1) 1 [.slice A2 m c2] := World.ownsRow_lit w2 #[.slice A2 m c2] 1 hb.size (by decide) rfl
    have HLL := Lib.hid hl
    have HRR := Lib.hid hR
    clear hl hR ho
    go_wp2_with fail
    go_ret
    rw [HO.out]
    exact ⟨_, _, [(A2, m, c2)], rfl, HLL.out, HRR.out, below_next hb (below_box _ _) rfl⟩
  | r + 1, A, m, c, s, w, h, hm => by
    have ih := l31Names_any n hn r
    have hr5 : r ≤ 5 := by omega
    have hp5 := pow5 hn hr5
    have HB := Lib.hid h.bounds
    have hle := h.le
    have hbe : ((m : Int) == (n : Int)) = false := by rw [beq_eq_false_iff_ne]; omega
    go_enter Try.func70, Try.ntmps70
    go_wp2_with fail
    go_loopw [5, 6] (fun v i wr => ∃ (k : Nat) (A' : Option Addr) (c' : Nat) (ts : List SlT), k ≤ n ∧ i = .int .i64 k ∧ v = .slice A' (ordsTo n r s k).length c' ∧ wr.ownsRow w.heap.size 55 1 (.slice A' (ordsTo n r s k).length c') (ordsTo n r s k).length (ts.map slV) ∧ Rws wr ts (ordsTo n r s k) ∧ Below w.heap.size w wr) (fun _ i _ => n - (intOf i).toNat)
    case atStart => exact ⟨0, _, _, [], Nat.zero_le _, rfl, rfl, World.ownsRow_lit _ _ _ (Nat.le_refl _) (Nat.zero_le _) rfl, Rws.nil _, below_box _ _⟩
    case round =>
      obtain ⟨k, A', c', ts, hk, rfl, rfl, hown, hR, hT⟩ := hrel
      have h1 := h.next stab_RI hT
      have hlen := ordsTo_len (n := n) (r := r) (s := s) k
      have hlen2 : k * n ^ r ≤ 5 * 3125 := Nat.mul_le_mul (by omega) hp5
      by_cases hlt : k < n
      · have hk0 : (0 : Int) ≤ (k : Int) := by omega
        have hk1 : (k : Int) < (n : Int) := by omega
        obtain ⟨L, HL⟩ : ∃ L, Hid (ordsTo n r s k = L) := ⟨_, rfl⟩
        rw [HL.out] at hown hR hlen ⊢
        have HS : Hid (ordsTo n r s (k + 1) = L ++ if hasI k s then [] else ords n r (s ++ [(k : Int)])) := by show _ = _; rw [ordsTo_succ, HL.out]
        rcases hh : hasI (k : Int) s with _ | _
        · have HH := Lib.hid hh
          have HS2 : Hid (ordsTo n r s (k + 1) = L ++ ords n r (s ++ [(k : Int)])) := by show _ = _; rw [HS.out, hh]; simp
          clear hh
          go_wp2_with (go_at_call 105; refine (l1Has_any _ _ _ _ _ _ h1).mono ?_; rintro e w' ⟨rfl, rfl⟩; rw [HH.out])
          refine (l1Own_any _ _ _ _ _ h1 (by omega)).mono ?_
          rintro e w2 ⟨A2, c2, rfl, ho2, hb2⟩
          have hT2 := below_next hT hb2 rfl
          have hsz2 := hb2.size
          have HO2 := Lib.hid ho2
          go_wp2_with (at_builtin; refine app1 w2 rfl _ _ 55 3 rfl (.int .i64 0) 8 Try.underlying55 info_int rfl (by decide) wr.heap.size m c2 A2 (ints s) rfl HO2.out (.int .i64 k) rfl rfl (by omega) hsz2 ?_; intro A3 c3 w3 hown3 hg3 hb3)
          have hT3 := below_next hT (hb2.trans hb3) rfl
          have hR3 := hR.next (hb2.trans hb3)
          have hown4 := own_next hown (hb2.trans hb3)
          have hlo3 := hT3.size
          have R3 : RdL RI w3 A3 (m + 1) (s ++ [(k : Int)]) := by
            rw [← ints_snoc] at hown3
            exact rd_of_own (R := RI) hown3 (RI_ints fun v hv => by
              rw [List.mem_append] at hv
              rcases hv with hv | hv
              · exact HB.out v hv
              · rw [List.mem_singleton] at hv
                omega)
          clear hown3 hg3
          go_wp2_with fail
          refine (ih _ _ _ _ _ R3 (by omega)).mono ?_
          rintro e w5 ⟨A5, c5, us, rfl, ho5, hR5, hb5⟩
          obtain ⟨Y, HY⟩ : ∃ Y, Hid (ords n r (s ++ [(k : Int)]) = Y) := ⟨_, rfl⟩
          have hYl : Y.length ≤ 3125 := by rw [← HY.out]; exact Nat.le_trans (ords_len r _) hp5
          rw [HY.out] at ho5 hR5 ⊢
          have hT5 := below_next hT3 hb5 rfl
          have hR6 := hR3.next hb5
          have hown6 := own_next hown4 hb5
          have hlo5 := hT5.size
          have HO6 := Lib.hid hown6
          have hrw := raw_rd ho5
          go_wp2_with (at_builtin; refine appAny (R := RSl) _ rfl _ _ 48 55 rfl (.slice none 0 0) 24 Try.underlying48 info_ints rfl (by decide) w.heap.size L.length c' A' (ts.map slV) rfl HO6.out A5 Y.length c5 us slV (fun _ => rfl) rfl hrw (fun _ _ _ hr => hr) (by omega) hlo5 ?_; intro A7 c7 w7 hown7 hg7 hb7)
          have hR7 : Rws w7 (ts ++ us) (L ++ Y) := (hR6.app hR5).grown HO6.out (by decide) hg7
          go_roundw
          case rel => exact ⟨k + 1, A7, c7, ts ++ us, by omega, by go_num, by rw [HS2.out, HY.out, List.length_append], by rw [HS2.out, HY.out, List.length_append, List.map_append]; exact hown7, by rw [HS2.out, HY.out]; exact hR7, hT5.trans hb7⟩
          case measure => simp [intOf]; omega
        · have HH := Lib.hid hh
          have HS2 : Hid (ordsTo n r s (k + 1) = L) := by show _ = _; rw [HS.out, hh]; simp
          clear hh
          go_wp2_with (go_at_call 105; refine (l1Has_any _ _ _ _ _ _ h1).mono ?_; rintro e w' ⟨rfl, rfl⟩; rw [HH.out])
          go_roundw
          case rel => exact ⟨k + 1, A', c', ts, by omega, by go_num, by rw [HS2.out], by rw [HS2.out]; exact hown, by rw [HS2.out]; exact hR, hT⟩
          case measure => simp [intOf]; omega
      · obtain rfl : k = n := by omega
        have hlt' : ¬ (k : Int) < (k : Int) := by omega
        go_wp2_with fail
        go_ret
        exact ⟨A', c', ts, rfl, hown, hR, hT⟩
end Go.Proofs.Ytkmgbdljiajlaaa
namespace Go.Proofs.Ytkmgbdljiajlaaa
open Go.RowKit

theorem PO.alg {lo : Nat} {w : World} {v : Value} {a : Int} {xs : List OpM} {css : List (List Value)} {bls : List (List Nat)} (h : PO lo w v xs css bls) (ha : InR a) : shAlgebra.rd w [.int .i64 a, v] (a, xs) :=
  ⟨[.int .i64 a], [v], rfl, ⟨_, rfl, rfl, ha.1, ha.2⟩, (Sh.rows shOp 92).ord h.own⟩
theorem small_R {x : AlgebraM} (h : SmallP x) : InR x.1 := ⟨by have := h.1; omega, by have := h.2.1; omega⟩
theorem code_ren_len {x : AlgebraM} {s : List Int} (hx : SmallP x) (hs : PermL x.1.toNat s) : (codeL (ren x s).2).length = (codeL x.2).length :=
  code_len_eq (ren_small hs hx).2.2.2 hx.2.2.2 ren_type
theorem code_small {x : AlgebraM} (hx : SmallP x) : (codeL x.2).length ≤ 1048576 := by
  have := cnt_small hx
  have h3 : shAlgebra.cnt x = 0 + (x.2.length + cntS shOp.cnt x.2) := rfl
  rw [codeL_len]
  omega
theorem code_R {x : AlgebraM} (hx : SmallP x) : ∀ y ∈ codeL x.2, InR y := by
  have key : ∀ l : List OpM, (∀ o ∈ l, OpP x.1.toNat o) → ∀ y ∈ codeL l, InR y := by
    intro l
    induction l with
    | nil => intro _ y hy; simp [codeL] at hy
    | cons o l ih =>
      intro hl y hy
      rw [codeL, List.mem_append] at hy
      rcases hy with hy | hy
      · have := (hl o (by simp)).2.2.2 y hy
        have := hx.2.1
        exact ⟨by omega, by omega⟩
      · exact ih (fun o ho => hl o (by simp [ho])) y hy
  exact key x.2 hx.2.2.2

set_option maxRecDepth 20000 in
set_option maxHeartbeats 8000000 in
theorem l31First_any (cs : List Value) (x : AlgebraM) (w : World) (h : shAlgebra.rd w cs x) (hx : SmallP x) :
    Calls Try.prog 90 #[.agg cs.toArray] w (fun e w' => ∃ A c, e = .returned (.slice A x.1.toNat c) ∧ RdL RI w' A x.1.toNat (canN x) ∧ Below w.heap.size w w') := by
  have hcnt := cnt_small hx
  have HX := Lib.hid hx
  obtain ⟨n, hn⟩ : ∃ n : Nat, x.1 = (n : Int) := ⟨x.1.toNat, by have h1 := hx.1; omega⟩
  have hn5 : n ≤ 5 := by have h1 := hx.2.1; omega
  have HNN : Hid (x.1.toNat = n) := by show _ = _; omega
  have HALL : Hid (∀ p ∈ ords n n [], PermL n p) := by have := all_perm (x := x); rw [HNN.out] at this; exact this
  have HBEST : Hid (bestOf x (ords n n []) = some (canN x)) := by have := (canN_ok (x := x)).1; rw [HNN.out] at this; exact this
  have HUP : Hid (ren x (upTo n) = x) := by have := ren_up hx; rw [HNN.out] at this; exact this
  obtain ⟨AL, HAL⟩ : ∃ AL, Hid (ords n n [] = AL) := ⟨_, rfl⟩
  obtain ⟨rest, HREST⟩ : ∃ rest, Hid (AL = upTo n :: rest) := by
    obtain ⟨l, hl⟩ := ords_head (n := n) n 0 (Nat.zero_add _)
    exact ⟨l, by show _ = _; rw [← HAL.out]; exact hl⟩
  rw [HAL.out] at HALL HBEST
  have hALlen : AL.length ≤ 3125 := by rw [← HAL.out]; exact Nat.le_trans (ords_len n []) (pow5 hn5 hn5)
  obtain ⟨CL, HCL⟩ : ∃ CL, Hid ((codeL x.2).length = CL) := ⟨_, rfl⟩
  have hCL : CL ≤ 1048576 := by rw [← HCL.out]; exact code_small hx
  have HCR : Hid (∀ p, PermL n p → (codeL (ren x p).2).length = CL ∧ ∀ y ∈ codeL (ren x p).2, InR y) := fun p hp => by
    have hp' : PermL x.1.toNat p := by rw [HNN.out]; exact hp
    exact ⟨by rw [code_ren_len HX.out hp', HCL.out], code_R (ren_small hp' HX.out)⟩
  have hrd := h
  obtain ⟨B, m, d, rfl, qs, qo⟩ := rdAlgebra h
  rw [HNN.out]
  rw [hn] at hrd qs ⊢
  obtain ⟨w0, hw0, T0, hs0, BP⟩ := boxes1 w #[.int .i64 (n : Int), .slice B m d] 27
  have HW0 : Hid (_ = w0) := hw0.symm
  have hz0 : w0.heap.size = w.heap.size + 1 := hs0
  obtain ⟨w1, hw1, T1, -, -⟩ := boxes1 w0 #[] 3
  have HW1 : Hid (_ = w1) := hw1.symm
  have cP0 := BP.cell 0
  simp at cP0
  rw [hw0] at cP0
  have R1 : RdL RI w1 (some ⟨w.heap.size + 1, 0, none⟩) 0 [] := RdL.nil _ _ _
  have HNM : Hid (Calls Try.prog 70 #[.int .i64 n, .slice (some ⟨w.heap.size + 1, 0, none⟩) 0 0] w1 (NmE w1 AL)) := by
    have := l31Names_any n hn5 n _ 0 0 [] w1 R1 (Nat.zero_add _)
    rw [HAL.out] at this
    exact this
  have T1w := below_next T0 T1 rfl
  replace BP := BP.next T1
  clear hw0 hw1 hs0 hz0 R1 hx h qo hcnt
  go_enter Try.func90, Try.ntmps90
  go_wp2_with fail
  rw [HW0.out, HW1.out]
  refine HNM.out.mono ?_
  rintro e w2 hNm
  obtain ⟨A2, c2, rfl, R2, hb2⟩ := hNm.rd
  have T2 := below_next T1w hb2 rfl
  replace BP := BP.next hb2
  have h2 := shAlgebra.stab hrd T2.block
  have hal0 : 0 < AL.length := by rw [HREST.out]; simp
  obtain ⟨b2, o2, v0, p0, rfl, hc0, ⟨A0, m0, c0, rfl, r0⟩, -, hx0⟩ := R2.at hal0
  have hp0 : p0 = upTo n := by rw [HREST.out] at hx0; simpa using hx0.symm
  subst hp0
  obtain rfl : n = m0 := by have := r0.len; rw [upTo_len] at this; exact this
  have cP0 := BP.cell 0
  have cP1 := BP.cell 1
  simp at cP0 cP1
  rw [Nat.add_zero] at hc0
  have hal1 : (0 : Int) < (AL.length : Int) := by omega
  have hle2 := R2.le
  clear hx0 hNm
  go_wp2_with fail
  refine (l31Code_any _ x _ h2 (cnt_small HX.out)).mono ?_
  rintro e w3 ⟨AC, cC, rfl, hoC, hb3⟩
  have RC := rd_of_own (R := RI) hoC (RI_ints (code_R HX.out))
  rw [HCL.out] at RC ⊢
  have T3 := below_next T2 hb3 rfl
  replace BP := BP.next hb3
  have R3 := R2.next (stab_RV stab_RI) hb3
  have r3 := r0.next stab_RI hb3
  have HST : Hid (bestOf x (AL.take 1) = some (upTo n)) := by show _ = _; rw [HREST.out]; rfl
  have RC' : RdL RI w3 AC CL (codeL (ren x (upTo n)).2) := by rw [HUP.out]; exact RC
  clear cP0 cP1 hc0 hoC RC R2 r0 h2
  go_wp2_with fail
  go_loopw [4, 5, 6] (fun v u i wr => ∃ (k : Nat) (b : List Int) (A : Option Addr) (c : Nat) (C : Option Addr) (cc : Nat), 1 ≤ k ∧ k ≤ AL.length ∧ i = .int .i64 k ∧ v = .slice A n c ∧ u = .slice C CL cc ∧ Hid (bestOf x (AL.take k) = some b) ∧ RdL RI wr A n b ∧ RdL RI wr C CL (codeL (ren x b).2) ∧ Below w3.heap.size w3 wr) (fun _ _ i _ => AL.length - (intOf i).toNat)
  case atStart => exact ⟨1, upTo n, A0, c0, AC, cC, Nat.le_refl _, by omega, rfl, rfl, rfl, HST, r3, RC', Below.refl _ _⟩
  case round =>
    clear r3 RC' HST
    obtain ⟨k, b, A, c, C, cc, hk1, hk2, rfl, rfl, rfl, HB, rb, rc, hT⟩ := hrel
    by_cases hlt : k < AL.length
    · have hk0 : (0 : Int) ≤ (k : Int) := by omega
      have hkl : (k : Int) < (AL.length : Int) := by omega
      have Rr := R3.next (stab_RV stab_RI) hT
      obtain ⟨v1, p, hcp, ⟨Ap, mp, cp, rfl, rp⟩, -, hxp⟩ := Rr.at' hlt
      have hpm := HALL.out p (List.mem_of_getElem? hxp)
      obtain rfl : n = mp := by rw [← rp.len]; exact hpm.1.symm
      have HNXT : Hid (bestOf x (AL.take (k + 1)) = better x (some b) p) := by show _ = _; rw [take_snoc hxp, bestOf_snoc, HB.out]
      have hpmx : PermL x.1.toNat p := by rw [HNN.out]; exact hpm
      have BPr := BP.next hT
      have cP0 := BPr.cell 0
      have cP1 := BPr.cell 1
      simp at cP0 cP1
      have hTw := below_next T3 hT rfl
      have hrr := shAlgebra.stab hrd hTw.block
      obtain ⟨hcl, hcR⟩ := HCR.out p hpm
      have HCLp := Lib.hid hcl
      have HCRp := Lib.hid hcR
      obtain ⟨hclb, -⟩ := HCR.out b (by have := best_mem HB.out; exact HALL.out b (List.mem_of_mem_take this))
      have HC1 : ∀ wz, Below wr.heap.size wr wz → Calls Try.prog 62 #[.agg #[.int .i64 (n : Int), .slice B m d], .slice Ap n cp] wz (AlgE wz (ren x p)) := fun wz hz => by
        have := l2Rename_any [.int .i64 (n : Int), .slice B m d] x Ap n cp p wz (shAlgebra.stab hrr hz.block) (rp.next stab_RI hz) HX.out hpmx
        exact this
      have HC2 : ∀ wz v css bls, Below wr.heap.size wr wz → PO 0 wz v (ren x p).2 css bls → Calls Try.prog 72 #[.agg #[.int .i64 (ren x p).1, v]] wz (CodeE wz (ren x p).2) := fun wz v css bls hz hp => by
        have := l31Code_any [.int .i64 (ren x p).1, v] (ren x p) wz (hp.alg (show InR x.1 from small_R HX.out)) (cnt_small (ren_small hpmx HX.out))
        exact this
      have HBQ := Lib.hid hclb
      have Tk : Below wr.heap.size wr wr := Below.refl _ _
      clear hcl hcR hclb hxp hpmx
      go_upto_region 7 with fail
      go_cut [7] (fun v7 wx => ∃ Aq cq, v7 = .slice Aq CL cq ∧ RdL RI wx Aq CL (codeL (ren x p).2) ∧ Below wr.heap.size wr wx)
      case first =>
        go_region_held3 (fun w' => w'.cell? ⟨w.heap.size, 0, none⟩ = some (.int .i64 (n : Int)) ∧ w'.cell? ⟨w.heap.size, 1, none⟩ = some (.slice B m d) ∧ w'.cell? ⟨b2, o2 + k, none⟩ = some (.slice Ap n cp)) (first | go_keep | exact ⟨keepc Tk cP0, keepc Tk cP1, keepc Tk hcp⟩) (first
          | (go_at_call 62; (with_reducible refine (HC1 _ ?_).mono ?_); (first | exact Tk | exact Below.drew Tk); rintro e wn ⟨vv, css, bls, rfl, hPn, hbn⟩; replace Tk := below_next (by first | exact Tk | exact Below.drew Tk) hbn rfl)
          | (go_at_call 72; refine (HC2 _ _ _ _ (by first | exact Tk | exact Below.drew Tk) (by first | exact hPn.mono (Nat.zero_le _) | exact (hPn.mono (Nat.zero_le _)).next (Below.drew (Below.refl _ _)))).mono ?_; rintro e wm ⟨Aq, cq, rfl, hoq, hbm⟩; replace Tk := below_next (by first | exact Tk | exact Below.drew Tk) hbm rfl))
        all_goals
          go_wp2_with fail
          go_meet
          refine ⟨Aq, cq, by rw [HCLp.out], ?_, by first | exact Tk | exact Below.drew Tk⟩
          have RQ := rd_of_own (R := RI) hoq (RI_ints HCRp.out)
          rw [HCLp.out] at RQ
          first | exact RQ | exact RQ.drew stab_RI
      case rest =>
        obtain ⟨Aq, cq, rfl, rq, hTc⟩ := hcut
        obtain ⟨w5, HWC⟩ : ∃ wq : World, wq = wc := ⟨_, rfl⟩
        subst HWC
        have hT5 := below_next hT hTc rfl
        have rb5 := rb.next stab_RI hTc
        have rc5 := rc.next stab_RI hTc
        have rp5 := rp.next stab_RI hTc
        have hcp5 := keepc hTc hcp
        clear cP0 cP1 hcp hTc Tk
        rcases hl : lessL (codeL (ren x p).2) (codeL (ren x b).2) with _ | _
        · have HLS := Lib.hid hl
          have HN2 : Hid (bestOf x (AL.take (k + 1)) = some b) := by show _ = _; rw [HNXT.out]; simp [better, hl]
          clear hl
          go_wp2_with (go_at_call 119; refine (l5Less_any _ _ _ _ _ _ _ _ rq rc5).mono ?_; rintro e w' ⟨rfl, z', rfl⟩; rw [HLS.out])
          go_roundw
          case rel => exact ⟨k + 1, b, A, c, C, cc, by omega, by omega, by go_num, rfl, rfl, HN2, rb5.drewN stab_RI _, rc5.drewN stab_RI _, below_drewN hT5 _⟩
          case measure => simp [intOf]; omega
        · have HLS := Lib.hid hl
          have HN2 : Hid (bestOf x (AL.take (k + 1)) = some p) := by show _ = _; rw [HNXT.out]; simp [better, hl]
          clear hl
          go_wp2_with (go_at_call 119; refine (l5Less_any _ _ _ _ _ _ _ _ rq rc5).mono ?_; rintro e w' ⟨rfl, z', rfl⟩; rw [HLS.out])
          go_roundw
          case rel => exact ⟨k + 1, p, Ap, cp, Aq, cq, by omega, by omega, by go_num, rfl, rfl, HN2, rp5.drewN stab_RI _, rq.drewN stab_RI _, below_drewN hT5 _⟩
          case measure => simp [intOf]; omega
    · have hke : k = AL.length := by omega
      have hlt' : ¬ (k : Int) < (AL.length : Int) := by omega
      have HF : Hid (b = canN x) := by
        show _ = _
        have h1 := HB.out
        rw [List.take_of_length_le (by omega), HBEST.out] at h1
        injection h1 with h1
        exact h1.symm
      clear hke
      go_wp2_with fail
      go_ret
      exact ⟨A, ⟨c, rfl⟩, by rw [← HF.out]; exact rb, below_next T3 hT rfl⟩
end Go.Proofs.Ytkmgbdljiajlaaa
namespace Go.Proofs.Ytkmgbdljiajlaaa
open Go.RowKit

/-- append of one int to a row of the call's own: the same block, or a new one. -/
theorem app1x (w0 : World) {ops : Array Oper} {rest : List Oper} {o : Oper} {a : Act} {Q : Exit → Act → World → Prop} (hgd : o.guard = none) (s x : Operand)
    (ho : o.op = .call { callee := .builtin .append, args := #[s, x], argTypes := #[55, 55] })
    (n c : Nat) (A : Option Addr) (xs : List Value) (hs : a.eval s = .slice A n c) (hown : w0.ownsRow 0 3 1 (.slice A n c) n xs) (u : Int) (hx : a.eval x = .slice (some ⟨w0.heap.size, 0, none⟩) 1 1)
    (hn : n ≤ 1048576)
    (hK : ∀ A' c' w', w'.ownsRow 0 3 1 (.slice A' (n + 1) c') (n + 1) (xs ++ [.int .i64 u]) → w0.grownBy w' (Value.slice A n c).ownBlock → (∀ b ∈ obl (.slice A' (n + 1) c'), b ∈ obl (.slice A n c) ∨ w0.heap.size ≤ b) → wpList Try.prog ops Q rest (a.put o.dst (.slice A' (n + 1) c')) w') :
    wpList Try.prog ops Q (o :: rest) a (w0.alloc (.cells #[.int .i64 u] 3)) := by
  obtain ⟨i, hi, hz, hsize, hby⟩ := info_parts info_int
  have hcells : ∀ j y, [Value.int .i64 u][j]? = some y → (w0.alloc (.cells #[.int .i64 u] 3)).cell? ((⟨w0.heap.size, 0, none⟩ : Addr).add j) = some y := by
    intro j y hj
    match j, hj with
    | 0, hj => simp at hj; subst hj; simp [Addr.add]
  have hone : ∀ y ∈ [Value.int .i64 u], y.oneCell' = true := by
    intro y hy
    simp at hy
    subst hy
    rfl
  have lift : ∀ {w' : World} {row : Option Nat}, (w0.alloc (.cells #[.int .i64 u] 3)).grownBy w' row → (∀ k, row = some k → (Value.slice A n c).ownBlock = some k) → w0.grownBy w' (Value.slice A n c).ownBlock := by
    intro w' row hg hr
    exact ⟨hg.os, hg.tape, hg.output, Nat.le_trans (by simp) hg.size, fun k hk hne => (hg.block k (by simp; omega) (fun e => hne (hr k e.symm).symm)).trans (Below.heap_alloc w0 _ k hk)⟩
  by_cases hr : n + 1 ≤ c
  · obtain ⟨g, rfl⟩ : ∃ g, A = some ⟨g, 0, none⟩ := by
      rcases hown.2 with ⟨h0, -⟩ | ⟨g, cap, cur, hv, -⟩
      · injection h0 with _ _ h3
        omega
      · injection hv with hv
        exact ⟨g, hv⟩
    refine wpList_append_own_spare (w0.alloc (.cells #[.int .i64 u] 3)) hgd s x 55 ho 0 3 i 1 Try.underlying55 hi hsize g n c xs hs (hown.alloc _) ⟨w0.heap.size, 0, none⟩ 1 1 [.int .i64 u] hx rfl hcells hone hr ?_
    intro w' h2 h3
    exact hK _ _ _ h2 (lift h3 fun k e => e) (fun b hb => .inl hb)
  · refine wpList_append_grows (w0.alloc (.cells #[.int .i64 u] 3)) hgd s x 55 ho 3 i (.int .i64 0) 1 8 Try.underlying55 hi hz hsize hby rfl (by omega) A n c xs hs ?_ hown.1 ?_ ⟨w0.heap.size, 0, none⟩ 1 1 [.int .i64 u] hx rfl hcells hone (by omega) (by unfold maxLen; omega) (by omega) ?_
    · intro e
      subst e
      rcases hown.2 with ⟨h0, h1⟩ | ⟨g, cap, cur, hv, -⟩
      · injection h0 with _ _ h3
        exact ⟨h1, h3⟩
      · injection hv with hv
        cases hv
    · intro b e j y hy
      subst e
      obtain ⟨g, rfl⟩ : ∃ g, b = ⟨g, 0, none⟩ := by
        rcases hown.2 with ⟨h0, -⟩ | ⟨g, cap, cur, hv, -⟩
        · injection h0 with h0
          cases h0
        · injection hv with hv
          injection hv with hv
          exact ⟨g, hv⟩
      have hjl := (List.getElem?_eq_some_iff.1 hy).1
      have h1 := hown.1
      have := ((hown.alloc (.cells #[.int .i64 u] 3)).cellAt j (by omega)).trans hy
      have ea : (⟨g, 0, none⟩ : Addr).add j = ⟨g, j, none⟩ := by
        unfold Addr.add
        split
        · rename_i h0; subst h0; rfl
        · simp
      rw [ea]
      exact this
    · intro v' w' h2 h3
      obtain ⟨A', c', rfl⟩ := own_slice h2
      refine hK A' c' w' (own_mono h2 (Nat.zero_le _)) (lift h3 fun k e => by cases e) (fun b hb => .inr ?_)
      have := (h2.lt b (mem_obl.1 hb)).1
      simp at this
      omega
theorem own_prefix {w : World} {base n c : Nat} {A : Option Addr} {xs : List Int} {y : Int} {e : TypeId} (h : w.ownsRow base e 1 (.slice A (n + 1) c) (n + 1) (ints (xs ++ [y]))) (hn : xs.length = n) : w.ownsRow base e 1 (.slice A n c) n (ints xs) ∧ n + 1 ≤ c := by
  rcases h.2 with ⟨h0, -⟩ | ⟨g, cap, cur, hv, h1, h2, h3, h4, h5, h6⟩
  · injection h0 with _ h2 _
    omega
  · injection hv with hv1 hv2 hv3
    subst hv1
    subst hv3
    refine ⟨⟨by rw [ints_len]; omega, .inr ⟨g, c, cur, rfl, h1, h2, by omega, h4, h5, ?_⟩⟩, h3⟩
    have : cur.toList.take (n * 1) = (cur.toList.take ((n + 1) * 1)).take (n * 1) := by rw [List.take_take]; congr 1; omega
    rw [this, h6]
    simp [ints, hn]

/-- What eachOrder asks of the function that it calls: Q says what holds once d orders have been handed over; only the blocks of bl may change. -/
structure FoundOk (N : Nat) (n : Nat) (fid : Nat) (caps : Array Value) (Q : World → List (List Int) → List Nat → Prop) : Prop where
  enter : ∀ (args : Array Value) (w : World), (callFunc fid args).run Try.prog w = .ok (.enter fid args) w
  stab : ∀ {w w' : World} {d : List (List Int)} {bl : List Nat}, Q w d bl → w.heap.size ≤ w'.heap.size → (∀ b ∈ bl, w'.heap[b]? = w.heap[b]?) → Q w' d bl
  lt : ∀ {w : World} {d : List (List Int)} {bl : List Nat}, Q w d bl → ∀ b ∈ bl, b < w.heap.size
  call : ∀ (w : World) (d : List (List Int)) (bl : List Nat) (A : Option Addr) (c : Nat) (p : List Int), d.length < N → Q w d bl → RdL RI w A n p → PermL n p →
    Calls Try.prog fid (#[.slice A n c] ++ caps) w fun e w' => e = .returned (.tuple #[]) ∧ ∃ bl', Q w' (d ++ [p]) bl' ∧ ChgB bl w w' ∧ ∀ b ∈ bl', b ∈ bl ∨ w.heap.size ≤ b

structure NxS (n : Nat) (fid : Nat) (caps : Array Value) (g0 g1 g2 g3 : Nat) (w : World) (A : Option Addr) (c : Nat) (s : List Int) (bl : List Nat) : Prop where
  B0 : Blk w g0 55 #[.slice A s.length c]
  B1 : Blk w g1 3 #[.int .i64 (n : Int)]
  B2 : Blk w g2 100 #[.func (.func fid) #[] caps]
  B3 : Blk w g3 1 #[.func (.func 114) #[] #[.pointer (some ⟨g0, 0, none⟩), .pointer (some ⟨g1, 0, none⟩), .pointer (some ⟨g2, 0, none⟩), .pointer (some ⟨g3, 0, none⟩)]]
  own : w.ownsRow 0 3 1 (.slice A s.length c) s.length (ints s)
  dis : ∀ b ∈ obl (.slice A s.length c), b ∉ bl
  gs : g0 ∉ bl ∧ g1 ∉ bl ∧ g2 ∉ bl ∧ g3 ∉ bl
  g1v : g1 ∉ obl (.slice A s.length c)
theorem NxS.chg {n fid : Nat} {caps : Array Value} {g0 g1 g2 g3 c : Nat} {w w' : World} {A : Option Addr} {s : List Int} {bl bl' : List Nat} (h : NxS n fid caps g0 g1 g2 g3 w A c s bl) (hc : ChgB bl w w') (hb : ∀ b ∈ bl', b ∈ bl ∨ w.heap.size ≤ b) : NxS n fid caps g0 g1 g2 g3 w' A c s bl' := by
  have far : ∀ {g : Nat} {t : TypeId} {cs : Array Value}, Blk w g t cs → g ∉ bl → Blk w' g t cs := fun hB hg => (hc.block _ hB.lt hg).trans hB
  have fr : ∀ {g : Nat} {t : TypeId} {cs : Array Value}, Blk w g t cs → g ∉ bl → g ∉ bl' := fun hB hg hh => by
    rcases hb _ hh with h1 | h1
    · exact hg h1
    · have := hB.lt
      omega
  refine ⟨far h.B0 h.gs.1, far h.B1 h.gs.2.1, far h.B2 h.gs.2.2.1, far h.B3 h.gs.2.2.2, ?_, fun b hbm hh => ?_, ⟨fr h.B0 h.gs.1, fr h.B1 h.gs.2.1, fr h.B2 h.gs.2.2.1, fr h.B3 h.gs.2.2.2⟩, h.g1v⟩
  · exact row_chg h.own hc fun b hb' hh => h.dis b (mem_obl.2 hb') hh
  · rcases hb b hh with h1 | h1
    · exact h.dis b hbm h1
    · have := (h.own.lt b (mem_obl.1 hbm)).2
      omega
/-- What a call of the inner function leaves. -/
def NxE (n fid : Nat) (caps : Array Value) (Q : World → List (List Int) → List Nat → Prop) (g0 g1 g2 g3 : Nat) (w : World) (A : Option Addr) (c : Nat) (s : List Int) (bl : List Nat) (d : List (List Int)) (e : Ending) (w' : World) : Prop :=
  e = .returned (.tuple #[]) ∧ ∃ A' c' bl', NxS n fid caps g0 g1 g2 g3 w' A' c' s bl' ∧ Q w' d bl' ∧ ChgB (bl ++ g0 :: obl (.slice A s.length c)) w w' ∧ (∀ b ∈ bl', b ∈ bl ∨ w.heap.size ≤ b) ∧ (∀ b ∈ obl (.slice A' s.length c'), b ∈ obl (.slice A s.length c) ∨ w.heap.size ≤ b)
theorem ChgB.trans2 {bl bl1 : List Nat} {g0 : Nat} {l l1 : List Nat} {w w1 w2 : World} (h : ChgB (bl ++ g0 :: l) w w1) (k : ChgB (bl1 ++ g0 :: l1) w1 w2) (hb1 : ∀ b ∈ bl1, b ∈ bl ∨ w.heap.size ≤ b) (hl : ∀ b ∈ l1, b ∈ l ∨ w.heap.size ≤ b) : ChgB (bl ++ g0 :: l) w w2 :=
  ⟨k.os.trans h.os, k.tape.trans h.tape, k.output.trans h.output, Nat.le_trans h.size k.size, fun b hb hn => (k.block b (Nat.lt_of_lt_of_le hb h.size) fun hh => hn (by
    rw [List.mem_append, List.mem_cons] at hh ⊢
    rcases hh with h1 | h1 | h1
    · rcases hb1 b h1 with h2 | h2
      · exact .inl h2
      · omega
    · exact .inr (.inl h1)
    · rcases hl b h1 with h2 | h2
      · exact .inr (.inr h2)
      · omega)).trans (h.block b hb hn)⟩
end Go.Proofs.Ytkmgbdljiajlaaa
namespace Go.Proofs.Ytkmgbdljiajlaaa
open Go.RowKit

theorem Blk.c0 {w : World} {g : Nat} {t : TypeId} {v : Value} (h : Blk w g t #[v]) : w.cell? ⟨g, 0, none⟩ = some v := by have := h.cell 0; simpa using this

theorem obl_len {A : Option Addr} {n m c d : Nat} : obl (.slice A n c) = obl (.slice A m d) := by rcases A with _ | p <;> rfl
theorem NxS.push {n fid : Nat} {caps : Array Value} {g0 g1 g2 g3 c : Nat} {w w2 : World} {A : Option Addr} {s : List Int} {bl : List Nat} (h : NxS n fid caps g0 g1 g2 g3 w A c s bl) (hbl : ∀ b ∈ bl, b < w.heap.size) {A2 : Option Addr} {c2 : Nat} {u : Int} (ho : w2.ownsRow 0 3 1 (.slice A2 (s.length + 1) c2) (s.length + 1) (ints s ++ [.int .i64 u]))
    (hg : w.grownBy w2 (Value.slice A s.length c).ownBlock) (hf : ∀ b ∈ obl (.slice A2 (s.length + 1) c2), b ∈ obl (.slice A s.length c) ∨ w.heap.size ≤ b) :
    NxS n fid caps g0 g1 g2 g3 (w2.setCell ⟨g0, 0, none⟩ (.slice A2 (s ++ [u]).length c2)) A2 c2 (s ++ [u]) bl ∧ (∀ b ∈ bl, (w2.setCell ⟨g0, 0, none⟩ (.slice A2 (s ++ [u]).length c2)).heap[b]? = w.heap[b]?) ∧ ChgB (g0 :: obl (.slice A s.length c)) w (w2.setCell ⟨g0, 0, none⟩ (.slice A2 (s ++ [u]).length c2)) := by
  have hl : (s ++ [u]).length = s.length + 1 := by simp
  have far : ∀ {g : Nat} {t : TypeId} {cs : Array Value}, Blk w g t cs → g ∉ obl (.slice A s.length c) → Blk w2 g t cs := fun hB hn => hB.grown hg fun e => hn (mem_obl.2 e.symm)
  have n0 : g0 ∉ obl (.slice A s.length c) := fun hh => own_off h.own h.B0 (by decide) (mem_obl.1 hh)
  have n2 : g2 ∉ obl (.slice A s.length c) := fun hh => own_off h.own h.B2 (by decide) (mem_obl.1 hh)
  have n3 : g3 ∉ obl (.slice A s.length c) := fun hh => own_off h.own h.B3 (by decide) (mem_obl.1 hh)
  have e1 : g1 ≠ g0 := h.B1.ne_ h.B0 (by decide)
  have e2 : g2 ≠ g0 := h.B2.ne_ h.B0 (by decide)
  have e3 : g3 ≠ g0 := h.B3.ne_ h.B0 (by decide)
  have B0' := (far h.B0 n0).set_ 0 (.slice A2 (s ++ [u]).length c2)
  have hno : g0 ∉ obl (.slice A2 (s.length + 1) c2) := fun hh => own_off ho (far h.B0 n0) (by decide) (mem_obl.1 hh)
  refine ⟨⟨by simpa using B0', (far h.B1 h.g1v).far (p := ⟨g0, 0, none⟩) e1 _, (far h.B2 n2).far (p := ⟨g0, 0, none⟩) e2 _, (far h.B3 n3).far (p := ⟨g0, 0, none⟩) e3 _, ?_, ?_, h.gs, ?_⟩, ?_, ?_⟩
  · rw [hl, ints_snoc]
    exact own_set ho (p := ⟨g0, 0, none⟩) (fun hh => hno (mem_obl.2 hh)) _
  · intro b hb hh
    rw [hl] at hb
    rcases hf b hb with h1 | h1
    · exact h.dis b h1 hh
    · have := hbl b hh
      omega
  · intro hh
    rw [hl] at hh
    rcases hf g1 hh with h1 | h1
    · exact h.g1v h1
    · have := h.B1.lt
      omega
  · intro b hb
    rw [Below.heap_setCell w2 ⟨g0, 0, none⟩ _ b (fun e => h.gs.1 (by rw [← show b = g0 from e]; exact hb))]
    exact hg.block b (hbl b hb) fun e => h.dis b (mem_obl.2 e.symm) hb
  · exact ⟨hg.os, hg.tape, hg.output, by simpa using hg.size, fun b hb hn => by
      rw [List.mem_cons, not_or] at hn
      rw [Below.heap_setCell w2 ⟨g0, 0, none⟩ _ b hn.1]
      exact hg.block b hb fun e => hn.2 (mem_obl.2 e.symm)⟩
theorem NxS.pop {n fid : Nat} {caps : Array Value} {g0 g1 g2 g3 c : Nat} {w : World} {A : Option Addr} {s : List Int} {u : Int} {bl : List Nat} (h : NxS n fid caps g0 g1 g2 g3 w A c (s ++ [u]) bl) :
    NxS n fid caps g0 g1 g2 g3 (w.setCell ⟨g0, 0, none⟩ (.slice A s.length c)) A c s bl ∧ (∀ b ∈ bl, (w.setCell ⟨g0, 0, none⟩ (.slice A s.length c)).heap[b]? = w.heap[b]?) ∧ s.length + 1 ≤ c := by
  have hl : (s ++ [u]).length = s.length + 1 := by simp
  have ho := h.own
  rw [hl] at ho
  obtain ⟨ho2, hc⟩ := own_prefix ho rfl
  have e1 : g1 ≠ g0 := h.B1.ne_ h.B0 (by decide)
  have e2 : g2 ≠ g0 := h.B2.ne_ h.B0 (by decide)
  have e3 : g3 ≠ g0 := h.B3.ne_ h.B0 (by decide)
  have hob : obl (.slice A s.length c) = obl (.slice A (s ++ [u]).length c) := by rcases A with _ | p <;> rfl
  have hno : g0 ∉ obl (.slice A s.length c) := fun hh => own_off ho2 h.B0 (by decide) (mem_obl.1 hh)
  refine ⟨⟨by simpa using h.B0.set_ 0 (.slice A s.length c), h.B1.far (p := ⟨g0, 0, none⟩) e1 _, h.B2.far (p := ⟨g0, 0, none⟩) e2 _, h.B3.far (p := ⟨g0, 0, none⟩) e3 _, own_set ho2 (p := ⟨g0, 0, none⟩) (fun hh => hno (mem_obl.2 hh)) _, ?_, h.gs, ?_⟩, ?_, hc⟩
  · rw [hob]
    exact h.dis
  · rw [hob]
    exact h.g1v
  · intro b hb
    exact Below.heap_setCell w ⟨g0, 0, none⟩ _ b (fun e => h.gs.1 (by rw [← show b = g0 from e]; exact hb))

theorem ordsTo_mono {n r : Nat} {s : List Int} {k : Nat} : ∀ {m : Nat}, k ≤ m → (ordsTo n r s k).length ≤ (ordsTo n r s m).length
  | 0, h => by
    obtain rfl : k = 0 := by omega
    exact Nat.le_refl _
  | m + 1, h => by
    rcases Nat.lt_or_ge k (m + 1) with h1 | h1
    · rw [ordsTo_succ n r s m, List.length_append]
      have := ordsTo_mono (n := n) (r := r) (s := s) (k := k) (m := m) (by omega)
      omega
    · obtain rfl : k = m + 1 := by omega
      exact Nat.le_refl _
set_option maxRecDepth 20000 in
set_option maxHeartbeats 4000000 in
theorem next_any {N n fid : Nat} {caps : Array Value} {Q : World → List (List Int) → List Nat → Prop} (hF : FoundOk N n fid caps Q) (hn5 : n ≤ 5) (g0 g1 g2 g3 : Nat) :
    ∀ (r : Nat) (A : Option Addr) (c : Nat) (s : List Int) (bl : List Nat) (d : List (List Int)) (w : World), NxS n fid caps g0 g1 g2 g3 w A c s bl → Q w d bl → s.length + r = n → (∀ v ∈ s, 0 ≤ v ∧ v ≤ (n : Int) - 1) → s.Nodup → d.length + (ords n r s).length ≤ N →
      Calls Try.prog 114 #[.pointer (some ⟨g0, 0, none⟩), .pointer (some ⟨g1, 0, none⟩), .pointer (some ⟨g2, 0, none⟩), .pointer (some ⟨g3, 0, none⟩)] w (NxE n fid caps Q g0 g1 g2 g3 w A c s bl (d ++ ords n r s))
  | 0, A, c, s, bl, d, w, hS, hQ, hl, hb, hnd, hN => by
    have hls : s.length = n := by omega
    have HS := Lib.hid hS
    have c0 := hS.B0.c0
    have c1 := hS.B1.c0
    have c2 := hS.B2.c0
    have HO : Hid (ords n 0 s = [s]) := rfl
    have hR : RdL RI w A n s := by
      have := rd_of_own (R := RI) hS.own (RI_ints fun v hv => by have := hb v hv; omega)
      rw [hls] at this
      exact this
    have HC := Lib.hid (hF.call w d bl A c s (by simp [ords] at hN; omega) hQ hR ⟨hls, hb, hnd⟩)
    rw [hls] at c0
    have hen := hF.enter
    clear hS hQ hb hnd hl
    go_enter Try.func114, Try.ntmps114
    go_wp2_with fail
    refine HC.out.mono ?_
    rintro e w' ⟨rfl, bl', hQ', hcg, hfr⟩
    have HS' := Lib.hid (HS.out.chg hcg hfr)
    have HQ' := Lib.hid hQ'
    clear hQ'
    go_wp2_with fail
    (try simp only [Exit.inBlock, Exit.then])
    refine bodyPost_ret (results_none rfl _ _ _) rfl ?_
    exact ⟨rfl, A, c, bl', HS'.out, by rw [HO.out]; exact HQ'.out, hcg.mono fun b hb => List.mem_append_left _ hb, hfr, fun b hb => .inl hb⟩
  | r + 1, A, c, s, bl, d, w, hS, hQ, hl, hb, hnd, hN => by
    have HNN := Lib.hid hN
    clear hN
    have ih := next_any hF hn5 g0 g1 g2 g3 r
    have HB := Lib.hid hb
    have HND := Lib.hid hnd
    have hsl : s.length ≤ 5 := by omega
    have hbe : ((s.length : Int) == (n : Int)) = false := by rw [beq_eq_false_iff_ne]; omega
    have c0 := hS.B0.c0
    have c1 := hS.B1.c0
    have HO : Hid (ordsTo n r s n = ords n (r + 1) s) := rfl
    have HL := Lib.hid hl
    clear hb hnd
    go_enter Try.func114, Try.ntmps114
    go_wp2_with fail
    clear c0 c1
    go_loopw [4] (fun i wr => ∃ (k : Nat) (A' : Option Addr) (c' : Nat) (bl' : List Nat), k ≤ n ∧ i = .int .i64 k ∧ NxS n fid caps g0 g1 g2 g3 wr A' c' s bl' ∧ Q wr (d ++ ordsTo n r s k) bl' ∧ ChgB (bl ++ g0 :: obl (.slice A s.length c)) w wr ∧ (∀ b ∈ bl', b ∈ bl ∨ w.heap.size ≤ b) ∧ (∀ b ∈ obl (.slice A' s.length c'), b ∈ obl (.slice A s.length c) ∨ w.heap.size ≤ b)) (fun i _ => n - (intOf i).toNat)
    case atStart => exact ⟨0, A, c, bl, Nat.zero_le _, rfl, hS, by rw [show ordsTo n r s 0 = [] from rfl, List.append_nil]; exact hQ, ChgB.refl _ _, fun b hb => .inl hb, fun b hb => .inl hb⟩
    case round =>
      clear hS hQ
      obtain ⟨k, A', c', bl', hk, rfl, hS, hQ, hC, hfb, hfv⟩ := hrel
      have c0 := hS.B0.c0
      have c1 := hS.B1.c0
      by_cases hlt : k < n
      · have hk0 : (0 : Int) ≤ (k : Int) := by omega
        have hk1 : (k : Int) < (n : Int) := by omega
        have hR : RdL RI wr A' s.length s := rd_of_own (R := RI) hS.own (RI_ints fun v hv => by have := HB.out v hv; omega)
        have HS := Lib.hid hS
        have HQ := Lib.hid hQ
        have HREL := Lib.hid (And.intro hC (And.intro hfb hfv))
        rcases hh : hasI (k : Int) s with _ | _
        · have HH : Hid ((!hasI (k : Int) s) = true) := by show _ = _; rw [hh]; rfl
          have HSU : Hid (ordsTo n r s (k + 1) = ordsTo n r s k ++ ords n r (s ++ [(k : Int)])) := by show _ = _; rw [ordsTo_succ, hh]; simp
          have HNM : Hid (¬ (k : Int) ∈ s) := fun hm => by rw [hasI_m.2 hm] at hh; cases hh
          have hown := hS.own
          have HBL : Hid (∀ b ∈ bl', b < wr.heap.size) := hF.lt hQ
          have e30 : g3 ≠ g0 := hS.B3.ne_ hS.B0 (by decide)
          have c3 := hS.B3.c0
          clear hh hS hQ hC hfb hfv
          go_wp2_with (first
            | (go_at_call 115; refine (hasNot_any _ _ _ _ _ _ hR).mono ?_; rintro e w' ⟨rfl, rfl⟩; rw [HH.out])
            | (at_builtin; refine app1x wr rfl _ _ rfl s.length c' A' (ints s) rfl hown (k : Int) rfl (by omega) ?_; intro A2 c2 w2 hown2 hg2 hf2; have HP := Lib.hid (HS.out.push HBL.out hown2 hg2 hf2); have cB0 := (HS.out.B0.grown hg2 (fun e => own_off hown HS.out.B0 (by decide) e.symm)).c0; have fB0 := (HS.out.B0.grown hg2 (fun e => own_off hown HS.out.B0 (by decide) e.symm)).frozen 0; have cB3 := (HS.out.B3.grown hg2 (fun e => own_off hown HS.out.B3 (by decide) e.symm)).c0))
          have hlen1 : (s ++ [(k : Int)]).length = s.length + 1 := by simp
          obtain ⟨hN3, hsame3, hC3⟩ := HP.out
          rw [hlen1] at hN3 hsame3 hC3
          obtain ⟨w3, hw3⟩ : ∃ w3, w3 = w2.setCell ⟨g0, 0, none⟩ (.slice A2 (s.length + 1) c2) := ⟨_, rfl⟩
          rw [← hw3] at hN3 hsame3 hC3 ⊢
          clear hw3 HP cB0 fB0 cB3
          have hQ3 := hF.stab HQ.out hC3.size hsame3
          refine (ih A2 c2 (s ++ [(k : Int)]) bl' _ w3 hN3 hQ3 (by rw [hlen1]; have := HL.out; omega) (fun v hv => by
            rw [List.mem_append] at hv
            rcases hv with hv | hv
            · exact HB.out v hv
            · rw [List.mem_singleton] at hv
              omega) (by
            rw [List.nodup_append]
            refine ⟨HND.out, by simp, fun a ha b hb e => ?_⟩
            rw [List.mem_singleton] at hb
            subst hb
            subst e
            exact HNM.out ha) (by
            have h1 := HNN.out
            have h2 : (ordsTo n r s (k + 1)).length ≤ (ordsTo n r s n).length := ordsTo_mono (by omega)
            rw [HO.out] at h2
            rw [HSU.out, List.length_append] at h2
            rw [List.length_append]
            omega)).mono ?_
          rintro e w5 ⟨rfl, A5, c5, bl5, hN5, hQ5, hC5, hfb5, hfv5⟩
          rw [List.append_assoc, ← HSU.out] at hQ5
          obtain ⟨hN6, hsame6, hc56⟩ := hN5.pop
          have cB0 := hN5.B0.c0
          have fB0 := hN5.B0.frozen 0
          rw [hlen1] at cB0
          have hQ6 := hF.stab hQ5 (by simp) hsame6
          have hfvv : ∀ b ∈ obl (.slice A2 (s ++ [(k : Int)]).length c2), b ∈ obl (.slice A' s.length c') ∨ wr.heap.size ≤ b := fun b hb => hf2 b (by rw [obl_len (m := (s ++ [(k : Int)]).length) (d := c2)]; exact hb)
          have hCr : ChgB (bl' ++ g0 :: obl (.slice A' s.length c')) wr (w5.setCell ⟨g0, 0, none⟩ (.slice A5 s.length c5)) :=
            ((hC3.mono fun b hb => List.mem_append_right _ hb).trans2 hC5 (fun b hb => .inl hb) hfvv).trans (ChgB.set (p := ⟨g0, 0, none⟩) (List.mem_append_right _ (List.mem_cons_self ..)) _)
          have hs1 := HREL.out.1.size
          have hs3 := hC3.size
          have HFIN := Lib.hid (And.intro hN6 (And.intro hQ6 (And.intro (HREL.out.1.trans2 hCr HREL.out.2.1 HREL.out.2.2) (And.intro (show ∀ b ∈ bl5, b ∈ bl ∨ w.heap.size ≤ b from fun b hb => by
            rcases hfb5 b hb with h1 | h1
            · exact HREL.out.2.1 b h1
            · exact .inr (by omega)) (show ∀ b ∈ obl (.slice A5 s.length c5), b ∈ obl (.slice A s.length c) ∨ w.heap.size ≤ b from fun b hb => by
            rw [obl_len (m := (s ++ [(k : Int)]).length) (d := c5)] at hb
            rcases hfv5 b hb with h1 | h1
            · rcases hfvv b h1 with h2 | h2
              · exact HREL.out.2.2 b h2
              · exact .inr (by omega)
            · exact .inr (by omega))))))
          clear hN3 hsame3 hC3 hN5 hQ5 hC5 hfb5 hfv5 hN6 hsame6 hQ6 hQ3 hCr hfvv hown2 hg2 hf2 hown hR HREL c0 c1 c3
          go_wp2_with fail
          go_roundw
          case rel => exact ⟨k + 1, A5, c5, bl5, by omega, by go_num, HFIN.out⟩
          case measure => simp [intOf]; omega
        · have HH : Hid ((!hasI (k : Int) s) = false) := by show _ = _; rw [hh]; rfl
          have HSU : Hid (ordsTo n r s (k + 1) = ordsTo n r s k) := by show _ = _; rw [ordsTo_succ, hh]; simp
          clear hh hS hQ hC hfb hfv
          go_wp2_with (go_at_call 115; refine (hasNot_any _ _ _ _ _ _ hR).mono ?_; rintro e w' ⟨rfl, rfl⟩; rw [HH.out])
          go_roundw
          case rel => exact ⟨k + 1, A', c', bl', by omega, by go_num, HS.out, by rw [HSU.out]; exact HQ.out, HREL.out⟩
          case measure => simp [intOf]; omega
      · obtain rfl : k = n := by omega
        have hlt' : ¬ (k : Int) < (k : Int) := by omega
        have HFIN : Hid (NxE k fid caps Q g0 g1 g2 g3 w A c s bl (d ++ ords k (r + 1) s) (.returned (.tuple #[])) wr) := ⟨rfl, A', c', bl', hS, by rw [← HO.out]; exact hQ, hC, hfb, hfv⟩
        clear hS hQ hC hfb hfv
        go_wp2_with fail
        go_end0
        exact HFIN.out
end Go.Proofs.Ytkmgbdljiajlaaa
namespace Go.Proofs.Ytkmgbdljiajlaaa
open Go.RowKit

set_option maxRecDepth 20000 in
set_option maxHeartbeats 4000000 in
theorem eachOrder_any {N n fid : Nat} {caps : Array Value} {Q : World → List (List Int) → List Nat → Prop} (hF : FoundOk N n fid caps Q) (hn5 : n ≤ 5) (hN : (ords n n []).length ≤ N) (w : World) (bl : List Nat) (hQ : Q w [] bl) :
    Calls Try.prog 82 #[.int .i64 (n : Int), .func (.func fid) #[] caps] w (fun e w' => e = .returned (.tuple #[]) ∧ ∃ bl', Q w' (ords n n []) bl' ∧ ChgB bl w w' ∧ ∀ b ∈ bl', b ∈ bl ∨ w.heap.size ≤ b) := by
  have hlt := hF.lt hQ
  obtain ⟨w5, hw5⟩ : ∃ w5, w5 = ((((w.alloc (.cells #[.int .i64 (n : Int)] 3)).alloc (.cells #[.func (.func fid) #[] caps] 100)).alloc (.cells #[] 3)).alloc (.cells #[.slice (some ⟨w.heap.size + 1 + 1, 0, none⟩) 0 0] 55)).alloc (.cells #[.func (.func 114) #[] #[.pointer (some ⟨w.heap.size + 1 + 1 + 1, 0, none⟩), .pointer (some ⟨w.heap.size, 0, none⟩), .pointer (some ⟨w.heap.size + 1, 0, none⟩), .pointer (some ⟨w.heap.size + 1 + 1 + 1 + 1, 0, none⟩)]] 1) := ⟨_, rfl⟩
  have T5 : Below w.heap.size w w5 := by
    rw [hw5]
    exact (below_box4 w _ _ _ _).alloc (by simp; omega) _
  have hz5 : w5.heap.size = w.heap.size + 5 := by rw [hw5]; simp
  have B1 : Blk w5 w.heap.size 3 #[.int .i64 (n : Int)] := by
    rw [hw5]
    exact ((((Blk.new w 3 #[.int .i64 (n : Int)]).alloc _).alloc _).alloc _).alloc _
  have B2 : Blk w5 (w.heap.size + 1) 100 #[.func (.func fid) #[] caps] := by
    rw [hw5]
    have := (((Blk.new (w.alloc (.cells #[.int .i64 (n : Int)] 3)) 100 #[.func (.func fid) #[] caps]).alloc (.cells #[] 3)).alloc (.cells #[.slice (some ⟨w.heap.size + 1 + 1, 0, none⟩) 0 0] 55)).alloc (.cells #[.func (.func 114) #[] #[.pointer (some ⟨w.heap.size + 1 + 1 + 1, 0, none⟩), .pointer (some ⟨w.heap.size, 0, none⟩), .pointer (some ⟨w.heap.size + 1, 0, none⟩), .pointer (some ⟨w.heap.size + 1 + 1 + 1 + 1, 0, none⟩)]] 1)
    simpa using this
  have B0 : Blk w5 (w.heap.size + 1 + 1 + 1) 55 #[.slice (some ⟨w.heap.size + 1 + 1, 0, none⟩) 0 0] := by
    rw [hw5]
    have := (Blk.new (((w.alloc (.cells #[.int .i64 (n : Int)] 3)).alloc (.cells #[.func (.func fid) #[] caps] 100)).alloc (.cells #[] 3)) 55 #[.slice (some ⟨w.heap.size + 1 + 1, 0, none⟩) 0 0]).alloc (.cells #[.func (.func 114) #[] #[.pointer (some ⟨w.heap.size + 1 + 1 + 1, 0, none⟩), .pointer (some ⟨w.heap.size, 0, none⟩), .pointer (some ⟨w.heap.size + 1, 0, none⟩), .pointer (some ⟨w.heap.size + 1 + 1 + 1 + 1, 0, none⟩)]] 1)
    simpa using this
  have B3 : Blk w5 (w.heap.size + 1 + 1 + 1 + 1) 1 #[.func (.func 114) #[] #[.pointer (some ⟨w.heap.size + 1 + 1 + 1, 0, none⟩), .pointer (some ⟨w.heap.size, 0, none⟩), .pointer (some ⟨w.heap.size + 1, 0, none⟩), .pointer (some ⟨w.heap.size + 1 + 1 + 1 + 1, 0, none⟩)]] := by
    rw [hw5]
    have := Blk.new ((((w.alloc (.cells #[.int .i64 (n : Int)] 3)).alloc (.cells #[.func (.func fid) #[] caps] 100)).alloc (.cells #[] 3)).alloc (.cells #[.slice (some ⟨w.heap.size + 1 + 1, 0, none⟩) 0 0] 55)) 1 #[.func (.func 114) #[] #[.pointer (some ⟨w.heap.size + 1 + 1 + 1, 0, none⟩), .pointer (some ⟨w.heap.size, 0, none⟩), .pointer (some ⟨w.heap.size + 1, 0, none⟩), .pointer (some ⟨w.heap.size + 1 + 1 + 1 + 1, 0, none⟩)]]
    simpa using this
  have own : w5.ownsRow 0 3 1 (.slice (some ⟨w.heap.size + 1 + 1, 0, none⟩) 0 0) 0 (ints []) := by
    rw [hw5]
    have := ((World.ownsRow_lit (e := 3) (size := 1) ((w.alloc (.cells #[.int .i64 (n : Int)] 3)).alloc (.cells #[.func (.func fid) #[] caps] 100)) #[] 0 (Nat.zero_le _) (Nat.zero_le _) rfl).alloc (.cells #[.slice (some ⟨w.heap.size + 1 + 1, 0, none⟩) 0 0] 55)).alloc (.cells #[.func (.func 114) #[] #[.pointer (some ⟨w.heap.size + 1 + 1 + 1, 0, none⟩), .pointer (some ⟨w.heap.size, 0, none⟩), .pointer (some ⟨w.heap.size + 1, 0, none⟩), .pointer (some ⟨w.heap.size + 1 + 1 + 1 + 1, 0, none⟩)]] 1)
    rw [World.size_alloc, World.size_alloc] at this
    exact this
  have hX : NxS n fid caps (w.heap.size + 1 + 1 + 1) w.heap.size (w.heap.size + 1) (w.heap.size + 1 + 1 + 1 + 1) w5 (some ⟨w.heap.size + 1 + 1, 0, none⟩) 0 [] bl :=
    ⟨B0, B1, B2, B3, own, fun b hb hh => by
      have h1 := hlt b hh
      have h2 : b ∈ [w.heap.size + 1 + 1] := hb
      simp at h2
      omega, ⟨fun hh => by have := hlt _ hh; omega, fun hh => by have := hlt _ hh; omega, fun hh => by have := hlt _ hh; omega, fun hh => by have := hlt _ hh; omega⟩, fun hh => by
      have h2 : w.heap.size ∈ [w.heap.size + 1 + 1] := hh
      simp at h2
      omega⟩
  have hQ5 : Q w5 [] bl := hF.stab hQ T5.size fun b hb => T5.block b (hlt b hb)
  have HC := Lib.hid (next_any hF hn5 _ _ _ _ n _ 0 [] bl [] w5 hX hQ5 (by simp) (fun v hv => by cases hv) List.nodup_nil (by simpa using hN))
  have HT := Lib.hid (And.intro T5 (And.intro hz5 hlt))
  have c3 := B3.c0
  have HW5 := Lib.hid hw5
  rw [hw5] at c3
  have BZ := Blk.new ((((w.alloc (.cells #[.int .i64 (n : Int)] 3)).alloc (.cells #[.func (.func fid) #[] caps] 100)).alloc (.cells #[] 3)).alloc (.cells #[.slice (some ⟨w.heap.size + 1 + 1, 0, none⟩) 0 0] 55)) 1 #[.nilFunc]
  have cZ := BZ.c0
  have fZ := BZ.frozen 0
  simp at cZ fZ
  have hst : ∀ (a : Addr) (fn : Fn) (fs cs : Array Value) (w : World) (m : Mode), Sem.run Try.prog (store a (.func fn fs cs) m) w = stored Try.prog w a (.func fn fs cs) m := fun a fn fs cs w m => run_store Try.prog w a _ m rfl
  clear hw5 T5 hz5 B0 B1 B2 B3 own hX hQ5 hQ hlt
  go_enter Try.func82, Try.ntmps82
  go_wp2_with fail
  rw [← HW5.out]
  refine HC.out.mono ?_
  rintro e w' ⟨rfl, A', c', bl', -, hQ', hC', hfb, -⟩
  obtain ⟨T5, hz5, hlt⟩ := HT.out
  have HQ' := Lib.hid hQ'
  have hfin : ChgB bl w w' := by
    refine ⟨hC'.os.trans T5.os, hC'.tape.trans T5.tape, hC'.output.trans T5.output, by have := hC'.size; omega, fun b hb hn => (hC'.block b (by omega) fun hh => ?_).trans (T5.block b hb)⟩
    rw [List.mem_append, List.mem_cons] at hh
    rcases hh with h1 | h1 | h1
    · exact hn h1
    · omega
    · have h2 : b ∈ [w.heap.size + 1 + 1] := h1
      simp at h2
      omega
  have HFIN := Lib.hid hfin
  have HFB : Hid (∀ b ∈ bl', b ∈ bl ∨ w.heap.size ≤ b) := fun b hb => by
    rcases hfb b hb with h1 | h1
    · exact .inl h1
    · exact .inr (by omega)
  clear hQ' hC' hfb hfin T5 hz5 hlt
  go_wp2_with fail
  go_end0
  exact ⟨rfl, bl', by have := HQ'.out; simpa using this, HFIN.out, HFB.out⟩
end Go.Proofs.Ytkmgbdljiajlaaa
namespace Go.Proofs.Ytkmgbdljiajlaaa
open Go.RowKit

/-- Where the boxes of canonical stand, and what the algebra's cells are. -/
structure CanC where
  x : AlgebraM
  n : Nat
  CL : Nat
  B : Option Addr
  m : Nat
  d : Nat
  wL : World
  ga : Nat
  gf : Nat
  gc : Nat
  gb : Nat
def CanC.rest (C : CanC) (w : World) : Option (List Int) → List Nat → Prop
  | none, bl => Blk w C.gf 55 #[.slice none 0 0] ∧ Blk w C.gc 55 #[.slice none 0 0] ∧ Blk w C.gb 27 #[.int .i64 0, .slice none 0 0] ∧ bl = [C.ga, C.gf, C.gc, C.gb]
  | some b, bl => ∃ (Af : Option Addr) (cf : Nat) (Ac : Option Addr) (cc : Nat) (vb : Value) (css : List (List Value)) (bls : List (List Nat)), Blk w C.gf 55 #[.slice Af C.n cf] ∧ Blk w C.gc 55 #[.slice Ac C.CL cc] ∧ Blk w C.gb 27 #[.int .i64 (C.n : Int), vb] ∧
      w.ownsRow C.wL.heap.size 3 1 (.slice Af C.n cf) C.n (ints b) ∧ w.ownsRow C.wL.heap.size 3 1 (.slice Ac C.CL cc) C.CL (ints (codeL (ren C.x b).2)) ∧ PO C.wL.heap.size w vb (ren C.x b).2 css bls ∧
      bl = [C.ga, C.gf, C.gc, C.gb] ++ (obl (.slice Af C.n cf) ++ (obl (.slice Ac C.CL cc) ++ (obl vb ++ bls.flatten)))
/-- The state once d orders have been handed over. -/
def CanC.Q (C : CanC) (w : World) (d : List (List Int)) (bl : List Nat) : Prop :=
  ∃ rl, bl = List.range C.wL.heap.size ++ rl ∧ (∀ b < C.wL.heap.size, w.heap[b]? = C.wL.heap[b]?) ∧ C.wL.heap.size ≤ w.heap.size ∧ Blk w C.ga 27 #[.int .i64 (C.n : Int), .slice C.B C.m C.d] ∧ (∀ p ∈ d, PermL C.n p) ∧ C.rest w (bestOf C.x d) rl
structure CanC.Ok (C : CanC) : Prop where
  rd : shAlgebra.rd C.wL [.int .i64 (C.n : Int), .slice C.B C.m C.d] C.x
  small : SmallP C.x
  hn : C.x.1 = (C.n : Int)
  hCL : (codeL C.x.2).length = C.CL
  dist : C.gf ≠ C.gc ∧ C.gf ≠ C.gb ∧ C.gc ≠ C.gb ∧ C.ga ≠ C.gb ∧ C.ga ≠ C.gf ∧ C.ga ≠ C.gc
  ge : C.wL.heap.size ≤ C.ga ∧ C.wL.heap.size ≤ C.gf ∧ C.wL.heap.size ≤ C.gc ∧ C.wL.heap.size ≤ C.gb
theorem CanC.rest_stab {C : CanC} {w w' : World} {o : Option (List Int)} {bl : List Nat} (h : C.rest w o bl) (hz : w.heap.size ≤ w'.heap.size) (hs : ∀ b ∈ bl, w'.heap[b]? = w.heap[b]?) : C.rest w' o bl := by
  rcases o with _ | b
  · obtain ⟨h1, h2, h3, rfl⟩ := h
    exact ⟨(hs _ (by simp)).trans h1, (hs _ (by simp)).trans h2, (hs _ (by simp)).trans h3, rfl⟩
  · obtain ⟨Af, cf, Ac, cc, vb, css, bls, h1, h2, h3, h4, h5, h6, rfl⟩ := h
    refine ⟨Af, cf, Ac, cc, vb, css, bls, (hs _ (by simp)).trans h1, (hs _ (by simp)).trans h2, (hs _ (by simp)).trans h3, own_same h4 fun b hb => hs b ?_, own_same h5 fun b hb => hs b ?_, h6.same hz fun b hb => hs b ?_, rfl⟩
    · exact List.mem_append_right _ (List.mem_append_left _ (mem_obl.2 hb))
    · exact List.mem_append_right _ (List.mem_append_right _ (List.mem_append_left _ (mem_obl.2 hb)))
    · exact List.mem_append_right _ (List.mem_append_right _ (List.mem_append_right _ hb))
theorem CanC.Q_lt {C : CanC} {w : World} {d : List (List Int)} {bl : List Nat} (h : C.Q w d bl) : ∀ b ∈ bl, b < w.heap.size := by
  obtain ⟨rl, rfl, -, hz, hA, -, hr⟩ := h
  intro b hb
  rcases List.mem_append.1 hb with hb | hb
  · have := List.mem_range.1 hb
    omega
  · generalize bestOf C.x d = o at hr
    rcases o with _ | p
    · obtain ⟨h1, h2, h3, rfl⟩ := hr
      simp at hb
      rcases hb with rfl | rfl | rfl | rfl
      · exact hA.lt
      · exact h1.lt
      · exact h2.lt
      · exact h3.lt
    · obtain ⟨Af, cf, Ac, cc, vb, css, bls, h1, h2, h3, h4, h5, h6, rfl⟩ := hr
      rcases List.mem_append.1 hb with hb | hb
      · simp at hb
        rcases hb with rfl | rfl | rfl | rfl
        · exact hA.lt
        · exact h1.lt
        · exact h2.lt
        · exact h3.lt
      · rcases List.mem_append.1 hb with hb | hb
        · exact (h4.lt b (mem_obl.1 hb)).2
        · rcases List.mem_append.1 hb with hb | hb
          · exact (h5.lt b (mem_obl.1 hb)).2
          · exact (h6.2.2.2 b hb).2
theorem CanC.Q_sub {C : CanC} {w : World} {d : List (List Int)} {bl : List Nat} (h : C.Q w d bl) : ∀ g ∈ [C.ga, C.gf, C.gc, C.gb], g ∈ bl := by
  obtain ⟨rl, rfl, -, -, -, -, hr⟩ := h
  intro g hg
  refine List.mem_append_right _ ?_
  generalize bestOf C.x d = o at hr
  rcases o with _ | p
  · obtain ⟨-, -, -, rfl⟩ := hr
    exact hg
  · obtain ⟨Af, cf, Ac, cc, vb, css, bls, h1, h2, h3, h4, h5, h6, rfl⟩ := hr
    exact List.mem_append_left _ hg
theorem CanC.Q_stab {C : CanC} {w w' : World} {d : List (List Int)} {bl : List Nat} (h : C.Q w d bl) (hz : w.heap.size ≤ w'.heap.size) (hs : ∀ b ∈ bl, w'.heap[b]? = w.heap[b]?) : C.Q w' d bl := by
  have hsub := C.Q_sub h
  obtain ⟨rl, rfl, h1, h2, hA, hp, hr⟩ := h
  exact ⟨rl, rfl, fun b hb => (hs b (List.mem_append_left _ (List.mem_range.2 hb))).trans (h1 b hb), Nat.le_trans h2 hz, (hs _ (hsub C.ga (by simp))).trans hA, hp, CanC.rest_stab hr hz fun b hb => hs b (List.mem_append_right _ hb)⟩
theorem CanC.Q_rd {C : CanC} {w : World} {d : List (List Int)} {bl : List Nat} (hC : C.Ok) (h : C.Q w d bl) : shAlgebra.rd w [.int .i64 (C.n : Int), .slice C.B C.m C.d] C.x := by
  obtain ⟨rl, rfl, h1, -, -, -, -⟩ := h
  exact shAlgebra.stab hC.rd h1
/-- A new best one, laid behind w. -/
theorem CanC.rest_new {C : CanC} (hC : C.Ok) {w w' : World} {p : List Int} {Af : Option Addr} {cf : Nat} {Ac : Option Addr} {cc : Nat} {vb : Value} {css : List (List Value)} {bls : List (List Nat)} {d : List (List Int)} {bl : List Nat}
    (h : C.Q w d bl) (hp : PermL C.n p) (hz : w.heap.size ≤ w'.heap.size) (hfar : ∀ b < w.heap.size, b ∉ [C.gf, C.gc, C.gb] → w'.heap[b]? = w.heap[b]?)
    (h1 : Blk w' C.gf 55 #[.slice Af C.n cf]) (h2 : Blk w' C.gc 55 #[.slice Ac C.CL cc]) (h3 : Blk w' C.gb 27 #[.int .i64 (C.n : Int), vb])
    (h4 : w'.ownsRow w.heap.size 3 1 (.slice Af C.n cf) C.n (ints p)) (h5 : w'.ownsRow w.heap.size 3 1 (.slice Ac C.CL cc) C.CL (ints (codeL (ren C.x p).2))) (h6 : PO w.heap.size w' vb (ren C.x p).2 css bls)
    (hbest : bestOf C.x (d ++ [p]) = some p) : ∃ bl', C.Q w' (d ++ [p]) bl' ∧ ∀ b ∈ bl', b ∈ bl ∨ w.heap.size ≤ b := by
  have hsub := C.Q_sub h
  obtain ⟨rl, rfl, g1, g2, hA, gp, hr⟩ := h
  have hga : C.ga ∉ [C.gf, C.gc, C.gb] := by
    have := hC.dist
    simp
    exact ⟨this.2.2.2.2.1, this.2.2.2.2.2, this.2.2.2.1⟩
  refine ⟨List.range C.wL.heap.size ++ ([C.ga, C.gf, C.gc, C.gb] ++ (obl (.slice Af C.n cf) ++ (obl (.slice Ac C.CL cc) ++ (obl vb ++ bls.flatten)))), ⟨_, rfl, fun b hb => ?_, Nat.le_trans g2 hz, (hfar _ hA.lt hga).trans hA, fun q hq => ?_, ?_⟩, fun b hb => ?_⟩
  · refine (hfar b (by omega) fun hh => ?_).trans (g1 b hb)
    have := hC.ge
    simp at hh
    omega
  · rw [List.mem_append] at hq
    rcases hq with hq | hq
    · exact gp q hq
    · rw [List.mem_singleton] at hq
      rw [hq]
      exact hp
  · rw [hbest]
    exact ⟨Af, cf, Ac, cc, vb, css, bls, h1, h2, h3, own_mono h4 g2, own_mono h5 g2, h6.mono g2, rfl⟩
  · rcases List.mem_append.1 hb with hb | hb
    · exact .inl (List.mem_append_left _ hb)
    · rcases List.mem_append.1 hb with hb | hb
      · exact .inl (hsub b hb)
      · rcases List.mem_append.1 hb with hb | hb
        · exact .inr (h4.lt b (mem_obl.1 hb)).1
        · rcases List.mem_append.1 hb with hb | hb
          · exact .inr (h5.lt b (mem_obl.1 hb)).1
          · exact .inr (h6.2.2.2 b hb).1
theorem CanC.rest_keep {C : CanC} {w w' : World} {p : List Int} {d : List (List Int)} {bl : List Nat} (h : C.Q w d bl) (hp : PermL C.n p) (hb : Below w.heap.size w w') (hbest : bestOf C.x (d ++ [p]) = bestOf C.x d) : C.Q w' (d ++ [p]) bl := by
  have hlt := C.Q_lt h
  obtain ⟨rl, e, g1, g2, hA, gp, hr⟩ := C.Q_stab h hb.size fun b hb' => hb.block b (hlt b hb')
  refine ⟨rl, e, g1, g2, hA, fun q hq => ?_, by rw [hbest]; exact hr⟩
  rw [List.mem_append] at hq
  rcases hq with hq | hq
  · exact gp q hq
  · rw [List.mem_singleton] at hq
    rw [hq]
    exact hp
end Go.Proofs.Ytkmgbdljiajlaaa
namespace Go.Proofs.Ytkmgbdljiajlaaa
open Go.RowKit

theorem own_some {w : World} {base n c : Nat} {e : TypeId} {A : Option Addr} {xs : List Value} (h : w.ownsRow base e 1 (.slice A n c) n xs) (hn : n ≠ 0) : ∃ g, A = some ⟨g, 0, none⟩ ∧ base ≤ g ∧ g < w.heap.size := by
  rcases h.2 with ⟨-, h0⟩ | ⟨g, cap, cur, hv, -⟩
  · exact absurd h0 hn
  · injection hv with hv
    subst hv
    exact ⟨g, rfl, h.lt g rfl⟩
theorem CanC.finish {C : CanC} (hC : C.Ok) {w w4 : World} {d : List (List Int)} {bl : List Nat} {p : List Int} (hQ : C.Q w d bl) (hp : PermL C.n p) (T4 : Below w.heap.size w w4) {a b u1 u2 : Value} {Af : Option Addr} {cf : Nat} {Ac : Option Addr} {cc : Nat} {v : Value} {css : List (List Value)} {bls : List (List Nat)}
    (BU : Blk w4 C.gf 55 #[a]) (BC : Blk w4 C.gc 55 #[b]) (BB : Blk w4 C.gb 27 #[u1, u2])
    (h4 : w4.ownsRow w.heap.size 3 1 (.slice Af C.n cf) C.n (ints p)) (h5 : w4.ownsRow w.heap.size 3 1 (.slice Ac C.CL cc) C.CL (ints (codeL (ren C.x p).2))) (h6 : PO w.heap.size w4 v (ren C.x p).2 css bls)
    (hbest : bestOf C.x (d ++ [p]) = some p) :
    ∃ bl', C.Q ((((w4.setCell ⟨C.gb, 0, none⟩ (.int .i64 (C.n : Int))).setCell ⟨C.gb, 1, none⟩ v).setCell ⟨C.gc, 0, none⟩ (.slice Ac C.CL cc)).setCell ⟨C.gf, 0, none⟩ (.slice Af C.n cf)) (d ++ [p]) bl' ∧
      ChgB [C.gf, C.gc, C.gb] w ((((w4.setCell ⟨C.gb, 0, none⟩ (.int .i64 (C.n : Int))).setCell ⟨C.gb, 1, none⟩ v).setCell ⟨C.gc, 0, none⟩ (.slice Ac C.CL cc)).setCell ⟨C.gf, 0, none⟩ (.slice Af C.n cf)) ∧ ∀ b ∈ bl', b ∈ bl ∨ w.heap.size ≤ b := by
  have hlt := CanC.Q_lt hQ
  have hsub := CanC.Q_sub hQ
  have l1 := hlt C.gf (hsub C.gf (by simp))
  have l2 := hlt C.gc (hsub C.gc (by simp))
  have l3 := hlt C.gb (hsub C.gb (by simp))
  obtain ⟨d1, d2, d3, -⟩ := hC.dist
  have fo : ∀ {e : TypeId} {size nn : Nat} {vv : Value} {xs : List Value} {ww : World} {g k : Nat} {u : Value}, ww.ownsRow w.heap.size e size vv nn xs → g < w.heap.size → (ww.setCell ⟨g, k, none⟩ u).ownsRow w.heap.size e size vv nn xs := fun {_ _ _ _ _ _ g _ _} h hg => own_set h (fun hh => by have h9 : w.heap.size ≤ g := (h.lt _ hh).1; omega) _
  have B3 : Blk ((w4.setCell ⟨C.gb, 0, none⟩ (.int .i64 (C.n : Int))).setCell ⟨C.gb, 1, none⟩ v) C.gb 27 #[.int .i64 (C.n : Int), v] := by simpa using (BB.set_ 0 (.int .i64 (C.n : Int))).set_ 1 v
  have C3 := (BC.far (p := ⟨C.gb, 0, none⟩) d3 (.int .i64 (C.n : Int))).far (p := ⟨C.gb, 1, none⟩) d3 v
  have F3 := (BU.far (p := ⟨C.gb, 0, none⟩) d2 (.int .i64 (C.n : Int))).far (p := ⟨C.gb, 1, none⟩) d2 v
  have B4 := B3.far (p := ⟨C.gc, 0, none⟩) d3.symm (.slice Ac C.CL cc)
  have C4 := C3.set_ 0 (.slice Ac C.CL cc)
  have F4 := F3.far (p := ⟨C.gc, 0, none⟩) d1 (.slice Ac C.CL cc)
  have B5 := B4.far (p := ⟨C.gf, 0, none⟩) d2.symm (.slice Af C.n cf)
  have C5 := C4.far (p := ⟨C.gf, 0, none⟩) d1.symm (.slice Af C.n cf)
  have F5 := F4.set_ 0 (.slice Af C.n cf)
  have hfar : ∀ b < w.heap.size, b ∉ [C.gf, C.gc, C.gb] → ((((w4.setCell ⟨C.gb, 0, none⟩ (.int .i64 (C.n : Int))).setCell ⟨C.gb, 1, none⟩ v).setCell ⟨C.gc, 0, none⟩ (.slice Ac C.CL cc)).setCell ⟨C.gf, 0, none⟩ (.slice Af C.n cf)).heap[b]? = w.heap[b]? := by
    intro b hb hn
    simp at hn
    rw [Below.heap_setCell _ ⟨C.gf, 0, none⟩ _ b hn.1, Below.heap_setCell _ ⟨C.gc, 0, none⟩ _ b hn.2.1, Below.heap_setCell _ ⟨C.gb, 1, none⟩ _ b hn.2.2, Below.heap_setCell _ ⟨C.gb, 0, none⟩ _ b hn.2.2]
    exact T4.block b hb
  obtain ⟨bl', h7, h8⟩ := CanC.rest_new hC hQ hp (w' := (((w4.setCell ⟨C.gb, 0, none⟩ (.int .i64 (C.n : Int))).setCell ⟨C.gb, 1, none⟩ v).setCell ⟨C.gc, 0, none⟩ (.slice Ac C.CL cc)).setCell ⟨C.gf, 0, none⟩ (.slice Af C.n cf)) (by simpa using T4.size) hfar (by simpa using F5) (by simpa using C5) B5
    (fo (fo (fo (fo h4 l3) l3) l2) l1) (fo (fo (fo (fo h5 l3) l3) l2) l1) ((((h6.far (p := ⟨C.gb, 0, none⟩) l3 _).far (p := ⟨C.gb, 1, none⟩) l3 _).far (p := ⟨C.gc, 0, none⟩) l2 _).far (p := ⟨C.gf, 0, none⟩) l1 _) hbest
  exact ⟨bl', h7, ⟨T4.os, T4.tape, T4.output, by simpa using T4.size, hfar⟩, h8⟩
set_option maxRecDepth 100000 in
theorem nil_eq0 (w : World) : Sem.run Try.prog (binOp BinOp.eql 55 (.slice none 0 0) (.slice none 0 0)) w = .ok (.bool true) w := rfl
set_option maxRecDepth 100000 in
theorem nil_eq1 (p : Addr) (n c : Nat) (w : World) : Sem.run Try.prog (binOp BinOp.eql 55 (.slice (some p) n c) (.slice none 0 0)) w = .ok (.bool false) w := rfl
set_option maxRecDepth 20000 in
set_option maxHeartbeats 8000000 in
theorem canClo_any (C : CanC) (hC : C.Ok) (w : World) (d : List (List Int)) (bl : List Nat) (N : Option Addr) (c : Nat) (p : List Int) (hQ : C.Q w d bl) (hR : RdL RI w N C.n p) (hp : PermL C.n p) :
    Calls Try.prog 83 #[.slice N C.n c, .pointer (some ⟨C.ga, 0, none⟩), .pointer (some ⟨C.gf, 0, none⟩), .pointer (some ⟨C.gc, 0, none⟩), .pointer (some ⟨C.gb, 0, none⟩)] w
      fun e w' => e = .returned (.tuple #[]) ∧ ∃ bl', C.Q w' (d ++ [p]) bl' ∧ ChgB [C.gf, C.gc, C.gb] w w' ∧ ∀ b ∈ bl', b ∈ bl ∨ w.heap.size ≤ b := by
  have hrd := CanC.Q_rd hC hQ
  have HQ := Lib.hid hQ
  have HCK := Lib.hid hC
  obtain ⟨rl, -, -, hwz, hA, hdp, hrest⟩ := hQ
  obtain ⟨o, HO⟩ : ∃ o, Hid (bestOf C.x d = o) := ⟨_, rfl⟩
  rw [HO.out] at hrest
  obtain ⟨x, n, CL, B, m, dd, wL, ga, gf, gc, gb⟩ := C
  have hn1 : x.1 = (n : Int) := hC.hn
  have hp' : PermL x.1.toNat p := by rw [hn1]; simpa using hp
  have hsm : SmallP x := hC.small
  have hsm1 := hsm.1
  have hsm2 := hsm.2.1
  have hn0 : n ≠ 0 := by omega
  have hn5 : n ≤ 5 := by omega
  have HLEN : Hid ((codeL (ren x p).2).length = CL) := by show _ = _; rw [code_ren_len hsm hp']; exact hC.hCL
  have HCR : Hid (∀ y ∈ codeL (ren x p).2, InR y) := code_R (ren_small hp' hsm)
  have hCL : CL ≤ 1048576 := by rw [← HLEN.out]; exact code_small (ren_small hp' hsm)
  have cA0 : w.cell? ⟨ga, 0, none⟩ = some (.int .i64 (n : Int)) := by have := hA.cell 0; simpa using this
  have cA1 : w.cell? ⟨ga, 1, none⟩ = some (.slice B m dd) := by have := hA.cell 1; simpa using this
  have HREN : Hid (Calls Try.prog 77 #[.agg #[.int .i64 (n : Int), .slice B m dd], .slice N n c] w (AlgE w (ren x p))) := rename_any [.int .i64 (n : Int), .slice B m dd] x N n c p w hrd hR hsm hp'
  have HSM := Lib.hid hsm
  have HP' := Lib.hid hp'
  have HPP : Hid (PermL n p) := hp
  clear hrd hp' hsm hsm1 hsm2 hp hdp hA
  go_enter Try.func83, Try.ntmps83
  go_wp2_with fail
  refine HREN.out.mono ?_
  rintro e w1 ⟨v, css, bls, rfl, hPO, hb1⟩
  have e1 : (ren x p).1 = (n : Int) := hn1
  rw [e1]
  obtain ⟨VA, vc, rfl⟩ := own_slice hPO.2.1
  obtain ⟨w2, hw2, T2, hs2, BX⟩ := boxes1 w1 #[.int .i64 (n : Int), .slice VA (ren x p).2.length vc] 27
  have HW2 := Lib.hid hw2
  have cX0 := BX.cell 0
  have cX1 := BX.cell 1
  simp at cX0 cX1
  rw [hw2] at cX0 cX1
  have hPO2 := hPO.next T2
  have hrd2 : shAlgebra.rd w2 [.int .i64 (n : Int), .slice VA (ren x p).2.length vc] (ren x p) := by
    have := hPO2.alg (a := (ren x p).1) (by rw [e1]; exact ⟨by omega, by omega⟩)
    rw [e1] at this
    have h9 : ((n : Int), (ren x p).2) = ren x p := by rw [← e1]
    rw [h9] at this
    exact this
  have T2w := below_next hb1 T2 rfl
  clear hw2 hs2 e1 cA0 cA1
  go_wp2_with fail
  rw [← HW2.out]
  refine (codeOf_any _ (ren x p) _ hrd2 (cnt_small (ren_small HP'.out HSM.out))).mono ?_
  rintro e w3 ⟨AC, cC, rfl, hoC, hb3⟩
  rw [HLEN.out] at hoC ⊢
  have T3 := below_next T2w hb3 rfl
  have hPO3 := hPO2.next hb3
  have BX3 := BX.next hb3
  have hR3 := hR.next stab_RI T3
  have RC := rd_of_own (R := RI) hoC (RI_ints HCR.out)
  have hnx : w1.heap.size ≠ gf ∧ w1.heap.size ≠ gc ∧ w1.heap.size ≠ gb := by
    have h1 := CanC.Q_lt HQ.out
    have h2 := CanC.Q_sub HQ.out
    have h3 := hb1.size
    refine ⟨fun e => ?_, fun e => ?_, fun e => ?_⟩
    · have := h1 gf (h2 gf (by simp))
      omega
    · have := h1 gc (h2 gc (by simp))
      omega
    · have := h1 gb (h2 gb (by simp))
      omega
  have HBS := Lib.hid (bestOf_snoc x d p)
  have d1 : gf ≠ gc := hC.dist.1
  have d2 : gf ≠ gb := hC.dist.2.1
  have d3 : gc ≠ gb := hC.dist.2.2.1
  have d1' : gc ≠ gf := d1.symm
  have d2' : gb ≠ gf := d2.symm
  have d3' : gb ≠ gc := d3.symm
  clear cX0 cX1 hrd2 hPO hPO2
  rcases o with _ | b
  · obtain ⟨BF0, BC0, BB0, -⟩ := hrest
    have BFr := Blk.next BF0 T3
    have BCr := Blk.next BC0 T3
    have BBr := Blk.next BB0 T3
    have cF : w3.cell? ⟨gf, 0, none⟩ = some (.slice none 0 0) := BFr.c0
    have HB2 : Hid (bestOf x (d ++ [p]) = some p) := by show _ = _; rw [HBS.out, show bestOf x d = none from HO.out]; rfl
    have he := nil_eq0
    have cX0 := BX3.cell 0
    have cX1 := BX3.cell 1
    simp at cX0 cX1
    have cB0 := BBr.cell 0
    have cB1 := BBr.cell 1
    have fB0 := BBr.frozen 0
    have fB1 := BBr.frozen 1
    have cC0 := BCr.c0
    have fC0 := BCr.frozen 0
    have fF0 := BFr.frozen 0
    simp at cB0 cB1
    go_wp2_with fail
    go_region_with (go_at_call 86; refine (clone_any _ _ _ p _ (by first | exact hR3 | exact hR3.drew stab_RI) (by omega)).mono ?_; rintro e w4 ⟨A4, c4, rfl, ho4, hbn⟩; have hb4 := below_next (Below.drew (Below.refl w3.heap.size w3)) hbn rfl; have BF4 := BFr.next hb4; have BC4 := BCr.next hb4; have BB4 := BBr.next hb4; have BX4 := BX3.next hb4; have xX0 := BX4.cell 0; have xX1 := BX4.cell 1; have xB0 := BB4.cell 0; have xB1 := BB4.cell 1; have yB0 := BB4.frozen 0; have yB1 := BB4.frozen 1; have xC0 := BC4.cell 0; have yC0 := BC4.frozen 0; have xF0 := BF4.cell 0; have yF0 := BF4.frozen 0; simp at xX0 xX1 xB0 xB1 xC0 xF0)
    all_goals
      have T4 := below_next T3 hb4 rfl
      have HF := Lib.hid (CanC.finish HCK.out HQ.out HPP.out T4 BF4 BC4 BB4 (own_mono ho4 (show w.heap.size ≤ w3.heap.size from T3.size)) (own_mono (own_next hoC hb4) (show w.heap.size ≤ w2.heap.size from T2w.size)) (hPO3.next hb4) HB2.out)
      (try simp only [Exit.inBlock, Exit.then])
      go_end0
      exact ⟨rfl, HF.out⟩
  · obtain ⟨Af, cf, Ac, cc, vb, cssb, blsb, BF0, BC0, BB0, hf0, hc0, -, -⟩ := hrest
    have BFr := Blk.next BF0 T3
    have BCr := Blk.next BC0 T3
    have BBr := Blk.next BB0 T3
    have hfr : w.ownsRow wL.heap.size 3 1 (.slice Af n cf) n (ints b) := hf0
    obtain ⟨fg, rfl, -, -⟩ := own_some hfr hn0
    have cF : w3.cell? ⟨gf, 0, none⟩ = some (.slice (some ⟨fg, 0, none⟩) n cf) := BFr.c0
    have cC : w3.cell? ⟨gc, 0, none⟩ = some (.slice Ac CL cc) := BCr.c0
    have he := nil_eq1
    have hbp : PermL n b := by
      obtain ⟨rl', -, -, -, -, hdp, -⟩ := HQ.out
      exact hdp b (best_mem HO.out)
    have hbp' : PermL x.1.toNat b := by rw [hn1]; simpa using hbp
    have hcR : ∀ y ∈ codeL (ren x b).2, InR y := code_R (ren_small hbp' HSM.out)
    have RB0 : RdL RI w Ac CL (codeL (ren x b).2) := rd_of_own (R := RI) (show w.ownsRow wL.heap.size 3 1 (.slice Ac CL cc) CL (ints (codeL (ren x b).2)) from hc0) (RI_ints hcR)
    have RB3 := RB0.next stab_RI T3
    have hlen2 : (codeL (ren x p).2).length = (codeL (ren x b).2).length := by rw [HLEN.out, RB0.len]
    have hll := lex_less hlen2
    obtain ⟨V, HV⟩ : ∃ V, Hid (lexL (codeL (ren x p).2) (codeL (ren x b).2) = V) := ⟨_, rfl⟩
    rw [HV.out] at hll
    have HBB : Hid (bestOf x (d ++ [p]) = if lessL (codeL (ren x p).2) (codeL (ren x b).2) then some p else some b) := by show _ = _; rw [HBS.out, show bestOf x d = some b from HO.out]; rfl
    by_cases hv : V < 0
    · have HB2 : Hid (bestOf x (d ++ [p]) = some p) := by show _ = _; rw [HBB.out, hll.1 hv]; rfl
      clear hbp hbp' hcR RB0 hlen2 hll hf0 hc0 hfr
      go_wp2_with (go_at_call 85; refine (compareLists_any _ _ _ _ _ _ _ _ _ RC RB3).mono ?_; rintro e w' ⟨rfl, z, rfl⟩; rw [HV.out])
      have T5 := below_drewN T3 z
      have hR4 := hR3.drewN stab_RI z
      have BX5 := BX3.drewN z
      have BF5 := BFr.drewN z
      have BC5 := BCr.drewN z
      have BB5 := BBr.drewN z
      have hoC5 := own_drewN hoC z
      have hPO5 := hPO3.next (below_drewN (Below.refl w3.heap.size w3) z)
      obtain ⟨w5, hw5⟩ : ∃ w5, w5 = w3.drewN z := ⟨_, rfl⟩
      rw [← hw5] at T5 hR4 BX5 BF5 BC5 BB5 hoC5 hPO5 ⊢
      clear hw5 cF cC
      have cX0 := BX5.cell 0
      have cX1 := BX5.cell 1
      simp at cX0 cX1
      have cB0 := BB5.cell 0
      have cB1 := BB5.cell 1
      have fB0 := BB5.frozen 0
      have fB1 := BB5.frozen 1
      have cC0 := BC5.c0
      have fC0 := BC5.frozen 0
      have fF0 := BF5.frozen 0
      simp at cB0 cB1
      go_wp2_with fail
      go_region_with (go_at_call 86; refine (clone_any _ _ _ p _ (by first | exact hR4 | exact hR4.drew stab_RI) (by omega)).mono ?_; rintro e w4 ⟨A4, c4, rfl, ho4, hbn⟩; have hb4 := below_next (Below.drew (Below.refl w5.heap.size w5)) hbn rfl; have BF4 := BF5.next hb4; have BC4 := BC5.next hb4; have BB4 := BB5.next hb4; have BX4 := BX5.next hb4; have xX0 := BX4.cell 0; have xX1 := BX4.cell 1; have xB0 := BB4.cell 0; have xB1 := BB4.cell 1; have yB0 := BB4.frozen 0; have yB1 := BB4.frozen 1; have xC0 := BC4.cell 0; have yC0 := BC4.frozen 0; have xF0 := BF4.cell 0; have yF0 := BF4.frozen 0; simp at xX0 xX1 xB0 xB1 xC0 xF0)
      all_goals
        have T4 := below_next T5 hb4 rfl
        have HF := Lib.hid (CanC.finish HCK.out HQ.out HPP.out T4 BF4 BC4 BB4 (own_mono ho4 (show w.heap.size ≤ w5.heap.size from T5.size)) (own_mono (own_next hoC5 hb4) (show w.heap.size ≤ w2.heap.size from T2w.size)) (hPO5.next hb4) HB2.out)
        (try simp only [Exit.inBlock, Exit.then])
        go_end0
        exact ⟨rfl, HF.out⟩
    · have HB2 : Hid (bestOf x (d ++ [p]) = bestOf x d) := by
        show _ = _
        rw [HBB.out, show bestOf x d = some b from HO.out]
        rcases hl : lessL (codeL (ren x p).2) (codeL (ren x b).2) with _ | _
        · rfl
        · exact absurd (hll.2 hl) hv
      clear hbp hbp' hcR RB0 hlen2 hll hf0 hc0 hfr
      go_wp2_with (go_at_call 85; refine (compareLists_any _ _ _ _ _ _ _ _ _ RC RB3).mono ?_; rintro e w' ⟨rfl, z, rfl⟩; rw [HV.out])
      have T5 := below_drewN T3 z
      (try simp only [Exit.inBlock, Exit.then])
      go_end0
      exact ⟨rfl, bl, CanC.rest_keep HQ.out HPP.out T5 HB2.out, ChgB.ofBelow T5, fun b hb => .inl hb⟩
end Go.Proofs.Ytkmgbdljiajlaaa
namespace Go.Proofs.Ytkmgbdljiajlaaa
open Go.RowKit

theorem res_row_tmpC {P : Program} {fn : Func} {p u : Tmp} {ty : TypeId} (h : fn.results = #[.cell p ty, .tmp u]) (tmps : Array Value) (w : World) (g : Nat) (t : TypeId) (cs : Array Value) (fr : Nat × Nat) (d : TypeDesc) (b : Value)
    (hp : tmps.getD p undef = .pointer (some ⟨g, 0, none⟩)) (hg : w.heap[g]? = some (.cells cs t fr))
    (hu : P.underlying ty = some d) (hd : (match d with | .struct _ | .array _ _ => true | _ => false) = true) (hi : (P.info? ty).map (·.size) = some cs.size) (hb : tmps.getD u undef = b) :
    (results fn tmps).run P w = .ok (.tuple #[.agg cs, b]) w := by
  rw [results_cell_tmp h, hp, hb]
  simp [asAddr, Result.andThen, run_loadVar_row w g t ty cs fr d hg hu hd hi]
/-- The canonical form and names handed back. -/
def CanE (w : World) (x : AlgebraM) (n : Nat) (e : Ending) (w' : World) : Prop := ∃ vb css bls Af cf, e = .returned (.tuple #[.agg #[.int .i64 (n : Int), vb], .slice Af n cf]) ∧ PO w.heap.size w' vb (canA x).2 css bls ∧ w'.ownsRow w.heap.size 3 1 (.slice Af n cf) n (ints (canN x)) ∧ Below w.heap.size w w'

theorem PO.notin {lo : Nat} {w : World} {v : Value} {xs : List OpM} {css : List (List Value)} {bls : List (List Nat)} (h : PO lo w v xs css bls) {g : Nat} {t : TypeId} {cs : Array Value} (hB : Blk w g t cs) (h1 : 92 ≠ t) (h2 : 3 ≠ t) : g ∉ obl v ++ bls.flatten := by
  intro hg
  rcases List.mem_append.1 hg with hg | hg
  · obtain ⟨cur, fr, hc⟩ := row_blk h.2.1 hg
    rw [hB] at hc
    injection hc with hc
    injection hc with _ h5
    exact h1 h5.symm
  · obtain ⟨bk, hbk, hb⟩ := List.mem_flatten.1 hg
    obtain ⟨k, hk⟩ := List.getElem?_of_mem hbk
    have hkl := (List.getElem?_eq_some_iff.1 hk).1
    have e1 := h.1.l1
    have e2 := h.1.l2
    obtain ⟨cur, fr, hc⟩ := shOp_blk (h.1.el k _ _ bk (List.getElem?_eq_getElem (by omega)) (List.getElem?_eq_getElem (by omega)) hk) hb
    rw [hB] at hc
    injection hc with hc
    injection hc with _ h5
    exact h2 h5.symm
theorem PO.farB {lo : Nat} {w : World} {v : Value} {xs : List OpM} {css : List (List Value)} {bls : List (List Nat)} (h : PO lo w v xs css bls) {g : Nat} {k : Nat} {u : Value} (hg : g ∉ obl v ++ bls.flatten) : PO lo (w.setCell ⟨g, k, none⟩ u) v xs css bls :=
  h.same (by simp) fun b hb => Below.heap_setCell w ⟨g, k, none⟩ u b fun e => hg (by rw [← show b = g from e]; exact hb)
set_option maxRecDepth 100000 in
theorem canEnter (args : Array Value) (w : World) : (callFunc 83 args).run Try.prog w = .ok (.enter 83 args) w := rfl

set_option maxRecDepth 20000 in
set_option maxHeartbeats 8000000 in
theorem canonical_any (cs : List Value) (x : AlgebraM) (n : Nat) (w : World) (h : shAlgebra.rd w cs x) (hx : SmallP x) (hn : x.1 = (n : Int)) :
    Calls Try.prog 43 #[.agg cs.toArray] w (CanE w x n) := by
  have hrd := h
  obtain ⟨B, m, d, rfl, qs, qo⟩ := rdAlgebra h
  rw [hn] at hrd qs ⊢
  have hn5 : n ≤ 5 := by have h1 := hx.2.1; omega
  obtain ⟨w5, hw5⟩ : ∃ w5, w5 = ((((w.alloc (.cells #[.int .i64 (n : Int), .slice B m d] 27)).alloc (.cells #[.int .i64 0, .slice none 0 0] 27)).alloc (.cells #[.int .i64 0, .slice none 0 0] 27)).alloc (.cells #[.slice none 0 0] 55)).alloc (.cells #[.slice none 0 0] 55) := ⟨_, rfl⟩
  have T5 : Below w.heap.size w w5 := by
    rw [hw5]
    exact (below_box4 w _ _ _ _).alloc (by simp; omega) _
  have hz5 : w5.heap.size = w.heap.size + 5 := by rw [hw5]; simp
  have BA : Blk w5 w.heap.size 27 #[.int .i64 (n : Int), .slice B m d] := by
    rw [hw5]
    exact ((((Blk.new w 27 #[.int .i64 (n : Int), .slice B m d]).alloc _).alloc _).alloc _).alloc _
  have BR : Blk w5 (w.heap.size + 1) 27 #[.int .i64 0, .slice none 0 0] := by
    rw [hw5]
    have := (((Blk.new (w.alloc (.cells #[.int .i64 (n : Int), .slice B m d] 27)) 27 #[.int .i64 0, .slice none 0 0]).alloc (.cells #[.int .i64 0, .slice none 0 0] 27)).alloc (.cells #[.slice none 0 0] 55)).alloc (.cells #[.slice none 0 0] 55)
    simpa using this
  have BB : Blk w5 (w.heap.size + 1 + 1) 27 #[.int .i64 0, .slice none 0 0] := by
    rw [hw5]
    have := ((Blk.new ((w.alloc (.cells #[.int .i64 (n : Int), .slice B m d] 27)).alloc (.cells #[.int .i64 0, .slice none 0 0] 27)) 27 #[.int .i64 0, .slice none 0 0]).alloc (.cells #[.slice none 0 0] 55)).alloc (.cells #[.slice none 0 0] 55)
    simpa using this
  have BC : Blk w5 (w.heap.size + 1 + 1 + 1) 55 #[.slice none 0 0] := by
    rw [hw5]
    have := (Blk.new (((w.alloc (.cells #[.int .i64 (n : Int), .slice B m d] 27)).alloc (.cells #[.int .i64 0, .slice none 0 0] 27)).alloc (.cells #[.int .i64 0, .slice none 0 0] 27)) 55 #[.slice none 0 0]).alloc (.cells #[.slice none 0 0] 55)
    simpa using this
  have BU : Blk w5 (w.heap.size + 1 + 1 + 1 + 1) 55 #[.slice none 0 0] := by
    rw [hw5]
    have := Blk.new ((((w.alloc (.cells #[.int .i64 (n : Int), .slice B m d] 27)).alloc (.cells #[.int .i64 0, .slice none 0 0] 27)).alloc (.cells #[.int .i64 0, .slice none 0 0] 27)).alloc (.cells #[.slice none 0 0] 55)) 55 #[.slice none 0 0]
    simpa using this
  obtain ⟨C, hCd⟩ : ∃ C : CanC, C = { x := x, n := n, CL := (codeL x.2).length, B := B, m := m, d := d, wL := w, ga := w.heap.size, gf := w.heap.size + 1 + 1 + 1 + 1, gc := w.heap.size + 1 + 1 + 1, gb := w.heap.size + 1 + 1 } := ⟨_, rfl⟩
  have hC : C.Ok := by
    subst hCd
    exact ⟨hrd, hx, hn, rfl, ⟨by show w.heap.size + 1 + 1 + 1 + 1 ≠ w.heap.size + 1 + 1 + 1; omega, by show w.heap.size + 1 + 1 + 1 + 1 ≠ w.heap.size + 1 + 1; omega, by show w.heap.size + 1 + 1 + 1 ≠ w.heap.size + 1 + 1; omega, by show w.heap.size ≠ w.heap.size + 1 + 1; omega, by show w.heap.size ≠ w.heap.size + 1 + 1 + 1 + 1; omega, by show w.heap.size ≠ w.heap.size + 1 + 1 + 1; omega⟩, ⟨by show w.heap.size ≤ w.heap.size; omega, by show w.heap.size ≤ w.heap.size + 1 + 1 + 1 + 1; omega, by show w.heap.size ≤ w.heap.size + 1 + 1 + 1; omega, by show w.heap.size ≤ w.heap.size + 1 + 1; omega⟩⟩
  have hQ5 : C.Q w5 [] (List.range w.heap.size ++ [w.heap.size, w.heap.size + 1 + 1 + 1 + 1, w.heap.size + 1 + 1 + 1, w.heap.size + 1 + 1]) := by
    subst hCd
    exact ⟨_, rfl, fun b hb => T5.block b hb, T5.size, BA, (fun p hp => by simp at hp), BU, BC, BB, rfl⟩
  have hF : FoundOk (ords C.n C.n []).length C.n 83 #[.pointer (some ⟨C.ga, 0, none⟩), .pointer (some ⟨C.gf, 0, none⟩), .pointer (some ⟨C.gc, 0, none⟩), .pointer (some ⟨C.gb, 0, none⟩)] C.Q := by
    refine ⟨canEnter, fun h1 h2 h3 => CanC.Q_stab h1 h2 h3, fun h1 => CanC.Q_lt h1, fun w1 d1 bl N c p _ h1 h2 h3 => ?_⟩
    refine (canClo_any C hC w1 d1 bl N c p h1 h2 h3).mono fun e w' ⟨e1, bl', e2, e3, e4⟩ => ⟨e1, bl', e2, e3.mono fun g hg => CanC.Q_sub h1 g (List.mem_cons_of_mem _ hg), e4⟩
  have HC : Hid (Calls Try.prog 82 #[.int .i64 (n : Int), .func (.func 83) #[] #[.pointer (some ⟨w.heap.size, 0, none⟩), .pointer (some ⟨w.heap.size + 1 + 1 + 1 + 1, 0, none⟩), .pointer (some ⟨w.heap.size + 1 + 1 + 1, 0, none⟩), .pointer (some ⟨w.heap.size + 1 + 1, 0, none⟩)]] w5
      (fun e w' => e = .returned (.tuple #[]) ∧ ∃ bl', C.Q w' (ords n n []) bl' ∧ ChgB (List.range w.heap.size ++ [w.heap.size, w.heap.size + 1 + 1 + 1 + 1, w.heap.size + 1 + 1 + 1, w.heap.size + 1 + 1]) w5 w')) := by
    have := eachOrder_any hF (by rw [hCd]; exact hn5) (Nat.le_refl _) w5 _ hQ5
    subst hCd
    exact this.mono fun e w' ⟨h1, bl', h2, h3, _⟩ => ⟨h1, bl', h2, h3⟩
  have cA0 := BA.cell 0
  simp at cA0
  rw [hw5] at cA0
  have HW5 := Lib.hid hw5
  have HT := Lib.hid (And.intro T5 (And.intro hz5 BR))
  have HCD := Lib.hid hCd
  have HNN : Hid (x.1.toNat = n) := by show _ = _; omega
  clear hw5 T5 hz5 BA BR BB BC BU hC hQ5 hF hCd h
  go_enter Try.func43, Try.ntmps43
  go_wp2_with fail
  rw [← HW5.out]
  refine HC.out.mono ?_
  rintro e w6 ⟨rfl, bl', hQ6, hc6⟩
  obtain ⟨T5, hz5, BR⟩ := HT.out
  have hcd := HCD.out
  subst hcd
  obtain ⟨rl, -, hsame, hsz, -, -, hrest⟩ := hQ6
  have hbest : bestOf x (ords n n []) = some (canN x) := by have := (canN_ok (x := x)).1; rw [HNN.out] at this; exact this
  have hrest' : CanC.rest { x := x, n := n, CL := (codeL x.2).length, B := B, m := m, d := d, wL := w, ga := w.heap.size, gf := w.heap.size + 1 + 1 + 1 + 1, gc := w.heap.size + 1 + 1 + 1, gb := w.heap.size + 1 + 1 } w6 (some (canN x)) rl := by rw [← hbest]; exact hrest
  obtain ⟨Af, cf, Ac, cc, vb, css, bls, h1, -, h3, h4, -, h6, -⟩ := hrest'
  replace h1 : Blk w6 (w.heap.size + 1 + 1 + 1 + 1) 55 #[.slice Af n cf] := h1
  replace h3 : Blk w6 (w.heap.size + 1 + 1) 27 #[.int .i64 (n : Int), vb] := h3
  replace h4 : w6.ownsRow w.heap.size 3 1 (.slice Af n cf) n (ints (canN x)) := h4
  replace h6 : PO w.heap.size w6 vb (ren x (canN x)).2 css bls := h6
  obtain ⟨VA, vc, rfl⟩ := own_slice h6.2.1
  have BR6 : Blk w6 (w.heap.size + 1) 27 #[.int .i64 0, .slice none 0 0] := (hc6.block _ BR.lt (by simp <;> omega)).trans BR
  have T6 : Below w.heap.size w w6 := ⟨hc6.os.trans T5.os, hc6.tape.trans T5.tape, hc6.output.trans T5.output, hsz, fun b hb => hsame b hb⟩
  obtain ⟨LA, HLA⟩ : ∃ LA, Hid ((ren x (canN x)).2.length = LA) := ⟨_, rfl⟩
  rw [HLA.out] at h6 h3
  have hni := h6.notin BR6 (by decide) (by decide)
  have hof := own_off h4 BR6 (by decide)
  have hPF := (h6.farB (k := 0) (u := .int .i64 (n : Int)) hni).farB (k := 1) (u := .slice VA LA vc) hni
  have hOF := own_set (own_set h4 (p := ⟨w.heap.size + 1, 0, none⟩) hof (.int .i64 (n : Int))) (p := ⟨w.heap.size + 1, 1, none⟩) hof (.slice VA LA vc)
  have hTF := (T6.setCell (p := ⟨w.heap.size + 1, 0, none⟩) (by show w.heap.size ≤ w.heap.size + 1; omega) (.int .i64 (n : Int))).setCell (p := ⟨w.heap.size + 1, 1, none⟩) (by show w.heap.size ≤ w.heap.size + 1; omega) (.slice VA LA vc)
  have BRR : Blk ((w6.setCell ⟨w.heap.size + 1, 0, none⟩ (.int .i64 (n : Int))).setCell ⟨w.heap.size + 1, 1, none⟩ (.slice VA LA vc)) (w.heap.size + 1) 27 #[.int .i64 (n : Int), .slice VA LA vc] := by simpa using ((BR6.set_ 0 (.int .i64 (n : Int))).set_ 1 (.slice VA LA vc))
  have HF1 := Lib.hid hPF
  have HF2 := Lib.hid hOF
  have HF3 := Lib.hid hTF
  have HF4 := Lib.hid BRR
  have cB0 := h3.cell 0
  have cB1 := h3.cell 1
  have cF0 := h1.c0
  have cR0 := BR6.cell 0
  have cR1 := BR6.cell 1
  have fR0 := BR6.frozen 0
  have fR1 := BR6.frozen 1
  simp at cB0 cB1 cR0 cR1
  clear h1 h3 h4 h6 BR6 T6 hni hof hPF hOF hTF BRR hrest hbest hsame T5 BR HC
  go_upto_region 4 with fail
  go_region
  all_goals
    go_wp2_with fail
    (try simp only [Exit.inBlock, Exit.then])
    refine bodyPost_ret (v := .tuple #[.agg #[.int .i64 (n : Int), .slice VA LA vc], .slice Af n cf]) (res_row_tmpC rfl _ _ (w.heap.size + 1) 27 #[.int .i64 (n : Int), .slice VA LA vc] (0, 0) _ _ (by simp) HF4.out.drew Try.underlying27 rfl (by kernel_rfl) rfl) rfl ?_
    exact ⟨_, css, bls, Af, cf, rfl, HF1.out.next (Below.drew (Below.refl _ _)), own_same HF2.out (fun _ _ => rfl), Below.drew HF3.out⟩
end Go.Proofs.Ytkmgbdljiajlaaa
namespace Go.Proofs.Ytkmgbdljiajlaaa
open Go.RowKit

end Go.Proofs.Ytkmgbdljiajlaaa
namespace Go.Proofs.Ytkmgbdljiajlaaa
open Go.RowKit

theorem small_ops {x : AlgebraM} (h : SmallP x) : x.2.length + cntS shOp.cnt x.2 ≤ 1048576 := by
  have := cnt_small h
  have h3 : shAlgebra.cnt x = 0 + (x.2.length + cntS shOp.cnt x.2) := rfl
  omega
theorem canA_small {x : AlgebraM} (h : SmallP x) : SmallP (canA x) := ren_small (canN_ok (x := x)).2 h
theorem PO.algO {lo : Nat} {w : World} {v : Value} {a : Int} {xs : List OpM} {css : List (List Value)} {bls : List (List Nat)} (h : PO lo w v xs css bls) (ha : InR a) : shAlgebra.own w [.int .i64 a, v] (a, xs) (obl v ++ bls.flatten) :=
  ⟨[.int .i64 a], [v], [], obl v ++ bls.flatten, rfl, rfl, ⟨_, rfl, ⟨rfl, ha.1, ha.2⟩, rfl⟩, h.own⟩
end Go.Proofs.Ytkmgbdljiajlaaa
namespace Go.Proofs.Ytkmgbdljiajlaaa
open Go.RowKit

set_option maxRecDepth 20000 in
set_option maxHeartbeats 4000000 in
theorem l31Form_any (cs : List Value) (x : AlgebraM) (w : World) (h : shAlgebra.rd w cs x) (hx : SmallP x) :
    Calls Try.prog 51 #[.agg cs.toArray] w (AlgE w (canA x)) := by
  have hrd := h
  obtain ⟨B, m, d, rfl, qs, qo⟩ := rdAlgebra h
  obtain ⟨n, hn⟩ : ∃ n : Nat, x.1 = (n : Int) := ⟨x.1.toNat, by have h1 := hx.1; omega⟩
  have HNN : Hid (x.1.toNat = n) := by show _ = _; omega
  rw [hn] at hrd qs ⊢
  have HX := Lib.hid hx
  have HN1 : Hid ((canA x).1 = (n : Int)) := hn
  have HPM := Lib.hid (canN_ok (x := x)).2
  obtain ⟨w0, hw0, T0, hsz0, BP, BR⟩ := boxes2 w #[.int .i64 (n : Int), .slice B m d] #[.int .i64 0, .slice none 0 0] 27 27
  have HW0 := Lib.hid hw0
  have cP0 := BP.cell 0
  have cP1 := BP.cell 1
  simp at cP0 cP1
  have HC1 : ∀ wz, Below w0.heap.size w0 wz → Calls Try.prog 90 #[.agg #[.int .i64 (n : Int), .slice B m d]] wz (fun e w' => ∃ A c, e = .returned (.slice A n c) ∧ RdL RI w' A n (canN x) ∧ Below wz.heap.size wz w') := fun wz hz => by
    have := l31First_any [.int .i64 (n : Int), .slice B m d] x wz (shAlgebra.stab (shAlgebra.stab hrd T0.block) hz.block) HX.out
    rw [HNN.out] at this
    exact this
  have HC2 : ∀ wz A c, Below w0.heap.size w0 wz → RdL RI wz A n (canN x) → Calls Try.prog 62 #[.agg #[.int .i64 (n : Int), .slice B m d], .slice A n c] wz (AlgE wz (ren x (canN x))) := fun wz A c hz hr =>
    l2Rename_any [.int .i64 (n : Int), .slice B m d] x A n c (canN x) wz (shAlgebra.stab (shAlgebra.stab hrd T0.block) hz.block) hr HX.out HPM.out
  clear hw0 hsz0 hx hn h
  go_enter Try.func51, Try.ntmps51
  go_upto_region 1 with fail
  rw [← HW0.out]
  have Tk : Below w0.heap.size w0 w0 := Below.refl _ _
  go_region_with (first
    | (go_at_call 90; (with_reducible refine (HC1 _ ?_).mono ?_); (first | exact Tk | exact Below.drew Tk); rintro e wn ⟨A1, c1, rfl, hR1, hbn⟩; have T1 := below_next (by first | exact Tk | exact Below.drew Tk) hbn rfl; have xP0 := (BP.next T1).cell 0; have xP1 := (BP.next T1).cell 1; simp at xP0 xP1)
    | (go_at_call 62; refine (HC2 _ _ _ (by first | exact T1 | exact Below.drew T1) (by first | exact hR1 | exact hR1.drew stab_RI)).mono ?_; rintro e wm ⟨v, css, bls, rfl, hP, hbm⟩; obtain ⟨VA, vc, rfl⟩ := own_slice hP.2.1; have T2 := below_next (by first | exact T1 | exact Below.drew T1) hbm rfl; have BR2 := BR.next T2; have yR0 := BR2.cell 0; have yR1 := BR2.cell 1; have yf0 := BR2.frozen 0; have yf1 := BR2.frozen 1; simp at yR0 yR1))
  all_goals
    have hlow : w.heap.size ≤ wn.heap.size := Nat.le_trans T0.size T1.size
    have hP3 := hP.mono hlow
    have e1 : (ren x (canN x)).1 = (n : Int) := HN1.out
    have hni := hP3.notin BR2 (by decide) (by decide)
    have hPF := (hP3.farB (k := 0) (u := .int .i64 (ren x (canN x)).1) hni).farB (k := 1) (u := .slice VA (ren x (canN x)).2.length vc) hni
    have hTF := ((below_next T0 T2 rfl).setCell (p := ⟨w.heap.size + 1, 0, none⟩) (by show w.heap.size ≤ w.heap.size + 1; omega) (.int .i64 (ren x (canN x)).1)).setCell (p := ⟨w.heap.size + 1, 1, none⟩) (by show w.heap.size ≤ w.heap.size + 1; omega) (.slice VA (ren x (canN x)).2.length vc)
    have BRR : Blk ((wm.setCell ⟨w.heap.size + 1, 0, none⟩ (.int .i64 (ren x (canN x)).1)).setCell ⟨w.heap.size + 1, 1, none⟩ (.slice VA (ren x (canN x)).2.length vc)) (w.heap.size + 1) 27 #[.int .i64 (ren x (canN x)).1, .slice VA (ren x (canN x)).2.length vc] := by simpa using ((BR2.set_ 0 (.int .i64 (ren x (canN x)).1)).set_ 1 (.slice VA (ren x (canN x)).2.length vc))
    go_wp2
    (try simp only [Exit.inBlock, Exit.then])
    refine bodyPost_ret (v := .agg #[.int .i64 (ren x (canN x)).1, .slice VA (ren x (canN x)).2.length vc]) (results_cell_row rfl _ _ (w.heap.size + 1) 27 #[.int .i64 (ren x (canN x)).1, .slice VA (ren x (canN x)).2.length vc] (0, 0) _ (by simp) BRR Try.underlying27 rfl (by kernel_rfl)) rfl ?_
    exact ⟨_, css, bls, rfl, hPF, hTF⟩

end Go.Proofs.Ytkmgbdljiajlaaa
namespace Go.Proofs.Ytkmgbdljiajlaaa
open Go.RowKit

def CpE (w : World) (xs : List EntryM) (e : Ending) (w' : World) : Prop := ∃ v css bls, e = .returned v ∧ PE w.heap.size w' v xs css bls ∧ Below w.heap.size w w'
theorem ent_own {w : World} {s : ByteArray} {a : Int} {v : Value} {ops : List OpM} {bl : List Nat} (hs : s.size ≤ maxLen) (h : shAlgebra.own w [.int .i64 a, v] (a, ops) bl) : shEntry.own w [.string s, .int .i64 a, v] (s, (a, ops)) bl :=
  ⟨[.string s], [.int .i64 a, v], [], bl, rfl, rfl, ⟨_, rfl, ⟨rfl, hs⟩, rfl⟩, h⟩
set_option maxRecDepth 100000 in
set_option maxHeartbeats 8000000 in
theorem cloneEntries_any (A : Option Addr) (n c : Nat) (xs : List EntryM) (w : World) (h : RdN shEntry.m shEntry.rd w A n xs) (hn : xs.length + cntS shEntry.cnt xs ≤ 1048576) :
    Calls Try.prog 45 #[.slice A n c] w (CpE w xs) := by
  obtain rfl : xs.length = n := h.len
  have HCN := Lib.hid hn
  have hle : xs.length ≤ 1048576 := by omega
  have hP0 : PE w.heap.size (w.alloc (.cells #[] 33)) (.slice (some ⟨w.heap.size, 0, none⟩) 0 0) (xs.take 0) [] [] := PE.lit (Nat.le_refl _)
  have hT0 : Below w.heap.size w (w.alloc (.cells #[] 33)) := below_box _ _
  clear hn
  go_enter Try.func45, Try.ntmps45
  go_wp2_with fail
  go_loopw [3, 9] (fun v i wr => ∃ (k : Nat) (css : List (List Value)) (bls : List (List Nat)), k ≤ xs.length ∧ i = .int .i64 k ∧ PE w.heap.size wr v (xs.take k) css bls ∧ Below w.heap.size w wr) (fun _ i _ => xs.length - (intOf i).toNat)
  case atStart => exact ⟨0, _, _, Nat.zero_le _, rfl, hP0, hT0⟩
  case round =>
    clear hP0 hT0
    obtain ⟨k, css, bls, hk, rfl, hPE, hT⟩ := hrel
    by_cases hlt : k < xs.length
    · have hk0 : (0 : Int) ≤ (k : Int) := by omega
      have hk1 : (k : Int) < (xs.length : Int) := by omega
      obtain ⟨b, o, vs, y, rfl, -, hc, hr, -, hx⟩ := (h.next hT).at hlt
      obtain ⟨Bm, m, d, rfl, hsz, hIn, hops⟩ := rdEntry hr
      have cc0 : wr.cell? ⟨b, o + k * 3, none⟩ = some (.string y.1) := hc 0 _ rfl
      have cc1 : wr.cell? ⟨b, o + k * 3 + 1, none⟩ = some (.int .i64 y.2.1) := hc 1 _ rfl
      have cc2 : wr.cell? ⟨b, o + k * 3 + 2, none⟩ = some (.slice Bm m d) := hc 2 _ rfl
      have hral := mkAlgebra (cOps := d) hIn hops
      have HTS : Hid (xs.take (k + 1) = xs.take k ++ [y]) := take_snoc hx
      have hcy : shAlgebra.cnt y.2 ≤ 1048576 := by
        have h1 := cntS_mem (f := shEntry.cnt) (List.mem_of_getElem? hx)
        have h2 := HCN.out
        have h3 : shEntry.cnt y = y.1.size + shAlgebra.cnt y.2 := rfl
        omega
      obtain ⟨L, HL⟩ : ∃ L, Hid (xs.take k = L) := ⟨_, rfl⟩
      have HLK : Hid (L.length = k) := by show _ = _; rw [← HL.out, List.length_take]; omega
      rw [HL.out] at hPE
      have HTS2 : Hid (xs.take (k + 1) = L ++ [y]) := by show _ = _; rw [HTS.out, HL.out]
      obtain ⟨A, c, rfl⟩ := own_slice hPE.2.1
      obtain ⟨w5, HW5⟩ : ∃ wb, Hid (wb = wr.alloc (.cells #[.string y.1, .int .i64 y.2.1, .slice Bm m d] 33)) := ⟨_, rfl⟩
      have T5 : Below wr.heap.size wr w5 := by rw [HW5.out]; exact below_box _ _
      have BY : Blk w5 wr.heap.size 33 #[.string y.1, .int .i64 y.2.1, .slice Bm m d] := by rw [HW5.out]; exact Blk.new _ _ _
      have hP5 := hPE.next T5
      have hr5 := shAlgebra.stab hral T5.block
      have hT5 := below_next hT T5 rfl
      have cY0 := BY.cell 0
      have cY1 := BY.cell 1
      have cY2 := BY.cell 2
      simp at cY0 cY1 cY2
      have hwz0 := hT5.size
      clear hc hx hr hPE hops
      go_upto_region 5 with fail
      rw [← HW5.out]
      clear cc0 cc1 cc2
      go_region_law (first
        | (refine step_app3 w6 rfl (.tmp 13) (.tmp 20) 24 33 rfl (.agg #[.string ⟨#[]⟩, .int .i64 0, .slice none 0 0]) 48 Try.underlying24 info_entry3 rfl (by decide) w.heap.size L.length c A css.flatten (by rfl) hvs (.string y.1) (.int .i64 y.2.1) (.slice B6 m6 d6) rfl rfl rfl (by rfl) (by have := HLK.out; omega) (by omega) ?_; intro A8 c8 w8 hown8 hg8 hb8)
        | (go_simp; go_at_call 87; refine (cloneAlgebra_any [.int .i64 y.2.1, .slice Bm m d] y.2 _ (by first | exact hr5 | exact shAlgebra.stab hr5 (fun _ _ => rfl)) hcy).mono ?_; rintro e w6 ⟨v6, css6, bls6, rfl, hP6, hbn⟩; obtain ⟨B6, d6, rfl⟩ := own_slice hP6.2.1; obtain ⟨m6, HM6⟩ : ∃ m6, Hid (y.2.2.length = m6) := ⟨_, rfl⟩; have hO6 := ent_own (s := y.1) hsz (hP6.algO (a := y.2.1) hIn); rw [HM6.out] at hO6; rw [HM6.out]; have hb := below_next (Below.drew (Below.refl w5.heap.size w5)) hbn rfl; have hiv6 : Iv w5.heap.size w6.heap.size _ := hP6.2.2; rw [HM6.out] at hiv6; obtain ⟨hvs, HPU⟩ := hP5.push hb hwz0 hO6 hiv6; have hsz6 := hb.size; have dY0 := (BY.next hb).cell 0; have dY1 := (BY.next hb).cell 1; have dY2 := (BY.next hb).cell 2; simp at dY0 dY1 dY2))
      all_goals
        have PN2 := HPU hown8 hg8
        have hT8 := (below_next hT5 hb rfl).trans hb8
        have HFIN := Lib.hid (And.intro PN2 hT8)
        clear PN2 hT8 hown8 hg8 hb8 hvs HPU
        go_wp2_with fail
        go_roundw
        case rel => exact ⟨k + 1, _, _, by omega, by go_num, by rw [HTS2.out]; exact HFIN.out.1, HFIN.out.2⟩
        case measure => simp [intOf]; omega
    · have hlt' : ¬ (k : Int) < (xs.length : Int) := by omega
      have HE : Hid (xs.take k = xs) := List.take_of_length_le (by omega)
      rw [HE.out] at hPE
      have HP := Lib.hid hPE
      clear hPE
      go_wp2_with fail
      go_ret
      exact ⟨_, _, _, rfl, HP.out, hT⟩
end Go.Proofs.Ytkmgbdljiajlaaa
namespace Go.Proofs.Ytkmgbdljiajlaaa
open Go.RowKit

set_option maxRecDepth 20000 in
set_option maxHeartbeats 2000000 in
theorem l2Copy_any (cs : List Value) (x : OpM) (w : World) (h : shOp.rd w cs x) (hn : x.2.length ≤ 1048576) :
    Calls Try.prog 94 #[.agg cs.toArray] w (ToE shOp w x) := by
  obtain ⟨B, m, d, rfl, qa, qt⟩ := rdOp h
  have hm := qt.len
  obtain ⟨w0, hw0, T0, hs0, BP, BR⟩ := boxes2 w #[.int .i64 x.1, .slice B m d] #[.int .i64 0, .slice none 0 0] 92 92
  have HW0 := Lib.hid hw0
  have HR := Lib.hid qt.bounds
  have qt0 := qt.next stab_RI T0
  have hz0 : w0.heap.size = w.heap.size + 2 := hs0
  have HZ0 := Lib.hid hz0
  clear hw0 hs0 hz0
  have cP0 := BP.cell 0
  have cP1 := BP.cell 1
  have cR0 := BR.cell 0
  have cR1 := BR.cell 1
  have fR0 := BR.frozen 0
  have fR1 := BR.frozen 1
  simp at cP0 cP1 cR0 cR1
  go_enter Try.func94, Try.ntmps94
  go_upto_region 1 with fail
  rw [← HW0.out]
  go_region_with (go_at_call 104; refine (l1Own_any _ _ _ x.2 _ (by first | exact qt0 | exact qt0.drew stab_RI) (by omega)).mono ?_; rintro e w2 ⟨A', c', rfl, ho, hbn⟩; have hb := below_next (Below.drew (Below.refl w0.heap.size w0)) hbn rfl; have BP2 := BP.next hb; have BR2 := BR.next hb; have dP0 := BP2.cell 0; have dP1 := BP2.cell 1; have dR0 := BR2.cell 0; have dR1 := BR2.cell 1; have gR0 := BR2.frozen 0; have gR1 := BR2.frozen 1; simp at dP0 dP1 dR0 dR1)
  all_goals
    have T2 := below_next T0 hb rfl
    have hz2 := hb.size
    have hne := own_off ho BR2 (by decide)
    have hO := own_set (own_set ho (p := ⟨w.heap.size + 1, 0, none⟩) hne (.int .i64 x.1)) (p := ⟨w.heap.size + 1, 1, none⟩) hne (.slice A' m c')
    have BRR : Blk ((w2.setCell ⟨w.heap.size + 1, 0, none⟩ (.int .i64 x.1)).setCell ⟨w.heap.size + 1, 1, none⟩ (.slice A' m c')) (w.heap.size + 1) 92 #[.int .i64 x.1, .slice A' m c'] := by simpa using ((BR2.set_ 0 (.int .i64 x.1)).set_ 1 (.slice A' m c'))
    have hiv := obl_iv hO
    have hO2 : ((w2.setCell ⟨w.heap.size + 1, 0, none⟩ (.int .i64 x.1)).setCell ⟨w.heap.size + 1, 1, none⟩ (.slice A' m c')).ownsRow 0 3 1 (.slice A' m c') x.2.length (ints x.2) := by rw [hm]; exact own_mono hO (Nat.zero_le _)
    have hT : Below w.heap.size w ((w2.setCell ⟨w.heap.size + 1, 0, none⟩ (.int .i64 x.1)).setCell ⟨w.heap.size + 1, 1, none⟩ (.slice A' m c')) := (T2.setCell (by show _ ≤ _; simp) _).setCell (by show _ ≤ _; simp) _
    have hlow : w.heap.size ≤ w0.drew.heap.size := T0.size
    go_wp2
    (try simp only [Exit.inBlock, Exit.then])
    refine bodyPost_ret (v := .agg #[.int .i64 x.1, .slice A' m c']) (results_cell_row rfl _ _ (w.heap.size + 1) 92 #[.int .i64 x.1, .slice A' m c'] (0, 0) _ (by simp) BRR Try.underlying92 rfl (by kernel_rfl)) rfl ?_
    exact ⟨[.int .i64 x.1, .slice A' m c'], obl (.slice A' m c'), rfl, ⟨[.int .i64 x.1], [.slice A' m c'], [], obl (.slice A' m c'), rfl, rfl, ⟨_, rfl, ⟨rfl, qa.1, qa.2⟩, rfl⟩, ⟨_, rfl, hO2, HR.out, rfl⟩⟩, hiv.mono hlow (Nat.le_refl _), hT⟩

set_option maxRecDepth 20000 in
set_option maxHeartbeats 4000000 in
theorem l2Own_any (cs : List Value) (x : AlgebraM) (w : World) (h : shAlgebra.rd w cs x) (hn : shAlgebra.cnt x ≤ 1048576) :
    Calls Try.prog 56 #[.agg cs.toArray] w (AlgE w x) := by
  obtain ⟨B, m, d, rfl, qs, qo⟩ := rdAlgebra h
  have hm := qo.len
  have hcn : 0 + (x.2.length + cntS shOp.cnt x.2) ≤ 1048576 := hn
  have HCN := Lib.hid hcn
  have hle : m ≤ 1048576 := by omega
  obtain ⟨w0, hw0, T0, hs0, BP, BR, BO⟩ := boxes3 w #[.int .i64 x.1, .slice B m d] #[.int .i64 0, .slice none 0 0] #[.int .i64 x.1, .slice none 0 0] 27 27
  have HW0 : Hid (_ = w0) := hw0.symm
  have HZ0 := Lib.hid hs0
  have cP0 := ((Blk.new w 27 #[.int .i64 x.1, .slice B m d]).alloc (.cells #[.int .i64 0, .slice none 0 0] 27)).cell 0
  have cP1 := BP.cell 1
  simp at cP0 cP1
  rw [hw0] at cP1
  have hP0 : PO w0.heap.size w0 (.slice none 0 0) (x.2.take 0) [] [] := PO.nil _ _
  clear hw0 hs0 hcn
  go_enter Try.func56, Try.ntmps56
  go_wp2_with fail
  clear cP0 cP1
  go_loopw [4] (fun i wr => ∃ (k : Nat) (v : Value) (css : List (List Value)) (bls : List (List Nat)), k ≤ m ∧ i = .int .i64 k ∧ Blk wr w.heap.size 27 #[.int .i64 x.1, .slice B m d] ∧ Blk wr (w.heap.size + 1 + 1) 27 #[.int .i64 x.1, v] ∧ Blk wr (w.heap.size + 1) 27 #[.int .i64 0, .slice none 0 0] ∧ PO w0.heap.size wr v (x.2.take k) css bls ∧ Below w.heap.size w wr) (fun i _ => m - (intOf i).toNat)
  case atStart =>
    rw [HW0.out]
    exact ⟨0, _, _, _, Nat.zero_le _, rfl, BP, BO, BR, hP0, T0⟩
  case round =>
    clear hP0 BO BR BP
    obtain ⟨k, v, css, bls, hk, rfl, BPr, BO, BR, hPO, hT⟩ := hrel
    have cP1 := BPr.cell 1
    simp at cP1
    by_cases hlt : k < m
    · have hk0 : (0 : Int) ≤ (k : Int) := by omega
      have hk1 : (k : Int) < (m : Int) := by omega
      obtain ⟨b, o, vs, y, rfl, -, hc, hr, -, hx⟩ := (qo.next hT).at hlt
      obtain ⟨B', m', d', rfl, qa, qt⟩ := rdOp hr
      have cc0 : wr.cell? ⟨b, o + k * 2, none⟩ = some (.int .i64 y.1) := hc 0 _ rfl
      have cc1 : wr.cell? ⟨b, o + k * 2 + 1, none⟩ = some (.slice B' m' d') := hc 1 _ rfl
      have HTS : Hid (x.2.take (k + 1) = x.2.take k ++ [y]) := take_snoc hx
      have hcy : y.2.length ≤ 1048576 := by
        have h1 := cntS_mem (f := shOp.cnt) (List.mem_of_getElem? hx)
        have h2 := HCN.out
        have h3 : shOp.cnt y = 0 + y.2.length := rfl
        omega
      obtain ⟨L, HL⟩ : ∃ L, Hid (x.2.take k = L) := ⟨_, rfl⟩
      have HLK : Hid (L.length = k) := by show _ = _; rw [← HL.out, List.length_take]; omega
      rw [HL.out] at hPO
      have HTS2 : Hid (x.2.take (k + 1) = L ++ [y]) := by show _ = _; rw [HTS.out, HL.out]
      obtain ⟨A, c, rfl⟩ := own_slice hPO.2.1
      obtain ⟨w5, hw5⟩ : ∃ w5 : World, w5 = wr := ⟨_, rfl⟩
      subst hw5
      have hP5 := hPO
      have hr5 := hr
      have BO5 := BO
      have BR5 := BR
      have hT5 := hT
      have cO5 := BO5.cell 1
      have fO5 := BO5.frozen 1
      simp at cO5
      have hwz0 : w0.heap.size ≤ w5.heap.size := by
        rcases hP5.2.1.2 with ⟨h1, h2⟩ | ⟨g9, _, _, h1, h2, _⟩
        · have := hT5.size
          have h9 := BO5.lt
          have h8 := HZ0.out
          omega
        · injection h1 with h1
          have := hP5.2.2.2 g9 (List.mem_append_left _ (by rw [h1]; simp [obl, Value.ownBlock]))
          omega
      clear hc hx hr hPO
      go_upto_region 5 with fail
      go_region_law (first
        | (refine step_app2 w6 rfl (.tmp 16) (.tmp 23) 25 92 rfl (.agg #[.int .i64 0, .slice none 0 0]) 32 Try.underlying25 info_op2 rfl (by decide) w0.heap.size L.length c A css.flatten (by rfl) hvs (.int .i64 y.1) (.slice B6 m6 d6) rfl rfl (by rfl) (by have := HLK.out; omega) (by omega) ?_; intro A8 c8 w8 hown8 hg8 hb8; have BO8 := BO6.grown hg8 (fun e => own_off hvs BO6 (by decide) e.symm); have BR8 := BR6.grown hg8 (fun e => own_off hvs BR6 (by decide) e.symm); have BP8 := BP6.grown hg8 (fun e => own_off hvs BP6 (by decide) e.symm); have cO8 := BO8.cell 1; have fO8 := BO8.frozen 1; simp at cO8)
        | (go_simp; go_at_call 94; refine (l2Copy_any [.int .i64 y.1, .slice B' m' d'] y _ (by first | exact hr5 | exact shOp.stab hr5 (fun _ _ => rfl)) hcy).mono ?_; rintro e w6 ⟨ds, bk, rfl, how, hiv, hbn⟩; obtain ⟨B6, m6, d6, rfl, -, -⟩ := rdOp (shOp.ord how); have hb := below_next (Below.drew (Below.refl w5.heap.size w5)) hbn rfl; have hiv6 : Iv w5.heap.size w6.heap.size bk := hiv; obtain ⟨hvs, HPU⟩ := hP5.push hb hwz0 how hiv6; have hsz6 := hb.size; have BO6 := BO5.next hb; have BR6 := BR5.next hb; have BP6 := BPr.next hb; have cO6 := BO6.cell 1; have fO6 := BO6.frozen 1; have cO6a := (BO6.alloc (.cells #[.int .i64 y.1, .slice B6 m6 d6] 92)).cell 1; simp at cO6 cO6a))
      all_goals
        have PN2 := (HPU hown8 hg8).far (p := ⟨w.heap.size + 1 + 1, 1, none⟩) (by have := HZ0.out; show w.heap.size + 1 + 1 < w0.heap.size; omega) (.slice A8 (L.length + 1) c8)
        have hT8 := ((below_next hT5 hb rfl).trans (hb8.mono (by have := HZ0.out; omega))).setCell (p := ⟨w.heap.size + 1 + 1, 1, none⟩) (by show _ ≤ _; simp; try omega) (.slice A8 (L.length + 1) c8)
        have BO9 : Blk (w8.setCell ⟨w.heap.size + 1 + 1, 1, none⟩ (.slice A8 (L.length + 1) c8)) (w.heap.size + 1 + 1) 27 #[.int .i64 x.1, .slice A8 (L.length + 1) c8] := by simpa using BO8.set_ 1 (.slice A8 (L.length + 1) c8)
        have BR9 := BR8.far (p := ⟨w.heap.size + 1 + 1, 1, none⟩) (by simp) (.slice A8 (L.length + 1) c8)
        have BP9 := BP8.far (p := ⟨w.heap.size + 1 + 1, 1, none⟩) (by show w.heap.size ≠ w.heap.size + 1 + 1; omega) (.slice A8 (L.length + 1) c8)
        have HFP := Lib.hid BP9
        have HFIN := Lib.hid (And.intro BO9 (And.intro BR9 (And.intro PN2 hT8)))
        clear BP9 BP8 BP6 BO9 BR9 PN2 hT8 cO6 fO6 cO6a cO8 fO8 hown8 hg8 hb8 BO8 BR8 BO6 BR6 hvs HPU how hbn hb
        go_wp2_with fail
        go_roundw
        case rel => exact ⟨k + 1, _, _, _, by omega, by go_num, HFP.out, HFIN.out.1, HFIN.out.2.1, by rw [HTS2.out]; exact HFIN.out.2.2.1, HFIN.out.2.2.2⟩
        case measure => simp [intOf]; omega
    · obtain rfl : k = m := by omega
      have hlt' : ¬ (k : Int) < (k : Int) := by omega
      have hP : PO w0.heap.size wr v x.2 css bls := by rw [List.take_of_length_le (by omega)] at hPO; exact hPO
      obtain ⟨A, c, hv⟩ := own_slice hP.2.1
      rw [hm] at hv
      subst hv
      have hlow : w.heap.size ≤ w0.heap.size := by have := HZ0.out; omega
      have hPF := ((hP.far (p := ⟨w.heap.size + 1, 0, none⟩) (by have := HZ0.out; show w.heap.size + 1 < w0.heap.size; omega) (.int .i64 x.1)).far (p := ⟨w.heap.size + 1, 1, none⟩) (by have := HZ0.out; show w.heap.size + 1 < w0.heap.size; omega) (.slice A k c)).mono hlow
      have hTF := (hT.setCell (p := ⟨w.heap.size + 1, 0, none⟩) (by show _ ≤ _; simp) (.int .i64 x.1)).setCell (p := ⟨w.heap.size + 1, 1, none⟩) (by show _ ≤ _; simp) (.slice A k c)
      have cO0 := BO.cell 0
      have cO1 := BO.cell 1
      have cR0 := BR.cell 0
      have cR1 := BR.cell 1
      have fR0 := BR.frozen 0
      have fR1 := BR.frozen 1
      have BRR : Blk ((wr.setCell ⟨w.heap.size + 1, 0, none⟩ (.int .i64 x.1)).setCell ⟨w.heap.size + 1, 1, none⟩ (.slice A k c)) (w.heap.size + 1) 27 #[.int .i64 x.1, .slice A k c] := by simpa using ((BR.set_ 0 (.int .i64 x.1)).set_ 1 (.slice A k c))
      have HPF := Lib.hid hPF
      simp at cO0 cO1 cR0 cR1
      clear hP hPF hPO
      go_wp2_with fail
      (try simp only [Exit.inBlock, Exit.then])
      refine bodyPost_ret (v := .agg #[.int .i64 x.1, .slice A k c]) (results_cell_row rfl _ _ (w.heap.size + 1) 27 #[.int .i64 x.1, .slice A k c] (0, 0) _ (by simp) BRR Try.underlying27 rfl (by kernel_rfl)) rfl ?_
      exact ⟨_, css, bls, rfl, HPF.out, hTF⟩
end Go.Proofs.Ytkmgbdljiajlaaa
namespace Go.Proofs.Ytkmgbdljiajlaaa
open Go.RowKit

theorem eqP_alg (x y : AlgebraM) : eqC x y = (eqC x.1 y.1 && eqC x.2 y.2) := by
  obtain ⟨a, s⟩ := x
  obtain ⟨b, t⟩ := y
  exact dec_pair a b s t
theorem eqP_op (x y : OpM) : eqC x y = (eqC x.1 y.1 && eqL x.2 y.2) := by
  obtain ⟨a, s⟩ := x
  obtain ⟨b, t⟩ := y
  rw [eqL_dec]
  exact dec_pair a b s t
theorem sameList_is {A B : Option Addr} {n m c d : Nat} {xs ys : List Int} {w : World} {r : Bool} (hr : eqL xs ys = r) (h : RdL RI w A n xs) (h' : RdL RI w B m ys) : Calls Try.prog 64 #[.slice A n c, .slice B m d] w (Qt w (.bool r)) :=
  hr ▸ quiet_same (sameList_any A B n m c d xs ys w h h')

set_option maxRecDepth 20000 in
set_option maxHeartbeats 4000000 in
theorem sameAlgebra_any (cs ds : List Value) (x y : AlgebraM) (w : World) (h : shAlgebra.rd w cs x) (h' : shAlgebra.rd w ds y) :
    Calls Try.prog 53 #[.agg cs.toArray, .agg ds.toArray] w (Bl w (.bool (eqC x y))) := by
  obtain ⟨B, n, c, rfl, qs, qo⟩ := rdAlgebra h
  obtain ⟨D, m, d, rfl, qs', qo'⟩ := rdAlgebra h'
  have hle := qo.le
  have hle' := qo'.le
  obtain ⟨w0, hw0, T0, hsz0, BP, BQ⟩ := boxes2 w #[.int .i64 x.1, .slice B n c] #[.int .i64 y.1, .slice D m d] 27 27
  have HW0 : Hid (_ = w0) := hw0.symm
  have cP0 := BP.cell 0
  have cP1 := BP.cell 1
  have cQ0 := BQ.cell 0
  have cQ1 := BQ.cell 1
  simp at cP0 cP1 cQ0 cQ1
  rw [hw0] at cP0 cP1 cQ0 cQ1
  have HD := Lib.hid (eqP_alg x y)
  clear hw0 hsz0
  rcases hd0 : eqC x.1 y.1 with _ | _
  · have ht : (x.1 != y.1) = true := neq_int hd0
    have HH0 := Lib.hid hd0
    clear hd0
    go_enter Try.func53, Try.ntmps53
    go_wp2_with fail
    go_ret
    exact ⟨ret_bool (by rw [HD.out, HH0.out]; rfl), by first | exact T0 | (rw [HW0.out]; exact T0)⟩
  have ht0 : (x.1 != y.1) = false := neq_int hd0
  have HH0 := Lib.hid hd0
  clear hd0
  have HDD : Hid (eqC x y = eqC x.2 y.2) := by show _ = _; rw [HD.out, HH0.out]; rfl
  by_cases hnm : n = m
  rotate_left
  · have ht1 : ((n : Int) != (m : Int)) = true := by rw [bne_iff_ne]; omega
    have HF : Hid (false = eqC x.2 y.2) := eqd_len qo.len qo'.len hnm
    go_enter Try.func53, Try.ntmps53
    go_wp2_with fail
    go_ret
    exact ⟨ret_bool (by rw [HDD.out, ← HF.out]), by first | exact T0 | (rw [HW0.out]; exact T0)⟩
  subst hnm
  have ht1 : ((n : Int) != (n : Int)) = false := by simp
  go_enter Try.func53, Try.ntmps53
  go_wp2_with fail
  clear cP0 cP1 cQ0 cQ1
  go_loopw [24] (fun i wr => ∃ k : Nat, k ≤ n ∧ i = .int .i64 k ∧ EqdAt x.2 y.2 k ∧ Blk wr (w.heap.size + 1) 27 #[.int .i64 y.1, .slice D n d] ∧ Below w.heap.size w wr) (fun i _ => n - (intOf i).toNat)
  case atStart =>
    rw [HW0.out]
    exact ⟨0, Nat.zero_le _, rfl, EqdAt.start _ _, BQ, T0⟩
  case round =>
    clear BQ BP
    obtain ⟨k, hk, rfl, H, BQ, hT⟩ := hrel
    by_cases hlt : k < n
    · obtain ⟨b, o, vs, u, rfl, -, hc, hr, hdr, -⟩ := (qo.next hT).at hlt
      obtain ⟨b', o', vs', v, rfl, -, hc', hr', hdr', -⟩ := (qo'.next hT).at hlt
      obtain ⟨B1, m1, d1, rfl, -, qt⟩ := rdOp hr
      obtain ⟨B2, m2, d2, rfl, -, qt'⟩ := rdOp hr'
      have cc0 : wr.cell? ⟨b, o + k * 2, none⟩ = some (.int .i64 u.1) := hc 0 _ rfl
      have cc1 : wr.cell? ⟨b, o + k * 2 + 1, none⟩ = some (.slice B1 m1 d1) := hc 1 _ rfl
      have dd0 : wr.cell? ⟨b', o' + k * 2, none⟩ = some (.int .i64 v.1) := hc' 0 _ rfl
      have dd1 : wr.cell? ⟨b', o' + k * 2 + 1, none⟩ = some (.slice B2 m2 d2) := hc' 1 _ rfl
      have HE := Lib.hid (eqP_op u v)
      have H1 := Lib.hid hdr
      have H2 := Lib.hid hdr'
      clear hc hc' hr hr' hdr hdr'
      have hk0 : (0 : Int) ≤ (k : Int) := by omega
      have hk1 : (k : Int) < (n : Int) := by omega
      obtain ⟨w5, hw5, T5, hs5, BU⟩ := boxes1 wr #[.int .i64 u.1, .slice B1 m1 d1] 92
      have HW5 := Lib.hid hw5
      have qt5 := qt.next stab_RI T5
      have qt5' := qt'.next stab_RI T5
      have BQ5 := BQ.next T5
      have hT5 := below_next hT T5 rfl
      have cU0 := BU.cell 0
      have cU1 := BU.cell 1
      have cQ1 := BQ5.cell 1
      have ee0 := keepc T5 dd0
      have ee1 := keepc T5 dd1
      simp at cU0 cU1 cQ1
      clear hw5 hs5
      rcases ha : eqC u.1 v.1 with _ | _
      · have hta : (u.1 != v.1) = true := neq_int ha
        have HEF : Hid (eqC u v = false) := by show _ = _; rw [HE.out, ha]; rfl
        clear ha
        go_upto_region 6 with fail
        rw [← HW5.out]
        clear cc0 cc1 dd0 dd1
        go_quiet (fail)
        go_wp2_with fail
        go_ret
        exact ⟨ret_bool (by rw [HDD.out, ← H.stop H1.out H2.out HEF.out]), by first | exact hT5 | exact below_drewN hT5 _⟩
      · have hta : (u.1 != v.1) = false := neq_int ha
        rcases hl : eqL u.2 v.2 with _ | _
        · have HEF : Hid (eqC u v = false) := by show _ = _; rw [HE.out, ha, hl]; rfl
          have HL := Lib.hid hl
          clear ha hl
          go_upto_region 6 with fail
          rw [← HW5.out]
          clear cc0 cc1 dd0 dd1
          go_quiet ((go_at_call 64; first | exact quiet_one (sameList_is HL.out (qt5.drewN stab_RI _) (qt5'.drewN stab_RI _)) | exact quiet_add (sameList_is HL.out (qt5.drewN stab_RI _) (qt5'.drewN stab_RI _))))
          go_wp2_with fail
          go_ret
          exact ⟨ret_bool (by rw [HDD.out, ← H.stop H1.out H2.out HEF.out]), by first | exact hT5 | exact below_drewN hT5 _⟩
        · have HEF : Hid (eqC u v = true) := by show _ = _; rw [HE.out, ha, hl]; rfl
          have HL := Lib.hid hl
          clear ha hl
          go_upto_region 6 with fail
          rw [← HW5.out]
          clear cc0 cc1 dd0 dd1
          go_quiet ((go_at_call 64; first | exact quiet_one (sameList_is HL.out (qt5.drewN stab_RI _) (qt5'.drewN stab_RI _)) | exact quiet_add (sameList_is HL.out (qt5.drewN stab_RI _) (qt5'.drewN stab_RI _))))
          go_wp2_with fail
          go_roundw
          case rel => exact ⟨k + 1, by omega, by go_num, H.step H1.out H2.out HEF.out, BQ5.drewN _, by first | exact hT5 | exact below_drewN hT5 _⟩
          case measure => simp [intOf]; omega
    · have hlt' : ¬ (k : Int) < (n : Int) := by omega
      have HE := Lib.hid (H.done (qo.drop_end hlt) (qo'.drop_end hlt))
      go_wp2_with fail
      go_ret
      exact ⟨ret_bool (by rw [HDD.out, ← HE.out]), hT⟩
end Go.Proofs.Ytkmgbdljiajlaaa
namespace Go.Proofs.Ytkmgbdljiajlaaa
open Go.RowKit

def tyL (xs : List OpM) : List Int := xs.map (·.1)
theorem tyL_len (xs : List OpM) : (tyL xs).length = xs.length := by simp [tyL]
theorem tyL_snoc {xs : List OpM} {k : Nat} {u : OpM} (h : xs[k]? = some u) : (tyL xs).take (k + 1) = (tyL xs).take k ++ [u.1] := take_snoc (by unfold tyL; rw [List.getElem?_map, h]; rfl)
theorem tyL_R {w : World} {A : Option Addr} {n : Nat} {xs : List OpM} (h : RdN shOp.m shOp.rd w A n xs) : ∀ y ∈ tyL xs, InR y := by
  intro y hy
  unfold tyL at hy
  rw [List.mem_map] at hy
  obtain ⟨u, hu, rfl⟩ := hy
  obtain ⟨k, hk⟩ := List.getElem?_of_mem hu
  obtain ⟨b, o, vs, -, -, -, hr⟩ := h.2.2 k u hk
  obtain ⟨B, m, d, -, qa, -⟩ := rdOp hr
  exact qa
set_option maxRecDepth 20000 in
set_option maxHeartbeats 4000000 in
theorem l2Type_any (cs : List Value) (x : AlgebraM) (w : World) (h : shAlgebra.rd w cs x) (hn : x.2.length ≤ 1048576) :
    Calls Try.prog 118 #[.agg cs.toArray] w (fun e w' => ∃ A c, e = .returned (.slice A x.2.length c) ∧ RdL RI w' A x.2.length (tyL x.2) ∧ Below w.heap.size w w') := by
  obtain ⟨B, m, d, rfl, qs, qo⟩ := rdAlgebra h
  obtain rfl : x.2.length = m := qo.len
  have HTR := Lib.hid (tyL_R qo)
  have hle := qo.le
  obtain ⟨w0, hw0, T0, hsz0, BP⟩ := boxes1 w #[.int .i64 x.1, .slice B x.2.length d] 27
  have hown0 := lit_below T0
  have T1 := below_next T0 (below_box w0 (.cells #[] 3)) rfl
  obtain ⟨w1, hw1⟩ : ∃ wb, wb = w0.alloc (.cells #[] 3) := ⟨_, rfl⟩
  replace BP : Blk w1 w.heap.size 27 #[.int .i64 x.1, .slice B x.2.length d] := by rw [hw1]; exact BP.alloc _
  rw [← hw1] at hown0 T1
  rw [hsz0] at hown0
  have HW : Hid (w1 = (w.alloc (.cells #[.int .i64 x.1, .slice B x.2.length d] 27)).alloc (.cells #[] 3)) := by show _ = _; rw [hw1, hw0]
  clear hw0 hw1 T0 hsz0
  go_enter Try.func118, Try.ntmps118
  go_wp2_with fail
  rw [← HW.out]
  go_loopw [3, 4] (fun v i wr => ∃ (k : Nat) (A : Option Addr) (c : Nat), k ≤ x.2.length ∧ i = .int .i64 k ∧ v = .slice A k c ∧ wr.ownsRow w.heap.size 3 1 (.slice A k c) k (ints ((tyL x.2).take k)) ∧ Blk wr w.heap.size 27 #[.int .i64 x.1, .slice B x.2.length d] ∧ Below w.heap.size w wr) (fun _ i _ => x.2.length - (intOf i).toNat)
  case atStart => exact ⟨0, _, _, Nat.zero_le _, rfl, rfl, hown0, BP, T1⟩
  case round =>
    clear hown0 T1 BP
    obtain ⟨k, A, c, hk, rfl, rfl, hown, BP, hTw⟩ := hrel
    have q' := qo.next hTw
    have cP := BP.cell 1
    simp at cP
    by_cases hlt : k < x.2.length
    · obtain ⟨b, o, vs, u, rfl, -, hc, hr, -, hxu⟩ := q'.at hlt
      obtain ⟨B', m', d', rfl, qa, qt⟩ := rdOp hr
      have cc0 : wr.cell? ⟨b, o + k * 2, none⟩ = some (.int .i64 u.1) := hc 0 _ rfl
      have hbase := hTw.size
      have HS := Lib.hid (tyL_snoc hxu)
      clear hc hxu
      have hk0 : (0 : Int) ≤ (k : Int) := by omega
      have hk1 : (k : Int) < (x.2.length : Int) := by omega
      go_wp2_with (at_builtin; refine app1 wr rfl _ _ 55 3 rfl (.int .i64 0) 8 Try.underlying55 info_int rfl (by decide) w.heap.size k c A (ints ((tyL x.2).take k)) rfl hown (.int .i64 u.1) rfl rfl (by omega) hbase ?_; intro A2 c2 w2 hown2 hg2 hb2)
      go_roundw
      case rel => exact ⟨k + 1, A2, c2, by omega, by go_num, rfl, by rw [HS.out, ints_snoc]; exact hown2, BP.grown hg2 (fun e => own_off hown BP (by decide) e.symm), hTw.trans hb2⟩
      case measure => simp [intOf]; omega
    · have hke : k = x.2.length := by omega
      have hlt' : ¬ (k : Int) < (x.2.length : Int) := by omega
      have HRR : Hid (RdL RI wr A x.2.length (tyL x.2)) := by
        show RdL _ _ _ _ _
        rw [hke, List.take_of_length_le (by rw [tyL_len]; exact Nat.le_refl _)] at hown
        exact rd_of_own (R := RI) hown (RI_ints HTR.out)
      have HK := Lib.hid hke
      clear hke
      go_wp2_with fail
      go_ret
      exact ⟨A, ⟨c, by rw [← HK.out]; rfl⟩, HRR.out, hTw⟩

set_option maxRecDepth 20000 in
set_option maxHeartbeats 4000000 in
theorem l2Same_any (cs ds : List Value) (x y : AlgebraM) (w : World) (h : shAlgebra.rd w cs x) (h' : shAlgebra.rd w ds y) (hx : x.2.length ≤ 1048576) (hy : y.2.length ≤ 1048576) :
    Calls Try.prog 92 #[.agg cs.toArray, .agg ds.toArray] w (Bl w (.bool (eqL (tyL x.2) (tyL y.2)))) := by
  have hrd := h
  have hrd' := h'
  obtain ⟨B, n, c, rfl, qs, qo⟩ := rdAlgebra h
  obtain ⟨D, m, d, rfl, qs', qo'⟩ := rdAlgebra h'
  obtain ⟨w0, hw0, T0, hsz0, BP, BQ⟩ := boxes2 w #[.int .i64 x.1, .slice B n c] #[.int .i64 y.1, .slice D m d] 27 27
  have HW0 := Lib.hid hw0
  have cP0 := BP.cell 0
  have cP1 := BP.cell 1
  have cQ0 := BQ.cell 0
  have cQ1 := BQ.cell 1
  simp at cP0 cP1 cQ0 cQ1
  have HC1 : ∀ wz, Below w0.heap.size w0 wz → Calls Try.prog 118 #[.agg #[.int .i64 x.1, .slice B n c]] wz (fun e w' => ∃ A c, e = .returned (.slice A x.2.length c) ∧ RdL RI w' A x.2.length (tyL x.2) ∧ Below wz.heap.size wz w') := fun wz hz =>
    l2Type_any [.int .i64 x.1, .slice B n c] x wz (shAlgebra.stab (shAlgebra.stab hrd T0.block) hz.block) hx
  have HC2 : ∀ wz, Below w0.heap.size w0 wz → Calls Try.prog 118 #[.agg #[.int .i64 y.1, .slice D m d]] wz (fun e w' => ∃ A c, e = .returned (.slice A y.2.length c) ∧ RdL RI w' A y.2.length (tyL y.2) ∧ Below wz.heap.size wz w') := fun wz hz =>
    l2Type_any [.int .i64 y.1, .slice D m d] y wz (shAlgebra.stab (shAlgebra.stab hrd' T0.block) hz.block) hy
  clear hw0 hsz0 h h' qo qo'
  go_enter Try.func92, Try.ntmps92
  go_upto_region 1 with fail
  rw [← HW0.out]
  have Tk : Below w0.heap.size w0 w0 := Below.refl _ _
  go_cut [4] (fun v4 wx => v4 = .bool (eqL (tyL x.2) (tyL y.2)) ∧ Below w0.heap.size w0 wx)
  case first =>
    go_region_held3 (fun w' => w'.cell? ⟨w.heap.size, 0, none⟩ = some (.int .i64 x.1) ∧ w'.cell? ⟨w.heap.size, 1, none⟩ = some (.slice B n c) ∧ w'.cell? ⟨w.heap.size + 1, 0, none⟩ = some (.int .i64 y.1) ∧ w'.cell? ⟨w.heap.size + 1, 1, none⟩ = some (.slice D m d)) (first | go_keep | exact ⟨keepc Tk cP0, keepc Tk cP1, keepc Tk cQ0, keepc Tk cQ1⟩) (first
      | (go_at_call 118; (with_reducible refine (HC1 _ ?_).mono ?_); (first | exact Tk | exact Below.drew Tk); rintro e wn ⟨A1, c1, rfl, R1, hbn⟩; (try replace R2 := (by first | exact R2.next stab_RI hbn | exact (R2.drew stab_RI).next stab_RI hbn)); replace Tk := below_next (by first | exact Tk | exact Below.drew Tk) hbn rfl)
      | (go_at_call 118; (with_reducible refine (HC2 _ ?_).mono ?_); (first | exact Tk | exact Below.drew Tk); rintro e wn ⟨A2, c2, rfl, R2, hbn⟩; (try replace R1 := (by first | exact R1.next stab_RI hbn | exact (R1.drew stab_RI).next stab_RI hbn)); replace Tk := below_next (by first | exact Tk | exact Below.drew Tk) hbn rfl)
      | (go_at_call 93; refine (l1Same_any _ _ _ _ _ _ _ _ _ (by first | exact R1 | exact R1.drew stab_RI) (by first | exact R2 | exact R2.drew stab_RI)).mono ?_; rintro e wm ⟨rfl, z, rfl⟩; replace Tk := below_drewN (by first | exact Tk | exact Below.drew Tk) z))
    all_goals
      go_wp2_with fail
      go_meet
      exact ⟨rfl, by first | exact Tk | exact Below.drew Tk⟩
  case rest =>
    obtain ⟨rfl, hbc⟩ := hcut
    have hT := below_next T0 hbc rfl
    go_wp2_with fail
    go_ret
    exact ⟨rfl, hT⟩
theorem eqL_false {l m : List Int} (h : eqL l m = false) : l ≠ m := fun e => by rw [eqL_iff.2 e] at h; cases h
theorem same_val {x y : AlgebraM} (hx : SmallP x) (hy : SmallP y) {b1 b2 : Bool} (h0 : x.1 = y.1) (h1 : eqL (tyL x.2) (tyL y.2) = b1) (h2 : b1 = true → eqL (codeL x.2) (codeL y.2) = b2) : (b1 && b2) = eqC x y := by
  rcases b1 with _ | _
  · symm
    rw [Bool.false_and, eqC_no]
    intro e
    exact eqL_false h1 (by rw [e])
  · rw [Bool.true_and]
    rcases b2 with _ | _
    · symm
      rw [eqC_no]
      intro e
      exact eqL_false (h2 rfl) (by rw [e])
    · symm
      rw [eqC_iff]
      refine Prod.ext h0 (code_eq (n := x.1.toNat) hx.2.2.2 (by rw [h0]; exact hy.2.2.2) (eqL_iff.1 h1) (eqL_iff.1 (h2 rfl)))
end Go.Proofs.Ytkmgbdljiajlaaa
namespace Go.Proofs.Ytkmgbdljiajlaaa
open Go.RowKit

set_option maxRecDepth 20000 in
set_option maxHeartbeats 8000000 in
theorem l31Same_any (cs ds : List Value) (x y : AlgebraM) (w : World) (h : shAlgebra.rd w cs x) (h' : shAlgebra.rd w ds y) (hx : SmallP x) (hy : SmallP y) :
    Calls Try.prog 55 #[.agg cs.toArray, .agg ds.toArray] w (Bl w (.bool (eqC x y))) := by
  have hrd := h
  have hrd' := h'
  obtain ⟨B, n, c, rfl, qs, qo⟩ := rdAlgebra h
  obtain ⟨D, m, d, rfl, qs', qo'⟩ := rdAlgebra h'
  obtain ⟨w0, hw0, T0, hsz0, BP, BQ⟩ := boxes2 w #[.int .i64 x.1, .slice B n c] #[.int .i64 y.1, .slice D m d] 27 27
  have HW0 := Lib.hid hw0
  have cP0 := BP.cell 0
  have cP1 := BP.cell 1
  have cQ0 := BQ.cell 0
  have cQ1 := BQ.cell 1
  simp at cP0 cP1 cQ0 cQ1
  by_cases hs : x.1 = y.1
  rotate_left
  · have hbe : (x.1 == y.1) = false := by rw [beq_eq_false_iff_ne]; exact hs
    have HV : Hid (eqC x y = false) := by show _ = _; rw [eqC_no]; intro e; exact hs (by rw [e])
    rw [HV.out]
    clear hw0 hsz0 h h' qo qo' hx hy
    go_enter Try.func55, Try.ntmps55
    go_upto_region 1 with fail
    rw [← HW0.out]
    go_quiet (fail)
    go_wp2_with fail
    go_ret
    exact ⟨rfl, by first | exact T0 | exact below_drewN T0 _⟩
  · have hbe : (x.1 == y.1) = true := by rw [beq_iff_eq]; exact hs
    have hlx := code_small hx
    have hly := code_small hy
    have hx1 : x.2.length ≤ 1048576 := by have := hx.2.2.1; omega
    have hy1 : y.2.length ≤ 1048576 := by have := hy.2.2.1; omega
    have HRX := Lib.hid (code_R hx)
    have HRY := Lib.hid (code_R hy)
    obtain ⟨b1, HB1⟩ : ∃ b, Hid (eqL (tyL x.2) (tyL y.2) = b) := ⟨_, rfl⟩
    obtain ⟨b2, HB2⟩ : ∃ b, Hid (eqL (codeL x.2) (codeL y.2) = b) := ⟨_, rfl⟩
    have HV : Hid ((b1 && b2) = eqC x y) := same_val hx hy hs HB1.out fun _ => HB2.out
    obtain ⟨V, HVV⟩ : ∃ V, Hid (V = (b1 && b2)) := ⟨_, rfl⟩
    rw [← HV.out, ← HVV.out]
    have HC0 : ∀ wz, Below w0.heap.size w0 wz → Calls Try.prog 92 #[.agg #[.int .i64 x.1, .slice B n c], .agg #[.int .i64 y.1, .slice D m d]] wz (Bl wz (.bool b1)) := fun wz hz => by
      have := l2Same_any [.int .i64 x.1, .slice B n c] [.int .i64 y.1, .slice D m d] x y wz (shAlgebra.stab (shAlgebra.stab hrd T0.block) hz.block) (shAlgebra.stab (shAlgebra.stab hrd' T0.block) hz.block) hx1 hy1
      rw [HB1.out] at this
      exact this
    have HC1 : ∀ wz, Below w0.heap.size w0 wz → Calls Try.prog 72 #[.agg #[.int .i64 x.1, .slice B n c]] wz (CodeE wz x.2) := fun wz hz =>
      l31Code_any [.int .i64 x.1, .slice B n c] x wz (shAlgebra.stab (shAlgebra.stab hrd T0.block) hz.block) (cnt_small hx)
    have HC2 : ∀ wz, Below w0.heap.size w0 wz → Calls Try.prog 72 #[.agg #[.int .i64 y.1, .slice D m d]] wz (CodeE wz y.2) := fun wz hz =>
      l31Code_any [.int .i64 y.1, .slice D m d] y wz (shAlgebra.stab (shAlgebra.stab hrd' T0.block) hz.block) (cnt_small hy)
    clear hw0 hsz0 h h' qo qo' hs hx hy
    rcases b1 with _ | _
    · go_enter Try.func55, Try.ntmps55
      go_upto_region 1 with fail
      rw [← HW0.out]
      have Tk : Below w0.heap.size w0 w0 := Below.refl _ _
      go_cut [4] (fun v4 wx => v4 = .bool V ∧ Below w0.heap.size w0 wx)
      case first =>
        go_region_with (go_at_call 92; (with_reducible refine (HC0 _ ?_).mono ?_); (first | exact Tk | exact Below.drew Tk); rintro e wn ⟨rfl, hbn⟩; have T9 := below_next (by first | exact Tk | exact Below.drew Tk) hbn rfl)
        all_goals
          go_wp2_with fail
          go_meet
          exact ⟨by rw [HVV.out]; rfl, by first | exact T9 | exact Below.drew T9⟩
      case rest =>
        obtain ⟨rfl, hbc⟩ := hcut
        have hT := below_next T0 hbc rfl
        go_wp2_with fail
        go_ret
        exact ⟨rfl, hT⟩
    · go_enter Try.func55, Try.ntmps55
      go_upto_region 1 with fail
      rw [← HW0.out]
      have Tk : Below w0.heap.size w0 w0 := Below.refl _ _
      go_cut [4] (fun v4 wx => v4 = .bool V ∧ Below w0.heap.size w0 wx)
      case first =>
        go_region_held3 (fun w' => w'.cell? ⟨w.heap.size, 0, none⟩ = some (.int .i64 x.1) ∧ w'.cell? ⟨w.heap.size, 1, none⟩ = some (.slice B n c) ∧ w'.cell? ⟨w.heap.size + 1, 0, none⟩ = some (.int .i64 y.1) ∧ w'.cell? ⟨w.heap.size + 1, 1, none⟩ = some (.slice D m d)) (first | go_keep | exact ⟨keepc Tk cP0, keepc Tk cP1, keepc Tk cQ0, keepc Tk cQ1⟩) (first
          | (go_at_call 92; (with_reducible refine (HC0 _ ?_).mono ?_); (first | exact Tk | exact Below.drew Tk); rintro e wn ⟨rfl, hbn⟩; replace Tk := below_next (by first | exact Tk | exact Below.drew Tk) hbn rfl)
          | (go_at_call 72; (with_reducible refine (HC1 _ ?_).mono ?_); (first | exact Tk | exact Below.drew Tk); rintro e wn ⟨A1, c1, rfl, ho1, hbn⟩; have R1 := rd_of_own (R := RI) ho1 (RI_ints HRX.out); clear ho1; (try replace R2 := (by first | exact R2.next stab_RI hbn | exact (R2.drew stab_RI).next stab_RI hbn)); replace Tk := below_next (by first | exact Tk | exact Below.drew Tk) hbn rfl)
          | (go_at_call 72; (with_reducible refine (HC2 _ ?_).mono ?_); (first | exact Tk | exact Below.drew Tk); rintro e wn ⟨A2, c2, rfl, ho2, hbn⟩; have R2 := rd_of_own (R := RI) ho2 (RI_ints HRY.out); clear ho2; (try replace R1 := (by first | exact R1.next stab_RI hbn | exact (R1.drew stab_RI).next stab_RI hbn)); replace Tk := below_next (by first | exact Tk | exact Below.drew Tk) hbn rfl)
          | (go_at_call 93; refine (l1Same_any _ _ _ _ _ _ _ _ _ (by first | exact R1 | exact R1.drew stab_RI) (by first | exact R2 | exact R2.drew stab_RI)).mono ?_; rintro e wm ⟨rfl, z, rfl⟩; rw [HB2.out]; replace Tk := below_drewN (by first | exact Tk | exact Below.drew Tk) z))
        all_goals
          go_wp2_with fail
          go_meet
          exact ⟨by rw [HVV.out]; rfl, by first | exact Tk | exact Below.drew Tk⟩
      case rest =>
        obtain ⟨rfl, hbc⟩ := hcut
        have hT := below_next T0 hbc rfl
        go_wp2_with fail
        go_ret
        exact ⟨rfl, hT⟩
end Go.Proofs.Ytkmgbdljiajlaaa
namespace Go.Proofs.Ytkmgbdljiajlaaa
open Go.RowKit

noncomputable def hsM (x y : AlgebraM) : Bool := (smallB x && smallB y) && eqC (canA x) (canA y)
end Go.Proofs.Ytkmgbdljiajlaaa
namespace Go.Proofs.Ytkmgbdljiajlaaa
open Go.RowKit

end Go.Proofs.Ytkmgbdljiajlaaa
namespace Go.Proofs.Ytkmgbdljiajlaaa

noncomputable def tt (p : Prop) : Bool := @decide p (Classical.propDecidable p)
theorem tt_true {p : Prop} (h : p) : true = tt p := by unfold tt; simp [h]
theorem tt_false {p : Prop} (h : ¬ p) : false = tt p := by unfold tt; simp [h]
theorem tt_iff {p : Prop} : tt p = true ↔ p := by unfold tt; simp
end Go.Proofs.Ytkmgbdljiajlaaa
namespace Go.Proofs.Ytkmgbdljiajlaaa
open Go.RowKit

end Go.Proofs.Ytkmgbdljiajlaaa
namespace Go.Proofs.Ytkmgbdljiajlaaa
open Go.RowKit

end Go.Proofs.Ytkmgbdljiajlaaa
namespace Go.Proofs.Ytkmgbdljiajlaaa
open Go.RowKit

end Go.Proofs.Ytkmgbdljiajlaaa
namespace Go.Proofs.Ytkmgbdljiajlaaa
open Go.RowKit

end Go.Proofs.Ytkmgbdljiajlaaa
namespace Go.Proofs.Ytkmgbdljiajlaaa
open Go.RowKit

end Go.Proofs.Ytkmgbdljiajlaaa
namespace Go.Proofs.Ytkmgbdljiajlaaa
open Go.RowKit
set_option linter.unusedVariables false

/-- The arity of the operation that a negative number names. -/
def arF (ops : List OpM) (v : Int) : Nat := (ops.getD (-1 - v).toNat (0, [])).1.toNat
def tbF (ops : List OpM) (v : Int) : List Int := (ops.getD (-1 - v).toNat (0, [])).2
def badV (ops : List OpM) (v : Int) : Bool := decide (6 ≤ v) || decide (v < -(ops.length : Int))
def adV (ops : List OpM) (v : Int) : Nat := if 0 ≤ v then 0 else arF ops v
/-- How many numbers m terms take from the beginning of a list. -/
def endT (ops : List OpM) : List Int → Nat → Option Nat
  | [], m => if m = 0 then some 0 else none
  | v :: l, m => if m = 0 then some 0 else if badV ops v then none else (endT ops l (m - 1 + adV ops v)).map (· + 1)
theorem endT_zero (ops : List OpM) (l : List Int) : endT ops l 0 = some 0 := by cases l <;> rfl
theorem endT_nil (ops : List OpM) {m : Nat} (h : 0 < m) : endT ops [] m = none := by unfold endT; rw [if_neg (by omega)]
theorem endT_cons {ops : List OpM} {v : Int} {l : List Int} {m : Nat} (h : 0 < m) : endT ops (v :: l) m = if badV ops v then none else (endT ops l (m - 1 + adV ops v)).map (· + 1) := by
  rw [endT, if_neg (by omega)]
/-- The place behind the subterm that begins at a place; -1: there is none. -/
def endI (ops : List OpM) (t : List Int) (at_ : Nat) : Int := match endT ops (t.drop at_) 1 with | some q => ((at_ + q : Nat) : Int) | none => -1
/-- The scan at place k, as many terms still wanted. -/
def EnI (ops : List OpM) (t : List Int) (a0 k need : Nat) : Prop := endT ops (t.drop a0) 1 = (endT ops (t.drop k) need).map (· + (k - a0)) ∧ a0 ≤ k ∧ need ≤ 1 + 3 * (k - a0)
theorem EnI.start (ops : List OpM) (t : List Int) (a0 : Nat) : EnI ops t a0 a0 1 := ⟨by cases endT ops (t.drop a0) 1 <;> simp, Nat.le_refl _, by omega⟩
theorem EnI.done {ops : List OpM} {t : List Int} {a0 k : Nat} (h : EnI ops t a0 k 0) : endI ops t a0 = (k : Int) := by
  unfold endI
  rw [h.1, endT_zero]
  have := h.2.1
  show ((a0 + (0 + (k - a0)) : Nat) : Int) = (k : Int)
  omega
theorem EnI.over {ops : List OpM} {t : List Int} {a0 k need : Nat} (h : EnI ops t a0 k need) (hn : 0 < need) (hk : ¬ k < t.length) : endI ops t a0 = -1 := by
  unfold endI
  rw [h.1, List.drop_eq_nil_of_le (by omega), endT_nil ops hn]
  rfl
theorem EnI.next {ops : List OpM} {t : List Int} {a0 k need : Nat} {v : Int} (h : EnI ops t a0 k need) (hn : 0 < need) (hv : t[k]? = some v) (hb : badV ops v = false) (h3 : adV ops v ≤ 3) : EnI ops t a0 (k + 1) (need - 1 + adV ops v) := by
  have hk := (List.getElem?_eq_some_iff.1 hv).1
  have e : t.drop k = v :: t.drop (k + 1) := by rw [List.drop_eq_getElem_cons hk, (List.getElem?_eq_some_iff.1 hv).2]
  obtain ⟨h1, h2, h4⟩ := h
  refine ⟨?_, by omega, by omega⟩
  rw [h1, e, endT_cons hn, hb]
  rcases endT ops (t.drop (k + 1)) (need - 1 + adV ops v) with _ | q
  · rfl
  · show some (q + 1 + (k - a0)) = some (q + (k + 1 - a0))
    congr 1
    omega
/-! ## The value -/
/-- The stack behind a list that was read from its end: its top is the head. -/
def evS (n : Nat) (ops : List OpM) (vals : List Int) : List Int → List Nat
  | [] => []
  | v :: l => if 0 ≤ v then (vals.getD v.toNat 0).toNat :: evS n ops vals l
    else ((tbF ops v).getD (idx n ((evS n ops vals l).take (arF ops v))) 0).toNat :: (evS n ops vals l).drop (arF ops v)
/-- Some terms, one behind the other. -/
def GoodS (ops : List OpM) (l : List Int) (m : Nat) : Prop := endT ops l m = some l.length
theorem GoodS.nil {ops : List OpM} {m : Nat} (h : GoodS ops [] m) : m = 0 := by
  unfold GoodS at h
  rcases Nat.eq_zero_or_pos m with h0 | h0
  · exact h0
  · rw [endT_nil ops h0] at h; cases h
theorem GoodS.cons {ops : List OpM} {v : Int} {l : List Int} {m : Nat} (h : GoodS ops (v :: l) m) : 0 < m ∧ badV ops v = false ∧ GoodS ops l (m - 1 + adV ops v) := by
  unfold GoodS at h ⊢
  rcases Nat.eq_zero_or_pos m with h0 | h0
  · subst h0
    rw [endT_zero] at h
    injection h with h
    simp at h
  · rw [endT_cons h0] at h
    split at h
    · cases h
    · rename_i hb
      refine ⟨h0, by simpa using hb, ?_⟩
      rcases e : endT ops l (m - 1 + adV ops v) with _ | q
      · rw [e] at h; cases h
      · rw [e] at h
        injection h with h
        simp only [List.length_cons] at h
        congr 1
        omega
theorem GoodS.drop {ops : List OpM} : ∀ {l : List Int} {m : Nat} (k : Nat), GoodS ops l m → ∃ m', GoodS ops (l.drop k) m'
  | l, m, 0, h => ⟨m, by simpa using h⟩
  | [], m, k + 1, h => ⟨m, by simpa using h⟩
  | v :: l, m, k + 1, h => by
    obtain ⟨-, -, h1⟩ := h.cons
    simpa using GoodS.drop k h1
theorem evS_len {n : Nat} {ops : List OpM} {vals : List Int} : ∀ {l : List Int} {m : Nat}, GoodS ops l m → (evS n ops vals l).length = m
  | [], m, h => by rw [h.nil]; rfl
  | v :: l, m, h => by
    obtain ⟨h0, -, h1⟩ := h.cons
    have ih := evS_len (n := n) (vals := vals) h1
    unfold evS
    unfold adV at ih h1
    split
    · rename_i hv
      rw [if_pos hv] at ih
      rw [List.length_cons, ih]
      omega
    · rename_i hv
      rw [if_neg hv] at ih
      rw [List.length_cons, List.length_drop, ih]
      omega
/-- At a number of a term: it is a variable, or an operation whose arguments lie on the stack. -/
theorem GoodS.room {n : Nat} {ops : List OpM} {vals : List Int} {v : Int} {l : List Int} {m : Nat} (h : GoodS ops (v :: l) m) : badV ops v = false ∧ (¬ 0 ≤ v → arF ops v ≤ (evS n ops vals l).length) := by
  obtain ⟨h0, h1, h2⟩ := h.cons
  refine ⟨h1, fun hv => ?_⟩
  rw [evS_len h2]
  unfold adV
  rw [if_neg hv]
  omega
end Go.Proofs.Ytkmgbdljiajlaaa
namespace Go.Proofs.Ytkmgbdljiajlaaa
open Go.RowKit
set_option linter.unusedVariables false

/-- Closed under the operations. -/
def ClosedM (n : Nat) (ops : List OpM) (M : Nat → Bool) : Prop := ∀ o ∈ ops, ∀ i, i < o.2.length → (∀ d ∈ digs n o.1.toNat i, M d = true) → M (nmAt o.2 i) = true
def LeM (n : Nat) (B M : Nat → Bool) : Prop := ∀ y, y < n → B y = true → M y = true
/-- In every closed set that has the set B. -/
def InCl (n : Nat) (ops : List OpM) (B : Nat → Bool) (y : Nat) : Prop := ∀ M, ClosedM n ops M → LeM n B M → M y = true
noncomputable def clB (n : Nat) (ops : List OpM) (B : Nat → Bool) (y : Nat) : Bool := tt (InCl n ops B y)
theorem LeM.refl (n : Nat) (B : Nat → Bool) : LeM n B B := fun _ _ h => h
theorem LeM.trans {n : Nat} {A B C : Nat → Bool} (h : LeM n A B) (k : LeM n B C) : LeM n A C := fun y hy ha => k y hy (h y hy ha)
theorem clB_sup (n : Nat) (ops : List OpM) (B : Nat → Bool) : LeM n B (clB n ops B) := fun y hy h => tt_iff.2 fun _ _ hB => hB y hy h
theorem clB_least {n : Nat} {ops : List OpM} {B M : Nat → Bool} (hc : ClosedM n ops M) (hs : LeM n B M) : LeM n (clB n ops B) M := fun _ _ h => tt_iff.1 h M hc hs
theorem cl_eq {n : Nat} {ops : List OpM} {B H : Nat → Bool} (hs : LeM n B H) (hc : ClosedM n ops H) (hl : LeM n H (clB n ops B)) {y : Nat} (hy : y < n) : H y = clB n ops B y := by
  rcases e : H y with _ | _
  · rcases e2 : clB n ops B y with _ | _
    · rfl
    · have := clB_least hc hs y hy e2
      rw [e] at this
      cases this
  · exact (hl y hy e).symm
/-! ## Marks as a list of truth values -/
def gB (L : List Bool) (y : Nat) : Bool := L.getD y false
theorem gB_get {L : List Bool} {y : Nat} {b : Bool} (h : L[y]? = some b) : gB L y = b := by unfold gB; rw [List.getD_eq_getElem?_getD, h]; rfl
theorem gB_at {L : List Bool} {y : Nat} (h : y < L.length) : L[y]? = some (gB L y) := by unfold gB; rw [List.getD_eq_getElem?_getD, List.getElem?_eq_getElem h]; rfl
theorem gB_set {L : List Bool} {x y : Nat} (hx : x < L.length) (b : Bool) : gB (L.set x b) y = if y = x then b else gB L y := by
  unfold gB
  rw [List.getD_eq_getElem?_getD, List.getElem?_set]
  by_cases h : x = y
  · subst h
    rw [if_pos rfl, if_pos hx, if_pos rfl]
    rfl
  · rw [if_neg h, if_neg (fun e => h e.symm), List.getD_eq_getElem?_getD]
/-- The rounds of the program: L is what is marked, L0 what was marked at first. -/
structure ClI (n : Nat) (ops : List OpM) (L0 L : List Bool) : Prop where
  len : L.length = n
  sup : LeM n (gB L0) (gB L)
  least : LeM n (gB L) (clB n ops (gB L0))
theorem ClI.start {n : Nat} {ops : List OpM} {L0 : List Bool} (h : L0.length = n) : ClI n ops L0 L0 := ⟨h, LeM.refl _ _, clB_sup _ _ _⟩
def AllM (n k i : Nat) (L : List Bool) : Bool := (digs n k i).all (gB L)
/-- Nothing is to be marked at an entry of a table. -/
def OkE (n : Nat) (L : List Bool) (o : OpM) (i : Nat) : Prop := AllM n o.1.toNat i L = true → gB L (nmAt o.2 i) = true
theorem ClI.done {n : Nat} {ops : List OpM} {L0 L : List Bool} (h : ClI n ops L0 L) (hk : ∀ o ∈ ops, ∀ i, i < o.2.length → OkE n L o i) {y : Nat} (hy : y < n) : gB L y = clB n ops (gB L0) y :=
  cl_eq h.sup (fun o ho i hi hd => hk o ho i hi (List.all_eq_true.2 hd)) h.least hy
/-! ## The reference steps all at once -/
theorem gB_ext {L M : List Bool} {n : Nat} (hl : L.length = n) (hm : M.length = n) (h : ∀ y, y < n → gB L y = gB M y) : L = M := by
  apply List.ext_getElem?
  intro y
  by_cases hy : y < n
  · rw [gB_at (by omega), gB_at (by omega), h y hy]
  · rw [List.getElem?_eq_none (by omega), List.getElem?_eq_none (by omega)]
/-- What some elements generate. -/
def inL (n : Nat) (S : List Int) : List Bool := (List.range n).map fun (y : Nat) => hasI (y : Int) S
theorem inL_len (n : Nat) (S : List Int) : (inL n S).length = n := by simp [inL]
end Go.Proofs.Ytkmgbdljiajlaaa
namespace Go.Proofs.Ytkmgbdljiajlaaa
open Go.RowKit
set_option linter.unusedVariables false

/-- A partition of n elements: each is told by the least element of its block. -/
def ParI (p : List Int) (i : Nat) : Prop := 0 ≤ p.getD i 0 ∧ nmAt p i ≤ i ∧ nmAt p (nmAt p i) = nmAt p i
def ParP (n : Nat) (p : List Int) : Prop := p.length = n ∧ ∀ i, i < n → ParI p i
theorem ParP.at {n : Nat} {p : List Int} (h : ParP n p) {i : Nat} (hi : i < n) : p[i]? = some (nmAt p i : Int) ∧ nmAt p i ≤ i ∧ nmAt p (nmAt p i) = nmAt p i := by
  obtain ⟨h1, h2, h3⟩ := h.2 i hi
  refine ⟨?_, h2, h3⟩
  have hl : i < p.length := by rw [h.1]; exact hi
  unfold nmAt
  rw [List.getD_eq_getElem?_getD, List.getElem?_eq_getElem hl] at h1 ⊢
  simp only [Option.getD_some] at h1 ⊢
  congr 1
  omega
def uniV (a b v : Int) : Int := if v = (if a ≤ b then b else a) then (if a ≤ b then a else b) else v
/-- The blocks of two elements in one. -/
def uniL (p : List Int) (x y : Nat) : List Int := p.map (uniV (nmAt p x) (nmAt p y))
theorem uniL_len (p : List Int) (x y : Nat) : (uniL p x y).length = p.length := by simp [uniL]
theorem uni_same {p : List Int} {x y : Nat} (h : nmAt p x = nmAt p y) : uniL p x y = p := by
  unfold uniL
  rw [h]
  refine (List.map_congr_left (g := id) fun v _ => ?_).trans (List.map_id p)
  unfold uniV
  simp only [Int.le_refl, if_true]
  split
  · rename_i e; exact e.symm
  · rfl
section
variable {n : Nat} {p : List Int} (hp : ParP n p)
include hp
theorem uni_at {x y i : Nat} (hi : i < n) : nmAt (uniL p x y) i = if nmAt p i = max (nmAt p x) (nmAt p y) then min (nmAt p x) (nmAt p y) else nmAt p i := by
  have h1 : (uniL p x y)[i]? = some (uniV (nmAt p x) (nmAt p y) (nmAt p i)) := by
    unfold uniL
    rw [List.getElem?_map, (hp.at hi).1]
    rfl
  rw [nmAt_get h1]
  unfold uniV
  by_cases hxy : nmAt p x ≤ nmAt p y
  · have h2 : ((nmAt p x : Nat) : Int) ≤ ((nmAt p y : Nat) : Int) := by omega
    rw [if_pos h2, if_pos h2, Nat.max_eq_right hxy, Nat.min_eq_left hxy]
    by_cases e : nmAt p i = nmAt p y
    · rw [if_pos e, if_pos (by rw [e])]; omega
    · rw [if_neg e, if_neg (by omega)]; omega
  · have h2 : ¬ ((nmAt p x : Nat) : Int) ≤ ((nmAt p y : Nat) : Int) := by omega
    rw [if_neg h2, if_neg h2, Nat.max_eq_left (by omega), Nat.min_eq_right (by omega)]
    by_cases e : nmAt p i = nmAt p x
    · rw [if_pos e, if_pos (by rw [e])]; omega
    · rw [if_neg e, if_neg (by omega)]; omega
theorem par_lt {i : Nat} (hi : i < n) : nmAt p i < n := by have := (hp.at hi).2.1; omega
theorem uni_par {x y : Nat} (hx : x < n) (hy : y < n) : ParP n (uniL p x y) := by
  have hxl := par_lt hp hx
  have hyl := par_lt hp hy
  have hmin : min (nmAt p x) (nmAt p y) < n := by omega
  have hmm : nmAt p (min (nmAt p x) (nmAt p y)) = min (nmAt p x) (nmAt p y) := by
    rcases Nat.le_total (nmAt p x) (nmAt p y) with h | h
    · rw [Nat.min_eq_left h]; exact (hp.at hx).2.2
    · rw [Nat.min_eq_right h]; exact (hp.at hy).2.2
  refine ⟨by rw [uniL_len]; exact hp.1, fun i hi => ?_⟩
  have e := uni_at hp (x := x) (y := y) hi
  have h1 := hp.at hi
  refine ⟨?_, ?_, ?_⟩
  · unfold uniL
    rw [List.getD_eq_getElem?_getD, List.getElem?_map, h1.1]
    show 0 ≤ uniV _ _ _
    unfold uniV
    split
    · split <;> omega
    · omega
  · rw [e]
    split
    · omega
    · exact h1.2.1
  · rw [e]
    by_cases h2 : nmAt p i = max (nmAt p x) (nmAt p y)
    · rw [if_pos h2, uni_at hp hmin, hmm]
      split <;> rfl
    · rw [if_neg h2, uni_at hp (par_lt hp hi), h1.2.2, if_neg h2]
/-- Coarser. -/
theorem uni_keep {x y i j : Nat} (hi : i < n) (hj : j < n) (h : nmAt p i = nmAt p j) : nmAt (uniL p x y) i = nmAt (uniL p x y) j := by rw [uni_at hp hi, uni_at hp hj, h]
theorem uni_joins {x y : Nat} (hx : x < n) (hy : y < n) : nmAt (uniL p x y) x = nmAt (uniL p x y) y := by
  rw [uni_at hp hx, uni_at hp hy]
  rcases Nat.le_total (nmAt p x) (nmAt p y) with h | h
  · rw [Nat.max_eq_right h, Nat.min_eq_left h, if_pos rfl]
    split <;> omega
  · rw [Nat.max_eq_left h, Nat.min_eq_right h, if_pos rfl]
    split <;> omega
omit hp in
end
/-! ## Pairs that a congruence must hold together -/
/-! ## The reference's push -/
/-- out is what the partition p became: coarser; as p, where nothing was to be put together. -/
structure PuI (n : Nat) (p out : List Int) (all : Prop) : Prop where
  par : ParP n out
  keep : ∀ i j, i < n → j < n → nmAt p i = nmAt p j → nmAt out i = nmAt out j
  same : all → out = p
  back : out = p → all
theorem PuI.start {n : Nat} {p : List Int} (h : ParP n p) : PuI n p p True := ⟨h, fun _ _ _ _ h => h, fun _ => rfl, fun _ => trivial⟩
theorem PuI.congr {n : Nat} {p out : List Int} {a b : Prop} (h : PuI n p out a) (e : a ↔ b) : PuI n p out b := ⟨h.par, h.keep, fun hb => h.same (e.2 hb), fun hb => e.1 (h.back hb)⟩
theorem par_ext {n : Nat} {p q : List Int} (hp : ParP n p) (hq : ParP n q) (h : ∀ i, i < n → nmAt p i = nmAt q i) : p = q := by
  apply List.ext_getElem?
  intro i
  by_cases hi : i < n
  · rw [(hp.at hi).1, (hq.at hi).1, h i hi]
  · rw [List.getElem?_eq_none (by rw [hp.1]; omega), List.getElem?_eq_none (by rw [hq.1]; omega)]
theorem PuI.next {n : Nat} {p out : List Int} {all : Prop} (hp : ParP n p) (h : PuI n p out all) {x y : Nat} (hx : x < n) (hy : y < n) : PuI n p (uniL out x y) (all ∧ nmAt p x = nmAt p y) := by
  refine ⟨uni_par h.par hx hy, fun i j hi hj e => uni_keep h.par hi hj (h.keep i j hi hj e), fun ⟨ha, hxy⟩ => ?_, fun e => ?_⟩
  · have := h.same ha
    subst this
    exact uni_same hxy
  · have h1 : nmAt p x = nmAt p y := by rw [← e]; exact uni_joins h.par hx hy
    refine ⟨h.back ?_, h1⟩
    -- out is between p and uniL out = p
    refine par_ext h.par hp fun i hi => ?_
    have h2 : ∀ i j, i < n → j < n → nmAt out i = nmAt out j → nmAt p i = nmAt p j := fun i j hi hj e2 => by
      rw [← e]; exact uni_keep h.par hi hj e2
    -- both tell the block of i by its least element
    have ho := h.par.at hi
    have hq := hp.at hi
    have k1 := h.keep (nmAt p i) i (by omega) hi hq.2.2
    have k2 := h2 (nmAt out i) i (by omega) hi ho.2.2
    have k3 := (h.par.at (show nmAt p i < n by omega)).2.1
    have k4 := (hp.at (show nmAt out i < n by omega)).2.1
    omega
end Go.Proofs.Ytkmgbdljiajlaaa
namespace Go.Proofs.Ytkmgbdljiajlaaa
open Go.RowKit
set_option linter.unusedVariables false

end Go.Proofs.Ytkmgbdljiajlaaa
namespace Go.Proofs.Ytkmgbdljiajlaaa
open Go.RowKit
set_option linter.unusedVariables false

end Go.Proofs.Ytkmgbdljiajlaaa
namespace Go.Proofs.Ytkmgbdljiajlaaa
open Go.RowKit

end Go.Proofs.Ytkmgbdljiajlaaa
namespace Go.Proofs.Ytkmgbdljiajlaaa
open Go.RowKit
end Go.Proofs.Ytkmgbdljiajlaaa
namespace Go.Proofs.Ytkmgbdljiajlaaa
open Go.RowKit

/-! ## Names one after the other -/
def comp (s t : List Int) : List Int := s.map (nmI t)
theorem PermL.atI {n : Nat} {s : List Int} (h : PermL n s) {v : Int} (h0 : 0 ≤ v) (h1 : v ≤ (n : Int) - 1) : ∃ hl : v.toNat < s.length, nmI s v = s[v.toNat] ∧ s[v.toNat]? = some (nmI s v) := by
  have hl : v.toNat < s.length := by rw [h.1]; omega
  have e : s[v.toNat]? = some s[v.toNat] := List.getElem?_eq_getElem hl
  have e2 : nmI s v = s[v.toNat] := by unfold nmI; rw [List.getD_eq_getElem?_getD, e]; rfl
  exact ⟨hl, e2, by rw [e2]; exact e⟩
theorem nmI_in {n : Nat} {s : List Int} (h : PermL n s) {v : Int} (h0 : 0 ≤ v) (h1 : v ≤ (n : Int) - 1) : 0 ≤ nmI s v ∧ nmI s v ≤ (n : Int) - 1 := by
  obtain ⟨hl, e, -⟩ := h.atI h0 h1
  rw [e]
  exact h.2.1 _ (List.getElem_mem hl)
theorem nodup_at {α : Type} : ∀ {l : List α}, l.Nodup → ∀ {i j : Nat} {v : α}, l[i]? = some v → l[j]? = some v → i = j
  | [], _, i, j, v, hi, _ => by simp at hi
  | x :: l, h, 0, 0, v, _, _ => rfl
  | x :: l, h, 0, j + 1, v, hi, hj => by
    rw [List.nodup_cons] at h
    simp at hi hj
    subst hi
    exact absurd (List.mem_of_getElem? hj) h.1
  | x :: l, h, i + 1, 0, v, hi, hj => by
    rw [List.nodup_cons] at h
    simp at hi hj
    subst hj
    exact absurd (List.mem_of_getElem? hi) h.1
  | x :: l, h, i + 1, j + 1, v, hi, hj => by
    rw [List.nodup_cons] at h
    simp at hi hj
    rw [nodup_at h.2 hi hj]
theorem nmI_inj {n : Nat} {s : List Int} (h : PermL n s) {a b : Int} (a0 : 0 ≤ a) (a1 : a ≤ (n : Int) - 1) (b0 : 0 ≤ b) (b1 : b ≤ (n : Int) - 1) (e : nmI s a = nmI s b) : a = b := by
  obtain ⟨-, -, ea⟩ := h.atI a0 a1
  obtain ⟨-, -, eb⟩ := h.atI b0 b1
  rw [e] at ea
  have := nodup_at h.2.2 ea eb
  omega
theorem nodup_map {α β : Type} {f : α → β} {l : List α} (h : l.Nodup) (hf : ∀ a ∈ l, ∀ b ∈ l, f a = f b → a = b) : (l.map f).Nodup := by
  induction l with
  | nil => simp
  | cons x l ih =>
    rw [List.nodup_cons] at h
    rw [List.map_cons, List.nodup_cons]
    refine ⟨fun hm => ?_, ih h.2 fun a ha b hb => hf a (by simp [ha]) b (by simp [hb])⟩
    obtain ⟨y, hy, e⟩ := List.mem_map.1 hm
    have := hf y (by simp [hy]) x (by simp) e
    subst this
    exact h.1 hy
theorem comp_perm {n : Nat} {s t : List Int} (hs : PermL n s) (ht : PermL n t) : PermL n (comp s t) := by
  refine ⟨by unfold comp; rw [List.length_map]; exact hs.1, fun v hv => ?_, nodup_map hs.2.2 fun a ha b hb e => ?_⟩
  · obtain ⟨y, hy, rfl⟩ := List.mem_map.1 hv
    have := hs.2.1 y hy
    exact nmI_in ht this.1 this.2
  · have h1 := hs.2.1 a ha
    have h2 := hs.2.1 b hb
    exact nmI_inj ht h1.1 h1.2 h2.1 h2.2 e
theorem comp_nmI {n : Nat} {s t : List Int} (hs : PermL n s) {v : Int} (h0 : 0 ≤ v) (h1 : v ≤ (n : Int) - 1) : nmI (comp s t) v = nmI t (nmI s v) := by
  obtain ⟨hl, e, e2⟩ := hs.atI h0 h1
  unfold comp
  have : (s.map (nmI t))[v.toNat]? = some (nmI t (nmI s v)) := by rw [List.getElem?_map, e2]; rfl
  exact nmI_get this
theorem nmAt_nmI {n : Nat} {s : List Int} (hs : PermL n s) {x : Nat} (hx : x < n) : (nmAt s x : Int) = nmI s (x : Int) := by
  obtain ⟨v, h1, h2, h3⟩ := hs.at hx
  rw [h3]
  have := nmI_get h1
  unfold nmI at this ⊢
  simp only [Int.toNat_natCast]
  exact this.symm
theorem nmAt_lt {n : Nat} {s : List Int} (hs : PermL n s) {x : Nat} (hx : x < n) : nmAt s x < n := by
  obtain ⟨v, h1, h2, h3⟩ := hs.at hx
  omega
theorem comp_nmAt {n : Nat} {s t : List Int} (hs : PermL n s) (ht : PermL n t) {x : Nat} (hx : x < n) : nmAt (comp s t) x = nmAt t (nmAt s x) := by
  have h1 := nmAt_nmI (comp_perm hs ht) hx
  have h2 := nmAt_nmI ht (nmAt_lt hs hx)
  have h3 := nmAt_nmI hs hx
  rw [comp_nmI hs (by omega) (by omega), ← h3, ← h2] at h1
  omega
theorem perm_ext {n : Nat} {s t : List Int} (hs : s.length = n) (ht : t.length = n) (h : ∀ x, x < n → nmI s (x : Int) = nmI t (x : Int)) : s = t := by
  apply List.ext_getElem?
  intro i
  by_cases hi : i < n
  · have := h i hi
    unfold nmI at this
    simp only [Int.toNat_natCast, List.getD_eq_getElem?_getD] at this
    rw [List.getElem?_eq_getElem (by omega), List.getElem?_eq_getElem (by omega)] at this ⊢
    simpa using this
  · rw [List.getElem?_eq_none (by omega), List.getElem?_eq_none (by omega)]
theorem upTo_nmI {n : Nat} {v : Int} (h0 : 0 ≤ v) (h1 : v ≤ (n : Int) - 1) : nmI (upTo n) v = v := by
  have := nmI_get (upTo_get (n := n) (k := v.toNat) (by omega))
  rw [Int.toNat_of_nonneg h0] at this
  exact this
theorem comp_len (s t : List Int) : (comp s t).length = s.length := by simp [comp]
theorem comp_up {n : Nat} {s : List Int} (hs : PermL n s) : comp s (upTo n) = s := by
  refine perm_ext (n := n) (by rw [comp_len]; exact hs.1) hs.1 fun x hx => ?_
  have := nmI_in hs (v := (x : Int)) (by omega) (by omega)
  rw [comp_nmI hs (by omega) (by omega), upTo_nmI this.1 this.2]
theorem comp_assoc {n : Nat} {a b c : List Int} (ha : PermL n a) (hb : PermL n b) : comp (comp a b) c = comp a (comp b c) := by
  refine perm_ext (n := n) (by rw [comp_len, comp_len]; exact ha.1) (by rw [comp_len]; exact ha.1) fun x hx => ?_
  have := nmI_in ha (v := (x : Int)) (by omega) (by omega)
  rw [comp_nmI (comp_perm ha hb) (by omega) (by omega), comp_nmI ha (by omega) (by omega), comp_nmI ha (by omega) (by omega), comp_nmI hb this.1 this.2]
/-- The place of a number in a list. -/
def posN : List Int → Int → Nat
  | [], _ => 0
  | x :: l, v => if x = v then 0 else posN l v + 1
theorem posN_get : ∀ {l : List Int} {v : Int}, v ∈ l → l[posN l v]? = some v
  | [], v, h => by simp at h
  | x :: l, v, h => by
    unfold posN
    by_cases e : x = v
    · rw [if_pos e, e]; rfl
    · rw [if_neg e, List.getElem?_cons_succ]
      refine posN_get ?_
      rcases List.mem_cons.1 h with h | h
      · exact absurd h.symm e
      · exact h
def inv (n : Nat) (s : List Int) : List Int := (List.range n).map fun (y : Nat) => (posN s (y : Int) : Int)
theorem PermL.mem {n : Nat} {s : List Int} (h : PermL n s) {y : Nat} (hy : y < n) : (y : Int) ∈ s := by
  obtain ⟨x, hx, e⟩ := h.surj hy
  obtain ⟨v, h1, h2, h3⟩ := h.at hx
  rw [← e, h3]
  exact List.mem_of_getElem? h1
theorem inv_nmI {n : Nat} {s : List Int} {y : Nat} (hy : y < n) : nmI (inv n s) (y : Int) = (posN s (y : Int) : Int) := by
  have : (inv n s)[y]? = some (posN s (y : Int) : Int) := by unfold inv; rw [List.getElem?_map, List.getElem?_range hy]; rfl
  have := nmI_get this
  unfold nmI at this ⊢
  simpa using this
theorem inv_perm {n : Nat} {s : List Int} (h : PermL n s) : PermL n (inv n s) := by
  refine ⟨by simp [inv], fun v hv => ?_, nodup_map List.nodup_range fun a ha b hb e => ?_⟩
  · obtain ⟨y, hy, rfl⟩ := List.mem_map.1 hv
    have := (List.getElem?_eq_some_iff.1 (posN_get (h.mem (List.mem_range.1 hy)))).1
    have := h.1
    omega
  · have h1 := posN_get (h.mem (List.mem_range.1 ha))
    have h2 := posN_get (h.mem (List.mem_range.1 hb))
    have e' : posN s (a : Int) = posN s (b : Int) := by omega
    rw [e', h2] at h1
    injection h1 with h1
    omega
theorem comp_inv {n : Nat} {s : List Int} (h : PermL n s) : comp s (inv n s) = upTo n := by
  refine perm_ext (n := n) (by rw [comp_len]; exact h.1) (upTo_len n) fun x hx => ?_
  rw [comp_nmI h (by omega) (by omega), upTo_nmI (by omega) (by omega)]
  obtain ⟨v, h1, h2, h3⟩ := h.at hx
  have e : nmI s (x : Int) = v := by have := nmI_get h1; unfold nmI at this ⊢; simpa using this
  rw [e, inv_nmI h2]
  have := nodup_at h.2.2 (posN_get (h.mem h2)) h1
  omega
theorem inv_comp {n : Nat} {s : List Int} (h : PermL n s) : comp (inv n s) s = upTo n := by
  refine perm_ext (n := n) (by rw [comp_len]; exact (inv_perm h).1) (upTo_len n) fun x hx => ?_
  rw [comp_nmI (inv_perm h) (by omega) (by omega), upTo_nmI (by omega) (by omega), inv_nmI hx]
  have := posN_get (h.mem hx)
  have := nmI_get this
  unfold nmI at this ⊢
  simpa using this

/-! ## Renaming by names one after the other -/
theorem toI_comp {n k : Nat} {s t : List Int} (hn : 0 < n) (hs : PermL n s) (ht : PermL n t) (i : Nat) : toI n k t (toI n k s i) = toI n k (comp s t) i := by
  unfold toI
  have h1 : ∀ d ∈ (digs n k i).map (nmAt s), d < n := fun d hd => by
    obtain ⟨y, hy, rfl⟩ := List.mem_map.1 hd
    exact nmAt_lt hs (digs_lt hn hy)
  rw [digs_idx hn k _ (by rw [List.length_map, digs_len]) h1, List.map_map]
  congr 1
  apply List.map_congr_left
  intro d hd
  rw [comp_nmAt hs ht (digs_lt hn hd)]
  rfl
theorem toI_inj {n k : Nat} {s : List Int} (hn : 0 < n) (hs : PermL n s) {i j : Nat} (hi : i < n ^ k) (hj : j < n ^ k) (e : toI n k s i = toI n k s j) : i = j := by
  have h1 := toI_comp (k := k) hn hs (inv_perm hs) i
  have h2 := toI_comp (k := k) hn hs (inv_perm hs) j
  rw [comp_inv hs, toI_up hn hi] at h1
  rw [comp_inv hs, toI_up hn hj] at h2
  rw [← h1, ← h2, e]
theorem renTo_get {n k : Nat} {s t T : List Int} (hn : 0 < n) (hs : PermL n s) (hT : T.length = n ^ k) : ∀ m, m ≤ n ^ k → ∀ i, i < m → (renTo n k s t T m)[toI n k s i]? = some (nmI s (t.getD i 0))
  | 0, _, i, hi => absurd hi (by omega)
  | m + 1, hm, i, hi => by
    rw [renTo, List.getElem?_set]
    by_cases h : toI n k s m = toI n k s i
    · obtain rfl : m = i := toI_inj hn hs (by omega) (by omega) h
      have := toI_lt (k := k) hn hs m
      rw [if_pos rfl, if_pos (by rw [renTo_len, hT]; exact this)]
    · rw [if_neg h]
      refine renTo_get hn hs hT m (by omega) i ?_
      rcases Nat.lt_or_ge i m with h2 | h2
      · exact h2
      · obtain rfl : i = m := by omega
        exact absurd rfl h
theorem renOp_get {n : Nat} {s : List Int} {x : OpM} (hn : 0 < n) (hs : PermL n s) (h : OpP n x) {i : Nat} (hi : i < n ^ x.1.toNat) : (renOp n s x).2[toI n x.1.toNat s i]? = some (nmI s (x.2.getD i 0)) :=
  renTo_get hn hs h.2.2.1 _ (Nat.le_of_eq h.2.2.1) i (by rw [h.2.2.1]; exact hi)
theorem renOp_comp {n : Nat} {s t : List Int} {x : OpM} (hn : 0 < n) (hs : PermL n s) (ht : PermL n t) (h : OpP n x) : renOp n t (renOp n s x) = renOp n (comp s t) x := by
  have h1 := renOp_small hs h
  have h2 := renOp_small ht h1
  have h3 := renOp_small (comp_perm hs ht) h
  refine Prod.ext rfl ?_
  apply List.ext_getElem?
  intro j
  by_cases hj : j < n ^ x.1.toNat
  · obtain ⟨i, hi, rfl⟩ := toI_surj hn (comp_perm hs ht) hj
    rw [renOp_get hn (comp_perm hs ht) h hi, ← toI_comp hn hs ht i]
    have e := renOp_get (x := renOp n s x) hn ht h1 (i := toI n x.1.toNat s i) (toI_lt hn hs i)
    have e1 : (renOp n s x).1 = x.1 := rfl
    rw [e1] at e
    rw [e, List.getD_eq_getElem?_getD, renOp_get hn hs h hi]
    have hx : 0 ≤ x.2.getD i 0 ∧ x.2.getD i 0 ≤ (n : Int) - 1 := by
      rw [List.getD_eq_getElem?_getD, List.getElem?_eq_getElem (by rw [h.2.2.1]; exact hi)]
      exact h.2.2.2 _ (List.getElem_mem _)
    rw [comp_nmI hs hx.1 hx.2]
    rfl
  · have e2 : (renOp n t (renOp n s x)).2.length = n ^ x.1.toNat := h2.2.2.1
    have e3 : (renOp n (comp s t) x).2.length = n ^ x.1.toNat := h3.2.2.1
    rw [List.getElem?_eq_none (by omega), List.getElem?_eq_none (by omega)]
theorem ren_comp {x : AlgebraM} {s t : List Int} (h : SmallP x) (hs : PermL x.1.toNat s) (ht : PermL x.1.toNat t) : ren (ren x s) t = ren x (comp s t) := by
  obtain ⟨a, ops⟩ := x
  have hn : 0 < a.toNat := by have h0 : 1 ≤ a := h.1; omega
  show (a, (ops.map (renOp a.toNat s)).map (renOp a.toNat t)) = (a, ops.map (renOp a.toNat (comp s t)))
  congr 1
  rw [List.map_map]
  apply List.map_congr_left
  intro o ho
  exact renOp_comp hn hs ht (h.2.2.2 o ho)
theorem ren_inv {x : AlgebraM} {s : List Int} (h : SmallP x) (hs : PermL x.1.toNat s) : ren (ren x s) (inv x.1.toNat s) = x := by
  rw [ren_comp h hs (inv_perm hs), comp_inv hs, ren_up h]

/-! ## All lists of names -/
theorem ords_all {n : Nat} : ∀ (r : Nat) {s q : List Int}, q.length = r → (s ++ q).Nodup → (∀ v ∈ q, 0 ≤ v ∧ v ≤ (n : Int) - 1) → s ++ q ∈ ords n r s
  | 0, s, q, hq, _, _ => by
    obtain rfl : q = [] := List.eq_nil_of_length_eq_zero hq
    simp [ords]
  | r + 1, s, q, hq, hn, hb => by
    rcases q with _ | ⟨v, q⟩
    · simp at hq
    · have hv := hb v (by simp)
      rw [ords, List.mem_flatMap]
      refine ⟨v.toNat, List.mem_range.2 (by omega), ?_⟩
      rw [Int.toNat_of_nonneg hv.1]
      have hno : hasI v s = false := by
        rcases e : hasI v s with _ | _
        · rfl
        · rw [List.nodup_append] at hn
          exact absurd rfl (hn.2.2 v (hasI_m.1 e) v (by simp))
      rw [hno, if_neg (by simp)]
      have := ords_all (n := n) r (s := s ++ [v]) (q := q) (by simpa using hq) (by simpa using hn) fun u hu => hb u (by simp [hu])
      simpa using this
theorem ords_mem {n : Nat} {p : List Int} : p ∈ ords n n [] ↔ PermL n p :=
  ⟨fun h => ords_perm n (by simp) (fun v hv => by cases hv) List.nodup_nil p h, fun h => ords_all n (s := []) h.1 (by simpa using h.2.2) h.2.1⟩
theorem ords_pre {n : Nat} : ∀ (r : Nat) {s p : List Int}, p ∈ ords n r s → ∃ q, p = s ++ q ∧ q.length = r
  | 0, s, p, h => ⟨[], by simpa [ords] using h, rfl⟩
  | r + 1, s, p, h => by
    rw [ords, List.mem_flatMap] at h
    obtain ⟨x, hx, h⟩ := h
    split at h
    · cases h
    · obtain ⟨q, e, hq⟩ := ords_pre r h
      exact ⟨(x : Int) :: q, by simpa using e, by simp [hq]⟩
theorem ords_nodup {n : Nat} : ∀ (r : Nat) (s : List Int), (ords n r s).Nodup
  | 0, s => by simp [ords]
  | r + 1, s => by
    rw [ords, List.nodup_iff_pairwise_ne, List.pairwise_flatMap]
    refine ⟨fun x hx => ?_, ?_⟩
    · split
      · simp
      · exact List.nodup_iff_pairwise_ne.1 (ords_nodup r _)
    · refine (List.nodup_iff_pairwise_ne.1 List.nodup_range).imp fun {a b} hab => ?_
      intro p hp q hq e
      subst e
      split at hp
      · cases hp
      · split at hq
        · cases hq
        · obtain ⟨u, e1, -⟩ := ords_pre r hp
          obtain ⟨v, e2, -⟩ := ords_pre r hq
          rw [e1] at e2
          simp at e2
          omega
/-! ## The first form -/
theorem ren_eq {x : AlgebraM} (hx : SmallP x) {s t : List Int} (hs : PermL x.1.toNat s) (ht : PermL x.1.toNat t) (h : codeL (ren x s).2 = codeL (ren x t).2) : ren x s = ren x t :=
  Prod.ext rfl (code_eq (n := x.1.toNat) (ren_small hs hx).2.2.2 (ren_small ht hx).2.2.2 (by rw [ren_type, ren_type]) h)
/-! ## Counting -/
theorem nodup_sub' {α : Type} : ∀ {l m : List α}, l.Nodup → (∀ x ∈ l, x ∈ m) → l.length ≤ m.length
  | [], _, _, _ => Nat.zero_le _
  | a :: l, m, hn, hs => by
    rw [List.nodup_cons] at hn
    obtain ⟨u, v, rfl⟩ := List.append_of_mem (hs a (by simp))
    have ih := nodup_sub' (m := u ++ v) hn.2 fun x hx => by
      have := hs x (by simp [hx])
      have hne : x ≠ a := fun e => hn.1 (by rw [← e]; exact hx)
      simpa [hne] using this
    simp at ih ⊢
    omega
theorem length_by {α β : Type} (f : α → β) (m : Nat) (P : α → β → Bool) (hP : ∀ a b, P a b = true ↔ f a = b) : ∀ {cs : List β} {L : List α}, cs.Nodup → (∀ p ∈ L, f p ∈ cs) → (∀ c ∈ cs, (L.filter fun p => P p c).length = m) → L.length = cs.length * m
  | [], [], _, _, _ => by simp
  | [], p :: L, _, h, _ => by have := h p (by simp); cases this
  | c :: cs, L, hn, h, hm => by
    rw [List.nodup_cons] at hn
    have h1 := hm c (by simp)
    have h2 : (L.filter fun p => !P p c).length = cs.length * m := by
      refine length_by f m P hP hn.2 (fun p hp => ?_) fun d hd => ?_
      · rw [List.mem_filter] at hp
        rcases List.mem_cons.1 (h p hp.1) with e | e
        · have := (hP p c).2 e
          rw [this] at hp
          simp at hp
        · exact e
      · rw [List.filter_filter, ← hm d (by simp [hd])]
        congr 1
        apply List.filter_congr
        intro p _
        rcases e : P p d with _ | _
        · rfl
        · have h3 := (hP p d).1 e
          have h4 : P p c = false := by
            rcases e2 : P p c with _ | _
            · rfl
            · have := (hP p c).1 e2
              rw [← this, h3] at hn
              exact absurd hd hn.1
          rw [h4]
          rfl
    have h3 : L.length = (L.filter fun p => P p c).length + (L.filter fun p => !P p c).length := by
      clear h h1 h2 hm
      induction L with
      | nil => rfl
      | cons p L ih =>
        rw [List.filter_cons, List.filter_cons]
        rcases P p c with _ | _ <;> simp <;> omega
    rw [h3, h1, h2, List.length_cons, Nat.succ_mul]
    omega
theorem orbit_len {x : AlgebraM} (hx : SmallP x) {cs : List (List Int)} (hn : cs.Nodup) (h : ∀ c, c ∈ cs ↔ ∃ p ∈ ords x.1.toNat x.1.toNat [], codeL (ren x p).2 = c) :
    (ords x.1.toNat x.1.toNat []).length = cs.length * ((ords x.1.toNat x.1.toNat []).filter fun p => eqC (ren x p) x).length := by
  refine length_by (fun p => codeL (ren x p).2) _ (fun p c => eqC (codeL (ren x p).2) c) (fun a b => eqC_iff) hn (fun p hp => (h _).2 ⟨p, hp, rfl⟩) fun c hc => ?_
  obtain ⟨p, hp, rfl⟩ := (h c).1 hc
  have hp' := ords_mem.1 hp
  have hL := ords_nodup (n := x.1.toNat) x.1.toNat []
  apply Nat.le_antisymm
  · rw [← List.length_map (f := fun q => comp q (inv x.1.toNat p))]
    refine nodup_sub' (nodup_map (List.Nodup.sublist List.filter_sublist hL) fun a ha b hb e => ?_) fun q hq => ?_
    · have ha' := ords_mem.1 (List.mem_filter.1 ha).1
      have hb' := ords_mem.1 (List.mem_filter.1 hb).1
      have : comp (comp a (inv x.1.toNat p)) p = comp (comp b (inv x.1.toNat p)) p := congrArg (fun z => comp z p) e
      rwa [comp_assoc ha' (inv_perm hp'), comp_assoc hb' (inv_perm hp'), inv_comp hp', comp_up ha', comp_up hb'] at this
    · obtain ⟨q', hq', rfl⟩ := List.mem_map.1 hq
      rw [List.mem_filter] at hq' ⊢
      have h1 := ords_mem.1 hq'.1
      refine ⟨ords_mem.2 (comp_perm h1 (inv_perm hp')), eqC_iff.2 ?_⟩
      have h2 := ren_eq hx h1 hp' (eqC_iff.1 hq'.2)
      rw [← ren_comp hx h1 (inv_perm hp'), h2, ren_inv hx hp']
  · rw [← List.length_map (f := fun q => comp q p)]
    refine nodup_sub' (nodup_map (List.Nodup.sublist List.filter_sublist hL) fun a ha b hb e => ?_) fun q hq => ?_
    · have ha' := ords_mem.1 (List.mem_filter.1 ha).1
      have hb' := ords_mem.1 (List.mem_filter.1 hb).1
      have : comp (comp a p) (inv x.1.toNat p) = comp (comp b p) (inv x.1.toNat p) := congrArg (fun z => comp z (inv x.1.toNat p)) e
      rwa [comp_assoc ha' hp', comp_assoc hb' hp', comp_inv hp', comp_up ha', comp_up hb'] at this
    · obtain ⟨q', hq', rfl⟩ := List.mem_map.1 hq
      rw [List.mem_filter] at hq' ⊢
      have h1 := ords_mem.1 hq'.1
      refine ⟨ords_mem.2 (comp_perm h1 hp'), eqC_iff.2 ?_⟩
      rw [← ren_comp hx h1 hp', eqC_iff.1 hq'.2]
/-- The list of what f gives, each once, in the order of the first ones. -/
noncomputable def once {α β : Type} (f : α → β) (l : List α) : List β := l.foldl (fun acc p => if (acc.any fun c => eqC c (f p)) then acc else acc ++ [f p]) []
theorem once_snoc {α β : Type} (f : α → β) (l : List α) (p : α) : once f (l ++ [p]) = if ((once f l).any fun c => eqC c (f p)) then once f l else once f l ++ [f p] := by
  unfold once
  rw [List.foldl_append]
  rfl
theorem any_eqC {β : Type} {l : List β} {b : β} : (l.any fun c => eqC c b) = true ↔ b ∈ l := by
  rw [List.any_eq_true]
  exact ⟨fun ⟨c, h, e⟩ => by rw [← eqC_iff.1 e]; exact h, fun h => ⟨b, h, eqC_self b⟩⟩
theorem once_iff {α β : Type} (f : α → β) (l : List α) : (once f l).Nodup ∧ ∀ c, c ∈ once f l ↔ ∃ p ∈ l, f p = c := by
  have key : ∀ k, k ≤ l.length → (once f (l.take k)).Nodup ∧ ∀ c, c ∈ once f (l.take k) ↔ ∃ p ∈ l.take k, f p = c := by
    intro k
    induction k with
    | zero => intro _; simp [once]
    | succ k ih =>
      intro hk
      obtain ⟨h1, h2⟩ := ih (by omega)
      rw [List.take_succ_eq_append_getElem (by omega), once_snoc]
      rcases e : ((once f (l.take k)).any fun c => eqC c (f l[k])) with _ | _
      · have hno : f l[k] ∉ once f (l.take k) := fun h => by rw [any_eqC.2 h] at e; cases e
        rw [if_neg (by simp)]
        refine ⟨?_, fun c => ?_⟩
        · rw [List.nodup_append]
          refine ⟨h1, by simp, fun a ha b hb e => ?_⟩
          rw [List.mem_singleton] at hb
          subst hb
          subst e
          exact hno ha
        · rw [List.mem_append, h2, List.mem_singleton]
          constructor
          · rintro (⟨p, hp, e⟩ | e)
            · exact ⟨p, List.mem_append_left _ hp, e⟩
            · exact ⟨l[k], List.mem_append_right _ (List.mem_singleton.2 rfl), e.symm⟩
          · rintro ⟨p, hp, e⟩
            rw [List.mem_append, List.mem_singleton] at hp
            rcases hp with hp | rfl
            · exact .inl ⟨p, hp, e⟩
            · exact .inr e.symm
      · have hm := any_eqC.1 e
        rw [if_pos rfl]
        refine ⟨h1, fun c => ?_⟩
        rw [h2]
        constructor
        · rintro ⟨p, hp, e⟩
          exact ⟨p, List.mem_append_left _ hp, e⟩
        · rintro ⟨p, hp, e⟩
          rw [List.mem_append, List.mem_singleton] at hp
          rcases hp with hp | rfl
          · exact ⟨p, hp, e⟩
          · rw [← e]
            exact (h2 _).1 hm
  have := key l.length (Nat.le_refl _)
  rwa [List.take_length] at this
theorem copies {x : AlgebraM} (hx : SmallP x) : (ords x.1.toNat x.1.toNat []).length = (once (fun p => codeL (ren x p).2) (ords x.1.toNat x.1.toNat [])).length * ((ords x.1.toNat x.1.toNat []).filter fun p => eqC (ren x p) x).length :=
  orbit_len hx (once_iff _ _).1 (once_iff _ _).2
end Go.Proofs.Ytkmgbdljiajlaaa
namespace Go.Proofs.Ytkmgbdljiajlaaa
open Go.RowKit
set_option linter.unusedVariables false

/-! ## Sorted images -/
/-! ## Filled by the names -/
/-! ## Lists told by their numbers -/
end Go.Proofs.Ytkmgbdljiajlaaa
namespace Go.Proofs.Ytkmgbdljiajlaaa
open Go.RowKit
open Go.WideMaps (keyOf_string_mk)
open Go.Maps (Keyed string_keyed setOf setOf_snoc tidy_setOf atKey_put_same atKey_put_other)

theorem keyedS : Keyed Try.prog 9 := string_keyed Try.underlying9
def klS (s : ByteArray) : Lit := .string s.data.toList
theorem klS_inj {s t : ByteArray} (h : klS s = klS t) : s = t := by
  injection h with h
  exact bs_inj h
theorem zeroB (w : World) : (zeroValue 4).run Try.prog w = .ok (.bool false) w := by kernel_rfl
def setS (ks : List ByteArray) : DataW Unit := setOf (.lit (.bool true)) (ks.map klS)
noncomputable def hasS (s : ByteArray) (ks : List ByteArray) : Bool := ks.any fun t => eqC t s
theorem hasS_iff {s : ByteArray} {ks : List ByteArray} : hasS s ks = true ↔ s ∈ ks := by
  unfold hasS
  rw [List.any_eq_true]
  exact ⟨fun ⟨c, h, e⟩ => by rw [← eqC_iff.1 e]; exact h, fun h => ⟨s, h, eqC_self s⟩⟩
theorem hasS_snoc (s t : ByteArray) (ks : List ByteArray) : hasS s (ks ++ [t]) = (hasS s ks || eqC t s) := by simp [hasS]
theorem keyLits (ks : List ByteArray) : ∀ x ∈ ks.map klS, WideAt.IsKeyLit x := by
  intro x hx
  obtain ⟨s, -, rfl⟩ := List.mem_map.1 hx
  trivial
theorem setS_snoc (ks : List ByteArray) (s : ByteArray) : setS (ks ++ [s]) = (setS ks).put (klS s) (.lit (.bool true)) := by
  unfold setS
  rw [List.map_append, List.map_cons, List.map_nil, setOf_snoc]
theorem atKey_setS (s : ByteArray) (ks : List ByteArray) : (setS ks).atKey (klS s) (.lit (.bool false)) = .lit (.bool (hasS s ks)) := by
  have key : ∀ k, k ≤ ks.length → (setS (ks.take k)).atKey (klS s) (.lit (.bool false)) = .lit (.bool (hasS s (ks.take k))) := by
    intro k
    induction k with
    | zero => intro _; rfl
    | succ k ih =>
      intro hk
      rw [List.take_succ_eq_append_getElem (by omega), setS_snoc, hasS_snoc]
      by_cases e : s = ks[k]
      · rw [← e, atKey_put_same (D := setS (ks.take k)) (k := klS s) (tidy_setOf _ _ (keyLits _)).isMap (show WideAt.IsKeyLit (klS s) from trivial), eqC_self, Bool.or_true]
      · rw [atKey_put_other fun h => e (klS_inj h), ih (by omega), eqC_no.2 fun h => e h.symm, Bool.or_false]
  have := key ks.length (Nat.le_refl _)
  rwa [List.take_length] at this
/-- Block b is a map whose keys are the list's members, all true. -/
def MapS (w : World) (b : Nat) (ks : List ByteArray) : Prop := w.ownsMap Try.prog 9 (plainElem (H := Unit) Try.prog 4) b ks.length (setS ks)
theorem MapS.made (w : World) : MapS (w.alloc (.map #[] 0)) w.heap.size [] := World.ownsMap_made _ _ _ _
theorem MapS.lt {w : World} {b : Nat} {ks : List ByteArray} (h : MapS w b ks) : b < w.heap.size := World.ownsMap.lt h
theorem MapS.kept {w w' : World} {b : Nat} {ks : List ByteArray} (h : MapS w b ks) (hb : w'.heap[b]? = w.heap[b]?) : MapS w' b ks := by
  obtain ⟨es, clock, h1, h2⟩ := h
  exact ⟨es, clock, hb.trans h1, h2⟩
theorem MapS.next {w w' : World} {b : Nat} {ks : List ByteArray} (h : MapS w b ks) (hb : Below w.heap.size w w') : MapS w' b ks := h.kept (hb.block b h.lt)
theorem MapS.drew {w : World} {b : Nat} {ks : List ByteArray} (h : MapS w b ks) : MapS w.drew b ks := h
set_option maxRecDepth 100000 in
theorem plainBool_inv {v : Value} {x : Bool} {ps : List MemPlace} (h : plainElem (H := Unit) Try.prog 4 v = some (.lit (.bool x), ps)) : v = .bool x := by
  unfold plainElem at h
  rw [Try.underlying4] at h
  cases v <;> simp at h
  rw [h.1]
theorem MapS.look {w : World} {b : Nat} {ks : List ByteArray} (h : MapS w b ks) {s : ByteArray} (hs : s.size ≤ maxLen) : (Instr.lookup 77 (.map (some b)) (.string s) false).run Try.prog w = .ok (.bool (hasS s ks)) w := by
  obtain ⟨v, ps, hrun, hv⟩ := World.ownsMap.lookup h keyedS Try.underlying77 (zeroB w) (plainElem_bool Try.underlying4 false) (keyOf_string_mk Try.underlying9 hs)
  have e : (setS ks).atKey (.string s.data.toList) (.lit (.bool false)) = .lit (.bool (hasS s ks)) := atKey_setS s ks
  rw [e] at hv
  rw [hrun, plainBool_inv hv]
theorem MapS.put {w : World} {b : Nat} {ks : List ByteArray} (h : MapS w b ks) {s : ByteArray} (hs : s.size ≤ maxLen) (hn : ks.length < maxLen) :
    ∃ w', (Instr.mapUpdate 77 (.map (some b)) (.string s) (.bool true)).run Try.prog w = .ok () w' ∧ MapS w' b (ks ++ [s]) ∧ w.grownBy w' (some b) := by
  obtain ⟨w', hrun, h1, h2⟩ := World.ownsMap.update h keyedS Try.underlying77 hn (keyOf_string_mk Try.underlying9 hs) (plainElem_bool Try.underlying4 true)
  refine ⟨w', hrun, ?_, h2⟩
  unfold MapS
  rw [setS_snoc, List.length_append]
  exact h1
theorem MapS.len {w : World} {b : Nat} {ks : List ByteArray} (h : MapS w b ks) (ty : TypeId) : (Builtin.len_ #[77] ty #[.map (some b)]).run Try.prog w = .ok (.int .i64 (Go.Maps.size (setS ks))) w :=
  World.ownsMap.len h Try.underlying77 ty
end Go.Proofs.Ytkmgbdljiajlaaa
