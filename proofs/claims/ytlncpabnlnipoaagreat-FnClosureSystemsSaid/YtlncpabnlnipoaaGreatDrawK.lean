
/- Walks: drawn sizes and closure systems. -/
import Derived.Test.YtlncpabnlnipoaaGreatDrawX
import Derived.Test.YtlncpabnlnipoaaGreatSysG
import Derived.Test.YtlncpabnlnipoaaGreatClosure
namespace Go.Proofs.YtlncpabnlnipoaaGreat
open Go.RowKit

theorem nums11 (w : World) (g n : Nat) (hn : 0 < n ∧ n ≤ 11) (hg : g < w.heap.size) {k : Nat} (hk : k = w.heap.size) : NumsP (fun x => -1 ≤ x ∧ x ≤ 7) (w.alloc (.cells #[.int .i64 0, .int .i64 1, .int .i64 2, .int .i64 3, .int .i64 3, .int .i64 4, .int .i64 4, .int .i64 5, .int .i64 6, .int .i64 (-1), .int .i64 7] 3)) g k n := by
  subst hk
  refine ⟨by omega, by omega, by omega, fun i hi => ?_⟩
  have hc := (Blk.new w 3 #[.int .i64 0, .int .i64 1, .int .i64 2, .int .i64 3, .int .i64 3, .int .i64 4, .int .i64 4, .int .i64 5, .int .i64 6, .int .i64 (-1), .int .i64 7]).cell i
  rcases (by omega : i = 0 ∨ i = 1 ∨ i = 2 ∨ i = 3 ∨ i = 4 ∨ i = 5 ∨ i = 6 ∨ i = 7 ∨ i = 8 ∨ i = 9 ∨ i = 10) with rfl | rfl | rfl | rfl | rfl | rfl | rfl | rfl | rfl | rfl | rfl
  · exact ⟨0, ⟨by omega, by omega⟩, hc⟩
  · exact ⟨1, ⟨by omega, by omega⟩, hc⟩
  · exact ⟨2, ⟨by omega, by omega⟩, hc⟩
  · exact ⟨3, ⟨by omega, by omega⟩, hc⟩
  · exact ⟨3, ⟨by omega, by omega⟩, hc⟩
  · exact ⟨4, ⟨by omega, by omega⟩, hc⟩
  · exact ⟨4, ⟨by omega, by omega⟩, hc⟩
  · exact ⟨5, ⟨by omega, by omega⟩, hc⟩
  · exact ⟨6, ⟨by omega, by omega⟩, hc⟩
  · exact ⟨-1, ⟨by omega, by omega⟩, hc⟩
  · exact ⟨7, ⟨by omega, by omega⟩, hc⟩
theorem nums6k (w : World) (g : Nat) (hg : g < w.heap.size) {k : Nat} (hk : k = w.heap.size) : NumsP (fun x => 0 ≤ x ∧ x ≤ 7) (w.alloc (.cells #[.int .i64 0, .int .i64 1, .int .i64 2, .int .i64 3, .int .i64 3, .int .i64 7] 3)) g k 6 := by
  subst hk
  refine ⟨by omega, by omega, by omega, fun i hi => ?_⟩
  have hc := (Blk.new w 3 #[.int .i64 0, .int .i64 1, .int .i64 2, .int .i64 3, .int .i64 3, .int .i64 7]).cell i
  rcases (by omega : i = 0 ∨ i = 1 ∨ i = 2 ∨ i = 3 ∨ i = 4 ∨ i = 5) with rfl | rfl | rfl | rfl | rfl | rfl
  · exact ⟨0, ⟨by omega, by omega⟩, hc⟩
  · exact ⟨1, ⟨by omega, by omega⟩, hc⟩
  · exact ⟨2, ⟨by omega, by omega⟩, hc⟩
  · exact ⟨3, ⟨by omega, by omega⟩, hc⟩
  · exact ⟨3, ⟨by omega, by omega⟩, hc⟩
  · exact ⟨7, ⟨by omega, by omega⟩, hc⟩
theorem toGr {w w' : World} {r : Option Nat} (h : Below w.heap.size w w') : w.grownBy w' r := ⟨h.os, h.tape, h.output, h.size, fun b hb _ => h.block b hb⟩
set_option maxRecDepth 20000 in
set_option maxHeartbeats 4000000 in
theorem size30_any (B g t : Nat) (w : World) (h : CurB B w g t) (ht : t ≤ 999990000) :
    Calls Tryz.prog 24 #[.pointer (some ⟨g, 0, none⟩)] w (fun e w' => ∃ x : Int, (-1 ≤ x ∧ x ≤ 7) ∧ e = .returned (.int .i64 x) ∧ CurB B w' g (t + 4) ∧ w.grownBy w' (some g)) := by
  obtain ⟨w2, HW2⟩ : ∃ wb, Hid (wb = w.alloc (.cells #[.int .i64 0, .int .i64 1, .int .i64 2, .int .i64 3, .int .i64 3, .int .i64 4, .int .i64 4, .int .i64 5, .int .i64 6, .int .i64 (-1), .int .i64 7] 3)) := ⟨_, rfl⟩
  have hb2 : Below w.heap.size w w2 := by rw [HW2.out]; exact below_box _ _
  have hn9 : NumsP (fun x => -1 ≤ x ∧ x ≤ 7) w2 g w.heap.size 9 := by rw [HW2.out]; exact nums11 w g 9 (by omega) h.lt rfl
  have hn10 : NumsP (fun x => -1 ≤ x ∧ x ≤ 7) w2 g w.heap.size 10 := by rw [HW2.out]; exact nums11 w g 10 (by omega) h.lt rfl
  have hn11 : NumsP (fun x => -1 ≤ x ∧ x ≤ 7) w2 g w.heap.size 11 := by rw [HW2.out]; exact nums11 w g 11 (by omega) h.lt rfl
  have hg2 : w.grownBy w2 (some g) := by rw [HW2.out]; exact growB_box (grown_reflB w _) _
  have HPK := Lib.hid (pickB_any g t 24 w2 (h.next_ hb2) (by omega) (by omega))
  go_enter Tryz.func24, Tryz.ntmps24
  go_wp2_with fail
  rw [← HW2.out]
  refine HPK.out.mono ?_
  rintro e w3 ⟨x, hx, rfl, hc3, hg3⟩
  have hg13 := growB_trans hg2 hg3
  have HA9 := Lib.hid (amongB_any g (t + 2) w.heap.size 9 11 w3 hc3 (by omega) _ (hn9.grown hg3))
  have HA10 := Lib.hid (amongB_any g (t + 2) w.heap.size 10 11 w3 hc3 (by omega) _ (hn10.grown hg3))
  have HA11 := Lib.hid (amongB_any g (t + 2) w.heap.size 11 11 w3 hc3 (by omega) _ (hn11.grown hg3))
  have hx0 : (0 : Int) ≤ (x : Int) := by omega
  have hx1 : (x : Int) < 24 := by omega
  clear hx hn9 hn10 hn11 HPK
  rcases (show (x : Int) / 11 = 0 ∨ (x : Int) / 11 = 1 ∨ (x : Int) / 11 = 2 by omega) with hq | hq | hq
  · go_wp2_with fail
    refine HA9.out.mono ?_
    rintro e w4 ⟨y, hy, rfl, hc4, hg4⟩
    go_wp2_with fail
    go_ret
    exact ⟨y, hy, rfl, hc4, growB_trans hg13 hg4⟩
  · go_wp2_with fail
    refine HA10.out.mono ?_
    rintro e w4 ⟨y, hy, rfl, hc4, hg4⟩
    go_wp2_with fail
    go_ret
    exact ⟨y, hy, rfl, hc4, growB_trans hg13 hg4⟩
  · go_wp2_with fail
    refine HA11.out.mono ?_
    rintro e w4 ⟨y, hy, rfl, hc4, hg4⟩
    go_wp2_with fail
    go_ret
    exact ⟨y, hy, rfl, hc4, growB_trans hg13 hg4⟩
/-! ## Gathered sets -/
section
variable {lo g n : Nat} {w w1 : World} {v : Value} {F : List (List Int)}
theorem OwM.grownI (h : OwM 25 3 (.int .i64) lo w v n F) (hg : w.grownBy w1 (some g)) (hl : g < lo) : OwM 25 3 (.int .i64) lo w1 v n F := by
  obtain ⟨vs, h1, h2, h3, h4⟩ := h
  exact ⟨vs, own_grownG h1 hg hl, h2, fun k u xs hu hx => own_grownG (h3 k u xs hu hx) hg hl, h4⟩
theorem mat_litI {w : World} : OwM 25 3 (.int .i64) w.heap.size (w.alloc (.cells #[] 25)) (.slice (some ⟨w.heap.size, 0, none⟩) 0 0) 0 [] :=
  ⟨[], World.ownsRow_lit _ _ _ (Nat.le_refl _) (Nat.zero_le _) rfl, rfl, fun k u xs hu => by simp at hu, by simp⟩
theorem OwM.toRG (h : OwM 25 3 (.int .i64) lo w v n F) (hg : g < lo) (hF : ∀ p ∈ F, ∀ x ∈ p, -2000 ≤ x ∧ x ≤ 2000) : ∃ A c, v = .slice A n c ∧ n ≤ c ∧ Off g A ∧ RdL (RG g) w A n F := by
  obtain ⟨vs, h1, h2, h3, -⟩ := h
  have hl : vs.length = n := by have := h1.1; simpa using this
  obtain ⟨A, c, e, hr⟩ := RdL.ofOwn (R := RG g) (xs := F) (own_len_leB h1) h1 (by omega) fun k x hk => by
    have hkl := (List.getElem?_eq_some_iff.1 hk).1
    have hu : vs[k]? = some (vs[k]'(by omega)) := List.getElem?_eq_getElem (by omega)
    refine ⟨_, hu, ?_⟩
    have ho := h3 k _ x hu hk
    generalize vs[k]'(by omega) = u at ho
    obtain ⟨B, c, e⟩ := own_slice ho
    rw [e] at ho ⊢
    exact ⟨B, x.length, c, rfl, rd_of_own (R := RI) ho (RI_ints fun y hy => by have := hF x (List.mem_of_getElem? hk) y hy; omega), own_off ho hg⟩
  subst e
  exact ⟨A, c, rfl, sort_cap h1, own_off h1 hg, hr⟩
theorem RdL.grownG {w' : World} {A : Option Addr} (h : RdL (RG g) w A n F) (hA : Off g A) (hg : w.grownBy w' (some g)) : RdL (RG g) w' A n F :=
  rdl_grown h hA (fun _ _ ⟨A', n', c', e, hr, ho⟩ => ⟨A', n', c', e, rdl_grown hr ho (fun _ _ h => h) hg, ho⟩) hg
theorem rg_far {w' : World} {b : Nat} {vs : List Value} (hF : Far b vs) (hg : w.grownBy w' (some b)) : ∀ v ∈ vs, ∀ x, RG g w v x → RG g w' v x := fun v hv x ⟨A, n, c, e, hr, ho⟩ => by
  refine ⟨A, n, c, e, ?_, ho⟩
  by_cases h0 : 0 < n
  · exact rdl_grown hr (hF v hv A n c e h0) (fun _ _ h => h) hg
  · obtain rfl : n = 0 := by omega
    have : x = [] := List.eq_nil_of_length_eq_zero hr.len
    subst this
    exact RdL.nil _ _ _
/-- One more behind a row of the call's own that reads. -/
theorem rd_snoc {w' : World} {e : TypeId} {A A' : Option Addr} {c c' : Nat} {vs : List Value} {u : Value} {p : List Int} (h : RdL (RG g) w A n F) (ho : w.ownsRow lo e 1 (.slice A n c) n vs) (ho' : w'.ownsRow lo e 1 (.slice A' (n + 1) c') (n + 1) (vs ++ [u]))
    (hk : ∀ v ∈ vs, ∀ x, RG g w v x → RG g w' v x) (hu : RG g w' u p) : RdL (RG g) w' A' (n + 1) (F ++ [p]) := by
  have hl : vs.length = n := by have := ho.1; simpa using this
  obtain ⟨A2, c2, e2, hr⟩ := RdL.ofOwn (R := RG g) (xs := F ++ [p]) (own_len_leB ho') ho' (by simp [h.len]) fun k x hx => by
    rcases Nat.lt_or_ge k n with hkn | hkn
    · rw [List.getElem?_append_left (by rw [h.len]; exact hkn)] at hx
      obtain ⟨b, o, v, eA, hc, hr⟩ := h.2.2 k x hx
      refine ⟨vs[k]'(by omega), by rw [List.getElem?_append_left (by omega)]; exact List.getElem?_eq_getElem (by omega), hk _ (List.getElem_mem _) _ ?_⟩
      subst eA
      rcases ho.2 with ⟨e', h0⟩ | ⟨g', cap, cur, e', -⟩
      · omega
      · injection e' with e1 _ _
        simp only [Option.some.injEq, Addr.mk.injEq, and_true] at e1
        obtain ⟨rfl, rfl⟩ := e1
        have h1 := ho.cellAt k (by omega)
        rw [Nat.zero_add, h1, List.getElem?_eq_getElem (by omega)] at hc
        injection hc with hc
        rw [hc]
        exact hr
    · have hkl := (List.getElem?_eq_some_iff.1 hx).1
      rw [List.length_append, h.len, List.length_singleton] at hkl
      obtain rfl : k = n := by omega
      rw [List.getElem?_append_right (by rw [h.len]; exact Nat.le_refl _), h.len, Nat.sub_self] at hx
      injection hx with hx
      subst hx
      exact ⟨u, by rw [List.getElem?_append_right (by omega), hl, Nat.sub_self]; rfl, hu⟩
  injection e2 with e1 _ _
  subst e1
  exact hr
end
/-- What a drawn system is. -/
def SysD (B : Nat) (w : World) (g t : Nat) (e : Ending) (w' : World) : Prop := ∃ A m c S, e = .returned (.slice A m c) ∧ m ≤ c ∧ Off g A ∧ RdL (RG g) w' A m S ∧ (∀ s ∈ S, s.length ≤ 8) ∧ CurB B w' g t ∧ w.grownBy w' (some g)
theorem sysrow {n : Nat} (hn : n ≤ 6) {xss : List (List Int)} {s : List Int} (hs : s ∈ systemL n xss) : s.length ≤ 8 := by
  have := (set_sub ((systemL_inv n xss).2 s hs)).length_le
  rw [upTo_len] at this
  omega
set_option maxRecDepth 20000 in
set_option maxHeartbeats 8000000 in
theorem system30_any (B g t : Nat) (n : Int) (w : World) (h : CurB B w g t) (hB : B ≤ w.heap.size) (ht : t ≤ 999980000) (hn : -1 ≤ n ∧ n ≤ 7) :
    Calls Tryz.prog 25 #[.pointer (some ⟨g, 0, none⟩), .int .i64 n] w (SysD B w g (t + 300)) := by
  have hgl := h.lt
  obtain ⟨w1, HW1⟩ : ∃ wb, Hid (wb = w.alloc (.cells #[] 25)) := ⟨_, rfl⟩
  have hM1 : OwM 25 3 (.int .i64) w.heap.size w1 (.slice (some ⟨w.heap.size, 0, none⟩) 0 0) 0 [] := by rw [HW1.out]; exact mat_litI
  have hb1 : Below w.heap.size w w1 := by rw [HW1.out]; exact below_box _ _
  have hc1 := h.next_ hb1
  have hg1 : w.grownBy w1 (some g) := toGr hb1
  obtain ⟨w2, HW2⟩ : ∃ wb, Hid (wb = w1.alloc (.cells #[.int .i64 0, .int .i64 1, .int .i64 2, .int .i64 3, .int .i64 3, .int .i64 7] 3)) := ⟨_, rfl⟩
  have hb2 : Below w1.heap.size w1 w2 := by rw [HW2.out]; exact below_box _ _
  have hn6 : NumsP (fun x => 0 ≤ x ∧ x ≤ 7) w2 g (w.heap.size + 1) 6 := by rw [HW2.out]; exact nums6k w1 g hc1.lt (by rw [HW1.out]; simp)
  have hM2 := hM1.grownI (toGr (r := some g) hb2) hgl
  have hg2 := growB_trans hg1 (toGr (r := some g) hb2)
  have HA := Lib.hid (amongB_any g t (w.heap.size + 1) 6 6 w2 (hc1.next_ hb2) (by omega) _ hn6)
  clear hM1 hg1 hc1 hb1 hb2 hn6
  go_enter Tryz.func25, Tryz.ntmps25
  go_wp2_with fail
  rw [← HW1.out, ← HW2.out]
  refine HA.out.mono ?_
  rintro e w3 ⟨x, hx, rfl, hc3, hg3⟩
  have hM3 := hM2.grownI hg3 hgl
  have hg03 := growB_trans hg2 hg3
  obtain ⟨rn, rfl⟩ := Int.eq_ofNat_of_zero_le hx.1
  have hrn : rn ≤ 7 := by omega
  clear hM2 hg2 hx hg3 HA
  go_wp2_with fail
  go_loopw [5, 6] (fun v i wr => ∃ (j k : Nat) (F : List (List Int)) (A : Option Addr) (c : Nat), j + k = rn ∧ i = .int .i64 j ∧ v = .slice A k c ∧ (F.length = k ∧ (∀ row ∈ F, row.length ≤ 8) ∧ ∀ row ∈ F, ∀ y ∈ row, -2000 ≤ y ∧ y ≤ 2000) ∧ OwM 25 3 (.int .i64) w.heap.size wr (.slice A k c) k F ∧ CurB B wr g (t + 2 + 20 * k) ∧ w.grownBy wr (some g)) (fun _ i _ => (intOf i).toNat)
  case atStart => exact ⟨rn, 0, [], _, 0, by omega, rfl, rfl, ⟨rfl, fun row hr => by simp at hr, fun row hr => by simp at hr⟩, hM3, hc3.mono (by omega), hg03⟩
  case round =>
    clear hM3 hc3 hg03
    obtain ⟨j, k, F, A, c, hjk, rfl, rfl, ⟨hFl, hF8, hFb⟩, hM, hc, hg⟩ := hrel
    have HFL := Lib.hid hFl
    have HF8 := Lib.hid hF8
    have HFB := Lib.hid hFb
    clear hFl hF8 hFb
    have hzo := hg.size
    by_cases hj : 0 < j
    · have hj1 : (0 : Int) < (j : Int) := by omega
      go_wp2_with fail
      refine (set30_any B g (t + 2 + 20 * k) n wr hc (by omega) (by omega) (by omega)).mono ?_
      rintro e w4 ⟨A4, m4, c4, S, rfl, hown4, hS, hm8, hc4, hg4⟩
      have hsl : S.length = m4 := by have := hown4.1; simpa [ints] using this
      have HSL := Lib.hid hsl
      have HS := Lib.hid hS
      clear hS
      obtain ⟨vs, hvs, HPU⟩ := hM.pushG (by decide) hg4 hgl hzo (xs := S) (by rw [hsl]; exact hown4)
      have hgr := growB_trans hg hg4
      have hz := hgr.size
      clear hsl
      go_wp2_with (at_builtin; refine app1 w4 rfl _ _ 24 25 rfl (.slice none 0 0) 24 Tryz.underlying24 info_ints rfl (by decide) w.heap.size k c A vs rfl hvs (.slice A4 m4 c4) rfl rfl (by omega) hz ?_; intro A5 c5 w5 hown5 hg5 hb5)
      have HF5 := Lib.hid (HPU hown5 hg5)
      have hc5 := (hc4.grown hg5 fun r hr => by have := (hvs.lt r hr).1; omega).mono (t' := t + 2 + 20 * (k + 1)) (by omega)
      have hg5' := growB_own hgr hg5 fun r hr => (hvs.lt r hr).1
      clear HPU hown5 hg5 hvs hown4
      go_roundw
      case rel => exact ⟨j - 1, k + 1, _, A5, c5, by omega, by rw [show ((j : Int) - 1) = ((j - 1 : Nat) : Int) by omega], rfl, ⟨by rw [List.length_append, HFL.out]; rfl, fun row hr => by
        rcases List.mem_append.1 hr with hr | hr
        · exact HF8.out row hr
        · rw [List.mem_singleton.1 hr, HSL.out]; exact hm8, fun row hr => by
        rcases List.mem_append.1 hr with hr | hr
        · exact HFB.out row hr
        · rw [List.mem_singleton.1 hr]; exact HS.out⟩, HF5.out, hc5, hg5'⟩
      case measure => simp [intOf]; omega
    · obtain rfl : j = 0 := by omega
      obtain rfl : k = rn := by omega
      have hj1 : ¬ (0 : Int) < ((0 : Nat) : Int) := by omega
      obtain ⟨A', c', e', hkc, hoff, hr⟩ := hM.toRG hgl HFB.out
      injection e' with e1 _ e3
      subst e1
      subst e3
      have HOFF := Lib.hid hoff
      have hRV := hr.toRV
      clear hoff
      obtain ⟨wo, HWO⟩ : ∃ wo : World, wo = wr := ⟨_, rfl⟩
      subst HWO
      go_wp2_with (go_at_call 36; refine (l30Size_any _ _).mono ?_; rintro e w' ⟨rfl, rfl⟩)
      go_loopw [7, 8] (fun v i wr => ∃ (q : Nat) (b : Bool), q ≤ k ∧ i = .int .i64 q ∧ v = .bool b ∧ Hid (b = true → inB n 0 6 = true) ∧ Drawn wo wr) (fun _ i _ => k - (intOf i).toNat)
      case atStart => exact ⟨0, _, Nat.zero_le _, rfl, rfl, fun h => h, Drawn.zero _⟩
      case round =>
        obtain ⟨q, b, hq, rfl, rfl, HBN, z, rfl⟩ := hrel
        by_cases hlt : q < k
        · have hq1 : (q : Int) < (k : Int) := by omega
          have hq0 : (0 : Int) ≤ (q : Int) := by omega
          rcases b with _ | _
          · go_wp2_with fail
            go_roundw
            case rel => exact ⟨q + 1, false, by omega, by go_num, rfl, HBN, (by first | exact Drawn.zero _ | exact Drawn.at_ _ _ | exact (Drawn.at_ _ _).more _ | exact ((Drawn.at_ _ _).more _).more _)⟩
            case measure => simp [intOf]; omega
          · obtain ⟨b', o', v', s, rfl, hcs, ⟨B', j', d', rfl, hs⟩, -, -⟩ := hRV.at hlt
            go_wp2_with (go_at_call 31; refine (l30Set_any _ _ _ _ _ _ (hs.drewN stab_RI _) (by omega) (by omega)).mono ?_; rintro e w' ⟨rfl, z', rfl⟩)
            all_goals
              go_roundw
              case rel => exact ⟨q + 1, _, by omega, by go_num, rfl, fun _ => HBN.out (by first | rfl | trivial), (by first | exact Drawn.zero _ | exact Drawn.at_ _ _ | exact (Drawn.at_ _ _).more _ | exact ((Drawn.at_ _ _).more _).more _)⟩
              case measure => simp [intOf]; omega
        · obtain rfl : q = k := by omega
          have hq1 : ¬ (q : Int) < (q : Int) := by omega
          obtain ⟨w5, HW5⟩ : ∃ w5, w5 = wo.drewN z := ⟨_, rfl⟩
          have hT5 : Below wo.heap.size wo w5 := by rw [HW5]; exact below_drewN (Below.refl _ _) z
          have hr5 := hr.next stab_RG hT5
          have hc5 := hc.next_ hT5
          have hg5 := growB_trans hg (toGr (r := some g) hT5)
          have hz5 := hg5.size
          rw [← HW5]
          clear HW5 hr hc hg hRV hT5 hM
          rcases b with _ | _
          · go_wp2_with fail
            go_ret
            exact ⟨A, q, c, F, rfl, hkc, HOFF.out, hr5, HF8.out, hc5.mono (by omega), hg5⟩
          · have hN : 0 ≤ n ∧ n ≤ 6 := by have := HBN.out (by first | rfl | trivial); unfold inB at this; simp at this; omega
            obtain ⟨N, rfl⟩ := Int.eq_ofNat_of_zero_le hN.1
            have hN6 : N ≤ 6 := by omega
            go_wp2_with fail
            refine (oneB_any g (t + 2 + 20 * q) 16 w5 hc5 (by omega) (by omega)).mono ?_
            rintro e w6 ⟨bb, rfl, hc6, hg6⟩
            have hr6 := hr5.grownG HOFF.out hg6
            have hg06 := growB_trans hg5 hg6
            have hz6 := hg06.size
            clear hr5 hc5 hg5 hg6
            rcases bb with _ | _
            · have HSY := Lib.hid (l30System_off g A N q c F w6 hr6.toRV (by omega) hN6)
              clear hr6
              go_wp2_with fail
              refine HSY.out.mono ?_
              rintro e w7 ⟨v, rfl, ⟨b0, o0, m7, c7, rfl, hmc, hbg, ⟨vs7, hvs7, hfar7⟩, hr7⟩, hb7⟩
              have hoff7 : Off g (some ⟨b0, o0, none⟩) := fun b o e => by simp only [Option.some.injEq, Addr.mk.injEq, and_true] at e; omega
              have HOF7 := Lib.hid hoff7
              have hc7 := hc6.next_ hb7
              have hg07 := growB_trans hg06 (toGr (r := some g) hb7)
              have HPK := Lib.hid (pickB_any g (t + 2 + 20 * q + 2) 16 w7 hc7 (by omega) (by omega))
              have hle7 := hr7.le
              have hm7 : 0 < m7 := by rw [← hr7.len]; exact List.length_pos_of_mem (systemL_top N F)
              have hm71 : 1 ≤ m7 := hm7
              have hml : m7 ≤ 64 := by rw [← hr7.len]; exact inv_len (systemL_inv N F) hN6
              have HROW : Hid (∀ s ∈ systemL N F, s.length ≤ 8) := fun s hs => sysrow hN6 hs
              clear hoff7 HSY
              go_wp2_with fail
              refine HPK.out.mono ?_
              rintro e w8 ⟨x, hx, rfl, hc8, hg8⟩
              have hr8 := hr7.grownG HOF7.out hg8
              have hvs8 := own_grownG hvs7 hg8 (by omega)
              have hg08 := growB_trans hg07 hg8
              have hz8 := hg08.size
              clear hr7 hvs7 hg07 hc7 hg06 HPK
              have hx0 : (0 : Int) ≤ (x : Int) := by omega
              have hm7i : (1 : Int) ≤ (m7 : Int) := by omega
              have hmci : (m7 : Int) ≤ (c7 : Int) := by omega
              rcases (by omega : (x : Int) = 0 ∨ (x : Int) = 1 ∨ (x : Int) = 2 ∨ 2 < (x : Int)) with hq | hq | hq | hq
              · have hq0 : ((x : Int) == 0) = true := by simp; omega
                have hq1 : ((x : Int) == 1) = false := by simp; omega
                have hq2 : ((x : Int) == 2) = false := by simp; omega
                by_cases hc71 : c7 = 1
                · obtain rfl : c7 = 1 := hc71
                  obtain rfl : m7 = 1 := by omega
                  have HD : Hid ((systemL N F).drop 1 = []) := List.drop_eq_nil_of_le (by rw [hr8.len]; exact Nat.le_refl _)
                  go_wp2_with fail
                  go_ret
                  exact ⟨some ⟨b0, o0, none⟩, 0, 0, [], rfl, Nat.le_refl _, HOF7.out, RdL.nil _ _ _, fun s hs => by simp at hs, hc8.mono (by omega), hg08⟩
                · have hc72 : (c7 : Int) - 1 ≠ 0 := by omega
                  have hc73 : c7 - 1 ≠ 0 := by omega
                  go_wp2_with fail
                  go_ret
                  exact ⟨some ⟨b0, o0 + 1, none⟩, m7 - 1, c7 - 1, (systemL N F).drop 1, rfl, by omega, fun b o e => by simp only [Option.some.injEq, Addr.mk.injEq, and_true] at e; omega, hr8.drop 1, fun s hs => HROW.out s (List.mem_of_mem_drop hs), hc8.mono (by omega), hg08⟩
              · have hq0 : ((x : Int) == 0) = false := by simp; omega
                have hq1 : ((x : Int) == 1) = true := by simp; omega
                have hq2 : ((x : Int) == 2) = false := by simp; omega
                obtain ⟨v, s0, hcs0, ⟨B', j', d', rfl, hs0, hoffs⟩, -, hx0⟩ := hr8.at' hm7
                have hm0 := List.mem_of_getElem? hx0
                have HM0 := Lib.hid hm0
                have hcs1 : w8.cell? ⟨b0, o0, none⟩ = some (.slice B' j' d') := by simpa using hcs0
                have hj8 : j' ≤ 8 := by rw [← hs0.len]; exact HROW.out s0 hm0
                have HOWN := Lib.hid (l1Own_any B' j' d' s0 w8 hs0 (by omega))
                clear hcs0 hoffs hx0 hm0
                go_wp2_with fail
                refine HOWN.out.mono ?_
                rintro e w9 ⟨A9, c9, rfl, hown9, hb9⟩
                have hr9 := hr8.next stab_RG hb9
                have hvs9 := own_next hvs8 hb9
                have hc9 := hc8.next_ hb9
                have hg09 := growB_trans hg08 (toGr (r := some g) hb9)
                have hz9 := hg09.size
                have hz69 : w6.heap.size ≤ w9.heap.size := Nat.le_trans hb7.size (Nat.le_trans hg8.size hb9.size)
                have HG8 := Lib.hid (show g < w8.heap.size from hc8.lt)
                have HFAR := Lib.hid hfar7
                clear hr8 hvs8 hc8 hg08 hs0 hcs1 HOWN hfar7
                go_wp2_with (at_builtin; refine app1 w9 rfl _ _ 24 25 rfl (.slice none 0 0) 24 Tryz.underlying24 info_ints rfl (by decide) w6.heap.size m7 c7 (some ⟨b0, o0, none⟩) vs7 rfl hvs9 (.slice A9 j' c9) rfl rfl (by omega) hz69 ?_; intro A5 c5 w10 hown10 hg10 hb10)
                have hg10' : w9.grownBy w10 (some b0) := hg10
                have hsl := HROW.out s0 HM0.out
                have hset := (systemL_inv N F).2 s0 HM0.out
                have hown9' := own_same hown9 fun b hb => hg10'.block b (hown9.lt b hb).2 (fun e => own_ne hown9 hvs9 (by decide) hb (by injection e with e; rw [e]; rfl))
                have hu : RG g w10 (.slice A9 j' c9) s0 := ⟨A9, j', c9, rfl, rd_of_own (R := RI) hown9' (RI_ints fun y hy => by have := hset.2 y hy; omega), own_off hown9' HG8.out⟩
                have hr10 := rd_snoc hr9 hvs9 hown10 (rg_far HFAR.out hg10') hu
                have HF := Lib.hid (And.intro hr10 (And.intro (sort_cap hown10) (And.intro (own_off (q := g) hown10 (by have := hc6.lt; omega)) (And.intro (hc9.grown hg10 fun r hr => by have := (hvs9.lt r hr).1; omega) (growB_own hg09 hg10 fun r hr => by have := (hvs9.lt r hr).1; omega)))))
                clear hr9 hvs9 hown9 hown9' hu hr10 hown10 hg10 hg10' hb10 hset
                go_ret
                exact ⟨A5, m7 + 1, c5, _, rfl, HF.out.2.1, HF.out.2.2.1, HF.out.1, fun s hs => by
                  rcases List.mem_append.1 hs with hs | hs
                  · exact HROW.out s hs
                  · rw [List.mem_singleton.1 hs]; exact HROW.out s0 HM0.out, HF.out.2.2.2.1.mono (by omega), HF.out.2.2.2.2⟩
              · have hq0 : ((x : Int) == 0) = false := by simp; omega
                have hq1 : ((x : Int) == 1) = false := by simp; omega
                have hq2 : ((x : Int) == 2) = true := by simp; omega
                go_wp2_with fail
                go_ret
                exact ⟨some ⟨b0, o0, none⟩, m7 - 1, c7, (systemL N F).take (m7 - 1), rfl, by omega, HOF7.out, hr8.take (k := m7 - 1) (by omega), fun s hs => HROW.out s (List.mem_of_mem_take hs), hc8.mono (by omega), hg08⟩
              · have hq0 : ((x : Int) == 0) = false := by simp; omega
                have hq1 : ((x : Int) == 1) = false := by simp; omega
                have hq2 : ((x : Int) == 2) = false := by simp; omega
                go_wp2_with fail
                go_ret
                exact ⟨_, m7, c7, _, rfl, hmc, HOF7.out, hr8, HROW.out, hc8.mono (by omega), hg08⟩
            · go_wp2_with fail
              go_ret
              exact ⟨A, q, c, F, rfl, hkc, HOFF.out, hr6, HF8.out, hc6.mono (by omega), hg06⟩
end Go.Proofs.YtlncpabnlnipoaaGreat
namespace Go.Proofs.YtlncpabnlnipoaaGreat
open Go.RowKit

def CloD (w : World) (e : Ending) (w' : World) : Prop := ∃ (N : Int) (A : Option Addr) (m c : Nat) (S : List (List Int)) (B : Option Addr) (j d : Nat) (T : List Int), e = .returned (.tuple #[.int .i64 N, .slice A m c, .slice B j d]) ∧ RdL (RV RI) w' A m S ∧ m ≤ c ∧ (∀ s ∈ S, s.length ≤ 8) ∧ RdL RI w' B j T ∧ j ≤ d ∧ j ≤ 8 ∧ Below w.heap.size w w'
def SfD (w : World) (e : Ending) (w' : World) : Prop := ∃ (N : Int) (A : Option Addr) (m c : Nat) (S : List (List Int)), e = .returned (.tuple #[.int .i64 N, .slice A m c]) ∧ RdL (RV RI) w' A m S ∧ Below w.heap.size w w'
theorem code_below {w w1 : World} {c3 : Array Value} (hg : (w.alloc (.cells c3 47)).grownBy w1 (some w.heap.size)) : Below w.heap.size w w1 :=
  (below_box w _).grown hg (by simp) fun r hr => by injection hr with hr; omega
set_option maxRecDepth 20000 in
set_option maxHeartbeats 2000000 in
theorem drawCO_any (A : Option Addr) (n c : Nat) (w : World) (h : CodeB w A n) : Calls Tryz.prog 5 #[.slice A n c] w (CloD w) := by
  obtain ⟨w0, HW0⟩ : ∃ wb, Hid (wb = w.alloc (.cells #[.slice A n c, .int .i64 0, .int .u64 0] 47)) := ⟨_, rfl⟩
  have hc0 : CurB w.heap.size w0 w.heap.size 0 := by rw [HW0.out]; exact CurB.made h rfl
  have hz0 : w.heap.size ≤ w0.heap.size := by rw [HW0.out]; simp
  have HSZ := Lib.hid (size30_any w.heap.size w.heap.size 0 w0 hc0 (by omega))
  go_enter Tryz.func5, Tryz.ntmps5
  go_wp2_with fail
  rw [← HW0.out]
  refine HSZ.out.mono ?_
  rintro e w1 ⟨N, hN, rfl, hc1, hg1⟩
  have hz1 := hg1.size
  have HSY := Lib.hid (system30_any w.heap.size w.heap.size (0 + 4) N w1 hc1 (by omega) (by omega) hN)
  clear HSZ
  go_wp2_with fail
  refine HSY.out.mono ?_
  rintro e w2 ⟨A1, m1, c1, S, rfl, hmc, hoff, hS, hrow, hc2, hg2⟩
  have hz2 := hg2.size
  have HROW := Lib.hid hrow
  have HOFF := Lib.hid hoff
  have HST := Lib.hid (set30_any w.heap.size w.heap.size (0 + 4 + 300) N w2 hc2 (by omega) (by omega) (by omega))
  clear HSY hrow hoff
  go_wp2_with fail
  refine HST.out.mono ?_
  rintro e w3 ⟨A2, m2, c2, T, rfl, hown, hT, hm8, hc3, hg3⟩
  have hgg := growB_trans (growB_trans hg1 hg2) hg3
  rw [HW0.out] at hgg
  have HE := Lib.hid (And.intro (hS.grownG HOFF.out hg3).toRV (And.intro (rd_of_own (R := RI) hown (RI_ints fun x hx => by have := hT x hx; omega)) (And.intro (sort_cap hown) (code_below hgg))))
  clear hS hown hT hgg HST
  go_wp2_with fail
  go_ret3
  exact ⟨N, A1, m1, c1, S, A2, m2, c2, T, rfl, HE.out.1, hmc, HROW.out, HE.out.2.1, HE.out.2.2.1, hm8, HE.out.2.2.2⟩
theorem nums7k (w : World) (g n : Nat) (hn : 0 < n ∧ n ≤ 7) (hg : g < w.heap.size) {k : Nat} (hk : k = w.heap.size) : NumsP (fun x => 0 ≤ x ∧ x ≤ 21) (w.alloc (.cells #[.int .i64 0, .int .i64 1, .int .i64 2, .int .i64 3, .int .i64 4, .int .i64 20, .int .i64 21] 3)) g k n := by
  subst hk
  refine ⟨by omega, by omega, by omega, fun i hi => ?_⟩
  have hc := (Blk.new w 3 #[.int .i64 0, .int .i64 1, .int .i64 2, .int .i64 3, .int .i64 4, .int .i64 20, .int .i64 21]).cell i
  rcases (by omega : i = 0 ∨ i = 1 ∨ i = 2 ∨ i = 3 ∨ i = 4 ∨ i = 5 ∨ i = 6) with rfl | rfl | rfl | rfl | rfl | rfl | rfl
  · exact ⟨0, ⟨by omega, by omega⟩, hc⟩
  · exact ⟨1, ⟨by omega, by omega⟩, hc⟩
  · exact ⟨2, ⟨by omega, by omega⟩, hc⟩
  · exact ⟨3, ⟨by omega, by omega⟩, hc⟩
  · exact ⟨4, ⟨by omega, by omega⟩, hc⟩
  · exact ⟨20, ⟨by omega, by omega⟩, hc⟩
  · exact ⟨21, ⟨by omega, by omega⟩, hc⟩
set_option maxRecDepth 20000 in
set_option maxHeartbeats 4000000 in
theorem drawSF_any (A : Option Addr) (n c : Nat) (w : World) (h : CodeB w A n) : Calls Tryz.prog 21 #[.slice A n c] w (SfD w) := by
  obtain ⟨w0, HW0⟩ : ∃ wb, Hid (wb = w.alloc (.cells #[.slice A n c, .int .i64 0, .int .u64 0] 47)) := ⟨_, rfl⟩
  have hc0 : CurB w.heap.size w0 w.heap.size 0 := by rw [HW0.out]; exact CurB.made h rfl
  have hz0 : w.heap.size < w0.heap.size := by rw [HW0.out]; simp
  have HSZ := Lib.hid (size30_any w.heap.size w.heap.size 0 w0 hc0 (by omega))
  go_enter Tryz.func21, Tryz.ntmps21
  go_wp2_with fail
  rw [← HW0.out]
  refine HSZ.out.mono ?_
  rintro e w1 ⟨N, hN, rfl, hc1, hg1⟩
  have hz1 := hg1.size
  have hgl := hc1.lt
  clear HSZ hc0
  obtain ⟨w2, HW2⟩ : ∃ wb, Hid (wb = w1.alloc (.cells #[] 25)) := ⟨_, rfl⟩
  have hM2 : OwM 25 3 (.int .i64) w1.heap.size w2 (.slice (some ⟨w1.heap.size, 0, none⟩) 0 0) 0 [] := by rw [HW2.out]; exact mat_litI
  have hb2 : Below w1.heap.size w1 w2 := by rw [HW2.out]; exact below_box _ _
  have hc2 := hc1.next_ hb2
  have hg2 : w1.grownBy w2 (some w.heap.size) := toGr hb2
  go_upto_region 4 with fail
  rw [← HW2.out]
  go_cut [7] (fun u4 wx => ∃ x : Int, u4 = .int .i64 x ∧ 0 ≤ x ∧ x ≤ 21 ∧ CurB w.heap.size wx w.heap.size 8 ∧ w2.grownBy wx (some w.heap.size))
  case first =>
    obtain ⟨w3, HW3⟩ : ∃ wb, Hid (wb = w2.alloc (.cells #[.int .i64 0, .int .i64 1, .int .i64 2, .int .i64 3, .int .i64 4, .int .i64 20, .int .i64 21] 3)) := ⟨_, rfl⟩
    have hb3 : Below w2.heap.size w2 w3 := by rw [HW3.out]; exact below_box _ _
    have hn5 : NumsP (fun x => 0 ≤ x ∧ x ≤ 21) w3 w.heap.size w2.heap.size 5 := by rw [HW3.out]; exact nums7k w2 _ 5 (by omega) hc2.lt rfl
    have hn6 : NumsP (fun x => 0 ≤ x ∧ x ≤ 21) w3 w.heap.size w2.heap.size 6 := by rw [HW3.out]; exact nums7k w2 _ 6 (by omega) hc2.lt rfl
    have hn7 : NumsP (fun x => 0 ≤ x ∧ x ≤ 21) w3 w.heap.size w2.heap.size 7 := by rw [HW3.out]; exact nums7k w2 _ 7 (by omega) hc2.lt rfl
    have hg3 : w2.grownBy w3 (some w.heap.size) := toGr hb3
    have HPK := Lib.hid (pickB_any w.heap.size (0 + 4) 24 w3 (hc2.next_ hb3) (by omega) (by omega))
    go_wp2_with fail
    rw [← HW3.out]
    refine HPK.out.mono ?_
    rintro e w4 ⟨x, hx, rfl, hc4, hg4⟩
    have hg24 := growB_trans hg3 hg4
    have HA5 := Lib.hid (amongB_any w.heap.size (0 + 4 + 2) w2.heap.size 5 7 w4 hc4 (by omega) _ (hn5.grown hg4))
    have HA6 := Lib.hid (amongB_any w.heap.size (0 + 4 + 2) w2.heap.size 6 7 w4 hc4 (by omega) _ (hn6.grown hg4))
    have HA7 := Lib.hid (amongB_any w.heap.size (0 + 4 + 2) w2.heap.size 7 7 w4 hc4 (by omega) _ (hn7.grown hg4))
    have hx0 : (0 : Int) ≤ (x : Int) := by omega
    have hx1 : (x : Int) < 24 := by omega
    clear hx hn5 hn6 hn7 HPK
    rcases (show (x : Int) / 11 = 0 ∨ (x : Int) / 11 = 1 ∨ (x : Int) / 11 = 2 by omega) with hq | hq | hq
    · go_wp2_with fail
      refine HA5.out.mono ?_
      rintro e w5 ⟨y, hy, rfl, hc5, hg5⟩
      go_wp2_with fail
      go_meet
      exact ⟨y, rfl, hy.1, hy.2, hc5, growB_trans hg24 hg5⟩
    · go_wp2_with fail
      refine HA6.out.mono ?_
      rintro e w5 ⟨y, hy, rfl, hc5, hg5⟩
      go_wp2_with fail
      go_meet
      exact ⟨y, rfl, hy.1, hy.2, hc5, growB_trans hg24 hg5⟩
    · go_wp2_with fail
      refine HA7.out.mono ?_
      rintro e w5 ⟨y, hy, rfl, hc5, hg5⟩
      go_wp2_with fail
      go_meet
      exact ⟨y, rfl, hy.1, hy.2, hc5, growB_trans hg24 hg5⟩
  case rest =>
    obtain ⟨rn, rfl, hrn0, hrn7, hc5, hg5⟩ := hcut
    obtain ⟨w5, HWC⟩ : ∃ wq : World, wq = wc := ⟨_, rfl⟩
    subst HWC
    have hM5 := hM2.grownI hg5 hgl
    have hg05 := growB_trans hg2 hg5
    obtain ⟨rn, rfl⟩ := Int.eq_ofNat_of_zero_le hrn0
    have hrn : rn ≤ 21 := by omega
    clear hM2 hg5 hg2 hc2 hb2 hrn0 hrn7 hc1
    go_wp2_with fail
    go_loopw [6, 7] (fun v i wr => ∃ (j k : Nat) (F : List (List Int)) (A : Option Addr) (c : Nat), j + k = rn ∧ i = .int .i64 j ∧ v = .slice A k c ∧ (F.length = k ∧ ∀ row ∈ F, ∀ y ∈ row, -2000 ≤ y ∧ y ≤ 2000) ∧ OwM 25 3 (.int .i64) w1.heap.size wr (.slice A k c) k F ∧ CurB w.heap.size wr w.heap.size (8 + 20 * k) ∧ w1.grownBy wr (some w.heap.size)) (fun _ i _ => (intOf i).toNat)
    case atStart => exact ⟨rn, 0, [], _, 0, by omega, rfl, rfl, ⟨rfl, fun row hr => by simp at hr⟩, hM5, hc5, hg05⟩
    case round =>
      clear hM5 hc5 hg05
      obtain ⟨j, k, F, A, c, hjk, rfl, rfl, ⟨hFl, hFb⟩, hM, hc, hg⟩ := hrel
      have HFL := Lib.hid hFl
      have HFB := Lib.hid hFb
      clear hFl hFb
      have hzo := hg.size
      by_cases hj : 0 < j
      · have hj1 : (0 : Int) < (j : Int) := by omega
        go_wp2_with fail
        refine (set30_any w.heap.size w.heap.size (8 + 20 * k) N wr hc (by omega) (by omega) (by omega)).mono ?_
        rintro e w6 ⟨A6, m6, c6, S, rfl, hown6, hS, hm8, hc6, hg6⟩
        have hsl : S.length = m6 := by have := hown6.1; simpa [ints] using this
        have HS := Lib.hid hS
        clear hS
        obtain ⟨vs, hvs, HPU⟩ := hM.pushG (by decide) hg6 hgl hzo (xs := S) (by rw [hsl]; exact hown6)
        have hgr := growB_trans hg hg6
        have hz := hgr.size
        clear hsl
        go_wp2_with (at_builtin; refine app1 w6 rfl _ _ 24 25 rfl (.slice none 0 0) 24 Tryz.underlying24 info_ints rfl (by decide) w1.heap.size k c A vs rfl hvs (.slice A6 m6 c6) rfl rfl (by omega) hz ?_; intro A7 c7 w7 hown7 hg7 hb7)
        have HF7 := Lib.hid (HPU hown7 hg7)
        have hc7 := (hc6.grown hg7 fun r hr => by have := (hvs.lt r hr).1; omega).mono (t' := 8 + 20 * (k + 1)) (by omega)
        have hg7' := growB_own hgr hg7 fun r hr => (hvs.lt r hr).1
        clear HPU hown7 hg7 hvs hown6
        go_roundw
        case rel => exact ⟨j - 1, k + 1, _, A7, c7, by omega, by rw [show ((j : Int) - 1) = ((j - 1 : Nat) : Int) by omega], rfl, ⟨by rw [List.length_append, HFL.out]; rfl, fun row hr => by
          rcases List.mem_append.1 hr with hr | hr
          · exact HFB.out row hr
          · rw [List.mem_singleton.1 hr]; exact HS.out⟩, HF7.out, hc7, hg7'⟩
        case measure => simp [intOf]; omega
      · obtain rfl : j = 0 := by omega
        have hj1 : ¬ (0 : Int) < ((0 : Nat) : Int) := by omega
        obtain ⟨A', c', e', hkc, hoff, hr⟩ := hM.toRG hgl HFB.out
        injection e' with e1 _ e3
        subst e1
        subst e3
        have hgg := growB_trans hg1 hg
        rw [HW0.out] at hgg
        have HE := Lib.hid (And.intro hr.toRV (code_below hgg))
        clear hM hr hoff hgg hc
        go_wp2_with fail
        go_ret2
        exact ⟨N, A, k, c, F, rfl, HE.out.1, HE.out.2⟩
end Go.Proofs.YtlncpabnlnipoaaGreat
