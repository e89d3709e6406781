
/- Walks: drawn sets and contexts. -/
import Derived.Test.YtlncpabnlnipoaaGreatCurB
import Derived.Test.YtlncpabnlnipoaaGreatCtxP
namespace Go.Proofs.YtlncpabnlnipoaaGreat
open Go.RowKit

theorem growB_trans {w w1 w2 : World} {r : Option Nat} (h : w.grownBy w1 r) (k : w1.grownBy w2 r) : w.grownBy w2 r :=
  ⟨k.os.trans h.os, k.tape.trans h.tape, k.output.trans h.output, Nat.le_trans h.size k.size, fun b hb hne => (k.block b (Nat.lt_of_lt_of_le hb h.size) hne).trans (h.block b hb hne)⟩
theorem growB_own {w w1 w2 : World} {r row : Option Nat} (h : w.grownBy w1 r) (k : w1.grownBy w2 row) (hr : ∀ q, row = some q → w.heap.size ≤ q) : w.grownBy w2 r :=
  ⟨k.os.trans h.os, k.tape.trans h.tape, k.output.trans h.output, Nat.le_trans h.size k.size, fun b hb hne => (k.block b (Nat.lt_of_lt_of_le hb h.size) (fun e => by have := hr b e.symm; omega)).trans (h.block b hb hne)⟩
theorem growB_box {w w1 : World} {r : Option Nat} (h : w.grownBy w1 r) (o : Obj) : w.grownBy (w1.alloc o) r :=
  ⟨h.os, h.tape, h.output, Nat.le_trans h.size (by simp), fun b hb hne => (Below.heap_alloc w1 o b (Nat.lt_of_lt_of_le hb h.size)).trans (h.block b hb hne)⟩
theorem own_grownG {w w' : World} {base size n g : Nat} {e : TypeId} {v : Value} {xs : List Value} (h : w.ownsRow base e size v n xs) (hg : w.grownBy w' (some g)) (hb : g < base) : w'.ownsRow base e size v n xs :=
  own_same h fun b hv => hg.block b (h.lt b hv).2 (fun e => by injection e with e; have := (h.lt b hv).1; omega)
theorem rdl_grown {α : Type} {R : World → Value → α → Prop} {w w' : World} {A : Option Addr} {n g : Nat} {xs : List α} (h : RdL R w A n xs) (hA : ∀ b o, A = some ⟨b, o, none⟩ → b ≠ g) (hR : ∀ v x, R w v x → R w' v x) (hg : w.grownBy w' (some g)) : RdL R w' A n xs :=
  ⟨h.1, h.2.1, fun k x hk => by
    obtain ⟨b, o, v, e, hc, hr⟩ := h.2.2 k x hk
    exact ⟨b, o, v, e, (World.cell?_of_block (hg.block b (cell_lt hc) (fun e2 => hA b o e (by injection e2)))).trans hc, hR v x hr⟩⟩
def SetD (B : Nat) (w : World) (g t : Nat) (e : Ending) (w' : World) : Prop := ∃ A m c S, e = .returned (.slice A m c) ∧ w'.ownsRow w.heap.size 3 1 (.slice A m c) m (ints S) ∧ (∀ x ∈ S, -2000 ≤ x ∧ x ≤ 2000) ∧ m ≤ 8 ∧ CurB B w' g t ∧ w.grownBy w' (some g)
theorem nums3 (w : World) (g : Nat) (n : Int) (hn : -1000 ≤ n ∧ n ≤ 2000) (hg : g < w.heap.size) {k : Nat} (hk : k = w.heap.size) : NumsP (fun x => -1000 ≤ x ∧ x ≤ 2000) (w.alloc (.cells #[.int .i64 (-1), .int .i64 n, .int .i64 0] 3)) g k 3 := by
  subst hk
  refine ⟨by omega, by omega, by omega, fun i hi => ?_⟩
  have hc := (Blk.new w 3 #[.int .i64 (-1), .int .i64 n, .int .i64 0]).cell i
  rcases (by omega : i = 0 ∨ i = 1 ∨ i = 2) with rfl | rfl | rfl
  · exact ⟨-1, ⟨by omega, by omega⟩, hc⟩
  · exact ⟨n, ⟨by omega, by omega⟩, hc⟩
  · exact ⟨0, ⟨by omega, by omega⟩, hc⟩
theorem nums9 (w : World) (g n : Nat) (hn : 0 < n ∧ n ≤ 9) (hg : g < w.heap.size) {k : Nat} (hk : k = w.heap.size) : NumsP (fun x => 0 ≤ x ∧ x ≤ 7) (w.alloc (.cells #[.int .i64 0, .int .i64 1, .int .i64 2, .int .i64 3, .int .i64 3, .int .i64 4, .int .i64 5, .int .i64 6, .int .i64 7] 3)) g k n := by
  subst hk
  refine ⟨by omega, by omega, by omega, fun i hi => ?_⟩
  have hc := (Blk.new w 3 #[.int .i64 0, .int .i64 1, .int .i64 2, .int .i64 3, .int .i64 3, .int .i64 4, .int .i64 5, .int .i64 6, .int .i64 7]).cell i
  rcases (by omega : i = 0 ∨ i = 1 ∨ i = 2 ∨ i = 3 ∨ i = 4 ∨ i = 5 ∨ i = 6 ∨ i = 7 ∨ i = 8) with rfl | rfl | rfl | rfl | rfl | rfl | rfl | rfl | rfl
  · exact ⟨0, ⟨by omega, by omega⟩, hc⟩
  · exact ⟨1, ⟨by omega, by omega⟩, hc⟩
  · exact ⟨2, ⟨by omega, by omega⟩, hc⟩
  · exact ⟨3, ⟨by omega, by omega⟩, hc⟩
  · exact ⟨3, ⟨by omega, by omega⟩, hc⟩
  · exact ⟨4, ⟨by omega, by omega⟩, hc⟩
  · exact ⟨5, ⟨by omega, by omega⟩, hc⟩
  · exact ⟨6, ⟨by omega, by omega⟩, hc⟩
  · exact ⟨7, ⟨by omega, by omega⟩, hc⟩
set_option maxRecDepth 20000 in
set_option maxHeartbeats 4000000 in
theorem set30_any (B g t : Nat) (n : Int) (w : World) (h : CurB B w g t) (hB : B ≤ w.heap.size) (ht : t ≤ 999990000) (hn : -1000 ≤ n ∧ n ≤ 2000) :
    Calls Tryz.prog 26 #[.pointer (some ⟨g, 0, none⟩), .int .i64 n] w (SetD B w g (t + 20)) := by
  have hgl := h.lt
  have hb0 := below_box w (.cells #[] 3)
  have hown0 : (w.alloc (.cells #[] 3)).ownsRow w.heap.size 3 1 (.slice (some ⟨w.heap.size, 0, none⟩) 0 0) 0 (ints []) := World.ownsRow_lit w #[] 0 (Nat.le_refl _) (Nat.zero_le _) rfl
  have hc0 := h.next_ hb0
  have hg0 : w.grownBy (w.alloc (.cells #[] 3)) (some g) := growB_box (grown_reflB w _) _
  go_enter Tryz.func26, Tryz.ntmps26
  go_wp2_with fail
  go_loopw [5, 6] (fun v i wr => ∃ (k : Nat) (A : Option Addr) (c : Nat) (acc : List Int), k ≤ 7 ∧ i = .int .i64 k ∧ v = .slice A acc.length c ∧ acc.length ≤ k ∧ wr.ownsRow w.heap.size 3 1 (.slice A acc.length c) acc.length (ints acc) ∧ (∀ x ∈ acc, -2000 ≤ x ∧ x ≤ 2000) ∧ CurB B wr g (t + 2 * k) ∧ w.grownBy wr (some g)) (fun _ i _ => 7 - (intOf i).toNat)
  case atStart => exact ⟨0, _, 0, [], by omega, rfl, rfl, Nat.le_refl _, hown0, fun x hx => by simp at hx, hc0, hg0⟩
  case round =>
    clear hown0 hc0 hg0 hb0
    obtain ⟨k, A, c, acc, hk, rfl, rfl, hak, hown, hacc, hcur, hgr⟩ := hrel
    have HACC := Lib.hid hacc
    clear hacc
    have hzr := hgr.size
    by_cases hlt : (k : Int) < n ∧ k < 7
    · have hk1 : (k : Int) < n := hlt.1
      have hk2 : (k : Int) < 7 := by omega
      go_wp2_with fail
      refine (oneB_any g (t + 2 * k) 2 wr hcur (by omega) (by omega)).mono ?_
      rintro e w1 ⟨bb, rfl, hc1, hg1⟩
      have hown1 := own_grownG hown hg1 hgl
      have hgr1 := growB_trans hgr hg1
      have hz1 := hgr1.size
      rcases bb with _ | _
      · go_wp2_with fail
        go_roundw
        case rel => exact ⟨k + 1, A, c, acc, by omega, by go_num, rfl, by omega, hown1, HACC.out, hc1, hgr1⟩
        case measure => simp [intOf]; omega
      · go_wp2_with (at_builtin; refine app1 w1 rfl _ _ 25 3 rfl (.int .i64 0) 8 Tryz.underlying25 info_int rfl (by decide) w.heap.size acc.length c A (ints acc) rfl hown1 (.int .i64 k) rfl rfl (by omega) hz1 ?_; intro A2 c2 w2 hown2 hg2 hb2)
        go_roundw
        case rel =>
          refine ⟨k + 1, A2, c2, acc ++ [(k : Int)], by omega, by go_num, by rw [List.length_append]; rfl, by simp; omega, ?_, fun x hx => ?_, ?_, ?_⟩
          · rw [List.length_append, ← ints_snocC]; exact hown2
          · rcases List.mem_append.1 hx with hx | hx
            · exact HACC.out x hx
            · rw [List.mem_singleton.1 hx]; omega
          · exact hc1.grown hg2 fun r hr => by have := (hown1.lt r hr).1; omega
          · exact growB_own hgr1 hg2 fun r hr => (hown1.lt r hr).1
        case measure => simp [intOf]; omega
    · by_cases hk1 : (k : Int) < n
      · have hk2 : ¬ (k : Int) < 7 := by omega
        go_wp2_with fail
        refine (oneB_any g (t + 2 * k) 20 wr hcur (by omega) (by omega)).mono ?_
        rintro e w1 ⟨bb, rfl, hc1, hg1⟩
        have hown1 := own_grownG hown hg1 hgl
        have hgr1 := growB_trans hgr hg1
        have hz1 := hgr1.size
        rcases bb with _ | _
        · have HO := Lib.hid hown1
          clear hown1 hown
          go_wp2_with fail
          go_ret
          exact ⟨A, _, c, acc, rfl, HO.out, HACC.out, by omega, hc1.mono (by omega), hgr1⟩
        · obtain ⟨w2, HW2⟩ : ∃ wb, Hid (wb = w1.alloc (.cells #[.int .i64 (-1), .int .i64 n, .int .i64 0] 3)) := ⟨_, rfl⟩
          have hb2 : Below w1.heap.size w1 w2 := by rw [HW2.out]; exact below_box _ _
          have hnum : NumsP (fun x => -1000 ≤ x ∧ x ≤ 2000) w2 g w1.heap.size 3 := by rw [HW2.out]; exact nums3 w1 g n hn hc1.lt rfl
          have hc2 := hc1.next_ hb2
          have HAM := Lib.hid (amongB_any g (t + 2 * k + 2) w1.heap.size 3 3 w2 hc2 (by omega) _ hnum)
          have hown2 := own_next hown1 hb2
          have hgr2 : w.grownBy w2 (some g) := by rw [HW2.out]; exact growB_box hgr1 _
          have hz2 := hgr2.size
          clear hown1 hown hnum
          go_wp2_with fail
          rw [← HW2.out]
          refine HAM.out.mono ?_
          rintro e w3 ⟨x, hx, rfl, hc3, hg3⟩
          have hown3 := own_grownG hown2 hg3 hgl
          have hgr3 := growB_trans hgr2 hg3
          have hz3 := hgr3.size
          clear hown2
          go_wp2_with (at_builtin; refine app1 w3 rfl _ _ 25 3 rfl (.int .i64 0) 8 Tryz.underlying25 info_int rfl (by decide) w.heap.size acc.length c A (ints acc) rfl hown3 (.int .i64 x) rfl rfl (by omega) hz3 ?_; intro A2 c2 w4 hown4 hg4 hb4)
          go_ret
          refine ⟨A2, acc.length + 1, c2, acc ++ [x], rfl, ?_, fun y hy => ?_, by omega, ?_, ?_⟩
          · rw [← ints_snocC]; exact hown4
          · rcases List.mem_append.1 hy with hy | hy
            · exact HACC.out y hy
            · rw [List.mem_singleton.1 hy]; omega
          · exact (hc3.grown hg4 fun r hr => by have := (hown3.lt r hr).1; omega).mono (by omega)
          · exact growB_own hgr3 hg4 fun r hr => (hown3.lt r hr).1
      · go_wp2_with fail
        refine (oneB_any g (t + 2 * k) 20 wr hcur (by omega) (by omega)).mono ?_
        rintro e w1 ⟨bb, rfl, hc1, hg1⟩
        have hown1 := own_grownG hown hg1 hgl
        have hgr1 := growB_trans hgr hg1
        have hz1 := hgr1.size
        rcases bb with _ | _
        · have HO := Lib.hid hown1
          clear hown1 hown
          go_wp2_with fail
          go_ret
          exact ⟨A, _, c, acc, rfl, HO.out, HACC.out, by omega, hc1.mono (by omega), hgr1⟩
        · obtain ⟨w2, HW2⟩ : ∃ wb, Hid (wb = w1.alloc (.cells #[.int .i64 (-1), .int .i64 n, .int .i64 0] 3)) := ⟨_, rfl⟩
          have hb2 : Below w1.heap.size w1 w2 := by rw [HW2.out]; exact below_box _ _
          have hnum : NumsP (fun x => -1000 ≤ x ∧ x ≤ 2000) w2 g w1.heap.size 3 := by rw [HW2.out]; exact nums3 w1 g n hn hc1.lt rfl
          have hc2 := hc1.next_ hb2
          have HAM := Lib.hid (amongB_any g (t + 2 * k + 2) w1.heap.size 3 3 w2 hc2 (by omega) _ hnum)
          have hown2 := own_next hown1 hb2
          have hgr2 : w.grownBy w2 (some g) := by rw [HW2.out]; exact growB_box hgr1 _
          have hz2 := hgr2.size
          clear hown1 hown hnum
          go_wp2_with fail
          rw [← HW2.out]
          refine HAM.out.mono ?_
          rintro e w3 ⟨x, hx, rfl, hc3, hg3⟩
          have hown3 := own_grownG hown2 hg3 hgl
          have hgr3 := growB_trans hgr2 hg3
          have hz3 := hgr3.size
          clear hown2
          go_wp2_with (at_builtin; refine app1 w3 rfl _ _ 25 3 rfl (.int .i64 0) 8 Tryz.underlying25 info_int rfl (by decide) w.heap.size acc.length c A (ints acc) rfl hown3 (.int .i64 x) rfl rfl (by omega) hz3 ?_; intro A2 c2 w4 hown4 hg4 hb4)
          go_ret
          refine ⟨A2, acc.length + 1, c2, acc ++ [x], rfl, ?_, fun y hy => ?_, by omega, ?_, ?_⟩
          · rw [← ints_snocC]; exact hown4
          · rcases List.mem_append.1 hy with hy | hy
            · exact HACC.out y hy
            · rw [List.mem_singleton.1 hy]; omega
          · exact (hc3.grown hg4 fun r hr => by have := (hown3.lt r hr).1; omega).mono (by omega)
          · exact growB_own hgr3 hg4 fun r hr => (hown3.lt r hr).1
/-! ## Contexts -/
theorem own_len_leB {w : World} {base size n : Nat} {e : TypeId} {v : Value} {ys : List Value} (h : w.ownsRow base e size v n ys) : n ≤ maxLen := by
  rcases h.2 with ⟨_, h0⟩ | ⟨g, cap, cur, _, _, _, h1, h2, _⟩
  · omega
  · omega
section
variable {lo g n : Nat} {w w1 : World} {v : Value} {F : List (List Bool)}
def OwTb (lo : Nat) (w : World) (v : Value) (n : Nat) (F : List (List Bool)) : Prop :=
  ∃ vs, w.ownsRow lo 62 1 v n vs ∧ vs.length = F.length ∧ ∀ (k : Nat) u xs, vs[k]? = some u → F[k]? = some xs → w.ownsRow lo 4 1 u xs.length (bls xs)
theorem OwM.toT (h : OwM 62 4 (.bool) lo w v n F) : OwTb lo w v n F := by
  obtain ⟨vs, h1, h2, h3, -⟩ := h
  exact ⟨vs, h1, h2, h3⟩
theorem OwTb.grown (h : OwTb lo w v n F) (hg : w.grownBy w1 (some g)) (hl : g < lo) : OwTb lo w1 v n F := by
  obtain ⟨vs, h1, h2, h3⟩ := h
  exact ⟨vs, own_grownG h1 hg hl, h2, fun k u xs hu hx => own_grownG (h3 k u xs hu hx) hg hl⟩
theorem OwM.grownG (h : OwM 62 4 (.bool) lo w v n F) (hg : w.grownBy w1 (some g)) (hl : g < lo) : OwM 62 4 (.bool) lo w1 v n F := by
  obtain ⟨vs, h1, h2, h3, h4⟩ := h
  exact ⟨vs, own_grownG h1 hg hl, h2, fun k u xs hu hx => own_grownG (h3 k u xs hu hx) hg hl, h4⟩
theorem OwTb.rd (h : OwTb lo w v n F) : ∃ A c, v = .slice A n c ∧ RdL (RV RB) w A n F := by
  obtain ⟨vs, h1, h2, h3⟩ := h
  have hl : vs.length = n := by have := h1.1; simpa using this
  refine RdL.ofOwn (own_len_leB h1) h1 (by omega) fun k x hk => ?_
  have hkl := (List.getElem?_eq_some_iff.1 hk).1
  have hu : vs[k]? = some (vs[k]'(by omega)) := List.getElem?_eq_getElem (by omega)
  refine ⟨_, hu, ?_⟩
  have ho := h3 k _ x hu hk
  generalize vs[k]'(by omega) = u at ho
  obtain ⟨B, c, e⟩ := own_slice ho
  rw [e] at ho ⊢
  exact ⟨B, x.length, c, rfl, rd_of_own (R := RB) ho RB_bls⟩
theorem OwM.pushG {α : Type} {eo ei : TypeId} {f : α → Value} {lo : Nat} {w w1 : World} {v : Value} {n : Nat} {xss : List (List α)} (hne : eo ≠ ei) (h : OwM eo ei f lo w v n xss) (hg0 : w.grownBy w1 (some g)) (hgl : g < lo) (hlo : lo ≤ w.heap.size) {u : Value} {xs : List α} (hu : w1.ownsRow w.heap.size ei 1 u xs.length (xs.map f)) :
    ∃ vs, w1.ownsRow lo eo 1 v n vs ∧ ∀ {w2 : World} {v' : Value}, w2.ownsRow lo eo 1 v' (n + 1) (vs ++ [u]) → w1.grownBy w2 v.ownBlock → OwM eo ei f lo w2 v' (n + 1) (xss ++ [xs]) := by
  obtain ⟨vs, h1, h2, h3, h4⟩ := h
  have hk1 := own_grownG h1 hg0 hgl
  refine ⟨vs, hk1, fun {w2 v'} hown hg => ⟨vs ++ [u], hown, by simp [h2], ?_, ?_⟩⟩
  · have far : ∀ {base : Nat} {y : Value} {ys : List α}, w1.ownsRow base ei 1 y ys.length (ys.map f) → w2.ownsRow base ei 1 y ys.length (ys.map f) := fun ho =>
      own_same ho fun b hb => hg.block b (ho.lt b hb).2 (fun e => own_ne ho hk1 hne.symm hb e.symm)
    intro k y ys hy hx
    by_cases hk : k < vs.length
    · rw [List.getElem?_append_left hk] at hy
      rw [List.getElem?_append_left (by omega)] at hx
      exact far (own_grownG (h3 k y ys hy hx) hg0 hgl)
    · have hk2 : k = vs.length := by
        have := (List.getElem?_eq_some_iff.1 hy).1
        simp at this
        omega
      subst hk2
      rw [List.getElem?_append_right (Nat.le_refl _)] at hy
      rw [h2, List.getElem?_append_right (Nat.le_refl _)] at hx
      simp at hy hx
      subst hy
      subst hx
      exact far (own_mono hu hlo)
  · rw [List.filterMap_append]
    cases hub : u.ownBlock with
    | none => simpa [hub] using h4
    | some g =>
      simp only [List.filterMap_cons, hub, List.filterMap_nil]
      rw [List.nodup_append]
      refine ⟨h4, by simp, fun a ha b hb' => ?_⟩
      simp at hb'
      subst hb'
      obtain ⟨y, hy, hyb⟩ := List.mem_filterMap.1 ha
      obtain ⟨k, hk⟩ := List.getElem?_of_mem hy
      have hkl : k < xss.length := by rw [← h2]; exact (List.getElem?_eq_some_iff.1 hk).1
      have h5 := ((h3 k y _ hk (List.getElem?_eq_getElem hkl)).lt a hyb).2
      have h6 := (hu.lt b hub).1
      omega
end
theorem NumsP.grown {P : Int → Prop} {w w' : World} {g b n : Nat} (h : NumsP P w g b n) (hg : w.grownBy w' (some g)) : NumsP P w' g b n :=
  ⟨h.1, h.2.1, h.2.2.1, fun i hi => by
    obtain ⟨x, hx, hc⟩ := h.2.2.2 i hi
    exact ⟨x, hx, (World.cell?_of_block (hg.block b (cell_lt hc) (by simpa using h.1))).trans hc⟩⟩
theorem mat_litB {w : World} : OwM 62 4 (.bool) w.heap.size (w.alloc (.cells #[] 62)) (.slice (some ⟨w.heap.size, 0, none⟩) 0 0) 0 [] :=
  ⟨[], World.ownsRow_lit _ _ _ (Nat.le_refl _) (Nat.zero_le _) rfl, rfl, fun k u xs hu => by simp at hu, by simp⟩
def CtxD (B : Nat) (w : World) (g t : Nat) (e : Ending) (w' : World) : Prop := ∃ A n c F, e = .returned (.slice A n c) ∧ OwTb w.heap.size w' (.slice A n c) n F ∧ (n ≤ 8 ∧ ∀ row ∈ F, row.length ≤ 8) ∧ CurB B w' g t ∧ w.grownBy w' (some g)
/-! ## The draws -/
def PolD (w : World) (e : Ending) (w' : World) : Prop := ∃ A n c F B m d S, e = .returned (.tuple #[.slice A n c, .slice B m d]) ∧ RdL (RV RB) w' A n F ∧ RdL RI w' B m S ∧ Below w.heap.size w w'
theorem draw_end {w w1 w2 : World} {c3 : Array Value} {A B : Option Addr} {n m c d : Nat} {F : List (List Bool)} {S : List Int} (hO : OwTb (w.alloc (.cells c3 47)).heap.size w1 (.slice A n c) n F) (hg1 : (w.alloc (.cells c3 47)).grownBy w1 (some w.heap.size))
    (hown : w2.ownsRow w1.heap.size 3 1 (.slice B m d) m (ints S)) (hS : ∀ x ∈ S, -2000 ≤ x ∧ x ≤ 2000) (hg2 : w1.grownBy w2 (some w.heap.size)) : RdL (RV RB) w2 A n F ∧ RdL RI w2 B m S ∧ Below w.heap.size w w2 := by
  obtain ⟨A', c', e, hr⟩ := (hO.grown hg2 (by simp)).rd
  injection e with e1 _ _
  subst e1
  refine ⟨hr, rd_of_own (R := RI) hown (RI_ints fun x hx => by have := hS x hx; omega), ?_⟩
  exact (below_box w _).grown (growB_trans hg1 hg2) (by simp) fun r hr => by injection hr with hr; omega
end Go.Proofs.YtlncpabnlnipoaaGreat
