
/- Walks: drawn sets and contexts. -/
import Derived.Test.YtcihgkdaogfabaaCurB
import Derived.Test.YtcihgkdaogfabaaCtxV
namespace Go.Proofs.Ytcihgkdaogfabaa
open Go.RowKit

theorem growB_trans {w w1 w2 : World} {r : Option Nat} (h : w.grownBy w1 r) (k : w1.grownBy w2 r) : w.grownBy w2 r :=
  ⟨k.os.trans h.os, k.tape.trans h.tape, k.output.trans h.output, Nat.le_trans h.size k.size, fun b hb hne => (k.block b (Nat.lt_of_lt_of_le hb h.size) hne).trans (h.block b hb hne)⟩
theorem growB_own {w w1 w2 : World} {r row : Option Nat} (h : w.grownBy w1 r) (k : w1.grownBy w2 row) (hr : ∀ q, row = some q → w.heap.size ≤ q) : w.grownBy w2 r :=
  ⟨k.os.trans h.os, k.tape.trans h.tape, k.output.trans h.output, Nat.le_trans h.size k.size, fun b hb hne => (k.block b (Nat.lt_of_lt_of_le hb h.size) (fun e => by have := hr b e.symm; omega)).trans (h.block b hb hne)⟩
theorem growB_box {w w1 : World} {r : Option Nat} (h : w.grownBy w1 r) (o : Obj) : w.grownBy (w1.alloc o) r :=
  ⟨h.os, h.tape, h.output, Nat.le_trans h.size (by simp), fun b hb hne => (Below.heap_alloc w1 o b (Nat.lt_of_lt_of_le hb h.size)).trans (h.block b hb hne)⟩
theorem own_grownG {w w' : World} {base size n g : Nat} {e : TypeId} {v : Value} {xs : List Value} (h : w.ownsRow base e size v n xs) (hg : w.grownBy w' (some g)) (hb : g < base) : w'.ownsRow base e size v n xs :=
  own_same h fun b hv => hg.block b (h.lt b hv).2 (fun e => by injection e with e; have := (h.lt b hv).1; omega)
theorem rdl_grown {α : Type} {R : World → Value → α → Prop} {w w' : World} {A : Option Addr} {n g : Nat} {xs : List α} (h : RdL R w A n xs) (hA : ∀ b o, A = some ⟨b, o, none⟩ → b ≠ g) (hR : ∀ v x, R w v x → R w' v x) (hg : w.grownBy w' (some g)) : RdL R w' A n xs :=
  ⟨h.1, h.2.1, fun k x hk => by
    obtain ⟨b, o, v, e, hc, hr⟩ := h.2.2 k x hk
    exact ⟨b, o, v, e, (World.cell?_of_block (hg.block b (cell_lt hc) (fun e2 => hA b o e (by injection e2)))).trans hc, hR v x hr⟩⟩
def SetD (B : Nat) (w : World) (g t : Nat) (e : Ending) (w' : World) : Prop := ∃ A m c S, e = .returned (.slice A m c) ∧ w'.ownsRow w.heap.size 3 1 (.slice A m c) m (ints S) ∧ (∀ x ∈ S, -2000 ≤ x ∧ x ≤ 2000) ∧ m ≤ 8 ∧ CurB B w' g t ∧ w.grownBy w' (some g)
theorem nums3 (w : World) (g : Nat) (n : Int) (hn : -1000 ≤ n ∧ n ≤ 2000) (hg : g < w.heap.size) {k : Nat} (hk : k = w.heap.size) : NumsP (fun x => -1000 ≤ x ∧ x ≤ 2000) (w.alloc (.cells #[.int .i64 (-1), .int .i64 n, .int .i64 0] 3)) g k 3 := by
  subst hk
  refine ⟨by omega, by omega, by omega, fun i hi => ?_⟩
  have hc := (Blk.new w 3 #[.int .i64 (-1), .int .i64 n, .int .i64 0]).cell i
  rcases (by omega : i = 0 ∨ i = 1 ∨ i = 2) with rfl | rfl | rfl
  · exact ⟨-1, ⟨by omega, by omega⟩, hc⟩
  · exact ⟨n, ⟨by omega, by omega⟩, hc⟩
  · exact ⟨0, ⟨by omega, by omega⟩, hc⟩
theorem nums9 (w : World) (g n : Nat) (hn : 0 < n ∧ n ≤ 9) (hg : g < w.heap.size) {k : Nat} (hk : k = w.heap.size) : NumsP (fun x => 0 ≤ x ∧ x ≤ 7) (w.alloc (.cells #[.int .i64 0, .int .i64 1, .int .i64 2, .int .i64 3, .int .i64 3, .int .i64 4, .int .i64 5, .int .i64 6, .int .i64 7] 3)) g k n := by
  subst hk
  refine ⟨by omega, by omega, by omega, fun i hi => ?_⟩
  have hc := (Blk.new w 3 #[.int .i64 0, .int .i64 1, .int .i64 2, .int .i64 3, .int .i64 3, .int .i64 4, .int .i64 5, .int .i64 6, .int .i64 7]).cell i
  rcases (by omega : i = 0 ∨ i = 1 ∨ i = 2 ∨ i = 3 ∨ i = 4 ∨ i = 5 ∨ i = 6 ∨ i = 7 ∨ i = 8) with rfl | rfl | rfl | rfl | rfl | rfl | rfl | rfl | rfl
  · exact ⟨0, ⟨by omega, by omega⟩, hc⟩
  · exact ⟨1, ⟨by omega, by omega⟩, hc⟩
  · exact ⟨2, ⟨by omega, by omega⟩, hc⟩
  · exact ⟨3, ⟨by omega, by omega⟩, hc⟩
  · exact ⟨3, ⟨by omega, by omega⟩, hc⟩
  · exact ⟨4, ⟨by omega, by omega⟩, hc⟩
  · exact ⟨5, ⟨by omega, by omega⟩, hc⟩
  · exact ⟨6, ⟨by omega, by omega⟩, hc⟩
  · exact ⟨7, ⟨by omega, by omega⟩, hc⟩
set_option maxRecDepth 20000 in
set_option maxHeartbeats 4000000 in
theorem set30_any (B g t : Nat) (n : Int) (w : World) (h : CurB B w g t) (hB : B ≤ w.heap.size) (ht : t ≤ 999990000) (hn : -1000 ≤ n ∧ n ≤ 2000) :
    Calls Try.prog 35 #[.pointer (some ⟨g, 0, none⟩), .int .i64 n] w (SetD B w g (t + 20)) := by
  have hgl := h.lt
  have hb0 := below_box w (.cells #[] 3)
  have hown0 : (w.alloc (.cells #[] 3)).ownsRow w.heap.size 3 1 (.slice (some ⟨w.heap.size, 0, none⟩) 0 0) 0 (ints []) := World.ownsRow_lit w #[] 0 (Nat.le_refl _) (Nat.zero_le _) rfl
  have hc0 := h.next_ hb0
  have hg0 : w.grownBy (w.alloc (.cells #[] 3)) (some g) := growB_box (grown_reflB w _) _
  go_enter Try.func35, Try.ntmps35
  go_wp2_with fail
  go_loopw [5, 6] (fun v i wr => ∃ (k : Nat) (A : Option Addr) (c : Nat) (acc : List Int), k ≤ 7 ∧ i = .int .i64 k ∧ v = .slice A acc.length c ∧ acc.length ≤ k ∧ wr.ownsRow w.heap.size 3 1 (.slice A acc.length c) acc.length (ints acc) ∧ (∀ x ∈ acc, -2000 ≤ x ∧ x ≤ 2000) ∧ CurB B wr g (t + 2 * k) ∧ w.grownBy wr (some g)) (fun _ i _ => 7 - (intOf i).toNat)
  case atStart => exact ⟨0, _, 0, [], by omega, rfl, rfl, Nat.le_refl _, hown0, fun x hx => by simp at hx, hc0, hg0⟩
  case round =>
    clear hown0 hc0 hg0 hb0
    obtain ⟨k, A, c, acc, hk, rfl, rfl, hak, hown, hacc, hcur, hgr⟩ := hrel
    have HACC := Lib.hid hacc
    clear hacc
    have hzr := hgr.size
    by_cases hlt : (k : Int) < n ∧ k < 7
    · have hk1 : (k : Int) < n := hlt.1
      have hk2 : (k : Int) < 7 := by omega
      go_wp2_with fail
      refine (oneB_any g (t + 2 * k) 2 wr hcur (by omega) (by omega)).mono ?_
      rintro e w1 ⟨bb, rfl, hc1, hg1⟩
      have hown1 := own_grownG hown hg1 hgl
      have hgr1 := growB_trans hgr hg1
      have hz1 := hgr1.size
      rcases bb with _ | _
      · go_wp2_with fail
        go_roundw
        case rel => exact ⟨k + 1, A, c, acc, by omega, by go_num, rfl, by omega, hown1, HACC.out, hc1, hgr1⟩
        case measure => simp [intOf]; omega
      · go_wp2_with (at_builtin; refine app1 w1 rfl _ _ 25 3 rfl (.int .i64 0) 8 Try.underlying25 info_int rfl (by decide) w.heap.size acc.length c A (ints acc) rfl hown1 (.int .i64 k) rfl rfl (by omega) hz1 ?_; intro A2 c2 w2 hown2 hg2 hb2)
        go_roundw
        case rel =>
          refine ⟨k + 1, A2, c2, acc ++ [(k : Int)], by omega, by go_num, by rw [List.length_append]; rfl, by simp; omega, ?_, fun x hx => ?_, ?_, ?_⟩
          · rw [List.length_append, ← ints_snocC]; exact hown2
          · rcases List.mem_append.1 hx with hx | hx
            · exact HACC.out x hx
            · rw [List.mem_singleton.1 hx]; omega
          · exact hc1.grown hg2 fun r hr => by have := (hown1.lt r hr).1; omega
          · exact growB_own hgr1 hg2 fun r hr => (hown1.lt r hr).1
        case measure => simp [intOf]; omega
    · by_cases hk1 : (k : Int) < n
      · have hk2 : ¬ (k : Int) < 7 := by omega
        go_wp2_with fail
        refine (oneB_any g (t + 2 * k) 20 wr hcur (by omega) (by omega)).mono ?_
        rintro e w1 ⟨bb, rfl, hc1, hg1⟩
        have hown1 := own_grownG hown hg1 hgl
        have hgr1 := growB_trans hgr hg1
        have hz1 := hgr1.size
        rcases bb with _ | _
        · have HO := Lib.hid hown1
          clear hown1 hown
          go_wp2_with fail
          go_ret
          exact ⟨A, _, c, acc, rfl, HO.out, HACC.out, by omega, hc1.mono (by omega), hgr1⟩
        · obtain ⟨w2, HW2⟩ : ∃ wb, Hid (wb = w1.alloc (.cells #[.int .i64 (-1), .int .i64 n, .int .i64 0] 3)) := ⟨_, rfl⟩
          have hb2 : Below w1.heap.size w1 w2 := by rw [HW2.out]; exact below_box _ _
          have hnum : NumsP (fun x => -1000 ≤ x ∧ x ≤ 2000) w2 g w1.heap.size 3 := by rw [HW2.out]; exact nums3 w1 g n hn hc1.lt rfl
          have hc2 := hc1.next_ hb2
          have HAM := Lib.hid (amongB_any g (t + 2 * k + 2) w1.heap.size 3 3 w2 hc2 (by omega) _ hnum)
          have hown2 := own_next hown1 hb2
          have hgr2 : w.grownBy w2 (some g) := by rw [HW2.out]; exact growB_box hgr1 _
          have hz2 := hgr2.size
          clear hown1 hown hnum
          go_wp2_with fail
          rw [← HW2.out]
          refine HAM.out.mono ?_
          rintro e w3 ⟨x, hx, rfl, hc3, hg3⟩
          have hown3 := own_grownG hown2 hg3 hgl
          have hgr3 := growB_trans hgr2 hg3
          have hz3 := hgr3.size
          clear hown2
          go_wp2_with (at_builtin; refine app1 w3 rfl _ _ 25 3 rfl (.int .i64 0) 8 Try.underlying25 info_int rfl (by decide) w.heap.size acc.length c A (ints acc) rfl hown3 (.int .i64 x) rfl rfl (by omega) hz3 ?_; intro A2 c2 w4 hown4 hg4 hb4)
          go_ret
          refine ⟨A2, acc.length + 1, c2, acc ++ [x], rfl, ?_, fun y hy => ?_, by omega, ?_, ?_⟩
          · rw [← ints_snocC]; exact hown4
          · rcases List.mem_append.1 hy with hy | hy
            · exact HACC.out y hy
            · rw [List.mem_singleton.1 hy]; omega
          · exact (hc3.grown hg4 fun r hr => by have := (hown3.lt r hr).1; omega).mono (by omega)
          · exact growB_own hgr3 hg4 fun r hr => (hown3.lt r hr).1
      · go_wp2_with fail
        refine (oneB_any g (t + 2 * k) 20 wr hcur (by omega) (by omega)).mono ?_
        rintro e w1 ⟨bb, rfl, hc1, hg1⟩
        have hown1 := own_grownG hown hg1 hgl
        have hgr1 := growB_trans hgr hg1
        have hz1 := hgr1.size
        rcases bb with _ | _
        · have HO := Lib.hid hown1
          clear hown1 hown
          go_wp2_with fail
          go_ret
          exact ⟨A, _, c, acc, rfl, HO.out, HACC.out, by omega, hc1.mono (by omega), hgr1⟩
        · obtain ⟨w2, HW2⟩ : ∃ wb, Hid (wb = w1.alloc (.cells #[.int .i64 (-1), .int .i64 n, .int .i64 0] 3)) := ⟨_, rfl⟩
          have hb2 : Below w1.heap.size w1 w2 := by rw [HW2.out]; exact below_box _ _
          have hnum : NumsP (fun x => -1000 ≤ x ∧ x ≤ 2000) w2 g w1.heap.size 3 := by rw [HW2.out]; exact nums3 w1 g n hn hc1.lt rfl
          have hc2 := hc1.next_ hb2
          have HAM := Lib.hid (amongB_any g (t + 2 * k + 2) w1.heap.size 3 3 w2 hc2 (by omega) _ hnum)
          have hown2 := own_next hown1 hb2
          have hgr2 : w.grownBy w2 (some g) := by rw [HW2.out]; exact growB_box hgr1 _
          have hz2 := hgr2.size
          clear hown1 hown hnum
          go_wp2_with fail
          rw [← HW2.out]
          refine HAM.out.mono ?_
          rintro e w3 ⟨x, hx, rfl, hc3, hg3⟩
          have hown3 := own_grownG hown2 hg3 hgl
          have hgr3 := growB_trans hgr2 hg3
          have hz3 := hgr3.size
          clear hown2
          go_wp2_with (at_builtin; refine app1 w3 rfl _ _ 25 3 rfl (.int .i64 0) 8 Try.underlying25 info_int rfl (by decide) w.heap.size acc.length c A (ints acc) rfl hown3 (.int .i64 x) rfl rfl (by omega) hz3 ?_; intro A2 c2 w4 hown4 hg4 hb4)
          go_ret
          refine ⟨A2, acc.length + 1, c2, acc ++ [x], rfl, ?_, fun y hy => ?_, by omega, ?_, ?_⟩
          · rw [← ints_snocC]; exact hown4
          · rcases List.mem_append.1 hy with hy | hy
            · exact HACC.out y hy
            · rw [List.mem_singleton.1 hy]; omega
          · exact (hc3.grown hg4 fun r hr => by have := (hown3.lt r hr).1; omega).mono (by omega)
          · exact growB_own hgr3 hg4 fun r hr => (hown3.lt r hr).1
/-! ## Contexts -/
theorem own_len_leB {w : World} {base size n : Nat} {e : TypeId} {v : Value} {ys : List Value} (h : w.ownsRow base e size v n ys) : n ≤ maxLen := by
  rcases h.2 with ⟨_, h0⟩ | ⟨g, cap, cur, _, _, _, h1, h2, _⟩
  · omega
  · omega
section
variable {lo g n : Nat} {w w1 : World} {v : Value} {F : List (List Bool)}
def OwT (lo : Nat) (w : World) (v : Value) (n : Nat) (F : List (List Bool)) : Prop :=
  ∃ vs, w.ownsRow lo 37 1 v n vs ∧ vs.length = F.length ∧ ∀ (k : Nat) u xs, vs[k]? = some u → F[k]? = some xs → w.ownsRow lo 4 1 u xs.length (bls xs)
theorem OwM.toT (h : OwM 37 4 (.bool) lo w v n F) : OwT lo w v n F := by
  obtain ⟨vs, h1, h2, h3, -⟩ := h
  exact ⟨vs, h1, h2, h3⟩
theorem OwT.grown (h : OwT lo w v n F) (hg : w.grownBy w1 (some g)) (hl : g < lo) : OwT lo w1 v n F := by
  obtain ⟨vs, h1, h2, h3⟩ := h
  exact ⟨vs, own_grownG h1 hg hl, h2, fun k u xs hu hx => own_grownG (h3 k u xs hu hx) hg hl⟩
theorem OwM.grownG (h : OwM 37 4 (.bool) lo w v n F) (hg : w.grownBy w1 (some g)) (hl : g < lo) : OwM 37 4 (.bool) lo w1 v n F := by
  obtain ⟨vs, h1, h2, h3, h4⟩ := h
  exact ⟨vs, own_grownG h1 hg hl, h2, fun k u xs hu hx => own_grownG (h3 k u xs hu hx) hg hl, h4⟩
theorem OwT.rd (h : OwT lo w v n F) : ∃ A c, v = .slice A n c ∧ RdL (RV RB) w A n F := by
  obtain ⟨vs, h1, h2, h3⟩ := h
  have hl : vs.length = n := by have := h1.1; simpa using this
  refine RdL.ofOwn (own_len_leB h1) h1 (by omega) fun k x hk => ?_
  have hkl := (List.getElem?_eq_some_iff.1 hk).1
  have hu : vs[k]? = some (vs[k]'(by omega)) := List.getElem?_eq_getElem (by omega)
  refine ⟨_, hu, ?_⟩
  have ho := h3 k _ x hu hk
  generalize vs[k]'(by omega) = u at ho
  obtain ⟨B, c, e⟩ := own_slice ho
  rw [e] at ho ⊢
  exact ⟨B, x.length, c, rfl, rd_of_own (R := RB) ho RB_bls⟩
theorem OwM.pushG {α : Type} {eo ei : TypeId} {f : α → Value} {lo : Nat} {w w1 : World} {v : Value} {n : Nat} {xss : List (List α)} (hne : eo ≠ ei) (h : OwM eo ei f lo w v n xss) (hg0 : w.grownBy w1 (some g)) (hgl : g < lo) (hlo : lo ≤ w.heap.size) {u : Value} {xs : List α} (hu : w1.ownsRow w.heap.size ei 1 u xs.length (xs.map f)) :
    ∃ vs, w1.ownsRow lo eo 1 v n vs ∧ ∀ {w2 : World} {v' : Value}, w2.ownsRow lo eo 1 v' (n + 1) (vs ++ [u]) → w1.grownBy w2 v.ownBlock → OwM eo ei f lo w2 v' (n + 1) (xss ++ [xs]) := by
  obtain ⟨vs, h1, h2, h3, h4⟩ := h
  have hk1 := own_grownG h1 hg0 hgl
  refine ⟨vs, hk1, fun {w2 v'} hown hg => ⟨vs ++ [u], hown, by simp [h2], ?_, ?_⟩⟩
  · have far : ∀ {base : Nat} {y : Value} {ys : List α}, w1.ownsRow base ei 1 y ys.length (ys.map f) → w2.ownsRow base ei 1 y ys.length (ys.map f) := fun ho =>
      own_same ho fun b hb => hg.block b (ho.lt b hb).2 (fun e => own_ne ho hk1 hne.symm hb e.symm)
    intro k y ys hy hx
    by_cases hk : k < vs.length
    · rw [List.getElem?_append_left hk] at hy
      rw [List.getElem?_append_left (by omega)] at hx
      exact far (own_grownG (h3 k y ys hy hx) hg0 hgl)
    · have hk2 : k = vs.length := by
        have := (List.getElem?_eq_some_iff.1 hy).1
        simp at this
        omega
      subst hk2
      rw [List.getElem?_append_right (Nat.le_refl _)] at hy
      rw [h2, List.getElem?_append_right (Nat.le_refl _)] at hx
      simp at hy hx
      subst hy
      subst hx
      exact far (own_mono hu hlo)
  · rw [List.filterMap_append]
    cases hub : u.ownBlock with
    | none => simpa [hub] using h4
    | some g =>
      simp only [List.filterMap_cons, hub, List.filterMap_nil]
      rw [List.nodup_append]
      refine ⟨h4, by simp, fun a ha b hb' => ?_⟩
      simp at hb'
      subst hb'
      obtain ⟨y, hy, hyb⟩ := List.mem_filterMap.1 ha
      obtain ⟨k, hk⟩ := List.getElem?_of_mem hy
      have hkl : k < xss.length := by rw [← h2]; exact (List.getElem?_eq_some_iff.1 hk).1
      have h5 := ((h3 k y _ hk (List.getElem?_eq_getElem hkl)).lt a hyb).2
      have h6 := (hu.lt b hub).1
      omega
end
theorem NumsP.grown {P : Int → Prop} {w w' : World} {g b n : Nat} (h : NumsP P w g b n) (hg : w.grownBy w' (some g)) : NumsP P w' g b n :=
  ⟨h.1, h.2.1, h.2.2.1, fun i hi => by
    obtain ⟨x, hx, hc⟩ := h.2.2.2 i hi
    exact ⟨x, hx, (World.cell?_of_block (hg.block b (cell_lt hc) (by simpa using h.1))).trans hc⟩⟩
theorem mat_litB {w : World} : OwM 37 4 (.bool) w.heap.size (w.alloc (.cells #[] 37)) (.slice (some ⟨w.heap.size, 0, none⟩) 0 0) 0 [] :=
  ⟨[], World.ownsRow_lit _ _ _ (Nat.le_refl _) (Nat.zero_le _) rfl, rfl, fun k u xs hu => by simp at hu, by simp⟩
def CtxD (B : Nat) (w : World) (g t : Nat) (e : Ending) (w' : World) : Prop := ∃ A n c F, e = .returned (.slice A n c) ∧ OwT w.heap.size w' (.slice A n c) n F ∧ (n ≤ 8 ∧ ∀ row ∈ F, row.length ≤ 8) ∧ CurB B w' g t ∧ w.grownBy w' (some g)
set_option maxRecDepth 20000 in
set_option maxHeartbeats 8000000 in
theorem context30_any (B g t : Nat) (w : World) (h : CurB B w g t) (hB : B ≤ w.heap.size) (ht : t ≤ 999990000) :
    Calls Try.prog 34 #[.pointer (some ⟨g, 0, none⟩)] w (CtxD B w g (t + 200)) := by
  have hgl := h.lt
  obtain ⟨w1, HW1⟩ : ∃ wb, Hid (wb = w.alloc (.cells #[] 37)) := ⟨_, rfl⟩
  have hM1 : OwM 37 4 (.bool) w.heap.size w1 (.slice (some ⟨w.heap.size, 0, none⟩) 0 0) 0 [] := by rw [HW1.out]; exact mat_litB
  have hb1 : Below w.heap.size w w1 := by rw [HW1.out]; exact below_box _ _
  have hc1 := h.next_ hb1
  have hg1 : w.grownBy w1 (some g) := by rw [HW1.out]; exact growB_box (grown_reflB w _) _
  go_enter Try.func34, Try.ntmps34
  go_upto_region 2 with fail
  rw [← HW1.out]
  go_cut [4] (fun u4 wx => ∃ x : Int, u4 = .int .i64 x ∧ 0 ≤ x ∧ x ≤ 7 ∧ CurB B wx g (t + 4) ∧ w1.grownBy wx (some g))
  case first =>
    obtain ⟨w2, HW2⟩ : ∃ wb, Hid (wb = w1.alloc (.cells #[.int .i64 0, .int .i64 1, .int .i64 2, .int .i64 3, .int .i64 3, .int .i64 4, .int .i64 5, .int .i64 6, .int .i64 7] 3)) := ⟨_, rfl⟩
    have hb2 : Below w1.heap.size w1 w2 := by rw [HW2.out]; exact below_box _ _
    have hn8 : NumsP (fun x => 0 ≤ x ∧ x ≤ 7) w2 g w1.heap.size 8 := by rw [HW2.out]; exact nums9 w1 g 8 (by omega) hc1.lt rfl
    have hn9 : NumsP (fun x => 0 ≤ x ∧ x ≤ 7) w2 g w1.heap.size 9 := by rw [HW2.out]; exact nums9 w1 g 9 (by omega) hc1.lt rfl
    have hg2 : w1.grownBy w2 (some g) := by rw [HW2.out]; exact growB_box (grown_reflB w1 _) _
    have HPK := Lib.hid (pickB_any g t 24 w2 (hc1.next_ hb2) (by omega) (by omega))
    go_wp2_with fail
    rw [← HW2.out]
    refine HPK.out.mono ?_
    rintro e w3 ⟨x, hx, rfl, hc3, hg3⟩
    have hg13 := growB_trans hg2 hg3
    have HA8 := Lib.hid (amongB_any g (t + 2) w1.heap.size 8 9 w3 hc3 (by omega) _ (hn8.grown hg3))
    have HA9 := Lib.hid (amongB_any g (t + 2) w1.heap.size 9 9 w3 hc3 (by omega) _ (hn9.grown hg3))
    have hx0 : (0 : Int) ≤ (x : Int) := by omega
    have hx1 : (x : Int) < 24 := by omega
    clear hx hn8 hn9 HPK
    rcases (show (x : Int) / 23 = 0 ∨ (x : Int) / 23 = 1 by omega) with hq | hq
    · go_wp2_with fail
      refine HA8.out.mono ?_
      rintro e w4 ⟨y, hy, rfl, hc4, hg4⟩
      go_wp2_with fail
      go_meet
      exact ⟨y, rfl, hy.1, hy.2, hc4, growB_trans hg13 hg4⟩
    · go_wp2_with fail
      refine HA9.out.mono ?_
      rintro e w4 ⟨y, hy, rfl, hc4, hg4⟩
      go_wp2_with fail
      go_meet
      exact ⟨y, rfl, hy.1, hy.2, hc4, growB_trans hg13 hg4⟩
  case rest =>
    obtain ⟨cl, rfl, hcl0, hcl7, hc5, hg5⟩ := hcut
    obtain ⟨w5, HWC⟩ : ∃ wq : World, wq = wc := ⟨_, rfl⟩
    subst HWC
    have hM5 := hM1.grownG hg5 hgl
    have hg05 := growB_trans hg1 hg5
    clear hM1 hg5 hg1 hc1 hb1
    go_upto_region 3 with fail
    go_cut [5] (fun u5 wx => ∃ x : Int, u5 = .int .i64 x ∧ 0 ≤ x ∧ x ≤ 7 ∧ CurB B wx g (t + 8) ∧ w5.grownBy wx (some g))
    case first =>
      obtain ⟨w2, HW2⟩ : ∃ wb, Hid (wb = w5.alloc (.cells #[.int .i64 0, .int .i64 1, .int .i64 2, .int .i64 3, .int .i64 3, .int .i64 4, .int .i64 5, .int .i64 6, .int .i64 7] 3)) := ⟨_, rfl⟩
      have hb2 : Below w5.heap.size w5 w2 := by rw [HW2.out]; exact below_box _ _
      have hn8 : NumsP (fun x => 0 ≤ x ∧ x ≤ 7) w2 g w5.heap.size 8 := by rw [HW2.out]; exact nums9 w5 g 8 (by omega) hc5.lt rfl
      have hn9 : NumsP (fun x => 0 ≤ x ∧ x ≤ 7) w2 g w5.heap.size 9 := by rw [HW2.out]; exact nums9 w5 g 9 (by omega) hc5.lt rfl
      have hg2 : w5.grownBy w2 (some g) := by rw [HW2.out]; exact growB_box (grown_reflB w5 _) _
      have HPK := Lib.hid (pickB_any g (t + 4) 24 w2 (hc5.next_ hb2) (by omega) (by omega))
      go_wp2_with fail
      rw [← HW2.out]
      refine HPK.out.mono ?_
      rintro e w3 ⟨x, hx, rfl, hc3, hg3⟩
      have hg13 := growB_trans hg2 hg3
      have HA8 := Lib.hid (amongB_any g (t + 4 + 2) w5.heap.size 8 9 w3 hc3 (by omega) _ (hn8.grown hg3))
      have HA9 := Lib.hid (amongB_any g (t + 4 + 2) w5.heap.size 9 9 w3 hc3 (by omega) _ (hn9.grown hg3))
      have hx0 : (0 : Int) ≤ (x : Int) := by omega
      have hx1 : (x : Int) < 24 := by omega
      clear hx hn8 hn9 HPK
      rcases (show (x : Int) / 23 = 0 ∨ (x : Int) / 23 = 1 by omega) with hq | hq
      · go_wp2_with fail
        refine HA8.out.mono ?_
        rintro e w4 ⟨y, hy, rfl, hc4, hg4⟩
        go_wp2_with fail
        go_meet
        exact ⟨y, rfl, hy.1, hy.2, hc4, growB_trans hg13 hg4⟩
      · go_wp2_with fail
        refine HA9.out.mono ?_
        rintro e w4 ⟨y, hy, rfl, hc4, hg4⟩
        go_wp2_with fail
        go_meet
        exact ⟨y, rfl, hy.1, hy.2, hc4, growB_trans hg13 hg4⟩
    case rest =>
      obtain ⟨rn, rfl, hrn0, hrn7, hc6, hg6⟩ := hcut
      obtain ⟨w6, HWC⟩ : ∃ wq : World, wq = wc := ⟨_, rfl⟩
      subst HWC
      have hM6 := hM5.grownG hg6 hgl
      have hg06 := growB_trans hg05 hg6
      obtain ⟨cl, rfl⟩ := Int.eq_ofNat_of_zero_le hcl0
      obtain ⟨rn, rfl⟩ := Int.eq_ofNat_of_zero_le hrn0
      have hcl : cl ≤ 7 := by omega
      have hrn : rn ≤ 7 := by omega
      clear hM5 hg6 hg05 hc5 hcl0 hrn0 hcl7 hrn7
      go_wp2_with fail
      go_loopw [3, 5, 6, 7] (fun v i _ _ wr => ∃ (j k : Nat) (F : List (List Bool)) (A : Option Addr) (c : Nat), j + k = rn ∧ i = .int .i64 j ∧ v = .slice A k c ∧ (F.length = k ∧ ∀ row ∈ F, row.length ≤ 7) ∧ OwM 37 4 (.bool) w.heap.size wr (.slice A k c) k F ∧ CurB B wr g (t + 8 + 14 * k) ∧ w.grownBy wr (some g)) (fun _ i _ _ _ => (intOf i).toNat)
      case atStart => exact ⟨rn, 0, [], _, 0, by omega, rfl, rfl, ⟨rfl, fun row hr => by simp at hr⟩, hM6, hc6, hg06⟩
      case round =>
        clear hM6 hc6 hg06
        obtain ⟨j, k, F, A, c, hjk, rfl, rfl, ⟨hFl, hF7⟩, hM, hc, hg⟩ := hrel
        have HFL := Lib.hid hFl
        have HF7 := Lib.hid hF7
        clear hFl hF7
        by_cases hj : 0 < j
        · have hj1 : (0 : Int) < (j : Int) := by omega
          obtain ⟨wo, HWO⟩ : ∃ wo : World, wo = wr := ⟨_, rfl⟩
          subst HWO
          have hzo := hg.size
          have hown0 : (wo.alloc (.cells #[] 4)).ownsRow wo.heap.size 4 1 (.slice (some ⟨wo.heap.size, 0, none⟩) 0 0) 0 (bls []) := World.ownsRow_lit wo #[] 0 (Nat.le_refl _) (Nat.zero_le _) rfl
          have hc0 := hc.next_ (below_box wo (.cells #[] 4))
          have hg0 : wo.grownBy (wo.alloc (.cells #[] 4)) (some g) := growB_box (grown_reflB wo _) _
          go_wp2_with fail
          go_loopw [6, 7] (fun v i wr => ∃ (q : Nat) (acc : List Bool) (A2 : Option Addr) (c2 : Nat), q ≤ cl ∧ i = .int .i64 q ∧ v = .slice A2 q c2 ∧ acc.length = q ∧ wr.ownsRow wo.heap.size 4 1 (.slice A2 q c2) q (bls acc) ∧ CurB B wr g (t + 8 + 14 * k + 2 * q) ∧ wo.grownBy wr (some g)) (fun _ i _ => cl - (intOf i).toNat)
          case atStart => exact ⟨0, [], _, 0, Nat.zero_le _, rfl, rfl, rfl, hown0, hc0, hg0⟩
          case round =>
            clear hown0 hc0 hg0
            obtain ⟨q, acc, A2, c2, hq, rfl, rfl, hal, hown, hcq, hgq⟩ := hrel
            have HAL := Lib.hid hal
            clear hal
            have hgl2 : g < wo.heap.size := by omega
            by_cases hlq : q < cl
            · have hq1 : (q : Int) < (cl : Int) := by omega
              go_wp2_with fail
              refine (oneB_any g (t + 8 + 14 * k + 2 * q) 3 wr hcq (by omega) (by omega)).mono ?_
              rintro e w7 ⟨bb, rfl, hc7, hg7⟩
              have hown7 := own_grownG hown hg7 hgl2
              have hgr7 := growB_trans hgq hg7
              have hz7 := hgr7.size
              go_wp2_with (at_builtin; refine app1 w7 rfl _ _ 37 4 rfl (.bool false) 1 Try.underlying37 info_bool rfl (by decide) wo.heap.size q c2 A2 (bls acc) rfl hown7 (.bool (!bb)) rfl rfl (by omega) hz7 ?_; intro A3 c3 w8 hown8 hg8 hb8)
              go_roundw
              case rel =>
                refine ⟨q + 1, acc ++ [!bb], A3, c3, by omega, by go_num, rfl, by rw [List.length_append, HAL.out]; rfl, ?_, ?_, ?_⟩
                · have e : bls acc ++ [.bool (!bb)] = bls (acc ++ [!bb]) := by simp [bls]
                  rw [← e]; exact hown8
                · exact (hc7.grown hg8 fun r hr => by have := (hown7.lt r hr).1; omega).mono (by omega)
                · exact growB_own hgr7 hg8 fun r hr => (hown7.lt r hr).1
              case measure => simp [intOf]; omega
            · have hq1 : ¬ (q : Int) < (cl : Int) := by omega
              obtain ⟨vs, hvs, HPU⟩ := hM.pushG (by decide) hgq hgl hzo (by rw [HAL.out]; exact hown)
              have hgr := growB_trans hg hgq
              have hz := hgr.size
              go_wp2_with (at_builtin; refine app1 wr rfl _ _ 24 37 rfl (.slice none 0 0) 24 Try.underlying24 info_bools rfl (by decide) w.heap.size k c A vs rfl hvs (.slice A2 q c2) rfl rfl (by omega) hz ?_; intro A3 c3 w8 hown8 hg8 hb8)
              have HF8 := Lib.hid (HPU hown8 hg8)
              have hc8 := (hcq.grown hg8 fun r hr => by have := (hvs.lt r hr).1; omega).mono (t' := t + 8 + 14 * (k + 1)) (by omega)
              have hg8' := growB_own hgr hg8 fun r hr => (hvs.lt r hr).1
              clear HPU hown8 hg8 hvs
              go_roundw
              case rel => exact ⟨j - 1, k + 1, _, A3, c3, by omega, by rw [show ((j : Int) - 1) = ((j - 1 : Nat) : Int) by omega], rfl, ⟨by rw [List.length_append, HFL.out]; rfl, fun row hr => by
                rcases List.mem_append.1 hr with hr | hr
                · exact HF7.out row hr
                · rw [List.mem_singleton.1 hr, HAL.out]; omega⟩, HF8.out, hc8, hg8'⟩
              case measure => simp [intOf]; omega
        · obtain rfl : j = 0 := by omega
          obtain rfl : k = rn := by omega
          have hj1 : ¬ (0 : Int) < ((0 : Nat) : Int) := by omega
          have HM := Lib.hid hM.toT
          by_cases hk0 : 0 < k
          · have hk1 : (0 : Int) < (k : Int) := by omega
            go_wp2_with fail
            refine (oneB_any g (t + 8 + 14 * k) 20 wr hc (by omega) (by omega)).mono ?_
            rintro e w7 ⟨bb, rfl, hc7, hg7⟩
            have hM7 := hM.grownG hg7 hgl
            have hgr7 := growB_trans hg hg7
            rcases bb with _ | _
            · have HM7 := Lib.hid hM7.toT
              clear hM hM7
              go_wp2_with fail
              go_ret
              exact ⟨A, k, c, F, rfl, HM7.out, ⟨by omega, fun row hr => by have := HF7.out row hr; omega⟩, hc7.mono (by omega), hgr7⟩
            · have HPK := Lib.hid (pickB_any g (t + 8 + 14 * k + 2) (k : Int) w7 hc7 (by omega) (by omega))
              go_wp2_with fail
              refine HPK.out.mono ?_
              rintro e w8 ⟨x, hx, rfl, hc8, hg8⟩
              have hM8 := hM7.grownG hg8 hgl
              have hgr8 := growB_trans hgr7 hg8
              have hz8 := hgr8.size
              have hxk : x < k := by omega
              have hx0 : (0 : Int) ≤ (x : Int) := by omega
              have hx1 : (x : Int) < (k : Int) := by omega
              obtain ⟨vs, hvs, hvl, hin, hnd⟩ := hM8
              have hvl2 : vs.length = k := by rw [hvl, HFL.out]
              have hu : vs[x]? = some (vs[x]'(by omega)) := List.getElem?_eq_getElem (by omega)
              have hF : F[x]? = some (F[x]'(by have := HFL.out; omega)) := List.getElem?_eq_getElem (by have := HFL.out; omega)
              generalize vs[x]'(by omega) = u at hu
              generalize F[x]'(by have := HFL.out; omega) = xs at hF
              have hrow := hin x u xs hu hF
              obtain ⟨U, ud, rfl⟩ := own_slice hrow
              obtain ⟨g0, hA0, -, -⟩ : ∃ g0, A = some ⟨g0, 0, none⟩ ∧ w.heap.size ≤ g0 ∧ k ≤ c := by
                rcases hvs.2 with ⟨e', h0⟩ | ⟨g', cap, cur, e', hb', -, h1, -⟩
                · omega
                · injection e' with e1 e2 e3
                  exact ⟨g', e1, hb', by omega⟩
              subst hA0
              have hcell : w8.cell? ⟨g0, x, none⟩ = some (.slice U xs.length ud) := (hvs.cellAt x (by omega)).trans hu
              have hxl : xs.length ≤ 1099511627776 := by have := HF7.out xs (List.mem_of_getElem? hF); omega
              have HIN := Lib.hid hin
              have HND := Lib.hid hnd
              have HU := Lib.hid hu
              have HF := Lib.hid hF
              have HVS := Lib.hid hvs
              clear hM hM7 hx hin hnd hu hF
              go_wp2_with (at_builtin; refine app1 w8 rfl _ _ 37 4 rfl (.bool false) 1 Try.underlying37 info_bool rfl (by decide) w.heap.size xs.length ud U (bls xs) rfl hrow (.bool true) rfl rfl hxl hz8 ?_; intro A3 c3 w9 hown9 hg9 hb9; have hcell9 : w9.cell? ⟨g0, x, none⟩ = some (.slice U xs.length ud) := (World.cell?_of_block (hg9.block g0 (cell_lt hcell) (fun e => own_ne hrow HVS.out (by decide) e.symm rfl))).trans hcell; have hvs9 := own_same HVS.out (fun b hb => hg9.block b (HVS.out.lt b hb).2 (fun e => own_ne hrow HVS.out (by decide) e.symm hb)); have hfz9 : w9.frozen? ⟨g0, x, none⟩ = false := hvs9.frozenAt x)
              have HO9 := Lib.hid hown9
              have HV9 := Lib.hid hvs9
              have HST := Lib.hid (hvs9.stored x (.slice A3 (xs.length + 1) c3)).1
              have hc9 := hc8.grown hg9 fun r hr => by have := (hrow.lt r hr).1; omega
              have hgr9 := growB_own hgr8 hg9 fun r hr => (hrow.lt r hr).1
              have hG0 : w9.grownBy (w9.setCell ⟨g0, x, none⟩ (.slice A3 (xs.length + 1) c3)) (some g0) := grown_setB (grown_reflB w9 _) rfl _
              have hg0w : w.heap.size ≤ g0 := (HVS.out.lt g0 rfl).1
              have hc10 := (hc9.grown hG0 fun r hr => by injection hr with hr; omega).mono (t' := t + 200) (by omega)
              have hgr10 := growB_own hgr9 hG0 fun r hr => by injection hr with hr; omega
              have hrows : ∀ (j : Nat) u ys, (vs.set x (.slice A3 (xs.length + 1) c3))[j]? = some u → (F.set x (xs ++ [true]))[j]? = some ys → (w9.setCell ⟨g0, x, none⟩ (.slice A3 (xs.length + 1) c3)).ownsRow w.heap.size 4 1 u ys.length (bls ys) := fun j u ys hj hy => by
                have far : ∀ {y : Value} {zs : List Bool}, w9.ownsRow w.heap.size 4 1 y zs.length (bls zs) → (w9.setCell ⟨g0, x, none⟩ (.slice A3 (xs.length + 1) c3)).ownsRow w.heap.size 4 1 y zs.length (bls zs) := fun ho =>
                  own_same ho fun b hb => Below.heap_setCell w9 ⟨g0, x, none⟩ _ b (fun e => own_ne ho HV9.out (by decide) hb (by have e2 : b = g0 := e; rw [e2]; rfl))
                by_cases hjx : j = x
                · subst hjx
                  rw [List.getElem?_set_self (by omega)] at hj
                  rw [List.getElem?_set_self (by have := HFL.out; omega)] at hy
                  injection hj with hj
                  injection hy with hy
                  subst hj
                  subst hy
                  have e : bls xs ++ [.bool true] = bls (xs ++ [true]) := by simp [bls]
                  refine far ?_
                  rw [← e, List.length_append]
                  exact HO9.out
                · rw [List.getElem?_set_ne (fun e => hjx e.symm)] at hj hy
                  have ho := HIN.out j u ys hj hy
                  exact far (own_same ho fun b hb => hg9.block b (ho.lt b hb).2 fun e => hjx (nodup_blocks HND.out hj HU.out hb e.symm))
              have HFIN := Lib.hid (And.intro HST.out (And.intro hrows (And.intro hc10 hgr10)))
              clear hown9 hvs9 hrow hg9 hb9 hrows hG0
              go_ret
              exact ⟨_, k, c, F.set x (xs ++ [true]), rfl, ⟨_, HFIN.out.1, by simp [hvl], HFIN.out.2.1⟩, ⟨by omega, fun row hr => by
                rcases List.mem_or_eq_of_mem_set hr with hr | rfl
                · have := HF7.out row hr; omega
                · have := HF7.out xs (List.mem_of_getElem? HF.out)
                  rw [List.length_append, List.length_singleton]; omega⟩, HFIN.out.2.2.1, HFIN.out.2.2.2⟩
          · obtain rfl : k = 0 := by omega
            clear hM
            go_wp2_with fail
            go_ret
            exact ⟨A, 0, c, F, rfl, HM.out, ⟨by omega, fun row hr => by have := HF7.out row hr; omega⟩, hc.mono (by omega), hg⟩
/-! ## The draws -/
def PolD (w : World) (e : Ending) (w' : World) : Prop := ∃ A n c F B m d S, e = .returned (.tuple #[.slice A n c, .slice B m d]) ∧ RdL (RV RB) w' A n F ∧ RdL RI w' B m S ∧ Below w.heap.size w w'
theorem draw_end {w w1 w2 : World} {c3 : Array Value} {A B : Option Addr} {n m c d : Nat} {F : List (List Bool)} {S : List Int} (hO : OwT (w.alloc (.cells c3 59)).heap.size w1 (.slice A n c) n F) (hg1 : (w.alloc (.cells c3 59)).grownBy w1 (some w.heap.size))
    (hown : w2.ownsRow w1.heap.size 3 1 (.slice B m d) m (ints S)) (hS : ∀ x ∈ S, -2000 ≤ x ∧ x ≤ 2000) (hg2 : w1.grownBy w2 (some w.heap.size)) : RdL (RV RB) w2 A n F ∧ RdL RI w2 B m S ∧ Below w.heap.size w w2 := by
  obtain ⟨A', c', e, hr⟩ := (hO.grown hg2 (by simp)).rd
  injection e with e1 _ _
  subst e1
  refine ⟨hr, rd_of_own (R := RI) hown (RI_ints fun x hx => by have := hS x hx; omega), ?_⟩
  exact (below_box w _).grown (growB_trans hg1 hg2) (by simp) fun r hr => by injection hr with hr; omega
set_option maxRecDepth 20000 in
set_option maxHeartbeats 2000000 in
theorem drawRP_any (A : Option Addr) (n c : Nat) (w : World) (h : CodeB w A n) : Calls Try.prog 6 #[.slice A n c] w (PolD w) := by
  obtain ⟨w0, HW0⟩ : ∃ wb, Hid (wb = w.alloc (.cells #[.slice A n c, .int .i64 0, .int .u64 0] 59)) := ⟨_, rfl⟩
  have hc0 : CurB w.heap.size w0 w.heap.size 0 := by rw [HW0.out]; exact CurB.made h rfl
  have hz0 : w.heap.size ≤ w0.heap.size := by rw [HW0.out]; simp
  have HCX := Lib.hid (context30_any w.heap.size w.heap.size 0 w0 hc0 hz0 (by omega))
  go_enter Try.func6, Try.ntmps6
  go_wp2_with fail
  rw [← HW0.out]
  refine HCX.out.mono ?_
  rintro e w1 ⟨A1, n1, c1, F, rfl, hO, ⟨hn8, hF8⟩, hc1, hg1⟩
  have hz1 := hg1.size
  have HST := Lib.hid (set30_any w.heap.size w.heap.size (0 + 200) (n1 : Int) w1 hc1 (by omega) (by omega) (by omega))
  go_wp2_with fail
  refine HST.out.mono ?_
  rintro e w2 ⟨A2, m2, c2, S, rfl, hown, hS, hm8, hc2, hg2⟩
  rw [HW0.out] at hO hg1
  have HE := Lib.hid (draw_end hO hg1 hown hS hg2)
  clear hO hown
  go_wp2_with fail
  go_ret2
  exact ⟨A1, n1, c1, F, A2, m2, c2, S, rfl, HE.out.1, HE.out.2.1, HE.out.2.2⟩
set_option maxRecDepth 20000 in
set_option maxHeartbeats 2000000 in
theorem drawCP_any (A : Option Addr) (n c : Nat) (w : World) (h : CodeB w A n) : Calls Try.prog 17 #[.slice A n c] w (PolD w) := by
  obtain ⟨w0, HW0⟩ : ∃ wb, Hid (wb = w.alloc (.cells #[.slice A n c, .int .i64 0, .int .u64 0] 59)) := ⟨_, rfl⟩
  have hc0 : CurB w.heap.size w0 w.heap.size 0 := by rw [HW0.out]; exact CurB.made h rfl
  have hz0 : w.heap.size ≤ w0.heap.size := by rw [HW0.out]; simp
  have HCX := Lib.hid (context30_any w.heap.size w.heap.size 0 w0 hc0 hz0 (by omega))
  go_enter Try.func17, Try.ntmps17
  go_wp2_with fail
  rw [← HW0.out]
  refine HCX.out.mono ?_
  rintro e w1 ⟨A1, n1, c1, F, rfl, hO, ⟨hn8, hF8⟩, hc1, hg1⟩
  have hz1 := hg1.size
  obtain ⟨A1', c1', e1, hr1⟩ := hO.rd
  injection e1 with e1 _ e3
  subst e1
  subst e3
  have HCO := Lib.hid (l30Columns_any A1 n1 c1 F w1 hr1)
  have hcn : colN F ≤ 8 := by
    by_cases h0 : 0 < F.length
    · unfold colN
      have hx : F[0]? = some (F[0]'h0) := List.getElem?_eq_getElem h0
      rw [List.getD, hx, Option.getD_some]
      exact hF8 _ (List.mem_of_getElem? hx)
    · have : F = [] := List.eq_nil_of_length_eq_zero (by omega)
      subst this
      simp [colN]
  have HST := Lib.hid (set30_any w.heap.size w.heap.size (0 + 200) (colN F : Int) w1 hc1 (by omega) (by omega) (by omega))
  go_wp2_with fail
  refine HCO.out.mono ?_
  rintro e w9 ⟨rfl, rfl⟩
  go_wp2_with fail
  refine HST.out.mono ?_
  rintro e w2 ⟨A2, m2, c2, S, rfl, hown, hS, hm8, hc2, hg2⟩
  rw [HW0.out] at hO hg1
  have HE := Lib.hid (draw_end hO hg1 hown hS hg2)
  clear hO hown hr1
  go_wp2_with fail
  go_ret2
  exact ⟨A1, n1, c1, F, A2, m2, c2, S, rfl, HE.out.1, HE.out.2.1, HE.out.2.2⟩
end Go.Proofs.Ytcihgkdaogfabaa
