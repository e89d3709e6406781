
/- Walks: the symmetries of an algebra: what the orders' closure does (the program's). -/
import Derived.Test.YtppnmpeicmlneaaHSF2
import Derived.Deep.RegionLawGrows
namespace Go.Proofs.Ytppnmpeicmlneaa
open Go.RowKit

/-- append of one slice to a row of slices of the call's own: the same block, or a new one. -/
theorem step_app1y (w0 : World) {ops : Array Oper} {o : Oper} {a : Act} {K : Act → World → Prop} {Q : Exit → Act → World → Prop} {E : Prop} (hgd : o.guard = none) (s x : Operand)
    (ho : o.op = .call { callee := .builtin .append, args := #[s, x], argTypes := #[70, 70] })
    (base n c : Nat) (A : Option Addr) (xs : List Value) (hs : a.eval s = .slice A n c) (hown : w0.ownsRow base 22 1 (.slice A n c) n xs) (u : Value) (hu : u.oneCell' = true) (hx : a.eval x = .slice (some ⟨w0.heap.size, 0, none⟩) 1 1)
    (hn : n ≤ 1048576) (hbase : base ≤ w0.heap.size)
    (hK : ∀ A' c' w', w'.ownsRow base 22 1 (.slice A' (n + 1) c') (n + 1) (xs ++ [u]) → w0.grownBy w' (Value.slice A n c).ownBlock → (∀ b ∈ obl (.slice A' (n + 1) c'), b ∈ obl (.slice A n c) ∨ w0.heap.size ≤ b) → K (a.put o.dst (.slice A' (n + 1) c')) w') :
    if Region.wanted o (yielded ops a.tmps) = true then Oper.wp Try.prog o a (w0.alloc (.cells #[u] 22)) K Q else E := by
  obtain ⟨i, hi, hz, hsize, hby⟩ := info_parts info_ints
  have hcells : ∀ j y, [u][j]? = some y → (w0.alloc (.cells #[u] 22)).cell? ((⟨w0.heap.size, 0, none⟩ : Addr).add j) = some y := by
    intro j y hj
    match j, hj with
    | 0, hj => simp at hj; subst hj; simp [Addr.add]
  have hone : ∀ y ∈ [u], y.oneCell' = true := by
    intro y hy
    simp at hy
    subst hy
    exact hu
  have lift : ∀ {w' : World} {row : Option Nat}, (w0.alloc (.cells #[u] 22)).grownBy w' row → (∀ k, row = some k → (Value.slice A n c).ownBlock = some k) → w0.grownBy w' (Value.slice A n c).ownBlock := by
    intro w' row hg hr
    exact ⟨hg.os, hg.tape, hg.output, Nat.le_trans (by simp) hg.size, fun k hk hne => (hg.block k (by simp; omega) (fun e => hne (hr k e.symm).symm)).trans (Below.heap_alloc w0 _ k hk)⟩
  by_cases hr : n + 1 ≤ c
  · obtain ⟨g, rfl⟩ : ∃ g, A = some ⟨g, 0, none⟩ := by
      rcases hown.2 with ⟨h0, -⟩ | ⟨g, cap, cur, hv, -⟩
      · injection h0 with _ _ h3
        omega
      · injection hv with hv
        exact ⟨g, hv⟩
    have hw : Region.wanted o (yielded ops a.tmps) = true := by simp [Region.wanted, hgd]
    rw [if_pos hw]
    refine wp_append_own_spare (w0.alloc (.cells #[u] 22)) s x 70 ho base 22 i 1 Try.underlying70 hi hsize g n c xs hs (hown.alloc _) ⟨w0.heap.size, 0, none⟩ 1 1 [u] hx rfl hcells hone hr ?_
    intro w' h2 h3
    exact hK _ _ _ h2 (lift h3 fun k e => e) (fun b hb => .inl hb)
  · refine step_append_grows hgd s x 70 ho 22 i (.slice none 0 0) 1 24 Try.underlying70 hi hz hsize hby rfl (by omega) A n c xs hs ?_ hown.1 ?_ ⟨w0.heap.size, 0, none⟩ 1 1 [u] hx rfl hcells hone (by omega) (by unfold maxLen; omega) (by omega) ?_
    · intro e
      subst e
      rcases hown.2 with ⟨h0, h1⟩ | ⟨g, cap, cur, hv, -⟩
      · injection h0 with _ _ h3
        exact ⟨h1, h3⟩
      · injection hv with hv
        cases hv
    · intro b e j y hy
      subst e
      obtain ⟨g, rfl⟩ : ∃ g, b = ⟨g, 0, none⟩ := by
        rcases hown.2 with ⟨h0, -⟩ | ⟨g, cap, cur, hv, -⟩
        · injection h0 with h0
          cases h0
        · injection hv with hv
          injection hv with hv
          exact ⟨g, hv⟩
      have hjl := (List.getElem?_eq_some_iff.1 hy).1
      have h1 := hown.1
      have := ((hown.alloc (.cells #[u] 22)).cellAt j (by omega)).trans hy
      have ea : (⟨g, 0, none⟩ : Addr).add j = ⟨g, j, none⟩ := by
        unfold Addr.add
        split
        · rename_i h0; subst h0; rfl
        · simp
      rw [ea]
      exact this
    · intro v' w' h2 h3
      obtain ⟨A', c', rfl⟩ := own_slice h2
      refine hK A' c' w' (own_mono h2 (by simp; omega)) (lift h3 fun k e => by cases e) (fun b hb => .inr ?_)
      have := (h2.lt b (mem_obl.1 hb)).1
      simp at this
      omega

/-- The orders that keep the algebra. -/
noncomputable def symF (x : AlgebraM) (s : List Int) : Bool := eqC (ren x s) x
noncomputable def symL (x : AlgebraM) (l : List (List Int)) : List (List Int) := l.filter (symF x)
theorem symL_snoc (x : AlgebraM) (l : List (List Int)) (s : List Int) : symL x (l ++ [s]) = if symF x s then symL x l ++ [s] else symL x l := by
  unfold symL
  rw [List.filter_append]
  rcases h : symF x s with _ | _ <;> simp [h]
structure SymC where
  x : AlgebraM
  n : Nat
  B : Option Addr
  m : Nat
  d : Nat
  wL : World
  ga : Nat
  gl : Nat
/-- The list so far. -/
def SymC.rest (C : SymC) (w : World) (L : List (List Int)) (bl : List Nat) : Prop :=
  ∃ (A : Option Addr) (c : Nat) (vs : List Value), Blk w C.gl 70 #[.slice A L.length c] ∧ OwMv 22 3 (.int .i64) C.wL.heap.size w (.slice A L.length c) L.length vs L ∧ bl = [C.ga, C.gl] ++ (obl (.slice A L.length c) ++ vs.filterMap Value.ownBlock)
def SymC.Q (C : SymC) (w : World) (d : List (List Int)) (bl : List Nat) : Prop :=
  ∃ rl, bl = List.range C.wL.heap.size ++ rl ∧ (∀ b < C.wL.heap.size, w.heap[b]? = C.wL.heap[b]?) ∧ C.wL.heap.size ≤ w.heap.size ∧ Blk w C.ga 41 #[.int .i64 (C.n : Int), .slice C.B C.m C.d] ∧ C.rest w (symL C.x d) rl
structure SymC.Ok (C : SymC) : Prop where
  rd : shAlgebra.rd C.wL [.int .i64 (C.n : Int), .slice C.B C.m C.d] C.x
  small : SmallP C.x
  hn : C.x.1 = (C.n : Int)
  dist : C.ga ≠ C.gl
  ge : C.wL.heap.size ≤ C.ga ∧ C.wL.heap.size ≤ C.gl
theorem OwMv.sameB {lo n : Nat} {w w' : World} {v : Value} {vs : List Value} {xss : List (List Int)} (h : OwMv 22 3 (.int .i64) lo w v n vs xss) (hs : ∀ b ∈ obl v ++ vs.filterMap Value.ownBlock, w'.heap[b]? = w.heap[b]?) : OwMv 22 3 (.int .i64) lo w' v n vs xss :=
  ⟨own_same h.1 fun b hb => hs b (List.mem_append_left _ (mem_obl.2 hb)), h.2.1, fun k u xs hu hx => own_same (h.2.2.1 k u xs hu hx) fun b hb => hs b (List.mem_append_right _ (List.mem_filterMap.2 ⟨u, List.mem_of_getElem? hu, hb⟩)), h.2.2.2⟩
theorem OwMv.lt {lo n : Nat} {w : World} {v : Value} {vs : List Value} {xss : List (List Int)} (h : OwMv 22 3 (.int .i64) lo w v n vs xss) : ∀ b ∈ obl v ++ vs.filterMap Value.ownBlock, lo ≤ b ∧ b < w.heap.size := by
  intro b hb
  rcases List.mem_append.1 hb with hb | hb
  · exact h.1.lt b (mem_obl.1 hb)
  · obtain ⟨u, hu, hub⟩ := List.mem_filterMap.1 hb
    obtain ⟨k, hk⟩ := List.getElem?_of_mem hu
    have hkl := (List.getElem?_eq_some_iff.1 hk).1
    have := h.2.1
    exact (h.2.2.1 k u _ hk (List.getElem?_eq_getElem (by omega))).lt b hub
theorem OwMv.push {lo n : Nat} {w w1 : World} {v : Value} {vs : List Value} {xss : List (List Int)} (h : OwMv 22 3 (.int .i64) lo w v n vs xss) (hb : Below w.heap.size w w1) (hlo : lo ≤ w.heap.size) {u : Value} {xs : List Int} (hu : w1.ownsRow w.heap.size 3 1 u xs.length (ints xs)) :
    w1.ownsRow lo 22 1 v n vs ∧ ∀ {w2 : World} {v' : Value}, w2.ownsRow lo 22 1 v' (n + 1) (vs ++ [u]) → w1.grownBy w2 v.ownBlock → OwMv 22 3 (.int .i64) lo w2 v' (n + 1) (vs ++ [u]) (xss ++ [xs]) := by
  have hl := h.lt
  obtain ⟨h1, h2, h3, h4⟩ := h
  have hk1 := own_next h1 hb
  refine ⟨hk1, fun {w2 v'} hown hg => ⟨hown, by simp [h2], ?_, ?_⟩⟩
  · have far : ∀ {base : Nat} {y : Value} {ys : List Int}, w1.ownsRow base 3 1 y ys.length (ints ys) → w2.ownsRow base 3 1 y ys.length (ints ys) := fun ho =>
      own_same ho fun b hb => hg.block b (ho.lt b hb).2 (fun e => own_ne ho hk1 (by decide) hb e.symm)
    intro k y ys hy hx
    by_cases hk : k < vs.length
    · rw [List.getElem?_append_left hk] at hy
      rw [List.getElem?_append_left (by omega)] at hx
      exact far (own_next (h3 k y ys hy hx) hb)
    · have hk2 : k = vs.length := by
        have := (List.getElem?_eq_some_iff.1 hy).1
        simp at this
        omega
      subst hk2
      rw [List.getElem?_append_right (Nat.le_refl _)] at hy
      rw [h2, List.getElem?_append_right (Nat.le_refl _)] at hx
      simp at hy hx
      subst hy
      subst hx
      exact far (own_mono hu hlo)
  · rw [List.filterMap_append]
    cases hub : u.ownBlock with
    | none => simpa [hub] using h4
    | some g =>
      simp only [List.filterMap_cons, hub, List.filterMap_nil]
      rw [List.nodup_append]
      refine ⟨h4, by simp, fun a ha b hb' => ?_⟩
      simp at hb'
      subst hb'
      have h5 := (hl a (List.mem_append_right _ ha)).2
      have h6 := (hu.lt b hub).1
      omega
theorem SymC.Q_lt {C : SymC} {w : World} {d : List (List Int)} {bl : List Nat} (h : C.Q w d bl) : ∀ b ∈ bl, b < w.heap.size := by
  obtain ⟨rl, rfl, -, hz, hA, A, c, vs, h1, h2, rfl⟩ := h
  intro b hb
  rcases List.mem_append.1 hb with hb | hb
  · have := List.mem_range.1 hb
    omega
  · rcases List.mem_append.1 hb with hb | hb
    · simp at hb
      rcases hb with rfl | rfl
      · exact hA.lt
      · exact h1.lt
    · exact (h2.lt b hb).2
theorem SymC.Q_sub {C : SymC} {w : World} {d : List (List Int)} {bl : List Nat} (h : C.Q w d bl) : ∀ g ∈ [C.ga, C.gl], g ∈ bl := by
  obtain ⟨rl, rfl, -, -, -, A, c, vs, h1, h2, rfl⟩ := h
  intro g hg
  exact List.mem_append_right _ (List.mem_append_left _ hg)
theorem SymC.Q_stab {C : SymC} {w w' : World} {d : List (List Int)} {bl : List Nat} (h : C.Q w d bl) (hz : w.heap.size ≤ w'.heap.size) (hs : ∀ b ∈ bl, w'.heap[b]? = w.heap[b]?) : C.Q w' d bl := by
  have hsub := SymC.Q_sub h
  obtain ⟨rl, rfl, h1, h2, hA, A, c, vs, g1, g2, rfl⟩ := h
  exact ⟨_, rfl, fun b hb => (hs b (List.mem_append_left _ (List.mem_range.2 hb))).trans (h1 b hb), Nat.le_trans h2 hz, (hs _ (hsub C.ga (by simp))).trans hA, A, c, vs, (hs _ (hsub C.gl (by simp))).trans g1, g2.sameB fun b hb => hs b (List.mem_append_right _ (List.mem_append_right _ hb)), rfl⟩
theorem SymC.Q_rd {C : SymC} {w : World} {d : List (List Int)} {bl : List Nat} (hC : C.Ok) (h : C.Q w d bl) : shAlgebra.rd w [.int .i64 (C.n : Int), .slice C.B C.m C.d] C.x := by
  obtain ⟨rl, rfl, h1, -, -, -⟩ := h
  exact shAlgebra.stab hC.rd h1
theorem SymC.keep {C : SymC} {w w' : World} {p : List Int} {d : List (List Int)} {bl : List Nat} (h : C.Q w d bl) (hb : Below w.heap.size w w') (hs : symF C.x p = false) : C.Q w' (d ++ [p]) bl := by
  have hlt := SymC.Q_lt h
  obtain ⟨rl, e, g1, g2, hA, hr⟩ := SymC.Q_stab h hb.size fun b hb' => hb.block b (hlt b hb')
  exact ⟨rl, e, g1, g2, hA, by rw [symL_snoc, hs]; exact hr⟩
end Go.Proofs.Ytppnmpeicmlneaa
