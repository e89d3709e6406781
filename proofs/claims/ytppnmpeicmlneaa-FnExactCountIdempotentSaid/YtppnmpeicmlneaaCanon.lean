
/- Walks: the canonical form of an algebra: what the orders' closure does. -/
import Derived.Test.YtppnmpeicmlneaaEach3
namespace Go.Proofs.Ytppnmpeicmlneaa
open Go.RowKit

/-- Where the boxes of canonical stand, and what the algebra's cells are. -/
structure CanC where
  x : AlgebraM
  n : Nat
  CL : Nat
  B : Option Addr
  m : Nat
  d : Nat
  wL : World
  ga : Nat
  gf : Nat
  gc : Nat
  gb : Nat
def CanC.rest (C : CanC) (w : World) : Option (List Int) → List Nat → Prop
  | none, bl => Blk w C.gf 22 #[.slice none 0 0] ∧ Blk w C.gc 22 #[.slice none 0 0] ∧ Blk w C.gb 41 #[.int .i64 0, .slice none 0 0] ∧ bl = [C.ga, C.gf, C.gc, C.gb]
  | some b, bl => ∃ (Af : Option Addr) (cf : Nat) (Ac : Option Addr) (cc : Nat) (vb : Value) (css : List (List Value)) (bls : List (List Nat)), Blk w C.gf 22 #[.slice Af C.n cf] ∧ Blk w C.gc 22 #[.slice Ac C.CL cc] ∧ Blk w C.gb 41 #[.int .i64 (C.n : Int), vb] ∧
      w.ownsRow C.wL.heap.size 3 1 (.slice Af C.n cf) C.n (ints b) ∧ w.ownsRow C.wL.heap.size 3 1 (.slice Ac C.CL cc) C.CL (ints (codeL (ren C.x b).2)) ∧ PO C.wL.heap.size w vb (ren C.x b).2 css bls ∧
      bl = [C.ga, C.gf, C.gc, C.gb] ++ (obl (.slice Af C.n cf) ++ (obl (.slice Ac C.CL cc) ++ (obl vb ++ bls.flatten)))
/-- The state once d orders have been handed over. -/
def CanC.Q (C : CanC) (w : World) (d : List (List Int)) (bl : List Nat) : Prop :=
  ∃ rl, bl = List.range C.wL.heap.size ++ rl ∧ (∀ b < C.wL.heap.size, w.heap[b]? = C.wL.heap[b]?) ∧ C.wL.heap.size ≤ w.heap.size ∧ Blk w C.ga 41 #[.int .i64 (C.n : Int), .slice C.B C.m C.d] ∧ (∀ p ∈ d, PermL C.n p) ∧ C.rest w (bestOf C.x d) rl
structure CanC.Ok (C : CanC) : Prop where
  rd : shAlgebra.rd C.wL [.int .i64 (C.n : Int), .slice C.B C.m C.d] C.x
  small : SmallP C.x
  hn : C.x.1 = (C.n : Int)
  hCL : (codeL C.x.2).length = C.CL
  dist : C.gf ≠ C.gc ∧ C.gf ≠ C.gb ∧ C.gc ≠ C.gb ∧ C.ga ≠ C.gb ∧ C.ga ≠ C.gf ∧ C.ga ≠ C.gc
  ge : C.wL.heap.size ≤ C.ga ∧ C.wL.heap.size ≤ C.gf ∧ C.wL.heap.size ≤ C.gc ∧ C.wL.heap.size ≤ C.gb
theorem CanC.rest_stab {C : CanC} {w w' : World} {o : Option (List Int)} {bl : List Nat} (h : C.rest w o bl) (hz : w.heap.size ≤ w'.heap.size) (hs : ∀ b ∈ bl, w'.heap[b]? = w.heap[b]?) : C.rest w' o bl := by
  rcases o with _ | b
  · obtain ⟨h1, h2, h3, rfl⟩ := h
    exact ⟨(hs _ (by simp)).trans h1, (hs _ (by simp)).trans h2, (hs _ (by simp)).trans h3, rfl⟩
  · obtain ⟨Af, cf, Ac, cc, vb, css, bls, h1, h2, h3, h4, h5, h6, rfl⟩ := h
    refine ⟨Af, cf, Ac, cc, vb, css, bls, (hs _ (by simp)).trans h1, (hs _ (by simp)).trans h2, (hs _ (by simp)).trans h3, own_same h4 fun b hb => hs b ?_, own_same h5 fun b hb => hs b ?_, h6.same hz fun b hb => hs b ?_, rfl⟩
    · exact List.mem_append_right _ (List.mem_append_left _ (mem_obl.2 hb))
    · exact List.mem_append_right _ (List.mem_append_right _ (List.mem_append_left _ (mem_obl.2 hb)))
    · exact List.mem_append_right _ (List.mem_append_right _ (List.mem_append_right _ hb))
theorem CanC.Q_lt {C : CanC} {w : World} {d : List (List Int)} {bl : List Nat} (h : C.Q w d bl) : ∀ b ∈ bl, b < w.heap.size := by
  obtain ⟨rl, rfl, -, hz, hA, -, hr⟩ := h
  intro b hb
  rcases List.mem_append.1 hb with hb | hb
  · have := List.mem_range.1 hb
    omega
  · generalize bestOf C.x d = o at hr
    rcases o with _ | p
    · obtain ⟨h1, h2, h3, rfl⟩ := hr
      simp at hb
      rcases hb with rfl | rfl | rfl | rfl
      · exact hA.lt
      · exact h1.lt
      · exact h2.lt
      · exact h3.lt
    · obtain ⟨Af, cf, Ac, cc, vb, css, bls, h1, h2, h3, h4, h5, h6, rfl⟩ := hr
      rcases List.mem_append.1 hb with hb | hb
      · simp at hb
        rcases hb with rfl | rfl | rfl | rfl
        · exact hA.lt
        · exact h1.lt
        · exact h2.lt
        · exact h3.lt
      · rcases List.mem_append.1 hb with hb | hb
        · exact (h4.lt b (mem_obl.1 hb)).2
        · rcases List.mem_append.1 hb with hb | hb
          · exact (h5.lt b (mem_obl.1 hb)).2
          · exact (h6.2.2.2 b hb).2
theorem CanC.Q_sub {C : CanC} {w : World} {d : List (List Int)} {bl : List Nat} (h : C.Q w d bl) : ∀ g ∈ [C.ga, C.gf, C.gc, C.gb], g ∈ bl := by
  obtain ⟨rl, rfl, -, -, -, -, hr⟩ := h
  intro g hg
  refine List.mem_append_right _ ?_
  generalize bestOf C.x d = o at hr
  rcases o with _ | p
  · obtain ⟨-, -, -, rfl⟩ := hr
    exact hg
  · obtain ⟨Af, cf, Ac, cc, vb, css, bls, h1, h2, h3, h4, h5, h6, rfl⟩ := hr
    exact List.mem_append_left _ hg
theorem CanC.Q_stab {C : CanC} {w w' : World} {d : List (List Int)} {bl : List Nat} (h : C.Q w d bl) (hz : w.heap.size ≤ w'.heap.size) (hs : ∀ b ∈ bl, w'.heap[b]? = w.heap[b]?) : C.Q w' d bl := by
  have hsub := C.Q_sub h
  obtain ⟨rl, rfl, h1, h2, hA, hp, hr⟩ := h
  exact ⟨rl, rfl, fun b hb => (hs b (List.mem_append_left _ (List.mem_range.2 hb))).trans (h1 b hb), Nat.le_trans h2 hz, (hs _ (hsub C.ga (by simp))).trans hA, hp, CanC.rest_stab hr hz fun b hb => hs b (List.mem_append_right _ hb)⟩
theorem CanC.Q_rd {C : CanC} {w : World} {d : List (List Int)} {bl : List Nat} (hC : C.Ok) (h : C.Q w d bl) : shAlgebra.rd w [.int .i64 (C.n : Int), .slice C.B C.m C.d] C.x := by
  obtain ⟨rl, rfl, h1, -, -, -, -⟩ := h
  exact shAlgebra.stab hC.rd h1
/-- A new best one, laid behind w. -/
theorem CanC.rest_new {C : CanC} (hC : C.Ok) {w w' : World} {p : List Int} {Af : Option Addr} {cf : Nat} {Ac : Option Addr} {cc : Nat} {vb : Value} {css : List (List Value)} {bls : List (List Nat)} {d : List (List Int)} {bl : List Nat}
    (h : C.Q w d bl) (hp : PermL C.n p) (hz : w.heap.size ≤ w'.heap.size) (hfar : ∀ b < w.heap.size, b ∉ [C.gf, C.gc, C.gb] → w'.heap[b]? = w.heap[b]?)
    (h1 : Blk w' C.gf 22 #[.slice Af C.n cf]) (h2 : Blk w' C.gc 22 #[.slice Ac C.CL cc]) (h3 : Blk w' C.gb 41 #[.int .i64 (C.n : Int), vb])
    (h4 : w'.ownsRow w.heap.size 3 1 (.slice Af C.n cf) C.n (ints p)) (h5 : w'.ownsRow w.heap.size 3 1 (.slice Ac C.CL cc) C.CL (ints (codeL (ren C.x p).2))) (h6 : PO w.heap.size w' vb (ren C.x p).2 css bls)
    (hbest : bestOf C.x (d ++ [p]) = some p) : ∃ bl', C.Q w' (d ++ [p]) bl' ∧ ∀ b ∈ bl', b ∈ bl ∨ w.heap.size ≤ b := by
  have hsub := C.Q_sub h
  obtain ⟨rl, rfl, g1, g2, hA, gp, hr⟩ := h
  have hga : C.ga ∉ [C.gf, C.gc, C.gb] := by
    have := hC.dist
    simp
    exact ⟨this.2.2.2.2.1, this.2.2.2.2.2, this.2.2.2.1⟩
  refine ⟨List.range C.wL.heap.size ++ ([C.ga, C.gf, C.gc, C.gb] ++ (obl (.slice Af C.n cf) ++ (obl (.slice Ac C.CL cc) ++ (obl vb ++ bls.flatten)))), ⟨_, rfl, fun b hb => ?_, Nat.le_trans g2 hz, (hfar _ hA.lt hga).trans hA, fun q hq => ?_, ?_⟩, fun b hb => ?_⟩
  · refine (hfar b (by omega) fun hh => ?_).trans (g1 b hb)
    have := hC.ge
    simp at hh
    omega
  · rw [List.mem_append] at hq
    rcases hq with hq | hq
    · exact gp q hq
    · rw [List.mem_singleton] at hq
      rw [hq]
      exact hp
  · rw [hbest]
    exact ⟨Af, cf, Ac, cc, vb, css, bls, h1, h2, h3, own_mono h4 g2, own_mono h5 g2, h6.mono g2, rfl⟩
  · rcases List.mem_append.1 hb with hb | hb
    · exact .inl (List.mem_append_left _ hb)
    · rcases List.mem_append.1 hb with hb | hb
      · exact .inl (hsub b hb)
      · rcases List.mem_append.1 hb with hb | hb
        · exact .inr (h4.lt b (mem_obl.1 hb)).1
        · rcases List.mem_append.1 hb with hb | hb
          · exact .inr (h5.lt b (mem_obl.1 hb)).1
          · exact .inr (h6.2.2.2 b hb).1
theorem CanC.rest_keep {C : CanC} {w w' : World} {p : List Int} {d : List (List Int)} {bl : List Nat} (h : C.Q w d bl) (hp : PermL C.n p) (hb : Below w.heap.size w w') (hbest : bestOf C.x (d ++ [p]) = bestOf C.x d) : C.Q w' (d ++ [p]) bl := by
  have hlt := C.Q_lt h
  obtain ⟨rl, e, g1, g2, hA, gp, hr⟩ := C.Q_stab h hb.size fun b hb' => hb.block b (hlt b hb')
  refine ⟨rl, e, g1, g2, hA, fun q hq => ?_, by rw [hbest]; exact hr⟩
  rw [List.mem_append] at hq
  rcases hq with hq | hq
  · exact gp q hq
  · rw [List.mem_singleton] at hq
    rw [hq]
    exact hp
end Go.Proofs.Ytppnmpeicmlneaa
