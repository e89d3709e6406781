
/- Walks: the canonical form of an algebra: what the orders' closure does. -/
import Derived.Test.YtbpdbimdefdefaaEach
namespace Go.Proofs.Ytbpdbimdefdefaa
open Go.RowKit

/-- Where the boxes of canonical stand, and what the algebra's cells are. -/
structure CanC where
  x : AlgebraM
  n : Nat
  CL : Nat
  B : Option Addr
  m : Nat
  d : Nat
  wL : World
  ga : Nat
  gf : Nat
  gc : Nat
  gb : Nat
def CanC.rest (C : CanC) (w : World) : Option (List Int) → List Nat → Prop
  | none, bl => Blk w C.gf 75 #[.slice none 0 0] ∧ Blk w C.gc 75 #[.slice none 0 0] ∧ Blk w C.gb 38 #[.int .i64 0, .slice none 0 0] ∧ bl = [C.ga, C.gf, C.gc, C.gb]
  | some b, bl => ∃ (Af : Option Addr) (cf : Nat) (Ac : Option Addr) (cc : Nat) (vb : Value) (css : List (List Value)) (bls : List (List Nat)), Blk w C.gf 75 #[.slice Af C.n cf] ∧ Blk w C.gc 75 #[.slice Ac C.CL cc] ∧ Blk w C.gb 38 #[.int .i64 (C.n : Int), vb] ∧
      w.ownsRow C.wL.heap.size 3 1 (.slice Af C.n cf) C.n (ints b) ∧ w.ownsRow C.wL.heap.size 3 1 (.slice Ac C.CL cc) C.CL (ints (codeL (ren C.x b).2)) ∧ PO C.wL.heap.size w vb (ren C.x b).2 css bls ∧
      bl = [C.ga, C.gf, C.gc, C.gb] ++ (obl (.slice Af C.n cf) ++ (obl (.slice Ac C.CL cc) ++ (obl vb ++ bls.flatten)))
/-- The state once d orders have been handed over. -/
def CanC.Q (C : CanC) (w : World) (d : List (List Int)) (bl : List Nat) : Prop :=
  ∃ rl, bl = List.range C.wL.heap.size ++ rl ∧ (∀ b < C.wL.heap.size, w.heap[b]? = C.wL.heap[b]?) ∧ C.wL.heap.size ≤ w.heap.size ∧ Blk w C.ga 38 #[.int .i64 (C.n : Int), .slice C.B C.m C.d] ∧ (∀ p ∈ d, PermL C.n p) ∧ C.rest w (bestOf C.x d) rl
structure CanC.Ok (C : CanC) : Prop where
  rd : shAlgebra.rd C.wL [.int .i64 (C.n : Int), .slice C.B C.m C.d] C.x
  small : SmallP C.x
  hn : C.x.1 = (C.n : Int)
  hCL : (codeL C.x.2).length = C.CL
  dist : C.gf ≠ C.gc ∧ C.gf ≠ C.gb ∧ C.gc ≠ C.gb ∧ C.ga ≠ C.gb ∧ C.ga ≠ C.gf ∧ C.ga ≠ C.gc
  ge : C.wL.heap.size ≤ C.ga ∧ C.wL.heap.size ≤ C.gf ∧ C.wL.heap.size ≤ C.gc ∧ C.wL.heap.size ≤ C.gb
theorem CanC.rest_stab {C : CanC} {w w' : World} {o : Option (List Int)} {bl : List Nat} (h : C.rest w o bl) (hz : w.heap.size ≤ w'.heap.size) (hs : ∀ b ∈ bl, w'.heap[b]? = w.heap[b]?) : C.rest w' o bl := by
  rcases o with _ | b
  · obtain ⟨h1, h2, h3, rfl⟩ := h
    exact ⟨(hs _ (by simp)).trans h1, (hs _ (by simp)).trans h2, (hs _ (by simp)).trans h3, rfl⟩
  · obtain ⟨Af, cf, Ac, cc, vb, css, bls, h1, h2, h3, h4, h5, h6, rfl⟩ := h
    refine ⟨Af, cf, Ac, cc, vb, css, bls, (hs _ (by simp)).trans h1, (hs _ (by simp)).trans h2, (hs _ (by simp)).trans h3, own_same h4 fun b hb => hs b ?_, own_same h5 fun b hb => hs b ?_, h6.same hz fun b hb => hs b ?_, rfl⟩
    · exact List.mem_append_right _ (List.mem_append_left _ (mem_obl.2 hb))
    · exact List.mem_append_right _ (List.mem_append_right _ (List.mem_append_left _ (mem_obl.2 hb)))
    · exact List.mem_append_right _ (List.mem_append_right _ (List.mem_append_right _ hb))
theorem CanC.Q_lt {C : CanC} {w : World} {d : List (List Int)} {bl : List Nat} (h : C.Q w d bl) : ∀ b ∈ bl, b < w.heap.size := by
  obtain ⟨rl, rfl, -, hz, hA, -, hr⟩ := h
  intro b hb
  rcases List.mem_append.1 hb with hb | hb
  · have := List.mem_range.1 hb
    omega
  · generalize bestOf C.x d = o at hr
    rcases o with _ | p
    · obtain ⟨h1, h2, h3, rfl⟩ := hr
      simp at hb
      rcases hb with rfl | rfl | rfl | rfl
      · exact hA.lt
      · exact h1.lt
      · exact h2.lt
      · exact h3.lt
    · obtain ⟨Af, cf, Ac, cc, vb, css, bls, h1, h2, h3, h4, h5, h6, rfl⟩ := hr
      rcases List.mem_append.1 hb with hb | hb
      · simp at hb
        rcases hb with rfl | rfl | rfl | rfl
        · exact hA.lt
        · exact h1.lt
        · exact h2.lt
        · exact h3.lt
      · rcases List.mem_append.1 hb with hb | hb
        · exact (h4.lt b (mem_obl.1 hb)).2
        · rcases List.mem_append.1 hb with hb | hb
          · exact (h5.lt b (mem_obl.1 hb)).2
          · exact (h6.2.2.2 b hb).2
theorem CanC.Q_sub {C : CanC} {w : World} {d : List (List Int)} {bl : List Nat} (h : C.Q w d bl) : ∀ g ∈ [C.ga, C.gf, C.gc, C.gb], g ∈ bl := by
  obtain ⟨rl, rfl, -, -, -, -, hr⟩ := h
  intro g hg
  refine List.mem_append_right _ ?_
  generalize bestOf C.x d = o at hr
  rcases o with _ | p
  · obtain ⟨-, -, -, rfl⟩ := hr
    exact hg
  · obtain ⟨Af, cf, Ac, cc, vb, css, bls, h1, h2, h3, h4, h5, h6, rfl⟩ := hr
    exact List.mem_append_left _ hg
theorem CanC.Q_stab {C : CanC} {w w' : World} {d : List (List Int)} {bl : List Nat} (h : C.Q w d bl) (hz : w.heap.size ≤ w'.heap.size) (hs : ∀ b ∈ bl, w'.heap[b]? = w.heap[b]?) : C.Q w' d bl := by
  have hsub := C.Q_sub h
  obtain ⟨rl, rfl, h1, h2, hA, hp, hr⟩ := h
  exact ⟨rl, rfl, fun b hb => (hs b (List.mem_append_left _ (List.mem_range.2 hb))).trans (h1 b hb), Nat.le_trans h2 hz, (hs _ (hsub C.ga (by simp))).trans hA, hp, CanC.rest_stab hr hz fun b hb => hs b (List.mem_append_right _ hb)⟩
theorem CanC.Q_rd {C : CanC} {w : World} {d : List (List Int)} {bl : List Nat} (hC : C.Ok) (h : C.Q w d bl) : shAlgebra.rd w [.int .i64 (C.n : Int), .slice C.B C.m C.d] C.x := by
  obtain ⟨rl, rfl, h1, -, -, -, -⟩ := h
  exact shAlgebra.stab hC.rd h1
/-- A new best one, laid behind w. -/
theorem CanC.rest_new {C : CanC} (hC : C.Ok) {w w' : World} {p : List Int} {Af : Option Addr} {cf : Nat} {Ac : Option Addr} {cc : Nat} {vb : Value} {css : List (List Value)} {bls : List (List Nat)} {d : List (List Int)} {bl : List Nat}
    (h : C.Q w d bl) (hp : PermL C.n p) (hz : w.heap.size ≤ w'.heap.size) (hfar : ∀ b < w.heap.size, b ∉ [C.gf, C.gc, C.gb] → w'.heap[b]? = w.heap[b]?)
    (h1 : Blk w' C.gf 75 #[.slice Af C.n cf]) (h2 : Blk w' C.gc 75 #[.slice Ac C.CL cc]) (h3 : Blk w' C.gb 38 #[.int .i64 (C.n : Int), vb])
    (h4 : w'.ownsRow w.heap.size 3 1 (.slice Af C.n cf) C.n (ints p)) (h5 : w'.ownsRow w.heap.size 3 1 (.slice Ac C.CL cc) C.CL (ints (codeL (ren C.x p).2))) (h6 : PO w.heap.size w' vb (ren C.x p).2 css bls)
    (hbest : bestOf C.x (d ++ [p]) = some p) : ∃ bl', C.Q w' (d ++ [p]) bl' ∧ ∀ b ∈ bl', b ∈ bl ∨ w.heap.size ≤ b := by
  have hsub := C.Q_sub h
  obtain ⟨rl, rfl, g1, g2, hA, gp, hr⟩ := h
  have hga : C.ga ∉ [C.gf, C.gc, C.gb] := by
    have := hC.dist
    simp
    exact ⟨this.2.2.2.2.1, this.2.2.2.2.2, this.2.2.2.1⟩
  refine ⟨List.range C.wL.heap.size ++ ([C.ga, C.gf, C.gc, C.gb] ++ (obl (.slice Af C.n cf) ++ (obl (.slice Ac C.CL cc) ++ (obl vb ++ bls.flatten)))), ⟨_, rfl, fun b hb => ?_, Nat.le_trans g2 hz, (hfar _ hA.lt hga).trans hA, fun q hq => ?_, ?_⟩, fun b hb => ?_⟩
  · refine (hfar b (by omega) fun hh => ?_).trans (g1 b hb)
    have := hC.ge
    simp at hh
    omega
  · rw [List.mem_append] at hq
    rcases hq with hq | hq
    · exact gp q hq
    · rw [List.mem_singleton] at hq
      rw [hq]
      exact hp
  · rw [hbest]
    exact ⟨Af, cf, Ac, cc, vb, css, bls, h1, h2, h3, own_mono h4 g2, own_mono h5 g2, h6.mono g2, rfl⟩
  · rcases List.mem_append.1 hb with hb | hb
    · exact .inl (List.mem_append_left _ hb)
    · rcases List.mem_append.1 hb with hb | hb
      · exact .inl (hsub b hb)
      · rcases List.mem_append.1 hb with hb | hb
        · exact .inr (h4.lt b (mem_obl.1 hb)).1
        · rcases List.mem_append.1 hb with hb | hb
          · exact .inr (h5.lt b (mem_obl.1 hb)).1
          · exact .inr (h6.2.2.2 b hb).1
theorem CanC.rest_keep {C : CanC} {w w' : World} {p : List Int} {d : List (List Int)} {bl : List Nat} (h : C.Q w d bl) (hp : PermL C.n p) (hb : Below w.heap.size w w') (hbest : bestOf C.x (d ++ [p]) = bestOf C.x d) : C.Q w' (d ++ [p]) bl := by
  have hlt := C.Q_lt h
  obtain ⟨rl, e, g1, g2, hA, gp, hr⟩ := C.Q_stab h hb.size fun b hb' => hb.block b (hlt b hb')
  refine ⟨rl, e, g1, g2, hA, fun q hq => ?_, by rw [hbest]; exact hr⟩
  rw [List.mem_append] at hq
  rcases hq with hq | hq
  · exact gp q hq
  · rw [List.mem_singleton] at hq
    rw [hq]
    exact hp
end Go.Proofs.Ytbpdbimdefdefaa
namespace Go.Proofs.Ytbpdbimdefdefaa
open Go.RowKit

theorem own_some {w : World} {base n c : Nat} {e : TypeId} {A : Option Addr} {xs : List Value} (h : w.ownsRow base e 1 (.slice A n c) n xs) (hn : n ≠ 0) : ∃ g, A = some ⟨g, 0, none⟩ ∧ base ≤ g ∧ g < w.heap.size := by
  rcases h.2 with ⟨-, h0⟩ | ⟨g, cap, cur, hv, -⟩
  · exact absurd h0 hn
  · injection hv with hv
    subst hv
    exact ⟨g, rfl, h.lt g rfl⟩
theorem CanC.finish {C : CanC} (hC : C.Ok) {w w4 : World} {d : List (List Int)} {bl : List Nat} {p : List Int} (hQ : C.Q w d bl) (hp : PermL C.n p) (T4 : Below w.heap.size w w4) {a b u1 u2 : Value} {Af : Option Addr} {cf : Nat} {Ac : Option Addr} {cc : Nat} {v : Value} {css : List (List Value)} {bls : List (List Nat)}
    (BU : Blk w4 C.gf 75 #[a]) (BC : Blk w4 C.gc 75 #[b]) (BB : Blk w4 C.gb 38 #[u1, u2])
    (h4 : w4.ownsRow w.heap.size 3 1 (.slice Af C.n cf) C.n (ints p)) (h5 : w4.ownsRow w.heap.size 3 1 (.slice Ac C.CL cc) C.CL (ints (codeL (ren C.x p).2))) (h6 : PO w.heap.size w4 v (ren C.x p).2 css bls)
    (hbest : bestOf C.x (d ++ [p]) = some p) :
    ∃ bl', C.Q ((((w4.setCell ⟨C.gb, 0, none⟩ (.int .i64 (C.n : Int))).setCell ⟨C.gb, 1, none⟩ v).setCell ⟨C.gc, 0, none⟩ (.slice Ac C.CL cc)).setCell ⟨C.gf, 0, none⟩ (.slice Af C.n cf)) (d ++ [p]) bl' ∧
      ChgB [C.gf, C.gc, C.gb] w ((((w4.setCell ⟨C.gb, 0, none⟩ (.int .i64 (C.n : Int))).setCell ⟨C.gb, 1, none⟩ v).setCell ⟨C.gc, 0, none⟩ (.slice Ac C.CL cc)).setCell ⟨C.gf, 0, none⟩ (.slice Af C.n cf)) ∧ ∀ b ∈ bl', b ∈ bl ∨ w.heap.size ≤ b := by
  have hlt := CanC.Q_lt hQ
  have hsub := CanC.Q_sub hQ
  have l1 := hlt C.gf (hsub C.gf (by simp))
  have l2 := hlt C.gc (hsub C.gc (by simp))
  have l3 := hlt C.gb (hsub C.gb (by simp))
  obtain ⟨d1, d2, d3, -⟩ := hC.dist
  have fo : ∀ {e : TypeId} {size nn : Nat} {vv : Value} {xs : List Value} {ww : World} {g k : Nat} {u : Value}, ww.ownsRow w.heap.size e size vv nn xs → g < w.heap.size → (ww.setCell ⟨g, k, none⟩ u).ownsRow w.heap.size e size vv nn xs := fun {_ _ _ _ _ _ g _ _} h hg => own_set h (fun hh => by have h9 : w.heap.size ≤ g := (h.lt _ hh).1; omega) _
  have B3 : Blk ((w4.setCell ⟨C.gb, 0, none⟩ (.int .i64 (C.n : Int))).setCell ⟨C.gb, 1, none⟩ v) C.gb 38 #[.int .i64 (C.n : Int), v] := by simpa using (BB.set_ 0 (.int .i64 (C.n : Int))).set_ 1 v
  have C3 := (BC.far (p := ⟨C.gb, 0, none⟩) d3 (.int .i64 (C.n : Int))).far (p := ⟨C.gb, 1, none⟩) d3 v
  have F3 := (BU.far (p := ⟨C.gb, 0, none⟩) d2 (.int .i64 (C.n : Int))).far (p := ⟨C.gb, 1, none⟩) d2 v
  have B4 := B3.far (p := ⟨C.gc, 0, none⟩) d3.symm (.slice Ac C.CL cc)
  have C4 := C3.set_ 0 (.slice Ac C.CL cc)
  have F4 := F3.far (p := ⟨C.gc, 0, none⟩) d1 (.slice Ac C.CL cc)
  have B5 := B4.far (p := ⟨C.gf, 0, none⟩) d2.symm (.slice Af C.n cf)
  have C5 := C4.far (p := ⟨C.gf, 0, none⟩) d1.symm (.slice Af C.n cf)
  have F5 := F4.set_ 0 (.slice Af C.n cf)
  have hfar : ∀ b < w.heap.size, b ∉ [C.gf, C.gc, C.gb] → ((((w4.setCell ⟨C.gb, 0, none⟩ (.int .i64 (C.n : Int))).setCell ⟨C.gb, 1, none⟩ v).setCell ⟨C.gc, 0, none⟩ (.slice Ac C.CL cc)).setCell ⟨C.gf, 0, none⟩ (.slice Af C.n cf)).heap[b]? = w.heap[b]? := by
    intro b hb hn
    simp at hn
    rw [Below.heap_setCell _ ⟨C.gf, 0, none⟩ _ b hn.1, Below.heap_setCell _ ⟨C.gc, 0, none⟩ _ b hn.2.1, Below.heap_setCell _ ⟨C.gb, 1, none⟩ _ b hn.2.2, Below.heap_setCell _ ⟨C.gb, 0, none⟩ _ b hn.2.2]
    exact T4.block b hb
  obtain ⟨bl', h7, h8⟩ := CanC.rest_new hC hQ hp (w' := (((w4.setCell ⟨C.gb, 0, none⟩ (.int .i64 (C.n : Int))).setCell ⟨C.gb, 1, none⟩ v).setCell ⟨C.gc, 0, none⟩ (.slice Ac C.CL cc)).setCell ⟨C.gf, 0, none⟩ (.slice Af C.n cf)) (by simpa using T4.size) hfar (by simpa using F5) (by simpa using C5) B5
    (fo (fo (fo (fo h4 l3) l3) l2) l1) (fo (fo (fo (fo h5 l3) l3) l2) l1) ((((h6.far (p := ⟨C.gb, 0, none⟩) l3 _).far (p := ⟨C.gb, 1, none⟩) l3 _).far (p := ⟨C.gc, 0, none⟩) l2 _).far (p := ⟨C.gf, 0, none⟩) l1 _) hbest
  exact ⟨bl', h7, ⟨T4.os, T4.tape, T4.output, by simpa using T4.size, hfar⟩, h8⟩
set_option maxRecDepth 100000 in
theorem nil_eq0 (w : World) : Sem.run Try.prog (binOp BinOp.eql 75 (.slice none 0 0) (.slice none 0 0)) w = .ok (.bool true) w := rfl
set_option maxRecDepth 100000 in
theorem nil_eq1 (p : Addr) (n c : Nat) (w : World) : Sem.run Try.prog (binOp BinOp.eql 75 (.slice (some p) n c) (.slice none 0 0)) w = .ok (.bool false) w := rfl
set_option maxRecDepth 20000 in
set_option maxHeartbeats 8000000 in
theorem canClo_any (C : CanC) (hC : C.Ok) (w : World) (d : List (List Int)) (bl : List Nat) (N : Option Addr) (c : Nat) (p : List Int) (hQ : C.Q w d bl) (hR : RdL RI w N C.n p) (hp : PermL C.n p) :
    Calls Try.prog 106 #[.slice N C.n c, .pointer (some ⟨C.ga, 0, none⟩), .pointer (some ⟨C.gf, 0, none⟩), .pointer (some ⟨C.gc, 0, none⟩), .pointer (some ⟨C.gb, 0, none⟩)] w
      fun e w' => e = .returned (.tuple #[]) ∧ ∃ bl', C.Q w' (d ++ [p]) bl' ∧ ChgB [C.gf, C.gc, C.gb] w w' ∧ ∀ b ∈ bl', b ∈ bl ∨ w.heap.size ≤ b := by
  have hrd := CanC.Q_rd hC hQ
  have HQ := Lib.hid hQ
  have HCK := Lib.hid hC
  obtain ⟨rl, -, -, hwz, hA, hdp, hrest⟩ := hQ
  obtain ⟨o, HO⟩ : ∃ o, Hid (bestOf C.x d = o) := ⟨_, rfl⟩
  rw [HO.out] at hrest
  obtain ⟨x, n, CL, B, m, dd, wL, ga, gf, gc, gb⟩ := C
  have hn1 : x.1 = (n : Int) := hC.hn
  have hp' : PermL x.1.toNat p := by rw [hn1]; simpa using hp
  have hsm : SmallP x := hC.small
  have hsm1 := hsm.1
  have hsm2 := hsm.2.1
  have hn0 : n ≠ 0 := by omega
  have hn5 : n ≤ 5 := by omega
  have HLEN : Hid ((codeL (ren x p).2).length = CL) := by show _ = _; rw [code_ren_len hsm hp']; exact hC.hCL
  have HCR : Hid (∀ y ∈ codeL (ren x p).2, InR y) := code_R (ren_small hp' hsm)
  have hCL : CL ≤ 1048576 := by rw [← HLEN.out]; exact code_small (ren_small hp' hsm)
  have cA0 : w.cell? ⟨ga, 0, none⟩ = some (.int .i64 (n : Int)) := by have := hA.cell 0; simpa using this
  have cA1 : w.cell? ⟨ga, 1, none⟩ = some (.slice B m dd) := by have := hA.cell 1; simpa using this
  have HREN : Hid (Calls Try.prog 107 #[.agg #[.int .i64 (n : Int), .slice B m dd], .slice N n c] w (AlgE w (ren x p))) := rename_any [.int .i64 (n : Int), .slice B m dd] x N n c p w hrd hR hsm hp'
  have HSM := Lib.hid hsm
  have HP' := Lib.hid hp'
  have HPP : Hid (PermL n p) := hp
  clear hrd hp' hsm hsm1 hsm2 hp hdp hA
  go_enter Try.func106, Try.ntmps106
  go_wp2_with fail
  refine HREN.out.mono ?_
  rintro e w1 ⟨v, css, bls, rfl, hPO, hb1⟩
  have e1 : (ren x p).1 = (n : Int) := hn1
  rw [e1]
  obtain ⟨VA, vc, rfl⟩ := own_slice hPO.2.1
  obtain ⟨w2, hw2, T2, hs2, BX⟩ := boxes1 w1 #[.int .i64 (n : Int), .slice VA (ren x p).2.length vc] 38
  have HW2 := Lib.hid hw2
  have cX0 := BX.cell 0
  have cX1 := BX.cell 1
  simp at cX0 cX1
  rw [hw2] at cX0 cX1
  have hPO2 := hPO.next T2
  have hrd2 : shAlgebra.rd w2 [.int .i64 (n : Int), .slice VA (ren x p).2.length vc] (ren x p) := by
    have := hPO2.alg (a := (ren x p).1) (by rw [e1]; exact ⟨by omega, by omega⟩)
    rw [e1] at this
    have h9 : ((n : Int), (ren x p).2) = ren x p := by rw [← e1]
    rw [h9] at this
    exact this
  have T2w := below_next hb1 T2 rfl
  clear hw2 hs2 e1 cA0 cA1
  go_wp2_with fail
  rw [← HW2.out]
  refine (codeOf_any _ (ren x p) _ hrd2 (cnt_small (ren_small HP'.out HSM.out))).mono ?_
  rintro e w3 ⟨AC, cC, rfl, hoC, hb3⟩
  rw [HLEN.out] at hoC ⊢
  have T3 := below_next T2w hb3 rfl
  have hPO3 := hPO2.next hb3
  have BX3 := BX.next hb3
  have hR3 := hR.next stab_RI T3
  have RC := rd_of_own (R := RI) hoC (RI_ints HCR.out)
  have hnx : w1.heap.size ≠ gf ∧ w1.heap.size ≠ gc ∧ w1.heap.size ≠ gb := by
    have h1 := CanC.Q_lt HQ.out
    have h2 := CanC.Q_sub HQ.out
    have h3 := hb1.size
    refine ⟨fun e => ?_, fun e => ?_, fun e => ?_⟩
    · have := h1 gf (h2 gf (by simp))
      omega
    · have := h1 gc (h2 gc (by simp))
      omega
    · have := h1 gb (h2 gb (by simp))
      omega
  have HBS := Lib.hid (bestOf_snoc x d p)
  have d1 : gf ≠ gc := hC.dist.1
  have d2 : gf ≠ gb := hC.dist.2.1
  have d3 : gc ≠ gb := hC.dist.2.2.1
  have d1' : gc ≠ gf := d1.symm
  have d2' : gb ≠ gf := d2.symm
  have d3' : gb ≠ gc := d3.symm
  clear cX0 cX1 hrd2 hPO hPO2
  rcases o with _ | b
  · obtain ⟨BF0, BC0, BB0, -⟩ := hrest
    have BFr := Blk.next BF0 T3
    have BCr := Blk.next BC0 T3
    have BBr := Blk.next BB0 T3
    have cF : w3.cell? ⟨gf, 0, none⟩ = some (.slice none 0 0) := BFr.c0
    have HB2 : Hid (bestOf x (d ++ [p]) = some p) := by show _ = _; rw [HBS.out, show bestOf x d = none from HO.out]; rfl
    have he := nil_eq0
    have cX0 := BX3.cell 0
    have cX1 := BX3.cell 1
    simp at cX0 cX1
    have cB0 := BBr.cell 0
    have cB1 := BBr.cell 1
    have fB0 := BBr.frozen 0
    have fB1 := BBr.frozen 1
    have cC0 := BCr.c0
    have fC0 := BCr.frozen 0
    have fF0 := BFr.frozen 0
    simp at cB0 cB1
    go_wp2_with fail
    go_region_with (go_at_call 110; refine (clone_any _ _ _ p _ (by first | exact hR3 | exact hR3.drew stab_RI) (by omega)).mono ?_; rintro e w4 ⟨A4, c4, rfl, ho4, hbn⟩; have hb4 := below_next (Below.drew (Below.refl w3.heap.size w3)) hbn rfl; have BF4 := BFr.next hb4; have BC4 := BCr.next hb4; have BB4 := BBr.next hb4; have BX4 := BX3.next hb4; have xX0 := BX4.cell 0; have xX1 := BX4.cell 1; have xB0 := BB4.cell 0; have xB1 := BB4.cell 1; have yB0 := BB4.frozen 0; have yB1 := BB4.frozen 1; have xC0 := BC4.cell 0; have yC0 := BC4.frozen 0; have xF0 := BF4.cell 0; have yF0 := BF4.frozen 0; simp at xX0 xX1 xB0 xB1 xC0 xF0)
    all_goals
      have T4 := below_next T3 hb4 rfl
      have HF := Lib.hid (CanC.finish HCK.out HQ.out HPP.out T4 BF4 BC4 BB4 (own_mono ho4 (show w.heap.size ≤ w3.heap.size from T3.size)) (own_mono (own_next hoC hb4) (show w.heap.size ≤ w2.heap.size from T2w.size)) (hPO3.next hb4) HB2.out)
      (try simp only [Exit.inBlock, Exit.then])
      go_end0
      exact ⟨rfl, HF.out⟩
  · obtain ⟨Af, cf, Ac, cc, vb, cssb, blsb, BF0, BC0, BB0, hf0, hc0, -, -⟩ := hrest
    have BFr := Blk.next BF0 T3
    have BCr := Blk.next BC0 T3
    have BBr := Blk.next BB0 T3
    have hfr : w.ownsRow wL.heap.size 3 1 (.slice Af n cf) n (ints b) := hf0
    obtain ⟨fg, rfl, -, -⟩ := own_some hfr hn0
    have cF : w3.cell? ⟨gf, 0, none⟩ = some (.slice (some ⟨fg, 0, none⟩) n cf) := BFr.c0
    have cC : w3.cell? ⟨gc, 0, none⟩ = some (.slice Ac CL cc) := BCr.c0
    have he := nil_eq1
    have hbp : PermL n b := by
      obtain ⟨rl', -, -, -, -, hdp, -⟩ := HQ.out
      exact hdp b (best_mem HO.out)
    have hbp' : PermL x.1.toNat b := by rw [hn1]; simpa using hbp
    have hcR : ∀ y ∈ codeL (ren x b).2, InR y := code_R (ren_small hbp' HSM.out)
    have RB0 : RdL RI w Ac CL (codeL (ren x b).2) := rd_of_own (R := RI) (show w.ownsRow wL.heap.size 3 1 (.slice Ac CL cc) CL (ints (codeL (ren x b).2)) from hc0) (RI_ints hcR)
    have RB3 := RB0.next stab_RI T3
    have hlen2 : (codeL (ren x p).2).length = (codeL (ren x b).2).length := by rw [HLEN.out, RB0.len]
    have hll := lex_less hlen2
    obtain ⟨V, HV⟩ : ∃ V, Hid (lexL (codeL (ren x p).2) (codeL (ren x b).2) = V) := ⟨_, rfl⟩
    rw [HV.out] at hll
    have HBB : Hid (bestOf x (d ++ [p]) = if lessL (codeL (ren x p).2) (codeL (ren x b).2) then some p else some b) := by show _ = _; rw [HBS.out, show bestOf x d = some b from HO.out]; rfl
    by_cases hv : V < 0
    · have HB2 : Hid (bestOf x (d ++ [p]) = some p) := by show _ = _; rw [HBB.out, hll.1 hv]; rfl
      clear hbp hbp' hcR RB0 hlen2 hll hf0 hc0 hfr
      go_wp2_with (go_at_call 109; refine (compareLists_any _ _ _ _ _ _ _ _ _ RC RB3).mono ?_; rintro e w' ⟨rfl, z, rfl⟩; rw [HV.out])
      have T5 := below_drewN T3 z
      have hR4 := hR3.drewN stab_RI z
      have BX5 := BX3.drewN z
      have BF5 := BFr.drewN z
      have BC5 := BCr.drewN z
      have BB5 := BBr.drewN z
      have hoC5 := own_drewN hoC z
      have hPO5 := hPO3.next (below_drewN (Below.refl w3.heap.size w3) z)
      obtain ⟨w5, hw5⟩ : ∃ w5, w5 = w3.drewN z := ⟨_, rfl⟩
      rw [← hw5] at T5 hR4 BX5 BF5 BC5 BB5 hoC5 hPO5 ⊢
      clear hw5 cF cC
      have cX0 := BX5.cell 0
      have cX1 := BX5.cell 1
      simp at cX0 cX1
      have cB0 := BB5.cell 0
      have cB1 := BB5.cell 1
      have fB0 := BB5.frozen 0
      have fB1 := BB5.frozen 1
      have cC0 := BC5.c0
      have fC0 := BC5.frozen 0
      have fF0 := BF5.frozen 0
      simp at cB0 cB1
      go_wp2_with fail
      go_region_with (go_at_call 110; refine (clone_any _ _ _ p _ (by first | exact hR4 | exact hR4.drew stab_RI) (by omega)).mono ?_; rintro e w4 ⟨A4, c4, rfl, ho4, hbn⟩; have hb4 := below_next (Below.drew (Below.refl w5.heap.size w5)) hbn rfl; have BF4 := BF5.next hb4; have BC4 := BC5.next hb4; have BB4 := BB5.next hb4; have BX4 := BX5.next hb4; have xX0 := BX4.cell 0; have xX1 := BX4.cell 1; have xB0 := BB4.cell 0; have xB1 := BB4.cell 1; have yB0 := BB4.frozen 0; have yB1 := BB4.frozen 1; have xC0 := BC4.cell 0; have yC0 := BC4.frozen 0; have xF0 := BF4.cell 0; have yF0 := BF4.frozen 0; simp at xX0 xX1 xB0 xB1 xC0 xF0)
      all_goals
        have T4 := below_next T5 hb4 rfl
        have HF := Lib.hid (CanC.finish HCK.out HQ.out HPP.out T4 BF4 BC4 BB4 (own_mono ho4 (show w.heap.size ≤ w5.heap.size from T5.size)) (own_mono (own_next hoC5 hb4) (show w.heap.size ≤ w2.heap.size from T2w.size)) (hPO5.next hb4) HB2.out)
        (try simp only [Exit.inBlock, Exit.then])
        go_end0
        exact ⟨rfl, HF.out⟩
    · have HB2 : Hid (bestOf x (d ++ [p]) = bestOf x d) := by
        show _ = _
        rw [HBB.out, show bestOf x d = some b from HO.out]
        rcases hl : lessL (codeL (ren x p).2) (codeL (ren x b).2) with _ | _
        · rfl
        · exact absurd (hll.2 hl) hv
      clear hbp hbp' hcR RB0 hlen2 hll hf0 hc0 hfr
      go_wp2_with (go_at_call 109; refine (compareLists_any _ _ _ _ _ _ _ _ _ RC RB3).mono ?_; rintro e w' ⟨rfl, z, rfl⟩; rw [HV.out])
      have T5 := below_drewN T3 z
      (try simp only [Exit.inBlock, Exit.then])
      go_end0
      exact ⟨rfl, bl, CanC.rest_keep HQ.out HPP.out T5 HB2.out, ChgB.ofBelow T5, fun b hb => .inl hb⟩
end Go.Proofs.Ytbpdbimdefdefaa
namespace Go.Proofs.Ytbpdbimdefdefaa
open Go.RowKit

theorem res_row_tmpC {P : Program} {fn : Func} {p u : Tmp} {ty : TypeId} (h : fn.results = #[.cell p ty, .tmp u]) (tmps : Array Value) (w : World) (g : Nat) (t : TypeId) (cs : Array Value) (fr : Nat × Nat) (d : TypeDesc) (b : Value)
    (hp : tmps.getD p undef = .pointer (some ⟨g, 0, none⟩)) (hg : w.heap[g]? = some (.cells cs t fr))
    (hu : P.underlying ty = some d) (hd : (match d with | .struct _ | .array _ _ => true | _ => false) = true) (hi : (P.info? ty).map (·.size) = some cs.size) (hb : tmps.getD u undef = b) :
    (results fn tmps).run P w = .ok (.tuple #[.agg cs, b]) w := by
  rw [results_cell_tmp h, hp, hb]
  simp [asAddr, Result.andThen, run_loadVar_row w g t ty cs fr d hg hu hd hi]
/-- The canonical form and names handed back. -/
def CanE (w : World) (x : AlgebraM) (n : Nat) (e : Ending) (w' : World) : Prop := ∃ vb css bls Af cf, e = .returned (.tuple #[.agg #[.int .i64 (n : Int), vb], .slice Af n cf]) ∧ PO w.heap.size w' vb (canA x).2 css bls ∧ w'.ownsRow w.heap.size 3 1 (.slice Af n cf) n (ints (canN x)) ∧ Below w.heap.size w w'

theorem PO.notin {lo : Nat} {w : World} {v : Value} {xs : List OpM} {css : List (List Value)} {bls : List (List Nat)} (h : PO lo w v xs css bls) {g : Nat} {t : TypeId} {cs : Array Value} (hB : Blk w g t cs) (h1 : 103 ≠ t) (h2 : 3 ≠ t) : g ∉ obl v ++ bls.flatten := by
  intro hg
  rcases List.mem_append.1 hg with hg | hg
  · obtain ⟨cur, fr, hc⟩ := row_blk h.2.1 hg
    rw [hB] at hc
    injection hc with hc
    injection hc with _ h5
    exact h1 h5.symm
  · obtain ⟨bk, hbk, hb⟩ := List.mem_flatten.1 hg
    obtain ⟨k, hk⟩ := List.getElem?_of_mem hbk
    have hkl := (List.getElem?_eq_some_iff.1 hk).1
    have e1 := h.1.l1
    have e2 := h.1.l2
    obtain ⟨cur, fr, hc⟩ := shOp_blk (h.1.el k _ _ bk (List.getElem?_eq_getElem (by omega)) (List.getElem?_eq_getElem (by omega)) hk) hb
    rw [hB] at hc
    injection hc with hc
    injection hc with _ h5
    exact h2 h5.symm
theorem PO.farB {lo : Nat} {w : World} {v : Value} {xs : List OpM} {css : List (List Value)} {bls : List (List Nat)} (h : PO lo w v xs css bls) {g : Nat} {k : Nat} {u : Value} (hg : g ∉ obl v ++ bls.flatten) : PO lo (w.setCell ⟨g, k, none⟩ u) v xs css bls :=
  h.same (by simp) fun b hb => Below.heap_setCell w ⟨g, k, none⟩ u b fun e => hg (by rw [← show b = g from e]; exact hb)
set_option maxRecDepth 100000 in
theorem canEnter (args : Array Value) (w : World) : (callFunc 106 args).run Try.prog w = .ok (.enter 106 args) w := rfl

set_option maxRecDepth 20000 in
set_option maxHeartbeats 8000000 in
theorem canonical_any (cs : List Value) (x : AlgebraM) (n : Nat) (w : World) (h : shAlgebra.rd w cs x) (hx : SmallP x) (hn : x.1 = (n : Int)) :
    Calls Try.prog 57 #[.agg cs.toArray] w (CanE w x n) := by
  have hrd := h
  obtain ⟨B, m, d, rfl, qs, qo⟩ := rdAlgebra h
  rw [hn] at hrd qs ⊢
  have hn5 : n ≤ 5 := by have h1 := hx.2.1; omega
  obtain ⟨w5, hw5⟩ : ∃ w5, w5 = ((((w.alloc (.cells #[.int .i64 (n : Int), .slice B m d] 38)).alloc (.cells #[.int .i64 0, .slice none 0 0] 38)).alloc (.cells #[.int .i64 0, .slice none 0 0] 38)).alloc (.cells #[.slice none 0 0] 75)).alloc (.cells #[.slice none 0 0] 75) := ⟨_, rfl⟩
  have T5 : Below w.heap.size w w5 := by
    rw [hw5]
    exact (below_box4 w _ _ _ _).alloc (by simp; omega) _
  have hz5 : w5.heap.size = w.heap.size + 5 := by rw [hw5]; simp
  have BA : Blk w5 w.heap.size 38 #[.int .i64 (n : Int), .slice B m d] := by
    rw [hw5]
    exact ((((Blk.new w 38 #[.int .i64 (n : Int), .slice B m d]).alloc _).alloc _).alloc _).alloc _
  have BR : Blk w5 (w.heap.size + 1) 38 #[.int .i64 0, .slice none 0 0] := by
    rw [hw5]
    have := (((Blk.new (w.alloc (.cells #[.int .i64 (n : Int), .slice B m d] 38)) 38 #[.int .i64 0, .slice none 0 0]).alloc (.cells #[.int .i64 0, .slice none 0 0] 38)).alloc (.cells #[.slice none 0 0] 75)).alloc (.cells #[.slice none 0 0] 75)
    simpa using this
  have BB : Blk w5 (w.heap.size + 1 + 1) 38 #[.int .i64 0, .slice none 0 0] := by
    rw [hw5]
    have := ((Blk.new ((w.alloc (.cells #[.int .i64 (n : Int), .slice B m d] 38)).alloc (.cells #[.int .i64 0, .slice none 0 0] 38)) 38 #[.int .i64 0, .slice none 0 0]).alloc (.cells #[.slice none 0 0] 75)).alloc (.cells #[.slice none 0 0] 75)
    simpa using this
  have BC : Blk w5 (w.heap.size + 1 + 1 + 1) 75 #[.slice none 0 0] := by
    rw [hw5]
    have := (Blk.new (((w.alloc (.cells #[.int .i64 (n : Int), .slice B m d] 38)).alloc (.cells #[.int .i64 0, .slice none 0 0] 38)).alloc (.cells #[.int .i64 0, .slice none 0 0] 38)) 75 #[.slice none 0 0]).alloc (.cells #[.slice none 0 0] 75)
    simpa using this
  have BU : Blk w5 (w.heap.size + 1 + 1 + 1 + 1) 75 #[.slice none 0 0] := by
    rw [hw5]
    have := Blk.new ((((w.alloc (.cells #[.int .i64 (n : Int), .slice B m d] 38)).alloc (.cells #[.int .i64 0, .slice none 0 0] 38)).alloc (.cells #[.int .i64 0, .slice none 0 0] 38)).alloc (.cells #[.slice none 0 0] 75)) 75 #[.slice none 0 0]
    simpa using this
  obtain ⟨C, hCd⟩ : ∃ C : CanC, C = { x := x, n := n, CL := (codeL x.2).length, B := B, m := m, d := d, wL := w, ga := w.heap.size, gf := w.heap.size + 1 + 1 + 1 + 1, gc := w.heap.size + 1 + 1 + 1, gb := w.heap.size + 1 + 1 } := ⟨_, rfl⟩
  have hC : C.Ok := by
    subst hCd
    exact ⟨hrd, hx, hn, rfl, ⟨by show w.heap.size + 1 + 1 + 1 + 1 ≠ w.heap.size + 1 + 1 + 1; omega, by show w.heap.size + 1 + 1 + 1 + 1 ≠ w.heap.size + 1 + 1; omega, by show w.heap.size + 1 + 1 + 1 ≠ w.heap.size + 1 + 1; omega, by show w.heap.size ≠ w.heap.size + 1 + 1; omega, by show w.heap.size ≠ w.heap.size + 1 + 1 + 1 + 1; omega, by show w.heap.size ≠ w.heap.size + 1 + 1 + 1; omega⟩, ⟨by show w.heap.size ≤ w.heap.size; omega, by show w.heap.size ≤ w.heap.size + 1 + 1 + 1 + 1; omega, by show w.heap.size ≤ w.heap.size + 1 + 1 + 1; omega, by show w.heap.size ≤ w.heap.size + 1 + 1; omega⟩⟩
  have hQ5 : C.Q w5 [] (List.range w.heap.size ++ [w.heap.size, w.heap.size + 1 + 1 + 1 + 1, w.heap.size + 1 + 1 + 1, w.heap.size + 1 + 1]) := by
    subst hCd
    exact ⟨_, rfl, fun b hb => T5.block b hb, T5.size, BA, (fun p hp => by simp at hp), BU, BC, BB, rfl⟩
  have hF : FoundOk (ords C.n C.n []).length C.n 106 #[.pointer (some ⟨C.ga, 0, none⟩), .pointer (some ⟨C.gf, 0, none⟩), .pointer (some ⟨C.gc, 0, none⟩), .pointer (some ⟨C.gb, 0, none⟩)] C.Q := by
    refine ⟨canEnter, fun h1 h2 h3 => CanC.Q_stab h1 h2 h3, fun h1 => CanC.Q_lt h1, fun w1 d1 bl N c p _ h1 h2 h3 => ?_⟩
    refine (canClo_any C hC w1 d1 bl N c p h1 h2 h3).mono fun e w' ⟨e1, bl', e2, e3, e4⟩ => ⟨e1, bl', e2, e3.mono fun g hg => CanC.Q_sub h1 g (List.mem_cons_of_mem _ hg), e4⟩
  have HC : Hid (Calls Try.prog 105 #[.int .i64 (n : Int), .func (.func 106) #[] #[.pointer (some ⟨w.heap.size, 0, none⟩), .pointer (some ⟨w.heap.size + 1 + 1 + 1 + 1, 0, none⟩), .pointer (some ⟨w.heap.size + 1 + 1 + 1, 0, none⟩), .pointer (some ⟨w.heap.size + 1 + 1, 0, none⟩)]] w5
      (fun e w' => e = .returned (.tuple #[]) ∧ ∃ bl', C.Q w' (ords n n []) bl' ∧ ChgB (List.range w.heap.size ++ [w.heap.size, w.heap.size + 1 + 1 + 1 + 1, w.heap.size + 1 + 1 + 1, w.heap.size + 1 + 1]) w5 w')) := by
    have := eachOrder_any hF (by rw [hCd]; exact hn5) (Nat.le_refl _) w5 _ hQ5
    subst hCd
    exact this.mono fun e w' ⟨h1, bl', h2, h3, _⟩ => ⟨h1, bl', h2, h3⟩
  have cA0 := BA.cell 0
  simp at cA0
  rw [hw5] at cA0
  have HW5 := Lib.hid hw5
  have HT := Lib.hid (And.intro T5 (And.intro hz5 BR))
  have HCD := Lib.hid hCd
  have HNN : Hid (x.1.toNat = n) := by show _ = _; omega
  clear hw5 T5 hz5 BA BR BB BC BU hC hQ5 hF hCd h
  go_enter Try.func57, Try.ntmps57
  go_wp2_with fail
  rw [← HW5.out]
  refine HC.out.mono ?_
  rintro e w6 ⟨rfl, bl', hQ6, hc6⟩
  obtain ⟨T5, hz5, BR⟩ := HT.out
  have hcd := HCD.out
  subst hcd
  obtain ⟨rl, -, hsame, hsz, -, -, hrest⟩ := hQ6
  have hbest : bestOf x (ords n n []) = some (canN x) := by have := (canN_ok (x := x)).1; rw [HNN.out] at this; exact this
  have hrest' : CanC.rest { x := x, n := n, CL := (codeL x.2).length, B := B, m := m, d := d, wL := w, ga := w.heap.size, gf := w.heap.size + 1 + 1 + 1 + 1, gc := w.heap.size + 1 + 1 + 1, gb := w.heap.size + 1 + 1 } w6 (some (canN x)) rl := by rw [← hbest]; exact hrest
  obtain ⟨Af, cf, Ac, cc, vb, css, bls, h1, -, h3, h4, -, h6, -⟩ := hrest'
  replace h1 : Blk w6 (w.heap.size + 1 + 1 + 1 + 1) 75 #[.slice Af n cf] := h1
  replace h3 : Blk w6 (w.heap.size + 1 + 1) 38 #[.int .i64 (n : Int), vb] := h3
  replace h4 : w6.ownsRow w.heap.size 3 1 (.slice Af n cf) n (ints (canN x)) := h4
  replace h6 : PO w.heap.size w6 vb (ren x (canN x)).2 css bls := h6
  obtain ⟨VA, vc, rfl⟩ := own_slice h6.2.1
  have BR6 : Blk w6 (w.heap.size + 1) 38 #[.int .i64 0, .slice none 0 0] := (hc6.block _ BR.lt (by simp <;> omega)).trans BR
  have T6 : Below w.heap.size w w6 := ⟨hc6.os.trans T5.os, hc6.tape.trans T5.tape, hc6.output.trans T5.output, hsz, fun b hb => hsame b hb⟩
  obtain ⟨LA, HLA⟩ : ∃ LA, Hid ((ren x (canN x)).2.length = LA) := ⟨_, rfl⟩
  rw [HLA.out] at h6 h3
  have hni := h6.notin BR6 (by decide) (by decide)
  have hof := own_off h4 BR6 (by decide)
  have hPF := (h6.farB (k := 0) (u := .int .i64 (n : Int)) hni).farB (k := 1) (u := .slice VA LA vc) hni
  have hOF := own_set (own_set h4 (p := ⟨w.heap.size + 1, 0, none⟩) hof (.int .i64 (n : Int))) (p := ⟨w.heap.size + 1, 1, none⟩) hof (.slice VA LA vc)
  have hTF := (T6.setCell (p := ⟨w.heap.size + 1, 0, none⟩) (by show w.heap.size ≤ w.heap.size + 1; omega) (.int .i64 (n : Int))).setCell (p := ⟨w.heap.size + 1, 1, none⟩) (by show w.heap.size ≤ w.heap.size + 1; omega) (.slice VA LA vc)
  have BRR : Blk ((w6.setCell ⟨w.heap.size + 1, 0, none⟩ (.int .i64 (n : Int))).setCell ⟨w.heap.size + 1, 1, none⟩ (.slice VA LA vc)) (w.heap.size + 1) 38 #[.int .i64 (n : Int), .slice VA LA vc] := by simpa using ((BR6.set_ 0 (.int .i64 (n : Int))).set_ 1 (.slice VA LA vc))
  have HF1 := Lib.hid hPF
  have HF2 := Lib.hid hOF
  have HF3 := Lib.hid hTF
  have HF4 := Lib.hid BRR
  have cB0 := h3.cell 0
  have cB1 := h3.cell 1
  have cF0 := h1.c0
  have cR0 := BR6.cell 0
  have cR1 := BR6.cell 1
  have fR0 := BR6.frozen 0
  have fR1 := BR6.frozen 1
  simp at cB0 cB1 cR0 cR1
  clear h1 h3 h4 h6 BR6 T6 hni hof hPF hOF hTF BRR hrest hbest hsame T5 BR HC
  go_upto_region 4 with fail
  go_region
  all_goals
    go_wp2_with fail
    (try simp only [Exit.inBlock, Exit.then])
    refine bodyPost_ret (v := .tuple #[.agg #[.int .i64 (n : Int), .slice VA LA vc], .slice Af n cf]) (res_row_tmpC rfl _ _ (w.heap.size + 1) 38 #[.int .i64 (n : Int), .slice VA LA vc] (0, 0) _ _ (by simp) HF4.out.drew Try.underlying38 rfl (by kernel_rfl) rfl) rfl ?_
    exact ⟨_, css, bls, Af, cf, rfl, HF1.out.next (Below.drew (Below.refl _ _)), own_same HF2.out (fun _ _ => rfl), Below.drew HF3.out⟩
end Go.Proofs.Ytbpdbimdefdefaa
