
/- Walks: the closure of canonical. -/
import Derived.Test.YtppnmpeicmlneaaCanon
namespace Go.Proofs.Ytppnmpeicmlneaa
open Go.RowKit

theorem own_some {w : World} {base n c : Nat} {e : TypeId} {A : Option Addr} {xs : List Value} (h : w.ownsRow base e 1 (.slice A n c) n xs) (hn : n ≠ 0) : ∃ g, A = some ⟨g, 0, none⟩ ∧ base ≤ g ∧ g < w.heap.size := by
  rcases h.2 with ⟨-, h0⟩ | ⟨g, cap, cur, hv, -⟩
  · exact absurd h0 hn
  · injection hv with hv
    subst hv
    exact ⟨g, rfl, h.lt g rfl⟩
theorem CanC.finish {C : CanC} (hC : C.Ok) {w w4 : World} {d : List (List Int)} {bl : List Nat} {p : List Int} (hQ : C.Q w d bl) (hp : PermL C.n p) (T4 : Below w.heap.size w w4) {a b u1 u2 : Value} {Af : Option Addr} {cf : Nat} {Ac : Option Addr} {cc : Nat} {v : Value} {css : List (List Value)} {bls : List (List Nat)}
    (BU : Blk w4 C.gf 22 #[a]) (BC : Blk w4 C.gc 22 #[b]) (BB : Blk w4 C.gb 41 #[u1, u2])
    (h4 : w4.ownsRow w.heap.size 3 1 (.slice Af C.n cf) C.n (ints p)) (h5 : w4.ownsRow w.heap.size 3 1 (.slice Ac C.CL cc) C.CL (ints (codeL (ren C.x p).2))) (h6 : PO w.heap.size w4 v (ren C.x p).2 css bls)
    (hbest : bestOf C.x (d ++ [p]) = some p) :
    ∃ bl', C.Q ((((w4.setCell ⟨C.gb, 0, none⟩ (.int .i64 (C.n : Int))).setCell ⟨C.gb, 1, none⟩ v).setCell ⟨C.gc, 0, none⟩ (.slice Ac C.CL cc)).setCell ⟨C.gf, 0, none⟩ (.slice Af C.n cf)) (d ++ [p]) bl' ∧
      ChgB [C.gf, C.gc, C.gb] w ((((w4.setCell ⟨C.gb, 0, none⟩ (.int .i64 (C.n : Int))).setCell ⟨C.gb, 1, none⟩ v).setCell ⟨C.gc, 0, none⟩ (.slice Ac C.CL cc)).setCell ⟨C.gf, 0, none⟩ (.slice Af C.n cf)) ∧ ∀ b ∈ bl', b ∈ bl ∨ w.heap.size ≤ b := by
  have hlt := CanC.Q_lt hQ
  have hsub := CanC.Q_sub hQ
  have l1 := hlt C.gf (hsub C.gf (by simp))
  have l2 := hlt C.gc (hsub C.gc (by simp))
  have l3 := hlt C.gb (hsub C.gb (by simp))
  obtain ⟨d1, d2, d3, -⟩ := hC.dist
  have fo : ∀ {e : TypeId} {size nn : Nat} {vv : Value} {xs : List Value} {ww : World} {g k : Nat} {u : Value}, ww.ownsRow w.heap.size e size vv nn xs → g < w.heap.size → (ww.setCell ⟨g, k, none⟩ u).ownsRow w.heap.size e size vv nn xs := fun {_ _ _ _ _ _ g _ _} h hg => own_set h (fun hh => by have h9 : w.heap.size ≤ g := (h.lt _ hh).1; omega) _
  have B3 : Blk ((w4.setCell ⟨C.gb, 0, none⟩ (.int .i64 (C.n : Int))).setCell ⟨C.gb, 1, none⟩ v) C.gb 41 #[.int .i64 (C.n : Int), v] := by simpa using (BB.set_ 0 (.int .i64 (C.n : Int))).set_ 1 v
  have C3 := (BC.far (p := ⟨C.gb, 0, none⟩) d3 (.int .i64 (C.n : Int))).far (p := ⟨C.gb, 1, none⟩) d3 v
  have F3 := (BU.far (p := ⟨C.gb, 0, none⟩) d2 (.int .i64 (C.n : Int))).far (p := ⟨C.gb, 1, none⟩) d2 v
  have B4 := B3.far (p := ⟨C.gc, 0, none⟩) d3.symm (.slice Ac C.CL cc)
  have C4 := C3.set_ 0 (.slice Ac C.CL cc)
  have F4 := F3.far (p := ⟨C.gc, 0, none⟩) d1 (.slice Ac C.CL cc)
  have B5 := B4.far (p := ⟨C.gf, 0, none⟩) d2.symm (.slice Af C.n cf)
  have C5 := C4.far (p := ⟨C.gf, 0, none⟩) d1.symm (.slice Af C.n cf)
  have F5 := F4.set_ 0 (.slice Af C.n cf)
  have hfar : ∀ b < w.heap.size, b ∉ [C.gf, C.gc, C.gb] → ((((w4.setCell ⟨C.gb, 0, none⟩ (.int .i64 (C.n : Int))).setCell ⟨C.gb, 1, none⟩ v).setCell ⟨C.gc, 0, none⟩ (.slice Ac C.CL cc)).setCell ⟨C.gf, 0, none⟩ (.slice Af C.n cf)).heap[b]? = w.heap[b]? := by
    intro b hb hn
    simp at hn
    rw [Below.heap_setCell _ ⟨C.gf, 0, none⟩ _ b hn.1, Below.heap_setCell _ ⟨C.gc, 0, none⟩ _ b hn.2.1, Below.heap_setCell _ ⟨C.gb, 1, none⟩ _ b hn.2.2, Below.heap_setCell _ ⟨C.gb, 0, none⟩ _ b hn.2.2]
    exact T4.block b hb
  obtain ⟨bl', h7, h8⟩ := CanC.rest_new hC hQ hp (w' := (((w4.setCell ⟨C.gb, 0, none⟩ (.int .i64 (C.n : Int))).setCell ⟨C.gb, 1, none⟩ v).setCell ⟨C.gc, 0, none⟩ (.slice Ac C.CL cc)).setCell ⟨C.gf, 0, none⟩ (.slice Af C.n cf)) (by simpa using T4.size) hfar (by simpa using F5) (by simpa using C5) B5
    (fo (fo (fo (fo h4 l3) l3) l2) l1) (fo (fo (fo (fo h5 l3) l3) l2) l1) ((((h6.far (p := ⟨C.gb, 0, none⟩) l3 _).far (p := ⟨C.gb, 1, none⟩) l3 _).far (p := ⟨C.gc, 0, none⟩) l2 _).far (p := ⟨C.gf, 0, none⟩) l1 _) hbest
  exact ⟨bl', h7, ⟨T4.os, T4.tape, T4.output, by simpa using T4.size, hfar⟩, h8⟩
set_option maxRecDepth 100000 in
theorem nil_eq0 (w : World) : Sem.run Try.prog (binOp BinOp.eql 22 (.slice none 0 0) (.slice none 0 0)) w = .ok (.bool true) w := rfl
set_option maxRecDepth 100000 in
theorem nil_eq1 (p : Addr) (n c : Nat) (w : World) : Sem.run Try.prog (binOp BinOp.eql 22 (.slice (some p) n c) (.slice none 0 0)) w = .ok (.bool false) w := rfl
set_option maxRecDepth 20000 in
set_option maxHeartbeats 8000000 in
theorem canClo_any (C : CanC) (hC : C.Ok) (w : World) (d : List (List Int)) (bl : List Nat) (N : Option Addr) (c : Nat) (p : List Int) (hQ : C.Q w d bl) (hR : RdL RI w N C.n p) (hp : PermL C.n p) :
    Calls Try.prog 123 #[.slice N C.n c, .pointer (some ⟨C.ga, 0, none⟩), .pointer (some ⟨C.gf, 0, none⟩), .pointer (some ⟨C.gc, 0, none⟩), .pointer (some ⟨C.gb, 0, none⟩)] w
      fun e w' => e = .returned (.tuple #[]) ∧ ∃ bl', C.Q w' (d ++ [p]) bl' ∧ ChgB [C.gf, C.gc, C.gb] w w' ∧ ∀ b ∈ bl', b ∈ bl ∨ w.heap.size ≤ b := by
  have hrd := CanC.Q_rd hC hQ
  have HQ := Lib.hid hQ
  have HCK := Lib.hid hC
  obtain ⟨rl, -, -, hwz, hA, hdp, hrest⟩ := hQ
  obtain ⟨o, HO⟩ : ∃ o, Hid (bestOf C.x d = o) := ⟨_, rfl⟩
  rw [HO.out] at hrest
  obtain ⟨x, n, CL, B, m, dd, wL, ga, gf, gc, gb⟩ := C
  have hn1 : x.1 = (n : Int) := hC.hn
  have hp' : PermL x.1.toNat p := by rw [hn1]; simpa using hp
  have hsm : SmallP x := hC.small
  have hsm1 := hsm.1
  have hsm2 := hsm.2.1
  have hn0 : n ≠ 0 := by omega
  have hn5 : n ≤ 5 := by omega
  have HLEN : Hid ((codeL (ren x p).2).length = CL) := by show _ = _; rw [code_ren_len hsm hp']; exact hC.hCL
  have HCR : Hid (∀ y ∈ codeL (ren x p).2, InR y) := code_R (ren_small hp' hsm)
  have hCL : CL ≤ 1048576 := by rw [← HLEN.out]; exact code_small (ren_small hp' hsm)
  have cA0 : w.cell? ⟨ga, 0, none⟩ = some (.int .i64 (n : Int)) := by have := hA.cell 0; simpa using this
  have cA1 : w.cell? ⟨ga, 1, none⟩ = some (.slice B m dd) := by have := hA.cell 1; simpa using this
  have HREN : Hid (Calls Try.prog 120 #[.agg #[.int .i64 (n : Int), .slice B m dd], .slice N n c] w (AlgE w (ren x p))) := rename_any [.int .i64 (n : Int), .slice B m dd] x N n c p w hrd hR hsm hp'
  have HSM := Lib.hid hsm
  have HP' := Lib.hid hp'
  have HPP : Hid (PermL n p) := hp
  clear hrd hp' hsm hsm1 hsm2 hp hdp hA
  go_enter Try.func123, Try.ntmps123
  go_wp2_with fail
  refine HREN.out.mono ?_
  rintro e w1 ⟨v, css, bls, rfl, hPO, hb1⟩
  have e1 : (ren x p).1 = (n : Int) := hn1
  rw [e1]
  obtain ⟨VA, vc, rfl⟩ := own_slice hPO.2.1
  obtain ⟨w2, hw2, T2, hs2, BX⟩ := boxes1 w1 #[.int .i64 (n : Int), .slice VA (ren x p).2.length vc] 41
  have HW2 := Lib.hid hw2
  have cX0 := BX.cell 0
  have cX1 := BX.cell 1
  simp at cX0 cX1
  rw [hw2] at cX0 cX1
  have hPO2 := hPO.next T2
  have hrd2 : shAlgebra.rd w2 [.int .i64 (n : Int), .slice VA (ren x p).2.length vc] (ren x p) := by
    have := hPO2.alg (a := (ren x p).1) (by rw [e1]; exact ⟨by omega, by omega⟩)
    rw [e1] at this
    have h9 : ((n : Int), (ren x p).2) = ren x p := by rw [← e1]
    rw [h9] at this
    exact this
  have T2w := below_next hb1 T2 rfl
  clear hw2 hs2 e1 cA0 cA1
  go_wp2_with fail
  rw [← HW2.out]
  refine (codeOf_any _ (ren x p) _ hrd2 (cnt_small (ren_small HP'.out HSM.out))).mono ?_
  rintro e w3 ⟨AC, cC, rfl, hoC, hb3⟩
  rw [HLEN.out] at hoC ⊢
  have T3 := below_next T2w hb3 rfl
  have hPO3 := hPO2.next hb3
  have BX3 := BX.next hb3
  have hR3 := hR.next stab_RI T3
  have RC := rd_of_own (R := RI) hoC (RI_ints HCR.out)
  have hnx : w1.heap.size ≠ gf ∧ w1.heap.size ≠ gc ∧ w1.heap.size ≠ gb := by
    have h1 := CanC.Q_lt HQ.out
    have h2 := CanC.Q_sub HQ.out
    have h3 := hb1.size
    refine ⟨fun e => ?_, fun e => ?_, fun e => ?_⟩
    · have := h1 gf (h2 gf (by simp))
      omega
    · have := h1 gc (h2 gc (by simp))
      omega
    · have := h1 gb (h2 gb (by simp))
      omega
  have HBS := Lib.hid (bestOf_snoc x d p)
  have d1 : gf ≠ gc := hC.dist.1
  have d2 : gf ≠ gb := hC.dist.2.1
  have d3 : gc ≠ gb := hC.dist.2.2.1
  have d1' : gc ≠ gf := d1.symm
  have d2' : gb ≠ gf := d2.symm
  have d3' : gb ≠ gc := d3.symm
  clear cX0 cX1 hrd2 hPO hPO2
  rcases o with _ | b
  · obtain ⟨BF0, BC0, BB0, -⟩ := hrest
    have BFr := Blk.next BF0 T3
    have BCr := Blk.next BC0 T3
    have BBr := Blk.next BB0 T3
    have cF : w3.cell? ⟨gf, 0, none⟩ = some (.slice none 0 0) := BFr.c0
    have HB2 : Hid (bestOf x (d ++ [p]) = some p) := by show _ = _; rw [HBS.out, show bestOf x d = none from HO.out]; rfl
    have he := nil_eq0
    have cX0 := BX3.cell 0
    have cX1 := BX3.cell 1
    simp at cX0 cX1
    have cB0 := BBr.cell 0
    have cB1 := BBr.cell 1
    have fB0 := BBr.frozen 0
    have fB1 := BBr.frozen 1
    have cC0 := BCr.c0
    have fC0 := BCr.frozen 0
    have fF0 := BFr.frozen 0
    simp at cB0 cB1
    go_wp2_with fail
    go_region_with (go_at_call 121; refine (clone_any _ _ _ p _ (by first | exact hR3 | exact hR3.drew stab_RI) (by omega)).mono ?_; rintro e w4 ⟨A4, c4, rfl, ho4, hbn⟩; have hb4 := below_next (Below.drew (Below.refl w3.heap.size w3)) hbn rfl; have BF4 := BFr.next hb4; have BC4 := BCr.next hb4; have BB4 := BBr.next hb4; have BX4 := BX3.next hb4; have xX0 := BX4.cell 0; have xX1 := BX4.cell 1; have xB0 := BB4.cell 0; have xB1 := BB4.cell 1; have yB0 := BB4.frozen 0; have yB1 := BB4.frozen 1; have xC0 := BC4.cell 0; have yC0 := BC4.frozen 0; have xF0 := BF4.cell 0; have yF0 := BF4.frozen 0; simp at xX0 xX1 xB0 xB1 xC0 xF0)
    all_goals
      have T4 := below_next T3 hb4 rfl
      have HF := Lib.hid (CanC.finish HCK.out HQ.out HPP.out T4 BF4 BC4 BB4 (own_mono ho4 (show w.heap.size ≤ w3.heap.size from T3.size)) (own_mono (own_next hoC hb4) (show w.heap.size ≤ w2.heap.size from T2w.size)) (hPO3.next hb4) HB2.out)
      (try simp only [Exit.inBlock, Exit.then])
      go_end0
      exact ⟨rfl, HF.out⟩
  · obtain ⟨Af, cf, Ac, cc, vb, cssb, blsb, BF0, BC0, BB0, hf0, hc0, -, -⟩ := hrest
    have BFr := Blk.next BF0 T3
    have BCr := Blk.next BC0 T3
    have BBr := Blk.next BB0 T3
    have hfr : w.ownsRow wL.heap.size 3 1 (.slice Af n cf) n (ints b) := hf0
    obtain ⟨fg, rfl, -, -⟩ := own_some hfr hn0
    have cF : w3.cell? ⟨gf, 0, none⟩ = some (.slice (some ⟨fg, 0, none⟩) n cf) := BFr.c0
    have cC : w3.cell? ⟨gc, 0, none⟩ = some (.slice Ac CL cc) := BCr.c0
    have he := nil_eq1
    have hbp : PermL n b := by
      obtain ⟨rl', -, -, -, -, hdp, -⟩ := HQ.out
      exact hdp b (best_mem HO.out)
    have hbp' : PermL x.1.toNat b := by rw [hn1]; simpa using hbp
    have hcR : ∀ y ∈ codeL (ren x b).2, InR y := code_R (ren_small hbp' HSM.out)
    have RB0 : RdL RI w Ac CL (codeL (ren x b).2) := rd_of_own (R := RI) (show w.ownsRow wL.heap.size 3 1 (.slice Ac CL cc) CL (ints (codeL (ren x b).2)) from hc0) (RI_ints hcR)
    have RB3 := RB0.next stab_RI T3
    have hlen2 : (codeL (ren x p).2).length = (codeL (ren x b).2).length := by rw [HLEN.out, RB0.len]
    have hll := lex_less hlen2
    obtain ⟨V, HV⟩ : ∃ V, Hid (lexL (codeL (ren x p).2) (codeL (ren x b).2) = V) := ⟨_, rfl⟩
    rw [HV.out] at hll
    have HBB : Hid (bestOf x (d ++ [p]) = if lessL (codeL (ren x p).2) (codeL (ren x b).2) then some p else some b) := by show _ = _; rw [HBS.out, show bestOf x d = some b from HO.out]; rfl
    by_cases hv : V < 0
    · have HB2 : Hid (bestOf x (d ++ [p]) = some p) := by show _ = _; rw [HBB.out, hll.1 hv]; rfl
      clear hbp hbp' hcR RB0 hlen2 hll hf0 hc0 hfr
      go_wp2_with (go_at_call 124; refine (compareLists_any _ _ _ _ _ _ _ _ _ RC RB3).mono ?_; rintro e w' ⟨rfl, z, rfl⟩; rw [HV.out])
      have T5 := below_drewN T3 z
      have hR4 := hR3.drewN stab_RI z
      have BX5 := BX3.drewN z
      have BF5 := BFr.drewN z
      have BC5 := BCr.drewN z
      have BB5 := BBr.drewN z
      have hoC5 := own_drewN hoC z
      have hPO5 := hPO3.next (below_drewN (Below.refl w3.heap.size w3) z)
      obtain ⟨w5, hw5⟩ : ∃ w5, w5 = w3.drewN z := ⟨_, rfl⟩
      rw [← hw5] at T5 hR4 BX5 BF5 BC5 BB5 hoC5 hPO5 ⊢
      clear hw5 cF cC
      have cX0 := BX5.cell 0
      have cX1 := BX5.cell 1
      simp at cX0 cX1
      have cB0 := BB5.cell 0
      have cB1 := BB5.cell 1
      have fB0 := BB5.frozen 0
      have fB1 := BB5.frozen 1
      have cC0 := BC5.c0
      have fC0 := BC5.frozen 0
      have fF0 := BF5.frozen 0
      simp at cB0 cB1
      go_wp2_with fail
      go_region_with (go_at_call 121; refine (clone_any _ _ _ p _ (by first | exact hR4 | exact hR4.drew stab_RI) (by omega)).mono ?_; rintro e w4 ⟨A4, c4, rfl, ho4, hbn⟩; have hb4 := below_next (Below.drew (Below.refl w5.heap.size w5)) hbn rfl; have BF4 := BF5.next hb4; have BC4 := BC5.next hb4; have BB4 := BB5.next hb4; have BX4 := BX5.next hb4; have xX0 := BX4.cell 0; have xX1 := BX4.cell 1; have xB0 := BB4.cell 0; have xB1 := BB4.cell 1; have yB0 := BB4.frozen 0; have yB1 := BB4.frozen 1; have xC0 := BC4.cell 0; have yC0 := BC4.frozen 0; have xF0 := BF4.cell 0; have yF0 := BF4.frozen 0; simp at xX0 xX1 xB0 xB1 xC0 xF0)
      all_goals
        have T4 := below_next T5 hb4 rfl
        have HF := Lib.hid (CanC.finish HCK.out HQ.out HPP.out T4 BF4 BC4 BB4 (own_mono ho4 (show w.heap.size ≤ w5.heap.size from T5.size)) (own_mono (own_next hoC5 hb4) (show w.heap.size ≤ w2.heap.size from T2w.size)) (hPO5.next hb4) HB2.out)
        (try simp only [Exit.inBlock, Exit.then])
        go_end0
        exact ⟨rfl, HF.out⟩
    · have HB2 : Hid (bestOf x (d ++ [p]) = bestOf x d) := by
        show _ = _
        rw [HBB.out, show bestOf x d = some b from HO.out]
        rcases hl : lessL (codeL (ren x p).2) (codeL (ren x b).2) with _ | _
        · rfl
        · exact absurd (hll.2 hl) hv
      clear hbp hbp' hcR RB0 hlen2 hll hf0 hc0 hfr
      go_wp2_with (go_at_call 124; refine (compareLists_any _ _ _ _ _ _ _ _ _ RC RB3).mono ?_; rintro e w' ⟨rfl, z, rfl⟩; rw [HV.out])
      have T5 := below_drewN T3 z
      (try simp only [Exit.inBlock, Exit.then])
      go_end0
      exact ⟨rfl, bl, CanC.rest_keep HQ.out HPP.out T5 HB2.out, ChgB.ofBelow T5, fun b hb => .inl hb⟩
end Go.Proofs.Ytppnmpeicmlneaa
