
/- Walks: the symmetries' closure. -/
import Derived.Test.YtppnmpeicmlneaaSym
import Derived.Deep.RegionLaw
namespace Go.Proofs.Ytppnmpeicmlneaa
open Go.RowKit

theorem OwMv.off {lo n : Nat} {w : World} {v : Value} {vs : List Value} {xss : List (List Int)} (h : OwMv 22 3 (.int .i64) lo w v n vs xss) {g : Nat} {t : TypeId} {cs : Array Value} (hB : Blk w g t cs) (h1 : 22 ≠ t) (h2 : 3 ≠ t) : g ∉ obl v ++ vs.filterMap Value.ownBlock := by
  intro hg
  rcases List.mem_append.1 hg with hg | hg
  · exact own_off h.1 hB h1 (mem_obl.1 hg)
  · obtain ⟨u, hu, hub⟩ := List.mem_filterMap.1 hg
    obtain ⟨k, hk⟩ := List.getElem?_of_mem hu
    have hkl := (List.getElem?_eq_some_iff.1 hk).1
    have := h.2.1
    exact own_off (h.2.2.1 k u _ hk (List.getElem?_eq_getElem (by omega))) hB h2 hub
theorem SymC.finish {C : SymC} (hC : C.Ok) {L : List (List Int)} {w w6 w8 : World} {d : List (List Int)} {p : List Int} {A : Option Addr} {c : Nat} {vs : List Value} {u : Value} {A8 : Option Addr} {c8 : Nat} (hL : symL C.x d = L)
    (hsame : ∀ b < C.wL.heap.size, w.heap[b]? = C.wL.heap[b]?) (hwz : C.wL.heap.size ≤ w.heap.size) (hA : Blk w C.ga 41 #[.int .i64 (C.n : Int), .slice C.B C.m C.d]) (hBl : Blk w C.gl 70 #[.slice A L.length c]) (hOw : OwMv 22 3 (.int .i64) C.wL.heap.size w (.slice A L.length c) L.length vs L)
    (T6 : Below w.heap.size w w6) (hu : w6.ownsRow w.heap.size 3 1 u p.length (ints p)) (ho8 : OwMv 22 3 (.int .i64) C.wL.heap.size w8 (.slice A8 (L.length + 1) c8) (L.length + 1) (vs ++ [u]) (L ++ [p]))
    (hg8 : w6.grownBy w8 (Value.slice A L.length c).ownBlock) (hf8 : ∀ b ∈ obl (.slice A8 (L.length + 1) c8), b ∈ obl (.slice A L.length c) ∨ w6.heap.size ≤ b) (hs : symF C.x p = true) :
    ∃ bl', C.Q (w8.setCell ⟨C.gl, 0, none⟩ (.slice A8 (L.length + 1) c8)) (d ++ [p]) bl' ∧ ChgB (List.range C.wL.heap.size ++ ([C.ga, C.gl] ++ (obl (.slice A L.length c) ++ vs.filterMap Value.ownBlock))) w (w8.setCell ⟨C.gl, 0, none⟩ (.slice A8 (L.length + 1) c8)) ∧
      ∀ b ∈ bl', b ∈ List.range C.wL.heap.size ++ ([C.ga, C.gl] ++ (obl (.slice A L.length c) ++ vs.filterMap Value.ownBlock)) ∨ w.heap.size ≤ b := by
  have hnx : symL C.x (d ++ [p]) = L ++ [p] := by rw [symL_snoc, hs, hL]; rfl
  have hz6 := T6.size
  have hz8 := hg8.size
  have hno := hOw.off hBl (by decide) (by decide)
  have hao := hOw.off hA (by decide) (by decide)
  have hB6 := hBl.next T6
  have hB8 : Blk w8 C.gl 70 #[.slice A L.length c] := hB6.grown hg8 fun e => hno (List.mem_append_left _ (mem_obl.2 e.symm))
  have hA8 : Blk w8 C.ga 41 #[.int .i64 (C.n : Int), .slice C.B C.m C.d] := (hA.next T6).grown hg8 fun e => hao (List.mem_append_left _ (mem_obl.2 e.symm))
  have hno8 := ho8.off hB8 (by decide) (by decide)
  have hfar : ∀ b < w.heap.size, b ≠ C.gl → b ∉ obl (.slice A L.length c) → (w8.setCell ⟨C.gl, 0, none⟩ (.slice A8 (L.length + 1) c8)).heap[b]? = w.heap[b]? := by
    intro b hb h1 h2
    rw [Below.heap_setCell _ ⟨C.gl, 0, none⟩ _ b h1]
    exact (hg8.block b (by omega) fun e => h2 (mem_obl.2 e.symm)).trans (T6.block b hb)
  refine ⟨List.range C.wL.heap.size ++ ([C.ga, C.gl] ++ (obl (.slice A8 (L.length + 1) c8) ++ (vs ++ [u]).filterMap Value.ownBlock)), ⟨_, rfl, fun b hb => ?_, by simp; omega, hA8.far (p := ⟨C.gl, 0, none⟩) hC.dist _, A8, c8, vs ++ [u], ?_, ?_, ?_⟩, ⟨hg8.os.trans T6.os, hg8.tape.trans T6.tape, hg8.output.trans T6.output, by simp; omega, fun b hb hn => ?_⟩, fun b hb => ?_⟩
  · refine (hfar b (by omega) (by have := hC.ge.2; omega) fun hh => ?_).trans (hsame b hb)
    have := (hOw.lt b (List.mem_append_left _ hh)).1
    omega
  · rw [hnx]
    have := hB8.set_ 0 (.slice A8 (L.length + 1) c8)
    simpa using this
  · rw [hnx]
    have := ho8.sameB (w' := w8.setCell ⟨C.gl, 0, none⟩ (.slice A8 (L.length + 1) c8)) fun b hb => Below.heap_setCell _ ⟨C.gl, 0, none⟩ _ b fun e => hno8 (by rw [← show b = C.gl from e]; exact hb)
    simpa using this
  · rw [hnx]
    simp
  · refine hfar b hb (fun e => hn ?_) fun hh => hn ?_
    · rw [e]
      exact List.mem_append_right _ (List.mem_append_left _ (by simp))
    · exact List.mem_append_right _ (List.mem_append_right _ (List.mem_append_left _ hh))
  · rcases List.mem_append.1 hb with hb | hb
    · exact .inl (List.mem_append_left _ hb)
    · rcases List.mem_append.1 hb with hb | hb
      · exact .inl (List.mem_append_right _ (List.mem_append_left _ hb))
      · rcases List.mem_append.1 hb with hb | hb
        · rcases hf8 b hb with h1 | h1
          · exact .inl (List.mem_append_right _ (List.mem_append_right _ (List.mem_append_left _ h1)))
          · exact .inr (by omega)
        · rw [List.filterMap_append, List.mem_append] at hb
          rcases hb with hb | hb
          · exact .inl (List.mem_append_right _ (List.mem_append_right _ (List.mem_append_right _ hb)))
          · obtain ⟨y, hy, hyb⟩ := List.mem_filterMap.1 hb
            rw [List.mem_singleton] at hy
            subst hy
            exact .inr (hu.lt b hyb).1

def SymC.Post (C : SymC) (w w' : World) (d : List (List Int)) (bl : List Nat) : Prop :=
  ∃ bl', C.Q w' d bl' ∧ ChgB bl w w' ∧ ∀ b ∈ bl', b ∈ bl ∨ w.heap.size ≤ b
set_option maxRecDepth 20000 in
set_option maxHeartbeats 8000000 in
theorem symClo_any (C : SymC) (hC : C.Ok) (w : World) (d : List (List Int)) (bl : List Nat) (N : Option Addr) (c : Nat) (p : List Int) (hd : d.length < 4096) (hQ : C.Q w d bl) (hR : RdL RI w N C.n p) (hp : PermL C.n p) :
    Calls Try.prog 119 #[.slice N C.n c, .pointer (some ⟨C.ga, 0, none⟩), .pointer (some ⟨C.gl, 0, none⟩)] w
      fun e w' => e = .returned (.tuple #[]) ∧ C.Post w w' (d ++ [p]) bl := by
  have hrd := SymC.Q_rd hC hQ
  have HQ := Lib.hid hQ
  have HCK := Lib.hid hC
  obtain ⟨rl, rfl, hsame, hwz, hA, A, cA, vs, hBl, hOw, rfl⟩ := hQ
  obtain ⟨x, n, B, m, dd, wL, ga, gl⟩ := C
  have hn1 : x.1 = (n : Int) := hC.hn
  have hp' : PermL x.1.toNat p := by rw [hn1]; simpa using hp
  have hsm : SmallP x := hC.small
  have hsm2 := hsm.2.1
  have hn5 : n ≤ 5 := by omega
  have HPL : Hid (p.length = n) := hp.1
  have hLb : (symL x d).length ≤ 4096 := by
    have := List.length_filter_le (symF x) d
    unfold symL
    omega
  have cA0 : w.cell? ⟨ga, 0, none⟩ = some (.int .i64 (n : Int)) := by have := hA.cell 0; simpa using this
  have cA1 : w.cell? ⟨ga, 1, none⟩ = some (.slice B m dd) := by have := hA.cell 1; simpa using this
  have HC1 : ∀ wz, Below w.heap.size w wz → Calls Try.prog 120 #[.agg #[.int .i64 (n : Int), .slice B m dd], .slice N n c] wz (AlgE wz (ren x p)) := fun wz hz => rename_any [.int .i64 (n : Int), .slice B m dd] x N n c p wz (shAlgebra.stab hrd hz.block) (hR.next stab_RI hz) hsm hp'
  have HC2 : ∀ wz v css bls, Below w.heap.size w wz → PO 0 wz v (ren x p).2 css bls → Calls Try.prog 94 #[.agg #[.int .i64 (ren x p).1, v], .agg #[.int .i64 (n : Int), .slice B m dd]] wz (Bl wz (.bool (symF x p))) := fun wz v css bls hz hP => by
    have := sameAlgebra_any [.int .i64 (ren x p).1, v] [.int .i64 (n : Int), .slice B m dd] (ren x p) x wz (hP.alg (show InR x.1 from small_R hsm)) (shAlgebra.stab hrd hz.block)
    exact this
  obtain ⟨sv, HSV⟩ : ∃ b, Hid (symF x p = b) := ⟨_, rfl⟩
  rw [HSV.out] at HC2
  clear hrd hp' hsm hsm2
  have Tk : Below w.heap.size w w := Below.refl _ _
  go_enter Try.func119, Try.ntmps119
  go_upto_region 0 with fail
  go_cut [8] (fun v8 wx => v8 = .bool sv ∧ Below w.heap.size w wx)
  case first =>
    go_region_held3 (fun w' => w'.cell? ⟨ga, 0, none⟩ = some (.int .i64 (n : Int)) ∧ w'.cell? ⟨ga, 1, none⟩ = some (.slice B m dd)) (first | go_keep | exact ⟨keepc Tk cA0, keepc Tk cA1⟩) (first
      | (go_at_call 120; (with_reducible refine (HC1 _ ?_).mono ?_); (first | exact Tk | exact Below.drew Tk); rintro e wn ⟨vv, css, bls, rfl, hPn, hbn⟩; replace Tk := below_next (by first | exact Tk | exact Below.drew Tk) hbn rfl)
      | (go_at_call 94; refine (HC2 _ _ _ _ (by first | exact Tk | exact Below.drew Tk) (by first | exact hPn.mono (Nat.zero_le _) | exact (hPn.mono (Nat.zero_le _)).next (Below.drew (Below.refl _ _)))).mono ?_; rintro e wm ⟨rfl, hbm⟩; replace Tk := below_next (by first | exact Tk | exact Below.drew Tk) hbm rfl))
    all_goals
      go_wp2_with fail
      go_meet
      exact ⟨rfl, by first | exact Tk | exact Below.drew Tk⟩
  case rest =>
    obtain ⟨rfl, hT1⟩ := hcut
    obtain ⟨w1, HWC⟩ : ∃ wq : World, wq = wc := ⟨_, rfl⟩
    subst HWC
    clear Tk HC1 HC2 cA0 cA1
    rcases sv with _ | _
    · go_wp2_with fail
      go_end0
      exact ⟨rfl, _, SymC.keep HQ.out hT1 HSV.out, ChgB.ofBelow hT1, fun b hb => .inl hb⟩
    · have hR1 := hR.next stab_RI hT1
      replace hBl : Blk w gl 70 #[.slice A (symL x d).length cA] := hBl
      replace hOw : OwMv 22 3 (.int .i64) wL.heap.size w (.slice A (symL x d).length cA) (symL x d).length vs (symL x d) := hOw
      replace hA : Blk w ga 41 #[.int .i64 (n : Int), .slice B m dd] := hA
      replace hwz : wL.heap.size ≤ w.heap.size := hwz
      have HSM := Lib.hid hsame
      have HA := Lib.hid hA
      have HBl := Lib.hid hBl
      have HOw := Lib.hid hOw
      obtain ⟨L, HL⟩ : ∃ L, Hid (symL x d = L) := ⟨_, rfl⟩
      rw [HL.out] at hBl hOw hLb
      have BL1 := hBl.next hT1
      have cL := BL1.c0
      have hz1 := hT1.size
      have hSN : Hid (symL x (d ++ [p]) = L ++ [p]) := by show _ = _; rw [symL_snoc, HSV.out, HL.out]; rfl
      clear hsame hA hp
      go_upto_region 1 with fail
      go_region_law (first
        | (refine step_app1y w4 rfl (.tmp 9) (.tmp 12) rfl wL.heap.size L.length cA A vs (by rfl) hvs (.slice A4 n c4) rfl (by rfl) (by omega) (by omega) ?_; intro A8 c8 w8 hown8 hg8 hf8; have BL8 := BL4.grown hg8 (fun e => own_off hvs BL4 (by decide) e.symm); have cL8 := BL8.cell 0; have fL8 := BL8.frozen 0; simp at cL8)
        | (go_simp; go_at_call 121; refine (clone_any _ _ _ p _ (by first | exact hR1 | exact hR1.drew stab_RI) (by omega)).mono ?_; rintro e w4 ⟨A4, c4, rfl, ho4, hbn⟩; have hb4 := below_next (by first | exact hT1 | exact Below.drew hT1) hbn rfl; have hu4 : w4.ownsRow w.heap.size 3 1 (.slice A4 n c4) p.length (ints p) := by rw [HPL.out]; exact own_mono ho4 hz1
           obtain ⟨hvs, HPU⟩ := hOw.push hb4 hwz hu4; have hz4 := hb4.size; have BL4 := hBl.next hb4; have cL4 := BL4.cell 0; have cL4a := (BL4.alloc (.cells #[.slice A4 n c4] 22)).cell 0; simp at cL4 cL4a))
      all_goals
        have hO8 := HPU hown8 hg8
        have HFIN := Lib.hid (And.intro hb4 (And.intro hu4 (And.intro hO8 (And.intro hg8 hf8))))
        clear hO8 hown8 hg8 hf8 hvs HPU hu4
        go_wp2_with fail
        go_end0
        obtain ⟨h1, h2, h3, h4, h5⟩ := HFIN.out
        subst HL
        exact ⟨rfl, SymC.finish HCK.out rfl HSM.out hwz HA.out HBl.out HOw.out h1 h2 h3 h4 h5 HSV.out⟩
end Go.Proofs.Ytppnmpeicmlneaa
