
/- Walks: IsAdjointPair, in the program and in the reference. -/
import Derived.Test.YtlncpabnlnipoaaAdj
namespace Go.Proofs.Ytlncpabnlnipoaa
open Go.RowKit

noncomputable def apOk (n m l k : Nat) (xss yss : List (List Int)) (fs gs : List Int) : Bool := mapS n m l xss yss fs && mapS m n k yss xss gs
noncomputable def apRes (n m l k : Nat) (xss yss : List (List Int)) (fs gs : List Int) : Bool := apOk n m l k xss yss fs gs && tt (AdjP n m (leF xss) (leF yss) fs gs)
theorem mapB_parts {n m l : Nat} {fs : List Int} (h : mapB n m l fs = true) : l = n ∧ ∀ x ∈ fs, 0 ≤ x ∧ x ≤ (m : Int) - 1 := by
  unfold mapB at h
  simp only [Bool.and_eq_true, beq_iff_eq] at h
  exact ⟨by omega, allIn_iff.1 h.2⟩
theorem ret_bb2 {a b c d : Bool} (h : a = c) (h' : b = d) : Ending.returned (.tuple #[.bool a, .bool b]) = .returned (.tuple #[.bool c, .bool d]) := by rw [h, h']
set_option maxRecDepth 20000 in
set_option maxHeartbeats 2000000 in
theorem implAP_any (A B C D : Option Addr) (n m l k c d ec f : Nat) (xss yss : List (List Int)) (fs gs : List Int) (w : World) (h : RdL (RV RI) w A n xss) (h' : RdL (RV RI) w B m yss) (hf : RdL RI w C l fs) (hg : RdL RI w D k gs) :
    Calls Try.prog 9 #[.agg #[.slice A n c], .agg #[.slice B m d], .slice C l ec, .slice D k f] w (Bl w (.tuple #[.bool (apRes n m l k xss yss fs gs), .bool (apOk n m l k xss yss fs gs)])) := by
  have hb := below_box2 w (.cells #[.slice A n c] 26) (.cells #[.slice B m d] 26)
  have BX := (Blk.new w 26 #[.slice A n c]).alloc (.cells #[.slice B m d] 26)
  have BY : Blk ((w.alloc (.cells #[.slice A n c] 26)).alloc (.cells #[.slice B m d] 26)) (w.heap.size + 1) 26 #[.slice B m d] := by
    have := Blk.new (w.alloc (.cells #[.slice A n c] 26)) 26 #[.slice B m d]
    simpa using this
  have cX := BX.cell 0
  have cY := BY.cell 0
  simp at cX cY
  have H2 := Lib.hid (twoOrders_any A B n m c d xss yss _ (h.next stab_RVI hb) (h'.next stab_RVI hb))
  obtain ⟨ok, HOK⟩ : ∃ b, Hid ((tt (GoodP xss) && tt (GoodP yss)) = b) := ⟨_, rfl⟩
  obtain ⟨mf, HMF⟩ : ∃ b, Hid (mapB n m l fs = b) := ⟨_, rfl⟩
  obtain ⟨mg, HMG⟩ : ∃ b, Hid (mapB m n k gs = b) := ⟨_, rfl⟩
  have HAO : Hid (apOk n m l k xss yss fs gs = (ok && mf && mg)) := by
    show _ = _
    unfold apOk mapS
    rw [Bool.and_comm (tt (GoodP yss)), HOK.out, HMF.out, HMG.out]
    cases ok <;> cases mf <;> cases mg <;> rfl
  have hf1 := hf.next stab_RI hb
  have hg1 := hg.next stab_RI hb
  go_enter Try.func9, Try.ntmps9
  go_wp2_with fail
  refine H2.out.mono ?_
  rintro e w2 ⟨A1, m1, c1, A2, m2, c2, rfl, hr1, hr2, hb1⟩
  rw [HOK.out]
  have hT := below_next hb hb1 rfl
  have hf2 := hf1.next stab_RI hb1
  have hg2 := hg1.next stab_RI hb1
  have HR1 := Lib.hid hr1
  have HR2 := Lib.hid hr2
  clear hr1 hr2 cX cY hf1 hg1 H2
  rcases ok with _ | _
  · go_wp2_with fail
    go_ret2
    exact ⟨ret_bb2 (by unfold apRes; rw [HAO.out]; rfl) (by rw [HAO.out]; rfl), hT⟩
  · have HG : GoodP xss ∧ GoodP yss := by simpa only [Bool.and_eq_true, tt_iff] using HOK.out
    obtain ⟨rfl, hq1⟩ := HR1.out HG.1
    obtain ⟨rfl, hq2⟩ := HR2.out HG.2
    have HPF := Lib.hid (isPosetMap_any A1 A2 C m1 m2 l c1 c2 ec fs w2 hf2)
    rw [HMF.out] at HPF
    have HPG := Lib.hid (isPosetMap_any A2 A1 D m2 m1 k c2 c1 f gs w2 hg2)
    rw [HMG.out] at HPG
    clear HG
    go_wp2_with fail
    refine HPF.out.mono ?_
    rintro e w3 ⟨rfl, rfl⟩
    rcases mf with _ | _
    · go_wp2_with fail
      go_ret2
      exact ⟨ret_bb2 (by unfold apRes; rw [HAO.out]; rfl) (by rw [HAO.out]; rfl), hT⟩
    · go_wp2_with fail
      refine HPG.out.mono ?_
      rintro e w3 ⟨rfl, rfl⟩
      rcases mg with _ | _
      · go_wp2_with fail
        go_ret2
        exact ⟨ret_bb2 (by unfold apRes; rw [HAO.out]; rfl) (by rw [HAO.out]; rfl), hT⟩
      · obtain ⟨rfl, hin⟩ := mapB_parts HMF.out
        obtain ⟨rfl, hin2⟩ := mapB_parts HMG.out
        have HAD := Lib.hid (adjoint_any A1 A2 C D l k c1 c2 ec f (leF xss) (leF yss) fs gs w2 hq1 hq2 hf2 hg2 hin hin2)
        clear hin hin2 hq1 hq2
        go_wp2_with fail
        refine HAD.out.mono ?_
        rintro e w3 ⟨rfl, z, rfl⟩
        go_wp2_with fail
        go_ret2
        exact ⟨ret_bb2 (by unfold apRes; rw [HAO.out]; rfl) (by rw [HAO.out]; rfl), below_drewN hT z⟩
set_option maxRecDepth 20000 in
set_option maxHeartbeats 2000000 in
theorem specAP_any (A B C D : Option Addr) (n m l k c d ec f : Nat) (xss yss : List (List Int)) (fs gs : List Int) (w : World) (h : RdL (RV RI) w A n xss) (h' : RdL (RV RI) w B m yss) (hf : RdL RI w C l fs) (hg : RdL RI w D k gs) :
    Calls Try.prog 18 #[.agg #[.slice A n c], .agg #[.slice B m d], .slice C l ec, .slice D k f] w (Bl w (.tuple #[.bool (apRes n m l k xss yss fs gs), .bool (apOk n m l k xss yss fs gs)])) := by
  have hb := below_box2 w (.cells #[.slice A n c] 26) (.cells #[.slice B m d] 26)
  have BX := (Blk.new w 26 #[.slice A n c]).alloc (.cells #[.slice B m d] 26)
  have BY : Blk ((w.alloc (.cells #[.slice A n c] 26)).alloc (.cells #[.slice B m d] 26)) (w.heap.size + 1) 26 #[.slice B m d] := by
    have := Blk.new (w.alloc (.cells #[.slice A n c] 26)) 26 #[.slice B m d]
    simpa using this
  have cX := BX.cell 0
  have cY := BY.cell 0
  simp at cX cY
  have h1 := h.next stab_RVI hb
  have h1' := h'.next stab_RVI hb
  have hf1 := hf.next stab_RI hb
  have hg1 := hg.next stab_RI hb
  have HM := Lib.hid (l30Map_any A B C n m l c d ec xss yss fs _ h1 h1' hf1)
  obtain ⟨mf, HMF⟩ : ∃ b, Hid (mapS n m l xss yss fs = b) := ⟨_, rfl⟩
  obtain ⟨mg, HMG⟩ : ∃ b, Hid (mapS m n k yss xss gs = b) := ⟨_, rfl⟩
  have HAO : Hid (apOk n m l k xss yss fs gs = (mf && mg)) := by
    show _ = _
    unfold apOk
    rw [HMF.out, HMG.out]
  rw [HMF.out] at HM
  go_enter Try.func18, Try.ntmps18
  go_wp2_with fail
  refine HM.out.mono ?_
  rintro e w2 ⟨rfl, hb1⟩
  have hT := below_next hb hb1 rfl
  have h2 := h1.next stab_RVI hb1
  have h2' := h1'.next stab_RVI hb1
  have hf2 := hf1.next stab_RI hb1
  have hg2 := hg1.next stab_RI hb1
  have kX := (BX.next hb1).cell 0
  have kY := (BY.next hb1).cell 0
  simp at kX kY
  clear cX cY h1 h1' hf1 hg1 HM
  rcases mf with _ | _
  · go_wp2_with fail
    go_ret2
    exact ⟨ret_bb2 (by unfold apRes; rw [HAO.out]; rfl) (by rw [HAO.out]; rfl), hT⟩
  · have HN := Lib.hid (l30Map_any B A D m n k d c f yss xss gs w2 h2' h2 hg2)
    rw [HMG.out] at HN
    go_wp2_with fail
    refine HN.out.mono ?_
    rintro e w3 ⟨rfl, hb3⟩
    have hT3 := below_next hT hb3 rfl
    have kX3 := ((BX.next hb1).next hb3).cell 0
    have kY3 := ((BY.next hb1).next hb3).cell 0
    simp at kX3 kY3
    rcases mg with _ | _
    · go_wp2_with fail
      go_ret2
      exact ⟨ret_bb2 (by unfold apRes; rw [HAO.out]; rfl) (by rw [HAO.out]; rfl), hT3⟩
    · obtain ⟨-, -, -, rfl, hin, -⟩ := mapS_true HMF.out
      obtain ⟨-, -, -, rfl, hin2, -⟩ := mapS_true HMG.out
      have HAD := Lib.hid (l30Adjoint_any A B C D l k c d ec f xss yss fs gs w3 (h2.next stab_RVI hb3) (h2'.next stab_RVI hb3) (hf2.next stab_RI hb3) (hg2.next stab_RI hb3) hin hin2)
      clear hin hin2
      go_wp2_with fail
      refine HAD.out.mono ?_
      rintro e w4 ⟨rfl, hb4⟩
      go_wp2_with fail
      go_ret2
      exact ⟨ret_bb2 (by unfold apRes; rw [HAO.out]; rfl) (by rw [HAO.out]; rfl), below_next hT3 hb4 rfl⟩
end Go.Proofs.Ytlncpabnlnipoaa
