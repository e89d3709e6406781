
/- Walks: maps between posets; IsMonotone, in the program and in the reference. -/
import Derived.Test.YtlncpabnlnipoaaL23
import Derived.Deep.RegionHeld3
namespace Go.Proofs.Ytlncpabnlnipoaa
open Go.RowKit

theorem upto {P : Nat → Prop} {k : Nat} (h : ∀ x < k, P x) (hk : P k) : ∀ x < k + 1, P x := fun x hx => by
  rcases Nat.lt_or_ge x k with h1 | h1
  · exact h x h1
  · have : x = k := by omega
    subst this
    exact hk
theorem upto0 {P : Nat → Prop} : ∀ x < 0, P x := fun x hx => absurd hx (by omega)

/-- Two orders handed back, and whether both are orders. -/
def OrdR2 (w : World) (n m : Nat) (xss yss : List (List Int)) (e : Ending) (w' : World) : Prop :=
  ∃ A1 m1 c1 A2 m2 c2, e = .returned (.tuple #[.slice A1 m1 c1, .slice A2 m2 c2, .bool (tt (GoodP xss) && tt (GoodP yss))]) ∧ (GoodP xss → m1 = n ∧ RdL (RV RB) w' A1 n (tab n (leF xss))) ∧ (GoodP yss → m2 = m ∧ RdL (RV RB) w' A2 m (tab m (leF yss))) ∧ Below w.heap.size w w'

set_option maxHeartbeats 1000000 in
theorem twoOrders_any (A B : Option Addr) (n m c d : Nat) (xss yss : List (List Int)) (w : World) (h : RdL (RV RI) w A n xss) (h' : RdL (RV RI) w B m yss) :
    Calls Try.prog 28 #[.agg #[.slice A n c], .agg #[.slice B m d]] w (OrdR2 w n m xss yss) := by
  have hb := below_box2 w (.cells #[.slice A n c] 26) (.cells #[.slice B m d] 26)
  have BX := (Blk.new w 26 #[.slice A n c]).alloc (.cells #[.slice B m d] 26)
  have BY : Blk ((w.alloc (.cells #[.slice A n c] 26)).alloc (.cells #[.slice B m d] 26)) (w.heap.size + 1) 26 #[.slice B m d] := by
    have := Blk.new (w.alloc (.cells #[.slice A n c] 26)) 26 #[.slice B m d]
    simpa using this
  have cX := BX.cell 0
  simp at cX
  rcases h1 : tt (GoodP xss) with _ | _
  all_goals
    rcases h2 : tt (GoodP yss) with _ | _
    all_goals
      have H1 := Lib.hid h1
      have H2 := Lib.hid h2
      clear h1 h2
      go_enter Try.func28, Try.ntmps28
      go_wp2_with fail
      refine (orderOf_any _ _ _ _ _ (h.next stab_RVI hb)).mono ?_
      rintro e w2 ⟨A1, m1, c1, rfl, hr1, hb1⟩
      rw [H1.out]
      have hT1 := below_next hb hb1 rfl
      have BY2 := BY.next hb1
      have cY := BY2.cell 0
      simp at cY
      have HR1 := Lib.hid hr1
      clear hr1
      go_wp2_with fail
      refine (orderOf_any _ _ _ _ _ (h'.next stab_RVI hT1)).mono ?_
      rintro e w3 ⟨A2, m2, c2, rfl, hr2, hb2⟩
      rw [H2.out]
      have HR2 := Lib.hid hr2
      clear hr2
      go_wp2_with fail
      go_ret3
      exact ⟨A1, m1, c1, A2, m2, c2, by rw [H1.out, H2.out]; rfl, fun hg => ⟨(HR1.out hg).1, (HR1.out hg).2.next stab_RVB hb2⟩, HR2.out, below_next hT1 hb2 rfl⟩

set_option maxHeartbeats 400000 in
theorem has_any (A C : Option Addr) (m c l d : Nat) (fs : List Int) (w : World) (h : RdL RI w C l fs) :
    Calls Try.prog 38 #[.slice A m c, .slice C l d] w fun e w' => e = .returned (.bool (allIn 0 ((m : Int) - 1) fs)) ∧ w = w' := by
  go_enter Try.func38, Try.ntmps38
  go_wp2_with (go_at_call 57; refine (inSize_any _ _ _ _ _ _ h).mono ?_; rintro e w' ⟨rfl, rfl⟩)
  go_ret
  exact ⟨rfl, rfl⟩
def mapB (n m l : Nat) (fs : List Int) : Bool := ((l : Int) == (n : Int)) && allIn 0 ((m : Int) - 1) fs
set_option maxHeartbeats 400000 in
theorem isPosetMap_any (A B C : Option Addr) (n m l c d e : Nat) (fs : List Int) (w : World) (h : RdL RI w C l fs) :
    Calls Try.prog 29 #[.slice A n c, .slice B m d, .slice C l e] w fun e w' => e = .returned (.bool (mapB n m l fs)) ∧ w = w' := by
  unfold mapB
  rcases h1 : ((l : Int) == (n : Int)) with _ | _
  all_goals
    go_enter Try.func29, Try.ntmps29
    go_wp2_with (go_at_call 38; refine (has_any _ _ _ _ _ _ _ _ h).mono ?_; rintro e w' ⟨rfl, rfl⟩)
    go_ret
    exact ⟨rfl, rfl⟩
theorem mapB_in {n m l : Nat} {fs : List Int} (h : mapB n m l fs = true) : l = n ∧ ∀ x ∈ fs, 0 ≤ x ∧ x ≤ (m : Int) - 1 := by
  unfold mapB at h
  rw [Bool.and_eq_true, allIn_iff, beq_iff_eq] at h
  exact ⟨by omega, h.2⟩

def fAt (fs : List Int) (x : Nat) : Nat := (fs.getD x 0).toNat
theorem fAt_get {fs : List Int} {x y : Nat} (h : fs[x]? = some (y : Int)) : fAt fs x = y := by simp [fAt, List.getD_eq_getElem?_getD, h]
def MonXY (F G : Nat → Nat → Bool) (fs : List Int) (x y : Nat) : Prop := ¬ (F x y = true ∧ G (fAt fs x) (fAt fs y) = false)
def MonP (n : Nat) (F G : Nat → Nat → Bool) (fs : List Int) : Prop := ∀ x < n, ∀ y < n, MonXY F G fs x y
theorem MonXY.yes {F G : Nat → Nat → Bool} {fs : List Int} {x y x' y' : Nat} {a b : Bool} (hx : fAt fs x = x') (hy : fAt fs y = y') (h1 : F x y = a) (h2 : G x' y' = b) (h : (a && !b) = false) : MonXY F G fs x y := by
  unfold MonXY; rw [hx, hy, h1, h2]; rcases a with _ | _ <;> rcases b with _ | _ <;> simp at *
theorem MonXY.no {F G : Nat → Nat → Bool} {fs : List Int} {x y x' y' : Nat} {a b : Bool} (hx : fAt fs x = x') (hy : fAt fs y = y') (h1 : F x y = a) (h2 : G x' y' = b) (h : (a && !b) = true) : ¬ MonXY F G fs x y := by
  unfold MonXY; rw [hx, hy, h1, h2]; rcases a with _ | _ <;> rcases b with _ | _ <;> simp at *

set_option maxRecDepth 20000 in
set_option maxHeartbeats 2000000 in
theorem monotone_any (A B C : Option Addr) (n m c d e : Nat) (F G : Nat → Nat → Bool) (fs : List Int) (w : World) (h : RdL (RV RB) w A n (tab n F)) (h' : RdL (RV RB) w B m (tab m G)) (hf : RdL RI w C n fs) (hin : ∀ x ∈ fs, 0 ≤ x ∧ x ≤ (m : Int) - 1) :
    Calls Try.prog 36 #[.slice A n c, .slice B m d, .slice C n e] w (Qt w (.bool (tt (MonP n F G fs)))) := by
  have hle := h.le
  have hle' := h'.le
  have HIN := Lib.hid hin
  clear hin
  go_enter Try.func36, Try.ntmps36
  go_wp2
  go_loopw [11] (fun i wr => ∃ k : Nat, k ≤ n ∧ i = .int .i64 k ∧ Hid (∀ x < k, ∀ y < n, MonXY F G fs x y) ∧ Drawn w wr) (fun i _ => n - (intOf i).toNat)
  case atStart => exact ⟨0, Nat.zero_le _, rfl, upto0, Drawn.zero _⟩
  case round =>
    obtain ⟨k, hk, rfl, HH, z, rfl⟩ := hrel
    by_cases hlt : k < n
    · have hk0 : (0 : Int) ≤ (k : Int) := by omega
      have hk1 : (k : Int) < (n : Int) := by omega
      obtain ⟨b, o, rfl⟩ := h.addr hlt
      obtain ⟨fb, fo, rfl⟩ := hf.addr hlt
      obtain ⟨r, p, dd, hc1, hall⟩ := h.rowT hlt
      obtain ⟨v, x', hcf, ⟨rfl, -⟩, -, hx⟩ := hf.at' hlt
      have hxm := HIN.out x' (List.mem_of_getElem? hx)
      obtain ⟨x', rfl⟩ := Int.eq_ofNat_of_zero_le hxm.1
      have hx0 : (0 : Int) ≤ (x' : Int) := by omega
      have hx1 : (x' : Int) < (m : Int) := by omega
      have hxn : x' < m := by omega
      obtain ⟨b2, o2, rfl⟩ := h'.addr hxn
      obtain ⟨r2, p2, d2, hc2, hall2⟩ := h'.rowT hxn
      have HX := Lib.hid (fAt_get hx)
      have HA := Lib.hid hall
      have HA2 := Lib.hid hall2
      clear hall hall2 hx hxm
      go_wp2
      go_loopw [16] (fun i wr => ∃ q : Nat, q ≤ n ∧ i = .int .i64 q ∧ Hid (∀ y < q, MonXY F G fs k y) ∧ Drawn w wr) (fun i _ => n - (intOf i).toNat)
      case atStart => exact ⟨0, Nat.zero_le _, rfl, upto0, (by first | exact Drawn.zero _ | exact Drawn.at_ _ _ | exact (Drawn.at_ _ _).more _ | exact ((Drawn.at_ _ _).more _).more _)⟩
      case round =>
        obtain ⟨q, hq, rfl, HQ, z, rfl⟩ := hrel
        by_cases hltq : q < n
        · obtain ⟨v, y', hcg, ⟨rfl, -⟩, -, hy⟩ := hf.at' hltq
          have hym := HIN.out y' (List.mem_of_getElem? hy)
          obtain ⟨y', rfl⟩ := Int.eq_ofNat_of_zero_le hym.1
          have hy0 : (0 : Int) ≤ (y' : Int) := by omega
          have hy1 : (y' : Int) < (m : Int) := by omega
          have hq0 : (0 : Int) ≤ (q : Int) := by omega
          have hq1 : (q : Int) < (n : Int) := by omega
          have hkq := HA.out q hltq
          have hxy := HA2.out y' (by omega)
          have HY := Lib.hid (fAt_get hy)
          clear hy hym
          rcases hF : F k q with _ | _
          all_goals
            rcases hG : G x' y' with _ | _
            all_goals
              rw [hF] at hkq
              rw [hG] at hxy
              have HF := Lib.hid hF
              have HG := Lib.hid hG
              clear hF hG
              go_wp2
              go_quiet (fail)
              go_wp2
              first
                | (go_ret
                   exact ⟨ret_bool (tt_false fun hh => MonXY.no HX.out HY.out HF.out HG.out (by decide) (hh k hlt q hltq)), (by first | exact Drawn.zero _ | exact Drawn.at_ _ _ | exact (Drawn.at_ _ _).more _ | exact ((Drawn.at_ _ _).more _).more _)⟩)
                | (go_roundw
                   case rel => exact ⟨q + 1, by omega, by go_num, upto HQ.out (MonXY.yes HX.out HY.out HF.out HG.out (by decide)), (by first | exact Drawn.zero _ | exact Drawn.at_ _ _ | exact (Drawn.at_ _ _).more _ | exact ((Drawn.at_ _ _).more _).more _)⟩
                   case measure => simp [intOf]; omega)
        · have HE : Hid (∀ y < n, MonXY F G fs k y) := fun y hy => HQ.out y (by omega)
          clear HQ
          go_wp2
          go_roundw
          case rel => exact ⟨k + 1, by omega, by go_num, upto HH.out HE.out, (by first | exact Drawn.zero _ | exact Drawn.at_ _ _ | exact (Drawn.at_ _ _).more _ | exact ((Drawn.at_ _ _).more _).more _)⟩
          case measure => simp [intOf]; omega
    · have HE : Hid (MonP n F G fs) := fun x hx => HH.out x (by omega)
      go_wp2
      go_ret
      exact ⟨ret_bool (tt_true HE.out), (by first | exact Drawn.zero _ | exact Drawn.at_ _ _ | exact (Drawn.at_ _ _).more _ | exact ((Drawn.at_ _ _).more _).more _)⟩

/-! ## the reference -/
set_option maxHeartbeats 400000 in
theorem l23Leq_any (A : Option Addr) (n c : Nat) (xss : List (List Int)) (x : Int) (y : Nat) (w : World) (h : RdL (RV RI) w A n xss) (hy : y < n) :
    Calls Try.prog 25 #[.agg #[.slice A n c], .int .i64 x, .int .i64 y] w (Bl w (.bool (hasI x (rowOf xss y)))) := by
  have hle := h.le
  have hb := below_box w (.cells #[.slice A n c] 26)
  have h1 := h.next stab_RVI hb
  obtain ⟨b, o, v, t, rfl, hct, ⟨B', j', d', rfl, ht⟩, -, hxt⟩ := h1.at hy
  have HT := Lib.hid (rowOf_get hxt)
  have hy0 : (0 : Int) ≤ (y : Int) := by omega
  have hy1 : (y : Int) < (n : Int) := by omega
  clear hxt h
  go_enter Try.func25, Try.ntmps25
  go_wp2_with (go_at_call 54; refine (l1Has_any _ _ _ _ _ _ ht).mono ?_; rintro e w' ⟨rfl, rfl⟩)
  go_ret
  exact ⟨ret_bool (by rw [HT.out]), hb⟩

noncomputable def mapS (n m l : Nat) (xss yss : List (List Int)) (fs : List Int) : Bool := tt (GoodP xss) && tt (GoodP yss) && mapB n m l fs
set_option maxRecDepth 20000 in
set_option maxHeartbeats 1000000 in
theorem l30Map_any (A B C : Option Addr) (n m l c d e : Nat) (xss yss : List (List Int)) (fs : List Int) (w : World) (h : RdL (RV RI) w A n xss) (h' : RdL (RV RI) w B m yss) (hf : RdL RI w C l fs) :
    Calls Try.prog 22 #[.agg #[.slice A n c], .agg #[.slice B m d], .slice C l e] w (Bl w (.bool (mapS n m l xss yss fs))) := by
  have hle := h.le
  have hle' := h'.le
  have hb := below_box2 w (.cells #[.slice A n c] 26) (.cells #[.slice B m d] 26)
  have BX := (Blk.new w 26 #[.slice A n c]).alloc (.cells #[.slice B m d] 26)
  have BY : Blk ((w.alloc (.cells #[.slice A n c] 26)).alloc (.cells #[.slice B m d] 26)) (w.heap.size + 1) 26 #[.slice B m d] := by
    have := Blk.new (w.alloc (.cells #[.slice A n c] 26)) 26 #[.slice B m d]
    simpa using this
  have hm60 : GoodP yss → m ≤ 10 := fun hg => by rw [← h'.len]; exact hg.1
  have HM60 := Lib.hid hm60
  clear hm60
  unfold mapS mapB
  rcases h1 : tt (GoodP xss) with _ | _
  · go_enter Try.func22, Try.ntmps22
    go_wp2_with fail
    refine (l23Good_any _ _ _ _ _ (h.next stab_RVI hb)).mono ?_
    rintro e w2 ⟨rfl, hb1⟩
    rw [h1]
    go_wp2_with fail
    go_ret
    exact ⟨rfl, below_next hb hb1 rfl⟩
  · have H1 := Lib.hid h1
    clear h1
    rcases h2 : tt (GoodP yss) with _ | _
    · have H2 := Lib.hid h2
      clear h2
      go_enter Try.func22, Try.ntmps22
      go_wp2_with fail
      refine (l23Good_any _ _ _ _ _ (h.next stab_RVI hb)).mono ?_
      rintro e w2 ⟨rfl, hb1⟩
      rw [H1.out]
      have hT1 := below_next hb hb1 rfl
      have cY := (BY.next hb1).cell 0
      simp at cY
      go_wp2_with fail
      refine (l23Good_any _ _ _ _ _ (h'.next stab_RVI hT1)).mono ?_
      rintro e w3 ⟨rfl, hb2⟩
      rw [H2.out]
      have hT2 := below_next hT1 hb2 rfl
      go_wp2_with fail
      go_ret
      exact ⟨rfl, hT2⟩
    · have H2 := Lib.hid h2
      have hm6 : m ≤ 10 := HM60.out (tt_iff.1 h2)
      clear h2
      rcases h3 : ((l : Int) == (n : Int)) with _ | _
      all_goals
        go_enter Try.func22, Try.ntmps22
        go_wp2_with fail
        refine (l23Good_any _ _ _ _ _ (h.next stab_RVI hb)).mono ?_
        rintro e w2 ⟨rfl, hb1⟩
        rw [H1.out]
        have hT1 := below_next hb hb1 rfl
        have BX2 := BX.next hb1
        have BY2 := BY.next hb1
        have cY := BY2.cell 0
        simp at cY
        go_wp2_with fail
        refine (l23Good_any _ _ _ _ _ (h'.next stab_RVI hT1)).mono ?_
        rintro e w3 ⟨rfl, hb2⟩
        rw [H2.out]
        have hT2 := below_next hT1 hb2 rfl
        replace hf := hf.next stab_RI hT2
        have cX3 := (BX2.next hb2).cell 0
        have cY3 := (BY2.next hb2).cell 0
        simp at cX3 cY3
        go_wp2_with (go_at_call 52; refine (l2Elements_any _ _ _ _ _ _ hf (by omega) (by omega)).mono ?_; rintro e w' ⟨rfl, rfl⟩)
        go_ret
        exact ⟨rfl, hT2⟩

def MonS (xss yss : List (List Int)) (fs : List Int) (n : Nat) : Prop := ∀ y < n, ∀ (i : Nat) v, (rowOf xss y)[i]? = some v → hasI (fAt fs v.toNat) (rowOf yss (fAt fs y)) = true
theorem mon_iff {n : Nat} {xss yss : List (List Int)} {fs : List Int} (hx : xss.length = n) (hg : GoodP xss) : MonS xss yss fs n ↔ MonP n (leF xss) (leF yss) fs := by
  constructor
  · rintro h x hxn y hyn ⟨h1, h2⟩
    obtain ⟨i, hi⟩ := List.getElem?_of_mem (hasI_iff.1 h1)
    have := h y hyn i _ hi
    rw [Int.toNat_natCast] at this
    unfold leF at h2
    rw [this] at h2
    exact absurd h2 (by decide)
  · intro h y hyn i v hv
    have hm := List.mem_of_getElem? hv
    have hb := allIn_iff.1 (hg.2.1 y (by omega)).2 v hm
    obtain ⟨v, rfl⟩ := Int.eq_ofNat_of_zero_le hb.1
    rw [Int.toNat_natCast]
    rcases e : hasI (fAt fs v) (rowOf yss (fAt fs y)) with _ | _
    · exact absurd ⟨hasI_iff.2 hm, e⟩ (h v (by omega) y hyn)
    · rfl

set_option maxRecDepth 20000 in
set_option maxHeartbeats 2000000 in
theorem l30Monotone_any (A B C : Option Addr) (n m c d e : Nat) (xss yss : List (List Int)) (fs : List Int) (w : World) (h : RdL (RV RI) w A n xss) (h' : RdL (RV RI) w B m yss) (hf : RdL RI w C n fs) (hin : ∀ x ∈ fs, 0 ≤ x ∧ x ≤ (m : Int) - 1) (hg : GoodP xss) :
    Calls Try.prog 40 #[.agg #[.slice A n c], .agg #[.slice B m d], .slice C n e] w (Bl w (.bool (tt (MonS xss yss fs n)))) := by
  have hle := h.le
  have hle' := h'.le
  have HG := Lib.hid hg
  have HL := Lib.hid h.len
  have HIN := Lib.hid hin
  clear hin hg
  have hb := below_box2 w (.cells #[.slice A n c] 26) (.cells #[.slice B m d] 26)
  have BX := (Blk.new w 26 #[.slice A n c]).alloc (.cells #[.slice B m d] 26)
  have BY : Blk ((w.alloc (.cells #[.slice A n c] 26)).alloc (.cells #[.slice B m d] 26)) (w.heap.size + 1) 26 #[.slice B m d] := by
    have := Blk.new (w.alloc (.cells #[.slice A n c] 26)) 26 #[.slice B m d]
    simpa using this
  go_enter Try.func40, Try.ntmps40
  go_wp2
  go_loopw [7, 8] (fun i _ wr => ∃ k : Nat, k ≤ n ∧ i = .int .i64 k ∧ Hid (∀ y < k, ∀ (i : Nat) v, (rowOf xss y)[i]? = some v → hasI (fAt fs v.toNat) (rowOf yss (fAt fs y)) = true) ∧ Blk wr w.heap.size 26 #[.slice A n c] ∧ Blk wr (w.heap.size + 1) 26 #[.slice B m d] ∧ Below w.heap.size w wr) (fun i _ _ => n - (intOf i).toNat)
  case atStart => exact ⟨0, Nat.zero_le _, rfl, upto0, BX, BY, hb⟩
  case round =>
    clear BX BY hb
    obtain ⟨k, hk, rfl, HH, BX, BY, hT⟩ := hrel
    replace h := h.next stab_RVI hT
    replace h' := h'.next stab_RVI hT
    replace hf := hf.next stab_RI hT
    have cX := BX.cell 0
    have cY := BY.cell 0
    simp at cX cY
    by_cases hlt : k < n
    · obtain ⟨b, o, v, s, rfl, hc, ⟨B1, j, d1, rfl, hs⟩, -, hx⟩ := h.at hlt
      have HX := Lib.hid (rowOf_get hx)
      have HJ := Lib.hid hs.len
      have hk0 : (0 : Int) ≤ (k : Int) := by omega
      have hk1 : (k : Int) < (n : Int) := by omega
      have hjle := hs.le
      obtain ⟨fb, fo, v, y', rfl, hcf, ⟨rfl, -⟩, -, hy⟩ := hf.at hlt
      have hym := HIN.out y' (List.mem_of_getElem? hy)
      obtain ⟨y', rfl⟩ := Int.eq_ofNat_of_zero_le hym.1
      have HY := Lib.hid (fAt_get hy)
      have hyn : y' < m := by omega
      clear hx hy hym cX cY
      obtain ⟨wo, hwo⟩ : ∃ wo : World, wo = wr := ⟨_, rfl⟩
      subst hwo
      have cX := BX.cell 0
      simp at cX
      go_wp2
      clear cX
      go_loopw [8] (fun i wi => ∃ q : Nat, q ≤ j ∧ i = .int .i64 q ∧ Hid (∀ i < q, ∀ v, (rowOf xss k)[i]? = some v → hasI (fAt fs v.toNat) (rowOf yss (fAt fs k)) = true) ∧ Below wo.heap.size wo wi) (fun i _ => j - (intOf i).toNat)
      case atStart => exact ⟨0, Nat.zero_le _, rfl, upto0, Below.refl _ _⟩
      case round =>
        obtain ⟨q, hq, rfl, HQ, hTi⟩ := hrel
        have cX := (BX.next hTi).cell 0
        have cY := (BY.next hTi).cell 0
        simp at cX cY
        have hc' : wr.cell? ⟨b, o + k, none⟩ = some (.slice B1 j d1) := (hTi.cell (p := ⟨b, o + k, none⟩) (cell_lt hc)).trans hc
        have hcf' : wr.cell? ⟨fb, fo + k, none⟩ = some (.int .i64 y') := (hTi.cell (p := ⟨fb, fo + k, none⟩) (cell_lt hcf)).trans hcf
        by_cases hltq : q < j
        · obtain ⟨B3, B4, v, x, rfl, hcy, ⟨rfl, -⟩, -, hxy⟩ := (hs.next stab_RI hTi).at hltq
          have hxm := allIn_iff.1 (HG.out.2.1 k (by rw [HL.out]; exact hlt)).2 x (by rw [HX.out]; exact List.mem_of_getElem? hxy)
          rw [HL.out] at hxm
          obtain ⟨x, rfl⟩ := Int.eq_ofNat_of_zero_le hxm.1
          have hx0 : (0 : Int) ≤ (x : Int) := by omega
          have hx1 : (x : Int) < (n : Int) := by omega
          have hq0 : (0 : Int) ≤ (q : Int) := by omega
          have hq1 : (q : Int) < (j : Int) := by omega
          obtain ⟨v, x', hcx, ⟨rfl, -⟩, -, hxx⟩ := (hf.next stab_RI hTi).at' (k := x) (by omega)
          have hxm' := HIN.out x' (List.mem_of_getElem? hxx)
          obtain ⟨x', rfl⟩ := Int.eq_ofNat_of_zero_le hxm'.1
          have HXX := Lib.hid (fAt_get hxx)
          have HXY : Hid ((rowOf xss k)[q]? = some (x : Int)) := by rw [HX.out]; exact hxy
          have hh' := h'.next stab_RVI hTi
          rcases hres : hasI (x' : Int) (rowOf yss y') with _ | _
          all_goals
            have HRES := Lib.hid hres
            clear hres hxy hxx hxm hxm' hc hcf
            go_wp2
            go_region_held3 (fun w' => w'.cell? ⟨w.heap.size, 0, none⟩ = some (.slice (some ⟨b, o, none⟩) n c) ∧ w'.cell? ⟨w.heap.size + 1, 0, none⟩ = some (.slice B m d) ∧ w'.cell? ⟨b, o + k, none⟩ = some (.slice (some ⟨B3, B4, none⟩) j d1) ∧ w'.cell? ⟨B3, B4 + q, none⟩ = some (.int .i64 x) ∧ w'.cell? ⟨fb, fo + k, none⟩ = some (.int .i64 y') ∧ w'.cell? ⟨fb, fo + x, none⟩ = some (.int .i64 x')) (first | go_keep | exact ⟨keepc hb2 cX, keepc hb2 cY, keepc hb2 hc', keepc hb2 hcy, keepc hb2 hcf', keepc hb2 hcx⟩) (first | (go_at_call 25; refine (l23Leq_any _ _ _ _ _ _ _ (hh'.drew stab_RVI) hyn).mono ?_; rintro e w2 ⟨rfl, hb2⟩))
            rw [HRES.out]
            go_wp2
            first
              | (go_ret
                 exact ⟨ret_bool (tt_false fun hh => by
                   have := hh k hlt q _ HXY.out
                   rw [Int.toNat_natCast, HXX.out, HY.out, HRES.out] at this
                   exact absurd this (by decide)), below_next hT (below_next (Below.drew hTi) hb2 rfl) rfl⟩)
              | (go_roundw
                 case rel => exact ⟨q + 1, by omega, by go_num, upto HQ.out (fun v hv => by
                   rw [HXY.out] at hv
                   injection hv with hv
                   subst hv
                   rw [Int.toNat_natCast, HXX.out, HY.out, HRES.out]), below_next (Below.drew hTi) hb2 rfl⟩
                 case measure => simp [intOf]; omega)
        · have HN : Hid (∀ (i : Nat) v, (rowOf xss k)[i]? = some v → hasI (fAt fs v.toNat) (rowOf yss (fAt fs k)) = true) := fun i v hv => HQ.out i (by
            have := (List.getElem?_eq_some_iff.1 hv).1
            rw [HX.out, HJ.out] at this
            omega) v hv
          clear HQ
          go_wp2
          go_roundw
          case rel => exact ⟨k + 1, by omega, by go_num, upto HH.out HN.out, BX.next hTi, BY.next hTi, below_next hT hTi rfl⟩
          case measure => simp [intOf]; omega
    · have HE : Hid (MonS xss yss fs n) := fun x hx => HH.out x (by omega)
      go_wp2
      go_ret
      exact ⟨ret_bool (tt_true HE.out), hT⟩

/-! ## IsMonotone -/
noncomputable def monRes (n m l : Nat) (xss yss : List (List Int)) (fs : List Int) : Bool := mapS n m l xss yss fs && tt (MonP n (leF xss) (leF yss) fs)
theorem mapS_false {n m l : Nat} {xss yss : List (List Int)} {fs : List Int} (h : mapS n m l xss yss fs = false) : monRes n m l xss yss fs = false := by unfold monRes; rw [h]; rfl
theorem mapS_true {n m l : Nat} {xss yss : List (List Int)} {fs : List Int} (h : mapS n m l xss yss fs = true) : GoodP xss ∧ GoodP yss ∧ mapB n m l fs = true ∧ l = n ∧ (∀ x ∈ fs, 0 ≤ x ∧ x ≤ (m : Int) - 1) ∧ monRes n m l xss yss fs = tt (MonP n (leF xss) (leF yss) fs) := by
  have h0 := h
  unfold mapS at h
  simp only [Bool.and_eq_true, tt_iff] at h
  obtain ⟨⟨h1, h2⟩, h3⟩ := h
  exact ⟨h1, h2, h3, (mapB_in h3).1, (mapB_in h3).2, by unfold monRes; rw [h0, Bool.true_and]⟩
theorem ret_bb {a b c d : Bool} (h : a = c) (h' : b = d) : Ending.returned (.tuple #[.bool a, .bool b]) = .returned (.tuple #[.bool c, .bool d]) := by rw [h, h']

set_option maxRecDepth 20000 in
set_option maxHeartbeats 1000000 in
theorem implMono_any (A B C : Option Addr) (n m l c d e : Nat) (xss yss : List (List Int)) (fs : List Int) (w : World) (h : RdL (RV RI) w A n xss) (h' : RdL (RV RI) w B m yss) (hf : RdL RI w C l fs) :
    Calls Try.prog 10 #[.agg #[.slice A n c], .agg #[.slice B m d], .slice C l e] w (Bl w (.tuple #[.bool (monRes n m l xss yss fs), .bool (mapS n m l xss yss fs)])) := by
  have hb := below_box2 w (.cells #[.slice A n c] 26) (.cells #[.slice B m d] 26)
  have BX := (Blk.new w 26 #[.slice A n c]).alloc (.cells #[.slice B m d] 26)
  have BY : Blk ((w.alloc (.cells #[.slice A n c] 26)).alloc (.cells #[.slice B m d] 26)) (w.heap.size + 1) 26 #[.slice B m d] := by
    have := Blk.new (w.alloc (.cells #[.slice A n c] 26)) 26 #[.slice B m d]
    simpa using this
  have cX := BX.cell 0
  have cY := BY.cell 0
  simp at cX cY
  rcases h1 : (tt (GoodP xss) && tt (GoodP yss)) with _ | _
  · have H0 : mapS n m l xss yss fs = false := by unfold mapS; rw [h1]; rfl
    have H1 := Lib.hid h1
    have H2 := Lib.hid (mapS_false H0)
    have H3 := Lib.hid H0
    clear h1 H0
    go_enter Try.func10, Try.ntmps10
    go_wp2_with fail
    refine (twoOrders_any _ _ _ _ _ _ _ _ _ (h.next stab_RVI hb) (h'.next stab_RVI hb)).mono ?_
    rintro e w2 ⟨A1, m1, c1, A2, m2, c2, rfl, -, -, hb1⟩
    rw [H1.out]
    go_wp2_with fail
    go_ret2
    exact ⟨ret_bb H2.out.symm H3.out.symm, below_next hb hb1 rfl⟩
  · have HG : GoodP xss ∧ GoodP yss := by simpa only [Bool.and_eq_true, tt_iff] using h1
    have H1 := Lib.hid h1
    rcases h4 : mapB n m l fs with _ | _
    · have H0 : mapS n m l xss yss fs = false := by unfold mapS; rw [h4, Bool.and_false]
      have H4 := Lib.hid h4
      have H2 := Lib.hid (mapS_false H0)
      have H3 := Lib.hid H0
      clear h1 H0 h4
      go_enter Try.func10, Try.ntmps10
      go_wp2_with fail
      refine (twoOrders_any _ _ _ _ _ _ _ _ _ (h.next stab_RVI hb) (h'.next stab_RVI hb)).mono ?_
      rintro e w2 ⟨A1, m1, c1, A2, m2, c2, rfl, hr1, hr2, hb1⟩
      obtain ⟨rfl, hq1⟩ := hr1 HG.1
      obtain ⟨rfl, hq2⟩ := hr2 HG.2
      rw [H1.out]
      have hT1 := below_next hb hb1 rfl
      go_wp2_with fail
      refine (isPosetMap_any _ _ _ _ _ _ _ _ _ _ _ (hf.next stab_RI hT1)).mono ?_
      rintro e w' ⟨rfl, rfl⟩
      rw [H4.out]
      go_wp2_with fail
      go_ret2
      exact ⟨ret_bb H2.out.symm H3.out.symm, hT1⟩
    · have H0 : mapS n m l xss yss fs = true := by unfold mapS; rw [h1, h4]; rfl
      obtain ⟨-, -, -, rfl, hin, hres⟩ := mapS_true H0
      have H4 := Lib.hid h4
      have H2 := Lib.hid hres
      have H3 := Lib.hid H0
      have HI := Lib.hid hin
      clear h1 H0 h4 hin hres
      go_enter Try.func10, Try.ntmps10
      go_wp2_with fail
      refine (twoOrders_any _ _ _ _ _ _ _ _ _ (h.next stab_RVI hb) (h'.next stab_RVI hb)).mono ?_
      rintro e w2 ⟨A1, m1, c1, A2, m2, c2, rfl, hr1, hr2, hb1⟩
      obtain ⟨rfl, hq1⟩ := hr1 HG.1
      obtain ⟨rfl, hq2⟩ := hr2 HG.2
      rw [H1.out]
      have hT1 := below_next hb hb1 rfl
      go_wp2_with fail
      refine (isPosetMap_any _ _ _ _ _ _ _ _ _ _ _ (hf.next stab_RI hT1)).mono ?_
      rintro e w' ⟨rfl, rfl⟩
      rw [H4.out]
      go_wp2_with fail
      refine (monotone_any _ _ _ _ _ _ _ _ _ _ _ _ hq1 hq2 (hf.next stab_RI hT1) HI.out).mono ?_
      rintro e w' ⟨rfl, z, rfl⟩
      go_wp2_with fail
      go_ret2
      exact ⟨ret_bb H2.out.symm H3.out.symm, below_drewN hT1 _⟩
end Go.Proofs.Ytlncpabnlnipoaa
