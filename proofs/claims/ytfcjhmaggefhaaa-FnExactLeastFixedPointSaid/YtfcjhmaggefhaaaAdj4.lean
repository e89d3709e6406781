
/- Walks: UpperAdjoint, in the reference. -/
import Derived.Test.YtfcjhmaggefhaaaAdj3
import Derived.Deep.RegionHeld3
import Derived.Deep.DeepCutAuto
namespace Go.Proofs.Ytfcjhmaggefhaaa
open Go.RowKit

set_option maxRecDepth 20000 in
set_option maxHeartbeats 4000000 in
theorem l30Adjoint_any (A B C D : Option Addr) (n m c d e d5 : Nat) (xss yss : List (List Int)) (fs gs : List Int) (w : World) (h : RdL (RV RI) w A n xss) (h' : RdL (RV RI) w B m yss) (hf : RdL RI w C n fs) (hg : RdL RI w D m gs) (hin : ∀ x ∈ fs, 0 ≤ x ∧ x ≤ (m : Int) - 1) (hin2 : ∀ x ∈ gs, 0 ≤ x ∧ x ≤ (n : Int) - 1) :
    Calls Try.prog 86 #[.agg #[.slice A n c], .agg #[.slice B m d], .slice C n e, .slice D m d5] w (Bl w (.bool (tt (AdjP n m (leF xss) (leF yss) fs gs)))) := by
  have hle := h.le
  have hle' := h'.le
  have HIN := Lib.hid hin
  have HIN2 := Lib.hid hin2
  clear hin hin2
  have hb := below_box2 w (.cells #[.slice A n c] 29) (.cells #[.slice B m d] 29)
  have BX := (Blk.new w 29 #[.slice A n c]).alloc (.cells #[.slice B m d] 29)
  have BY : Blk ((w.alloc (.cells #[.slice A n c] 29)).alloc (.cells #[.slice B m d] 29)) (w.heap.size + 1) 29 #[.slice B m d] := by
    have := Blk.new (w.alloc (.cells #[.slice A n c] 29)) 29 #[.slice B m d]
    simpa using this
  go_enter Try.func86, Try.ntmps86
  go_wp2
  go_loopw [9] (fun i wr => ∃ k : Nat, k ≤ n ∧ i = .int .i64 k ∧ Hid (∀ x < k, ∀ y < m, AdjXY (leF xss) (leF yss) fs gs x y) ∧ Blk wr w.heap.size 29 #[.slice A n c] ∧ Blk wr (w.heap.size + 1) 29 #[.slice B m d] ∧ Below w.heap.size w wr) (fun i _ => n - (intOf i).toNat)
  case atStart => exact ⟨0, Nat.zero_le _, rfl, upto0, BX, BY, hb⟩
  case round =>
    clear BX BY hb
    obtain ⟨k, hk, rfl, HH, BX, BY, hT⟩ := hrel
    replace h := h.next stab_RVI hT
    replace h' := h'.next stab_RVI hT
    replace hf := hf.next stab_RI hT
    replace hg := hg.next stab_RI hT
    by_cases hlt : k < n
    · have hk0 : (0 : Int) ≤ (k : Int) := by omega
      have hk1 : (k : Int) < (n : Int) := by omega
      obtain ⟨fb, fo, v, y', rfl, hcf, ⟨rfl, -⟩, -, hy⟩ := hf.at hlt
      have hym := HIN.out y' (List.mem_of_getElem? hy)
      obtain ⟨y', rfl⟩ := Int.eq_ofNat_of_zero_le hym.1
      have HY := Lib.hid (fAt_get hy)
      clear hy hym
      obtain ⟨wo, hwo⟩ : ∃ wo : World, wo = wr := ⟨_, rfl⟩
      subst hwo
      go_wp2
      go_loopw [10] (fun i wi => ∃ q : Nat, q ≤ m ∧ i = .int .i64 q ∧ Hid (∀ y < q, AdjXY (leF xss) (leF yss) fs gs k y) ∧ Below wo.heap.size wo wi) (fun i _ => m - (intOf i).toNat)
      case atStart => exact ⟨0, Nat.zero_le _, rfl, upto0, Below.refl _ _⟩
      case round =>
        obtain ⟨q, hq, rfl, HQ, hTi⟩ := hrel
        by_cases hltq : q < m
        · have cX := (BX.next hTi).c0
          have cY := (BY.next hTi).c0
          have hcf' : wr.cell? ⟨fb, fo + k, none⟩ = some (.int .i64 y') := keepc hTi hcf
          obtain ⟨gb, go, v, x', rfl, hcg, ⟨rfl, -⟩, -, hx⟩ := (hg.next stab_RI hTi).at hltq
          have hxm := HIN2.out x' (List.mem_of_getElem? hx)
          obtain ⟨x', rfl⟩ := Int.eq_ofNat_of_zero_le hxm.1
          have HX := Lib.hid (fAt_get hx)
          have hxn : x' < n := by omega
          have hq0 : (0 : Int) ≤ (q : Int) := by omega
          have hq1 : (q : Int) < (m : Int) := by omega
          have hh := h.next stab_RVI hTi
          have hh' := h'.next stab_RVI hTi
          obtain ⟨b1, HS1⟩ : ∃ b, Hid (hasI (y' : Int) (rowOf yss q) = b) := ⟨_, rfl⟩
          obtain ⟨b2, HS2⟩ : ∃ b, Hid (hasI (k : Int) (rowOf xss x') = b) := ⟨_, rfl⟩
          have HR1 : Hid (leF yss y' q = b1) := HS1
          have HR2 : Hid (leF xss k x' = b2) := HS2
          have HC1 : ∀ wz, Below wr.heap.size wr wz → Calls Try.prog 84 #[.agg #[.slice B m d], .int .i64 y', .int .i64 q] wz (Bl wz (.bool b1)) := fun wz hz => by
            have := l23Leq_any B m d yss (y' : Int) q wz (hh'.next stab_RVI hz) hltq
            rwa [HS1.out] at this
          have HC2 : ∀ wz, Below wr.heap.size wr wz → Calls Try.prog 84 #[.agg #[.slice A n c], .int .i64 k, .int .i64 x'] wz (Bl wz (.bool b2)) := fun wz hz => by
            have := l23Leq_any A n c xss (k : Int) x' wz (hh.next stab_RVI hz) hxn
            rwa [HS2.out] at this
          clear hx hxm
          have Tk : Below wr.heap.size wr wr := Below.refl _ _
          go_upto_region 7 with fail
          go_cut [37] (fun v37 wx => v37 = .bool (b1 != b2) ∧ Below wr.heap.size wr wx)
          case first =>
            go_region_held3 (fun w' => w'.cell? ⟨w.heap.size, 0, none⟩ = some (.slice A n c) ∧ w'.cell? ⟨w.heap.size + 1, 0, none⟩ = some (.slice B m d) ∧ w'.cell? ⟨fb, fo + k, none⟩ = some (.int .i64 y') ∧ w'.cell? ⟨gb, go + q, none⟩ = some (.int .i64 x')) (first | go_keep | exact ⟨keepc Tk cX, keepc Tk cY, keepc Tk hcf', keepc Tk hcg⟩) (first
              | (go_at_call 84; (with_reducible refine (HC1 _ ?_).mono ?_); (first | exact Tk | exact Below.drew Tk); rintro e wn ⟨rfl, hbn⟩; replace Tk := below_next (by first | exact Tk | exact Below.drew Tk) hbn rfl)
              | (go_at_call 84; (with_reducible refine (HC2 _ ?_).mono ?_); (first | exact Tk | exact Below.drew Tk); rintro e wn ⟨rfl, hbn⟩; replace Tk := below_next (by first | exact Tk | exact Below.drew Tk) hbn rfl))
            all_goals
              go_wp2_with fail
              go_meet
              exact ⟨rfl, by first | exact Tk | exact Below.drew Tk⟩
          case rest =>
            obtain ⟨rfl, hbc⟩ := hcut
            have hTc := below_next hTi hbc rfl
            rcases b1 with _ | _
            all_goals
              rcases b2 with _ | _
              all_goals
                go_wp2_with fail
                first
                  | (go_ret
                     exact ⟨ret_bool (tt_false fun hh => AdjXY.no HY.out HX.out HR1.out HR2.out (by decide) (hh k hlt q hltq)), below_next hT hTc rfl⟩)
                  | (go_roundw
                     case rel => exact ⟨q + 1, by omega, by go_num, upto HQ.out (AdjXY.yes HY.out HX.out HR1.out HR2.out (by decide)), hTc⟩
                     case measure => simp [intOf]; omega)
        · have HE : Hid (∀ y < m, AdjXY (leF xss) (leF yss) fs gs k y) := fun y hy => HQ.out y (by omega)
          clear HQ
          go_wp2
          go_roundw
          case rel => exact ⟨k + 1, by omega, by go_num, upto HH.out HE.out, BX.next hTi, BY.next hTi, below_next hT hTi rfl⟩
          case measure => simp [intOf]; omega
    · have HE : Hid (AdjP n m (leF xss) (leF yss) fs gs) := fun x hx => HH.out x (by omega)
      go_wp2
      go_ret
      exact ⟨ret_bool (tt_true HE.out), hT⟩

theorem belowAll_part {xss : List (List Int)} {xs : List Int} {x : Nat} {r : List Int} (hin : ∀ v ∈ xs, 0 ≤ v) (hr : rowOf xss x = r) : partL r xs = belowAll (leF xss) xs x := by
  rw [Bool.eq_iff_iff, partL_iff]
  unfold belowAll leF
  rw [List.all_eq_true]
  constructor
  · intro h z hz
    have h0 := hin z hz
    rw [show ((z.toNat : Nat) : Int) = z by omega, Int.toNat_natCast, hr]
    exact hasI_iff.2 (h z hz)
  · intro h z hz
    have h0 := hin z hz
    have := h z hz
    rw [show ((z.toNat : Nat) : Int) = z by omega, Int.toNat_natCast, hr] at this
    exact hasI_iff.1 this
theorem gr_last {n : Nat} {F : Nat → Nat → Bool} {xs : List Int} {v : Int} (hO : OrdP n F) (hin : ∀ x ∈ xs, 0 ≤ x ∧ x ≤ (n : Int) - 1) (hv : v ∈ xs) (hP : belowAll F xs v = true) : grI F xs = v := by
  unfold grI
  rcases e : xs.find? (belowAll F xs) with _ | u
  · rw [List.find?_eq_none] at e
    exact absurd hP (e v hv)
  · have hu := List.find?_some e
    have hum := List.mem_of_find?_eq_some e
    unfold belowAll at hP hu
    rw [List.all_eq_true] at hP hu
    have h1 := hP u hum
    have h2 := hu v hv
    have b1 := hin u hum
    have b2 := hin v hv
    by_cases hne : u = v
    · exact hne
    · exact absurd ⟨by omega, h1, h2⟩ ((hO u.toNat (by omega)).2 v.toNat (by omega)).1
end Go.Proofs.Ytfcjhmaggefhaaa
