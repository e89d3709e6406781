
/- Walks: the variables of terms, in the program and in the reference. -/
import Derived.Test.YtidjocikbmkjbaaGreatBl
import Derived.Test.YtidjocikbmkjbaaGreatPutX
import Derived.Test.YtidjocikbmkjbaaGreatEval
namespace Go.Proofs.YtidjocikbmkjbaaGreat
open Go.RowKit
set_option linter.unusedVariables false

/-- Marked by the first k terms. -/
def vmTo (xss : List (List Int)) (k y : Nat) : Bool := (xss.take k).any fun t => hasI (y : Int) t
theorem vmTo_zero (xss : List (List Int)) (y : Nat) : vmTo xss 0 y = false := rfl
theorem vmTo_next {xss : List (List Int)} {k : Nat} {t : List Int} (h : xss[k]? = some t) (y : Nat) : vmTo xss (k + 1) y = (vmTo xss k y || varM t y) := by
  unfold vmTo varM
  rw [List.take_add_one, h]
  simp
theorem vmTo_two (L R : List Int) (y : Nat) : vmTo [L, R] 2 y = (varM L y || varM R y) := by
  unfold vmTo varM
  simp
set_option maxRecDepth 20000 in
set_option maxHeartbeats 4000000 in
theorem varsOf_any (A : Option Addr) (n c : Nat) (xss : List (List Int)) (w : World) (h : RdL (RV RI) w A n xss) (h6 : ∀ t ∈ xss, ∀ v ∈ t, v < 6) (hn : n ≤ 1000) :
    Calls Tryz.prog 88 #[.slice A n c] w (OwI w (markL 6 (vmTo xss n))) := by
  have H6 := Lib.hid h6
  clear h6
  go_enter Tryz.func88, Tryz.ntmps88
  go_wp2_with (at_make; refine make_bl w rfl _ _ rfl 6 rfl rfl (by omega) ?_; intro w1 hown1 hg1)
  have hb1 := (Below.refl w.heap.size w).grown hg1 (Nat.le_refl _) (by simp)
  clear hg1
  go_loopw [11] (fun i wr => ∃ (k : Nat) (H : List Bool), k ≤ n ∧ i = .int .i64 k ∧ H.length = 6 ∧ Hid (∀ y, y < 6 → gB H y = vmTo xss k y) ∧ wr.ownsRow w.heap.size 4 1 (.slice (some ⟨w.heap.size, 0, none⟩) 6 6) 6 (bls H) ∧ Below w.heap.size w wr) (fun i _ => n - (intOf i).toNat)
  case atStart => exact ⟨0, List.replicate 6 false, Nat.zero_le _, rfl, rfl, (fun y hy => gB_get (List.getElem?_replicate.trans (if_pos hy))), hown1, hb1⟩
  case round =>
    clear hown1 hb1
    obtain ⟨k, H, hk, rfl, hH6, HM, hown, hTr⟩ := hrel
    have hle := h.le
    by_cases hlt : k < n
    · have hk0 : (0 : Int) ≤ (k : Int) := by omega
      have hk1 : (k : Int) < (n : Int) := by omega
      obtain ⟨b, o, v, t, rfl, hc, ⟨B, m, d, rfl, ht⟩, -, hx⟩ := h.at hlt
      have HX := Lib.hid hx
      have HT6 := Lib.hid (H6.out t (List.mem_of_getElem? hx))
      have htl := ht.le
      have HTL := Lib.hid ht.len
      have hc1 := keepc hTr hc
      clear hx hc
      go_wp2_with fail
      go_loopw [17] (fun i wi => ∃ (q : Nat) (H : List Bool), q ≤ m ∧ i = .int .i64 q ∧ H.length = 6 ∧ Hid (∀ y, y < 6 → gB H y = (vmTo xss k y || varTo t q y)) ∧ wi.ownsRow w.heap.size 4 1 (.slice (some ⟨w.heap.size, 0, none⟩) 6 6) 6 (bls H) ∧ Below w.heap.size w wi) (fun i _ => m - (intOf i).toNat)
      case atStart => exact ⟨0, H, Nat.zero_le _, rfl, hH6, (fun y hy => by rw [HM.out y hy, varTo_zero, Bool.or_false]), hown, hTr⟩
      case round =>
        clear hown hH6 HM hTr hc1
        obtain ⟨q, H, hq, rfl, hH6, HM, hown, hTi⟩ := hrel
        by_cases hlq : q < m
        · have hq0 : (0 : Int) ≤ (q : Int) := by omega
          have hq1 : (q : Int) < (m : Int) := by omega
          obtain ⟨b2, o2, u, v, rfl, hc2, ⟨rfl, hv0, hv1⟩, -, hxv⟩ := ht.at hlq
          have hv6 := HT6.out v (List.mem_of_getElem? hxv)
          have HN := Lib.hid (varTo_next hxv)
          replace hc2 := keepc hTi hc2
          clear hxv
          by_cases h0 : 0 ≤ v
          · obtain ⟨x, rfl⟩ := Int.eq_ofNat_of_zero_le h0
            have hx6 : x < 6 := by omega
            have hcell : wr.cell? ⟨w.heap.size, x, none⟩ = some (.bool (gB H x)) := by rw [hown.cellAt x (by omega), bls_get (by omega)]
            have hfz : wr.frozen? ⟨w.heap.size, x, none⟩ = false := hown.frozenAt x
            have hst := (hown.stored x (.bool true)).1
            rw [bls_set] at hst
            have HM2 : Hid (∀ y, y < 6 → gB (H.set x true) y = (vmTo xss k y || varTo t (q + 1) y)) := fun y hy => by
              rw [gB_set (by omega), HN.out y]
              by_cases e : y = x
              · subst e; simp
              · rw [if_neg e, HM.out y hy, decide_eq_false (by omega)]; simp
            clear hown
            go_wp2_with fail
            go_roundw
            case rel => exact ⟨q + 1, H.set x true, by omega, by go_num, by rw [List.length_set]; exact hH6, HM2, hst, hTi.setCell (Nat.le_refl _) _⟩
            case measure => simp [intOf]; try omega
          · have HM2 : Hid (∀ y, y < 6 → gB H y = (vmTo xss k y || varTo t (q + 1) y)) := fun y hy => by
              rw [HN.out y, HM.out y hy, decide_eq_false (by omega)]; simp
            go_wp2_with fail
            go_roundw
            case rel => exact ⟨q + 1, H, by omega, by go_num, hH6, HM2, hown, hTi⟩
            case measure => simp [intOf]; try omega
        · have hq1 : ¬ (q : Int) < (m : Int) := by omega
          have HM2 : Hid (∀ y, y < 6 → gB H y = vmTo xss (k + 1) y) := fun y hy => by
            rw [HM.out y hy, vmTo_next HX.out, varTo_all (by rw [HTL.out]; omega)]
          go_wp2_with fail
          go_roundw
          case rel => exact ⟨k + 1, H, by omega, by go_num, hH6, HM2, hown, hTi⟩
          case measure => simp [intOf]; try omega
    · have hk1 : ¬ (k : Int) < (n : Int) := by omega
      obtain rfl : k = n := by omega
      have hrd := rd_of_own (R := RB) hown (fun x _ => rfl)
      have HR := Lib.hid (marked_any (some ⟨w.heap.size, 0, none⟩) 6 6 H wr hrd (by omega))
      have HE : Hid (markL 6 (gB H) = markL 6 (vmTo xss k)) := markL_congr HM.out
      rw [HE.out] at HR
      clear hown hrd
      go_wp2_with fail
      refine HR.out.mono ?_
      rintro e w2 ⟨A2, c2, rfl, ho2, hb2⟩
      go_wp2_with fail
      go_ret
      exact ⟨A2, c2, rfl, own_mono ho2 hTr.size, hTr.trans (hb2.mono hTr.size)⟩
set_option maxRecDepth 20000 in
set_option maxHeartbeats 2000000 in
theorem l3Vars_any (A : Option Addr) (n c : Nat) (t : List Int) (w : World) (h : RdL RI w A n t) (h6 : ∀ v ∈ t, v < 6) :
    Calls Tryz.prog 73 #[.slice A n c] w (OwI w (markL 6 (varM t))) := by
  have H6 := Lib.hid h6
  have HTL := Lib.hid h.len
  have hle := h.le
  have hb1 := below_box w (.cells #[] 3)
  have hown1 : (w.alloc (.cells #[] 3)).ownsRow w.heap.size 3 1 (.slice (some ⟨w.heap.size, 0, none⟩) 0 0) 0 [] := World.ownsRow_lit w #[] 0 (Nat.le_refl _) (Nat.zero_le _) rfl
  clear h6
  go_enter Tryz.func73, Tryz.ntmps73
  go_wp2_with fail
  go_loopw [3, 4] (fun s i wr => ∃ (k b m c1 : Nat), k ≤ n ∧ i = .int .i64 k ∧ s = .slice (some ⟨b, 0, none⟩) m c1 ∧ m = (markL 6 (varTo t k)).length ∧ wr.ownsRow w.heap.size 3 1 (.slice (some ⟨b, 0, none⟩) m c1) m (ints (markL 6 (varTo t k))) ∧ Below w.heap.size w wr) (fun _ i _ => n - (intOf i).toNat)
  case atStart =>
    have e : markL 6 (varTo t 0) = [] := rfl
    exact ⟨0, w.heap.size, 0, 0, Nat.zero_le _, rfl, rfl, rfl, hown1, hb1⟩
  case round =>
    clear hown1 hb1
    obtain ⟨k, b0, m, c1, hk, rfl, rfl, hm, hown, hTr⟩ := hrel
    have hm6 : m ≤ 6 := by rw [hm]; exact markL_le _ _
    have HMM := Lib.hid hm
    clear hm
    by_cases hlt : k < n
    · have hk0 : (0 : Int) ≤ (k : Int) := by omega
      have hk1 : (k : Int) < (n : Int) := by omega
      obtain ⟨b, o, u, v, rfl, hc, ⟨rfl, hv0, hv1⟩, -, hx⟩ := h.at hlt
      have hv6 := H6.out v (List.mem_of_getElem? hx)
      have HN := Lib.hid (varTo_next hx)
      replace hc := keepc hTr hc
      clear hx
      by_cases h0 : 0 ≤ v
      · obtain ⟨x, rfl⟩ := Int.eq_ofNat_of_zero_le h0
        have hx6 : x < 6 := by omega
        have HC := Lib.hid (l1PutX_any w.heap.size b0 m c1 _ (x : Int) wr hown hTr.size (by omega) (fun z hz => by have := markL_in z hz; omega) (by omega))
        go_wp2_with fail
        refine HC.out.mono ?_
        rintro e w2 ⟨A2, m2, c2, L, rfl, ho2, hm2, hP, hb2⟩
        have hL := put_mark hx6 hP
        have hLe : L = markL 6 (varTo t (k + 1)) := hL.trans (markL_congr fun y hy => by rw [HN.out y, show (y == x) = decide ((x : Int) = (y : Int)) from by rw [Bool.eq_iff_iff, beq_iff_eq, decide_eq_true_iff]; omega])
        have hpos : 0 < m2 := by
          have := (put_asc (markL_asc _ _) hP).2 (x : Int)
          have hxm : (x : Int) ∈ L := this.2 (.inr rfl)
          have hl : L.length = m2 := by have := ho2.1; simpa [ints] using this
          have := List.length_pos_of_mem hxm
          omega
        obtain ⟨b2, rfl, -, -⟩ := own_form ho2 hpos
        rw [hLe] at ho2
        have HO := Lib.hid ho2
        clear hP hL hLe ho2
        go_wp2_with fail
        go_roundw
        case rel => exact ⟨k + 1, b2, m2, c2, by omega, by go_num, rfl, by have := HO.out.1; simp [ints] at this; omega, HO.out, hTr.trans (hb2.mono hTr.size)⟩
        case measure => simp [intOf]; try omega
      · have HE : Hid (markL 6 (varTo t (k + 1)) = markL 6 (varTo t k)) := markL_congr fun y hy => by rw [HN.out y, decide_eq_false (by omega), Bool.or_false]
        go_wp2_with fail
        go_roundw
        case rel => exact ⟨k + 1, b0, m, c1, by omega, by go_num, rfl, by rw [HE.out]; exact HMM.out, by rw [HE.out]; exact hown, hTr⟩
        case measure => simp [intOf]; try omega
    · have hk1 : ¬ (k : Int) < (n : Int) := by omega
      have HE : Hid (markL 6 (varTo t k) = markL 6 (varM t)) := markL_congr fun y hy => varTo_all (by rw [HTL.out]; omega) y
      rw [HE.out] at hown HMM
      go_wp2_with fail
      go_ret
      exact ⟨_, c1, by rw [HMM.out]; rfl, by rw [← HMM.out]; exact hown, hTr⟩
end Go.Proofs.YtidjocikbmkjbaaGreat
