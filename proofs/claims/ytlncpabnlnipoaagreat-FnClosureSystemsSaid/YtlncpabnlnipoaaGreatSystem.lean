
/- Walks of IsClosureSystem in the program. -/
import Derived.Test.YtlncpabnlnipoaaGreatMeet
namespace Go.Proofs.YtlncpabnlnipoaaGreat
open Go.RowKit

/-- Is the list a set of numbers below n? -/
def setB (n : Int) (s : List Int) : Bool := allIn 0 (n - 1) s && risesL s
set_option maxHeartbeats 400000 in
theorem isSetOf_any (A : Option Addr) (m c : Nat) (xs : List Int) (n : Int) (w : World) (h : RdL RI w A m xs) :
    Calls Tryz.prog 28 #[.int .i64 n, .slice A m c] w (Qt w (.bool (setB n xs))) := by
  rcases h1 : allIn 0 (n - 1) xs with _ | _
  all_goals
    have H1 := Lib.hid h1
    go_enter Tryz.func28, Tryz.ntmps28
    go_wp2_with (first | (go_at_call 61; refine (inSize_any _ _ _ _ _ _ h).mono ?_; rintro e w' ⟨rfl, rfl⟩) | (go_at_call 62; refine (rises_any _ _ _ _ _ h).mono ?_; rintro e w' ⟨rfl, z, rfl⟩))
    go_ret
    exact ⟨ret_bool (by unfold setB; rw [H1.out]; rfl), (by first | exact Drawn.zero _ | exact Drawn.at_ _ _ | exact (Drawn.at_ _ _).more _ | exact ((Drawn.at_ _ _).more _).more _)⟩

/-- Is the meet of s with each of some lists among xss? -/
def meetsIn (xss : List (List Int)) (s : List Int) : List (List Int) → Bool
  | [] => true
  | t :: l => if place xss (meetL t s) < 0 then false else meetsIn xss s l
/-- What the loop over the sets says from the k-th on. -/
def sysRest (n : Int) (xss : List (List Int)) : Nat → List (List Int) → Bool
  | _, [] => decide (0 < xss.length) && ((xss.getLast?.getD []).length : Int) == n
  | k, s :: l => setB n s && (k == 0 || decide (cmpT (xss.getD (k - 1) []) s < 0)) && meetsIn xss s (xss.take k) && sysRest n xss (k + 1) l
def sysB (n : Int) (xss : List (List Int)) : Bool := sysRest n xss 0 xss
def SysAt (n : Int) (xss : List (List Int)) (k : Nat) : Prop := sysRest n xss k (xss.drop k) = sysB n xss
theorem SysAt.step {n : Int} {xss : List (List Int)} {k : Nat} {s : List Int} (h : SysAt n xss k) (hd : xss.drop k = s :: xss.drop (k + 1)) (h1 : setB n s = true) (h2 : (k == 0 || decide (cmpT (xss.getD (k - 1) []) s < 0)) = true) (h3 : true = meetsIn xss s (xss.take k)) : SysAt n xss (k + 1) := by
  unfold SysAt at *; rw [← h, hd, sysRest, h1, h2, ← h3]; rfl
theorem SysAt.stop1 {n : Int} {xss : List (List Int)} {k : Nat} {s : List Int} (h : SysAt n xss k) (hd : xss.drop k = s :: xss.drop (k + 1)) (h1 : setB n s = false) : false = sysB n xss := by
  unfold SysAt at *; rw [← h, hd, sysRest, h1]; rfl
theorem SysAt.stop2 {n : Int} {xss : List (List Int)} {k : Nat} {s : List Int} (h : SysAt n xss k) (hd : xss.drop k = s :: xss.drop (k + 1)) (h2 : (k == 0 || decide (cmpT (xss.getD (k - 1) []) s < 0)) = false) : false = sysB n xss := by
  unfold SysAt at *; rw [← h, hd, sysRest, h2]; simp
theorem SysAt.stop3 {n : Int} {xss : List (List Int)} {k : Nat} {s : List Int} (h : SysAt n xss k) (hd : xss.drop k = s :: xss.drop (k + 1)) (h3 : false = meetsIn xss s (xss.take k)) : false = sysB n xss := by
  unfold SysAt at *; rw [← h, hd, sysRest, ← h3]; simp
theorem SysAt.done {n : Int} {xss : List (List Int)} {k : Nat} {r : Bool} (h : SysAt n xss k) (hd : xss.drop k = []) (hr : sysRest n xss k [] = r) : r = sysB n xss := by
  unfold SysAt at *; rw [← h, hd, hr]
theorem RdL.take {α : Type} {R : World → Value → α → Prop} {w : World} {A : Option Addr} {n : Nat} {xs : List α} (h : RdL R w A n xs) {k : Nat} (hk : k ≤ n) : RdL R w A k (xs.take k) := by
  refine ⟨by rw [List.length_take, h.1]; omega, Nat.le_trans hk h.2.1, fun j x hj => ?_⟩
  rw [List.getElem?_take] at hj
  split at hj
  · exact h.2.2 j x hj
  · cases hj

theorem meetL_mem {ys xs : List Int} {x : Int} (h : x ∈ meetL ys xs) : x ∈ xs := by
  induction xs with
  | nil => simp [meetL] at h
  | cons a l ih =>
    rw [meetL] at h
    split at h
    · rcases List.mem_cons.1 h with rfl | h
      · exact List.mem_cons_self ..
      · exact List.mem_cons_of_mem _ (ih h)
    · exact List.mem_cons_of_mem _ (ih h)
theorem meetL_bounds {w : World} {A : Option Addr} {n : Nat} {xs ys : List Int} (h : RdL RI w A n xs) : ∀ x ∈ meetL ys xs, -9223372036854775808 ≤ x ∧ x ≤ 9223372036854775807 :=
  fun x hx => h.bounds x (meetL_mem hx)

set_option maxHeartbeats 1000000 in
theorem isSystem_any (A : Option Addr) (m c : Nat) (xss : List (List Int)) (n : Int) (w : World) (h : RdL (RV RI) w A m xss) (hm : m ≤ c) (hm2 : ∀ xs ∈ xss, xs.length ≤ 1048576) :
    Calls Tryz.prog 35 #[.int .i64 n, .slice A m c] w (Bl w (.bool (sysB n xss))) := by
  have hle := h.le
  have hlen := Lib.hid h.len
  have HM2 := Lib.hid hm2
  clear hm2
  go_enter Tryz.func35, Tryz.ntmps35
  go_wp2
  go_loopw [11] (fun i wr => ∃ k : Nat, k ≤ m ∧ i = .int .i64 k ∧ SysAt n xss k ∧ Below w.heap.size w wr) (fun i _ => m - (intOf i).toNat)
  case atStart => exact ⟨0, Nat.zero_le _, rfl, rfl, Below.refl _ _⟩
  case round =>
    obtain ⟨k, hk, rfl, H, hT⟩ := hrel
    replace h := h.next stab_RVI hT
    by_cases hlt : k < m
    · obtain ⟨b, o, v, s, rfl, hc, ⟨B, j, d, rfl, hs⟩, hd, hx⟩ := h.at hlt
      have H1 := Lib.hid hd
      have hj : j ≤ 1048576 := by have := HM2.out s (List.mem_of_getElem? hx); have := hs.len; omega
      clear hd hx
      rcases hb1 : setB n s with _ | _
      · have HB1 := Lib.hid hb1
        go_wp2_with (go_at_call 28; refine (isSetOf_any _ _ _ _ _ _ hs).mono ?_; rintro e w' ⟨rfl, z, rfl⟩)
        go_ret
        exact ⟨ret_bool (H.stop1 H1.out HB1.out), below_drewN hT _⟩
      · have HB1 := Lib.hid hb1
        rcases hb2 : (k == 0 || decide (cmpT (xss.getD (k - 1) []) s < 0)) with _ | _
        · have HB2 := Lib.hid hb2
          have hk0 : 1 ≤ k := by simp at hb2; omega
          obtain ⟨v', p, hc', ⟨B', j', d', rfl, hp⟩, -, hpx⟩ := h.at' (k := k - 1) (by omega)
          have HP : Hid (xss.getD (k - 1) [] = p) := by simp [Hid, hpx]
          have HC : Hid (¬ cmpT p s < 0) := by
            rw [HP.out] at hb2
            simp at hb2
            have := hb2.2
            show ¬ _
            omega
          clear hb2 hpx
          have hi1 : (0 : Int) < (k : Int) := by omega
          have hi2 : (0 : Int) ≤ (k : Int) - 1 := by omega
          have hi3 : (k : Int) - 1 < (m : Int) := by omega
          have hneg : 0 ≤ cmpT p s := by have := HC.out; omega
          go_wp2_with (first | (go_at_call 28; refine (isSetOf_any _ _ _ _ _ _ hs).mono ?_; rintro e w' ⟨rfl, z, rfl⟩) | (go_at_call 53; refine (compareTerms_any _ _ _ _ _ _ _ _ _ (hp.drewN stab_RI _) (hs.drewN stab_RI _)).mono ?_; rintro e w' ⟨rfl, z', rfl⟩))
          go_ret
          exact ⟨ret_bool (H.stop2 H1.out HB2.out), by first | exact below_drewN hT _ | exact below_drewN (below_drewN hT _) _⟩
        · have HB2 := Lib.hid hb2
          have ht := h.take (k := k) (by omega)
          have hkc : (k : Int) ≤ (c : Int) := by omega
          have hk00 : (0 : Int) ≤ (k : Int) := by omega
          obtain ⟨wo, hwo⟩ : ∃ wo : World, wo = wr := ⟨_, rfl⟩
          subst hwo
          have HPv : k = 0 ∨ ∃ p, 1 ≤ k ∧ Hid (xss[k - 1]? = some p) ∧ cmpT p s < 0 := by
            rcases Nat.eq_zero_or_pos k with h0 | h0
            · exact .inl h0
            · obtain ⟨v', p, -, -, -, hpx⟩ := h.at' (k := k - 1) (by omega)
              refine .inr ⟨p, h0, hpx, ?_⟩
              simp [hpx] at hb2
              rcases hb2 with hb2 | hb2
              · omega
              · exact hb2
          clear hb2
          rcases HPv with hk0 | ⟨p, hk1, hpx, hneg⟩
          · have hi1 : ¬ (0 : Int) < (k : Int) := by omega
            clear hk0
            go_wp2_with (go_at_call 28; refine (isSetOf_any _ _ _ _ _ _ hs).mono ?_; rintro e w' ⟨rfl, z, rfl⟩)
            go_loopw [38] (fun i wi => ∃ q : Nat, q ≤ k ∧ i = .int .i64 q ∧ At (meetsIn xss s) (xss.take k) q ∧ Below wo.heap.size wo wi) (fun i _ => k - (intOf i).toNat)
            case atStart => exact ⟨0, Nat.zero_le _, rfl, rfl, by first | exact below_drewN (Below.refl _ _) _ | exact below_drewN (below_drewN (Below.refl _ _) _) _⟩
            case round =>
              obtain ⟨q, hq, rfl, HQ, hTi⟩ := hrel
              replace ht := ht.next stab_RVI hTi
              by_cases hltq : q < k
              · exfalso; omega
              · have HE := HQ.done (ht.drop_end hltq) rfl
                have HEE := Lib.hid HE
                clear HE
                go_wp2
                go_roundw
                case rel => exact ⟨k + 1, by omega, by go_num, H.step H1.out HB1.out HB2.out HEE.out, below_next hT hTi rfl⟩
                case measure => simp [intOf]; omega
          · obtain ⟨v', p', hc', ⟨B', j', d', rfl, hp⟩, -, hpx'⟩ := h.at' (k := k - 1) (by omega)
            obtain rfl : p' = p := by have := hpx.out; rw [hpx'] at this; injection this
            clear hpx' hpx
            have hi1 : (0 : Int) < (k : Int) := by omega
            have hi2 : (0 : Int) ≤ (k : Int) - 1 := by omega
            have hi3 : (k : Int) - 1 < (m : Int) := by omega
            go_wp2_with (first | (go_at_call 28; refine (isSetOf_any _ _ _ _ _ _ hs).mono ?_; rintro e w' ⟨rfl, z, rfl⟩) | (go_at_call 53; refine (compareTerms_any _ _ _ _ _ _ _ _ _ (hp.drewN stab_RI _) (hs.drewN stab_RI _)).mono ?_; rintro e w' ⟨rfl, z', rfl⟩))
            go_loopw [38] (fun i wi => ∃ q : Nat, q ≤ k ∧ i = .int .i64 q ∧ At (meetsIn xss s) (xss.take k) q ∧ Below wo.heap.size wo wi) (fun i _ => k - (intOf i).toNat)
            case atStart => exact ⟨0, Nat.zero_le _, rfl, rfl, by first | exact below_drewN (Below.refl _ _) _ | exact below_drewN (below_drewN (Below.refl _ _) _) _⟩
            case round =>
              obtain ⟨q, hq, rfl, HQ, hTi⟩ := hrel
              replace h := h.next stab_RVI hTi
              replace ht := ht.next stab_RVI hTi
              replace hs := hs.next stab_RI hTi
              by_cases hltq : q < k
              · obtain ⟨v, t, hct, ⟨Bt, jt, dt, rfl, htt⟩, hdt, -⟩ := ht.at' hltq
                have H2 := Lib.hid hdt
                clear hdt
                go_wp2_with fail
                refine (meetLists_any _ _ _ _ _ _ _ _ _ hs htt hj).mono ?_
                rintro e w2 ⟨A', n', c', rfl, how, hb2⟩
                have hm' := rd_of_own (R := RI) how (fun x hx => ⟨rfl, meetL_bounds hs x hx⟩)
                replace h := h.next stab_RVI hb2
                go_wp2_with (go_at_call 64; refine (patternAt_any _ _ _ _ _ _ _ _ _ h hm').mono ?_; rintro e w' ⟨rfl, rfl⟩)
                · go_ret
                  exact ⟨ret_bool (H.stop3 H1.out (HQ.stop H2.out (by rw [meetsIn, if_pos (by assumption)]))), below_next hT (below_next hTi hb2 rfl) rfl⟩
                · go_roundw
                  case rel => exact ⟨q + 1, by omega, by go_num, HQ.step H2.out (by rw [meetsIn, if_neg (by omega)]), below_next hTi hb2 rfl⟩
                  case measure => simp [intOf]; omega
              · have HE := HQ.done (ht.drop_end hltq) rfl
                have HEE := Lib.hid HE
                clear HE
                go_wp2
                go_roundw
                case rel => exact ⟨k + 1, by omega, by go_num, H.step H1.out HB1.out HB2.out HEE.out, below_next hT hTi rfl⟩
                case measure => simp [intOf]; omega
    · have hd := h.drop_end hlt
      have hend : sysRest n xss k [] = (decide (0 < xss.length) && ((xss.getLast?.getD []).length : Int) == n) := rfl
      have HE := Lib.hid hend
      have HD := Lib.hid hd
      clear hend hd
      by_cases hm0 : m = 0
      · have hi : ¬ (0 : Int) < (m : Int) := by omega
        have hi' : decide (0 < m) = false := by simp; omega
        go_wp2
        go_ret
        exact ⟨ret_bool (H.done HD.out (by rw [HE.out, hlen.out]; simp [hm0])), hT⟩
      · obtain ⟨b, o, v, s, rfl, hc, ⟨B, j, d, rfl, hs⟩, -, hx⟩ := h.at (k := m - 1) (by omega)
        have hi : (0 : Int) < (m : Int) := by omega
        have hi' : decide (0 < m) = true := by simp; omega
        have hi2 : (0 : Int) ≤ (m : Int) - 1 := by omega
        have hi3 : (m : Int) - 1 < (m : Int) := by omega
        have HL : Hid (xss.getLast?.getD [] = s) := by
          show _ = _
          rw [List.getLast?_eq_getElem?, hlen.out, hx]; rfl
        have HJ := Lib.hid hs.len
        clear hx
        go_wp2
        go_ret
        exact ⟨ret_bool (H.done HD.out (by rw [HE.out, hlen.out, HL.out, HJ.out, decide_eq_true (by omega)]; rfl)), hT⟩
end Go.Proofs.YtlncpabnlnipoaaGreat
