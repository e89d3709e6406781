/- Parts of the proof: Good, LawIsClosureSystem, Closure, With, MergeP, Stab, Stab2, Stab3, SortR, Mat, Kit, Irr, SysF, Free, FreeP, SubP, Shape, HOp. -/
import Derived.Test.YtkmgbdljiajlaaaGreatQ1
import Derived.Deep.RegionLaw
import Derived.Deep.RegionHeld3
import Derived.Deep.DeepCutAuto
import Derived.BigGuardPart
import Derived.Sort.LotA
import Derived.Shelf.GgSortMore.Stable
import Derived.Test.YtkmgbdljiajlaaaGreatShelf
import Derived.Sort.OwnSorted
import Derived.BigQuiet
namespace Go.Proofs.YtkmgbdljiajlaaaGreat
open Go.RowKit

/-- A slice of slices that is not nil, as it is handed from call to call. -/
def OutM (w : World) (v : Value) (out : List (List Int)) : Prop := ∃ b o n c, v = .slice (some ⟨b, o, none⟩) n c ∧ n ≤ c ∧ RdL (RV RI) w (some ⟨b, o, none⟩) n out
theorem inv_len {n : Nat} {out : List (List Int)} (h : Inv n out) (hn : n ≤ 6) : out.length ≤ 64 := by
  have h1 := sets_len h.1 h.2
  have h2 : 2 ^ n ≤ 2 ^ 6 := Nat.pow_le_pow_right (by omega) hn
  omega

theorem Inv.putMeet {n : Nat} {cur : List (List Int)} (h : Inv n cur) {t : List Int} (ht : IsSet n t) (s : List Int) : Inv n (putL (meetL s t) cur) := by
  refine ⟨h.1.putL, fun p hp => ?_⟩
  rcases mem_putL.1 hp with rfl | hp
  · exact ht.meet s
  · exact h.2 p hp

set_option maxHeartbeats 1000000 in
theorem l30System_any (A : Option Addr) (n m c : Nat) (xss : List (List Int)) (w : World) (h : RdL (RV RI) w A m xss) (hn : n ≤ 6) :
    Calls Tryz.prog 96 #[.int .i64 n, .slice A m c] w fun e w' => ∃ v, e = .returned v ∧ OutM w' v (systemL n xss) ∧ Below w.heap.size w w' := by
  have hle := h.le
  go_enter Tryz.func96, Tryz.ntmps96
  go_wp2_with fail
  refine (l6Identity_any n _ (by omega)).mono ?_
  rintro e w1 ⟨A', c', rfl, hid, hb1⟩
  have hid' := rd_of_own (R := RI) hid (fun x hx => by have := mem_upTo.1 hx; exact ⟨rfl, by omega, by omega⟩)
  have hbox := below_box w1 (.cells #[.slice A' n c'] 27)
  have hT1 := below_next hb1 hbox rfl
  have hst : RdL (RV RI) (w1.alloc (.cells #[.slice A' n c'] 27)) (some ⟨w1.heap.size, 0, none⟩) 1 [upTo n] := by
    refine ⟨rfl, by unfold maxLen; omega, fun k x hk => ?_⟩
    have hk1 := (List.getElem?_eq_some_iff.1 hk).1
    simp at hk1
    subst hk1
    simp at hk
    subst hk
    exact ⟨w1.heap.size, 0, _, rfl, cell_new _ rfl, A', n, c', rfl, hid'.next stab_RI hbox⟩
  clear hid hid'
  go_wp2_with fail
  go_loopw [5, 6, 7, 8] (fun v i _ _ wr => ∃ (k : Nat) (out : List (List Int)), k ≤ m ∧ i = .int .i64 k ∧ OutM wr v out ∧ Inv n out ∧ Hid (systemTo (xss.drop k) out = systemL n xss) ∧ Below w.heap.size w wr) (fun _ i _ _ _ => m - (intOf i).toNat)
  case atStart => exact ⟨0, [upTo n], Nat.zero_le _, rfl, ⟨_, _, _, _, rfl, Nat.le_refl _, hst⟩, inv_start n, rfl, hT1⟩
  case round =>
    clear hst hT1 hb1 hbox
    obtain ⟨k, out, hk, rfl, ⟨ob, oo, on, oc, rfl, hoc, ho⟩, hinv, H, hT⟩ := hrel
    replace h := h.next stab_RVI hT
    by_cases hlt : k < m
    · obtain ⟨b, o, v, s, rfl, hc, ⟨B, j, d, rfl, hs⟩, hd, hx⟩ := h.at hlt
      have H1 := Lib.hid hd
      have hlen := Lib.hid ho.len
      have hol := inv_len hinv hn
      have hon : on ≤ 64 := by rw [hlen.out] at hol; exact hol
      have hole := ho.le
      clear hd hx hol
      obtain ⟨wo, hwo⟩ : ∃ wo : World, wo = wr := ⟨_, rfl⟩
      subst hwo
      go_wp2_with fail
      go_loopw [5, 8] (fun v i wi => ∃ (q : Nat) (cur : List (List Int)), q ≤ on ∧ i = .int .i64 q ∧ OutM wi v cur ∧ Inv n cur ∧ Hid (addTo s (out.drop q) cur = addTo s out out) ∧ Below wo.heap.size wo wi) (fun _ i _ => on - (intOf i).toNat)
      case atStart => exact ⟨0, out, Nat.zero_le _, rfl, ⟨ob, oo, on, oc, rfl, hoc, ho⟩, hinv, rfl, Below.refl _ _⟩
      case round =>
        obtain ⟨q, cur, hq, rfl, ⟨qb, qo, qn, qc, rfl, hqc, hcur⟩, hinv', HQ, hTi⟩ := hrel
        replace h := h.next stab_RVI hTi
        replace ho := ho.next stab_RVI hTi
        replace hs := hs.next stab_RI hTi
        by_cases hltq : q < on
        · obtain ⟨v, t, hct, ⟨Bt, jt, dt, rfl, htt⟩, hdt, hxt⟩ := ho.at' hltq
          have H2 := Lib.hid hdt
          have hqn := inv_len hinv' hn
          rw [hcur.len] at hqn
          have hjt : jt ≤ 1048576 := by
            have h1 := (set_sub (hinv.2 t (List.mem_of_getElem? hxt))).length_le
            rw [upTo_len, htt.len] at h1
            omega
          have HXT := Lib.hid (List.mem_of_getElem? hxt)
          clear hxt hdt
          have hq0 : (0 : Int) ≤ (q : Int) := by omega
          have hq1 : (q : Int) < (on : Int) := by omega
          have hk0 : (0 : Int) ≤ (k : Int) := by omega
          have hk1 : (k : Int) < (m : Int) := by omega
          have hcs : wr.cell? ⟨b, o + k, none⟩ = some (.slice B j d) := (hTi.cell (p := ⟨b, o + k, none⟩) (cell_lt hc)).trans hc
          clear hc
          go_wp2
          go_region_held3 (fun w' => w'.cell? ⟨ob, oo + q, none⟩ = some (.slice Bt jt dt) ∧ w'.cell? ⟨b, o + k, none⟩ = some (.slice B j d)) (first | go_keep | exact ⟨(hb2.cell (p := ⟨ob, oo + q, none⟩) (cell_lt hct)).trans hct, (hb2.cell (p := ⟨b, o + k, none⟩) (cell_lt hcs)).trans hcs⟩ | exact ⟨(hb3.cell (p := ⟨ob, oo + q, none⟩) (Nat.lt_of_lt_of_le (cell_lt hct) hb2.size)).trans ((hb2.cell (p := ⟨ob, oo + q, none⟩) (cell_lt hct)).trans hct), (hb3.cell (p := ⟨b, o + k, none⟩) (Nat.lt_of_lt_of_le (cell_lt hcs) hb2.size)).trans ((hb2.cell (p := ⟨b, o + k, none⟩) (cell_lt hcs)).trans hcs)⟩) (first | (go_at_call 128; refine (l30Meet_any _ _ _ _ _ _ _ _ _ (htt.drew stab_RI) (hs.drew stab_RI) hjt).mono ?_; rintro e w2 ⟨A2, n2, c2, rfl, how, hb2⟩) | (go_at_call 127; refine (l30Put_any _ _ _ _ _ _ _ _ _ _ ((hcur.drew stab_RVI).next stab_RVI hb2) (rd_of_own (R := RI) how (fun x hx => ⟨rfl, meetL_bounds htt x hx⟩)) hqc (by omega)).mono ?_; rintro e w3 ⟨b3, o3, n3, c3, rfl, hc3, hr3, hb3⟩))
          have hT3 : Below wo.heap.size wo w3 := below_next (below_next (Below.drew hTi) hb2 rfl) hb3 rfl
          go_wp2
          go_roundw
          case rel => exact ⟨q + 1, putL (meetL s t) cur, by omega, by go_num, ⟨_, _, _, _, rfl, hc3, hr3⟩, hinv'.putMeet (hinv.2 t HXT.out) s, by rw [← HQ.out, H2.out]; rfl, hT3⟩
          case measure => simp [intOf]; omega
        · have hend : Hid (cur = addTo s out out) := by rw [← HQ.out, ho.drop_end hltq]; rfl
          go_wp2
          go_roundw
          case rel => exact ⟨k + 1, addTo s out out, by omega, by go_num, ⟨_, _, _, _, rfl, hqc, by rw [← hend.out]; exact hcur⟩, hinv.addTo hinv.2, by rw [← H.out, H1.out]; rfl, below_next hT hTi rfl⟩
          case measure => simp [intOf]; omega
    · have hend : Hid (out = systemL n xss) := by rw [← H.out, h.drop_end hlt]; rfl
      go_wp2
      go_ret
      exact ⟨_, rfl, ⟨_, _, _, _, rfl, hoc, by rw [← hend.out]; exact ho⟩, hT⟩

set_option maxHeartbeats 400000 in
theorem l30Size_any (n : Int) (w : World) : Calls Tryz.prog 94 #[.int .i64 n] w fun e w' => e = .returned (.bool (inB n 0 6)) ∧ w = w' := by
  go_enter Tryz.func94, Tryz.ntmps94
  go_wp2_with (go_at_call 84; refine (l1In_any _ _ _ _).mono ?_; rintro e w' ⟨rfl, rfl⟩)
  go_ret
  exact ⟨rfl, rfl⟩
set_option maxHeartbeats 400000 in
theorem isSystemSize_any (n : Int) (w : World) : Calls Tryz.prog 43 #[.int .i64 n] w fun e w' => e = .returned (.bool (inB n 0 6)) ∧ w = w' := by
  unfold inB
  by_cases h : 0 ≤ n
  all_goals
    go_enter Tryz.func43, Tryz.ntmps43
    go_wp2
    go_ret
    exact ⟨ret_bool (by simp; omega), rfl⟩
set_option maxHeartbeats 400000 in
theorem l30Set_any (A : Option Addr) (m c : Nat) (xs : List Int) (n : Int) (w : World) (h : RdL RI w A m xs) (h0 : -1 ≤ n) (h1 : n ≤ 1048576) :
    Calls Tryz.prog 95 #[.int .i64 n, .slice A m c] w (Qt w (.bool (setB n xs))) := by
  go_enter Tryz.func95, Tryz.ntmps95
  go_wp2_with (go_at_call 120; refine (l1Rising_any _ _ _ _ _ _ _ h).mono ?_; rintro e w' ⟨rfl, z, rfl⟩)
  go_ret
  exact ⟨rfl, (by first | exact Drawn.zero _ | exact Drawn.at_ _ _ | exact (Drawn.at_ _ _).more _ | exact ((Drawn.at_ _ _).more _).more _)⟩

def allSets (n : Int) : List (List Int) → Bool
  | [] => true
  | s :: l => setB n s && allSets n l
theorem allSets_iff {n : Nat} : ∀ {xss : List (List Int)}, allSets n xss = true ↔ ∀ p ∈ xss, IsSet n p
  | [] => by simp [allSets]
  | s :: l => by simp [allSets, allSets_iff (xss := l), setB_iff]

theorem good_no {n : Nat} {xss : List (List Int)} (h : false = allSets n xss) : false = sysB n xss := by
  rcases e : sysB n xss with _ | _
  · rfl
  · have := allSets_iff.2 (sysB_iff.1 e).1.2
    rw [this] at h
    exact h
theorem good_eq {n : Nat} {xss : List (List Int)} (h : true = allSets n xss) : sysB n xss = eqLL (systemL n xss) xss := by
  rw [Bool.eq_iff_iff, sysB_iff, eqLL_iff, isSys_iff (allSets_iff.1 h.symm)]

set_option maxHeartbeats 1000000 in
theorem l30Good_any (A : Option Addr) (n m c : Nat) (xss : List (List Int)) (w : World) (h : RdL (RV RI) w A m xss) (hn : n ≤ 6) :
    Calls Tryz.prog 52 #[.int .i64 n, .slice A m c] w (Bl w (.bool (sysB n xss))) := by
  have hle := h.le
  have hlen := Lib.hid h.len
  have hin : inB n 0 6 = true := by unfold inB; simp; omega
  obtain ⟨N, hN, HN⟩ : ∃ N : Nat, wrap64 (2 ^ n) = (N : Int) ∧ Hid (N = 2 ^ n) := by
    have h1 := Nat.pow_le_pow_right (n := 2) (by omega) hn
    have e : (2 : Int) ^ n = ((2 ^ n : Nat) : Int) := by simp
    refine ⟨2 ^ n, ?_, rfl⟩
    rw [e]
    generalize 2 ^ n = N at h1
    exact IntWalk.wrap64_in _ ⟨by omega, by omega⟩
  by_cases h0 : m = 0
  · have h00 : ((m : Int) == 0) = true := by simp [h0]
    have HF : Hid (sysB n xss = false) := by
      show _ = _
      have : xss = [] := List.eq_nil_of_length_eq_zero (by rw [hlen.out, h0])
      rw [this]
      rfl
    clear h0
    go_enter Tryz.func52, Tryz.ntmps52
    go_wp2_with (go_at_call 94; refine (l30Size_any _ _).mono ?_; rintro e w' ⟨rfl, rfl⟩)
    go_ret
    exact ⟨ret_bool HF.out.symm, Below.refl _ _⟩
  · have h00 : ((m : Int) == 0) = false := by simp [h0]
    clear h0
    by_cases hmN : N < m
    · have HF : Hid (sysB n xss = false) := by
        show _ = _
        rcases e : sysB n xss with _ | _
        · rfl
        · have hs := sysB_iff.1 e
          have := sets_len hs.1.1 hs.1.2
          rw [hlen.out, ← HN.out] at this
          omega
      go_enter Tryz.func52, Tryz.ntmps52
      go_wp2_with (go_at_call 94; refine (l30Size_any _ _).mono ?_; rintro e w' ⟨rfl, rfl⟩)
      go_ret
      exact ⟨ret_bool HF.out.symm, Below.refl _ _⟩
    · go_enter Tryz.func52, Tryz.ntmps52
      go_wp2_with (go_at_call 94; refine (l30Size_any _ _).mono ?_; rintro e w' ⟨rfl, rfl⟩)
      clear hN
      go_loopw [5] (fun i wr => ∃ k : Nat, k ≤ m ∧ i = .int .i64 k ∧ At (allSets n) xss k ∧ Drawn w wr) (fun i _ => m - (intOf i).toNat)
      case atStart => exact ⟨0, Nat.zero_le _, rfl, rfl, Drawn.zero _⟩
      case round =>
        obtain ⟨k, hk, rfl, H, z, rfl⟩ := hrel
        by_cases hlt : k < m
        · obtain ⟨b, o, v, s, rfl, hc, ⟨B, j, d, rfl, hs⟩, hd, -⟩ := h.at hlt
          have H1 := Lib.hid hd
          clear hd
          go_wp2_with (go_at_call 95; refine (l30Set_any _ _ _ _ _ _ (hs.drewN stab_RI _) (by omega) (by omega)).mono ?_; rintro e w' ⟨rfl, z', rfl⟩)
          all_goals first
            | (go_ret
               exact ⟨ret_bool (good_no (H.stop H1.out (by rw [allSets, show setB n s = false from (by first | assumption | exact bf1 (by assumption) | exact bf2 (by assumption) | exact nef (by assumption) | exact nefc (by assumption) | exact eqc (by assumption))]; rfl))), (by first | exact Below.refl _ _ | exact below_drewN (Below.refl _ _) _ | exact below_drewN (below_drewN (Below.refl _ _) _) _ | exact below_drewN (below_drewN (below_drewN (Below.refl _ _) _) _) _)⟩)
            | (go_roundw
               case rel => exact ⟨k + 1, by omega, by go_num, H.step H1.out (by rw [allSets, show setB n s = true from (by first | assumption | exact bt2 (by assumption) | exact net (by assumption) | exact netc (by assumption) | exact eqc (by assumption))]; rfl), (by first | exact Drawn.zero _ | exact Drawn.at_ _ _ | exact (Drawn.at_ _ _).more _ | exact ((Drawn.at_ _ _).more _).more _)⟩
               case measure => simp [intOf]; omega)
        · have HA := Lib.hid (H.done (h.drop_end hlt) rfl)
          go_wp2_with fail
          refine (l30System_any _ _ _ _ _ _ (h.drewN stab_RVI _) hn).mono ?_
          rintro e w2 ⟨v, rfl, ⟨sb, so, sn, sc, rfl, hsc, hs⟩, hb2⟩
          have hT2 : Below w.heap.size w w2 := below_next (below_drewN (Below.refl _ _) _) hb2 rfl
          replace h := h.next stab_RVI hT2
          have hsle := hs.le
          have hslen := Lib.hid hs.len
          have HG := Lib.hid (good_eq HA.out)
          by_cases hsm : sn = m
          · subst hsm
            go_wp2_with fail
            go_loopw [7] (fun i wr => ∃ k : Nat, k ≤ sn ∧ i = .int .i64 k ∧ At2 eqLL (systemL n xss) xss k ∧ Drawn w2 wr) (fun i _ => sn - (intOf i).toNat)
            case atStart => exact ⟨0, Nat.zero_le _, rfl, rfl, Drawn.zero _⟩
            case round =>
              obtain ⟨q, hq, rfl, HQ, z2, rfl⟩ := hrel
              by_cases hltq : q < sn
              · obtain ⟨v, x, hc, ⟨P, p, pc, rfl, hx⟩, hd, -⟩ := hs.at' hltq
                obtain ⟨b', o', v', y, rfl, hc', ⟨P', p', q', rfl, hy⟩, hd', -⟩ := h.at hltq
                have H1 := Lib.hid hd
                have H2 := Lib.hid hd'
                clear hd hd'
                go_wp2
                go_quiet ((go_at_call 97; exact quiet_add (l1Same_any _ _ _ _ _ _ _ _ _ (hx.drewN stab_RI _) (hy.drewN stab_RI _))))
                go_wp2
                all_goals first
                  | (go_ret
                     exact ⟨ret_bool (by rw [HG.out]; exact HQ.stop H1.out H2.out (by rw [eqLL, show eqL x y = false from (by first | assumption | exact bf1 (by assumption) | exact bf2 (by assumption) | exact nef (by assumption) | exact nefc (by assumption) | exact eqc (by assumption))]; rfl)), (by first | exact hT2 | exact below_drewN (hT2) _ | exact below_drewN (below_drewN (hT2) _) _ | exact below_drewN (below_drewN (below_drewN (hT2) _) _) _)⟩)
                  | (go_roundw
                     case rel => exact ⟨q + 1, by omega, by go_num, HQ.step H1.out H2.out (by rw [eqLL, show eqL x y = true from (by first | assumption | exact bt2 (by assumption) | exact net (by assumption) | exact netc (by assumption) | exact eqc (by assumption))]; rfl), (by first | exact Drawn.zero _ | exact Drawn.at_ _ _ | exact (Drawn.at_ _ _).more _ | exact ((Drawn.at_ _ _).more _).more _)⟩
                     case measure => simp [intOf]; omega)
              · go_wp2
                go_ret
                exact ⟨ret_bool (by rw [HG.out]; exact HQ.done (hs.drop_end hltq) (h.drop_end hltq) rfl), below_drewN hT2 _⟩
          · have hne : ((sn : Int) != (m : Int)) = true := by rw [bne_iff_ne]; omega
            go_wp2_with fail
            go_ret
            exact ⟨ret_bool (by rw [HG.out]; exact eqLL_len (by rw [hslen.out, hlen.out]; exact hsm)), hT2⟩
end Go.Proofs.YtkmgbdljiajlaaaGreat
namespace Go.Proofs.YtkmgbdljiajlaaaGreat
open Go.RowKit

theorem ret_bool2 {a b c d : Bool} (h : a = c) (h' : b = d) : Ending.returned (.tuple #[.bool a, .bool b]) = .returned (.tuple #[.bool c, .bool d]) := by rw [h, h']
def sysRes (n : Int) (xss : List (List Int)) : Bool := inB n 0 6 && sysB n xss
set_option maxHeartbeats 400000 in
theorem implIsSys_any (A : Option Addr) (m c : Nat) (xss : List (List Int)) (n : Int) (w : World) (h : RdL (RV RI) w A m xss) (hm : m ≤ c) (hm2 : ∀ xs ∈ xss, xs.length ≤ 1048576) :
    Calls Tryz.prog 12 #[.int .i64 n, .slice A m c] w (Bl w (.tuple #[.bool (sysRes n xss), .bool (inB n 0 6)])) := by
  rcases h1 : inB n 0 6 with _ | _
  all_goals
    have H1 := Lib.hid h1
    go_enter Tryz.func12, Tryz.ntmps12
    go_wp2_with (first | (go_at_call 43; refine (isSystemSize_any _ _).mono ?_; rintro e w' ⟨rfl, rfl⟩) | (go_at_call 44; refine (isSystem_any _ _ _ _ _ _ h hm hm2).mono ?_; rintro e w1 ⟨rfl, hb1⟩))
    go_ret2
    exact ⟨ret_bool2 (by unfold sysRes; rw [H1.out]; rfl) rfl, by first | exact Below.refl _ _ | exact hb1⟩
end Go.Proofs.YtkmgbdljiajlaaaGreat
namespace Go.Proofs.YtkmgbdljiajlaaaGreat
open Go.RowKit

/-- The first closed set that has all of a set. -/
def closeL (set : List Int) : List (List Int) → List Int
  | [] => []
  | s :: l => if partL s set then s else closeL set l
theorem closeL_bounds {set : List Int} : ∀ {l : List (List Int)}, (∀ xs ∈ l, ∀ x ∈ xs, -9223372036854775808 ≤ x ∧ x ≤ 9223372036854775807) → ∀ x ∈ closeL set l, -9223372036854775808 ≤ x ∧ x ≤ 9223372036854775807
  | [], _, x, hx => by simp [closeL] at hx
  | s :: l, h, x, hx => by
    rw [closeL] at hx
    split at hx
    · exact h s (List.mem_cons_self ..) x hx
    · exact closeL_bounds (fun xs hxs => h xs (List.mem_cons_of_mem _ hxs)) x hx

/-- The call hands back an int slice that reads so. -/
def RdR (w : World) (xs : List Int) (e : Ending) (w' : World) : Prop := ∃ A n c, e = .returned (.slice A n c) ∧ RdL RI w' A n xs ∧ Below w.heap.size w w'
/-- The call hands back an int slice of its own. -/
def OwnR (w : World) (xs : List Int) (e : Ending) (w' : World) : Prop := ∃ A n c, e = .returned (.slice A n c) ∧ w'.ownsRow w.heap.size 3 1 (.slice A n c) n (ints xs) ∧ Below w.heap.size w w'
set_option maxHeartbeats 400000 in
theorem l30Close_any (A B : Option Addr) (n m c d : Nat) (xss : List (List Int)) (set : List Int) (w : World) (h : RdL (RV RI) w A n xss) (h' : RdL RI w B m set) :
    Calls Tryz.prog 54 #[.slice A n c, .slice B m d] w (RdR w (closeL set xss)) := by
  have hle := h.le
  go_enter Tryz.func54, Tryz.ntmps54
  go_wp2
  go_loop [5] (fun i => ∃ k : Nat, k ≤ n ∧ i = .int .i64 k ∧ At (closeL set) xss k) (fun i => n - (intOf i).toNat)
  case atStart => exact ⟨0, Nat.zero_le _, rfl, rfl⟩
  case round =>
    obtain ⟨k, hk, rfl, H⟩ := hrel
    by_cases hlt : k < n
    · obtain ⟨b, o, v, s, rfl, hc, ⟨P, j, g, rfl, hs⟩, hd, -⟩ := h.at hlt
      have H1 := Lib.hid hd
      clear hd
      go_wp2_with (go_at_call 98; refine (l5Within_any _ _ _ _ _ _ _ _ _ h' hs).mono ?_; rintro e w' ⟨rfl, rfl⟩)
      · have hin : partL s set = true := (by first | assumption | exact bt2 (by assumption) | exact net (by assumption) | exact netc (by assumption) | exact eqc (by assumption))
        have HR := Lib.hid (H.stop H1.out (r := s) (by rw [closeL, if_pos hin]))
        go_ret
        exact ⟨P, j, g, rfl, by rw [← HR.out]; exact hs, Below.refl _ _⟩
      · have hin : ¬ partL s set = true := by rw [show partL s set = false from (by first | assumption | exact bf1 (by assumption) | exact bf2 (by assumption) | exact nef (by assumption) | exact nefc (by assumption) | exact eqc (by assumption))]; decide
        go_round
        case rel => exact ⟨k + 1, by omega, by go_num, H.step H1.out (by rw [closeL, if_neg hin])⟩
        case measure => simp [intOf]; omega
    · have HR := Lib.hid (H.done (h.drop_end hlt) (r := []) rfl)
      go_wp2
      go_ret
      exact ⟨_, 0, 0, rfl, by rw [← HR.out]; exact RdL.nil _ _ _, below_box _ _⟩

set_option maxHeartbeats 400000 in
theorem closureIn_any (A B : Option Addr) (n m c d : Nat) (xss : List (List Int)) (set : List Int) (w : World) (h : RdL (RV RI) w A n xss) (h' : RdL RI w B m set) (hn : ∀ xs ∈ xss, xs.length ≤ 1048576) :
    Calls Tryz.prog 47 #[.slice A n c, .slice B m d] w (OwnR w (closeL set xss)) := by
  have hle := h.le
  have HN := Lib.hid hn
  clear hn
  go_enter Tryz.func47, Tryz.ntmps47
  go_wp2
  go_loop [9] (fun i => ∃ k : Nat, k ≤ n ∧ i = .int .i64 k ∧ At (closeL set) xss k) (fun i => n - (intOf i).toNat)
  case atStart => exact ⟨0, Nat.zero_le _, rfl, rfl⟩
  case round =>
    obtain ⟨k, hk, rfl, H⟩ := hrel
    by_cases hlt : k < n
    · obtain ⟨b, o, v, s, rfl, hc, ⟨P, j, g, rfl, hs⟩, hd, hx⟩ := h.at hlt
      have H1 := Lib.hid hd
      have hj : j ≤ 1048576 := by rw [← hs.len]; exact HN.out s (List.mem_of_getElem? hx)
      clear hd hx
      go_wp2_with (first | (go_at_call 90; refine (isPart_any _ _ _ _ _ _ _ _ _ h' hs).mono ?_; rintro e w' ⟨rfl, rfl⟩) | (go_at_call 78; refine (clone_any _ _ _ _ _ hs hj).mono ?_; rintro e w1 ⟨A1, c1, rfl, how, hb1⟩))
      · have hin : partL s set = true := (by first | assumption | exact bt2 (by assumption) | exact net (by assumption) | exact netc (by assumption) | exact eqc (by assumption))
        have HR := Lib.hid (H.stop H1.out (r := s) (by rw [closeL, if_pos hin]))
        go_ret
        exact ⟨A1, j, c1, rfl, by rw [← HR.out]; exact how, hb1⟩
      · have hin : ¬ partL s set = true := by rw [show partL s set = false from (by first | assumption | exact bf1 (by assumption) | exact bf2 (by assumption) | exact nef (by assumption) | exact nefc (by assumption) | exact eqc (by assumption))]; decide
        go_round
        case rel => exact ⟨k + 1, by omega, by go_num, H.step H1.out (by rw [closeL, if_neg hin])⟩
        case measure => simp [intOf]; omega
    · have HR := Lib.hid (H.done (h.drop_end hlt) (r := []) rfl)
      go_wp2
      go_ret
      exact ⟨none, 0, 0, rfl, by rw [← HR.out]; exact World.ownsRow_nil _ _ _ _, Below.refl _ _⟩

set_option maxHeartbeats 400000 in
theorem l30GoodAll_any (A : Option Addr) (m c : Nat) (xss : List (List Int)) (n : Int) (w : World) (h : RdL (RV RI) w A m xss) :
    Calls Tryz.prog 52 #[.int .i64 n, .slice A m c] w (Bl w (.bool (sysRes n xss))) := by
  rcases h1 : inB n 0 6 with _ | _
  · have H1 := Lib.hid h1
    go_enter Tryz.func52, Tryz.ntmps52
    go_wp2_with (go_at_call 94; refine (l30Size_any _ _).mono ?_; rintro e w' ⟨rfl, rfl⟩)
    go_ret
    exact ⟨ret_bool (by unfold sysRes; rw [H1.out]; rfl), Below.refl _ _⟩
  · have hb : 0 ≤ n ∧ n ≤ 6 := by unfold inB at h1; simpa using h1
    obtain ⟨k, rfl⟩ := Int.eq_ofNat_of_zero_le hb.1
    have e : sysRes k xss = sysB k xss := by unfold sysRes; rw [h1]; rfl
    rw [e]
    exact l30Good_any _ _ _ _ _ _ h (by omega)
set_option maxHeartbeats 400000 in
theorem hasSystem_any (A : Option Addr) (m c : Nat) (xss : List (List Int)) (n : Int) (w : World) (h : RdL (RV RI) w A m xss) (hm : m ≤ c) (hm2 : ∀ xs ∈ xss, xs.length ≤ 1048576) :
    Calls Tryz.prog 45 #[.int .i64 n, .slice A m c] w (Bl w (.bool (sysRes n xss))) := by
  rcases h1 : inB n 0 6 with _ | _
  all_goals
    have H1 := Lib.hid h1
    go_enter Tryz.func45, Tryz.ntmps45
    go_wp2_with (first | (go_at_call 43; refine (isSystemSize_any _ _).mono ?_; rintro e w' ⟨rfl, rfl⟩) | (go_at_call 44; refine (isSystem_any _ _ _ _ _ _ h hm hm2).mono ?_; rintro e w1 ⟨rfl, hb1⟩))
    go_ret
    exact ⟨ret_bool (by unfold sysRes; rw [H1.out]; rfl), by first | exact Below.refl _ _ | exact hb1⟩

def closeOk (n : Int) (xss : List (List Int)) (set : List Int) : Bool := sysRes n xss && setB n set
def closeRes (n : Int) (xss : List (List Int)) (set : List Int) : List Int := if closeOk n xss set then closeL set xss else []
/-- The call hands back an int slice of its own and a bool. -/
def OwnB (w : World) (xs : List Int) (b : Bool) (e : Ending) (w' : World) : Prop := ∃ A n c, e = .returned (.tuple #[.slice A n c, .bool b]) ∧ w'.ownsRow w.heap.size 3 1 (.slice A n c) n (ints xs) ∧ Below w.heap.size w w'
theorem own_lit0 {w w1 : World} (h : Below w.heap.size w w1) : (w1.alloc (.cells #[] 3)).ownsRow w.heap.size 3 1 (.slice (some ⟨w1.heap.size, 0, none⟩) 0 0) 0 (ints []) := World.ownsRow_lit _ _ _ h.size (Nat.zero_le _) rfl
theorem sysRes_range {n : Int} {xss : List (List Int)} (h : sysRes n xss = true) : 0 ≤ n ∧ n ≤ 6 := by
  unfold sysRes inB at h
  simp at h
  exact h.1

set_option maxHeartbeats 1000000 in
theorem implClosureOf_any (A B : Option Addr) (m c j d : Nat) (xss : List (List Int)) (set : List Int) (n : Int) (w : World) (h : RdL (RV RI) w A m xss) (hm : m ≤ c) (hm2 : ∀ xs ∈ xss, xs.length ≤ 1048576) (h' : RdL RI w B j set) :
    Calls Tryz.prog 14 #[.int .i64 n, .slice A m c, .slice B j d] w (OwnB w (closeRes n xss set) (closeOk n xss set)) := by
  rcases h1 : sysRes n xss with _ | _
  · have HR : Hid (closeOk n xss set = false) := by show _ = _; unfold closeOk; rw [h1]; rfl
    have H1 := Lib.hid h1
    clear h1
    go_enter Tryz.func14, Tryz.ntmps14
    go_wp2_with fail
    refine (hasSystem_any _ _ _ _ _ _ h hm hm2).mono ?_
    rintro e w1 ⟨rfl, hb1⟩
    rw [H1.out]
    go_wp2_with fail
    go_ret2
    exact ⟨_, 0, 0, by rw [HR.out]; rfl, by unfold closeRes; rw [HR.out]; exact own_lit0 hb1, below_next hb1 (below_box _ _) rfl⟩
  · rcases h2 : setB n set with _ | _
    · have HR : Hid (closeOk n xss set = false) := by show _ = _; unfold closeOk; rw [h1, h2]; rfl
      have H1 := Lib.hid h1
      have H2 := Lib.hid h2
      clear h1 h2
      go_enter Tryz.func14, Tryz.ntmps14
      go_wp2_with fail
      refine (hasSystem_any _ _ _ _ _ _ h hm hm2).mono ?_
      rintro e w1 ⟨rfl, hb1⟩
      rw [H1.out]
      go_wp2_with fail
      refine (isSetOf_any _ _ _ _ _ _ (h'.next stab_RI hb1)).mono ?_
      rintro e w2 ⟨rfl, z, rfl⟩
      rw [H2.out]
      go_wp2_with fail
      go_ret2
      exact ⟨_, 0, 0, by rw [HR.out]; rfl, by unfold closeRes; rw [HR.out]; exact own_lit0 (below_drewN hb1 _), below_next (below_drewN hb1 _) (below_box _ _) rfl⟩
    · have HR : Hid (closeOk n xss set = true) := by show _ = _; unfold closeOk; rw [h1, h2]; rfl
      have H1 := Lib.hid h1
      have H2 := Lib.hid h2
      have HM2 := Lib.hid hm2
      clear h1 h2 hm2
      go_enter Tryz.func14, Tryz.ntmps14
      go_wp2_with fail
      refine (hasSystem_any _ _ _ _ _ _ h hm HM2.out).mono ?_
      rintro e w1 ⟨rfl, hb1⟩
      rw [H1.out]
      go_wp2_with fail
      refine (isSetOf_any _ _ _ _ _ _ (h'.next stab_RI hb1)).mono ?_
      rintro e w2 ⟨rfl, z, rfl⟩
      rw [H2.out]
      go_wp2_with fail
      refine (closureIn_any _ _ _ _ _ _ _ _ _ ((h.next stab_RVI hb1).drewN stab_RVI _) ((h'.next stab_RI hb1).drewN stab_RI _) HM2.out).mono ?_
      rintro e w3 ⟨A3, n3, c3, rfl, how, hb3⟩
      go_wp2_with fail
      go_ret2
      have hT := below_drewN hb1 z
      exact ⟨A3, n3, c3, by rw [HR.out]; rfl, by unfold closeRes; rw [HR.out]; exact own_mono how hT.size, below_next hT hb3 rfl⟩

end Go.Proofs.YtkmgbdljiajlaaaGreat
namespace Go.Proofs.YtkmgbdljiajlaaaGreat
open Go.RowKit

theorem rdl_take {w : World} {b o n : Nat} {xs : List Int} (h : RdL RI w (some ⟨b, o, none⟩) n xs) {k : Nat} (hk : k ≤ n) : RdL RI w (some ⟨b, o, none⟩) k (xs.take k) := by
  have hl := h.1
  refine ⟨by rw [List.length_take]; omega, Nat.le_trans hk h.2.1, fun j x hj => ?_⟩
  rw [List.getElem?_take] at hj
  split at hj
  · exact h.2.2 j x hj
  · cases hj
theorem rdl_drop {w : World} {b o n : Nat} {xs : List Int} (h : RdL RI w (some ⟨b, o, none⟩) n xs) (k : Nat) : RdL RI w (some ⟨b, o + k, none⟩) (n - k) (xs.drop k) := by
  refine ⟨by rw [List.length_drop, h.1], Nat.le_trans (Nat.sub_le _ _) h.2.1, fun j x hj => ?_⟩
  rw [List.getElem?_drop] at hj
  obtain ⟨b', o', v, e, hc, hr⟩ := h.2.2 (k + j) x hj
  simp only [Option.some.injEq, Addr.mk.injEq, and_true] at e
  obtain ⟨rfl, rfl⟩ := e
  exact ⟨b, o + k, v, rfl, by rw [Nat.add_assoc]; exact hc, hr⟩
set_option linter.unusedVariables false in
set_option maxRecDepth 100000 in
set_option maxHeartbeats 4000000 in
theorem without_any (b o n c k : Nat) (xs : List Int) (w : World) (h : RdL RI w (some ⟨b, o, none⟩) n xs) (hk : k < n) (hnc : n ≤ c) (hn : n ≤ 1048576) :
    Calls Tryz.prog 34 #[.slice (some ⟨b, o, none⟩) n c, .int .i64 k] w (OwnR w (xs.take k ++ xs.drop (k + 1))) := by
  have hk0 : (0 : Int) ≤ (k : Int) := by omega
  have hkc : (k : Int) ≤ (c : Int) := by omega
  have hk2 : (0 : Int) ≤ (k : Int) + 1 := by omega
  have hk3 : (k : Int) + 1 ≤ (n : Int) := by omega
  have hwr : IntKind.i64.wrap ((k : Int) + 1) = (k : Int) + 1 := by rw [IntKind.wrap_i64]; omega
  have H1 := Lib.hid (rdl_take h (Nat.le_of_lt hk))
  obtain ⟨ad, HIF, H2⟩ : ∃ ad, Hid ((if c = k + 1 then some (⟨b, o, none⟩ : Addr) else some ⟨b, o + (k + 1), none⟩) = ad) ∧ Hid (RdL RI w ad (n - (k + 1)) (xs.drop (k + 1))) := by
    by_cases hq : c = k + 1
    · refine ⟨some ⟨b, o, none⟩, if_pos hq, ?_⟩
      have e0 : n - (k + 1) = 0 := by omega
      have e1 : xs.drop (k + 1) = [] := List.drop_eq_nil_of_le (by rw [h.1]; omega)
      show RdL RI w _ _ _
      rw [e0, e1]
      exact ⟨rfl, Nat.zero_le _, fun j x hj => by simp at hj⟩
    · exact ⟨_, if_neg hq, rdl_drop h (k + 1)⟩
  clear h
  go_enter Tryz.func34, Tryz.ntmps34
  go_upto_region 1 with fail
  go_region_law (first
    | (go_simp; go_at_call 78; refine (clone_any _ _ _ (xs.take k) _ (by first | exact H1.out | exact H1.out.next stab_RI (Below.drew (Below.refl _ _))) (by omega)).mono ?_; rintro e w5 ⟨A5, c5, rfl, hown5, hb5⟩; have T5 : Below w.heap.size w w5 := (by first | exact hb5 | exact below_next (Below.drew (Below.refl _ _)) hb5 rfl))
    | (refine step_appAny (R := RI) _ rfl (.tmp 8) (.tmp 12) 27 3 rfl (.int .i64 0) 8 Tryz.underlying27 info_int rfl (by decide) w.heap.size k c5 A5 (ints (xs.take k)) (by rfl) (by exact hown5) ad (n - (k + 1)) (c - (k + 1)) (xs.drop (k + 1)) (fun y => .int .i64 y) (fun _ => rfl) (by show Value.slice (if c = k + 1 then _ else _) _ _ = _; rw [HIF.out]) (H2.out.next stab_RI T5) (fun _ _ _ hr => hr.1) (by omega) (by exact T5.size) ?_; intro A6 c6 w6 hown6 hg6 hb6; have T6 := T5.trans hb6))
  go_wp2_with fail
  all_goals
    go_ret
    exact ⟨_, _, _, rfl, by simpa [ints] using hown6, T6⟩
end Go.Proofs.YtkmgbdljiajlaaaGreat
namespace Go.Proofs.YtkmgbdljiajlaaaGreat
open Go.Sort

section
variable {α : Type} [Inhabited α]
/-- e is d with the parts [a, m) and [m, b) exchanged. -/
structure Rot (d : Array α) (a m b : Nat) (e : Array α) : Prop where
  perm : PermIn a b d e
  lft : ∀ k, k < b - m → e[a + k]! = d[m + k]!
  rgt : ∀ k, k < m - a → e[a + (b - m) + k]! = d[a + k]!
theorem Rot.size {d : Array α} {a m b : Nat} {e : Array α} (h : Rot d a m b e) : e.size = d.size := h.perm.1
theorem Rot.out {d : Array α} {a m b : Nat} {e : Array α} (h : Rot d a m b e) {k : Nat} (hk : k < a ∨ b ≤ k) : e[k]! = d[k]! := h.perm.2.1 k hk
theorem permIn_in {d e : Array α} {a b a' b' : Nat} (h : PermIn a b d e) (h1 : a' ≤ a) (h2 : b ≤ b') (h3 : b' ≤ d.size) : PermIn a' b' d e := permIn_mono d e a b a' b' h1 h2 h3 h
/-- swap's first k rounds of the exchange of two ranges. -/
structure SwR (d : Array α) (a b k : Nat) (e : Array α) : Prop where
  size : e.size = d.size
  perm : ∀ lo hi, lo ≤ a → a ≤ b → b + k ≤ hi → hi ≤ d.size → PermIn lo hi d e
  lft : ∀ t, t < k → e[a + t]! = d[b + t]!
  rgt : ∀ t, t < k → e[b + t]! = d[a + t]!
  oth : ∀ t, ¬ (a ≤ t ∧ t < a + k) → ¬ (b ≤ t ∧ t < b + k) → e[t]! = d[t]!
theorem SwR.zero (d : Array α) (a b : Nat) : SwR d a b 0 d := ⟨rfl, fun lo hi _ _ _ _ => permIn_refl d lo hi, fun t h => by omega, fun t h => by omega, fun _ _ _ => rfl⟩
theorem SwR.step {d e : Array α} {a b k n : Nat} (h : SwR d a b k e) (hk : k < n) (hab : a + n ≤ b) (hb : b + n ≤ d.size) : SwR d a b (k + 1) (swp e (a + k) (b + k)) := by
  have hs := h.size
  have g := swp_get e (show a + k < e.size by omega) (show b + k < e.size by omega)
  constructor
  · rw [size_swp]; exact hs
  · intro lo hi h1 h2 h3 h4
    exact permIn_trans _ _ _ _ _ (h.perm lo hi h1 h2 (by omega) h4) (swp_permIn e lo hi (a + k) (b + k) (by omega) (by omega) (by omega) (by omega) (by omega))
  · intro t ht
    rw [g, if_neg (by omega)]
    by_cases e1 : t = k
    · subst e1; rw [if_pos rfl]; exact h.oth _ (by omega) (by omega)
    · rw [if_neg (by omega)]; exact h.lft t (by omega)
  · intro t ht
    rw [g]
    by_cases e1 : t = k
    · subst e1; rw [if_pos rfl]; exact h.oth _ (by omega) (by omega)
    · rw [if_neg (by omega), if_neg (by omega)]; exact h.rgt t (by omega)
  · intro t h1 h2
    rw [g, if_neg (by omega), if_neg (by omega)]
    exact h.oth t (by omega) (by omega)
/-- The three rounds of a rotation. -/
theorem rot_gt {d e : Array α} {m i j : Nat} (hij : j < i) (him : i ≤ m) (hb : m + j ≤ d.size) (h : SwR d (m - i) m j e) {T : Array α} (hT : Rot e (m - (i - j)) m (m + j) T) : Rot d (m - i) m (m + j) T := by
  have hs := h.size
  refine ⟨permIn_trans _ _ _ _ _ (h.perm (m - i) (m + j) (Nat.le_refl _) (by omega) (Nat.le_refl _) hb) (permIn_in hT.perm (by omega) (Nat.le_refl _) (by omega)), ?_, ?_⟩
  · intro k hk
    rw [hT.out (by omega)]
    exact h.lft k (by omega)
  · intro k hk
    by_cases h1 : k < j
    · have := hT.lft k (by omega)
      rw [show m - i + (m + j - m) + k = m - (i - j) + k by omega, this]
      exact h.rgt k h1
    · have := hT.rgt (k - j) (by omega)
      rw [show m - i + (m + j - m) + k = m - (i - j) + (m + j - m) + (k - j) by omega, this]
      rw [show m - (i - j) + (k - j) = m - i + k by omega]
      exact h.oth _ (by omega) (by omega)
theorem rot_lt {d e : Array α} {m i j : Nat} (hij : i < j) (him : i ≤ m) (hb : m + j ≤ d.size) (h : SwR d (m - i) (m + j - i) i e) {T : Array α} (hT : Rot e (m - i) m (m + (j - i)) T) : Rot d (m - i) m (m + j) T := by
  have hs := h.size
  refine ⟨permIn_trans _ _ _ _ _ (h.perm (m - i) (m + j) (Nat.le_refl _) (by omega) (by omega) hb) (permIn_in hT.perm (by omega) (by omega) (by omega)), ?_, ?_⟩
  · intro k hk
    by_cases h1 : k < j - i
    · rw [hT.lft k (by omega)]
      exact h.oth _ (by omega) (by omega)
    · have := hT.rgt (k - (j - i)) (by omega)
      rw [show m - i + k = m - i + (m + (j - i) - m) + (k - (j - i)) by omega, this, h.lft _ (by omega)]
      rw [show m + j - i + (k - (j - i)) = m + k by omega]
  · intro k hk
    have := hT.out (k := m - i + (m + j - m) + k) (by omega)
    rw [this, show m - i + (m + j - m) + k = m + j - i + k by omega]
    exact h.rgt k (by omega)
theorem rot_eq {d e : Array α} {m i : Nat} (him : i ≤ m) (hb : m + i ≤ d.size) (h : SwR d (m - i) m i e) : Rot d (m - i) m (m + i) e := by
  refine ⟨h.perm _ _ (Nat.le_refl _) (by omega) (Nat.le_refl _) hb, ?_, ?_⟩
  · intro k hk
    exact h.lft k (by omega)
  · intro k hk
    rw [show m - i + (m + i - m) + k = m + k by omega]
    exact h.rgt k (by omega)
theorem Rot.self_l (d : Array α) (m b : Nat) : Rot d m m b d := ⟨permIn_refl _ _ _, fun _ _ => rfl, fun k hk => by omega⟩
theorem Rot.self_r (d : Array α) (a m : Nat) : Rot d a m m d := ⟨permIn_refl _ _ _, fun k hk => by omega, fun k hk => by rw [show a + (m - m) + k = a + k by omega]⟩
/-- One swap more of the way of data[a] upward. -/
theorem rot_up {d e : Array α} {a k : Nat} (ha : a ≤ k) (hb : k + 1 < d.size) (h : Rot d a (a + 1) (k + 1) e) : Rot d a (a + 1) (k + 2) (swp e k (k + 1)) := by
  have hs := h.size
  have g := swp_get e (show k < e.size by omega) (show k + 1 < e.size by omega)
  refine ⟨permIn_trans _ _ _ _ _ (permIn_in h.perm (Nat.le_refl _) (by omega) (by omega)) (swp_permIn e a (k + 2) k (k + 1) ha (by omega) (by omega) (by omega) (by omega)), ?_, ?_⟩
  · intro t ht
    rw [g, if_neg (by omega)]
    by_cases e1 : a + t = k
    · rw [if_pos e1, h.out (by omega), show a + 1 + t = k + 1 by omega]
    · rw [if_neg e1]; exact h.lft t (by omega)
  · intro t ht
    rw [g, if_pos (by omega)]
    have := h.rgt t ht
    rw [show a + (k + 1 - (a + 1)) + t = k by omega] at this
    exact this
/-- One swap more of the way of data[m] downward. -/
theorem rot_down {d e : Array α} {m k : Nat} (hk : k < m) (hb : m < d.size) (h : Rot d (k + 1) m (m + 1) e) : Rot d k m (m + 1) (swp e (k + 1) k) := by
  have hs := h.size
  have g := swp_get e (show k + 1 < e.size by omega) (show k < e.size by omega)
  refine ⟨permIn_trans _ _ _ _ _ (permIn_in h.perm (by omega) (Nat.le_refl _) (by omega)) (swp_permIn e k (m + 1) (k + 1) k (by omega) (by omega) (by omega) (by omega) (by omega)), ?_, ?_⟩
  · intro t ht
    obtain rfl : t = 0 := by omega
    rw [g, if_pos (by omega)]
    exact h.lft 0 (by omega)
  · intro t ht
    rw [g, if_neg (by omega)]
    by_cases e1 : t = 0
    · subst e1
      rw [if_pos (by omega), h.out (by omega)]
      rfl
    · rw [if_neg (by omega)]
      have := h.rgt (t - 1) (by omega)
      rw [show k + 1 + (m + 1 - m) + (t - 1) = k + (m + 1 - m) + t by omega, show k + 1 + (t - 1) = k + t by omega] at this
      exact this
/-- An element of a rotated part: where it was. -/
theorem Rot.get_l {d e : Array α} {a m b i : Nat} (h : Rot d a m b e) (h1 : a ≤ i) (h2 : i < a + (b - m)) : e[i]! = d[m + (i - a)]! := by
  have := h.lft (i - a) (by omega)
  rwa [show a + (i - a) = i by omega] at this
theorem Rot.get_r {d e : Array α} {a m b i : Nat} (h : Rot d a m b e) (hab : a ≤ m) (h1 : a + (b - m) ≤ i) (h2 : i < b) : e[i]! = d[i - (b - m)]! := by
  have := h.rgt (i - (a + (b - m))) (by omega)
  rwa [show a + (b - m) + (i - (a + (b - m))) = i by omega, show a + (i - (a + (b - m))) = i - (b - m) by omega] at this

variable {lt : α → α → Bool}
theorem sorted_le (hS : SWO lt) {d : Array α} {a b i j : Nat} (h : SortedIn lt a b d) (h1 : a ≤ i) (h2 : i ≤ j) (h3 : j < b) : lt d[j]! d[i]! = false := by
  by_cases e : i = j
  · subst e; exact hS.irrefl _
  · exact h i j h1 (by omega) h3
/-- The left run has one element: it goes behind all that are less. -/
theorem one_left (hS : SWO lt) {d e : Array α} {a b i : Nat} (hi : a + 1 ≤ i) (hib : i ≤ b) (hs : SortedIn lt (a + 1) b d) (hl : ∀ k, a + 1 ≤ k → k < i → lt d[k]! d[a]! = true) (hg : ∀ k, i ≤ k → k < b → lt d[k]! d[a]! = false) (h : Rot d a (a + 1) i e) : SortedIn lt a b e := by
  have hm : e[i - 1]! = d[a]! := by
    have := h.get_r (i := i - 1) (by omega) (by omega) (by omega)
    rw [this, show i - 1 - (i - (a + 1)) = a by omega]
  have hL : ∀ k, a ≤ k → k < i - 1 → e[k]! = d[k + 1]! := fun k h1 h2 => by
    rw [h.get_l h1 (by omega), show a + 1 + (k - a) = k + 1 by omega]
  have hR : ∀ k, i ≤ k → e[k]! = d[k]! := fun k h1 => h.out (by omega)
  intro p q hp hpq hq
  by_cases q1 : q < i - 1
  · rw [hL q (by omega) q1, hL p hp (by omega)]
    exact hs _ _ (by omega) (by omega) (by omega)
  · by_cases q2 : q = i - 1
    · rw [q2, hm, hL p hp (by omega)]
      exact hS.asymmA (hl _ (by omega) (by omega))
    · rw [hR q (by omega)]
      by_cases p1 : p < i - 1
      · rw [hL p hp p1]
        exact hs _ _ (by omega) (by omega) hq
      · by_cases p2 : p = i - 1
        · rw [p2, hm]
          exact hg _ (by omega) hq
        · rw [hR p (by omega)]
          exact hs _ _ (by omega) hpq hq
/-- The right run has one element: it goes before all that are greater. -/
theorem one_right (hS : SWO lt) {d e : Array α} {a m i : Nat} (hi : a ≤ i) (him : i ≤ m) (hs : SortedIn lt a m d) (hl : ∀ k, a ≤ k → k < i → lt d[m]! d[k]! = false) (hg : ∀ k, i ≤ k → k < m → lt d[m]! d[k]! = true) (h : Rot d i m (m + 1) e) : SortedIn lt a (m + 1) e := by
  have hm : e[i]! = d[m]! := by
    have := h.get_l (i := i) (by omega) (by omega)
    rw [this, show m + (i - i) = m by omega]
  have hL : ∀ k, k < i → e[k]! = d[k]! := fun k h1 => h.out (by omega)
  have hR : ∀ k, i < k → k < m + 1 → e[k]! = d[k - 1]! := fun k h1 h2 => by
    rw [h.get_r (by omega) (by omega) h2, show k - (m + 1 - m) = k - 1 by omega]
  intro p q hp hpq hq
  by_cases q1 : q < i
  · rw [hL q q1, hL p (by omega)]
    exact hs _ _ hp hpq (by omega)
  · by_cases q2 : q = i
    · rw [q2, hm, hL p (by omega)]
      exact hl _ hp (by omega)
    · rw [hR q (by omega) hq]
      by_cases p1 : p < i
      · rw [hL p p1]
        exact hs _ _ hp (by omega) (by omega)
      · by_cases p2 : p = i
        · rw [p2, hm]
          exact hS.asymmA (hg _ (by omega) (by omega))
        · rw [hR p (by omega) (by omega)]
          exact hs _ _ (by omega) (by omega) (by omega)
theorem one_left' (hS : SWO lt) {d e : Array α} {a b i : Nat} (hi : a + 1 ≤ i) (hib : i ≤ b) (hs : SortedIn lt (a + 1) b d) (hl : i = a + 1 ∨ lt d[i - 1]! d[a]! = true) (hg : i = b ∨ lt d[i]! d[a]! = false) (h : Rot d a (a + 1) i e) : SortedIn lt a b e := by
  refine one_left hS hi hib hs (fun k h1 h2 => ?_) (fun k h1 h2 => ?_) h
  · rcases hl with hl | hl
    · omega
    · cases hk : lt d[k]! d[a]! with
      | true => rfl
      | false =>
        have := hS.ntrans _ _ _ (sorted_le hS hs (i := k) (j := i - 1) h1 (by omega) (by omega)) hk
        rw [hl] at this
        cases this
  · rcases hg with hg | hg
    · omega
    · exact hS.ntrans _ _ _ (sorted_le hS hs (i := i) (j := k) hi h1 h2) hg
theorem one_right' (hS : SWO lt) {d e : Array α} {a m i : Nat} (hi : a ≤ i) (him : i ≤ m) (hs : SortedIn lt a m d) (hl : i = a ∨ lt d[m]! d[i - 1]! = false) (hg : i = m ∨ lt d[m]! d[i]! = true) (h : Rot d i m (m + 1) e) : SortedIn lt a (m + 1) e := by
  refine one_right hS hi him hs (fun k h1 h2 => ?_) (fun k h1 h2 => ?_) h
  · rcases hl with hl | hl
    · omega
    · exact hS.ntrans _ _ _ hl (sorted_le hS hs (i := k) (j := i - 1) h1 (by omega) (by omega))
  · rcases hg with hg | hg
    · omega
    · cases hk : lt d[m]! d[k]! with
      | true => rfl
      | false =>
        have := hS.ntrans _ _ _ hk (sorted_le hS hs (i := i) (j := k) hi h1 h2)
        rw [hg] at this
        cases this
/-- What the search for the cut has found. -/
structure Cut (lt : α → α → Bool) (d : Array α) (a m b mid s : Nat) : Prop where
  lo : a ≤ s
  hi : s ≤ m
  hmid : s ≤ mid
  hend : mid + m - s ≤ b
  le : s = a ∨ mid + m - s = b ∨ lt d[mid + m - s]! d[s - 1]! = false
  gt : s = m ∨ s = mid ∨ lt d[mid + m - s - 1]! d[s]! = true
/-- Behind the rotation: the four runs, and that the lower half lies below the upper one. -/
theorem cut_runs (hS : SWO lt) {d e : Array α} {a m b mid s : Nat} (ham : a ≤ m) (hmb : m ≤ b) (hmd : mid ≤ b) (h1 : SortedIn lt a m d) (h2 : SortedIn lt m b d) (C : Cut lt d a m b mid s) (h : Rot d s m (mid + m - s) e) :
    SortedIn lt a s e ∧ SortedIn lt s mid e ∧ SortedIn lt mid (mid + m - s) e ∧ SortedIn lt (mid + m - s) b e ∧ (∀ i j, a ≤ i → i < mid → mid ≤ j → j < b → lt e[j]! e[i]! = false) := by
  obtain ⟨c1, c2, c3, c4, c5, c6⟩ := C
  have E1 : ∀ k, k < s → e[k]! = d[k]! := fun k hk => h.out (by omega)
  have E2 : ∀ k, s ≤ k → k < mid → e[k]! = d[m + (k - s)]! := fun k hk hk' => h.get_l hk (by omega)
  have E3 : ∀ k, mid ≤ k → k < mid + m - s → e[k]! = d[k - mid + s]! := fun k hk hk' => by
    rw [h.get_r (by omega) (by omega) hk', show k - (mid + m - s - m) = k - mid + s by omega]
  have E4 : ∀ k, mid + m - s ≤ k → e[k]! = d[k]! := fun k hk => h.out (by omega)
  refine ⟨?_, ?_, ?_, ?_, ?_⟩
  · intro p q hp hpq hq
    rw [E1 q hq, E1 p (by omega)]
    exact h1 _ _ hp hpq (by omega)
  · intro p q hp hpq hq
    rw [E2 q (by omega) hq, E2 p hp (by omega)]
    exact h2 _ _ (by omega) (by omega) (by omega)
  · intro p q hp hpq hq
    rw [E3 q (by omega) hq, E3 p hp (by omega)]
    exact h1 _ _ (by omega) (by omega) (by omega)
  · intro p q hp hpq hq
    rw [E4 q (by omega), E4 p hp]
    exact h2 _ _ (by omega) hpq hq
  · intro i j hi hi' hj hj'
    by_cases j1 : j < mid + m - s
    · rw [E3 j hj j1]
      by_cases i1 : i < s
      · rw [E1 i i1]
        exact h1 _ _ hi (by omega) (by omega)
      · rw [E2 i (by omega) hi']
        -- x in the right run's first part, y in the left run's last part
        rcases c6 with c6 | c6 | c6
        · omega
        · omega
        · have g1 : lt d[s]! d[mid + m - s - 1]! = false := hS.asymmA c6
          have g2 := sorted_le hS h2 (i := m + (i - s)) (j := mid + m - s - 1) (by omega) (by omega) (by omega)
          have g3 := sorted_le hS h1 (i := s) (j := j - mid + s) (by omega) (by omega) (by omega)
          exact hS.ntrans _ _ _ g3 (hS.ntrans _ _ _ g1 g2)
    · rw [E4 j (by omega)]
      by_cases i1 : i < s
      · rw [E1 i i1]
        rcases c5 with c5 | c5 | c5
        · omega
        · omega
        · have g2 := sorted_le hS h1 (i := i) (j := s - 1) (by omega) (by omega) (by omega)
          have g3 := sorted_le hS h2 (i := mid + m - s) (j := j) (by omega) (by omega) (by omega)
          exact hS.ntrans _ _ _ g3 (hS.ntrans _ _ _ c5 g2)
      · rw [E2 i (by omega) hi']
        exact h2 _ _ (by omega) (by omega) (by omega)
/-- Two halves, each sorted behind its own merge. -/
theorem halves {d e f : Array α} {a mid b : Nat} (hb : b ≤ d.size) (hamid : a ≤ mid) (hmb : mid ≤ b) (hx : ∀ i j, a ≤ i → i < mid → mid ≤ j → j < b → lt d[j]! d[i]! = false)
    (p1 : PermIn a mid d e) (s1 : SortedIn lt a mid e) (p2 : PermIn mid b e f) (s2 : SortedIn lt mid b f) : PermIn a b d f ∧ SortedIn lt a b f := by
  have hse : e.size = d.size := p1.1
  refine ⟨permIn_trans _ _ _ _ _ (permIn_in p1 (Nat.le_refl _) hmb hb) (permIn_in p2 hamid (Nat.le_refl _) (by omega)), ?_⟩
  have hx1 : ∀ j, mid ≤ j → j < b → ∀ i, a ≤ i → i < mid → lt e[j]! e[i]! = false := fun j hj hj' => by
    rw [p1.2.1 j (by omega)]
    exact permIn_all d e a mid (fun x => lt d[j]! x = false) (by omega) p1 (fun i hi hi' => hx i j hi hi' hj hj')
  have hx2 : ∀ i, a ≤ i → i < mid → ∀ j, mid ≤ j → j < b → lt f[j]! f[i]! = false := fun i hi hi' => by
    rw [p2.2.1 i (by omega)]
    exact permIn_all e f mid b (fun y => lt y e[i]! = false) (by omega) p2 (fun j hj hj' => hx1 j hj hj' i hi hi')
  intro p q hp hpq hq
  by_cases q1 : q < mid
  · rw [p2.2.1 q (by omega), p2.2.1 p (by omega)]
    exact s1 _ _ hp hpq q1
  · by_cases p1' : p < mid
    · exact hx2 p hp p1' q (by omega) hq
    · exact s2 _ _ (by omega) hpq hq
/-- A run of one element, or none. -/
theorem sorted_few (d : Array α) {a b : Nat} (h : b ≤ a + 1) : SortedIn lt a b d := fun i j h1 h2 h3 => by omega
theorem sorted_part {d : Array α} {a b a' b' : Nat} (h : SortedIn lt a b d) (h1 : a ≤ a') (h2 : b' ≤ b) : SortedIn lt a' b' d := fun i j k1 k2 k3 => h i j (by omega) k2 (by omega)
theorem sorted_out {d e : Array α} {a b a' b' : Nat} (h : SortedIn lt a' b' d) (p : PermIn a b d e) (h1 : b' ≤ a ∨ b ≤ a') : SortedIn lt a' b' e := fun i j k1 k2 k3 => by
  rw [p.2.1 j (by omega), p.2.1 i (by omega)]
  exact h i j k1 k2 k3

/-! ## Runs -/
/-- From a on, runs of k elements are sorted, up to n. -/
def Runs (lt : α → α → Bool) (k a n : Nat) (d : Array α) : Prop := ∀ t, SortedIn lt (a + t * k) (min (a + t * k + k) n) d
theorem Runs.head {k a n : Nat} {d : Array α} (h : Runs lt k a n d) : SortedIn lt a (min (a + k) n) d := by
  have := h 0
  rwa [Nat.zero_mul, Nat.add_zero] at this
theorem Runs.next {k a n : Nat} {d : Array α} (h : Runs lt k a n d) : Runs lt k (a + k) n d := fun t => by
  have := h (t + 1)
  rw [Nat.succ_mul] at this
  rwa [show a + k + t * k = a + (t * k + k) by omega]
theorem Runs.cons {k a n : Nat} {d : Array α} (h0 : SortedIn lt a (min (a + k) n) d) (h : Runs lt k (a + k) n d) : Runs lt k a n d := fun t => by
  cases t with
  | zero => rwa [Nat.zero_mul, Nat.add_zero]
  | succ t =>
    have := h t
    rw [Nat.succ_mul]
    rwa [show a + (t * k + k) = a + k + t * k by omega]
theorem Runs.nil {k a n : Nat} (d : Array α) (h : n ≤ a + 1) : Runs lt k a n d := fun t => sorted_few d (by omega)
theorem Runs.out {k a n lo hi : Nat} {d e : Array α} (h : Runs lt k a n d) (p : PermIn lo hi d e) (hp : hi ≤ a) : Runs lt k a n e := fun t => sorted_out (h t) p (by omega)
/-- The runs behind the last whole one. -/
theorem Runs.one {k a n : Nat} {d : Array α} (hs : SortedIn lt a n d) (hn : n ≤ a + k) : Runs lt k a n d := Runs.cons (by rwa [show min (a + k) n = n by omega]) (Runs.nil d (by omega))
/-- Up to a, runs of k elements are sorted: what remains decides. -/
def DoneR (lt : α → α → Bool) (k a n : Nat) (d : Array α) : Prop := ∀ e : Array α, (∀ i, i < a → e[i]! = d[i]!) → Runs lt k a n e → Runs lt k 0 n e
theorem DoneR.zero (k n : Nat) (d : Array α) : DoneR lt k 0 n d := fun _ _ h => h
theorem DoneR.step {k a n : Nat} {d e : Array α} (h : DoneR lt k a n d) (p : PermIn a (a + k) d e) (hs : SortedIn lt a (min (a + k) n) e) : DoneR lt k (a + k) n e := fun f hf hr =>
  h f (fun i hi => by rw [hf i (by omega)]; exact p.2.1 i (by omega)) (Runs.cons (fun i j h1 h2 h3 => by rw [hf j (by omega), hf i (by omega)]; exact hs i j h1 h2 h3) hr)
end
end Go.Proofs.YtkmgbdljiajlaaaGreat
namespace Go.Proofs.YtkmgbdljiajlaaaGreat
open Go.Shelf Go.RowKit Go.Lib Go.Sort
section
variable {P : Program} {ρ : Ren} {α : Type} [Inhabited α] {enc : α → Value} {lt : α → α → Bool} {g : Nat} {lb : Array Value} {sf : Nat} {sb : Array Value} {blk off : Nat} {d e f : Array α} {W W1 W2 : World}

/-- What the sort asks of its caller, at the world W in which the row holds d. -/
structure SCtx (P : Program) (enc : α → Value) (lt : α → α → Bool) (g : Nat) (lb : Array Value) (sf : Nat) (sb : Array Value) (blk off : Nat) (d : Array α) (W : World) : Prop where
  eg : ∀ args w, (callFunc g args).run P w = .ok (.enter g args) w
  less : LessReads P g lb enc lt blk off d.size W
  swap : SwapSwaps P sf sb enc blk off d.size
  hold : Holds enc W blk off d
  bl : blk < W.heap.size
  sz : d.size < 4611686018427387904
theorem SCtx.on (C : SCtx P enc lt g lb sf sb blk off d W) (h : SW enc W blk off e W1) (hs : e.size = d.size) : SCtx P enc lt g lb sf sb blk off e W1 :=
  ⟨C.eg, by rw [hs]; exact h.lessReads C.less C.bl hs, by rw [hs]; exact C.swap, h.holds C.bl C.hold hs, h.lt C.bl, by rw [hs]; exact C.sz⟩
theorem SCtx.start (C : SCtx P enc lt g lb sf sb blk off d W) : SW enc W blk off d W := SW.start C.hold
theorem swTr (h : SW enc W blk off e W1) (h2 : SW enc W1 blk off f W2) (hb : blk < W.heap.size) (hs : f.size = e.size) : SW enc W blk off f W2 := by
  obtain ⟨n, os, rfl⟩ := h2
  exact h.on hb n f os hs
theorem swCell (h : SW enc W blk off e W1) {b k : Nat} {v : Value} (hb : b ≠ blk) (hc : W.cell? ⟨b, k, none⟩ = some v) : W1.cell? ⟨b, k, none⟩ = some v := by
  have hlt := cell_lt hc
  obtain ⟨n, os, rfl⟩ := h
  unfold sortWorld
  rw [cell?_grow _ _ _ (by rw [size_putRow]; exact hlt), cell?_putRow_other enc _ blk off _ _ (Or.inl (by show b ≠ blk; exact hb))]
  exact hc
theorem SCtx.lessAt (C : SCtx P enc lt g lb sf sb blk off d W) (h : SW enc W blk off e W1) (hs : e.size = d.size) (i j : Nat) (hi : i < d.size) (hj : j < d.size) :
    Calls P g (#[.int .i64 i, .int .i64 j] ++ lb) W1 fun e' w' => e' = .returned (.bool (lt e[i]! e[j]!)) ∧ SW enc W blk off e w' ∧ ∀ p, w'.cell? p = W1.cell? p :=
  (h.less C.less hs i j hi hj).mono fun _ _ ⟨h1, q, h2⟩ => ⟨h1, by rw [h2]; exact h.drewN q, fun p => by rw [h2]; rfl⟩
/-- The box of 'data' holds its two functions. -/
def BoxD (g : Nat) (lb : Array Value) (sf : Nat) (sb : Array Value) (b : Nat) (w : World) : Prop := w.cell? ⟨b, 0, none⟩ = some (.func (.func g) #[] lb) ∧ w.cell? ⟨b, 1, none⟩ = some (.func (.func sf) #[] sb)
theorem BoxD.tr {b : Nat} (h : BoxD g lb sf sb b W) (hw : SW enc W blk off e W1) (hb : b ≠ blk) : BoxD g lb sf sb b W1 := ⟨swCell hw hb h.1, swCell hw hb h.2⟩
theorem BoxD.same {b : Nat} (h : BoxD g lb sf sb b W) (hc : ∀ p, W1.cell? p = W.cell? p) : BoxD g lb sf sb b W1 := ⟨(hc _).trans h.1, (hc _).trans h.2⟩
theorem BoxD.swap {b : Nat} (h : BoxD g lb sf sb b W) (hb : b ≠ blk) (i j : Nat) (u v : Value) : BoxD g lb sf sb b ((W.setCell ⟨blk, i, none⟩ u).setCell ⟨blk, j, none⟩ v) := by
  constructor
  · rw [World.cell?_setCell_other _ _ _ _ (by intro e; injection e with e1; omega), World.cell?_setCell_other _ _ _ _ (by intro e; injection e with e1; omega)]; exact h.1
  · rw [World.cell?_setCell_other _ _ _ _ (by intro e; injection e with e1; omega), World.cell?_setCell_other _ _ _ _ (by intro e; injection e with e1; omega)]; exact h.2
theorem BoxD.new (W : World) : BoxD g lb sf sb W.heap.size (W.alloc (.cells #[.func (.func g) #[] lb, .func (.func sf) #[] sb] (ρ.t 42))) := ⟨by simp, by simp⟩
set_option linter.unusedVariables false in
set_option maxHeartbeats 4000000 in
set_option maxRecDepth 100000 in
theorem swapRange_s (L : LaysGt.n49 P ρ) (C : SCtx P enc lt g lb sf sb blk off d W) (a b n : Nat) (hab : a + n ≤ b) (hb : b + n ≤ d.size) :
    Calls P (ρ.f 49) #[.agg #[.func (.func g) #[] lb, .func (.func sf) #[] sb], .int .i64 a, .int .i64 b, .int .i64 n] W fun e w' => e = .returned (.tuple #[]) ∧ ∃ d', SW enc W blk off d' w' ∧ SwR d a b n d' := by
  have mixed := L.mixed; have t0 := L.t0; have a0 := L.a0; have z0 := L.z0; have v0 := L.v0; have t3 := L.t3; have a3 := L.a3; have z3 := L.z3; have v3 := L.v3; have t4 := L.t4; have a4 := L.a4; have z4 := L.z4; have v4 := L.v4; have t26 := L.t26; have a26 := L.a26; have z26 := L.z26; have v26 := L.v26; have t38 := L.t38; have a38 := L.a38; have z38 := L.z38; have v38 := L.v38; have t42 := L.t42; have a42 := L.a42; have z42 := L.z42; have v42 := L.v42
  have u42 := run_underlying L.t42
  have S0 : SW enc W blk off d (W.alloc (.cells #[.func (.func g) #[] lb, .func (.func sf) #[] sb] (ρ.t 42))) := C.start.alloc _
  have B0 : BoxD g lb sf sb W.heap.size (W.alloc (.cells #[.func (.func g) #[] lb, .func (.func sf) #[] sb] (ρ.t 42))) := BoxD.new W
  have hbn : W.heap.size ≠ blk := by have := C.bl; omega
  have hsz := C.sz
  go_enter L.f49, BodyGt.n49_ntmps ρ
  go_wp2
  go_loopw [8] (fun vi wr => ∃ (k : Nat) (dk : Array α), vi = .int .i64 k ∧ k ≤ n ∧ SW enc W blk off dk wr ∧ SwR d a b k dk ∧ BoxD g lb sf sb W.heap.size wr) (fun vi _ => n - (intOf vi).toNat)
  case atStart => exact ⟨0, d, rfl, Nat.zero_le _, S0, SwR.zero d a b, B0⟩
  case round =>
    clear S0 B0
    obtain ⟨k, dk, rfl, hk, S, R, hB0, hB1⟩ := hrel
    have hds := R.size
    by_cases hlt : k < n
    · have hc1 : (k : Int) < (n : Int) := by omega
      have hs := C.swap wr dk (S.holds C.bl C.hold hds) hds (a + k) (b + k) (by omega) (by omega)
      rw [show ((a + k : Nat) : Int) = (a : Int) + (k : Int) by omega, show ((b + k : Nat) : Int) = (b : Int) + (k : Int) by omega] at hs
      have S2 := S.swap C.bl (a + k) (b + k) (by omega) (by omega)
      have hB' : BoxD g lb sf sb W.heap.size ((wr.setCell ⟨blk, off + (a + k), none⟩ (enc dk[b + k]!)).setCell ⟨blk, off + (b + k), none⟩ (enc dk[a + k]!)) := by
        have h0 := hB0; have h1 := hB1
        constructor
        · rw [World.cell?_setCell_other _ _ _ _ (by intro e; injection e with e1; omega), World.cell?_setCell_other _ _ _ _ (by intro e; injection e with e1; omega)]; exact h0
        · rw [World.cell?_setCell_other _ _ _ _ (by intro e; injection e with e1; omega), World.cell?_setCell_other _ _ _ _ (by intro e; injection e with e1; omega)]; exact h1
      go_wp2
      go_roundw
      case rel => exact ⟨k + 1, _, by go_num, by omega, S2, R.step hlt hab hb, hB'⟩
      case measure => simp [intOf]; omega
    · obtain rfl : k = n := by omega
      have hc1 : ¬ (k : Int) < (k : Int) := by omega
      go_wp2
      go_end0
      exact ⟨rfl, dk, S, R⟩
set_option linter.unusedVariables false in
set_option maxHeartbeats 4000000 in
set_option maxRecDepth 100000 in
theorem rotate_s (L : LaysGt.n42 P ρ) (C : SCtx P enc lt g lb sf sb blk off d W) (a m b : Nat) (ham : a < m) (hmb : m < b) (hb : b ≤ d.size) :
    Calls P (ρ.f 42) #[.agg #[.func (.func g) #[] lb, .func (.func sf) #[] sb], .int .i64 a, .int .i64 m, .int .i64 b] W fun e w' => e = .returned (.tuple #[]) ∧ ∃ d', SW enc W blk off d' w' ∧ Rot d a m b d' := by
  have mixed := L.mixed; have t0 := L.t0; have a0 := L.a0; have z0 := L.z0; have v0 := L.v0; have t3 := L.t3; have a3 := L.a3; have z3 := L.z3; have v3 := L.v3; have t4 := L.t4; have a4 := L.a4; have z4 := L.z4; have v4 := L.v4; have t26 := L.t26; have a26 := L.a26; have z26 := L.z26; have v26 := L.v26; have t38 := L.t38; have a38 := L.a38; have z38 := L.z38; have v38 := L.v38; have t42 := L.t42; have a42 := L.a42; have z42 := L.z42; have v42 := L.v42
  have u42 := run_underlying L.t42
  have S0 : SW enc W blk off d (W.alloc (.cells #[.func (.func g) #[] lb, .func (.func sf) #[] sb] (ρ.t 42))) := C.start.alloc _
  have B0 : BoxD g lb sf sb W.heap.size (W.alloc (.cells #[.func (.func g) #[] lb, .func (.func sf) #[] sb] (ρ.t 42))) := BoxD.new W
  have hbn : W.heap.size ≠ blk := by have := C.bl; omega
  have hsz := C.sz
  have e49 : ∀ args w, (callFunc (ρ.f 49) args).run P w = .ok (.enter (ρ.f 49) args) w := enters_of L.f49 (by kernel_rfl) rfl
  have L49 : LaysGt.n49 P ρ := { L with }
  go_enter L.f42, BodyGt.n42_ntmps ρ
  go_wp2
  go_loopw [8, 9] (fun vi vj wr => ∃ (i j : Nat) (dk : Array α), vi = .int .i64 i ∧ vj = .int .i64 j ∧ 0 < i ∧ 0 < j ∧ i ≤ m - a ∧ j ≤ b - m ∧ SW enc W blk off dk wr ∧ dk.size = d.size ∧ (∀ T, Rot dk (m - i) m (m + j) T → Rot d a m b T) ∧ BoxD g lb sf sb W.heap.size wr) (fun vi vj _ => (intOf vi).toNat + (intOf vj).toNat)
  case atStart => exact ⟨m - a, b - m, d, by go_num, by go_num, by omega, by omega, Nat.le_refl _, Nat.le_refl _, S0, rfl, fun T h => by rwa [show m - (m - a) = a by omega, show m + (b - m) = b by omega] at h, B0⟩
  case round =>
    clear S0 B0
    obtain ⟨i, j, dk, rfl, rfl, hi0, hj0, hi, hj, S, hds, HT, hB⟩ := hrel
    obtain ⟨hB0, hB1⟩ := hB
    have Ck := C.on S hds
    by_cases hij : i = j
    · subst hij
      have hc : ((i : Int) != (i : Int)) = false := by simp
      have hS := swapRange_s L49 Ck (m - i) m i (by omega) (by omega)
      rw [show ((m - i : Nat) : Int) = (m : Int) - (i : Int) by omega] at hS
      go_wp2_with (go_at_fn (ρ.f 49); refine hS.mono ?_; rintro e w1 ⟨rfl, dk', S', R'⟩)
      go_end0
      exact ⟨rfl, dk', swTr S S' C.bl (by rw [R'.size]), HT _ (rot_eq (by omega) (by omega) R')⟩
    · have hc : ((i : Int) != (j : Int)) = true := by simp; omega
      by_cases hgt : j < i
      · have hc2 : (j : Int) < (i : Int) := by omega
        have hS := swapRange_s L49 Ck (m - i) m j (by omega) (by omega)
        rw [show ((m - i : Nat) : Int) = (m : Int) - (i : Int) by omega] at hS
        go_wp2_with (go_at_fn (ρ.f 49); refine hS.mono ?_; rintro e w1 ⟨rfl, dk', S', R'⟩)
        have hB' := (show BoxD g lb sf sb W.heap.size wr from ⟨hB0, hB1⟩).tr S' hbn
        go_roundw
        case rel => exact ⟨i - j, j, dk', by go_num, rfl, by omega, hj0, by omega, hj, swTr S S' C.bl (by rw [R'.size]), by rw [R'.size]; exact hds, fun T h => HT T (rot_gt hgt (by omega) (by omega) R' h), hB'⟩
        case measure => simp [intOf]; omega
      · have hc2 : ¬ (j : Int) < (i : Int) := by omega
        have hS := swapRange_s L49 Ck (m - i) (m + j - i) i (by omega) (by omega)
        rw [show ((m - i : Nat) : Int) = (m : Int) - (i : Int) by omega, show ((m + j - i : Nat) : Int) = (m : Int) + (j : Int) - (i : Int) by omega] at hS
        go_wp2_with (go_at_fn (ρ.f 49); refine hS.mono ?_; rintro e w1 ⟨rfl, dk', S', R'⟩)
        have hB' := (show BoxD g lb sf sb W.heap.size wr from ⟨hB0, hB1⟩).tr S' hbn
        go_roundw
        case rel => exact ⟨i, j - i, dk', rfl, by go_num, hi0, by omega, hi, by omega, swTr S S' C.bl (by rw [R'.size]), by rw [R'.size]; exact hds, fun T h => HT T (rot_lt (by omega) (by omega) (by omega) R' h), hB'⟩
        case measure => simp [intOf]; omega
end
end Go.Proofs.YtkmgbdljiajlaaaGreat
namespace Go.Proofs.YtkmgbdljiajlaaaGreat
open Go.Shelf Go.RowKit Go.Lib Go.Sort
section
variable {P : Program} {ρ : Ren} {α : Type} [Inhabited α] {enc : α → Value} {lt : α → α → Bool} {g : Nat} {lb : Array Value} {sf : Nat} {sb : Array Value} {blk off : Nat} {d e f : Array α} {W W1 W2 : World}
set_option linter.unusedVariables false in
set_option maxHeartbeats 4000000 in
set_option maxRecDepth 100000 in
theorem symMerge_s (hO : SWO lt) (L : LaysGt.n30 P ρ) : ∀ (s : Nat) (d : Array α) (W : World), SCtx P enc lt g lb sf sb blk off d W → ∀ (a m b : Nat), b - a ≤ s → a < m → m < b → b ≤ d.size → SortedIn lt a m d → SortedIn lt m b d →
    Calls P (ρ.f 30) #[.agg #[.func (.func g) #[] lb, .func (.func sf) #[] sb], .int .i64 a, .int .i64 m, .int .i64 b] W fun e w' => e = .returned (.tuple #[]) ∧ ∃ d', SW enc W blk off d' w' ∧ PermIn a b d d' ∧ SortedIn lt a b d' := by
  intro s
  induction s with
  | zero => intro d W C a m b hs h1 h2; omega
  | succ s ih =>
    intro d W C a m b hs ham hmb hb hS1 hS2
    have mixed := L.mixed; have t0 := L.t0; have a0 := L.a0; have z0 := L.z0; have v0 := L.v0; have t3 := L.t3; have a3 := L.a3; have z3 := L.z3; have v3 := L.v3; have t4 := L.t4; have a4 := L.a4; have z4 := L.z4; have v4 := L.v4; have t26 := L.t26; have a26 := L.a26; have z26 := L.z26; have v26 := L.v26; have t38 := L.t38; have a38 := L.a38; have z38 := L.z38; have v38 := L.v38; have t42 := L.t42; have a42 := L.a42; have z42 := L.z42; have v42 := L.v42; have t47 := L.t47; have a47 := L.a47; have z47 := L.z47; have v47 := L.v47
    have u42 := run_underlying L.t42
    have S0 : SW enc W blk off d (W.alloc (.cells #[.func (.func g) #[] lb, .func (.func sf) #[] sb] (ρ.t 42))) := C.start.alloc _
    have B0 : BoxD g lb sf sb W.heap.size (W.alloc (.cells #[.func (.func g) #[] lb, .func (.func sf) #[] sb] (ρ.t 42))) := BoxD.new W
    have hbn : W.heap.size ≠ blk := by have := C.bl; omega
    have hsz := C.sz
    have eg := C.eg
    have e42 : ∀ args w, (callFunc (ρ.f 42) args).run P w = .ok (.enter (ρ.f 42) args) w := enters_of L.f42 (by kernel_rfl) rfl
    have e30 : ∀ args w, (callFunc (ρ.f 30) args).run P w = .ok (.enter (ρ.f 30) args) w := enters_of L.f30 (by kernel_rfl) rfl
    have L42 : LaysGt.n42 P ρ := { L with }
    have half : ∀ x : Nat, x ≤ 9223372036854775807 → IntKind.u64.wrap (x : Int) = x ∧ IntKind.i64.wrap ((x / 2 : Nat) : Int) = ((x / 2 : Nat) : Int) := fun x hx => ⟨by simp [IntKind.wrap, IntKind.bits, IntKind.signed]; omega, IntWalk.i64_in _ ⟨by omega, by omega⟩⟩
    have HALF := Lib.hid half
    have HS1 := Lib.hid hS1
    have HS2 := Lib.hid hS2
    clear half hS1 hS2
    have BX : ∀ w', BoxD g lb sf sb W.heap.size w' → Hid (BoxD g lb sf sb W.heap.size w') := fun _ h => h
    by_cases hA : m - a = 1
    · have hc1 : ((m : Int) - (a : Int) == 1) = true := by simp; omega
      go_enter L.f30, BodyGt.n30_ntmps ρ
      go_wp2
      go_loopw [8, 9] (fun vi vj wr => ∃ i j : Nat, vi = .int .i64 i ∧ vj = .int .i64 j ∧ a + 1 ≤ i ∧ i ≤ j ∧ j ≤ b ∧ (i = a + 1 ∨ lt d[i - 1]! d[a]! = true) ∧ (j = b ∨ lt d[j]! d[a]! = false) ∧ SW enc W blk off d wr ∧ BoxD g lb sf sb W.heap.size wr) (fun vi vj _ => (intOf vj).toNat - (intOf vi).toNat)
      case atStart => exact ⟨m, b, rfl, rfl, by omega, by omega, Nat.le_refl _, .inl (by omega), .inl rfl, S0, B0⟩
      case round =>
        clear S0 B0
        obtain ⟨i, j, rfl, rfl, hi, hij, hj, hI, hJ, S, hB0, hB1⟩ := hrel
        have HB := BX wr ⟨hB0, hB1⟩
        have HI := Lib.hid hI
        have HJ := Lib.hid hJ
        clear hI hJ
        by_cases hlt : i < j
        · have hc2 : (i : Int) < (j : Int) := by omega
          obtain ⟨wu, wi⟩ := HALF.out (i + j) (by omega)
          obtain ⟨h, hh⟩ : ∃ h, h = (i + j) / 2 := ⟨_, rfl⟩
          have hm1 : i ≤ h := by omega
          have hm2 : h < j := by omega
          have hhc : ((i : Int) + (j : Int)) / 2 = (h : Int) := by omega
          have hl := C.lessAt S rfl h a (by omega) (by omega)
          rw [← hhc] at hl
          have HHC := Lib.hid hhc
          clear hhc hh
          cases hlv : lt d[h]! d[a]! with
          | true =>
            rw [hlv] at hl
            have HLV := Lib.hid hlv
            clear hlv
            go_wp2_with (go_at_fn g; refine hl.mono ?_; rintro e w' ⟨rfl, S', hcs⟩)
            go_roundw
            case rel => exact ⟨h + 1, j, by rw [HHC.out]; go_num, rfl, by omega, by omega, hj, .inr HLV.out, HJ.out, S', HB.out.same hcs⟩
            case measure => simp [intOf]; omega
          | false =>
            rw [hlv] at hl
            have HLV := Lib.hid hlv
            clear hlv
            go_wp2_with (go_at_fn g; refine hl.mono ?_; rintro e w' ⟨rfl, S', hcs⟩)
            go_roundw
            case rel => exact ⟨i, h, rfl, by rw [HHC.out], hi, by omega, by omega, HI.out, .inr HLV.out, S', HB.out.same hcs⟩
            case measure => simp [intOf]; omega
        · obtain rfl : i = j := by omega
          have hc2 : ¬ (i : Int) < (i : Int) := by omega
          go_wp2
          go_loopw [11] (fun vk wr => ∃ (k : Nat) (dk : Array α), vk = .int .i64 k ∧ a ≤ k ∧ k + 1 ≤ i ∧ SW enc W blk off dk wr ∧ Rot d a (a + 1) (k + 1) dk ∧ BoxD g lb sf sb W.heap.size wr) (fun vk _ => i - (intOf vk).toNat)
          case atStart => exact ⟨a, d, rfl, Nat.le_refl _, hi, S, Rot.self_r d a (a + 1), HB.out⟩
          case round =>
            clear S hB0 hB1 HB
            obtain ⟨k, dk, rfl, hk1, hk2, S, R, hB0, hB1⟩ := hrel
            have HB := BX wr ⟨hB0, hB1⟩
            have hds := R.size
            by_cases hki : k + 1 < i
            · have hc3 : (k : Int) < (i : Int) - 1 := by omega
              have hs := C.swap wr dk (S.holds C.bl C.hold hds) hds k (k + 1) (by omega) (by omega)
              rw [show ((k + 1 : Nat) : Int) = (k : Int) + 1 by omega] at hs
              have S2 := S.swap C.bl k (k + 1) (by omega) (by omega)
              go_wp2
              go_roundw
              case rel => exact ⟨k + 1, _, by go_num, by omega, by omega, S2, rot_up hk1 (by omega) R, HB.out.swap hbn _ _ _ _⟩
              case measure => simp [intOf]; omega
            · have hc3 : ¬ (k : Int) < (i : Int) - 1 := by omega
              go_wp2
              (try simp only [Exit.inBlock, Exit.then])
              refine bodyPost_ret (results_none rfl _ _ _) rfl ?_
              obtain rfl : i = k + 1 := by omega
              exact ⟨rfl, dk, S, permIn_in R.perm (Nat.le_refl _) hj hb, one_left' hO hi hj (show SortedIn lt (a + 1) b d by rw [show a + 1 = m by omega]; exact HS2.out) HI.out HJ.out R⟩
    · by_cases hB : b - m = 1
      · have hc1 : ((m : Int) - (a : Int) == 1) = false := by simp; omega
        have hc1' : ((b : Int) - (m : Int) == 1) = true := by simp; omega
        go_enter L.f30, BodyGt.n30_ntmps ρ
        go_wp2
        go_loopw [12, 13] (fun vi vj wr => ∃ i j : Nat, vi = .int .i64 i ∧ vj = .int .i64 j ∧ a ≤ i ∧ i ≤ j ∧ j ≤ m ∧ (i = a ∨ lt d[m]! d[i - 1]! = false) ∧ (j = m ∨ lt d[m]! d[j]! = true) ∧ SW enc W blk off d wr ∧ BoxD g lb sf sb W.heap.size wr) (fun vi vj _ => (intOf vj).toNat - (intOf vi).toNat)
        case atStart => exact ⟨a, m, rfl, rfl, Nat.le_refl _, by omega, Nat.le_refl _, .inl rfl, .inl rfl, S0, B0⟩
        case round =>
          clear S0 B0
          obtain ⟨i, j, rfl, rfl, hi, hij, hj, hI, hJ, S, hB0, hB1⟩ := hrel
          have HB := BX wr ⟨hB0, hB1⟩
          have HI := Lib.hid hI
          have HJ := Lib.hid hJ
          clear hI hJ
          by_cases hlt : i < j
          · have hc2 : (i : Int) < (j : Int) := by omega
            obtain ⟨wu, wi⟩ := HALF.out (i + j) (by omega)
            obtain ⟨h, hh⟩ : ∃ h, h = (i + j) / 2 := ⟨_, rfl⟩
            have hm1 : i ≤ h := by omega
            have hm2 : h < j := by omega
            have hhc : ((i : Int) + (j : Int)) / 2 = (h : Int) := by omega
            have hl := C.lessAt S rfl m h (by omega) (by omega)
            rw [← hhc] at hl
            have HHC := Lib.hid hhc
            clear hhc hh
            cases hlv : lt d[m]! d[h]! with
            | true =>
              rw [hlv] at hl
              have HLV := Lib.hid hlv
              clear hlv
              go_wp2_with (go_at_fn g; refine hl.mono ?_; rintro e w' ⟨rfl, S', hcs⟩)
              go_roundw
              case rel => exact ⟨i, h, rfl, by rw [HHC.out], hi, by omega, by omega, HI.out, .inr HLV.out, S', HB.out.same hcs⟩
              case measure => simp [intOf]; omega
            | false =>
              rw [hlv] at hl
              have HLV := Lib.hid hlv
              clear hlv
              go_wp2_with (go_at_fn g; refine hl.mono ?_; rintro e w' ⟨rfl, S', hcs⟩)
              go_roundw
              case rel => exact ⟨h + 1, j, by rw [HHC.out]; go_num, rfl, by omega, by omega, hj, .inr HLV.out, HJ.out, S', HB.out.same hcs⟩
              case measure => simp [intOf]; omega
          · obtain rfl : i = j := by omega
            have hc2 : ¬ (i : Int) < (i : Int) := by omega
            go_wp2
            go_loopw [15] (fun vk wr => ∃ (k : Nat) (dk : Array α), vk = .int .i64 k ∧ i ≤ k ∧ k ≤ m ∧ SW enc W blk off dk wr ∧ Rot d k m (m + 1) dk ∧ BoxD g lb sf sb W.heap.size wr) (fun vk _ => (intOf vk).toNat)
            case atStart => exact ⟨m, d, rfl, hj, Nat.le_refl _, S, Rot.self_l d m (m + 1), HB.out⟩
            case round =>
              clear S hB0 hB1 HB
              obtain ⟨k, dk, rfl, hk1, hk2, S, R, hB0, hB1⟩ := hrel
              have HB := BX wr ⟨hB0, hB1⟩
              have hds := R.size
              by_cases hki : i < k
              · have hc3 : (i : Int) < (k : Int) := by omega
                have hs := C.swap wr dk (S.holds C.bl C.hold hds) hds k (k - 1) (by omega) (by omega)
                rw [show ((k - 1 : Nat) : Int) = (k : Int) - 1 by omega] at hs
                have S2 := S.swap C.bl k (k - 1) (by omega) (by omega)
                have hR2 : Hid (Rot d (k - 1) m (m + 1) (swp dk k (k - 1))) := by
                  have := rot_down (d := d) (m := m) (k := k - 1) (e := dk) (by omega) (by omega) (by rw [show k - 1 + 1 = k by omega]; exact R)
                  rwa [show k - 1 + 1 = k by omega] at this
                go_wp2
                go_roundw
                case rel => exact ⟨k - 1, _, by go_num, by omega, by omega, S2, hR2.out, HB.out.swap hbn _ _ _ _⟩
                case measure => simp [intOf]; omega
              · obtain rfl : i = k := by omega
                have hc3 : ¬ (i : Int) < (i : Int) := by omega
                go_wp2
                (try simp only [Exit.inBlock, Exit.then])
                refine bodyPost_ret (results_none rfl _ _ _) rfl ?_
                obtain rfl : b = m + 1 := by omega
                exact ⟨rfl, dk, S, permIn_in R.perm hi (Nat.le_refl _) hb, one_right' hO hi hj HS1.out HI.out HJ.out R⟩
      · have hc1 : ((m : Int) - (a : Int) == 1) = false := by simp; omega
        have hc1' : ((b : Int) - (m : Int) == 1) = false := by simp; omega
        obtain ⟨wu, wi⟩ := HALF.out (a + b) (by omega)
        go_enter L.f30, BodyGt.n30_ntmps ρ
        go_upto_if 106 with fail
        obtain ⟨mid, hmid⟩ : ∃ mid, mid = (a + b) / 2 := ⟨_, rfl⟩
        have hmc : ((a : Int) + (b : Int)) / 2 = (mid : Int) := by omega
        have hm1 : a < mid := by omega
        have hm2 : mid < b := by omega
        have hm3 : 2 * mid ≤ a + b := by omega
        have hm4 : a + b ≤ 2 * mid + 1 := by omega
        rw [hmc]
        clear hmc hmid wu wi
        go_cut [18, 19] (fun v18 v19 wx => ∃ s0 r0 : Nat, v18 = .int .i64 s0 ∧ v19 = .int .i64 r0 ∧ a ≤ s0 ∧ s0 ≤ r0 ∧ r0 ≤ m ∧ r0 ≤ mid ∧ mid + m ≤ b + s0 ∧ (s0 = a ∨ mid + m - s0 = b) ∧ (r0 = m ∨ r0 = mid) ∧ SW enc W blk off d wx ∧ BoxD g lb sf sb W.heap.size wx)
        case first =>
          by_cases hgt : mid < m
          · have hc2 : (mid : Int) < (m : Int) := by omega
            go_wp2
            go_meet
            exact ⟨mid + m - b, mid, by go_num, rfl, by omega, by omega, by omega, Nat.le_refl _, by omega, .inr (by omega), .inr rfl, S0, B0⟩
          · have hc2 : ¬ (mid : Int) < (m : Int) := by omega
            go_wp2
            go_meet
            exact ⟨a, m, rfl, rfl, Nat.le_refl _, by omega, Nat.le_refl _, by omega, by omega, .inl rfl, .inl rfl, S0, B0⟩
        case rest =>
          clear S0 B0
          obtain ⟨s0, r0, rfl, rfl, g1, g2, g3, g4, g5, g6, g7, S, hB0, hB1⟩ := hcut
          have HB := BX wc ⟨hB0, hB1⟩
          have hn1 : (mid : Int) + (m : Int) < 9223372036854775807 := by omega
          have G6 := Lib.hid g6
          have G7 := Lib.hid g7
          clear g6 g7
          go_wp2
          go_loopw [18, 19] (fun vi vj wr => ∃ i j : Nat, vi = .int .i64 i ∧ vj = .int .i64 j ∧ s0 ≤ i ∧ i ≤ j ∧ j ≤ r0 ∧ (i = s0 ∨ lt d[mid + m - i]! d[i - 1]! = false) ∧ (j = r0 ∨ lt d[mid + m - j - 1]! d[j]! = true) ∧ SW enc W blk off d wr ∧ BoxD g lb sf sb W.heap.size wr) (fun vi vj _ => (intOf vj).toNat - (intOf vi).toNat)
          case atStart => exact ⟨s0, r0, rfl, rfl, Nat.le_refl _, by omega, Nat.le_refl _, .inl rfl, .inl rfl, S, HB.out⟩
          case round =>
            clear S hB0 hB1 HB
            obtain ⟨i, j, rfl, rfl, hi, hij, hj, hI, hJ, S, hB0, hB1⟩ := hrel
            have HB := BX wr ⟨hB0, hB1⟩
            have HI := Lib.hid hI
            have HJ := Lib.hid hJ
            clear hI hJ
            by_cases hlt : i < j
            · have hc2 : (i : Int) < (j : Int) := by omega
              obtain ⟨wu, wi⟩ := HALF.out (i + j) (by omega)
              obtain ⟨h, hh⟩ : ∃ h, h = (i + j) / 2 := ⟨_, rfl⟩
              have hm5 : i ≤ h := by omega
              have hm6 : h < j := by omega
              have hhc : ((i : Int) + (j : Int)) / 2 = (h : Int) := by omega
              have hl := C.lessAt S rfl (mid + m - h - 1) h (by omega) (by omega)
              rw [show ((mid + m - h - 1 : Nat) : Int) = (mid : Int) + (m : Int) - 1 - (h : Int) by omega, ← hhc] at hl
              have HHC := Lib.hid hhc
              clear hhc hh
              cases hlv : lt d[mid + m - h - 1]! d[h]! with
              | true =>
                rw [hlv] at hl
                have HLV := Lib.hid hlv
                clear hlv
                go_wp2_with (go_at_fn g; refine hl.mono ?_; rintro e w' ⟨rfl, S', hcs⟩)
                go_roundw
                case rel => exact ⟨i, h, rfl, by rw [HHC.out], hi, by omega, by omega, HI.out, .inr HLV.out, S', HB.out.same hcs⟩
                case measure => simp [intOf]; omega
              | false =>
                rw [hlv] at hl
                have HLV := Lib.hid hlv
                clear hlv
                go_wp2_with (go_at_fn g; refine hl.mono ?_; rintro e w' ⟨rfl, S', hcs⟩)
                go_roundw
                case rel => exact ⟨h + 1, j, by rw [HHC.out]; go_num, rfl, by omega, by omega, hj, .inr (by rw [show mid + m - (h + 1) = mid + m - h - 1 by omega, show h + 1 - 1 = h by omega]; exact HLV.out), HJ.out, S', HB.out.same hcs⟩
                case measure => simp [intOf]; omega
            · obtain rfl : i = j := by omega
              have hc2 : ¬ (i : Int) < (i : Int) := by omega
              have HC : Hid (Cut lt d a m b mid i) := by
                have q6 := G6.out
                have q7 := G7.out
                refine ⟨by omega, by omega, by omega, by omega, ?_, ?_⟩
                · rcases HI.out with h | h
                  · rcases q6 with q | q
                    · exact .inl (by omega)
                    · exact .inr (.inl (by omega))
                  · exact .inr (.inr h)
                · rcases HJ.out with h | h
                  · rcases q7 with q | q
                    · exact .inl (by omega)
                    · exact .inr (.inl (by omega))
                  · exact .inr (.inr h)
              have Ci := C.on S rfl
              have he1 : (mid : Int) + (m : Int) - (i : Int) = ((mid + m - i : Nat) : Int) := by omega
              have HE1 := Lib.hid he1
              have k1 : a ≤ i := by omega
              have k2 : i ≤ m := by omega
              have k3 : i ≤ mid := by omega
              have k4 : mid + m - i ≤ b := by omega
              have k5 : mid ≤ mid + m - i := by omega
              clear he1 G6 G7 HI HJ g1 g2 g3 g4 g5 hi hj
              obtain ⟨g1, hg1⟩ : ∃ g1, g1 = (decide (i < m) && decide (m < mid + m - i)) := ⟨_, rfl⟩
              go_upto_region 40 with fail
              go_cut [145] (fun v wx => v = .bool g1 ∧ wx = wr)
              case first =>
                by_cases hA1 : i < m
                · have hc3 : (i : Int) < (m : Int) := by omega
                  by_cases hA2 : m < mid + m - i
                  · have hc4 : (m : Int) < (mid : Int) + (m : Int) - (i : Int) := by omega
                    have hg2 : Hid (true = g1) := by show _ = _; rw [hg1, decide_eq_true hA1, decide_eq_true hA2]; rfl
                    clear hg1
                    go_wp2
                    go_meet
                    exact ⟨by rw [← hg2.out], rfl⟩
                  · have hc4 : ¬ (m : Int) < (mid : Int) + (m : Int) - (i : Int) := by omega
                    have hg2 : Hid (false = g1) := by show _ = _; rw [hg1, decide_eq_true hA1, decide_eq_false hA2]; rfl
                    clear hg1
                    go_wp2
                    go_meet
                    exact ⟨by rw [← hg2.out], rfl⟩
                · have hc3 : ¬ (i : Int) < (m : Int) := by omega
                  have hg2 : Hid (false = g1) := by show _ = _; rw [hg1, decide_eq_false hA1]; rfl
                  clear hg1
                  go_wp2
                  go_meet
                  exact ⟨by rw [← hg2.out], rfl⟩
              case rest =>
              obtain ⟨rfl, rfl⟩ := hcut
              go_upto_if 145 with fail
              go_cut [] (fun wx => ∃ d1, SW enc W blk off d1 wx ∧ Rot d i m (mid + m - i) d1 ∧ BoxD g lb sf sb W.heap.size wx)
              case first =>
                rcases g1 with _ | _
                · have hA : ¬ (i < m ∧ m < mid + m - i) := fun h => by rw [decide_eq_true h.1, decide_eq_true h.2] at hg1; cases hg1
                  clear hg1
                  go_wp2
                  go_meet
                  refine ⟨d, S, ?_, HB.out⟩
                  by_cases hA1 : i < m
                  · rw [show mid + m - i = m by omega]; exact Rot.self_r d i m
                  · obtain rfl : i = m := by omega
                    exact Rot.self_l d _ _
                · obtain ⟨hA1, hA2⟩ : i < m ∧ m < mid + m - i := by
                    have := hg1.symm
                    rw [Bool.and_eq_true, decide_eq_true_eq, decide_eq_true_eq] at this
                    exact this
                  clear hg1
                  have hr := rotate_s L42 Ci i m (mid + m - i) hA1 hA2 (by omega)
                  rw [← HE1.out] at hr
                  go_wp2_with (go_at_fn (ρ.f 42); refine hr.mono ?_; rintro e w1 ⟨rfl, d1, S1, R1⟩)
                  go_meet
                  exact ⟨d1, swTr S S1 C.bl R1.size, R1, HB.out.tr S1 hbn⟩
              case rest =>
                clear S hB0 hB1 HB Ci hg1
                obtain ⟨d1, S1, R1, hB0, hB1⟩ := hcut
                have hsz1 := R1.size
                have HP1 : Hid (PermIn a b d d1) := permIn_in R1.perm k1 k4 hb
                obtain ⟨r1, r2, r3, r4, r5⟩ := cut_runs hO (by omega) (by omega) (by omega) HS1.out HS2.out HC.out R1
                have R1h := Lib.hid r1
                have R2h := Lib.hid r2
                have R3h := Lib.hid r3
                have R4h := Lib.hid r4
                have R5h := Lib.hid r5
                have HB := BX wc ⟨hB0, hB1⟩
                have C1 := C.on S1 hsz1
                clear r1 r2 r3 r4 r5 HC
                obtain ⟨w1, hw1⟩ : ∃ w1 : World, w1 = wc := ⟨_, rfl⟩
                subst hw1
                obtain ⟨g2, hg2⟩ : ∃ g2, g2 = (decide (a < i) && decide (i < mid)) := ⟨_, rfl⟩
                go_upto_region 42 with fail
                go_cut [158] (fun v wx => v = .bool g2 ∧ wx = w1)
                case first =>
                  by_cases hA1 : a < i
                  · have hc3 : (a : Int) < (i : Int) := by omega
                    by_cases hA2 : i < mid
                    · have hc4 : (i : Int) < (mid : Int) := by omega
                      have hg3 : Hid (true = g2) := by show _ = _; rw [hg2, decide_eq_true hA1, decide_eq_true hA2]; rfl
                      clear hg2
                      go_wp2
                      go_meet
                      exact ⟨by rw [← hg3.out], rfl⟩
                    · have hc4 : ¬ (i : Int) < (mid : Int) := by omega
                      have hg3 : Hid (false = g2) := by show _ = _; rw [hg2, decide_eq_true hA1, decide_eq_false hA2]; rfl
                      clear hg2
                      go_wp2
                      go_meet
                      exact ⟨by rw [← hg3.out], rfl⟩
                  · have hc3 : ¬ (a : Int) < (i : Int) := by omega
                    have hg3 : Hid (false = g2) := by show _ = _; rw [hg2, decide_eq_false hA1]; rfl
                    clear hg2
                    go_wp2
                    go_meet
                    exact ⟨by rw [← hg3.out], rfl⟩
                case rest =>
                obtain ⟨rfl, rfl⟩ := hcut
                go_upto_if 158 with fail
                go_cut [] (fun wx => ∃ d2, SW enc W blk off d2 wx ∧ PermIn a mid d1 d2 ∧ SortedIn lt a mid d2 ∧ BoxD g lb sf sb W.heap.size wx)
                case first =>
                  rcases g2 with _ | _
                  · have hA : ¬ (a < i ∧ i < mid) := fun h => by rw [decide_eq_true h.1, decide_eq_true h.2] at hg2; cases hg2
                    clear hg2
                    go_wp2
                    go_meet
                    refine ⟨d1, S1, permIn_refl _ _ _, ?_, HB.out⟩
                    by_cases hA1 : a < i
                    · rw [show mid = i by omega]; exact R1h.out
                    · exact sorted_part R2h.out (by omega) (Nat.le_refl _)
                  · obtain ⟨hA1, hA2⟩ : a < i ∧ i < mid := by
                      have := hg2.symm
                      rw [Bool.and_eq_true, decide_eq_true_eq, decide_eq_true_eq] at this
                      exact this
                    clear hg2
                    have hr := ih d1 _ C1 a i mid (by omega) hA1 hA2 (by omega) R1h.out R2h.out
                    go_wp2_with (go_at_fn (ρ.f 30); refine hr.mono ?_; rintro e w2 ⟨rfl, d2, S2, P2, Q2⟩)
                    go_meet
                    exact ⟨d2, swTr S1 S2 C.bl P2.1, P2, Q2, HB.out.tr S2 hbn⟩
                case rest =>
                  clear hB0 hB1 HB C1 hg2
                  obtain ⟨d2, S2, P2, Q2, hB0, hB1⟩ := hcut
                  have hsz2 : d2.size = d.size := P2.1.trans hsz1
                  have HB := BX wc ⟨hB0, hB1⟩
                  have C2 := C.on S2 hsz2
                  have r3 := sorted_out R3h.out P2 (.inr (Nat.le_refl _))
                  have r4 := sorted_out R4h.out P2 (.inr k5)
                  have HP2 := Lib.hid P2
                  have HQ2 := Lib.hid Q2
                  have R3i := Lib.hid r3
                  have R4i := Lib.hid r4
                  clear P2 Q2 r3 r4 S1
                  obtain ⟨w2, hw2⟩ : ∃ w2 : World, w2 = wc := ⟨_, rfl⟩
                  subst hw2
                  have fin : ∀ d3 w3, SW enc W blk off d3 w3 → PermIn mid b d2 d3 → SortedIn lt mid b d3 → ∃ d', SW enc W blk off d' w3 ∧ PermIn a b d d' ∧ SortedIn lt a b d' := fun d3 w3 S3 P3 Q3 => by
                    have hh := halves (by omega) (by omega) (by omega) R5h.out HP2.out HQ2.out P3 Q3
                    exact ⟨d3, S3, permIn_trans _ _ _ _ _ HP1.out hh.1, hh.2⟩
                  have FIN := Lib.hid fin
                  clear fin
                  by_cases hA1 : mid < mid + m - i
                  · have hc3 : (mid : Int) < (mid : Int) + (m : Int) - (i : Int) := by omega
                    by_cases hA2 : mid + m - i < b
                    · have hc4 : (mid : Int) + (m : Int) - (i : Int) < (b : Int) := by omega
                      have hr := ih d2 w2 C2 mid (mid + m - i) b (by omega) hA1 hA2 (by omega) R3i.out R4i.out
                      rw [← HE1.out] at hr
                      go_wp2_with (go_at_fn (ρ.f 30); refine hr.mono ?_; rintro e w3 ⟨rfl, d3, S3, P3, Q3⟩)
                      go_end0
                      exact ⟨rfl, FIN.out d3 _ (swTr S2 S3 C.bl P3.1) P3 Q3⟩
                    · have hc4 : ¬ (mid : Int) + (m : Int) - (i : Int) < (b : Int) := by omega
                      go_wp2
                      go_end0
                      exact ⟨rfl, FIN.out d2 _ S2 (permIn_refl _ _ _) (by rw [show b = mid + m - i by omega]; exact R3i.out)⟩
                  · have hc3 : ¬ (mid : Int) < (mid : Int) + (m : Int) - (i : Int) := by omega
                    go_wp2
                    go_end0
                    exact ⟨rfl, FIN.out d2 _ S2 (permIn_refl _ _ _) (sorted_part R4i.out (by omega) (Nat.le_refl _))⟩
end
end Go.Proofs.YtkmgbdljiajlaaaGreat
namespace Go.Proofs.YtkmgbdljiajlaaaGreat
open Go.Shelf Go.RowKit Go.Lib Go.Sort
section
variable {P : Program} {ρ : Ren} {α : Type} [Inhabited α] {enc : α → Value} {lt : α → α → Bool} {g : Nat} {lb : Array Value} {sf : Nat} {sb : Array Value} {blk off : Nat} {d e f : Array α} {W W1 W2 : World}
theorem ins_s (hO : SWO lt) (L : LaysGt.n15 P ρ) (C : SCtx P enc lt g lb sf sb blk off d W) (a b : Nat) (hab : a ≤ b) (hb : b ≤ d.size) :
    Calls P (ρ.f 29) #[.agg #[.func (.func g) #[] lb, .func (.func sf) #[] sb], .int .i64 a, .int .i64 b] W fun e w' => e = .returned (.tuple #[]) ∧ ∃ d', SW enc W blk off d' w' ∧ PermIn a b d d' ∧ SortedIn lt a b d' := by
  have LI : LaysGg.n26 P ρ.viaGt := ({ L with } : LaysGt.n29 P ρ).elder
  have hc : Calls P (ρ.f 29) #[.agg #[.func (.func g) #[] lb, .func (.func sf) #[] sb], .int .i64 a, .int .i64 b] W fun e w' => e = .returned (.tuple #[]) ∧ ∃ n os, w' = sortWorld enc W blk off n (Sort.insertionSort lt d a b) os :=
    Any.insertionSort_func_w LI enc lt g lb sf sb blk off a b d W C.eg C.less C.swap C.hold C.bl hab hb C.sz
  have hh := insertionSort_holds hO d a b hab hb
  exact hc.mono fun _ _ ⟨h1, n, os, h2⟩ => ⟨h1, _, ⟨n, os, h2⟩, hh.1, hh.2⟩
set_option linter.unusedVariables false in
set_option maxHeartbeats 4000000 in
set_option maxRecDepth 100000 in
theorem stable_s (hO : SWO lt) (L : LaysGt.n15 P ρ) (C : SCtx P enc lt g lb sf sb blk off d W) (hsm : d.size ≤ 1099511627776) :
    Calls P (ρ.f 15) #[.agg #[.func (.func g) #[] lb, .func (.func sf) #[] sb], .int .i64 d.size] W fun e w' => e = .returned (.tuple #[]) ∧ ∃ d', SW enc W blk off d' w' ∧ PermIn 0 d.size d d' ∧ SortedIn lt 0 d.size d' := by
  have mixed := L.mixed; have t0 := L.t0; have a0 := L.a0; have z0 := L.z0; have v0 := L.v0; have t3 := L.t3; have a3 := L.a3; have z3 := L.z3; have v3 := L.v3; have t4 := L.t4; have a4 := L.a4; have z4 := L.z4; have v4 := L.v4; have t26 := L.t26; have a26 := L.a26; have z26 := L.z26; have v26 := L.v26; have t38 := L.t38; have a38 := L.a38; have z38 := L.z38; have v38 := L.v38; have t42 := L.t42; have a42 := L.a42; have z42 := L.z42; have v42 := L.v42; have t47 := L.t47; have a47 := L.a47; have z47 := L.z47; have v47 := L.v47
  have u42 := run_underlying L.t42
  have S0 : SW enc W blk off d (W.alloc (.cells #[.func (.func g) #[] lb, .func (.func sf) #[] sb] (ρ.t 42))) := C.start.alloc _
  have B0 : BoxD g lb sf sb W.heap.size (W.alloc (.cells #[.func (.func g) #[] lb, .func (.func sf) #[] sb] (ρ.t 42))) := BoxD.new W
  have hbn : W.heap.size ≠ blk := by have := C.bl; omega
  have BX : ∀ w', BoxD g lb sf sb W.heap.size w' → Hid (BoxD g lb sf sb W.heap.size w') := fun _ h => h
  have e29 : ∀ args w, (callFunc (ρ.f 29) args).run P w = .ok (.enter (ρ.f 29) args) w := enters_of L.f29 (by kernel_rfl) rfl
  have e30 : ∀ args w, (callFunc (ρ.f 30) args).run P w = .ok (.enter (ρ.f 30) args) w := enters_of L.f30 (by kernel_rfl) rfl
  have L30 : LaysGt.n30 P ρ := { L with }
  obtain ⟨n, hn⟩ : ∃ n, n = d.size := ⟨_, rfl⟩
  rw [← hn] at hsm ⊢
  have HN := Lib.hid hn
  clear hn
  go_enter L.f15, BodyGt.n15_ntmps ρ
  go_wp2
  go_loopw [5, 6] (fun va vb wr => ∃ (x : Nat) (dk : Array α), va = .int .i64 x ∧ vb = .int .i64 ((x : Int) + 20) ∧ x ≤ n ∧ SW enc W blk off dk wr ∧ PermIn 0 n d dk ∧ DoneR lt 20 x n dk ∧ BoxD g lb sf sb W.heap.size wr) (fun va _ _ => n - (intOf va).toNat)
  case atStart => exact ⟨0, d, rfl, rfl, Nat.zero_le _, S0, permIn_refl _ _ _, DoneR.zero _ _ _, B0⟩
  case round =>
    clear S0 B0
    obtain ⟨x, dk, rfl, rfl, hx, S, PM, DR, hB0, hB1⟩ := hrel
    have HB := BX wr ⟨hB0, hB1⟩
    have HPM := Lib.hid PM
    have HDR := Lib.hid DR
    have hds : dk.size = d.size := PM.1
    have Ck := C.on S hds
    have hnd := HN.out
    clear PM DR
    by_cases hlt : x + 20 ≤ n
    · have hc1 : (x : Int) + 20 ≤ (n : Int) := by omega
      have hi := ins_s hO L Ck x (x + 20) (by omega) (by omega)
      rw [show ((x + 20 : Nat) : Int) = (x : Int) + 20 by omega] at hi
      have hds2 := Lib.hid hds
      clear hnd hds
      go_wp2_with (go_at_fn (ρ.f 29); refine hi.mono ?_; rintro e w1 ⟨rfl, dk', S', P', Q'⟩)
      go_roundw
      case rel => exact ⟨x + 20, dk', by go_num, by go_num, hlt, swTr S S' C.bl P'.1, permIn_trans _ _ _ _ _ HPM.out (permIn_in P' (Nat.zero_le _) hlt (by rw [hds2.out, HN.out]; exact Nat.le_refl _)), HDR.out.step P' (by rw [show min (x + 20) n = x + 20 by omega]; exact Q'), HB.out.tr S' hbn⟩
      case measure => simp [intOf]; omega
    · have hc1 : ¬ (x : Int) + 20 ≤ (n : Int) := by omega
      have hi := ins_s hO L Ck x n (by omega) (by omega)
      have hds2 := Lib.hid hds
      clear hnd hds
      go_wp2_with (go_at_fn (ρ.f 29); refine hi.mono ?_; rintro e w1 ⟨rfl, d1, S1', P1, Q1⟩)
      have S1 := swTr S S1' C.bl P1.1
      have HB1 := BX _ (HB.out.tr S1' hbn)
      have PM1 : PermIn 0 n d d1 := permIn_trans _ _ _ _ _ HPM.out (permIn_in P1 (Nat.zero_le _) (Nat.le_refl _) (by rw [hds2.out, HN.out]; exact Nat.le_refl _))
      have RU : Runs lt 20 0 n d1 := HDR.out d1 (fun i hi => P1.2.1 i (by omega)) (Runs.one Q1 (by omega))
      clear S S1' HB hB0 hB1 Ck P1 Q1 HDR HPM hds2 hi
      go_loopw [4] (fun vs wr => ∃ (bs : Nat) (dk : Array α), vs = .int .i64 bs ∧ 1 ≤ bs ∧ bs ≤ 2199023255572 ∧ SW enc W blk off dk wr ∧ PermIn 0 n d dk ∧ Runs lt bs 0 n dk ∧ BoxD g lb sf sb W.heap.size wr) (fun vs _ => n - (intOf vs).toNat)
      case atStart => exact ⟨20, d1, rfl, by omega, by omega, S1, PM1, RU, HB1.out⟩
      case round =>
        clear S1 PM1 RU HB1
        obtain ⟨bs, dk, rfl, hb1, hb2, S, PM, RU, hB0, hB1⟩ := hrel
        have HB := BX wr ⟨hB0, hB1⟩
        have HRU := Lib.hid RU
        have HPM := Lib.hid PM
        clear RU PM
        by_cases hlt2 : bs < n
        · have hc2 : (bs : Int) < (n : Int) := by omega
          go_wp2
          go_loopw [5, 6] (fun va vb wr => ∃ (x : Nat) (dj : Array α), va = .int .i64 x ∧ vb = .int .i64 ((x : Int) + 2 * (bs : Int)) ∧ x ≤ n ∧ SW enc W blk off dj wr ∧ PermIn 0 n d dj ∧ DoneR lt (2 * bs) x n dj ∧ Runs lt bs x n dj ∧ BoxD g lb sf sb W.heap.size wr) (fun va _ _ => n - (intOf va).toNat)
          case atStart => exact ⟨0, dk, rfl, by go_num, Nat.zero_le _, S, HPM.out, DoneR.zero _ _ _, HRU.out, HB.out⟩
          case round =>
            clear S hB0 hB1 HB HRU HPM
            obtain ⟨x, dj, rfl, rfl, hx2, S, PM, DR, RU, hB0, hB1⟩ := hrel
            have HB := BX wr ⟨hB0, hB1⟩
            have HPM := Lib.hid PM
            have HDR := Lib.hid DR
            have HRU := Lib.hid RU
            have hds : dj.size = d.size := PM.1
            have Ck := C.on S hds
            have hnd := HN.out
            have r1 := RU.head
            have r2 := RU.next.head
            clear PM DR RU
            by_cases hle : x + 2 * bs ≤ n
            · have hc3 : (x : Int) + 2 * (bs : Int) ≤ (n : Int) := by omega
              have hr := symMerge_s hO L30 (2 * bs) dj wr Ck x (x + bs) (x + 2 * bs) (by omega) (by omega) (by omega) (by omega) (by rw [show min (x + bs) n = x + bs by omega] at r1; exact r1) (by rw [show min (x + bs + bs) n = x + 2 * bs by omega] at r2; exact r2)
              rw [show ((x + bs : Nat) : Int) = (x : Int) + (bs : Int) by omega, show ((x + 2 * bs : Nat) : Int) = (x : Int) + 2 * (bs : Int) by omega] at hr
              have hds2 := Lib.hid hds
              clear hnd hds r1 r2
              go_wp2_with (go_at_fn (ρ.f 30); refine hr.mono ?_; rintro e w1 ⟨rfl, dj', S', P', Q'⟩)
              go_roundw
              case rel =>
                refine ⟨x + 2 * bs, dj', by go_num, by go_num, hle, swTr S S' C.bl P'.1, permIn_trans _ _ _ _ _ HPM.out (permIn_in P' (Nat.zero_le _) hle (by rw [hds2.out, HN.out]; exact Nat.le_refl _)), HDR.out.step P' (by rw [show min (x + 2 * bs) n = x + 2 * bs by omega]; exact Q'), ?_, HB.out.tr S' hbn⟩
                have := HRU.out.next.next
                rw [show x + bs + bs = x + 2 * bs by omega] at this
                exact this.out P' (Nat.le_refl _)
              case measure => simp [intOf]; omega
            · have hc3 : ¬ (x : Int) + 2 * (bs : Int) ≤ (n : Int) := by omega
              by_cases hmn : x + bs < n
              · have hc4 : (x : Int) + (bs : Int) < (n : Int) := by omega
                have hr := symMerge_s hO L30 (2 * bs) dj wr Ck x (x + bs) n (by omega) (by omega) hmn (by omega) (by rw [show min (x + bs) n = x + bs by omega] at r1; exact r1) (by rw [show min (x + bs + bs) n = n by omega] at r2; exact r2)
                rw [show ((x + bs : Nat) : Int) = (x : Int) + (bs : Int) by omega] at hr
                have hds2 := Lib.hid hds
                clear hnd hds r1 r2
                go_wp2_with (go_at_fn (ρ.f 30); refine hr.mono ?_; rintro e w1 ⟨rfl, dj', S', P', Q'⟩)
                go_roundw
                case rel =>
                  exact ⟨bs * 2, dj', by go_num, by omega, by omega, swTr S S' C.bl P'.1, permIn_trans _ _ _ _ _ HPM.out (permIn_in P' (Nat.zero_le _) (Nat.le_refl _) (by rw [hds2.out, HN.out]; exact Nat.le_refl _)), by rw [Nat.mul_comm]; exact HDR.out dj' (fun i hi => P'.2.1 i (by omega)) (Runs.one Q' (by omega)), HB.out.tr S' hbn⟩
                case measure => simp [intOf]; omega
              · have hc4 : ¬ (x : Int) + (bs : Int) < (n : Int) := by omega
                have R1 := Lib.hid r1
                clear hnd hds r1 r2
                go_wp2
                go_roundw
                case rel =>
                  exact ⟨bs * 2, dj, by go_num, by omega, by omega, S, HPM.out, by rw [Nat.mul_comm]; exact HDR.out dj (fun i _ => rfl) (Runs.one (by have := R1.out; rwa [show min (x + bs) n = n by omega] at this) (by omega)), HB.out⟩
                case measure => simp [intOf]; omega
        · have hc2 : ¬ (bs : Int) < (n : Int) := by omega
          go_wp2
          go_end0
          have := HRU.out.head
          rw [show min (0 + bs) n = n by omega] at this
          exact ⟨rfl, dk, S, HPM.out, this⟩
end
end Go.Proofs.YtkmgbdljiajlaaaGreat
namespace Go.Proofs.YtkmgbdljiajlaaaGreat
open Go.Shelf Go.RowKit Go.Lib Go.Sort

section
variable {α : Type} [Inhabited α] {enc : α → Value}
theorem heap_sortedG {w : World} {g n : Nat} {os : Array Obj} {cur : Array Value} {e : TypeId} {fr : Nat × Nat} (d : Array α) (hb : w.heap[g]? = some (.cells cur e fr)) :
    (grow (putRow enc (Sort.ahead w n) g 0 d) os).heap[g]? = some (.cells (putCells enc 0 d cur) e fr) := by
  have hg : g < w.heap.size := (Array.getElem?_eq_some_iff.1 hb).1
  rw [heap_grow_old _ _ (by simpa using hg)]
  simp [putRow, mapBlock, Sort.ahead, Array.getElem?_modify, hb, onCells]
theorem grownBy_sortedG {w : World} {g n : Nat} {os : Array Obj} (d : Array α) : w.grownBy (grow (putRow enc (Sort.ahead w n) g 0 d) os) (some g) := by
  refine ⟨rfl, rfl, rfl, by simp, fun k hk hne => ?_⟩
  rw [heap_grow_old _ _ (by simpa using hk)]
  have : g ≠ k := fun e => hne (by rw [e])
  simp [putRow, mapBlock, Sort.ahead, Array.getElem?_modify, this]
theorem take_putCellsG (cur : Array Value) (d : Array α) (h : d.size ≤ cur.size) : (putCells enc 0 d cur).toList.take d.size = d.toList.map enc := by
  apply List.ext_getElem?
  intro j
  by_cases hj : j < d.size
  · rw [List.getElem?_take_of_lt hj, Array.getElem?_toList]
    simp [putCells, hj, show j < cur.size by omega]
  · rw [List.getElem?_take_eq_none (by omega), List.getElem?_eq_none (by simp; omega)]
theorem ownsRow_sortedG {w : World} {base g cap n : Nat} {e : TypeId} {os : Array Obj} {vs : List Value} {d : Array α} (h : w.ownsRow base e 1 (.slice (some ⟨g, 0, none⟩) vs.length cap) vs.length vs) (hl : d.size = vs.length) :
    (grow (putRow enc (Sort.ahead w n) g 0 d) os).ownsRow base e 1 (.slice (some ⟨g, 0, none⟩) vs.length cap) vs.length (d.toList.map enc) := by
  rcases h.2 with ⟨h0, h1⟩ | ⟨g', cap', cur, hv, hbase, hb, h1, h2, h3, h4⟩
  · cases h0
  · injection hv with hA _ hc
    injection hA with hA
    injection hA with hA
    subst hA
    subst hc
    exact ⟨by simp [hl], .inr ⟨g, cap, _, rfl, hbase, heap_sortedG d hb, h1, h2, by simp [putCells, h3], by rw [Nat.mul_one, ← hl]; exact take_putCellsG cur d (by omega)⟩⟩
end

/-! ## The order -/
theorem lessT_swo {α : Type} (f : α → List Int) : SWO (fun x y : α => lessT (f x) (f y)) where
  irrefl x := by
    cases h : lessT (f x) (f x) with
    | false => rfl
    | true => exact absurd h (lessT_irr _)
  trans x y z h1 h2 := lessT_trans _ _ _ h1 h2
  ntrans x y z h1 h2 := by
    cases h : lessT (f x) (f z) with
    | false => rfl
    | true =>
      rcases lessT_total (f x) (f y) with e | e | e
      · rw [← e, h] at h2; cases h2
      · rw [e] at h1; cases h1
      · rw [lessT_trans _ _ _ e h] at h2; cases h2
theorem less_cmp (p q : List Int) : decide (cmpT p q < 0) = lessT p q := by
  rw [Bool.eq_iff_iff, decide_eq_true_iff]
  exact cmpT_lt

/-! ## The closure -/
theorem rd_frame {w W : World} {B : Option Addr} {n blk : Nat} {xs : List Int} (h : RdL RI w B n xs) (hne : ∀ b o, B = some ⟨b, o, none⟩ → b ≠ blk) (hf : ∀ b k u, b ≠ blk → w.cell? ⟨b, k, none⟩ = some u → W.cell? ⟨b, k, none⟩ = some u) : RdL RI W B n xs := by
  refine ⟨h.1, h.2.1, fun k x hx => ?_⟩
  obtain ⟨b, o, v, hA, hc, hr⟩ := h.2.2 k x hx
  exact ⟨b, o, v, hA, hf b _ v (hne b o hA) hc, hr⟩
set_option maxRecDepth 100000 in
theorem cmpEnter (args : Array Value) (w : World) : (callFunc 51 args).run Tryz.prog w = .ok (.enter 51 args) w := rfl
set_option maxRecDepth 100000 in
theorem lessEnter (args : Array Value) (w : World) : (callFunc 92 args).run Tryz.prog w = .ok (.enter 92 args) w := rfl
set_option maxRecDepth 100000 in
set_option maxHeartbeats 4000000 in
theorem less_rows (g c q Bo Br : Nat) (W : World) (i j : Nat) (hi : i < q) (hj : j < q) (_hq : q ≤ 1099511627776) (B1 B2 : Option Addr) (n1 c1 n2 c2 : Nat) (xs ys : List Int)
    (ho : W.cell? ⟨Bo, 0, none⟩ = some (.func (.func 51) #[] #[])) (hr : W.cell? ⟨Br, 0, none⟩ = some (.slice (some ⟨g, 0, none⟩) q c))
    (ci : W.cell? ⟨g, i, none⟩ = some (.slice B1 n1 c1)) (cj : W.cell? ⟨g, j, none⟩ = some (.slice B2 n2 c2)) (r1 : RdL RI W B1 n1 xs) (r2 : RdL RI W B2 n2 ys) :
    Calls Tryz.prog 92 #[.int .i64 i, .int .i64 j, .pointer (some ⟨Bo, 0, none⟩), .pointer (some ⟨Br, 0, none⟩)] W fun e w' => e = .returned (.bool (lessT xs ys)) ∧ ∃ m, w' = W.drewN m := by
  have hi0 : (0 : Int) ≤ (i : Int) := by omega
  have hj0 : (0 : Int) ≤ (j : Int) := by omega
  have hi1 : (i : Int) < (q : Int) := by omega
  have hj1 : (j : Int) < (q : Int) := by omega
  have HL := less_cmp xs ys
  obtain ⟨cv, HCV⟩ : ∃ cv, Hid (cmpT xs ys = cv) := ⟨_, rfl⟩
  rw [HCV.out] at HL
  have HLL := Lib.hid HL
  clear HL
  have hC : Calls Tryz.prog 51 #[.slice B1 n1 c1, .slice B2 n2 c2] W.drew (Qt W.drew (.int .i64 cv)) := by
    have := compareTerms_any B1 B2 n1 n2 c1 c2 xs ys W.drew (r1.same stab_RI fun _ _ => rfl) (r2.same stab_RI fun _ _ => rfl)
    rw [HCV.out] at this
    exact this
  clear r1 r2
  have e1 := cmpEnter
  go_enter Tryz.func92, Tryz.ntmps92
  go_wp2
  go_region_held3 (fun w' => w'.cell? ⟨Bo, 0, none⟩ = some (.func (.func 51) #[] #[]) ∧ w'.cell? ⟨Br, 0, none⟩ = some (.slice (some ⟨g, 0, none⟩) q c) ∧ w'.cell? ⟨g, i, none⟩ = some (.slice B1 n1 c1) ∧ w'.cell? ⟨g, j, none⟩ = some (.slice B2 n2 c2)) (first | go_keep | exact ⟨ho, hr, ci, cj⟩) (first | (go_at_fn 51; refine hC.mono ?_; rintro e w' ⟨rfl, m, rfl⟩))
  all_goals
    go_wp2
    go_ret
    exact ⟨ret_bool HLL.out, m + 1, by simp [World.drewN, Nat.add_comm, Nat.add_left_comm]⟩

/-! ## The sort of a matrix of the call's own -/
noncomputable def eT : TypeInfo := (Tryz.prog.info? 27).get (by kernel_rfl)
theorem eT_K (n : Nat) (h2 : 2 ≤ n) : Lib.swapperK n eT 23 = 9 := by
  have a : eT.hasPointers = true := by kernel_rfl
  have b : eT.bytes = 24 := by kernel_rfl
  have c : (n == 0) = false := by simp; omega
  have d : (n == 1) = false := by simp; omega
  simp [Lib.swapperK, a, b, c, d]
noncomputable def sT : TypeInfo := (Tryz.prog.info? 32).get (by kernel_rfl)
/-- sort.SliceStable at two elements or more. -/
theorem sliceStable_s {α : Type} [Inhabited α] {enc : α → Value} {lt : α → α → Bool} (hO : SWO lt) (h1 : ∀ x, (enc x).oneCell' = true) (lb : Array Value) (blk off c : Nat) (d : Array α) (h2 : 2 ≤ d.size) (hsm : d.size ≤ 1099511627776) (w : World)
    (hless : LessReads Tryz.prog 92 lb enc lt blk off d.size w) (hH : Holds enc w blk off d) (hblk : blk < w.heap.size) :
    Calls Tryz.prog 91 #[.iface 32 (.slice (some ⟨blk, off, none⟩) d.size c), .func (.func 92) #[] lb] w fun e w' =>
      e = .returned (.tuple #[]) ∧ ∃ d', SW enc w blk off d' w' ∧ PermIn 0 d.size d d' ∧ SortedIn lt 0 d.size d' := by
  have key := Any.sort_SliceStable_of_stable Tryz.laysGt8 32 27 sT eT (by kernel_rfl) (by kernel_rfl) (by kernel_rfl) (by kernel_rfl) 23 (fun _ => by kernel_rfl) (some ⟨blk, off, none⟩) d.size c (by omega) 151 (by rw [eT_K _ h2]; kernel_rfl) (.func 92) #[] lb w
    (fun w' => ∃ d', SW enc w blk off d' w' ∧ PermIn 0 d.size d d' ∧ SortedIn lt 0 d.size d') ?_
  · exact key
  have hB : sliceBound Tryz.prog 27 eT 23 (some ⟨blk, off, none⟩) d.size c = #[.slice (some ⟨blk, off, none⟩) d.size c, typeHandle Tryz.prog 27] := by
    unfold sliceBound; rw [if_neg (swapperK_gt _ _ _ h2)]
  obtain ⟨os0, hW⟩ : ∃ os0, stableWorld Tryz.prog Tryz.laysGt8_ren 32 (some ⟨blk, off, none⟩) d.size c w = grow w os0 := ⟨_, by unfold stableWorld; rw [alloc_eq_grow, alloc_eq_grow, grow_grow]⟩
  rw [hB, hW]
  have S0 : SW enc w blk off d (grow w os0) := ⟨0, os0, by unfold sortWorld; rw [show putRow enc (Sort.ahead w 0) blk off d = w from putRow_self _ _ _ _ _ hH]⟩
  have C : SCtx Tryz.prog enc lt 92 lb 151 #[.slice (some ⟨blk, off, none⟩) d.size c, typeHandle Tryz.prog 27] blk off d (grow w os0) :=
    ⟨lessEnter, hless.grow hblk os0, swapSwaps_of_literal (P := Tryz.prog) _ 151 (fun args W => run_callFunc_extern (by first | exact Tryz.func151) (by kernel_rfl) (by kernel_rfl) (by kernel_rfl) (e := Extern.ReflectliteSwapper.swap false) (by kernel_rfl) args W) 27 eT (by kernel_rfl) (by kernel_rfl) (fun _ => by kernel_rfl) enc h1 blk off d.size c,
      holds_grow enc w _ blk off d hblk hH, by rw [size_grow]; omega, by omega⟩
  exact (stable_s (P := Tryz.prog) (ρ := Tryz.laysGt8_ren) hO { Tryz.laysGt8 with } C hsm).mono fun _ _ ⟨e1, d', S', P', Q'⟩ => ⟨e1, d', swTr S0 S' hblk P'.1, P', Q'⟩

theorem own_neR {w : World} {lo g : Nat} {v : Value} {n cap m : Nat} {xs ys : List Value} (h : w.ownsRow lo 3 1 v n xs) (h' : w.ownsRow lo 27 1 (.slice (some ⟨g, 0, none⟩) m cap) m ys) : ∀ b, v.ownBlock = some b → b ≠ g := by
  intro b hb e
  subst e
  rcases h.2 with ⟨rfl, -⟩ | ⟨g1, cap1, cur1, rfl, -, hh, -⟩
  · simp [Value.ownBlock] at hb
  · have : g1 = b := by simpa [Value.ownBlock] using hb
    subst this
    rcases h'.2 with ⟨h0, -⟩ | ⟨g2, cap2, cur2, hv, -, hh2, -⟩
    · cases h0
    · injection hv with hA _ _
      injection hA with hA
      injection hA with hA
      subst hA
      rw [hh] at hh2
      injection hh2 with hh2
      injection hh2 with _ h5
      exact absurd h5 (by decide)
/-- What the sort hands back. -/
def SrtE (lo : Nat) (w : World) (A : Option Addr) (q c : Nat) (xss : List (List Int)) (e : Ending) (w' : World) : Prop :=
  e = .returned (.tuple #[]) ∧ ∃ yss, OwM 27 3 (.int .i64) lo w' (.slice A q c) q yss ∧ yss.Perm xss ∧ yss.Pairwise (fun p r => lessT r p = false) ∧ Below lo w w'
set_option maxRecDepth 100000 in
set_option maxHeartbeats 4000000 in
theorem sortBig (lo g c q : Nat) (xss : List (List Int)) (w W2 : World) (Bo Br : Nat) (hM : OwM 27 3 (.int .i64) lo w (.slice (some ⟨g, 0, none⟩) q c) q xss) (hlo : lo ≤ w.heap.size) (hbd : ∀ xs ∈ xss, ∀ x ∈ xs, ∀ wz : World, RI wz (.int .i64 x) x) (h2 : 2 ≤ q) (hq : q ≤ 1000)
    (T2 : Below w.heap.size w W2) (ho : W2.cell? ⟨Bo, 0, none⟩ = some (.func (.func 51) #[] #[])) (hr : W2.cell? ⟨Br, 0, none⟩ = some (.slice (some ⟨g, 0, none⟩) q c)) (hBo : Bo ≠ g) (hBr : Br ≠ g) :
    Calls Tryz.prog 91 #[.iface 32 (.slice (some ⟨g, 0, none⟩) q c), .func (.func 92) #[] #[.pointer (some ⟨Bo, 0, none⟩), .pointer (some ⟨Br, 0, none⟩)]] W2 (SrtE lo w (some ⟨g, 0, none⟩) q c xss) := by
  obtain ⟨vs, m1, m2, m3, m4⟩ := hM
  have hl : vs.length = q := by have := m1.1; simpa using this
  have hzl : (vs.zip xss).length = q := by rw [List.length_zip, m2, Nat.min_self, ← m2, hl]
  have hx : ∀ t ∈ vs.zip xss, ∃ k, vs[k]? = some t.1 ∧ xss[k]? = some t.2 := fun t ht => by
    obtain ⟨k, hk, e⟩ := List.getElem_of_mem ht
    rw [List.getElem_zip] at e
    have k1 : k < vs.length := by rw [List.length_zip] at hk; omega
    have k2 : k < xss.length := by rw [List.length_zip] at hk; omega
    exact ⟨k, by rw [← e]; exact List.getElem?_eq_getElem k1, by rw [← e]; exact List.getElem?_eq_getElem k2⟩
  have good : ∀ t ∈ vs.zip xss, ∃ B n c', t.1 = .slice B n c' ∧ RdL RI w B n t.2 ∧ (∀ b o, B = some ⟨b, o, none⟩ → b ≠ g) ∧ w.ownsRow lo 3 1 t.1 t.2.length (t.2.map (.int .i64)) := fun t ht => by
    obtain ⟨k, k1, k2⟩ := hx t ht
    have ho := m3 k _ _ k1 k2
    obtain ⟨B, c', e⟩ := own_slice ho
    have hne := own_neR ho m1
    rw [e] at ho
    refine ⟨B, t.2.length, c', e, rd_of_own (R := RI) ho fun x hx' => hbd _ (List.mem_of_getElem? k2) x hx' w, fun b o hB => ?_, by rw [e]; exact ho⟩
    rcases ho.2 with ⟨h0, -⟩ | ⟨g1, cap1, cur1, hv, -⟩
    · injection h0 with h0 _ _
      rw [h0] at hB
      cases hB
    · injection hv with hA _ _
      rw [hA] at hB
      injection hB with hB
      injection hB with hB _
      subst hB
      exact hne g1 (by rw [e, hA]; rfl)
  let α := {t : Value × List Int // t ∈ vs.zip xss}
  have h0 : 0 < (vs.zip xss).length := by omega
  letI : Inhabited α := ⟨⟨(vs.zip xss)[0], List.getElem_mem h0⟩⟩
  let enc : α → Value := fun t => t.1.1
  let lt : α → α → Bool := fun x y => lessT x.1.2 y.1.2
  let d : Array α := (vs.zip xss).attach.toArray
  have hds : d.size = q := by show ((vs.zip xss).attach.toArray).size = q; simp [hl, ← m2]
  have hd : ∀ j, j < q → ∃ (hj : j < (vs.zip xss).length), (d[j]!).1 = (vs.zip xss)[j] := fun j hj => by
    refine ⟨by omega, ?_⟩
    rw [getElem!_pos d j (by rw [hds]; exact hj)]
    show ((vs.zip xss).attach.toArray[j]'_).1 = _
    simp
  have ROW2 := own_next m1 T2
  rw [← hl] at ROW2
  have hblk : g < W2.heap.size := by
    have := (m1.lt g rfl).2
    have := T2.size
    omega
  have hH : Holds enc W2 g 0 d := fun j hj => by
    rw [hds] at hj
    obtain ⟨hj', e⟩ := hd j hj
    refine ⟨?_, ROW2.frozenAt _⟩
    rw [ROW2.cellAt _ (by omega), Nat.zero_add]
    show vs[j]? = some (d[j]!).1.1
    rw [e, List.getElem_zip]
    exact List.getElem?_eq_getElem (by omega)
  have hless : LessReads Tryz.prog 92 #[.pointer (some ⟨Bo, 0, none⟩), .pointer (some ⟨Br, 0, none⟩)] enc lt g 0 d.size W2 := by
    intro m os dk hs i j hi hj
    have hf : ∀ b k u, b ≠ g → W2.cell? ⟨b, k, none⟩ = some u → (sortWorld enc W2 g 0 m dk os).cell? ⟨b, k, none⟩ = some u := fun b k u hb hc => swCell ⟨m, os, rfl⟩ hb hc
    have hHd := holds_sortWorld enc W2 g 0 m d dk os hblk hH hs
    obtain ⟨B1, n1, c1, e1, r1, q1, -⟩ := good _ (dk[i]!).2
    obtain ⟨B2, n2, c2, e2, r2, q2, -⟩ := good _ (dk[j]!).2
    have ci := (hHd i (by omega)).1
    have cj := (hHd j (by omega)).1
    rw [Nat.zero_add] at ci cj
    have R1 := rd_frame (r1.next stab_RI T2) q1 hf
    have R2 := rd_frame (r2.next stab_RI T2) q2 hf
    exact less_rows g c q Bo Br _ i j (by omega) (by omega) (by omega) B1 B2 n1 c1 n2 c2 _ _ (hf _ _ _ hBo ho) (hf _ _ _ hBr hr) (by rw [ci]; show some (dk[i]!).1.1 = _; rw [e1]) (by rw [cj]; show some (dk[j]!).1.1 = _; rw [e2]) R1 R2
  have hO : SWO lt := lessT_swo fun t : α => t.1.2
  have key := sliceStable_s (enc := enc) (lt := lt) hO (fun t => by obtain ⟨B, n, c', e, -⟩ := good _ t.2; show t.1.1.oneCell' = true; rw [e]; rfl) #[.pointer (some ⟨Bo, 0, none⟩), .pointer (some ⟨Br, 0, none⟩)] g 0 c d (by omega) (by omega) W2 hless hH hblk
  rw [hds] at key
  refine key.mono ?_
  rintro e w' ⟨rfl, d', ⟨n, os, rfl⟩, P, Q⟩
  have hs' : d'.size = q := by rw [P.1, hds]
  have hperm : d'.toList.Perm d.toList := by
    have := P.2.2
    rwa [← hds, show d'.extract 0 d.size = d' by rw [← P.1]; simp, show d.extract 0 d.size = d by simp] at this
  have hdm1 : d.toList.map enc = vs := by
    apply List.ext_getElem
    · rw [List.length_map, Array.length_toList, hds, hl]
    · intro j h1' h2'
      have hj : j < q := by omega
      obtain ⟨hj', e⟩ := hd j hj
      rw [List.getElem_map]
      have : (d.toList[j]'(by simpa using h1')) = d[j]! := by rw [getElem!_pos d j (by omega)]; simp
      rw [this]
      show (d[j]!).1.1 = _
      rw [e, List.getElem_zip]
  have hdm2 : d.toList.map (fun t : α => t.1.2) = xss := by
    apply List.ext_getElem
    · rw [List.length_map, Array.length_toList, hds, ← m2, hl]
    · intro j h1' h2'
      have hj : j < q := by omega
      obtain ⟨hj', e⟩ := hd j hj
      rw [List.getElem_map]
      have : (d.toList[j]'(by simpa using h1')) = d[j]! := by rw [getElem!_pos d j (by omega)]; simp
      rw [this, e, List.getElem_zip]
  have hg2 := grownBy_sortedG (enc := enc) (w := W2) (g := g) (n := n) (os := os) d'
  have ROW3 := ownsRow_sortedG (enc := enc) (n := n) (os := os) (d := d') ROW2 (by rw [hs', hl])
  rw [hl] at ROW3
  refine ⟨rfl, d'.toList.map (fun t : α => t.1.2), ⟨d'.toList.map enc, ROW3, by simp, ?_, ?_⟩, ?_, ?_, ?_⟩
  · intro k u xs hu hxs
    rw [List.getElem?_map] at hu hxs
    cases hk : d'.toList[k]? with
    | none => rw [hk] at hu; cases hu
    | some t =>
      rw [hk] at hu hxs
      injection hu with hu
      injection hxs with hxs
      subst hu
      subst hxs
      obtain ⟨B, n1, c1, e1, -, -, ow⟩ := good _ t.2
      have hne := own_neR ow m1
      refine own_same (own_next ow T2) fun b hb => hg2.block b ?_ fun e => ?_
      · have := (ow.lt b hb).2
        have := T2.size
        omega
      · injection e with e
        exact hne b hb e
  · have := (hperm.map enc).filterMap Value.ownBlock
    rw [hdm1] at this
    exact this.nodup_iff.2 m4
  · have := hperm.map (fun t : α => t.1.2)
    rwa [hdm2] at this
  · rw [List.pairwise_iff_getElem]
    intro i j hi hj hij
    rw [List.length_map, Array.length_toList] at hi hj
    have := Q i j (Nat.zero_le _) hij (by omega)
    rw [getElem!_pos d' i hi, getElem!_pos d' j hj] at this
    simpa using this
  · have hT : Below lo w W2 := ⟨T2.os, T2.tape, T2.output, T2.size, fun b hb => T2.block b (by omega)⟩
    exact hT.grown hg2 (by have := T2.size; omega) fun k hk => by injection hk with hk; subst hk; exact (m1.lt g rfl).1

theorem sortTiny (lo q c : Nat) (A : Option Addr) (xss : List (List Int)) (w W2 : World) (lb : Array Value) (hM : OwM 27 3 (.int .i64) lo w (.slice A q c) q xss) (hlo : lo ≤ w.heap.size) (hq : q ≤ 1) (T2 : Below w.heap.size w W2) :
    Calls Tryz.prog 91 #[.iface 32 (.slice A q c), .func (.func 92) #[] lb] W2 (SrtE lo w A q c xss) := by
  have hxl : xss.length = q := by obtain ⟨vs, m1, m2, -⟩ := hM; rw [← m2]; have := m1.1; simpa using this
  have hlo2 : Below lo w W2 := ⟨T2.os, T2.tape, T2.output, T2.size, fun b hb => T2.block b (by omega)⟩
  have fin : ∀ os, SrtE lo w A q c xss (.returned (.tuple #[])) (grow W2 os) := fun os => by
    have hb : Below W2.heap.size W2 (grow W2 os) := ⟨rfl, rfl, rfl, by rw [size_grow]; omega, fun b hb => heap_grow_old _ _ hb⟩
    refine ⟨rfl, xss, (hM.next T2).next hb, List.Perm.refl _, ?_, hlo2.trans ⟨hb.os, hb.tape, hb.output, hb.size, fun b h => hb.block b (by have := T2.size; omega)⟩⟩
    match xss, hxl with
    | [], _ => exact List.Pairwise.nil
    | [p], _ => exact List.pairwise_singleton _ _
    | p :: r :: l, h => simp at h; omega
  rcases Nat.lt_or_ge q 1 with h | h
  · obtain rfl : q = 0 := by omega
    exact (Any.sort_SliceStable_tiny (P := Tryz.prog) Tryz.laysGt8 32 27 sT eT (by kernel_rfl) (by kernel_rfl) (by kernel_rfl) (by kernel_rfl) 23 (fun _ => by kernel_rfl) A 0 c (by omega) 143 (by kernel_rfl) (.func 92) #[] lb W2).mono fun _ _ ⟨e1, os, e2⟩ => by rw [e1, e2]; exact fin os
  · obtain rfl : q = 1 := by omega
    exact (Any.sort_SliceStable_tiny (P := Tryz.prog) Tryz.laysGt8 32 27 sT eT (by kernel_rfl) (by kernel_rfl) (by kernel_rfl) (by kernel_rfl) 23 (fun _ => by kernel_rfl) A 1 c (by omega) 144 (by kernel_rfl) (.func 92) #[] lb W2).mono fun _ _ ⟨e1, os, e2⟩ => by rw [e1, e2]; exact fin os
set_option maxRecDepth 100000 in
set_option maxHeartbeats 4000000 in
theorem sortRows_any (lo : Nat) (A : Option Addr) (c q : Nat) (xss : List (List Int)) (w : World) (hM : OwM 27 3 (.int .i64) lo w (.slice A q c) q xss) (hlo : lo ≤ w.heap.size) (hbd : ∀ xs ∈ xss, ∀ x ∈ xs, ∀ wz : World, RI wz (.int .i64 x) x) (hq : q ≤ 1000) :
    Calls Tryz.prog 50 #[.slice A q c, .func (.func 51) #[] #[]] w (SrtE lo w A q c xss) := by
  obtain ⟨w2, hw2⟩ : ∃ w2, w2 = (w.alloc (.cells #[.slice A q c] 32)).alloc (.cells #[.func (.func 51) #[] #[]] 63) := ⟨_, rfl⟩
  have T2 : Below w.heap.size w w2 := by rw [hw2]; exact (below_box w _).trans ⟨rfl, rfl, rfl, by simp, fun b hb => by rw [Below.heap_alloc _ _ b (by simp; omega)]⟩
  have hr : w2.cell? ⟨w.heap.size, 0, none⟩ = some (.slice A q c) := by rw [hw2]; exact cell_new2 _ _ rfl
  have ho : w2.cell? ⟨w.heap.size + 1, 0, none⟩ = some (.func (.func 51) #[] #[]) := by rw [hw2]; exact cell_new _ (by simp)
  have key : Calls Tryz.prog 91 #[.iface 32 (.slice A q c), .func (.func 92) #[] #[.pointer (some ⟨w.heap.size + 1, 0, none⟩), .pointer (some ⟨w.heap.size, 0, none⟩)]] w2 (SrtE lo w A q c xss) := by
    rcases Nat.lt_or_ge 1 q with h | h
    · obtain ⟨g, hA, hg⟩ : ∃ g, A = some ⟨g, 0, none⟩ ∧ g < w.heap.size := by
        obtain ⟨vs, m1, -⟩ := hM
        rcases m1.2 with ⟨h0, h1⟩ | ⟨g, cap, cur, hv, hbs, hb, -⟩
        · omega
        · injection hv with hA _ _
          exact ⟨g, hA, (Array.getElem?_eq_some_iff.1 hb).1⟩
      subst hA
      exact sortBig lo g c q xss w w2 _ _ hM hlo hbd h hq T2 ho hr (by omega) (by omega)
    · exact sortTiny lo q c A xss w w2 _ hM hlo h T2
  have HW := Lib.hid hw2
  clear hw2 hr ho T2
  go_enter Tryz.func50, Tryz.ntmps50
  go_wp2_with fail
  rw [← HW.out]
  go_wp2_with (go_at_call 91; refine key.mono ?_; rintro e w' ⟨rfl, H⟩)
  go_end0
  exact ⟨rfl, H⟩
end Go.Proofs.YtkmgbdljiajlaaaGreat
namespace Go.Proofs.YtkmgbdljiajlaaaGreat
open Go.RowKit

/-- A matrix of the call's own, with one row more. -/
theorem OwM.push {α : Type} {eo ei : TypeId} {f : α → Value} {lo : Nat} {w w1 : World} {v : Value} {n : Nat} {xss : List (List α)} (hne : eo ≠ ei) (h : OwM eo ei f lo w v n xss) (hb : Below w.heap.size w w1) (hlo : lo ≤ w.heap.size) {u : Value} {xs : List α} (hu : w1.ownsRow w.heap.size ei 1 u xs.length (xs.map f)) :
    ∃ vs, w1.ownsRow lo eo 1 v n vs ∧ ∀ {w2 : World} {v' : Value}, w2.ownsRow lo eo 1 v' (n + 1) (vs ++ [u]) → w1.grownBy w2 v.ownBlock → OwM eo ei f lo w2 v' (n + 1) (xss ++ [xs]) := by
  obtain ⟨vs, h1, h2, h3, h4⟩ := h
  have hk1 := own_next h1 hb
  refine ⟨vs, hk1, fun {w2 v'} hown hg => ⟨vs ++ [u], hown, by simp [h2], ?_, ?_⟩⟩
  · have far : ∀ {base : Nat} {y : Value} {ys : List α}, w1.ownsRow base ei 1 y ys.length (ys.map f) → w2.ownsRow base ei 1 y ys.length (ys.map f) := fun ho =>
      own_same ho fun b hb => hg.block b (ho.lt b hb).2 (fun e => own_ne ho hk1 hne.symm hb e.symm)
    intro k y ys hy hx
    by_cases hk : k < vs.length
    · rw [List.getElem?_append_left hk] at hy
      rw [List.getElem?_append_left (by omega)] at hx
      exact far (own_next (h3 k y ys hy hx) hb)
    · have hk2 : k = vs.length := by
        have := (List.getElem?_eq_some_iff.1 hy).1
        simp at this
        omega
      subst hk2
      rw [List.getElem?_append_right (Nat.le_refl _)] at hy
      rw [h2, List.getElem?_append_right (Nat.le_refl _)] at hx
      simp at hy hx
      subst hy
      subst hx
      exact far (own_mono hu hlo)
  · rw [List.filterMap_append]
    cases hub : u.ownBlock with
    | none => simpa [hub] using h4
    | some g =>
      simp only [List.filterMap_cons, hub, List.filterMap_nil]
      rw [List.nodup_append]
      refine ⟨h4, by simp, fun a ha b hb' => ?_⟩
      simp at hb'
      subst hb'
      obtain ⟨y, hy, hyb⟩ := List.mem_filterMap.1 ha
      obtain ⟨k, hk⟩ := List.getElem?_of_mem hy
      have hkl : k < xss.length := by rw [← h2]; exact (List.getElem?_eq_some_iff.1 hk).1
      have h5 := ((h3 k y _ hk (List.getElem?_eq_getElem hkl)).lt a hyb).2
      have h6 := (hu.lt b hub).1
      omega
theorem mat_lit {w w1 : World} (h : Below w.heap.size w w1) : OwM 27 3 (.int .i64) w.heap.size (w1.alloc (.cells #[] 27)) (.slice (some ⟨w1.heap.size, 0, none⟩) 0 0) 0 [] :=
  ⟨[], World.ownsRow_lit _ _ _ h.size (Nat.zero_le _) rfl, rfl, fun k u xs hu => by simp at hu, by simp⟩
end Go.Proofs.YtkmgbdljiajlaaaGreat
namespace Go.Proofs.YtkmgbdljiajlaaaGreat
open Go.RowKit

section
variable {w w' : World} {base : Nat} {e : TypeId} {size : Nat} {v : Value} {n : Nat} {xs : List Value}
end
end Go.Proofs.YtkmgbdljiajlaaaGreat
namespace Go.Proofs.YtkmgbdljiajlaaaGreat
open Go.RowKit

theorem partL_iff {ys : List Int} : ∀ {xs : List Int}, partL ys xs = true ↔ ∀ x ∈ xs, x ∈ ys
  | [] => by simp [partL]
  | x :: l => by
    rw [partL]
    simp only [Bool.and_eq_true, hasI_iff, List.mem_cons, forall_eq_or_imp]
    rw [partL_iff (xs := l)]
/-- The call hands back a matrix of its own and a bool. -/
def OwnMB (w : World) (xss : List (List Int)) (b : Bool) (e : Ending) (w' : World) : Prop := ∃ A n c, e = .returned (.tuple #[.slice A n c, .bool b]) ∧ OwM 27 3 (.int .i64) w.heap.size w' (.slice A n c) n xss ∧ Below w.heap.size w w'
/-- The call hands back a slice of slices that reads so, and a bool. -/
def RdMB (w : World) (xss : List (List Int)) (b : Bool) (e : Ending) (w' : World) : Prop := ∃ A n c, e = .returned (.tuple #[.slice A n c, .bool b]) ∧ RdL (RV RI) w' A n xss ∧ Below w.heap.size w w'
end Go.Proofs.YtkmgbdljiajlaaaGreat
namespace Go.Proofs.YtkmgbdljiajlaaaGreat
open Go.RowKit

/-! ## The plain law -/
structure GenL (n : Nat) (xss acc : List (List Int)) : Prop where
  nd : acc.Nodup
  set : ∀ p ∈ acc, IsSet n p
  top : upTo n ∈ acc
  sub : ∀ p ∈ acc, p ∈ systemL n xss
theorem GenL.start (n : Nat) (xss : List (List Int)) : GenL n xss [upTo n] :=
  ⟨by simp, fun p hp => by rw [List.mem_singleton.1 hp]; exact upTo_set n, List.mem_singleton.2 rfl, fun p hp => by rw [List.mem_singleton.1 hp]; exact systemL_top n xss⟩
theorem GenL.len {n : Nat} {xss acc : List (List Int)} (h : GenL n xss acc) (hn : n ≤ 6) : acc.length ≤ 64 := by
  have h1 := nodup_len (l := acc) (m := subs (upTo n)) h.nd fun p hp => mem_subs (set_sub (h.set p hp))
  rw [subs_len, upTo_len] at h1
  exact Nat.le_trans h1 (Nat.le_trans (Nat.pow_le_pow_right (by decide) hn) (by decide))
theorem GenL.add {n : Nat} {xss acc : List (List Int)} (h : GenL n xss acc) {p : List Int} (hs : IsSet n p) (hi : p ∈ systemL n xss) (hn : p ∉ acc) : GenL n xss (acc ++ [p]) := by
  refine ⟨?_, ?_, List.mem_append_left _ h.top, ?_⟩
  · rw [List.nodup_append]
    exact ⟨h.nd, by simp, fun a ha b hb e => by rw [List.mem_singleton.1 hb] at e; exact hn (e ▸ ha)⟩
  · intro q hq
    rcases List.mem_append.1 hq with hq | hq
    · exact h.set q hq
    · rw [List.mem_singleton.1 hq]; exact hs
  · intro q hq
    rcases List.mem_append.1 hq with hq | hq
    · exact h.sub q hq
    · rw [List.mem_singleton.1 hq]; exact hi
theorem GenL.meet {n : Nat} {xss acc : List (List Int)} (h : GenL n xss acc) {p q : List Int} (hp : p ∈ acc) (hq : q ∈ acc) : IsSet n (meetL q p) ∧ meetL q p ∈ systemL n xss :=
  ⟨(h.set p hp).meet q, systemL_cl n xss p (h.sub p hp) q (h.sub q hq)⟩
/-- The pairs of the first i, and those of i with the first k, have their meets in the list. -/
def Prs (acc : List (List Int)) (i k : Nat) : Prop := ∀ a b p q, acc[a]? = some p → acc[b]? = some q → b < a → (a < i ∨ (a = i ∧ b < k)) → meetL q p ∈ acc
theorem Prs.zero (acc : List (List Int)) : Prs acc 0 0 := fun a b p q _ _ h1 h2 => by omega
theorem Prs.next {acc : List (List Int)} {i k : Nat} (h : Prs acc i k) (hk : i ≤ k) : Prs acc (i + 1) 0 := fun a b p q hp hq h1 h2 => h a b p q hp hq h1 (by omega)
theorem Prs.step {acc : List (List Int)} {i k : Nat} {p q : List Int} (h : Prs acc i k) (hi : acc[i]? = some p) (hk : acc[k]? = some q) (hm : meetL q p ∈ acc) : Prs acc i (k + 1) := by
  intro a b p' q' hp hq h1 h2
  by_cases e : a = i ∧ b = k
  · obtain ⟨rfl, rfl⟩ := e
    rw [hi] at hp
    rw [hk] at hq
    injection hp with hp
    injection hq with hq
    subst hp
    subst hq
    exact hm
  · exact h a b p' q' hp hq h1 (by omega)
theorem Prs.app {acc : List (List Int)} {i k : Nat} {r : List Int} (h : Prs acc i k) (hi : i < acc.length) : Prs (acc ++ [r]) i k := by
  intro a b p q hp hq h1 h2
  rw [List.getElem?_append_left (by omega)] at hp
  rw [List.getElem?_append_left (by omega)] at hq
  exact List.mem_append_left _ (h a b p q hp hq h1 h2)
/-! ## The walk -/
theorem keepS {w w' : World} (h : Below w.heap.size w w') {b k : Nat} {v : Value} (hc : w.cell? ⟨b, k, none⟩ = some v) : w'.cell? ⟨b, k, none⟩ = some v := (World.cell?_of_block (w := w) (h.block b (cell_lt hc))).trans hc
end Go.Proofs.YtkmgbdljiajlaaaGreat
namespace Go.Proofs.YtkmgbdljiajlaaaGreat
open Go.RowKit

/-- The first k elements of the set are each outside the closure of the others. -/
def freeTo (S : List (List Int)) (xs : List Int) : Nat → Bool
  | 0 => true
  | k + 1 => freeTo S xs k && !(hasI (xs.getD k 0) (closeL (xs.take k ++ xs.drop (k + 1)) S))
def freeB (S : List (List Int)) (xs : List Int) : Bool := freeTo S xs xs.length
theorem freeTo_no {S : List (List Int)} {xs : List Int} : ∀ {k j : Nat}, j ≤ k → freeTo S xs j = false → freeTo S xs k = false
  | 0, j, h, e => by
    obtain rfl : j = 0 := by omega
    exact e
  | k + 1, j, h, e => by
    by_cases hj : j = k + 1
    · subst hj; exact e
    · rw [freeTo, freeTo_no (k := k) (by omega) e, Bool.false_and]
theorem rdl_bd {w : World} {A : Option Addr} {n : Nat} {xs : List Int} (h : RdL RI w A n xs) : ∀ x ∈ xs, -9223372036854775808 ≤ x ∧ x ≤ 9223372036854775807 := fun x hx => by
  obtain ⟨k, hk⟩ := List.getElem?_of_mem hx
  obtain ⟨b, o, v, e, hc, hr⟩ := h.2.2 k x hk
  exact hr.2
theorem rdl_bd2 {w : World} {A : Option Addr} {n : Nat} {S : List (List Int)} (h : RdL (RV RI) w A n S) : ∀ xs ∈ S, ∀ x ∈ xs, -9223372036854775808 ≤ x ∧ x ≤ 9223372036854775807 := fun xs hx => by
  obtain ⟨k, hk⟩ := List.getElem?_of_mem hx
  obtain ⟨b, o, v, e, hc, B, m, c, -, hr⟩ := h.2.2 k xs hk
  exact rdl_bd hr
set_option maxHeartbeats 4000000 in
theorem isFree_any (A : Option Addr) (b o n m c d : Nat) (S : List (List Int)) (xs : List Int) (w : World) (h : RdL (RV RI) w A m S) (h' : RdL RI w (some ⟨b, o, none⟩) n xs) (hS : ∀ s ∈ S, s.length ≤ 1048576) (hnc : n ≤ c) (hn : n ≤ 1048576) :
    Calls Tryz.prog 49 #[.slice A m d, .slice (some ⟨b, o, none⟩) n c] w (Bl w (.bool (freeB S xs))) := by
  have hl : xs.length = n := h'.1
  have HL := Lib.hid hl
  have HB1 := Lib.hid (rdl_bd h')
  have HB2 := Lib.hid (rdl_bd2 h)
  clear hl
  go_enter Tryz.func49, Tryz.ntmps49
  go_wp2_with fail
  go_loopw [9] (fun i wr => ∃ k : Nat, k ≤ n ∧ i = .int .i64 k ∧ Hid (freeTo S xs k = true) ∧ Below w.heap.size w wr) (fun i _ => n - (intOf i).toNat)
  case atStart => exact ⟨0, Nat.zero_le _, by go_num, rfl, Below.refl _ _⟩
  case round =>
    obtain ⟨k, hk, rfl, HF, hT⟩ := hrel
    by_cases hlt : k < n
    · have hk0 : (0 : Int) ≤ (k : Int) := by omega
      have hk1 : (k : Int) < (n : Int) := by omega
      have hx : xs[k]? = some (xs.getD k 0) := by
        have := HL.out
        rw [List.getElem?_eq_getElem (by omega)]
        simp [List.getD, List.getElem?_eq_getElem (show k < xs.length by omega)]
      obtain ⟨x, HX⟩ : ∃ x, Hid (xs.getD k 0 = x) := ⟨_, rfl⟩
      rw [HX.out] at hx
      obtain ⟨b', o', v, e, hc, hr⟩ := h'.2.2 k x hx
      simp only [Option.some.injEq, Addr.mk.injEq, and_true] at e
      obtain ⟨rfl, rfl⟩ := e
      obtain ⟨rfl, hxr⟩ := hr
      have cx : wr.cell? ⟨b, o + k, none⟩ = some (.int .i64 x) := (hT.cell (cell_lt hc)).trans hc
      have HS : Hid (freeTo S xs (k + 1) = !(hasI x (closeL (xs.take k ++ xs.drop (k + 1)) S))) := by show _ = _; rw [freeTo, HF.out, HX.out, Bool.true_and]
      obtain ⟨cl, HC⟩ : ∃ cl, Hid (closeL (xs.take k ++ xs.drop (k + 1)) S = cl) := ⟨_, rfl⟩
      rw [HC.out] at HS
      obtain ⟨r, HR⟩ : ∃ r, Hid (hasI x cl = r) := ⟨_, rfl⟩
      rw [HR.out] at HS
      have hS' := h.next stab_RVI hT
      have hx' := h'.next stab_RI hT
      clear hx hc hxr
      rcases r with _ | _
      · go_wp2_with (first
          | (go_at_call 34; refine (without_any b o n c k xs _ hx' hlt hnc hn).mono ?_; rintro e w1 ⟨A1, n1, c1, rfl, hown1, hb1⟩; have T1 := below_next hT hb1 rfl)
          | (go_at_call 47; refine (closureIn_any _ _ _ _ _ _ S (xs.take k ++ xs.drop (k + 1)) _ (h.next stab_RVI T1) (rd_of_own (R := RI) hown1 (RI_ints fun y hy => HB1.out y ((List.mem_append.1 hy).elim List.mem_of_mem_take List.mem_of_mem_drop))) hS).mono ?_; rintro e w2 ⟨A2, n2, c2, rfl, hown2, hb2⟩; rw [HC.out] at hown2; have T2 := below_next T1 hb2 rfl)
          | (go_at_call 32; refine (hasNot_any _ _ _ cl x _ (rd_of_own (R := RI) hown2 (RI_ints fun y hy => by rw [← HC.out] at hy; exact closeL_bounds HB2.out y hy))).mono ?_; rintro e w3 ⟨rfl, rfl⟩; rw [HR.out]))
        go_roundw
        case rel => exact ⟨k + 1, by omega, by go_num, HS.out, T2⟩
        case measure => simp [intOf]; omega
      · go_wp2_with (first
          | (go_at_call 34; refine (without_any b o n c k xs _ hx' hlt hnc hn).mono ?_; rintro e w1 ⟨A1, n1, c1, rfl, hown1, hb1⟩; have T1 := below_next hT hb1 rfl)
          | (go_at_call 47; refine (closureIn_any _ _ _ _ _ _ S (xs.take k ++ xs.drop (k + 1)) _ (h.next stab_RVI T1) (rd_of_own (R := RI) hown1 (RI_ints fun y hy => HB1.out y ((List.mem_append.1 hy).elim List.mem_of_mem_take List.mem_of_mem_drop))) hS).mono ?_; rintro e w2 ⟨A2, n2, c2, rfl, hown2, hb2⟩; rw [HC.out] at hown2; have T2 := below_next T1 hb2 rfl)
          | (go_at_call 32; refine (hasNot_any _ _ _ cl x _ (rd_of_own (R := RI) hown2 (RI_ints fun y hy => by rw [← HC.out] at hy; exact closeL_bounds HB2.out y hy))).mono ?_; rintro e w3 ⟨rfl, rfl⟩; rw [HR.out]))
        go_ret
        exact ⟨by rw [freeB, HL.out, freeTo_no (j := k + 1) (by omega) HS.out]; rfl, T2⟩
    · obtain rfl : k = n := by omega
      have hk1 : ¬ (k : Int) < (k : Int) := by omega
      go_wp2_with fail
      go_ret
      exact ⟨by rw [freeB, HL.out, HF.out]; rfl, hT⟩
end Go.Proofs.YtkmgbdljiajlaaaGreat
namespace Go.Proofs.YtkmgbdljiajlaaaGreat
open Go.RowKit

theorem bits_bd : ∀ m, m < 64 → ∀ x ∈ bitsTo m 6, 0 ≤ x ∧ x ≤ 5 := by decide +kernel
/-- The free sets among the first m masks, in the order of the masks. -/
def frees (S : List (List Int)) : Nat → List (List Int)
  | 0 => []
  | m + 1 => frees S m ++ (if freeB S (bitsTo m 6) then [bitsTo m 6] else [])
theorem frees_len (S : List (List Int)) : ∀ m, (frees S m).length ≤ m
  | 0 => Nat.le_refl _
  | m + 1 => by
    have := frees_len S m
    rw [frees, List.length_append]
    split
    · simp; omega
    · simp; omega
theorem frees_bd (S : List (List Int)) : ∀ m, m ≤ 64 → ∀ xs ∈ frees S m, ∀ x ∈ xs, ∀ wz : World, RI wz (.int .i64 x) x
  | 0, _, xs, h, x, hx, wz => by simp [frees] at h
  | m + 1, hm, xs, h, x, hx, wz => by
    rw [frees, List.mem_append] at h
    rcases h with h | h
    · exact frees_bd S m (by omega) xs h x hx wz
    · split at h
      · rw [List.mem_singleton.1 h] at hx
        have := bits_bd m (by omega) x hx
        exact ⟨rfl, by omega, by omega⟩
      · simp at h
set_option maxHeartbeats 1000000 in
theorem isFree_own (A B : Option Addr) (n m c d base : Nat) (S : List (List Int)) (xs : List Int) (w : World) (h : RdL (RV RI) w A m S) (hS : ∀ s ∈ S, s.length ≤ 1048576) (hn : n ≤ 1048576)
    (hown : w.ownsRow base 3 1 (.slice B n c) n (ints xs)) (hb : ∀ x ∈ xs, -9223372036854775808 ≤ x ∧ x ≤ 9223372036854775807) :
    Calls Tryz.prog 49 #[.slice A m d, .slice B n c] w (Bl w (.bool (freeB S xs))) := by
  have hr := rd_of_own (R := RI) hown (RI_ints hb)
  rcases hown.2 with ⟨e, h0⟩ | ⟨g, cap, cur, e, -, -, h1, -⟩
  · subst h0
    obtain rfl : xs = [] := List.eq_nil_of_length_eq_zero hr.1
    clear hown hr hb
    injection e with e1 _ e3
    subst e1
    subst e3
    go_enter Tryz.func49, Tryz.ntmps49
    go_wp2_with fail
    go_loopw [9] (fun i wr => i = .int .i64 0 ∧ Below w.heap.size w wr) (fun _ _ => 0)
    case atStart => exact ⟨rfl, Below.refl _ _⟩
    case round =>
      obtain ⟨rfl, hT⟩ := hrel
      go_wp2_with fail
      go_ret
      exact ⟨rfl, hT⟩
  · injection e with e1 _ e3
    subst e1
    subst e3
    exact isFree_any A g 0 n m c d S xs w h hr hS h1 hn
set_option maxRecDepth 100000 in
set_option maxHeartbeats 4000000 in
theorem implFS_yes (A : Option Addr) (m c n : Nat) (S : List (List Int)) (w : World) (h : RdL (RV RI) w A m S) (hm : m ≤ c) (hS : ∀ s ∈ S, s.length ≤ 1048576) (hn6 : n ≤ 6) (hok : Hid (sysRes (n : Int) S = true)) :
    Calls Tryz.prog 17 #[.int .i64 n, .slice A m c] w fun e w' => ∃ A' q c' yss, e = .returned (.tuple #[.slice A' q c', .bool true]) ∧ OwM 27 3 (.int .i64) w.heap.size w' (.slice A' q c') q yss ∧ yss.Perm (frees S (2 ^ n)) ∧ yss.Pairwise (fun p r => lessT r p = false) ∧ Below w.heap.size w w' := by
  obtain ⟨N, HN⟩ : ∃ N : Nat, Hid (2 ^ n = N) := ⟨_, rfl⟩
  have hN : N ≤ 64 := by rw [← HN.out]; exact Nat.le_trans (Nat.pow_le_pow_right (by decide) hn6) (by decide)
  have HC := Lib.hid (hasSystem_any A m c S n w h hm hS)
  rw [HN.out]
  go_enter Tryz.func17, Tryz.ntmps17
  go_wp2_with (go_at_call 45; refine HC.out.mono ?_; rintro e w1 ⟨rfl, hb1⟩; rw [hok.out])
  go_loopw [6, 7] (fun v j wr => ∃ k : Nat, k ≤ N ∧ j = .int .i64 k ∧ (∃ A' c', v = .slice A' (frees S k).length c' ∧ OwM 27 3 (.int .i64) w.heap.size wr (.slice A' (frees S k).length c') (frees S k).length (frees S k)) ∧ Below w.heap.size w wr) (fun _ j _ => N - (intOf j).toNat)
  case atStart => exact ⟨0, Nat.zero_le _, rfl, ⟨_, 0, rfl, mat_lit hb1⟩, below_next hb1 (below_box _ _) rfl⟩
  case round =>
    clear hb1
    obtain ⟨k, hk, rfl, ⟨A', c', rfl, hown⟩, hT⟩ := hrel
    have hpw : (1 : Int) * 2 ^ n = (N : Int) := by rw [← HN.out]; simp
    have hpw2 : (2 : Int) ^ n = (N : Int) := by rw [← HN.out]; simp
    have hfl := frees_len S k
    by_cases hlt : k < N
    · have hk1 : (k : Int) < (N : Int) := by omega
      have HST : Hid (frees S (k + 1) = frees S k ++ (if freeB S (bitsTo k 6) then [bitsTo k 6] else [])) := rfl
      have hbl := bits_len k (by omega) 6 (by omega)
      have HBB : Hid (∀ x ∈ bitsTo k 6, -9223372036854775808 ≤ x ∧ x ≤ 9223372036854775807) := fun x hx => by
        have := bits_bd k (by omega) x hx
        omega
      obtain ⟨acc, HA⟩ : ∃ acc, Hid (frees S k = acc) := ⟨_, rfl⟩
      obtain ⟨xs, HX⟩ : ∃ xs, Hid (bitsTo k 6 = xs) := ⟨_, rfl⟩
      rw [HA.out] at hown hfl HST ⊢
      rw [HX.out] at hbl HBB HST
      have HB1 := bitsOf_any k wr (by omega)
      rw [HX.out] at HB1
      have HB := Lib.hid HB1
      clear HB1
      have hT2 := hT.size
      go_upto_region 8 with (go_at_call 48; refine HB.out.mono ?_; rintro e w4 ⟨A4, c4, rfl, how4, hb4⟩)
      have hT4 := below_next hT hb4 rfl
      have hsz4 := hT4.size
      obtain ⟨r, HR⟩ : ∃ r, Hid (freeB S xs = r) := ⟨_, rfl⟩
      have HF := Lib.hid (isFree_own A A4 xs.length m c4 c wr.heap.size S xs w4 (h.next stab_RVI hT4) hS (by omega) how4 HBB.out)
      rw [HR.out] at HST
      rcases r with _ | _
      · have HS2 : Hid (frees S (k + 1) = acc) := by show _ = _; rw [HST.out]; simp
        have hown4 := hown.next hb4
        go_wp2_with (go_at_call 49; refine HF.out.mono ?_; rintro e w5 ⟨rfl, hb5⟩; rw [HR.out])
        go_roundw
        case rel => exact ⟨k + 1, by omega, by go_num, ⟨A', c', by rw [HS2.out], by rw [HS2.out]; exact hown4.next hb5⟩, below_next hT4 hb5 rfl⟩
        case measure => simp [intOf]; omega
      · have HS2 : Hid (frees S (k + 1) = acc ++ [xs]) := by show _ = _; rw [HST.out]; simp
        go_upto_region 9 with (go_at_call 49; refine HF.out.mono ?_; rintro e w5 ⟨rfl, hb5⟩; rw [HR.out])
        have hb45 := below_next hb4 hb5 rfl
        obtain ⟨vs, hvs, HPU⟩ := hown.push (by decide) hb45 hT2 (own_next how4 hb5)
        have hT5 := below_next hT4 hb5 rfl
        have hsz5 := hT5.size
        go_wp2_with (at_builtin; refine app1 w5 rfl _ _ 32 27 rfl (.slice none 0 0) 24 Tryz.underlying32 info_ints rfl (by decide) w.heap.size acc.length c' A' vs rfl hvs (.slice A4 xs.length c4) rfl rfl (by omega) hsz5 ?_; intro A2 c2 w6 hown6 hg6 hb6)
        go_roundw
        case rel => exact ⟨k + 1, by omega, by go_num, ⟨A2, c2, by rw [HS2.out, List.length_append]; rfl, by rw [HS2.out, List.length_append]; exact HPU hown6 hg6⟩, hT5.trans hb6⟩
        case measure => simp [intOf]; omega
    · obtain rfl : k = N := by omega
      have hk1 : ¬ (k : Int) < (k : Int) := by omega
      have HBD := Lib.hid (frees_bd S k hN)
      go_wp2_with (go_at_call 50; refine (sortRows_any w.heap.size A' c' (frees S k).length (frees S k) wr hown hT.size HBD.out (by omega)).mono ?_; rintro e w5 ⟨rfl, yss, hM, hP, hW, hb5⟩)
      go_ret2
      exact ⟨_, _, _, yss, rfl, hM, hP, hW, hT.trans hb5⟩
end Go.Proofs.YtkmgbdljiajlaaaGreat
namespace Go.Proofs.YtkmgbdljiajlaaaGreat
open Go.RowKit

theorem bits_less : ∀ k, k < 64 → ∀ i, i < (bitsTo k 6).length → bitsTo (k - 2 ^ ((bitsTo k 6).getD i 0).toNat) 6 = (bitsTo k 6).take i ++ (bitsTo k 6).drop (i + 1) := by decide +kernel
theorem bits_andNot : ∀ k : Nat, k < 64 → ∀ i, i < (bitsTo k 6).length → bits .andNot .i64 (k : Int) (2 ^ ((bitsTo k 6).getD i 0).toNat) = ((k - 2 ^ ((bitsTo k 6).getD i 0).toNat : Nat) : Int) := by decide +kernel
theorem frees_mem {S : List (List Int)} : ∀ {k : Nat}, k ≤ 64 → ∀ x ∈ frees S k, ∃ j, j < k ∧ x = bitsTo j 6
  | 0, _, x, hx => by simp [frees] at hx
  | k + 1, hk, x, hx => by
    rw [frees, List.mem_append] at hx
    rcases hx with hx | hx
    · obtain ⟨j, h1, h2⟩ := frees_mem (by omega) x hx
      exact ⟨j, by omega, h2⟩
    · split at hx
      · exact ⟨k, by omega, List.mem_singleton.1 hx⟩
      · simp at hx
theorem bits_inj : ∀ a, a < 64 → ∀ b, b < 64 → bitsTo a 6 = bitsTo b 6 → a = b := by decide +kernel
/-- The reference's list: each free set put in its place. -/
def frI (S : List (List Int)) : Nat → List (List Int)
  | 0 => []
  | m + 1 => if freeB S (bitsTo m 6) then insT (bitsTo m 6) (frI S m) else frI S m
theorem frI_mem {S : List (List Int)} : ∀ (m : Nat) (p : List Int), p ∈ frI S m ↔ p ∈ frees S m
  | 0, p => by simp [frI, frees]
  | m + 1, p => by
    rw [frI, frees]
    split
    · rw [mem_insT, frI_mem m p, List.mem_append, List.mem_singleton]
      exact Or.comm
    · rw [frI_mem m p, List.append_nil]
theorem frI_srt {S : List (List Int)} : ∀ m, m ≤ 64 → Srt (frI S m)
  | 0, _ => List.Pairwise.nil
  | m + 1, hm => by
    have ih := frI_srt (S := S) m (by omega)
    rw [frI]
    split
    · refine ih.insT fun h => ?_
      obtain ⟨j, h1, h2⟩ := frees_mem (by omega) _ ((frI_mem m _).1 h)
      have := bits_inj m (by omega) j (by omega) h2
      omega
    · exact ih
theorem frees_nodup (S : List (List Int)) : ∀ m, m ≤ 64 → (frees S m).Nodup
  | 0, _ => List.nodup_nil
  | m + 1, hm => by
    have inj : ∀ a, a < 64 → ∀ b, b < 64 → bitsTo a 6 = bitsTo b 6 → a = b := by decide +kernel
    have mem : ∀ k, k ≤ 64 → ∀ x ∈ frees S k, ∃ j, j < k ∧ x = bitsTo j 6 := fun k => by
      induction k with
      | zero => intro _ x hx; simp [frees] at hx
      | succ k ih =>
        intro hk x hx
        rw [frees, List.mem_append] at hx
        rcases hx with hx | hx
        · obtain ⟨j, h1, h2⟩ := ih (by omega) x hx
          exact ⟨j, by omega, h2⟩
        · split at hx
          · exact ⟨k, by omega, List.mem_singleton.1 hx⟩
          · simp at hx
    rw [frees, List.nodup_append]
    refine ⟨frees_nodup S m (by omega), ?_, fun a ha b hb e => ?_⟩
    · split <;> simp
    · split at hb
      · rw [List.mem_singleton.1 hb] at e
        obtain ⟨j, h1, h2⟩ := mem m (by omega) a ha
        have := inj j (by omega) m (by omega) (by rw [← h2, e])
        omega
      · simp at hb
/-- A sorted list of the free sets is the reference's. -/
theorem fr_fin {S yss : List (List Int)} {m : Nat} (hm : m ≤ 64) (hp : yss.Perm (frees S m)) (hs : yss.Pairwise fun p r => lessT r p = false) : yss = frI S m := by
  have hnd : yss.Nodup := hp.nodup_iff.2 (frees_nodup S m hm)
  have hsrt : Srt yss := by
    refine (hs.and hnd).imp ?_
    intro a b hab
    rcases lessT_total a b with e | e | e
    · exact absurd e hab.2
    · exact e
    · rw [hab.1] at e; cases e
  exact Srt.ext hsrt (frI_srt m hm) fun p => by rw [hp.mem_iff, frI_mem]
/-- FreeSets' answer. -/
def fsRes (n : Int) (S : List (List Int)) : List (List Int) := if sysRes n S then frI S (2 ^ n.toNat) else []
set_option maxHeartbeats 4000000 in
theorem implFS_any (A : Option Addr) (m c : Nat) (n : Int) (S : List (List Int)) (w : World) (h : RdL (RV RI) w A m S) (hm : m ≤ c) (hS : ∀ s ∈ S, s.length ≤ 1048576) :
    Calls Tryz.prog 17 #[.int .i64 n, .slice A m c] w (OwnMB w (fsRes n S) (sysRes n S)) := by
  rcases h1 : sysRes n S with _ | _
  · have HC := Lib.hid (hasSystem_any A m c S n w h hm hS)
    have HR := Lib.hid h1
    have HF : Hid (fsRes n S = []) := by show _ = _; unfold fsRes; rw [h1]; rfl
    clear h1
    go_enter Tryz.func17, Tryz.ntmps17
    go_wp2_with (go_at_call 45; refine HC.out.mono ?_; rintro e w1 ⟨rfl, hb1⟩; rw [HR.out])
    go_ret2
    exact ⟨_, 0, 0, rfl, by rw [HF.out]; exact mat_lit hb1, below_next hb1 (below_box _ _) rfl⟩
  · have hr : inB n 0 6 = true := by
      cases e : inB n 0 6 with
      | true => rfl
      | false => unfold sysRes at h1; rw [e] at h1; simp at h1
    have hr2 : 0 ≤ n ∧ n ≤ 6 := by unfold inB at hr; simpa using hr
    obtain ⟨k, rfl⟩ := Int.eq_ofNat_of_zero_le hr2.1
    refine (implFS_yes A m c k S w h hm hS (by omega) h1).mono ?_
    rintro e w' ⟨A', q, c', yss, rfl, hM, hP, hW, hb⟩
    have e : yss = fsRes (k : Int) S := by
      unfold fsRes
      rw [h1, if_pos rfl, Int.toNat_natCast]
      exact fr_fin (Nat.le_trans (Nat.pow_le_pow_right (by decide) (by omega : k ≤ 6)) (by decide)) hP hW
    rw [e] at hM
    exact ⟨A', q, c', rfl, hM, hb⟩
end Go.Proofs.YtkmgbdljiajlaaaGreat
namespace Go.Proofs.YtkmgbdljiajlaaaGreat
open Go.RowKit

theorem bits8_bd : ∀ m, m < 256 → ∀ x ∈ bitsTo m 8, 0 ≤ x ∧ x ≤ 7 := by decide +kernel
def valB : List Int → Nat
  | [] => 0
  | x :: l => 2 ^ x.toNat + valB l
theorem bits8_val : ∀ m, m < 256 → valB (bitsTo m 8) = m := by decide +kernel
theorem bits8_inj {a b : Nat} (ha : a < 256) (hb : b < 256) (h : bitsTo a 8 = bitsTo b 8) : a = b := by rw [← bits8_val a ha, ← bits8_val b hb, h]
theorem insT_lenP (p : List Int) (xss : List (List Int)) : (insT p xss).length = xss.length + 1 := by
  rw [insT, List.length_append, List.length_cons, List.length_take, List.length_drop]
  omega
variable {P : List Int → Bool}
/-- The sets with the property among the first m masks. -/
def selA (P : List Int → Bool) : Nat → List (List Int)
  | 0 => []
  | m + 1 => selA P m ++ (if P (bitsTo m 8) then [bitsTo m 8] else [])
/-- The same, each put in its place. -/
def insA (P : List Int → Bool) : Nat → List (List Int)
  | 0 => []
  | m + 1 => if P (bitsTo m 8) then insT (bitsTo m 8) (insA P m) else insA P m
theorem selA_len (P : List Int → Bool) : ∀ m, (selA P m).length ≤ m
  | 0 => Nat.le_refl _
  | m + 1 => by
    have := selA_len P m
    rw [selA, List.length_append]
    split
    · simp; omega
    · simp; omega
theorem selA_mem : ∀ {k : Nat}, k ≤ 256 → ∀ x, x ∈ selA P k ↔ ∃ j, j < k ∧ x = bitsTo j 8 ∧ P x = true
  | 0, _, x => by simp [selA]
  | k + 1, hk, x => by
    rw [selA, List.mem_append, selA_mem (by omega)]
    constructor
    · rintro (⟨j, h1, h2, h3⟩ | h)
      · exact ⟨j, by omega, h2, h3⟩
      · split at h
        · rename_i hp
          rw [List.mem_singleton.1 h]
          exact ⟨k, by omega, rfl, hp⟩
        · simp at h
    · rintro ⟨j, h1, h2, h3⟩
      by_cases e : j = k
      · subst e
        right
        rw [← h2, if_pos h3]
        simp
      · exact .inl ⟨j, by omega, h2, h3⟩
theorem selA_bd (P : List Int → Bool) {m : Nat} (hm : m ≤ 256) : ∀ xs ∈ selA P m, ∀ x ∈ xs, ∀ wz : World, RI wz (.int .i64 x) x := fun xs h x hx wz => by
  obtain ⟨j, h1, rfl, -⟩ := (selA_mem hm xs).1 h
  have := bits8_bd j (by omega) x hx
  exact ⟨rfl, by omega, by omega⟩
theorem insA_mem : ∀ (m : Nat) (p : List Int), p ∈ insA P m ↔ p ∈ selA P m
  | 0, p => by simp [insA, selA]
  | m + 1, p => by
    rw [insA, selA]
    split
    · rw [mem_insT, insA_mem m p, List.mem_append, List.mem_singleton]
      exact Or.comm
    · rw [insA_mem m p, List.append_nil]
theorem insA_len (P : List Int → Bool) : ∀ m, (insA P m).length ≤ m
  | 0 => Nat.le_refl _
  | m + 1 => by
    have := insA_len P m
    rw [insA]
    split
    · rw [insT_lenP]; omega
    · omega
theorem insA_srt : ∀ m, m ≤ 256 → Srt (insA P m)
  | 0, _ => List.Pairwise.nil
  | m + 1, hm => by
    have ih := insA_srt m (by omega)
    rw [insA]
    split
    · refine ih.insT fun h => ?_
      obtain ⟨j, h1, h2, -⟩ := (selA_mem (by omega) _).1 ((insA_mem m _).1 h)
      have := bits8_inj (by omega) (by omega) h2
      omega
    · exact ih
theorem selA_nodup (P : List Int → Bool) : ∀ m, m ≤ 256 → (selA P m).Nodup
  | 0, _ => List.nodup_nil
  | m + 1, hm => by
    rw [selA, List.nodup_append]
    refine ⟨selA_nodup P m (by omega), ?_, fun a ha b hb e => ?_⟩
    · split <;> simp
    · split at hb
      · rw [List.mem_singleton.1 hb] at e
        obtain ⟨j, h1, h2, -⟩ := (selA_mem (by omega) a).1 ha
        have := bits8_inj (by omega) (by omega) (h2.symm.trans e)
        omega
      · simp at hb
/-- A sorted list of the sets is the one that is put in order. -/
theorem sel_fin {yss : List (List Int)} {m : Nat} (hm : m ≤ 256) (hp : yss.Perm (selA P m)) (hs : yss.Pairwise fun p r => lessT r p = false) : yss = insA P m := by
  have hnd : yss.Nodup := hp.nodup_iff.2 (selA_nodup P m hm)
  have hsrt : Srt yss := by
    refine (hs.and hnd).imp ?_
    intro a b hab
    rcases lessT_total a b with e | e | e
    · exact absurd e hab.2
    · exact e
    · rw [hab.1] at e; cases e
  exact Srt.ext hsrt (insA_srt m hm) fun p => by rw [hp.mem_iff, insA_mem]
end Go.Proofs.YtkmgbdljiajlaaaGreat
namespace Go.Proofs.YtkmgbdljiajlaaaGreat
open Go.RowKit

/-- A row of elements of m cells each reads as a list. -/
def RdN {α : Type} (m : Nat) (R : World → List Value → α → Prop) (w : World) (A : Option Addr) (n : Nat) (xs : List α) : Prop :=
  xs.length = n ∧ n ≤ maxLen ∧ ∀ k x, xs[k]? = some x → ∃ b o vs, A = some ⟨b, o, none⟩ ∧ vs.length = m ∧ (∀ i v, vs[i]? = some v → w.cell? ⟨b, o + k * m + i, none⟩ = some v) ∧ R w vs x
def Same (w w' : World) : Prop := ∀ b, b < w.heap.size → w'.heap[b]? = w.heap[b]?
structure Sh (α : Type) where
  m : Nat
  rd : World → List Value → α → Prop
  own : World → List Value → α → List Nat → Prop
  cnt : α → Nat
  rd_len : ∀ {w : World} {cs : List Value} {x : α}, rd w cs x → cs.length = m
  stab : ∀ {w w' : World} {cs : List Value} {x : α}, rd w cs x → Same w w' → rd w' cs x
  ord : ∀ {w : World} {cs : List Value} {x : α} {bl : List Nat}, own w cs x bl → rd w cs x
  olt : ∀ {w : World} {cs : List Value} {x : α} {bl : List Nat}, own w cs x bl → ∀ b ∈ bl, b < w.heap.size
  osame : ∀ {w w' : World} {cs : List Value} {x : α} {bl : List Nat}, own w cs x bl → (∀ b ∈ bl, w'.heap[b]? = w.heap[b]?) → own w' cs x bl

def Sh.int : Sh Int where
  m := 1
  rd := fun w cs x => ∃ v, cs = [v] ∧ RI w v x
  own := fun w cs x bl => ∃ v, cs = [v] ∧ RI w v x ∧ bl = []
  cnt := fun _ => 0
  rd_len := fun ⟨_, e, _⟩ => by rw [e]; rfl
  stab := fun ⟨v, e, h⟩ _ => ⟨v, e, h⟩
  ord := fun ⟨v, e, h, _⟩ => ⟨v, e, h⟩
  olt := fun ⟨_, _, _, e⟩ b hb => by rw [e] at hb; simp at hb
  osame := fun ⟨v, e, h, e'⟩ _ => ⟨v, e, h, e'⟩
def Sh.bool : Sh Bool where
  m := 1
  rd := fun w cs x => ∃ v, cs = [v] ∧ RB w v x
  own := fun w cs x bl => ∃ v, cs = [v] ∧ RB w v x ∧ bl = []
  cnt := fun _ => 0
  rd_len := fun ⟨_, e, _⟩ => by rw [e]; rfl
  stab := fun ⟨v, e, h⟩ _ => ⟨v, e, h⟩
  ord := fun ⟨v, e, h, _⟩ => ⟨v, e, h⟩
  olt := fun ⟨_, _, _, e⟩ b hb => by rw [e] at hb; simp at hb
  osame := fun ⟨v, e, h, e'⟩ _ => ⟨v, e, h, e'⟩
def Sh.pair {α β : Type} (A : Sh α) (B : Sh β) : Sh (α × β) where
  m := A.m + B.m
  rd := fun w cs p => ∃ c1 c2, cs = c1 ++ c2 ∧ A.rd w c1 p.1 ∧ B.rd w c2 p.2
  own := fun w cs p bl => ∃ c1 c2 b1 b2, cs = c1 ++ c2 ∧ bl = b1 ++ b2 ∧ A.own w c1 p.1 b1 ∧ B.own w c2 p.2 b2
  cnt := fun p => A.cnt p.1 + B.cnt p.2
  rd_len := fun ⟨c1, c2, e, h1, h2⟩ => by rw [e, List.length_append, A.rd_len h1, B.rd_len h2]
  stab := fun ⟨c1, c2, e, h1, h2⟩ hs => ⟨c1, c2, e, A.stab h1 hs, B.stab h2 hs⟩
  ord := fun ⟨c1, c2, b1, b2, e, e', h1, h2⟩ => ⟨c1, c2, e, A.ord h1, B.ord h2⟩
  olt := fun ⟨c1, c2, b1, b2, e, e', h1, h2⟩ b hb => by
    rw [e', List.mem_append] at hb
    exact hb.elim (A.olt h1 b) (B.olt h2 b)
  osame := fun ⟨c1, c2, b1, b2, e, e', h1, h2⟩ hs => ⟨c1, c2, b1, b2, e, e', A.osame h1 fun b hb => hs b (by rw [e']; exact List.mem_append_left _ hb), B.osame h2 fun b hb => hs b (by rw [e']; exact List.mem_append_right _ hb)⟩

def InR (x : Int) : Prop := -9223372036854775808 ≤ x ∧ x ≤ 9223372036854775807
def obl (v : Value) : List Nat := v.ownBlock.toList
theorem mem_obl {v : Value} {b : Nat} : b ∈ obl v ↔ v.ownBlock = some b := by unfold obl; simp
/-- []int: E is the type of its elements. -/
def Sh.il (E : TypeId) : Sh (List Int) where
  m := 1
  rd := fun w cs xs => ∃ v, cs = [v] ∧ RV RI w v xs
  own := fun w cs xs bl => ∃ v, cs = [v] ∧ w.ownsRow 0 E 1 v xs.length (ints xs) ∧ (∀ x ∈ xs, InR x) ∧ bl = obl v
  cnt := fun xs => xs.length
  rd_len := fun ⟨_, e, _⟩ => by rw [e]; rfl
  stab := fun ⟨v, e, h⟩ hs => ⟨v, e, stab_RV stab_RI _ _ _ _ hs h⟩
  ord := fun {w} {cs} {xs} {bl} ⟨v, e, h, hx, _⟩ => by
    obtain ⟨A, c, rfl⟩ := own_slice h
    exact ⟨_, e, A, xs.length, c, rfl, rd_of_own h (RI_ints hx)⟩
  olt := fun ⟨v, _, h, _, e⟩ b hb => by rw [e, mem_obl] at hb; exact (h.lt b hb).2
  osame := fun ⟨v, e, h, hx, e'⟩ hs => ⟨v, e, own_same h fun b hb => hs b (by rw [e', mem_obl]; exact hb), hx, e'⟩

theorem flat_get : ∀ {css : List (List Value)} {m : Nat}, (∀ c ∈ css, c.length = m) → ∀ (k i : Nat), i < m → css.flatten[k * m + i]? = (css[k]?).bind fun c => c[i]?
  | [], m, _, k, i, _ => by simp
  | c :: l, m, h, 0, i, hi => by
    have hc := h c (List.mem_cons_self ..)
    rw [List.flatten_cons, Nat.zero_mul, Nat.zero_add, List.getElem?_append_left (by omega)]
    rfl
  | c :: l, m, h, k + 1, i, hi => by
    have hc := h c (List.mem_cons_self ..)
    have ih := flat_get (fun c' hc' => h c' (List.mem_cons_of_mem _ hc')) k i hi (css := l)
    have e : (k + 1) * m + i = m + (k * m + i) := by rw [Nat.succ_mul]; omega
    rw [List.flatten_cons, List.getElem?_append_right (by omega), hc, e, Nat.add_sub_cancel_left, ih]
    rfl
theorem flat_len : ∀ {css : List (List Value)} {m : Nat}, (∀ c ∈ css, c.length = m) → css.flatten.length = css.length * m
  | [], m, _ => by simp
  | c :: l, m, h => by
    rw [List.flatten_cons, List.length_append, h c (List.mem_cons_self ..), flat_len fun c' hc' => h c' (List.mem_cons_of_mem _ hc'), List.length_cons, Nat.succ_mul]
    omega
/-- A slice of structs of the call's own, its elements' cells and blocks by name. -/
structure Parts {α : Type} (A : Sh α) (E : TypeId) (w : World) (v : Value) (xs : List α) (css : List (List Value)) (bls : List (List Nat)) : Prop where
  row : w.ownsRow 0 E A.m v xs.length css.flatten
  l1 : css.length = xs.length
  l2 : bls.length = xs.length
  el : ∀ (k : Nat) c x bk, css[k]? = some c → xs[k]? = some x → bls[k]? = some bk → A.own w c x bk
section
variable {α : Type} {A : Sh α} {E : TypeId} {w w' : World} {v : Value} {xs : List α} {css : List (List Value)} {bls : List (List Nat)}
theorem Parts.all (h : Parts A E w v xs css bls) : ∀ c ∈ css, c.length = A.m := by
  intro c hc
  obtain ⟨k, hk⟩ := List.getElem?_of_mem hc
  have hkl := (List.getElem?_eq_some_iff.1 hk).1
  have h1 := h.l1
  have h2 := h.l2
  exact A.rd_len (A.ord (h.el k c _ _ hk (List.getElem?_eq_getElem (by omega)) (List.getElem?_eq_getElem (by omega))))
theorem Parts.same (h : Parts A E w v xs css bls) (hs : ∀ b ∈ obl v ++ bls.flatten, w'.heap[b]? = w.heap[b]?) : Parts A E w' v xs css bls :=
  ⟨own_same h.row fun b hb => hs b (List.mem_append_left _ (mem_obl.2 hb)), h.l1, h.l2, fun k c x bk h1 h2 h3 => A.osame (h.el k c x bk h1 h2 h3) fun b hb => hs b (List.mem_append_right _ (List.mem_flatten.2 ⟨bk, List.mem_of_getElem? h3, hb⟩))⟩
theorem Parts.lt (h : Parts A E w v xs css bls) : ∀ b ∈ obl v ++ bls.flatten, b < w.heap.size := by
  intro b hb
  rcases List.mem_append.1 hb with hb | hb
  · exact (h.row.lt b (mem_obl.1 hb)).2
  · obtain ⟨bk, hbk, hb⟩ := List.mem_flatten.1 hb
    obtain ⟨k, hk⟩ := List.getElem?_of_mem hbk
    have hkl := (List.getElem?_eq_some_iff.1 hk).1
    have h1 := h.l1
    have h2 := h.l2
    exact A.olt (h.el k _ _ bk (List.getElem?_eq_getElem (by omega)) (List.getElem?_eq_getElem (by omega)) hk) b hb
theorem own_len_le {base size : Nat} {e : TypeId} {n : Nat} {ys : List Value} (h : w.ownsRow base e size v n ys) : n ≤ maxLen := by
  rcases h.2 with ⟨_, h0⟩ | ⟨g, cap, cur, _, _, _, h1, h2, _⟩
  · omega
  · omega
theorem Parts.cell (h : Parts A E w v xs css bls) {g n c : Nat} (hv : v = .slice (some ⟨g, 0, none⟩) n c) {k i : Nat} {cs : List Value} {u : Value} (hk : css[k]? = some cs) (hi : cs[i]? = some u) : w.cell? ⟨g, k * A.m + i, none⟩ = some u := by
  have hall := h.all
  have hcl := hall cs (List.mem_of_getElem? hk)
  have him : i < A.m := by have := (List.getElem?_eq_some_iff.1 hi).1; omega
  have hkl : k < xs.length := by have := (List.getElem?_eq_some_iff.1 hk).1; have := h.l1; omega
  have hr := h.row
  subst hv
  have hn : n = xs.length := by
    rcases hr.2 with ⟨h0, _⟩ | ⟨g', cap, cur, h0, _⟩
    · cases h0
    · injection h0
  subst hn
  have hlt : k * A.m + i < xs.length * A.m := by
    have := Nat.mul_le_mul_right A.m (show k + 1 ≤ xs.length from hkl)
    rw [Nat.succ_mul] at this
    omega
  rw [hr.cellAt _ hlt, flat_get hall k i him, hk]
  exact hi
theorem Parts.rd (h : Parts A E w v xs css bls) : ∃ B c, v = .slice B xs.length c ∧ RdN A.m A.rd w B xs.length xs := by
  obtain ⟨B, c, rfl⟩ := own_slice h.row
  refine ⟨B, c, rfl, rfl, own_len_le h.row, fun k x hk => ?_⟩
  have hkl := (List.getElem?_eq_some_iff.1 hk).1
  have h1 := h.l1
  have h2 := h.l2
  have hc : css[k]? = some (css[k]'(by omega)) := List.getElem?_eq_getElem (by omega)
  have hb : bls[k]? = some (bls[k]'(by omega)) := List.getElem?_eq_getElem (by omega)
  have ho := h.el k _ x _ hc hk hb
  obtain ⟨g, rfl⟩ : ∃ g, B = some ⟨g, 0, none⟩ := by
    rcases h.row.2 with ⟨_, h0⟩ | ⟨g, cap, cur, h0, _⟩
    · omega
    · injection h0 with h0
      exact ⟨g, h0⟩
  refine ⟨g, 0, _, rfl, h.all _ (List.mem_of_getElem? hc), fun i u hi => ?_, A.ord ho⟩
  rw [Nat.zero_add]
  exact h.cell rfl hc hi
end
/-- A slice of structs: E is the type of its elements. -/
def Sh.rows {α : Type} (A : Sh α) (E : TypeId) : Sh (List α) where
  m := 1
  rd := fun w cs xs => ∃ B n c, cs = [.slice B n c] ∧ RdN A.m A.rd w B n xs
  own := fun w cs xs bl => ∃ v css bls, cs = [v] ∧ Parts A E w v xs css bls ∧ bl = obl v ++ bls.flatten
  cnt := fun xs => xs.length + (xs.map A.cnt).sum
  rd_len := fun ⟨_, _, _, e, _⟩ => by rw [e]; rfl
  stab := fun {w} {w'} {cs} {xs} ⟨B, n, c, e, h1, h2, h3⟩ hs => ⟨B, n, c, e, h1, h2, fun k x hk => by
    obtain ⟨b, o, vs, e1, hl, hc, hr⟩ := h3 k x hk
    exact ⟨b, o, vs, e1, hl, fun i v hi => (World.cell?_of_block (w := w) (hs b (cell_lt (hc i v hi)))).trans (hc i v hi), A.stab hr hs⟩⟩
  ord := fun {w} {cs} {xs} {bl} ⟨v, css, bls, e, h, _⟩ => by
    obtain ⟨B, c, hv, hr⟩ := h.rd
    exact ⟨B, xs.length, c, by rw [e, hv], hr⟩
  olt := fun {w} {cs} {xs} {bl} ⟨v, css, bls, _, h, e⟩ b hb => by rw [e] at hb; exact h.lt b hb
  osame := fun {w} {w'} {cs} {xs} {bl} ⟨v, css, bls, e, h, e'⟩ hs => ⟨v, css, bls, e, h.same fun b hb => hs b (by rw [e']; exact hb), e'⟩

section
variable {α : Type} {m : Nat} {R : World → List Value → α → Prop} {w w' : World} {A : Option Addr} {n : Nat} {xs : List α}
theorem RdN.at (h : RdN m R w A n xs) {k : Nat} (hk : k < n) : ∃ b o vs x, A = some ⟨b, o, none⟩ ∧ vs.length = m ∧ (∀ i v, vs[i]? = some v → w.cell? ⟨b, o + k * m + i, none⟩ = some v) ∧ R w vs x ∧ xs.drop k = x :: xs.drop (k + 1) ∧ xs[k]? = some x := by
  have hl : k < xs.length := by rw [h.1]; exact hk
  obtain ⟨b, o, vs, e, hm, hc, hr⟩ := h.2.2 k _ (List.getElem?_eq_getElem hl)
  exact ⟨b, o, vs, xs[k], e, hm, hc, hr, List.drop_eq_getElem_cons hl, List.getElem?_eq_getElem hl⟩
theorem RdN.len (h : RdN m R w A n xs) : xs.length = n := h.1
theorem RdN.le (h : RdN m R w A n xs) : n ≤ 9223372036854775807 := by have := h.2.1; unfold maxLen at this; omega
theorem RdN.drop_end (h : RdN m R w A n xs) {k : Nat} (hk : ¬ k < n) : xs.drop k = [] := List.drop_eq_nil_of_le (by rw [h.1]; omega)
theorem RdN.nil (m : Nat) (R : World → List Value → α → Prop) (w : World) (A : Option Addr) : RdN m R w A 0 [] := ⟨rfl, Nat.zero_le _, fun k x hk => by simp at hk⟩
end
theorem RdN.same {α : Type} {S : Sh α} {w w' : World} {A : Option Addr} {n : Nat} {xs : List α} (h : RdN S.m S.rd w A n xs) (hs : Same w w') : RdN S.m S.rd w' A n xs := by
  obtain ⟨B, n', c, e, h'⟩ := (Sh.rows S 0).stab (w := w) (w' := w') (cs := [.slice A n 0]) (x := xs) ⟨A, n, 0, rfl, h⟩ hs
  injection e with e _
  injection e with e1 e2 e3
  subst e1
  subst e2
  exact h'
theorem RdN.next {α : Type} {S : Sh α} {w w' : World} {A : Option Addr} {n : Nat} {xs : List α} (h : RdN S.m S.rd w A n xs) (hb : Below w.heap.size w w') : RdN S.m S.rd w' A n xs := h.same hb.block

/-! ## Several cells stored side by side -/
def setAll : List Value → Nat → List Value → List Value
  | l, _, [] => l
  | l, p, c :: cs => setAll (l.set p c) (p + 1) cs
def setAllW : World → Nat → Nat → List Value → World
  | w, _, _, [] => w
  | w, g, p, c :: cs => setAllW (w.setCell ⟨g, p, none⟩ c) g (p + 1) cs
theorem setAll_get : ∀ (cs : List Value) (l : List Value) (p j : Nat), p + cs.length ≤ l.length → (setAll l p cs)[j]? = if p ≤ j ∧ j < p + cs.length then cs[j - p]? else l[j]?
  | [], l, p, j, _ => by rw [setAll, if_neg (by simp)]
  | c :: cs, l, p, j, h => by
    rw [List.length_cons] at h
    rw [setAll, setAll_get cs _ _ _ (by rw [List.length_set]; omega), List.length_cons]
    by_cases h1 : p + 1 ≤ j ∧ j < p + 1 + cs.length
    · rw [if_pos h1, if_pos (by omega), show j - p = (j - (p + 1)) + 1 by omega, List.getElem?_cons_succ]
    · rw [if_neg h1, List.getElem?_set]
      by_cases h2 : p = j
      · subst h2
        rw [if_pos rfl, if_pos (by omega), if_pos (by omega), Nat.sub_self]
        rfl
      · rw [if_neg h2, if_neg (by omega)]
theorem setAll_mid (pre z post cs : List Value) (h : cs.length = z.length) : setAll (pre ++ (z ++ post)) pre.length cs = pre ++ (cs ++ post) := by
  apply List.ext_getElem?
  intro j
  rw [setAll_get _ _ _ _ (by simp; omega)]
  by_cases h1 : j < pre.length
  · rw [if_neg (by omega), List.getElem?_append_left h1, List.getElem?_append_left h1]
  · by_cases h2 : j < pre.length + cs.length
    · rw [if_pos (by omega), List.getElem?_append_right (by omega), List.getElem?_append_left (by omega)]
    · rw [if_neg (by omega), List.getElem?_append_right (by omega), List.getElem?_append_right (by omega), List.getElem?_append_right (by omega), List.getElem?_append_right (by omega), h]
theorem own_storeAll : ∀ (cs : List Value) {w : World} {base : Nat} {e : TypeId} {size g n cap : Nat} {xs : List Value} (p : Nat), w.ownsRow base e size (.slice (some ⟨g, 0, none⟩) n cap) n xs →
    (setAllW w g p cs).ownsRow base e size (.slice (some ⟨g, 0, none⟩) n cap) n (setAll xs p cs) ∧ w.grownBy (setAllW w g p cs) (some g)
  | [], w, base, e, size, g, n, cap, xs, p, h => ⟨h, ⟨rfl, rfl, rfl, Nat.le_refl _, fun _ _ _ => rfl⟩⟩
  | c :: cs, w, base, e, size, g, n, cap, xs, p, h => by
    obtain ⟨h1, g1⟩ := h.stored p c
    obtain ⟨h2, g2⟩ := own_storeAll cs (p + 1) h1
    exact ⟨h2, ⟨g2.os.trans g1.os, g2.tape.trans g1.tape, g2.output.trans g1.output, Nat.le_trans g1.size g2.size, fun k hk hne => (g2.block k (Nat.lt_of_lt_of_le hk g1.size) hne).trans (g1.block k hk hne)⟩⟩

/-! ## A slice of structs being filled -/
/-- Of n elements that a make laid in block g, k have been copied in; zc are the cells of an element as made. -/
structure FillN {α : Type} (A : Sh α) (E : TypeId) (zc : List Value) (lo g n : Nat) (w : World) (xs : List α) (css : List (List Value)) (bls : List (List Nat)) (k : Nat) : Prop where
  row : w.ownsRow 0 E A.m (.slice (some ⟨g, 0, none⟩) n n) n (css.flatten ++ (List.replicate (n - k) zc).flatten)
  l1 : css.length = k
  l2 : bls.length = k
  all : ∀ c ∈ css, c.length = A.m
  el : ∀ (j : Nat) c x bk, css[j]? = some c → xs[j]? = some x → bls[j]? = some bk → A.own w c x bk
  nd : (g :: bls.flatten).Nodup
  lo_ : ∀ b ∈ g :: bls.flatten, lo ≤ b ∧ b < w.heap.size
section
variable {α : Type} {A : Sh α} {E : TypeId} {zc : List Value} {lo g n : Nat} {w w' : World} {xs : List α} {css : List (List Value)} {bls : List (List Nat)} {k : Nat}
theorem FillN.start (h : w.ownsRow lo E A.m (.slice (some ⟨g, 0, none⟩) n n) n (List.replicate n zc).flatten) : FillN A E zc lo g n w xs [] [] 0 :=
  ⟨own_mono h (Nat.zero_le _), rfl, rfl, fun c hc => by simp at hc, fun j c x bk hc => by simp at hc, by simp, fun b hb => by simp at hb; subst hb; exact h.lt b rfl⟩
theorem FillN.next (h : FillN A E zc lo g n w xs css bls k) (hb : Below w.heap.size w w') : FillN A E zc lo g n w' xs css bls k :=
  ⟨own_next h.row hb, h.l1, h.l2, h.all, fun j c x bk h1 h2 h3 => A.osame (h.el j c x bk h1 h2 h3) fun b hb' => hb.block b (h.lo_ b (List.mem_cons_of_mem _ (List.mem_flatten.2 ⟨bk, List.mem_of_getElem? h3, hb'⟩))).2, h.nd,
    fun b hb' => ⟨(h.lo_ b hb').1, Nat.lt_of_lt_of_le (h.lo_ b hb').2 hb.size⟩⟩
theorem FillN.cell (h : FillN A E zc lo g n w xs css bls k) (hz : zc.length = A.m) (hk : k < n) {i : Nat} {u : Value} (hi : zc[i]? = some u) : w.cell? ⟨g, k * A.m + i, none⟩ = some u := by
  have him : i < A.m := by have := (List.getElem?_eq_some_iff.1 hi).1; omega
  have hl := flat_len h.all
  rw [h.l1] at hl
  have hlt : k * A.m + i < n * A.m := by
    have := Nat.mul_le_mul_right A.m (show k + 1 ≤ n from hk)
    rw [Nat.succ_mul] at this
    omega
  rw [h.row.cellAt _ hlt, List.getElem?_append_right (by omega), hl, Nat.add_sub_cancel_left]
  have e : n - k = (n - (k + 1)) + 1 := by omega
  rw [e, List.replicate_succ, List.flatten_cons, List.getElem?_append_left (by omega)]
  exact hi
theorem FillN.frozen (h : FillN A E zc lo g n w xs css bls k) (j : Nat) : w.frozen? ⟨g, j, none⟩ = false := h.row.frozenAt j
/-- One element more, that a call has laid since. -/
theorem FillN.set_ (h0 : FillN A E zc lo g n w xs css bls k) (hz : zc.length = A.m) (hb : Below w.heap.size w w') (hk : k < n) {x : α} {c : List Value} {bk : List Nat} (hx : xs[k]? = some x) (ho : A.own w' c x bk) (hnd : bk.Nodup) (hlo : ∀ b ∈ bk, w.heap.size ≤ b) (hlw : lo ≤ w.heap.size) :
    FillN A E zc lo g n (setAllW w' g (k * A.m) c) xs (css ++ [c]) (bls ++ [bk]) (k + 1) := by
  have h := h0.next hb
  have hcl := A.rd_len (A.ord ho)
  have hl := flat_len h.all
  rw [h.l1] at hl
  have hgl := (h0.lo_ g (List.mem_cons_self ..)).2
  obtain ⟨hst, hgr⟩ := own_storeAll c (k * A.m) h.row
  have e : n - k = (n - (k + 1)) + 1 := by omega
  rw [e, List.replicate_succ, List.flatten_cons, ← hl, setAll_mid _ _ _ _ (by omega), hl] at hst
  have hold : ∀ b ∈ g :: bls.flatten, b < w.heap.size := fun b hb' => (h0.lo_ b hb').2
  refine ⟨?_, by simp [h.l1], by simp [h.l2], ?_, ?_, ?_, ?_⟩
  · rw [List.flatten_append]
    simpa using hst
  · intro c' hc'
    rcases List.mem_append.1 hc' with h1 | h1
    · exact h.all c' h1
    · simp at h1
      subst h1
      exact hcl
  · intro j c' x' bk' h1 h2 h3
    have hg : ∀ b, b ≠ g → b < w'.heap.size → (setAllW w' g (k * A.m) c).heap[b]? = w'.heap[b]? := fun b hne hlt => hgr.block b hlt (by simpa using hne)
    rcases Nat.lt_or_ge j k with hj | hj
    · rw [List.getElem?_append_left (by rw [h.l1]; exact hj)] at h1
      rw [List.getElem?_append_left (by rw [h.l2]; exact hj)] at h3
      refine A.osame (h.el j c' x' bk' h1 h2 h3) fun b hb' => ?_
      have hm : b ∈ bls.flatten := List.mem_flatten.2 ⟨bk', List.mem_of_getElem? h3, hb'⟩
      exact hg b (fun ee => (List.nodup_cons.1 h.nd).1 (ee ▸ hm)) (h.lo_ b (List.mem_cons_of_mem _ hm)).2
    · have hjk : j = k := by
        have := (List.getElem?_eq_some_iff.1 h1).1
        rw [List.length_append, h.l1] at this
        simp at this
        omega
      subst hjk
      rw [List.getElem?_append_right (by rw [h.l1]; exact Nat.le_refl _), h.l1, Nat.sub_self] at h1
      rw [List.getElem?_append_right (by rw [h.l2]; exact Nat.le_refl _), h.l2, Nat.sub_self] at h3
      simp at h1 h3
      subst h1
      subst h3
      rw [hx] at h2
      injection h2 with h2
      subst h2
      exact A.osame ho fun b hb' => hg b (fun ee => by have := hlo b hb'; omega) (A.olt ho b hb')
  · rw [List.flatten_append, ← List.cons_append, List.nodup_append]
    refine ⟨h.nd, by simpa using hnd, fun a ha b hb' => ?_⟩
    have := hold a ha
    have := hlo b (by simpa using hb')
    omega
  · intro b hb'
    have hs : w'.heap.size ≤ (setAllW w' g (k * A.m) c).heap.size := hgr.size
    rw [List.flatten_append, ← List.cons_append] at hb'
    rcases List.mem_append.1 hb' with h1 | h1
    · have := h.lo_ b h1
      omega
    · have h2 : b ∈ bk := by simpa using h1
      have := hlo b h2
      have := A.olt ho b h2
      omega
theorem FillN.done (h : FillN A E zc lo g n w xs css bls k) (hl : xs.length = n) (hk : ¬ k < n) (hk' : k ≤ n) : (Sh.rows A E).own w [.slice (some ⟨g, 0, none⟩) n n] xs (g :: bls.flatten) := by
  have e : n - k = 0 := by omega
  have hr := h.row
  rw [e] at hr
  simp only [List.replicate_zero, List.flatten_nil, List.append_nil] at hr
  have h1 := h.l1
  have h2 := h.l2
  exact ⟨_, css, bls, rfl, ⟨by rw [hl]; exact hr, by omega, by omega, h.el⟩, rfl⟩
end
/-! ## Changes within a list of blocks -/
structure ChgB (bl : List Nat) (w w' : World) : Prop where
  os : w'.os = w.os
  tape : w'.tape = w.tape
  output : w'.output = w.output
  size : w.heap.size ≤ w'.heap.size
  block : ∀ b, b < w.heap.size → b ∉ bl → w'.heap[b]? = w.heap[b]?
theorem ChgB.refl (bl : List Nat) (w : World) : ChgB bl w w := ⟨rfl, rfl, rfl, Nat.le_refl _, fun _ _ _ => rfl⟩
theorem ChgB.trans {bl : List Nat} {a b c : World} (h : ChgB bl a b) (k : ChgB bl b c) : ChgB bl a c :=
  ⟨k.os.trans h.os, k.tape.trans h.tape, k.output.trans h.output, Nat.le_trans h.size k.size, fun i hi hh => (k.block i (Nat.lt_of_lt_of_le hi h.size) hh).trans (h.block i hi hh)⟩
theorem ChgB.mono {bl bl' : List Nat} {w w' : World} (h : ChgB bl w w') (hs : ∀ b ∈ bl, b ∈ bl') : ChgB bl' w w' :=
  ⟨h.os, h.tape, h.output, h.size, fun b hb hn => h.block b hb fun hh => hn (hs b hh)⟩
theorem ChgB.set {bl : List Nat} {w : World} {p : Addr} (hp : p.block ∈ bl) (u : Value) : ChgB bl w (w.setCell p u) :=
  ⟨rfl, rfl, rfl, by simp, fun b _ hn => Below.heap_setCell w p u b (fun e => hn (e ▸ hp))⟩
theorem ChgB.grown {v : Value} {w w' : World} (h : w.grownBy w' v.ownBlock) : ChgB (obl v) w w' := ⟨h.os, h.tape, h.output, h.size, fun b hb hn => h.block b hb fun e => hn (mem_obl.2 e.symm)⟩
theorem flat_once : ∀ {bls : List (List Nat)}, bls.flatten.Nodup → ∀ {i j : Nat} {x y : List Nat} {b : Nat}, bls[i]? = some x → bls[j]? = some y → b ∈ x → b ∈ y → i = j
  | [], _, i, j, x, y, b, hi, _, _, _ => by simp at hi
  | z :: l, h, i, j, x, y, b, hi, hj, hx, hy => by
    rw [List.flatten_cons, List.nodup_append] at h
    have mem : ∀ {k : Nat} {u : List Nat}, l[k]? = some u → b ∈ u → b ∈ l.flatten := fun hk hu => List.mem_flatten.2 ⟨_, List.mem_of_getElem? hk, hu⟩
    match i, j with
    | 0, 0 => rfl
    | 0, j + 1 =>
      simp at hi hj
      subst hi
      exact absurd rfl (h.2.2 b hx b (mem hj hy))
    | i + 1, 0 =>
      simp at hi hj
      subst hj
      exact absurd rfl (h.2.2 b hy b (mem hi hx))
    | i + 1, j + 1 =>
      simp at hi hj
      rw [flat_once h.2.1 hi hj hx hy]
/-- One element turned into another one, in place. -/
theorem Parts.put {α : Type} {A : Sh α} {E : TypeId} {w w' : World} {v : Value} {xs : List α} {css : List (List Value)} {bls : List (List Nat)} (h : Parts A E w v xs css bls) (hnd : (obl v ++ bls.flatten).Nodup) {k : Nat} {bk : List Nat} (hbk : bls[k]? = some bk) {c' : List Value} {x' : α}
    (hr : w'.ownsRow 0 E A.m v xs.length (setAll css.flatten (k * A.m) c')) (ho : A.own w' c' x' bk) (hfr : ∀ b ∈ bls.flatten, b ∉ bk → w'.heap[b]? = w.heap[b]?) : Parts A E w' v (xs.set k x') (css.set k c') bls := by
  have hall := h.all
  have hcl := A.rd_len (A.ord ho)
  have hl1 := h.l1
  have hl2 := h.l2
  have hkl : k < bls.length := (List.getElem?_eq_some_iff.1 hbk).1
  have hfl := flat_len hall
  have hall' : ∀ c ∈ css.set k c', c.length = A.m := fun c hc => by
    rcases List.mem_or_eq_of_mem_set hc with h1 | h1
    · exact hall c h1
    · rw [h1]; exact hcl
  have hle : k * A.m + A.m ≤ css.length * A.m := by
    have := Nat.mul_le_mul_right A.m (show k + 1 ≤ css.length by omega)
    rw [Nat.succ_mul] at this
    exact this
  have e : setAll css.flatten (k * A.m) c' = (css.set k c').flatten := by
    have hfl' := flat_len hall'
    rw [List.length_set] at hfl'
    apply List.ext_getElem?
    intro j
    rw [setAll_get _ _ _ _ (by omega), hcl]
    rcases Nat.eq_zero_or_pos A.m with h0 | h0
    · rw [h0] at hfl hfl' ⊢
      rw [if_neg (by omega), List.getElem?_eq_none (by omega), List.getElem?_eq_none (by omega)]
    · have hj := Nat.div_add_mod j A.m
      have hm := Nat.mod_lt j h0
      rw [Nat.mul_comm] at hj
      have g1 := flat_get hall (j / A.m) (j % A.m) hm
      have g2 := flat_get hall' (j / A.m) (j % A.m) hm
      rw [hj] at g1 g2
      rw [g2]
      by_cases hjk : j / A.m = k
      · have hjk' : k * A.m + j % A.m = j := by rw [← hjk]; exact hj
        rw [if_pos (by omega), hjk, List.getElem?_set_self (by omega), show j - k * A.m = j % A.m by omega]
        rfl
      · rw [List.getElem?_set_ne (fun ee => hjk ee.symm), ← g1, if_neg]
        rintro ⟨h1, h2⟩
        apply hjk
        exact Nat.div_eq_of_lt_le (by omega) (by rw [Nat.succ_mul]; omega)
  refine ⟨by rw [List.length_set, ← e]; exact hr, by simp [hl1], by simp [hl2], fun j c x b h1 h2 h3 => ?_⟩
  by_cases hjk : j = k
  · subst hjk
    rw [List.getElem?_set_self (by omega)] at h1 h2
    injection h1 with h1
    injection h2 with h2
    rw [hbk] at h3
    injection h3 with h3
    subst h1
    subst h2
    subst h3
    exact ho
  · rw [List.getElem?_set_ne (fun ee => hjk ee.symm)] at h1 h2
    refine A.osame (h.el j c x b h1 h2 h3) fun q hq => hfr q (List.mem_flatten.2 ⟨b, List.mem_of_getElem? h3, hq⟩) fun hq' => ?_
    have hnd' : bls.flatten.Nodup := (List.nodup_append.1 hnd).2.1
    exact hjk (flat_once hnd' h3 hbk hq hq')
end Go.Proofs.YtkmgbdljiajlaaaGreat
namespace Go.Proofs.YtkmgbdljiajlaaaGreat
open Go.ChangeShapes Go.WideShapes Go.ChangeAt Go.RowKit Go.Joins Go.Deep

/-! ## Sizes -/
def szR (c : Nat) (left : Int) : Int := if left < c then -1 else left - c
theorem szR_add {a b : Nat} {left : Int} (h : ¬ szR a left < 0) : szR b (szR a left) = szR (a + b) left := by
  unfold szR at *
  split at h
  · omega
  · rename_i h1
    rw [if_neg h1]
    by_cases h2 : left - a < b
    · rw [if_pos h2, if_pos (by omega)]
    · rw [if_neg h2, if_neg (by omega)]; omega
theorem szR_neg {a b : Nat} {left : Int} (h : szR a left < 0) (_hl : 0 ≤ left) : (-1 : Int) = szR (a + b) left := by
  unfold szR at *
  split at h
  · rw [if_pos (by omega)]
  · omega
theorem szR_zero {left : Int} (h : 0 ≤ left) : szR 0 left = left := by
  have h' : ¬ left < ((0 : Nat) : Int) := by omega
  unfold szR
  rw [if_neg h']
  omega
def cntS {α : Type} (f : α → Nat) (xs : List α) : Nat := (xs.map f).sum
theorem cntS_cons {α : Type} (f : α → Nat) (x : α) (xs : List α) : cntS f (x :: xs) = f x + cntS f xs := by simp [cntS]
theorem cntS_nil {α : Type} (f : α → Nat) : cntS f [] = 0 := rfl
def SumAt {α : Type} (f : α → Nat) (xs : List α) (l0 left : Int) (k : Nat) : Prop := szR (cntS f (xs.drop k)) left = szR (cntS f xs) l0
section
variable {α : Type} {f : α → Nat} {xs : List α} {l0 left : Int} {k : Nat} {x : α}
theorem SumAt.start (f : α → Nat) (xs : List α) (l0 : Int) : SumAt f xs l0 l0 0 := rfl
theorem SumAt.step (h : SumAt f xs l0 left k) (h1 : xs.drop k = x :: xs.drop (k + 1)) (h2 : ¬ szR (f x) left < 0) : SumAt f xs l0 (szR (f x) left) (k + 1) := by
  unfold SumAt at *; rw [← h, h1, cntS_cons, szR_add h2]
theorem SumAt.stop (h : SumAt f xs l0 left k) (h1 : xs.drop k = x :: xs.drop (k + 1)) (h2 : szR (f x) left < 0) (hl : 0 ≤ left) : -1 = szR (cntS f xs) l0 := by
  unfold SumAt at *; rw [← h, h1, cntS_cons]; exact szR_neg h2 hl
theorem SumAt.done (h : SumAt f xs l0 left k) (h1 : xs.drop k = []) (hl : 0 ≤ left) : left = szR (cntS f xs) l0 := by
  unfold SumAt at *; rw [← h, h1, cntS_nil, szR_zero hl]
end

/-! ## Equality -/
/-- Are they the same? For things of whatever type. -/
noncomputable def eqC {α : Type} (x y : α) : Bool := @decide (x = y) (Classical.propDecidable _)
theorem eqC_iff {α : Type} {x y : α} : eqC x y = true ↔ x = y := by unfold eqC; exact @decide_eq_true_iff _ (Classical.propDecidable _)
theorem eqC_self {α : Type} (x : α) : eqC x x = true := eqC_iff.2 rfl
def EqdAt {α : Type} (xs ys : List α) (k : Nat) : Prop := eqC (xs.drop k) (ys.drop k) = eqC xs ys
theorem eqC_cons {α : Type} (x y : α) (xs ys : List α) : eqC (x :: xs) (y :: ys) = (eqC x y && eqC xs ys) := by
  rw [Bool.eq_iff_iff, Bool.and_eq_true, eqC_iff, eqC_iff, eqC_iff]; simp
section
variable {α : Type} {xs ys : List α} {k : Nat} {x y : α}
theorem EqdAt.start (xs ys : List α) : EqdAt xs ys 0 := rfl
theorem EqdAt.step (h : EqdAt xs ys k) (h1 : xs.drop k = x :: xs.drop (k + 1)) (h2 : ys.drop k = y :: ys.drop (k + 1)) (he : eqC x y = true) : EqdAt xs ys (k + 1) := by
  unfold EqdAt at *; rw [← h, h1, h2, eqC_cons, he]; rfl
theorem EqdAt.stop (h : EqdAt xs ys k) (h1 : xs.drop k = x :: xs.drop (k + 1)) (h2 : ys.drop k = y :: ys.drop (k + 1)) (he : eqC x y = false) : false = eqC xs ys := by
  unfold EqdAt at *; rw [← h, h1, h2, eqC_cons, he]; rfl
theorem EqdAt.done (h : EqdAt xs ys k) (h1 : xs.drop k = []) (h2 : ys.drop k = []) : true = eqC xs ys := by
  unfold EqdAt at *; rw [← h, h1, h2, eqC_self]
end
/-! ## Blocks between two marks -/
def Iv (lo hi : Nat) (bl : List Nat) : Prop := bl.Nodup ∧ ∀ b ∈ bl, lo ≤ b ∧ b < hi
theorem Iv.nil (lo hi : Nat) : Iv lo hi [] := ⟨List.nodup_nil, fun b hb => by simp at hb⟩
theorem Iv.app {lo m1 m2 hi : Nat} {a b : List Nat} (ha : Iv lo m1 a) (hb : Iv m2 hi b) (h1 : lo ≤ m2) (h2 : m1 ≤ m2) (h3 : m2 ≤ hi) : Iv lo hi (a ++ b) := by
  refine ⟨List.nodup_append.2 ⟨ha.1, hb.1, fun x hx y hy => ?_⟩, fun x hx => ?_⟩
  · have := (ha.2 x hx).2
    have := (hb.2 y hy).1
    omega
  · rcases List.mem_append.1 hx with h | h
    · have := ha.2 x h
      omega
    · have := hb.2 x h
      omega
theorem Iv.app0 {lo hi : Nat} {a : List Nat} (ha : Iv lo hi a) : Iv lo hi (a ++ []) := by rw [List.append_nil]; exact ha
theorem Iv.mono {lo hi lo' hi' : Nat} {a : List Nat} (h : Iv lo hi a) (h1 : lo' ≤ lo) (h2 : hi ≤ hi') : Iv lo' hi' a := ⟨h.1, fun x hx => by have := h.2 x hx; omega⟩
theorem Sh.onext {α : Type} {S : Sh α} {w w' : World} {cs : List Value} {x : α} {bl : List Nat} (h : S.own w cs x bl) (hb : Below w.heap.size w w') : S.own w' cs x bl := S.osame h fun b hb' => hb.block b (S.olt h b hb')
/-- A copy handed back: a struct, one value. -/
def ToE {α : Type} (S : Sh α) (w : World) (x : α) (e : Ending) (w' : World) : Prop := ∃ cs bl, e = .returned (.agg cs.toArray) ∧ S.own w' cs x bl ∧ Iv w.heap.size w'.heap.size bl ∧ Below w.heap.size w w'
theorem boxes2 (w : World) (cp cz : Array Value) (tp tr : TypeId) : ∃ w3, w3 = (w.alloc (.cells cp tp)).alloc (.cells cz tr) ∧ Below w.heap.size w w3 ∧ w3.heap.size = w.heap.size + 2 ∧ Blk w3 w.heap.size tp cp ∧ Blk w3 (w.heap.size + 1) tr cz := by
  refine ⟨_, rfl, below_box2 _ _ _, by simp, (Blk.new w _ _).next (below_box _ _), ?_⟩
  have := Blk.new (w.alloc (.cells cp tp)) tr cz
  rwa [World.size_alloc] at this
theorem boxes1 (w : World) (cp : Array Value) (tp : TypeId) : ∃ w3, w3 = w.alloc (.cells cp tp) ∧ Below w.heap.size w w3 ∧ w3.heap.size = w.heap.size + 1 ∧ Blk w3 w.heap.size tp cp := ⟨_, rfl, below_box _ _, by simp, Blk.new _ _ _⟩
theorem stab_same {α : Type} {S : Sh α} {w w' : World} {cs : List Value} {x : α} (h : S.rd w cs x) (hb : Below w.heap.size w w') : S.rd w' cs x := S.stab h hb.block

theorem keepc {w w' : World} {p : Addr} {v : Value} (hb : Below w.heap.size w w') (h : w.cell? p = some v) : w'.cell? p = some v := (hb.cell (cell_lt h)).trans h
/-! ## Arguments -/
section
variable {H : Type} {enc : TypeId × Value → H} {P : Program} {w : World}
end
end Go.Proofs.YtkmgbdljiajlaaaGreat
namespace Go.Proofs.YtkmgbdljiajlaaaGreat
open Go.RowKit

section
variable {α : Type} (mk : Int → α → α) (mc : α → Nat)
/-- The elements marked one after the other, from k on. -/
def mkL : Int → List α → List α
  | _, [] => []
  | k, x :: l => mk k x :: mkL (k + mc x) l
/-- Marked as far as the j-th element, the next number being k. -/
def MkAt (k0 : Int) (xs ys : List α) (j : Nat) (k : Int) : Prop := ys.take j ++ mkL mk mc k (xs.drop j) = mkL mk mc k0 xs ∧ ys.drop j = xs.drop j ∧ ys.length = xs.length ∧ k + cntS mc (xs.drop j) = k0 + cntS mc xs ∧ k0 ≤ k
def HkAt (k0 : Int) (xs : List α) (j : Nat) (k : Int) : Prop := mkL mk mc k (xs.drop j) = (mkL mk mc k0 xs).drop j ∧ k + cntS mc (xs.drop j) = k0 + cntS mc xs ∧ k0 ≤ k
end
section
variable {α : Type} {mk : Int → α → α} {mc : α → Nat} {k0 k : Int} {xs ys : List α} {j : Nat} {x : α}
theorem MkAt.start (k0 : Int) (xs : List α) : MkAt mk mc k0 xs xs 0 k0 := ⟨by simp, rfl, rfl, by simp, Int.le_refl _⟩
theorem MkAt.step (h : MkAt mk mc k0 xs ys j k) (hd : xs.drop j = x :: xs.drop (j + 1)) : MkAt mk mc k0 xs (ys.set j (mk k x)) (j + 1) (k + mc x) := by
  obtain ⟨h1, h2, h3, h4, h5⟩ := h
  have hjl : j < xs.length := by
    rcases Nat.lt_or_ge j xs.length with h | h
    · exact h
    · rw [List.drop_eq_nil_of_le h] at hd; cases hd
  have hjy : j < ys.length := by omega
  refine ⟨?_, ?_, by simp [h3], ?_, by omega⟩
  · rw [← h1, hd, mkL, List.take_add_one, List.getElem?_set_self hjy, List.take_set_of_le (Nat.le_refl j)]
    simp
  · rw [List.drop_set_of_lt (by omega)]
    have e1 : (ys.drop j).drop 1 = (xs.drop j).drop 1 := by rw [h2]
    simpa [List.drop_drop] using e1
  · rw [hd, cntS_cons] at h4
    omega
theorem MkAt.done (h : MkAt mk mc k0 xs ys j k) (hj : xs.drop j = []) : ys = mkL mk mc k0 xs ∧ k = k0 + cntS mc xs := by
  obtain ⟨h1, h2, h3, h4, h5⟩ := h
  rw [hj] at h1 h2 h4
  rw [mkL, List.append_nil] at h1
  rw [cntS_nil] at h4
  refine ⟨?_, by omega⟩
  rw [← h1]
  have := List.take_append_drop j ys
  rw [h2, List.append_nil] at this
  exact this.symm
theorem MkAt.left (h : MkAt mk mc k0 xs ys j k) (hd : xs.drop j = x :: xs.drop (j + 1)) : ys[j]? = some x ∧ k0 ≤ k ∧ k + mc x ≤ k0 + cntS mc xs := by
  obtain ⟨h1, h2, h3, h4, h5⟩ := h
  rw [hd, cntS_cons] at h4
  have e := congrArg (fun l => l[0]?) (h2.trans hd)
  simp [List.getElem?_drop] at e
  exact ⟨e, h5, by omega⟩
theorem HkAt.start (k0 : Int) (xs : List α) : HkAt mk mc k0 xs 0 k0 := ⟨rfl, rfl, Int.le_refl _⟩
theorem HkAt.step (h : HkAt mk mc k0 xs j k) (hd : xs.drop j = x :: xs.drop (j + 1)) : HkAt mk mc k0 xs (j + 1) (k + mc x) := by
  obtain ⟨h1, h2, h3⟩ := h
  rw [hd, mkL] at h1
  rw [hd, cntS_cons] at h2
  refine ⟨?_, by omega, by omega⟩
  have := congrArg (fun l => l.drop 1) h1
  simpa [List.drop_drop] using this
theorem HkAt.left (h : HkAt mk mc k0 xs j k) (hd : xs.drop j = x :: xs.drop (j + 1)) : (mkL mk mc k0 xs)[j]? = some (mk k x) ∧ k0 ≤ k ∧ k + mc x ≤ k0 + cntS mc xs := by
  obtain ⟨h1, h2, h3⟩ := h
  rw [hd, mkL] at h1
  rw [hd, cntS_cons] at h2
  have e := congrArg (fun l => l[0]?) h1
  simp [List.getElem?_drop] at e
  exact ⟨e.symm, h3, by omega⟩
theorem HkAt.done (h : HkAt mk mc k0 xs j k) (hj : xs.drop j = []) : k = k0 + cntS mc xs := by
  obtain ⟨-, h2, -⟩ := h
  rw [hj, cntS_nil] at h2
  omega
end
theorem Sh.oset' {α : Type} {S : Sh α} {w : World} {cs : List Value} {x : α} {b1 : List Nat} (h : S.own w cs x b1) {p : Addr} (hn : p.block ∉ b1) (v : Value) : S.own (w.setCell p v) cs x b1 :=
  S.osame h fun b hb => Below.heap_setCell w p v b (fun e => hn (e ▸ hb))
theorem Parts.slice {α : Type} {A : Sh α} {E : TypeId} {w : World} {v : Value} {xs : List α} {css : List (List Value)} {bls : List (List Nat)} (h : Parts A E w v xs css bls) {j : Nat} (hj : j < xs.length) : ∃ g cap, v = .slice (some ⟨g, 0, none⟩) xs.length cap := by
  rcases h.row.2 with ⟨_, h0⟩ | ⟨g, cap, cur, hv, _⟩
  · omega
  · exact ⟨g, cap, hv⟩
/-! ## What the functions hand back -/
def RdV {α : Type} (S : Sh α) (w : World) (x : α) (ok : Bool) (e : Ending) (w' : World) : Prop := ∃ v, e = .returned (.tuple #[v, .bool ok]) ∧ S.rd w' [v] x ∧ Below w.heap.size w w'
def RdA {α : Type} (S : Sh α) (w : World) (x : α) (ok : Bool) (e : Ending) (w' : World) : Prop := ∃ cs, e = .returned (.tuple #[.agg cs.toArray, .bool ok]) ∧ S.rd w' cs x ∧ Below w.heap.size w w'
def OwV {α : Type} (S : Sh α) (w : World) (x : α) (ok : Bool) (e : Ending) (w' : World) : Prop := ∃ v bl, e = .returned (.tuple #[v, .bool ok]) ∧ S.own w' [v] x bl ∧ Iv w.heap.size w'.heap.size bl ∧ Below w.heap.size w w'
def OwA {α : Type} (S : Sh α) (w : World) (x : α) (ok : Bool) (e : Ending) (w' : World) : Prop := ∃ cs bl, e = .returned (.tuple #[.agg cs.toArray, .bool ok]) ∧ S.own w' cs x bl ∧ Iv w.heap.size w'.heap.size bl ∧ Below w.heap.size w w'
theorem OwV.rd {α : Type} {S : Sh α} {w w' : World} {x : α} {ok : Bool} {e : Ending} (h : OwV S w x ok e w') : RdV S w x ok e w' := by
  obtain ⟨v, bl, h1, h2, h3, h4⟩ := h
  exact ⟨v, h1, S.ord h2, h4⟩
theorem OwA.rd {α : Type} {S : Sh α} {w w' : World} {x : α} {ok : Bool} {e : Ending} (h : OwA S w x ok e w') : RdA S w x ok e w' := by
  obtain ⟨v, bl, h1, h2, h3, h4⟩ := h
  exact ⟨v, h1, S.ord h2, h4⟩
end Go.Proofs.YtkmgbdljiajlaaaGreat
namespace Go.Proofs.YtkmgbdljiajlaaaGreat
open Go.RowKit

abbrev OpM : Type := (Int × List Int)
def shOp : Sh OpM := (Sh.pair Sh.int (Sh.il 3))
theorem rdOp {w : World} {cs : List Value} {x : OpM} (h : shOp.rd w cs x) : ∃ (ATable : Option Addr) (nTable cTable : Nat), cs = [.int .i64 x.1, .slice ATable nTable cTable] ∧ InR x.1 ∧ RdL RI w ATable nTable x.2 := by
  obtain ⟨_, _, rfl, ⟨_, rfl, rfl, loArity, hiArity⟩, ⟨_, rfl, ATable, nTable, cTable, rfl, rTable⟩⟩ := h
  exact ⟨ATable, nTable, cTable, rfl, ⟨loArity, hiArity⟩, rTable⟩
end Go.Proofs.YtkmgbdljiajlaaaGreat
namespace Go.Proofs.YtkmgbdljiajlaaaGreat
open Go.RowKit

abbrev AlgebraM : Type := (Int × List OpM)
def shAlgebra : Sh AlgebraM := (Sh.pair Sh.int (Sh.rows shOp 80))
theorem rdAlgebra {w : World} {cs : List Value} {x : AlgebraM} (h : shAlgebra.rd w cs x) : ∃ (AOps : Option Addr) (nOps cOps : Nat), cs = [.int .i64 x.1, .slice AOps nOps cOps] ∧ InR x.1 ∧ RdN shOp.m shOp.rd w AOps nOps x.2 := by
  obtain ⟨_, _, rfl, ⟨_, rfl, rfl, loSize, hiSize⟩, ⟨AOps, nOps, cOps, rfl, rOps⟩⟩ := h
  exact ⟨AOps, nOps, cOps, rfl, ⟨loSize, hiSize⟩, rOps⟩
end Go.Proofs.YtkmgbdljiajlaaaGreat
namespace Go.Proofs.YtkmgbdljiajlaaaGreat
open Go.RowKit

end Go.Proofs.YtkmgbdljiajlaaaGreat
