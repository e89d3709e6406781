
/- Walks: the reference's closure systems and its test. -/
import Derived.Test.YtlncpabnlnipoaaGreatSys2
namespace Go.Proofs.YtlncpabnlnipoaaGreat
open Go.RowKit

/-- A slice of slices that is not nil, as it is handed from call to call. -/
def OutM (w : World) (v : Value) (out : List (List Int)) : Prop := ∃ b o n c, v = .slice (some ⟨b, o, none⟩) n c ∧ n ≤ c ∧ RdL (RV RI) w (some ⟨b, o, none⟩) n out
theorem inv_len {n : Nat} {out : List (List Int)} (h : Inv n out) (hn : n ≤ 6) : out.length ≤ 64 := by
  have h1 := sets_len h.1 h.2
  have h2 : 2 ^ n ≤ 2 ^ 6 := Nat.pow_le_pow_right (by omega) hn
  omega

theorem Inv.putMeet {n : Nat} {cur : List (List Int)} (h : Inv n cur) {t : List Int} (ht : IsSet n t) (s : List Int) : Inv n (putL (meetL s t) cur) := by
  refine ⟨h.1.putL, fun p hp => ?_⟩
  rcases mem_putL.1 hp with rfl | hp
  · exact ht.meet s
  · exact h.2 p hp

set_option maxHeartbeats 1000000 in
theorem l30System_any (A : Option Addr) (n m c : Nat) (xss : List (List Int)) (w : World) (h : RdL (RV RI) w A m xss) (hn : n ≤ 6) :
    Calls Tryz.prog 59 #[.int .i64 n, .slice A m c] w fun e w' => ∃ v, e = .returned v ∧ OutM w' v (systemL n xss) ∧ Below w.heap.size w w' := by
  have hle := h.le
  go_enter Tryz.func59, Tryz.ntmps59
  go_wp2_with fail
  refine (l6Identity_any n _ (by omega)).mono ?_
  rintro e w1 ⟨A', c', rfl, hid, hb1⟩
  have hid' := rd_of_own (R := RI) hid (fun x hx => by have := mem_upTo.1 hx; exact ⟨rfl, by omega, by omega⟩)
  have hbox := below_box w1 (.cells #[.slice A' n c'] 25)
  have hT1 := below_next hb1 hbox rfl
  have hst : RdL (RV RI) (w1.alloc (.cells #[.slice A' n c'] 25)) (some ⟨w1.heap.size, 0, none⟩) 1 [upTo n] := by
    refine ⟨rfl, by unfold maxLen; omega, fun k x hk => ?_⟩
    have hk1 := (List.getElem?_eq_some_iff.1 hk).1
    simp at hk1
    subst hk1
    simp at hk
    subst hk
    exact ⟨w1.heap.size, 0, _, rfl, cell_new _ rfl, A', n, c', rfl, hid'.next stab_RI hbox⟩
  clear hid hid'
  go_wp2_with fail
  go_loopw [5, 6, 7, 8] (fun v i _ _ wr => ∃ (k : Nat) (out : List (List Int)), k ≤ m ∧ i = .int .i64 k ∧ OutM wr v out ∧ Inv n out ∧ Hid (systemTo (xss.drop k) out = systemL n xss) ∧ Below w.heap.size w wr) (fun _ i _ _ _ => m - (intOf i).toNat)
  case atStart => exact ⟨0, [upTo n], Nat.zero_le _, rfl, ⟨_, _, _, _, rfl, Nat.le_refl _, hst⟩, inv_start n, rfl, hT1⟩
  case round =>
    clear hst hT1 hb1 hbox
    obtain ⟨k, out, hk, rfl, ⟨ob, oo, on, oc, rfl, hoc, ho⟩, hinv, H, hT⟩ := hrel
    replace h := h.next stab_RVI hT
    by_cases hlt : k < m
    · obtain ⟨b, o, v, s, rfl, hc, ⟨B, j, d, rfl, hs⟩, hd, hx⟩ := h.at hlt
      have H1 := Lib.hid hd
      have hlen := Lib.hid ho.len
      have hol := inv_len hinv hn
      have hon : on ≤ 64 := by rw [hlen.out] at hol; exact hol
      have hole := ho.le
      clear hd hx hol
      obtain ⟨wo, hwo⟩ : ∃ wo : World, wo = wr := ⟨_, rfl⟩
      subst hwo
      go_wp2_with fail
      go_loopw [5, 8] (fun v i wi => ∃ (q : Nat) (cur : List (List Int)), q ≤ on ∧ i = .int .i64 q ∧ OutM wi v cur ∧ Inv n cur ∧ Hid (addTo s (out.drop q) cur = addTo s out out) ∧ Below wo.heap.size wo wi) (fun _ i _ => on - (intOf i).toNat)
      case atStart => exact ⟨0, out, Nat.zero_le _, rfl, ⟨ob, oo, on, oc, rfl, hoc, ho⟩, hinv, rfl, Below.refl _ _⟩
      case round =>
        obtain ⟨q, cur, hq, rfl, ⟨qb, qo, qn, qc, rfl, hqc, hcur⟩, hinv', HQ, hTi⟩ := hrel
        replace h := h.next stab_RVI hTi
        replace ho := ho.next stab_RVI hTi
        replace hs := hs.next stab_RI hTi
        by_cases hltq : q < on
        · obtain ⟨v, t, hct, ⟨Bt, jt, dt, rfl, htt⟩, hdt, hxt⟩ := ho.at' hltq
          have H2 := Lib.hid hdt
          have hqn := inv_len hinv' hn
          rw [hcur.len] at hqn
          have hjt : jt ≤ 1048576 := by
            have h1 := (set_sub (hinv.2 t (List.mem_of_getElem? hxt))).length_le
            rw [upTo_len, htt.len] at h1
            omega
          have HXT := Lib.hid (List.mem_of_getElem? hxt)
          clear hxt hdt
          have hq0 : (0 : Int) ≤ (q : Int) := by omega
          have hq1 : (q : Int) < (on : Int) := by omega
          have hk0 : (0 : Int) ≤ (k : Int) := by omega
          have hk1 : (k : Int) < (m : Int) := by omega
          have hcs : wr.cell? ⟨b, o + k, none⟩ = some (.slice B j d) := (hTi.cell (p := ⟨b, o + k, none⟩) (cell_lt hc)).trans hc
          clear hc
          go_wp2
          go_region_held3 (fun w' => w'.cell? ⟨ob, oo + q, none⟩ = some (.slice Bt jt dt) ∧ w'.cell? ⟨b, o + k, none⟩ = some (.slice B j d)) (first | go_keep | exact ⟨(hb2.cell (p := ⟨ob, oo + q, none⟩) (cell_lt hct)).trans hct, (hb2.cell (p := ⟨b, o + k, none⟩) (cell_lt hcs)).trans hcs⟩ | exact ⟨(hb3.cell (p := ⟨ob, oo + q, none⟩) (Nat.lt_of_lt_of_le (cell_lt hct) hb2.size)).trans ((hb2.cell (p := ⟨ob, oo + q, none⟩) (cell_lt hct)).trans hct), (hb3.cell (p := ⟨b, o + k, none⟩) (Nat.lt_of_lt_of_le (cell_lt hcs) hb2.size)).trans ((hb2.cell (p := ⟨b, o + k, none⟩) (cell_lt hcs)).trans hcs)⟩) (first | (go_at_call 44; refine (l30Meet_any _ _ _ _ _ _ _ _ _ (htt.drew stab_RI) (hs.drew stab_RI) hjt).mono ?_; rintro e w2 ⟨A2, n2, c2, rfl, how, hb2⟩) | (go_at_call 76; refine (l30Put_any _ _ _ _ _ _ _ _ _ _ ((hcur.drew stab_RVI).next stab_RVI hb2) (rd_of_own (R := RI) how (fun x hx => ⟨rfl, meetL_bounds htt x hx⟩)) hqc (by omega)).mono ?_; rintro e w3 ⟨b3, o3, n3, c3, rfl, hc3, hr3, hb3⟩))
          have hT3 : Below wo.heap.size wo w3 := below_next (below_next (Below.drew hTi) hb2 rfl) hb3 rfl
          go_wp2
          go_roundw
          case rel => exact ⟨q + 1, putL (meetL s t) cur, by omega, by go_num, ⟨_, _, _, _, rfl, hc3, hr3⟩, hinv'.putMeet (hinv.2 t HXT.out) s, by rw [← HQ.out, H2.out]; rfl, hT3⟩
          case measure => simp [intOf]; omega
        · have hend : Hid (cur = addTo s out out) := by rw [← HQ.out, ho.drop_end hltq]; rfl
          go_wp2
          go_roundw
          case rel => exact ⟨k + 1, addTo s out out, by omega, by go_num, ⟨_, _, _, _, rfl, hqc, by rw [← hend.out]; exact hcur⟩, hinv.addTo hinv.2, by rw [← H.out, H1.out]; rfl, below_next hT hTi rfl⟩
          case measure => simp [intOf]; omega
    · have hend : Hid (out = systemL n xss) := by rw [← H.out, h.drop_end hlt]; rfl
      go_wp2
      go_ret
      exact ⟨_, rfl, ⟨_, _, _, _, rfl, hoc, by rw [← hend.out]; exact ho⟩, hT⟩

set_option maxHeartbeats 400000 in
theorem l30Size_any (n : Int) (w : World) : Calls Tryz.prog 36 #[.int .i64 n] w fun e w' => e = .returned (.bool (inB n 0 6)) ∧ w = w' := by
  go_enter Tryz.func36, Tryz.ntmps36
  go_wp2_with (go_at_call 65; refine (l1In_any _ _ _ _).mono ?_; rintro e w' ⟨rfl, rfl⟩)
  go_ret
  exact ⟨rfl, rfl⟩
set_option maxHeartbeats 400000 in
theorem isSystemSize_any (n : Int) (w : World) : Calls Tryz.prog 34 #[.int .i64 n] w fun e w' => e = .returned (.bool (inB n 0 6)) ∧ w = w' := by
  unfold inB
  by_cases h : 0 ≤ n
  all_goals
    go_enter Tryz.func34, Tryz.ntmps34
    go_wp2
    go_ret
    exact ⟨ret_bool (by simp; omega), rfl⟩
set_option maxHeartbeats 400000 in
theorem l30Set_any (A : Option Addr) (m c : Nat) (xs : List Int) (n : Int) (w : World) (h : RdL RI w A m xs) (h0 : -1 ≤ n) (h1 : n ≤ 1048576) :
    Calls Tryz.prog 31 #[.int .i64 n, .slice A m c] w (Qt w (.bool (setB n xs))) := by
  go_enter Tryz.func31, Tryz.ntmps31
  go_wp2_with (go_at_call 63; refine (l1Rising_any _ _ _ _ _ _ _ h).mono ?_; rintro e w' ⟨rfl, z, rfl⟩)
  go_ret
  exact ⟨rfl, (by first | exact Drawn.zero _ | exact Drawn.at_ _ _ | exact (Drawn.at_ _ _).more _ | exact ((Drawn.at_ _ _).more _).more _)⟩

def allSets (n : Int) : List (List Int) → Bool
  | [] => true
  | s :: l => setB n s && allSets n l
theorem allSets_iff {n : Nat} : ∀ {xss : List (List Int)}, allSets n xss = true ↔ ∀ p ∈ xss, IsSet n p
  | [] => by simp [allSets]
  | s :: l => by simp [allSets, allSets_iff (xss := l), setB_iff]

theorem good_no {n : Nat} {xss : List (List Int)} (h : false = allSets n xss) : false = sysB n xss := by
  rcases e : sysB n xss with _ | _
  · rfl
  · have := allSets_iff.2 (sysB_iff.1 e).1.2
    rw [this] at h
    exact h
theorem good_eq {n : Nat} {xss : List (List Int)} (h : true = allSets n xss) : sysB n xss = eqLL (systemL n xss) xss := by
  rw [Bool.eq_iff_iff, sysB_iff, eqLL_iff, isSys_iff (allSets_iff.1 h.symm)]

set_option maxHeartbeats 1000000 in
theorem l30Good_any (A : Option Addr) (n m c : Nat) (xss : List (List Int)) (w : World) (h : RdL (RV RI) w A m xss) (hn : n ≤ 6) :
    Calls Tryz.prog 30 #[.int .i64 n, .slice A m c] w (Bl w (.bool (sysB n xss))) := by
  have hle := h.le
  have hlen := Lib.hid h.len
  have hin : inB n 0 6 = true := by unfold inB; simp; omega
  obtain ⟨N, hN, HN⟩ : ∃ N : Nat, wrap64 (2 ^ n) = (N : Int) ∧ Hid (N = 2 ^ n) := by
    have h1 := Nat.pow_le_pow_right (n := 2) (by omega) hn
    have e : (2 : Int) ^ n = ((2 ^ n : Nat) : Int) := by simp
    refine ⟨2 ^ n, ?_, rfl⟩
    rw [e]
    generalize 2 ^ n = N at h1
    exact IntWalk.wrap64_in _ ⟨by omega, by omega⟩
  by_cases h0 : m = 0
  · have h00 : ((m : Int) == 0) = true := by simp [h0]
    have HF : Hid (sysB n xss = false) := by
      show _ = _
      have : xss = [] := List.eq_nil_of_length_eq_zero (by rw [hlen.out, h0])
      rw [this]
      rfl
    clear h0
    go_enter Tryz.func30, Tryz.ntmps30
    go_wp2_with (go_at_call 36; refine (l30Size_any _ _).mono ?_; rintro e w' ⟨rfl, rfl⟩)
    go_ret
    exact ⟨ret_bool HF.out.symm, Below.refl _ _⟩
  · have h00 : ((m : Int) == 0) = false := by simp [h0]
    clear h0
    by_cases hmN : N < m
    · have HF : Hid (sysB n xss = false) := by
        show _ = _
        rcases e : sysB n xss with _ | _
        · rfl
        · have hs := sysB_iff.1 e
          have := sets_len hs.1.1 hs.1.2
          rw [hlen.out, ← HN.out] at this
          omega
      go_enter Tryz.func30, Tryz.ntmps30
      go_wp2_with (go_at_call 36; refine (l30Size_any _ _).mono ?_; rintro e w' ⟨rfl, rfl⟩)
      go_ret
      exact ⟨ret_bool HF.out.symm, Below.refl _ _⟩
    · go_enter Tryz.func30, Tryz.ntmps30
      go_wp2_with (go_at_call 36; refine (l30Size_any _ _).mono ?_; rintro e w' ⟨rfl, rfl⟩)
      clear hN
      go_loopw [5] (fun i wr => ∃ k : Nat, k ≤ m ∧ i = .int .i64 k ∧ At (allSets n) xss k ∧ Drawn w wr) (fun i _ => m - (intOf i).toNat)
      case atStart => exact ⟨0, Nat.zero_le _, rfl, rfl, Drawn.zero _⟩
      case round =>
        obtain ⟨k, hk, rfl, H, z, rfl⟩ := hrel
        by_cases hlt : k < m
        · obtain ⟨b, o, v, s, rfl, hc, ⟨B, j, d, rfl, hs⟩, hd, -⟩ := h.at hlt
          have H1 := Lib.hid hd
          clear hd
          go_wp2_with (go_at_call 31; refine (l30Set_any _ _ _ _ _ _ (hs.drewN stab_RI _) (by omega) (by omega)).mono ?_; rintro e w' ⟨rfl, z', rfl⟩)
          all_goals first
            | (go_ret
               exact ⟨ret_bool (good_no (H.stop H1.out (by rw [allSets, show setB n s = false from (by first | assumption | exact bf1 (by assumption) | exact bf2 (by assumption) | exact nef (by assumption) | exact nefc (by assumption) | exact eqc (by assumption))]; rfl))), (by first | exact Below.refl _ _ | exact below_drewN (Below.refl _ _) _ | exact below_drewN (below_drewN (Below.refl _ _) _) _ | exact below_drewN (below_drewN (below_drewN (Below.refl _ _) _) _) _)⟩)
            | (go_roundw
               case rel => exact ⟨k + 1, by omega, by go_num, H.step H1.out (by rw [allSets, show setB n s = true from (by first | assumption | exact bt2 (by assumption) | exact net (by assumption) | exact netc (by assumption) | exact eqc (by assumption))]; rfl), (by first | exact Drawn.zero _ | exact Drawn.at_ _ _ | exact (Drawn.at_ _ _).more _ | exact ((Drawn.at_ _ _).more _).more _)⟩
               case measure => simp [intOf]; omega)
        · have HA := Lib.hid (H.done (h.drop_end hlt) rfl)
          go_wp2_with fail
          refine (l30System_any _ _ _ _ _ _ (h.drewN stab_RVI _) hn).mono ?_
          rintro e w2 ⟨v, rfl, ⟨sb, so, sn, sc, rfl, hsc, hs⟩, hb2⟩
          have hT2 : Below w.heap.size w w2 := below_next (below_drewN (Below.refl _ _) _) hb2 rfl
          replace h := h.next stab_RVI hT2
          have hsle := hs.le
          have hslen := Lib.hid hs.len
          have HG := Lib.hid (good_eq HA.out)
          by_cases hsm : sn = m
          · subst hsm
            go_wp2_with fail
            go_loopw [7] (fun i wr => ∃ k : Nat, k ≤ sn ∧ i = .int .i64 k ∧ At2 eqLL (systemL n xss) xss k ∧ Drawn w2 wr) (fun i _ => sn - (intOf i).toNat)
            case atStart => exact ⟨0, Nat.zero_le _, rfl, rfl, Drawn.zero _⟩
            case round =>
              obtain ⟨q, hq, rfl, HQ, z2, rfl⟩ := hrel
              by_cases hltq : q < sn
              · obtain ⟨v, x, hc, ⟨P, p, pc, rfl, hx⟩, hd, -⟩ := hs.at' hltq
                obtain ⟨b', o', v', y, rfl, hc', ⟨P', p', q', rfl, hy⟩, hd', -⟩ := h.at hltq
                have H1 := Lib.hid hd
                have H2 := Lib.hid hd'
                clear hd hd'
                go_wp2
                go_quiet ((go_at_call 45; exact quiet_add (l1Same_any _ _ _ _ _ _ _ _ _ (hx.drewN stab_RI _) (hy.drewN stab_RI _))))
                go_wp2
                all_goals first
                  | (go_ret
                     exact ⟨ret_bool (by rw [HG.out]; exact HQ.stop H1.out H2.out (by rw [eqLL, show eqL x y = false from (by first | assumption | exact bf1 (by assumption) | exact bf2 (by assumption) | exact nef (by assumption) | exact nefc (by assumption) | exact eqc (by assumption))]; rfl)), (by first | exact hT2 | exact below_drewN (hT2) _ | exact below_drewN (below_drewN (hT2) _) _ | exact below_drewN (below_drewN (below_drewN (hT2) _) _) _)⟩)
                  | (go_roundw
                     case rel => exact ⟨q + 1, by omega, by go_num, HQ.step H1.out H2.out (by rw [eqLL, show eqL x y = true from (by first | assumption | exact bt2 (by assumption) | exact net (by assumption) | exact netc (by assumption) | exact eqc (by assumption))]; rfl), (by first | exact Drawn.zero _ | exact Drawn.at_ _ _ | exact (Drawn.at_ _ _).more _ | exact ((Drawn.at_ _ _).more _).more _)⟩
                     case measure => simp [intOf]; omega)
              · go_wp2
                go_ret
                exact ⟨ret_bool (by rw [HG.out]; exact HQ.done (hs.drop_end hltq) (h.drop_end hltq) rfl), below_drewN hT2 _⟩
          · have hne : ((sn : Int) != (m : Int)) = true := by rw [bne_iff_ne]; omega
            go_wp2_with fail
            go_ret
            exact ⟨ret_bool (by rw [HG.out]; exact eqLL_len (by rw [hslen.out, hlen.out]; exact hsm)), hT2⟩
end Go.Proofs.YtlncpabnlnipoaaGreat
