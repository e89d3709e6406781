
/- Walks of MeetIrreducibleSets, in the program and in the reference. -/
import Derived.Test.YtlncpabnlnipoaaGreatIrr
namespace Go.Proofs.YtlncpabnlnipoaaGreat
open Go.RowKit

set_option maxHeartbeats 1000000 in
theorem implIrr_any (A : Option Addr) (m c : Nat) (xss : List (List Int)) (n : Int) (w : World) (h : RdL (RV RI) w A m xss) (hm : m ≤ c) (hm2 : ∀ xs ∈ xss, xs.length ≤ 1048576) :
    Calls Tryz.prog 12 #[.int .i64 n, .slice A m c] w (OwnMB w (irrRes n xss) (sysRes n xss)) := by
  rcases h1 : sysRes n xss with _ | _
  · have H1 := Lib.hid h1
    clear h1
    go_enter Tryz.func12, Tryz.ntmps12
    go_wp2_with fail
    refine (hasSystem_any _ _ _ _ _ _ h hm hm2).mono ?_
    rintro e w1 ⟨rfl, hb1⟩
    rw [H1.out]
    go_wp2_with fail
    go_ret2
    exact ⟨_, 0, 0, rfl, by unfold irrRes; rw [H1.out]; exact mat_lit hb1, below_next hb1 (below_box _ _) rfl⟩
  · have hr := sysRes_range h1
    obtain ⟨n, rfl⟩ := Int.eq_ofNat_of_zero_le hr.1
    obtain ⟨hn6, hsys⟩ := sysRes_iff h1
    have HS := Lib.hid hsys
    have H1 := Lib.hid h1
    have HR : Hid (irrRes n xss = irr n xss xss.dropLast) := by show _ = _; unfold irrRes; rw [h1]; rfl
    have hlen := Lib.hid h.len
    have hm64 : m ≤ 64 := by rw [← hlen.out]; exact inv_len hsys.1 hn6
    obtain ⟨m, rfl⟩ : ∃ m', m = m' + 1 := by
      have := List.length_pos_of_mem hsys.2.2
      rw [h.len] at this
      exact ⟨m - 1, by omega⟩
    have HDL : Hid (xss.take m = xss.dropLast) := by show _ = _; rw [List.dropLast_eq_take, hlen.out]; rfl
    have hle := h.le
    have hidx : ((m + 1 : Nat) : Int) - 1 = (m : Int) := by omega
    clear h1 hsys
    go_enter Tryz.func12, Tryz.ntmps12
    go_wp2_with fail
    refine (hasSystem_any _ _ _ _ _ _ h hm hm2).mono ?_
    rintro e w1 ⟨rfl, hb1⟩
    rw [H1.out]
    go_wp2_with fail
    have hmc : (m : Int) ≤ (c : Int) := by omega
    have ht0 := h.take (k := m) (by omega)
    rw [HDL.out] at ht0
    go_loopw [6, 24] (fun v i wr => ∃ (k q : Nat) (acc : List (List Int)), k ≤ m ∧ q ≤ k ∧ i = .int .i64 k ∧ Hid (acc ++ irr n xss (xss.dropLast.drop k) = irr n xss xss.dropLast) ∧ MatG w wr v q acc) (fun _ i _ => m - (intOf i).toNat)
    case atStart => exact ⟨0, 0, [], Nat.zero_le _, Nat.le_refl _, rfl, rfl, _, _, rfl, mat_lit hb1, below_next hb1 (below_box _ _) rfl⟩
    case round =>
      clear hb1
      obtain ⟨k, q, acc, hk, hqk, rfl, H, A', c', rfl, hown, hT⟩ := hrel
      replace h := h.next stab_RVI hT
      have ht := ht0.next stab_RVI hT
      by_cases hlt : k < m
      · obtain ⟨b, o, v, s, rfl, hc, ⟨B, j, d, rfl, hs⟩, hd, hx⟩ := ht.at hlt
        have HD := Lib.hid hd
        have hss := HS.out.1.2 s (List.dropLast_subset _ (List.mem_of_getElem? hx))
        have HSS := Lib.hid hss
        have hjl := Lib.hid hs.len
        have hj6 : j ≤ 6 := by have := isSet_len hss; rw [hs.len] at this; omega
        clear hd hx hss ht
        obtain ⟨wo, hwo⟩ : ∃ wo : World, wo = wr := ⟨_, rfl⟩
        subst hwo
        go_wp2_with fail
        refine (identityOf_any n _ (by omega)).mono ?_
        rintro e w2 ⟨g2, rfl, how2, hb2⟩
        have hr2 := rd_of_own (R := RI) how2 (fun x hx => by have := mem_upTo.1 hx; exact ⟨rfl, by omega, by omega⟩)
        clear how2
        go_wp2_with fail
        go_loopw [9, 32] (fun v i wi => ∃ (z p : Nat) (P : Option Addr) (pc : Nat) (cur : List Int), z ≤ m + 1 ∧ i = .int .i64 z ∧ v = .slice P p pc ∧ p ≤ 6 ∧ RdL RI wi P p cur ∧ Hid (metF s (xss.drop z) cur = metF s xss (upTo n)) ∧ Below wo.heap.size wo wi) (fun _ i _ => m + 1 - (intOf i).toNat)
        case atStart => exact ⟨0, n, _, _, upTo n, Nat.zero_le _, rfl, rfl, hn6, hr2, rfl, hb2⟩
        case round =>
          clear hr2 hb2
          obtain ⟨z, p, P, pc, cur, hz, rfl, rfl, hp6, hcur, HF, hTi⟩ := hrel
          have h' := h.next stab_RVI hTi
          have hs' := hs.next stab_RI hTi
          by_cases hltz : z < m + 1
          · obtain ⟨v, t, hct, ⟨Bt, jt, dt, rfl, htt⟩, hdt, hxt⟩ := h'.at' hltz
            have HDT := Lib.hid hdt
            have HST := Lib.hid (HS.out.1.2 t (List.mem_of_getElem? hxt))
            have hjt := Lib.hid htt.len
            have hjt6 : jt ≤ 6 := by have := isSet_len HST.out; rw [hjt.out] at this; omega
            clear hdt hxt
            rcases hp : partL t s with _ | _
            · have HP := Lib.hid hp
              go_wp2_with (go_at_call 39; refine (isPart_any _ _ _ _ _ _ _ _ _ hs' htt).mono ?_; rintro e w' ⟨rfl, rfl⟩)
              go_roundw
              case rel => exact ⟨z + 1, p, P, pc, cur, by omega, by go_num, rfl, hp6, hcur, by rw [← HF.out, HDT.out, metF, if_neg (fun hh => by rw [HP.out] at hh; exact absurd hh.2 (by decide))]; rfl, hTi⟩
              case measure => simp [intOf]; omega
            · have HP := Lib.hid hp
              have HPL := Lib.hid (part_len HSS.out HST.out hp)
              by_cases hjj : j < jt
              · have HNE : Hid (t ≠ s ∧ partL t s = true) := ⟨HPL.out.1 (by rw [hjl.out, hjt.out]; exact hjj), hp⟩
                go_wp2_with (first | (go_at_call 39; refine (isPart_any _ _ _ _ _ _ _ _ _ hs' htt).mono ?_; rintro e w' ⟨rfl, rfl⟩) | (go_at_call 40; refine (meetLists_any _ _ _ _ _ _ _ _ _ hcur htt (by omega)).mono ?_; rintro e w3 ⟨A3, n3, c3, rfl, how3, hb3⟩))
                have hn3 : n3 ≤ 6 := by
                  have h1 := how3.1
                  have h2 := meetL_len t cur
                  have h3 := hcur.len
                  simp [ints] at h1
                  omega
                go_roundw
                case rel => exact ⟨z + 1, n3, A3, c3, meetL t cur, by omega, by go_num, rfl, hn3, rd_of_own (R := RI) how3 (fun x hx => ⟨rfl, meetL_bounds hcur x hx⟩), by rw [← HF.out, HDT.out, metF, if_pos HNE.out]; rfl, below_next hTi hb3 rfl⟩
                case measure => simp [intOf]; omega
              · have HNE : Hid (¬ (t ≠ s ∧ partL t s = true)) := fun hh => hjj (by have := HPL.out.2 hh.1; rwa [hjl.out, hjt.out] at this)
                go_wp2_with (go_at_call 39; refine (isPart_any _ _ _ _ _ _ _ _ _ hs' htt).mono ?_; rintro e w' ⟨rfl, rfl⟩)
                go_roundw
                case rel => exact ⟨z + 1, p, P, pc, cur, by omega, by go_num, rfl, hp6, hcur, by rw [← HF.out, HDT.out, metF, if_neg HNE.out]; rfl, hTi⟩
                case measure => simp [intOf]; omega
          · have HE : Hid (cur = metF s xss (upTo n)) := by show _ = _; rw [← HF.out, h'.drop_end hltz]; rfl
            have HML := Lib.hid (metF_len (l := xss) HSS.out)
            have hpl := Lib.hid hcur.len
            have hT2 : Below w.heap.size w wr := below_next hT hTi rfl
            have hbase := hT2.size
            by_cases hjp : j < p
            · have HNE : Hid (metF s xss (upTo n) ≠ s) := by
                refine HML.out.1 ?_
                rw [hjl.out, ← HE.out, hpl.out]
                exact hjp
              go_wp2_with fail
              refine (clone_any _ _ _ _ _ hs' (by omega)).mono ?_
              rintro e w4 ⟨A4, c4, rfl, how4, hb4⟩
              have hbb := hT2.size
              obtain ⟨vs, hvs, HPU⟩ := ((hown.next hTi).mono (Nat.le_refl _)).push (by decide) hb4 hbb (by rw [hjl.out]; exact how4)
              have hT4 := below_next hT2 hb4 rfl
              have hsz4 := hT4.size
              go_wp2_with (at_builtin; refine app1 w4 rfl _ _ 24 25 rfl (.slice none 0 0) 24 Tryz.underlying24 info_ints rfl (by decide) w.heap.size q c' A' vs rfl hvs (.slice A4 j c4) rfl rfl (by omega) hsz4 ?_; intro A2 c2 w5 hown5 hg5 hb5)
              go_roundw
              case rel => exact ⟨k + 1, q + 1, acc ++ [s], by omega, by omega, by go_num, by show _ = _; rw [← H.out, HD.out, irr, if_pos HNE.out]; simp, A2, c2, rfl, HPU hown5 hg5, hT4.trans hb5⟩
              case measure => simp [intOf]; omega
            · have HNE : Hid (¬ metF s xss (upTo n) ≠ s) := by
                intro hh
                have := HML.out.2 hh
                rw [hjl.out, ← HE.out, hpl.out] at this
                exact hjp this
              go_wp2
              go_roundw
              case rel => exact ⟨k + 1, q, acc, by omega, by omega, by go_num, by show _ = _; rw [← H.out, HD.out, irr, if_neg HNE.out], A', c', rfl, hown.next hTi, hT2⟩
              case measure => simp [intOf]; omega
      · have HE : Hid (acc = irr n xss xss.dropLast) := by
          show _ = _
          rw [← H.out, ht.drop_end hlt, irr, List.append_nil]
        go_wp2
        go_ret2
        exact ⟨A', q, c', rfl, by rw [HR.out, ← HE.out]; exact hown, hT⟩
theorem srt_ne {xss : List (List Int)} (hs : Srt xss) {i k : Nat} {s t : List Int} (hi : xss[i]? = some s) (hk : xss[k]? = some t) : k = i ↔ t = s := by
  obtain ⟨h1, rfl⟩ := List.getElem?_eq_some_iff.1 hi
  obtain ⟨h2, rfl⟩ := List.getElem?_eq_some_iff.1 hk
  constructor
  · intro e
    subst e
    rfl
  · intro e
    have hp := List.pairwise_iff_getElem.1 hs
    rcases Nat.lt_trichotomy k i with hlt | heq | hgt
    · have := hp k i h2 h1 hlt
      rw [e] at this
      exact absurd this (lessT_irr _)
    · exact heq
    · have := hp i k h1 h2 hgt
      rw [e] at this
      exact absurd this (lessT_irr _)
set_option maxHeartbeats 1000000 in
theorem specIrr_any (A : Option Addr) (m c : Nat) (xss : List (List Int)) (n : Int) (w : World) (h : RdL (RV RI) w A m xss) :
    Calls Tryz.prog 13 #[.int .i64 n, .slice A m c] w (RdMB w (irrRes n xss) (sysRes n xss)) := by
  rcases h1 : sysRes n xss with _ | _
  · have H1 := Lib.hid h1
    clear h1
    go_enter Tryz.func13, Tryz.ntmps13
    go_wp2_with fail
    have hb0 := below_box w (.cells #[] 25)
    refine (l30GoodAll_any _ _ _ _ _ _ (h.next stab_RVI hb0)).mono ?_
    rintro e w1 ⟨rfl, hb1⟩
    rw [H1.out]
    go_wp2_with fail
    go_ret2
    exact ⟨_, 0, 0, rfl, by unfold irrRes; rw [H1.out]; exact RdL.nil _ _ _, below_next hb0 hb1 rfl⟩
  · have hr := sysRes_range h1
    obtain ⟨n, rfl⟩ := Int.eq_ofNat_of_zero_le hr.1
    obtain ⟨hn6, hsys⟩ := sysRes_iff h1
    have HS := Lib.hid hsys
    have H1 := Lib.hid h1
    have HR : Hid (irrRes n xss = irr n xss xss.dropLast) := by show _ = _; unfold irrRes; rw [h1]; rfl
    have hlen := Lib.hid h.len
    have hm64 : m ≤ 64 := by rw [← hlen.out]; exact inv_len hsys.1 hn6
    obtain ⟨m, rfl⟩ : ∃ m', m = m' + 1 := by
      have := List.length_pos_of_mem hsys.2.2
      rw [h.len] at this
      exact ⟨m - 1, by omega⟩
    have HDL : Hid (xss.take m = xss.dropLast) := by show _ = _; rw [List.dropLast_eq_take, hlen.out]; rfl
    have hle := h.le
    clear h1 hsys
    have ht0 := h.take (k := m) (by omega)
    rw [HDL.out] at ht0
    go_enter Tryz.func13, Tryz.ntmps13
    go_wp2_with fail
    have hb0 := below_box w (.cells #[] 25)
    refine (l30GoodAll_any _ _ _ _ _ _ (h.next stab_RVI hb0)).mono ?_
    rintro e w1 ⟨rfl, hb1⟩
    rw [H1.out]
    have hml : OwM 25 3 (.int .i64) w.heap.size w1 (.slice (some ⟨w.heap.size, 0, none⟩) 0 0) 0 [] := (mat_lit (Below.refl _ w)).next hb1
    have hbb1 := below_next hb0 hb1 rfl
    go_wp2_with fail
    go_loopw [6, 7, 8, 9] (fun v i _ _ wr => ∃ (k q : Nat) (acc : List (List Int)), k ≤ m ∧ q ≤ k ∧ i = .int .i64 k ∧ Hid (acc ++ irr n xss (xss.dropLast.drop k) = irr n xss xss.dropLast) ∧ MatG w wr v q acc) (fun _ i _ _ _ => m - (intOf i).toNat)
    case atStart => exact ⟨0, 0, [], Nat.zero_le _, Nat.le_refl _, rfl, rfl, _, _, rfl, hml, hbb1⟩
    case round =>
      clear hb0 hb1 hml hbb1
      obtain ⟨k, q, acc, hk, hqk, rfl, H, A', c', rfl, hown, hT⟩ := hrel
      replace h := h.next stab_RVI hT
      have ht := ht0.next stab_RVI hT
      have hsub : (k : Int) < ((m + 1 : Nat) : Int) - 1 ↔ k < m := by omega
      by_cases hlt : k < m
      · obtain ⟨b, o, v, s, rfl, hc, ⟨B, j, d, rfl, hs⟩, hd, hx⟩ := ht.at hlt
        have HD := Lib.hid hd
        have hss := HS.out.1.2 s (List.dropLast_subset _ (List.mem_of_getElem? hx))
        have HSS := Lib.hid hss
        have hjl := Lib.hid hs.len
        have hj6 : j ≤ 6 := by have := isSet_len hss; rw [hs.len] at this; omega
        have HX : Hid (xss[k]? = some s) := by
          show _ = _
          rw [← hx, ← HDL.out, List.getElem?_take_of_lt hlt]
        have hk0 : (0 : Int) ≤ (k : Int) := by omega
        have hk1 : (k : Int) < (m : Int) + 1 := by omega
        clear hd hx hss ht hsub
        obtain ⟨wo, hwo⟩ : ∃ wo : World, wo = wr := ⟨_, rfl⟩
        subst hwo
        go_wp2_with fail
        refine (l6Identity_any n _ (by omega)).mono ?_
        rintro e w2 ⟨A2, c2, rfl, how2, hb2⟩
        have hr2 := rd_of_own (R := RI) how2 (fun x hx => by have := mem_upTo.1 hx; exact ⟨rfl, by omega, by omega⟩)
        clear how2
        go_wp2_with fail
        go_loopw [8, 9] (fun v i wi => ∃ (z p : Nat) (P : Option Addr) (pc : Nat) (cur : List Int), z ≤ m + 1 ∧ i = .int .i64 z ∧ v = .slice P p pc ∧ p ≤ 6 ∧ RdL RI wi P p cur ∧ Hid (metF s (xss.drop z) cur = metF s xss (upTo n)) ∧ Below wo.heap.size wo wi) (fun _ i _ => m + 1 - (intOf i).toNat)
        case atStart => exact ⟨0, n, _, _, upTo n, Nat.zero_le _, rfl, rfl, hn6, hr2, rfl, hb2⟩
        case round =>
          clear hr2 hb2
          obtain ⟨z, p, P, pc, cur, hz, rfl, rfl, hp6, hcur, HF, hTi⟩ := hrel
          have h' := h.next stab_RVI hTi
          have hs' := hs.next stab_RI hTi
          have hcs : wr.cell? ⟨b, o + k, none⟩ = some (.slice B j d) := (hTi.cell (p := ⟨b, o + k, none⟩) (cell_lt hc)).trans hc
          by_cases hltz : z < m + 1
          · obtain ⟨v, t, hct, ⟨Bt, jt, dt, rfl, htt⟩, hdt, hxt⟩ := h'.at' hltz
            have HDT := Lib.hid hdt
            have HNK := Lib.hid (srt_ne HS.out.1.1 HX.out hxt)
            have hz0 : (0 : Int) ≤ (z : Int) := by omega
            have hz1 : (z : Int) < (m : Int) + 1 := by omega
            clear hdt hxt
            by_cases hzk : z = k
            · have HNE : Hid (¬ (t ≠ s ∧ partL t s = true)) := fun hh => hh.1 (HNK.out.1 hzk)
              have hzk' : ((z : Int) != (k : Int)) = false := by simp [hzk]
              clear hzk
              go_wp2
              go_quiet (fail)
              go_wp2
              go_roundw
              case rel => exact ⟨z + 1, p, P, pc, cur, by omega, by go_num, rfl, hp6, hcur.drewN stab_RI _, by rw [← HF.out, HDT.out, metF, if_neg HNE.out]; rfl, below_drewN hTi _⟩
              case measure => simp [intOf]; omega
            · have hzk' : ((z : Int) != (k : Int)) = true := by rw [bne_iff_ne]; omega
              have HZK := Lib.hid (fun hh => hzk (HNK.out.2 hh))
              clear hzk
              rcases hp : partL t s with _ | _
              · have HP := Lib.hid hp
                clear hp
                go_wp2
                go_quiet ((go_at_call 43; exact quiet_one (quiet_same (l5Within_any _ _ _ _ _ _ _ _ _ (hs'.drewN stab_RI _) (htt.drewN stab_RI _)))))
                rw [HP.out]
                go_wp2
                go_roundw
                case rel => exact ⟨z + 1, p, P, pc, cur, by omega, by go_num, rfl, hp6, hcur.drewN stab_RI _, by rw [← HF.out, HDT.out, metF, if_neg (fun hh => by rw [HP.out] at hh; exact absurd hh.2 (by decide))]; rfl, below_drewN hTi _⟩
                case measure => simp [intOf]; omega
              · have HNE : Hid (t ≠ s ∧ partL t s = true) := ⟨HZK.out, hp⟩
                have HP := Lib.hid hp
                clear hp
                go_wp2
                go_quiet ((go_at_call 43; exact quiet_one (quiet_same (l5Within_any _ _ _ _ _ _ _ _ _ (hs'.drewN stab_RI _) (htt.drewN stab_RI _)))))
                rw [HP.out]
                go_wp2_with (go_at_call 44; refine (l30Meet_any _ _ _ _ _ _ _ _ _ (hcur.drewN stab_RI _) (htt.drewN stab_RI _) (by omega)).mono ?_; rintro e w3 ⟨A3, n3, c3, rfl, how3, hb3⟩)
                have hn3 : n3 ≤ 6 := by
                  have h1 := how3.1
                  have h2 := meetL_len t cur
                  have h3 := hcur.len
                  simp [ints] at h1
                  omega
                go_roundw
                case rel => exact ⟨z + 1, n3, A3, c3, meetL t cur, by omega, by go_num, rfl, hn3, rd_of_own (R := RI) how3 (fun x hx => ⟨rfl, meetL_bounds hcur x hx⟩), by rw [← HF.out, HDT.out, metF, if_pos HNE.out]; rfl, below_next (below_drewN hTi _) hb3 rfl⟩
                case measure => simp [intOf]; omega
          · have HE : Hid (cur = metF s xss (upTo n)) := by show _ = _; rw [← HF.out, h'.drop_end hltz]; rfl
            have hT2 : Below w.heap.size w wr := below_next hT hTi rfl
            have hbase := hT2.size
            rcases hq : eqL cur s with _ | _
            · have HNE : Hid (metF s xss (upTo n) ≠ s) := by
                rw [← HE.out]
                intro hh
                rw [hh, eqL_self] at hq
                exact absurd hq (by decide)
              have HQ := Lib.hid hq
              clear hq
              go_wp2_with fail
              refine (l1Same_any _ _ _ _ _ _ _ _ _ hcur hs').mono ?_
              rintro e w' ⟨rfl, zd, rfl⟩
              rw [HQ.out]
              have hcs2 : (wr.drewN zd).cell? ⟨b, o + k, none⟩ = some (.slice B j d) := hcs
              have hT3 := below_drewN hT2 zd
              have hbb := hT3.size
              go_wp2_with fail
              refine (l1Own_any _ _ _ _ _ (hs'.drewN stab_RI _) (by omega)).mono ?_
              rintro e w4 ⟨A4, c4, rfl, how4, hb4⟩
              obtain ⟨vs, hvs, HPU⟩ := (hown.next (below_drewN hTi zd)).push (by decide) hb4 hbb (by rw [hjl.out]; exact how4)
              have hT4 := below_next hT3 hb4 rfl
              have hsz4 := hT4.size
              go_wp2_with (at_builtin; refine app1 w4 rfl _ _ 24 25 rfl (.slice none 0 0) 24 Tryz.underlying24 info_ints rfl (by decide) w.heap.size q c' A' vs rfl hvs (.slice A4 j c4) rfl rfl (by omega) hsz4 ?_; intro A2 c2 w5 hown5 hg5 hb5)
              go_roundw
              case rel => exact ⟨k + 1, q + 1, acc ++ [s], by omega, by omega, by go_num, by show _ = _; rw [← H.out, HD.out, irr, if_pos HNE.out]; simp, A2, c2, rfl, HPU hown5 hg5, hT4.trans hb5⟩
              case measure => simp [intOf]; omega
            · have HNE : Hid (¬ metF s xss (upTo n) ≠ s) := by
                rw [← HE.out]
                exact fun hh => hh (eqL_iff.1 hq)
              have HQ := Lib.hid hq
              clear hq
              go_wp2_with fail
              refine (l1Same_any _ _ _ _ _ _ _ _ _ hcur hs').mono ?_
              rintro e w' ⟨rfl, zd, rfl⟩
              rw [HQ.out]
              go_wp2
              go_roundw
              case rel => exact ⟨k + 1, q, acc, by omega, by omega, by go_num, by show _ = _; rw [← H.out, HD.out, irr, if_neg HNE.out], A', c', rfl, hown.next (below_drewN hTi zd), below_drewN hT2 _⟩
              case measure => simp [intOf]; omega
      · have HE : Hid (acc = irr n xss xss.dropLast) := by
          show _ = _
          rw [← H.out, ht.drop_end hlt, irr, List.append_nil]
        go_wp2
        go_ret2
        refine ⟨A', q, c', rfl, ?_, hT⟩
        rw [HR.out, ← HE.out]
        exact hown.rd (R := RI) (fun p hp x hx => by
          rw [HE.out] at hp
          have hb := (HS.out.1.2 p (List.dropLast_subset _ (mem_irr hp))).2 x hx
          exact ⟨rfl, by omega, by omega⟩)
end Go.Proofs.YtlncpabnlnipoaaGreat
