
/- Walks: the columns that a set of rows has (program and reference). Printed by genrp.py. -/
import Derived.Test.YtcihgkdaogfabaaCtxV
import Derived.Test.YtcihgkdaogfabaaCtxG
namespace Go.Proofs.Ytcihgkdaogfabaa
open Go.RowKit

theorem allR_snoc (F : List (List Bool)) (S : List Int) (x : Int) (c : Nat) : allR F (S ++ [x]) c = (allR F S c && cel F x.toNat c) := by simp [allR]
theorem rpTo_len (F : List (List Bool)) (S : List Int) : ∀ n, (rpTo F S n).length ≤ n
  | 0 => Nat.le_refl _
  | n + 1 => by
    have := rpTo_len F S n
    rw [rpTo, List.length_append]
    split
    · simp; omega
    · simp; omega
theorem rp_yes {F : List (List Bool)} {S : List Int} {k : Nat} (h : allR F S k = true) : rpTo F S (k + 1) = rpTo F S k ++ [(k : Int)] := by rw [rpTo, if_pos h]
theorem rp_no {F : List (List Bool)} {S : List Int} {k : Nat} (h : allR F S k = false) : rpTo F S (k + 1) = rpTo F S k := by rw [rpTo, if_neg (by rw [h]; decide), List.append_nil]
set_option maxRecDepth 20000 in
set_option maxHeartbeats 4000000 in
theorem l30Row_any (A B : Option Addr) (q0 n c m d : Nat) (F : List (List Bool)) (S : List Int) (w : World) (h : RdL (RV RB) w A q0 F) (h' : RdL RI w B m S) (hF : ∀ row ∈ F, row.length = colN F) (hq : colN F = n) (hS : ∀ x ∈ S, 0 ≤ x ∧ x < (q0 : Int)) (hn : n ≤ 1048576) :
    Calls Try.prog 42 #[.slice A q0 c, .slice B m d] w (OwnR w (rpTo F S n)) := by
  have hle : n ≤ 9223372036854775807 := by omega
  have hle0 := h.le
  have hle' := h'.le
  have HF := Lib.hid hF
  have HS := Lib.hid hS
  have hb0 := below_box w (.cells #[] 3)
  have hown0 : (w.alloc (.cells #[] 3)).ownsRow w.heap.size 3 1 (.slice (some ⟨w.heap.size, 0, none⟩) 0 0) 0 (ints []) := World.ownsRow_lit w #[] 0 (Nat.le_refl _) (Nat.zero_le _) rfl
  have HQ := Lib.hid hq
  clear hF hS hq
  go_enter Try.func42, Try.ntmps42
  go_wp2_with fail
  go_loopw [5, 6, 7, 8] (fun v i _ _ wr => ∃ k : Nat, k ≤ n ∧ i = .int .i64 k ∧ GatP w wr v (rpTo F S k)) (fun _ i _ _ _ => n - (intOf i).toNat)
  case atStart => exact ⟨0, Nat.zero_le _, rfl, _, 0, rfl, hown0, hb0⟩
  case round =>
    clear hown0 hb0
    obtain ⟨k, hk, rfl, A', c', rfl, hown, hT⟩ := hrel
    by_cases hlt : k < n
    · have hk0 : (0 : Int) ≤ (k : Int) := by omega
      have hk1 : (k : Int) < (n : Int) := by omega
      have hpl := rpTo_len F S k
      have HPY := Lib.hid (@rp_yes F S k)
      have HPN := Lib.hid (@rp_no F S k)
      obtain ⟨acc, HA⟩ : ∃ acc, Hid (rpTo F S k = acc) := ⟨_, rfl⟩
      rw [HA.out] at hown hpl HPY HPN ⊢
      have hFr := h.next (stab_RV stab_RB) hT
      have HCO := Lib.hid (l30Columns_any A q0 c F wr hFr)
      rw [HQ.out] at HCO
      have hSr := h'.next stab_RI hT
      obtain ⟨wo, HWO⟩ : ∃ wo : World, wo = wr := ⟨_, rfl⟩
      subst HWO
      go_wp2_with fail
      refine HCO.out.mono ?_
      rintro e w9 ⟨rfl, rfl⟩
      go_wp2_with fail
      go_loopw [7, 8] (fun f i wi => ∃ j : Nat, j ≤ m ∧ i = .int .i64 j ∧ f = .bool (allR F (S.take j) k) ∧ Drawn wo wi) (fun _ i _ => m - (intOf i).toNat)
      case atStart => exact ⟨0, Nat.zero_le _, rfl, rfl, Drawn.zero _⟩
      case round =>
        obtain ⟨j, hj, rfl, rfl, z, rfl⟩ := hrel
        by_cases hltj : j < m
        · have hj0 : (0 : Int) ≤ (j : Int) := by omega
          have hj1 : (j : Int) < (m : Int) := by omega
          obtain ⟨b2, o2, v2, x, rfl, hc2, ⟨rfl, -⟩, -, hx2⟩ := hSr.at hltj
          have hxr := HS.out x (List.mem_of_getElem? hx2)
          obtain ⟨x, rfl⟩ := Int.eq_ofNat_of_zero_le hxr.1
          have hxq : x < q0 := by omega
          obtain ⟨b1, o1, v1, row, rfl, hck, ⟨R, q, dq, rfl, hr⟩, -, hx⟩ := hFr.at hxq
          have hql : q = n := by rw [← hr.len, HF.out row (List.mem_of_getElem? hx), HQ.out]
          have hx0 : (0 : Int) ≤ (x : Int) := by omega
          have hx1 : (x : Int) < (q0 : Int) := by omega
          have hkq : (k : Int) < (q : Int) := by omega
          have hleq := hr.le
          obtain ⟨b3, o3, v3, cb, rfl, hc3, rfl, -, hx3⟩ := hr.at (k := k) (by omega)
          have HTK : Hid (allR F (S.take (j + 1)) k = (allR F (S.take j) k && cb)) := by
            show _ = _
            rw [take_snocL hx2, allR_snoc, Int.toNat_natCast, cel_row hx hx3]
          obtain ⟨al, HAL⟩ : ∃ al, Hid (allR F (S.take j) k = al) := ⟨_, rfl⟩
          rw [HAL.out] at HTK ⊢
          clear hx2 hx3 hxr hx hr hql
          rcases al with _ | _
          · have HT2 : Hid (allR F (S.take (j + 1)) k = false) := by show _ = _; rw [HTK.out, Bool.false_and]
            go_wp2_with fail
            go_roundw
            case rel => exact ⟨j + 1, by omega, by go_num, by rw [HT2.out], (by first | exact Drawn.zero _ | exact Drawn.at_ _ _ | exact (Drawn.at_ _ _).more _ | exact ((Drawn.at_ _ _).more _).more _)⟩
            case measure => simp [intOf]; omega
          · have HT2 : Hid (allR F (S.take (j + 1)) k = cb) := by show _ = _; rw [HTK.out, Bool.true_and]
            go_wp2_with fail
            go_roundw
            case rel => exact ⟨j + 1, by omega, by go_num, by rw [HT2.out], (by first | exact Drawn.zero _ | exact Drawn.at_ _ _ | exact (Drawn.at_ _ _).more _ | exact ((Drawn.at_ _ _).more _).more _)⟩
            case measure => simp [intOf]; omega
        · have hj1 : ¬ (j : Int) < (m : Int) := by omega
          have HTE : Hid (S.take j = S) := List.take_of_length_le (by rw [h'.len]; omega)
          rw [HTE.out]
          have hT2 := below_drewN hT z
          have hown2 := own_drewN hown z
          have hbase := hT2.size
          obtain ⟨al, HAL⟩ : ∃ al, Hid (allR F S k = al) := ⟨_, rfl⟩
          rw [HAL.out]
          rcases al with _ | _
          · have HPK := Lib.hid (HPN.out HAL.out)
            go_wp2_with fail
            go_roundw
            case rel => exact ⟨k + 1, by omega, by go_num, by rw [HPK.out]; exact ⟨A', c', rfl, hown2, hT2⟩⟩
            case measure => simp [intOf]; omega
          · have HPK := Lib.hid (HPY.out HAL.out)
            obtain ⟨w3, hw3⟩ : ∃ w3, w3 = wo.drewN z := ⟨_, rfl⟩
            rw [← hw3] at hown2 hT2 hbase ⊢
            clear hw3
            go_wp2_with (at_builtin; refine app1 w3 rfl _ _ 25 3 rfl (.int .i64 0) 8 Try.underlying25 info_int rfl (by decide) w.heap.size acc.length c' A' (ints acc) rfl hown2 (.int .i64 k) rfl rfl (by omega) hbase ?_; intro A2 c2 w4 hown4 hg4 hb4)
            go_roundw
            case rel =>
              refine ⟨k + 1, by omega, by go_num, ?_⟩
              rw [HPK.out]
              refine ⟨A2, c2, by rw [List.length_append]; rfl, ?_, hT2.trans hb4⟩
              rw [List.length_append, ← ints_snocC]
              exact hown4
            case measure => simp [intOf]; omega
    · obtain rfl : k = n := by omega
      have hk1 : ¬ (k : Int) < (k : Int) := by omega
      have HCO := Lib.hid (l30Columns_any A q0 c F wr (h.next (stab_RV stab_RB) hT))
      rw [HQ.out] at HCO
      have HO := Lib.hid hown
      clear hown
      go_wp2_with fail
      refine HCO.out.mono ?_
      rintro e w9 ⟨rfl, rfl⟩
      go_wp2_with fail
      go_ret
      exact ⟨A', _, c', rfl, HO.out, hT⟩
set_option maxHeartbeats 1000000 in
theorem cloRow_any (A : Option Addr) (n c g x y : Nat) (F : List (List Bool)) (w : World) (h : RdL (RV RB) w A n F) (hF : ∀ row ∈ F, row.length = colN F) (hx : x < n) (hy : y < colN F) (cg : w.cell? ⟨g, 0, none⟩ = some (.slice A n c)) :
    Calls Try.prog 39 #[.int .i64 x, .int .i64 y, .pointer (some ⟨g, 0, none⟩)] w fun e w' => e = .returned (.bool (cel F x y)) ∧ w = w' := by
  have hle := h.le
  obtain ⟨b, o, v, row, rfl, hck, ⟨R, q, dq, rfl, hr⟩, -, hxr⟩ := h.at hx
  have hq : q = colN F := by rw [← hr.len]; exact hF row (List.mem_of_getElem? hxr)
  have hyq : y < q := by omega
  obtain ⟨b3, o3, v3, cb, rfl, hc3, rfl, -, hx3⟩ := hr.at hyq
  have HC := Lib.hid (cel_row hxr hx3)
  have hle2 := hr.le
  have hx0 : (0 : Int) ≤ (x : Int) := by omega
  have hx1 : (x : Int) < (n : Int) := by omega
  have hy0 : (0 : Int) ≤ (y : Int) := by omega
  have hy1 : (y : Int) < (q : Int) := by omega
  clear hq hx hxr hx3 hF
  go_enter Try.func39, Try.ntmps39
  go_wp2
  go_ret
  exact ⟨ret_bool (by rw [HC.out]), rfl⟩
set_option maxRecDepth 20000 in
set_option maxHeartbeats 4000000 in
theorem polarR_any (A B : Option Addr) (q n c m d g : Nat) (F : List (List Bool)) (S : List Int) (w : World) (h : RdL (RV RB) w A q F) (h' : RdL RI w B m S) (hF : ∀ row ∈ F, row.length = colN F) (hq : colN F = n) (hS : ∀ x ∈ S, 0 ≤ x ∧ x < (q : Int)) (hn : n ≤ 1048576) (cg : w.cell? ⟨g, 0, none⟩ = some (.slice A q c)) :
    Calls Try.prog 37 #[.int .i64 n, .slice B m d, .func (.func 39) #[] #[.pointer (some ⟨g, 0, none⟩)]] w (OwnR w (rpTo F S n)) := by
  have hle : n ≤ 9223372036854775807 := by omega
  have hle' := h'.le
  have HF := Lib.hid hF
  have HS := Lib.hid hS
  have hb0 := below_box w (.cells #[] 3)
  have hown0 : (w.alloc (.cells #[] 3)).ownsRow w.heap.size 3 1 (.slice (some ⟨w.heap.size, 0, none⟩) 0 0) 0 (ints []) := World.ownsRow_lit w #[] 0 (Nat.le_refl _) (Nat.zero_le _) rfl
  have HQ := Lib.hid hq
  clear hF hS hq
  go_enter Try.func37, Try.ntmps37
  go_wp2_with fail
  go_loopw [7, 8, 9] (fun v i _ wr => ∃ k : Nat, k ≤ n ∧ i = .int .i64 k ∧ GatP w wr v (rpTo F S k)) (fun _ i _ _ => n - (intOf i).toNat)
  case atStart => exact ⟨0, Nat.zero_le _, rfl, _, 0, rfl, hown0, hb0⟩
  case round =>
    clear hown0 hb0
    obtain ⟨k, hk, rfl, A', c', rfl, hown, hT⟩ := hrel
    by_cases hlt : k < n
    · have hk0 : (0 : Int) ≤ (k : Int) := by omega
      have hk1 : (k : Int) < (n : Int) := by omega
      have hpl := rpTo_len F S k
      have HPY := Lib.hid (@rp_yes F S k)
      have HPN := Lib.hid (@rp_no F S k)
      obtain ⟨acc, HA⟩ : ∃ acc, Hid (rpTo F S k = acc) := ⟨_, rfl⟩
      rw [HA.out] at hown hpl HPY HPN ⊢
      have hr := h.next (stab_RV stab_RB) hT
      have hSr := h'.next stab_RI hT
      have cgr := keepS hT cg
      obtain ⟨wo, HWO⟩ : ∃ wo : World, wo = wr := ⟨_, rfl⟩
      subst HWO
      go_wp2_with fail
      go_loopw [9, 20] (fun f i wi => ∃ j : Nat, j ≤ m ∧ i = .int .i64 j ∧ f = .bool (allR F (S.take j) k) ∧ wi = wo) (fun _ i _ => m - (intOf i).toNat)
      case atStart => exact ⟨0, Nat.zero_le _, rfl, rfl, rfl⟩
      case round =>
        obtain ⟨j, hj, rfl, rfl, rfl⟩ := hrel
        by_cases hltj : j < m
        · have hj0 : (0 : Int) ≤ (j : Int) := by omega
          have hj1 : (j : Int) < (m : Int) := by omega
          obtain ⟨b2, o2, v2, x, rfl, hc2, ⟨rfl, -⟩, -, hx2⟩ := hSr.at hltj
          have hxr := HS.out x (List.mem_of_getElem? hx2)
          obtain ⟨x, rfl⟩ := Int.eq_ofNat_of_zero_le hxr.1
          have HCL := Lib.hid (cloRow_any A q c g x k F wr hr HF.out (by omega) (by rw [HQ.out]; exact hlt) cgr)
          have HTK : Hid (allR F (S.take (j + 1)) k = (allR F (S.take j) k && cel F x k)) := by
            show _ = _
            rw [take_snocL hx2, allR_snoc, Int.toNat_natCast]
          obtain ⟨al, HAL⟩ : ∃ al, Hid (allR F (S.take j) k = al) := ⟨_, rfl⟩
          rw [HAL.out] at HTK ⊢
          clear hx2 hxr
          rcases al with _ | _
          · have HT2 : Hid (allR F (S.take (j + 1)) k = false) := by show _ = _; rw [HTK.out, Bool.false_and]
            go_wp2_with fail
            go_roundw
            case rel => exact ⟨j + 1, by omega, by go_num, by rw [HT2.out], by first | rfl | trivial⟩
            case measure => simp [intOf]; omega
          · have HT2 : Hid (allR F (S.take (j + 1)) k = cel F x k) := by show _ = _; rw [HTK.out, Bool.true_and]
            go_wp2_with fail
            refine HCL.out.mono ?_
            rintro e w5 ⟨rfl, rfl⟩
            go_wp2_with fail
            go_roundw
            case rel => exact ⟨j + 1, by omega, by go_num, by rw [HT2.out], by first | rfl | trivial⟩
            case measure => simp [intOf]; omega
        · have hj1 : ¬ (j : Int) < (m : Int) := by omega
          have HTE : Hid (S.take j = S) := List.take_of_length_le (by rw [h'.len]; omega)
          rw [HTE.out]
          have hbase := hT.size
          obtain ⟨al, HAL⟩ : ∃ al, Hid (allR F S k = al) := ⟨_, rfl⟩
          rw [HAL.out]
          rcases al with _ | _
          · have HPK := Lib.hid (HPN.out HAL.out)
            go_wp2_with fail
            go_roundw
            case rel => exact ⟨k + 1, by omega, by go_num, by rw [HPK.out]; exact ⟨A', c', rfl, hown, hT⟩⟩
            case measure => simp [intOf]; omega
          · have HPK := Lib.hid (HPY.out HAL.out)
            go_wp2_with (at_builtin; refine app1 wr rfl _ _ 25 3 rfl (.int .i64 0) 8 Try.underlying25 info_int rfl (by decide) w.heap.size acc.length c' A' (ints acc) rfl hown (.int .i64 k) rfl rfl (by omega) hbase ?_; intro A2 c2 w4 hown4 hg4 hb4)
            go_roundw
            case rel =>
              refine ⟨k + 1, by omega, by go_num, ?_⟩
              rw [HPK.out]
              refine ⟨A2, c2, by rw [List.length_append]; rfl, ?_, hT.trans hb4⟩
              rw [List.length_append, ← ints_snocC]
              exact hown4
            case measure => simp [intOf]; omega
    · obtain rfl : k = n := by omega
      have hk1 : ¬ (k : Int) < (k : Int) := by omega
      have HO := Lib.hid hown
      clear hown
      go_wp2_with fail
      go_ret
      exact ⟨A', _, c', rfl, HO.out, hT⟩
end Go.Proofs.Ytcihgkdaogfabaa
