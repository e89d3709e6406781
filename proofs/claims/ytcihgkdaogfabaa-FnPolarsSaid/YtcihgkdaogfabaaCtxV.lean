
/- Walks: the rows that have a set of columns (program and reference). -/
import Derived.Test.YtcihgkdaogfabaaCtxW
namespace Go.Proofs.Ytcihgkdaogfabaa
open Go.RowKit

theorem boxes1c (w : World) (cp : Array Value) (tp : TypeId) : ∃ w3, w3 = w.alloc (.cells cp tp) ∧ Below w.heap.size w w3 ∧ w3.heap.size = w.heap.size + 1 ∧ Blk w3 w.heap.size tp cp := ⟨_, rfl, below_box _ _, by simp, Blk.new _ _ _⟩
theorem allC_snoc (F : List (List Bool)) (S : List Int) (x : Int) (r : Nat) : allC F (S ++ [x]) r = (allC F S r && cel F r x.toNat) := by simp [allC]
theorem cel_row {F : List (List Bool)} {r : Nat} {row : List Bool} {c : Nat} {b : Bool} (h1 : F[r]? = some row) (h2 : row[c]? = some b) : cel F r c = b := by
  unfold cel
  simp [List.getD, h1, h2]
theorem polTo_len (F : List (List Bool)) (S : List Int) : ∀ n, (polTo F S n).length ≤ n
  | 0 => Nat.le_refl _
  | n + 1 => by
    have := polTo_len F S n
    rw [polTo, List.length_append]
    split
    · simp; omega
    · simp; omega
theorem pol_yes {F : List (List Bool)} {S : List Int} {k : Nat} (h : allC F S k = true) : polTo F S (k + 1) = polTo F S k ++ [(k : Int)] := by rw [polTo, if_pos h]
theorem pol_no {F : List (List Bool)} {S : List Int} {k : Nat} (h : allC F S k = false) : polTo F S (k + 1) = polTo F S k := by rw [polTo, if_neg (by rw [h]; decide), List.append_nil]
theorem ints_snocC (xs : List Int) (y : Int) : ints xs ++ [.int .i64 y] = ints (xs ++ [y]) := by simp [ints]
/-- The list being gathered. -/
def GatP (w wr : World) (v : Value) (acc : List Int) : Prop := ∃ A c, v = .slice A acc.length c ∧ wr.ownsRow w.heap.size 3 1 (.slice A acc.length c) acc.length (ints acc) ∧ Below w.heap.size w wr
set_option maxRecDepth 20000 in
set_option maxHeartbeats 4000000 in
theorem l30Column_any (A B : Option Addr) (n c m d : Nat) (F : List (List Bool)) (S : List Int) (w : World) (h : RdL (RV RB) w A n F) (h' : RdL RI w B m S) (hF : ∀ row ∈ F, row.length = colN F) (hS : ∀ x ∈ S, 0 ≤ x ∧ x < (colN F : Int)) (hn : n ≤ 1048576) :
    Calls Try.prog 48 #[.slice A n c, .slice B m d] w (OwnR w (polTo F S n)) := by
  have hle := h.le
  have hle' := h'.le
  have HF := Lib.hid hF
  have HS := Lib.hid hS
  have hb0 := below_box w (.cells #[] 3)
  have hown0 : (w.alloc (.cells #[] 3)).ownsRow w.heap.size 3 1 (.slice (some ⟨w.heap.size, 0, none⟩) 0 0) 0 (ints []) := World.ownsRow_lit w #[] 0 (Nat.le_refl _) (Nat.zero_le _) rfl
  clear hF hS
  go_enter Try.func48, Try.ntmps48
  go_wp2_with fail
  go_loopw [5, 6, 7, 8] (fun v i _ _ wr => ∃ k : Nat, k ≤ n ∧ i = .int .i64 k ∧ GatP w wr v (polTo F S k)) (fun _ i _ _ _ => n - (intOf i).toNat)
  case atStart => exact ⟨0, Nat.zero_le _, rfl, _, 0, rfl, hown0, hb0⟩
  case round =>
    clear hown0 hb0
    obtain ⟨k, hk, rfl, A', c', rfl, hown, hT⟩ := hrel
    by_cases hlt : k < n
    · have hk0 : (0 : Int) ≤ (k : Int) := by omega
      have hk1 : (k : Int) < (n : Int) := by omega
      have hpl := polTo_len F S k
      have HPY := Lib.hid (@pol_yes F S k)
      have HPN := Lib.hid (@pol_no F S k)
      obtain ⟨acc, HA⟩ : ∃ acc, Hid (polTo F S k = acc) := ⟨_, rfl⟩
      rw [HA.out] at hown hpl HPY HPN ⊢
      obtain ⟨b, o, v, row, rfl, hck, ⟨R, q, dq, rfl, hr⟩, -, hx⟩ := (h.next (stab_RV stab_RB) hT).at hlt
      have hql : Hid (q = colN F) := by show _ = _; rw [← hr.len]; exact HF.out row (List.mem_of_getElem? hx)
      have HX := Lib.hid hx
      have hSr := h'.next stab_RI hT
      obtain ⟨wo, HWO⟩ : ∃ wo : World, wo = wr := ⟨_, rfl⟩
      subst HWO
      clear hx
      go_wp2_with fail
      go_loopw [7, 8] (fun f i wi => ∃ j : Nat, j ≤ m ∧ i = .int .i64 j ∧ f = .bool (allC F (S.take j) k) ∧ Drawn wo wi) (fun _ i _ => m - (intOf i).toNat)
      case atStart => exact ⟨0, Nat.zero_le _, rfl, rfl, Drawn.zero _⟩
      case round =>
        obtain ⟨j, hj, rfl, rfl, z, rfl⟩ := hrel
        by_cases hltj : j < m
        · have hj0 : (0 : Int) ≤ (j : Int) := by omega
          have hj1 : (j : Int) < (m : Int) := by omega
          obtain ⟨b2, o2, v2, x, rfl, hc2, ⟨rfl, -⟩, -, hx2⟩ := hSr.at hltj
          have hxr := HS.out x (List.mem_of_getElem? hx2)
          obtain ⟨x, rfl⟩ := Int.eq_ofNat_of_zero_le hxr.1
          have hxq : x < q := by rw [hql.out]; omega
          have hx0 : (0 : Int) ≤ (x : Int) := by omega
          have hx1 : (x : Int) < (q : Int) := by omega
          obtain ⟨b3, o3, v3, cb, rfl, hc3, rfl, -, hx3⟩ := hr.at hxq
          have HTK : Hid (allC F (S.take (j + 1)) k = (allC F (S.take j) k && cb)) := by
            show _ = _
            rw [take_snocL hx2, allC_snoc, Int.toNat_natCast, cel_row HX.out hx3]
          obtain ⟨al, HAL⟩ : ∃ al, Hid (allC F (S.take j) k = al) := ⟨_, rfl⟩
          rw [HAL.out] at HTK ⊢
          clear hx2 hx3 hxr
          rcases al with _ | _
          · have HT2 : Hid (allC F (S.take (j + 1)) k = false) := by show _ = _; rw [HTK.out, Bool.false_and]
            go_wp2_with fail
            go_quiet (fail)
            go_wp2_with fail
            go_roundw
            case rel => exact ⟨j + 1, by omega, by go_num, by rw [HT2.out], (by first | exact Drawn.zero _ | exact Drawn.at_ _ _ | exact (Drawn.at_ _ _).more _ | exact ((Drawn.at_ _ _).more _).more _)⟩
            case measure => simp [intOf]; omega
          · have HT2 : Hid (allC F (S.take (j + 1)) k = cb) := by show _ = _; rw [HTK.out, Bool.true_and]
            go_wp2_with fail
            go_quiet (fail)
            go_wp2_with fail
            go_roundw
            case rel => exact ⟨j + 1, by omega, by go_num, by rw [HT2.out], (by first | exact Drawn.zero _ | exact Drawn.at_ _ _ | exact (Drawn.at_ _ _).more _ | exact ((Drawn.at_ _ _).more _).more _)⟩
            case measure => simp [intOf]; omega
        · have hj1 : ¬ (j : Int) < (m : Int) := by omega
          have HTE : Hid (S.take j = S) := List.take_of_length_le (by rw [h'.len]; omega)
          rw [HTE.out]
          have hT2 := below_drewN hT z
          have hown2 := own_drewN hown z
          have hbase := hT2.size
          obtain ⟨al, HAL⟩ : ∃ al, Hid (allC F S k = al) := ⟨_, rfl⟩
          rw [HAL.out]
          rcases al with _ | _
          · have HPK := Lib.hid (HPN.out HAL.out)
            go_wp2_with fail
            go_roundw
            case rel => exact ⟨k + 1, by omega, by go_num, by rw [HPK.out]; exact ⟨A', c', rfl, hown2, hT2⟩⟩
            case measure => simp [intOf]; omega
          · have HPK := Lib.hid (HPY.out HAL.out)
            obtain ⟨w3, hw3⟩ : ∃ w3, w3 = wo.drewN z := ⟨_, rfl⟩
            rw [← hw3] at hown2 hT2 hbase ⊢
            clear hw3
            go_wp2_with (at_builtin; refine app1 w3 rfl _ _ 25 3 rfl (.int .i64 0) 8 Try.underlying25 info_int rfl (by decide) w.heap.size acc.length c' A' (ints acc) rfl hown2 (.int .i64 k) rfl rfl (by omega) hbase ?_; intro A2 c2 w4 hown4 hg4 hb4)
            go_roundw
            case rel =>
              refine ⟨k + 1, by omega, by go_num, ?_⟩
              rw [HPK.out]
              refine ⟨A2, c2, by rw [List.length_append]; rfl, ?_, hT2.trans hb4⟩
              rw [List.length_append, ← ints_snocC]
              exact hown4
            case measure => simp [intOf]; omega
    · obtain rfl : k = n := by omega
      have hk1 : ¬ (k : Int) < (k : Int) := by omega
      have HO := Lib.hid hown
      clear hown
      go_wp2_with fail
      go_ret
      exact ⟨A', _, c', rfl, HO.out, hT⟩
set_option maxHeartbeats 1000000 in
theorem cloCol_any (A : Option Addr) (n c g x y : Nat) (F : List (List Bool)) (w : World) (h : RdL (RV RB) w A n F) (hF : ∀ row ∈ F, row.length = colN F) (hy : y < n) (hx : x < colN F) (cg : w.cell? ⟨g, 0, none⟩ = some (.slice A n c)) :
    Calls Try.prog 81 #[.int .i64 x, .int .i64 y, .pointer (some ⟨g, 0, none⟩)] w fun e w' => e = .returned (.bool (cel F y x)) ∧ w = w' := by
  have hle := h.le
  obtain ⟨b, o, v, row, rfl, hck, ⟨R, q, dq, rfl, hr⟩, -, hxr⟩ := h.at hy
  have hq : q = colN F := by rw [← hr.len]; exact hF row (List.mem_of_getElem? hxr)
  have hxq : x < q := by omega
  obtain ⟨b3, o3, v3, cb, rfl, hc3, rfl, -, hx3⟩ := hr.at hxq
  have HC := Lib.hid (cel_row hxr hx3)
  have hle2 := hr.le
  have hx0 : (0 : Int) ≤ (x : Int) := by omega
  have hx1 : (x : Int) < (q : Int) := by omega
  have hy0 : (0 : Int) ≤ (y : Int) := by omega
  have hy1 : (y : Int) < (n : Int) := by omega
  clear hq hx hxr hx3 hF
  go_enter Try.func81, Try.ntmps81
  go_wp2
  go_ret
  exact ⟨ret_bool (by rw [HC.out]), rfl⟩
set_option maxRecDepth 20000 in
set_option maxHeartbeats 4000000 in
theorem polar_any (A B : Option Addr) (n c m d g : Nat) (F : List (List Bool)) (S : List Int) (w : World) (h : RdL (RV RB) w A n F) (h' : RdL RI w B m S) (hF : ∀ row ∈ F, row.length = colN F) (hS : ∀ x ∈ S, 0 ≤ x ∧ x < (colN F : Int)) (hn : n ≤ 1048576) (cg : w.cell? ⟨g, 0, none⟩ = some (.slice A n c)) :
    Calls Try.prog 37 #[.int .i64 n, .slice B m d, .func (.func 81) #[] #[.pointer (some ⟨g, 0, none⟩)]] w (OwnR w (polTo F S n)) := by
  have hle := h.le
  have hle' := h'.le
  have HF := Lib.hid hF
  have HS := Lib.hid hS
  have hb0 := below_box w (.cells #[] 3)
  have hown0 : (w.alloc (.cells #[] 3)).ownsRow w.heap.size 3 1 (.slice (some ⟨w.heap.size, 0, none⟩) 0 0) 0 (ints []) := World.ownsRow_lit w #[] 0 (Nat.le_refl _) (Nat.zero_le _) rfl
  clear hF hS
  go_enter Try.func37, Try.ntmps37
  go_wp2_with fail
  go_loopw [7, 8, 9] (fun v i _ wr => ∃ k : Nat, k ≤ n ∧ i = .int .i64 k ∧ GatP w wr v (polTo F S k)) (fun _ i _ _ => n - (intOf i).toNat)
  case atStart => exact ⟨0, Nat.zero_le _, rfl, _, 0, rfl, hown0, hb0⟩
  case round =>
    clear hown0 hb0
    obtain ⟨k, hk, rfl, A', c', rfl, hown, hT⟩ := hrel
    by_cases hlt : k < n
    · have hk0 : (0 : Int) ≤ (k : Int) := by omega
      have hk1 : (k : Int) < (n : Int) := by omega
      have hpl := polTo_len F S k
      have HPY := Lib.hid (@pol_yes F S k)
      have HPN := Lib.hid (@pol_no F S k)
      obtain ⟨acc, HA⟩ : ∃ acc, Hid (polTo F S k = acc) := ⟨_, rfl⟩
      rw [HA.out] at hown hpl HPY HPN ⊢
      have hr := h.next (stab_RV stab_RB) hT
      have hSr := h'.next stab_RI hT
      have cgr := keepS hT cg
      obtain ⟨wo, HWO⟩ : ∃ wo : World, wo = wr := ⟨_, rfl⟩
      subst HWO
      go_wp2_with fail
      go_loopw [9, 20] (fun f i wi => ∃ j : Nat, j ≤ m ∧ i = .int .i64 j ∧ f = .bool (allC F (S.take j) k) ∧ wi = wo) (fun _ i _ => m - (intOf i).toNat)
      case atStart => exact ⟨0, Nat.zero_le _, rfl, rfl, rfl⟩
      case round =>
        obtain ⟨j, hj, rfl, rfl, rfl⟩ := hrel
        by_cases hltj : j < m
        · have hj0 : (0 : Int) ≤ (j : Int) := by omega
          have hj1 : (j : Int) < (m : Int) := by omega
          obtain ⟨b2, o2, v2, x, rfl, hc2, ⟨rfl, -⟩, -, hx2⟩ := hSr.at hltj
          have hxr := HS.out x (List.mem_of_getElem? hx2)
          obtain ⟨x, rfl⟩ := Int.eq_ofNat_of_zero_le hxr.1
          have HCL := Lib.hid (cloCol_any A n c g x k F wr hr HF.out hlt (by omega) cgr)
          have HTK : Hid (allC F (S.take (j + 1)) k = (allC F (S.take j) k && cel F k x)) := by
            show _ = _
            rw [take_snocL hx2, allC_snoc, Int.toNat_natCast]
          obtain ⟨al, HAL⟩ : ∃ al, Hid (allC F (S.take j) k = al) := ⟨_, rfl⟩
          rw [HAL.out] at HTK ⊢
          clear hx2 hxr
          rcases al with _ | _
          · have HT2 : Hid (allC F (S.take (j + 1)) k = false) := by show _ = _; rw [HTK.out, Bool.false_and]
            go_wp2_with fail
            go_roundw
            case rel => exact ⟨j + 1, by omega, by go_num, by rw [HT2.out], by first | rfl | trivial⟩
            case measure => simp [intOf]; omega
          · have HT2 : Hid (allC F (S.take (j + 1)) k = cel F k x) := by show _ = _; rw [HTK.out, Bool.true_and]
            go_wp2_with fail
            refine HCL.out.mono ?_
            rintro e w5 ⟨rfl, rfl⟩
            go_wp2_with fail
            go_roundw
            case rel => exact ⟨j + 1, by omega, by go_num, by rw [HT2.out], by first | rfl | trivial⟩
            case measure => simp [intOf]; omega
        · have hj1 : ¬ (j : Int) < (m : Int) := by omega
          have HTE : Hid (S.take j = S) := List.take_of_length_le (by rw [h'.len]; omega)
          rw [HTE.out]
          have hbase := hT.size
          obtain ⟨al, HAL⟩ : ∃ al, Hid (allC F S k = al) := ⟨_, rfl⟩
          rw [HAL.out]
          rcases al with _ | _
          · have HPK := Lib.hid (HPN.out HAL.out)
            go_wp2_with fail
            go_roundw
            case rel => exact ⟨k + 1, by omega, by go_num, by rw [HPK.out]; exact ⟨A', c', rfl, hown, hT⟩⟩
            case measure => simp [intOf]; omega
          · have HPK := Lib.hid (HPY.out HAL.out)
            go_wp2_with (at_builtin; refine app1 wr rfl _ _ 25 3 rfl (.int .i64 0) 8 Try.underlying25 info_int rfl (by decide) w.heap.size acc.length c' A' (ints acc) rfl hown (.int .i64 k) rfl rfl (by omega) hbase ?_; intro A2 c2 w4 hown4 hg4 hb4)
            go_roundw
            case rel =>
              refine ⟨k + 1, by omega, by go_num, ?_⟩
              rw [HPK.out]
              refine ⟨A2, c2, by rw [List.length_append]; rfl, ?_, hT.trans hb4⟩
              rw [List.length_append, ← ints_snocC]
              exact hown4
            case measure => simp [intOf]; omega
    · obtain rfl : k = n := by omega
      have hk1 : ¬ (k : Int) < (k : Int) := by omega
      have HO := Lib.hid hown
      clear hown
      go_wp2_with fail
      go_ret
      exact ⟨A', _, c', rfl, HO.out, hT⟩
set_option maxHeartbeats 1000000 in
theorem columnPolar_any (A B : Option Addr) (n c m d : Nat) (F : List (List Bool)) (S : List Int) (w : World) (h : RdL (RV RB) w A n F) (h' : RdL RI w B m S) (hF : ∀ row ∈ F, row.length = colN F) (hS : ∀ x ∈ S, 0 ≤ x ∧ x < (colN F : Int)) (hn : n ≤ 1048576) :
    Calls Try.prog 43 #[.slice A n c, .slice B m d] w (OwnR w (polTo F S n)) := by
  have hle := h.le
  obtain ⟨w0, hw0, T0, hsz0, BP⟩ := boxes1c w #[.slice A n c] 24
  have HW0 := Lib.hid hw0
  have cP := BP.cell 0
  simp at cP
  have HP := Lib.hid (polar_any A B n c m d w.heap.size F S w0 (h.next (stab_RV stab_RB) T0) (h'.next stab_RI T0) hF hS hn cP)
  clear hw0
  go_enter Try.func43, Try.ntmps43
  go_wp2_with fail
  rw [← HW0.out]
  refine HP.out.mono ?_
  rintro e w2 ⟨A2, n2, c2, rfl, hown, hb2⟩
  go_wp2_with fail
  go_ret
  exact ⟨A2, n2, c2, rfl, own_mono hown T0.size, below_next T0 hb2 rfl⟩
end Go.Proofs.Ytcihgkdaogfabaa
