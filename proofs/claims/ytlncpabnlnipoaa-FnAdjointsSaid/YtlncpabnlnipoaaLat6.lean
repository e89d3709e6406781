
/- Walks: the dual, the bounds and the bottom of a poset (the reference's). -/
import Derived.Test.YtlncpabnlnipoaaLat5
namespace Go.Proofs.Ytlncpabnlnipoaa
open Go.RowKit

theorem leF_pos {n : Nat} {G : Nat → Nat → Bool} {x y : Nat} (hy : y < n) (hx : x < n) : leF (posTo n G n) y x = G y x := by
  unfold leF
  have e : rowOf (posTo n G n) x = rowTo G x n := rowOf_get (by simp [posTo, List.getElem?_range hx])
  rw [e, Bool.eq_iff_iff, hasI_iff, rowTo_mem]
  constructor
  · rintro ⟨z, hz, h1, h2⟩
    obtain rfl : y = z := by omega
    exact h1
  · intro h
    exact ⟨y, hy, h, rfl⟩
theorem posTo_bounds {w : World} {n k : Nat} {G : Nat → Nat → Bool} (hn : n ≤ 1048576) : ∀ xs ∈ posTo n G k, ∀ x ∈ xs, RI w (.int .i64 x) x := by
  intro xs hxs x hx
  unfold posTo at hxs
  rw [List.mem_map] at hxs
  obtain ⟨i, -, rfl⟩ := hxs
  have := row_in x hx
  exact ⟨rfl, by omega, by omega⟩

set_option maxRecDepth 20000 in
set_option maxHeartbeats 1000000 in
theorem l23Dual_any (A : Option Addr) (n c : Nat) (xss : List (List Int)) (w : World) (h : RdL (RV RI) w A n xss) (hn : n ≤ 1048576) :
    Calls Try.prog 27 #[.agg #[.slice A n c]] w fun e w' => ∃ A' c', e = .returned (.agg #[.slice A' n c']) ∧ RdL (RV RI) w' A' n (posTo n (duF (leF xss)) n) ∧ Below w.heap.size w w' := by
  have hle := h.le
  go_enter Try.func27, Try.ntmps27
  have hl0 := mat_lit (w := w) (below_box2 w (.cells #[.slice A n c] 26) (.cells #[.slice none 0 0] 26))
  have hs1 : ((w.alloc (.cells #[.slice A n c] 26)).alloc (.cells #[.slice none 0 0] 26)).heap.size = w.heap.size + 2 := by simp
  rw [hs1] at hl0
  have hl := hl0.next (below_box _ (.cells #[.slice (some ⟨w.heap.size + 2, 0, none⟩) 0 0] 26))
  have BX : Blk ((((w.alloc (.cells #[.slice A n c] 26)).alloc (.cells #[.slice none 0 0] 26)).alloc (.cells #[] 27)).alloc (.cells #[.slice (some ⟨w.heap.size + 2, 0, none⟩) 0 0] 26)) w.heap.size 26 #[.slice A n c] := (((Blk.new w 26 #[.slice A n c]).alloc _).alloc _).alloc _
  have BR : Blk ((((w.alloc (.cells #[.slice A n c] 26)).alloc (.cells #[.slice none 0 0] 26)).alloc (.cells #[] 27)).alloc (.cells #[.slice (some ⟨w.heap.size + 2, 0, none⟩) 0 0] 26)) (w.heap.size + 1) 26 #[.slice none 0 0] := by
    have := ((Blk.new (w.alloc (.cells #[.slice A n c] 26)) 26 #[.slice none 0 0]).alloc (.cells #[] 27)).alloc (.cells #[.slice (some ⟨w.heap.size + 2, 0, none⟩) 0 0] 26)
    simpa using this
  have BP : Blk ((((w.alloc (.cells #[.slice A n c] 26)).alloc (.cells #[.slice none 0 0] 26)).alloc (.cells #[] 27)).alloc (.cells #[.slice (some ⟨w.heap.size + 2, 0, none⟩) 0 0] 26)) (w.heap.size + 3) 26 #[.slice (some ⟨w.heap.size + 2, 0, none⟩) 0 0] := by
    have h1 := Blk.new (((w.alloc (.cells #[.slice A n c] 26)).alloc (.cells #[.slice none 0 0] 26)).alloc (.cells #[] 27)) 26 #[.slice (some ⟨w.heap.size + 2, 0, none⟩) 0 0]
    simpa using h1
  have hT := below_box4 w (.cells #[.slice A n c] 26) (.cells #[.slice none 0 0] 26) (.cells #[] 27) (.cells #[.slice (some ⟨w.heap.size + 2, 0, none⟩) 0 0] 26)
  clear hl0 hs1
  go_wp2
  go_loopw [4] (fun i wr => ∃ (k : Nat) (A' : Option Addr) (c' : Nat), k ≤ n ∧ i = .int .i64 k ∧ Blk wr w.heap.size 26 #[.slice A n c] ∧ Blk wr (w.heap.size + 1) 26 #[.slice none 0 0] ∧ Blk wr (w.heap.size + 3) 26 #[.slice A' k c'] ∧ OwM 27 3 (.int .i64) w.heap.size wr (.slice A' k c') k (posTo n (duF (leF xss)) k) ∧ Below w.heap.size w wr) (fun i _ => n - (intOf i).toNat)
  case atStart => exact ⟨0, _, _, Nat.zero_le _, rfl, BX, BR, BP, hl, hT⟩
  case round =>
    clear BX BR BP hl hT
    obtain ⟨k, A', c', hk, rfl, BX, BR, BP, hown, hT⟩ := hrel
    replace h := h.next stab_RVI hT
    have cX := BX.c0
    by_cases hlt : k < n
    · have hk0 : (0 : Int) ≤ (k : Int) := by omega
      have hk1 : (k : Int) < (n : Int) := by omega
      obtain ⟨wo, hwo⟩ : ∃ wo : World, wo = wr := ⟨_, rfl⟩
      subst hwo
      go_wp2
      clear cX
      go_loopw [5, 6] (fun v i wi => ∃ (q m : Nat) (A2 : Option Addr) (c2 : Nat), q ≤ n ∧ m ≤ q ∧ i = .int .i64 q ∧ v = .slice A2 m c2 ∧ (rowTo (duF (leF xss)) k q).length = m ∧ wi.ownsRow wo.heap.size 3 1 (.slice A2 m c2) m (ints (rowTo (duF (leF xss)) k q)) ∧ Below wo.heap.size wo wi) (fun _ i _ => n - (intOf i).toNat)
      case atStart => exact ⟨0, 0, _, _, Nat.zero_le _, Nat.le_refl _, rfl, rfl, rfl, World.ownsRow_lit _ _ _ (Nat.le_refl _) (Nat.zero_le _) rfl, below_box _ _⟩
      case round =>
        obtain ⟨q, m, A2, c2, hq, hmq, rfl, rfl, hml, hrow, hTi⟩ := hrel
        have h' := h.next stab_RVI hTi
        have cX := (BX.next hTi).c0
        have HML := Lib.hid hml
        clear hml
        by_cases hltq : q < n
        · have hq0 : (0 : Int) ≤ (q : Int) := by omega
          have hq1 : (q : Int) < (n : Int) := by omega
          rcases hF : hasI (k : Int) (rowOf xss q) with _ | _
          all_goals
            have HFF : Hid (duF (leF xss) q k = hasI (k : Int) (rowOf xss q)) := by show _ = _; rfl
            have HF := Lib.hid hF
            clear hF
            go_wp2_with fail
            refine (l23Leq_any _ _ _ _ _ _ _ h' hltq).mono ?_
            rintro e w3 ⟨rfl, hb3⟩
            rw [HF.out]
            have hrow3 := own_next hrow hb3
            have hTi3 := below_next hTi hb3 rfl
            have hbase := hTi3.size
            first
              | (have HFF2 : Hid (duF (leF xss) q k = false) := by show _ = _; rw [HFF.out, HF.out]
                 go_wp2_with fail
                 go_roundw
                 case rel => exact ⟨q + 1, m, A2, c2, by omega, by omega, by go_num, rfl, by rw [rowTo_succ, HFF2.out]; exact HML.out, by rw [rowTo_succ, HFF2.out]; exact hrow3, hTi3⟩
                 case measure => simp [intOf]; omega)
              | (have HFF2 : Hid (duF (leF xss) q k = true) := by show _ = _; rw [HFF.out, HF.out]
                 go_wp2_with (at_builtin; refine app1 w3 rfl _ _ 27 3 rfl (.int .i64 0) 8 Try.underlying27 info_int rfl (by decide) wo.heap.size m c2 A2 (ints (rowTo (duF (leF xss)) k q)) rfl hrow3 (.int .i64 q) rfl rfl (by omega) hbase ?_; intro A3 c3 w4 hown4 hg4 hb4)
                 go_roundw
                 case rel => exact ⟨q + 1, m + 1, A3, c3, by omega, by omega, by go_num, rfl, by rw [rowTo_succ, HFF2.out, if_pos rfl, List.length_append, HML.out]; rfl, by rw [rowTo_succ, HFF2.out, if_pos rfl, ints_snoc]; exact hown4, hTi3.trans hb4⟩
                 case measure => simp [intOf]; omega)
        · obtain rfl : q = n := by omega
          have hlt' : ¬ (q : Int) < (q : Int) := by omega
          have BX' := BX.next hTi
          have BR' := BR.next hTi
          have BP' := BP.next hTi
          have cP := BP'.c0
          have hT2 := below_next hT hTi rfl
          have hsz := hT2.size
          obtain ⟨vs, hvs, HPU⟩ := hown.push (by decide) hTi hT.size (by rw [HML.out]; exact hrow)
          go_wp2_with (at_builtin; refine app1 wr rfl _ _ 24 27 rfl (.slice none 0 0) 24 Try.underlying24 info_ints rfl (by decide) w.heap.size k c' A' vs rfl hvs (.slice A2 m c2) rfl rfl (by omega) hsz ?_; intro A5 c5 w5 hown5 hg5 hb5; have BP5 := BP'.grown hg5 (fun e => own_far hvs BP' (by decide) e.symm); have BR5 := BR'.grown hg5 (fun e => own_far hvs BR' (by decide) e.symm); have BX5 := BX'.grown hg5 (fun e => own_far hvs BX' (by decide) e.symm); have cP5 := BP5.cell 0; have fP5 := BP5.frozen 0; simp at cP5)
          go_roundw
          case rel => exact ⟨k + 1, A5, c5, by omega, by go_num, BX5.far (by show _ ≠ _; simp; try omega) _, BR5.far (by show _ ≠ _; simp; try omega) _, BP5.set_ 0 _, by rw [posTo_succ]; exact (HPU hown5 hg5).far BP5 (by decide) (by decide) 0 _, (hT2.trans hb5).setCell (by show _ ≤ _; simp; try omega) _⟩
          case measure => simp [intOf]; omega
    · obtain rfl : k = n := by omega
      have hlt' : ¬ (k : Int) < (k : Int) := by omega
      have cP := BP.cell 0
      have cR := BR.cell 0
      have fR := BR.frozen 0
      simp at cP cR
      go_wp2
      have BRR := BR.set_ 0 (.slice A' k c')
      (try simp only [Exit.inBlock, Exit.then])
      refine bodyPost_ret (v := .agg #[.slice A' k c']) (results_cell_row rfl _ _ (w.heap.size + 1) 26 #[.slice A' k c'] (0, 0) _ (by simp) BRR Try.underlying26 rfl (by kernel_rfl)) rfl ?_
      have hw := hT.size
      exact ⟨A', ⟨c', rfl⟩, (hown.far BR (by decide) (by decide) 0 (.slice A' k c')).rd (R := RI) (posTo_bounds hn), hT.setCell (by show _ ≤ _; simp; try omega) _⟩
end Go.Proofs.Ytlncpabnlnipoaa
