
/- Walks: l24Product (of the chain of three with itself), l24Known. -/
import Derived.Test.YtlncpabnlnipoaaPut23
namespace Go.Proofs.Ytlncpabnlnipoaa
open Go.RowKit

/-- A poset of n elements of the call's own. -/
def KnD (w : World) (e : Ending) (w' : World) : Prop := ∃ A n c F, e = .returned (.agg #[.slice A n c]) ∧ n ≤ 9 ∧ OwM 27 3 (.int .i64) w.heap.size w' (.slice A n c) n F ∧ (∀ p ∈ F, p.length ≤ 9 ∧ ∀ x ∈ p, 0 ≤ x ∧ x ≤ 9) ∧ Below w.heap.size w w'
set_option linter.unusedVariables false in
set_option maxRecDepth 20000 in
set_option maxHeartbeats 8000000 in
theorem l24Product_any (A B : Option Addr) (c d : Nat) (F G : List (List Int)) (w : World) (h : RdL (RV RI) w A 3 F) (h' : RdL (RV RI) w B 3 G) (hF : ∀ p ∈ F, p.length ≤ 3 ∧ ∀ x ∈ p, 0 ≤ x ∧ x < 3) (hG : ∀ p ∈ G, p.length ≤ 3 ∧ ∀ x ∈ p, 0 ≤ x ∧ x < 3) :
    Calls Try.prog 63 #[.agg #[.slice A 3 c], .agg #[.slice B 3 d]] w (KnD w) := by
  have HF := Lib.hid hF
  have HG := Lib.hid hG
  clear hF hG
  obtain ⟨pb, po, _, _, rfl, -⟩ := h.at (k := 0) (by omega)
  obtain ⟨qb, qo, _, _, rfl, -⟩ := h'.at (k := 0) (by omega)
  obtain ⟨w1, HW1⟩ : ∃ wb, Hid (wb = ((w.alloc (.cells #[.slice (some ⟨pb, po, none⟩) 3 c] 26)).alloc (.cells #[.slice (some ⟨qb, qo, none⟩) 3 d] 26)).alloc (.cells #[.slice none 0 0] 26)) := ⟨_, rfl⟩
  have hb1 : Below w.heap.size w w1 := by rw [HW1.out]; exact below_box3 _ _ _ _
  have hs1 : w1.heap.size = w.heap.size + 1 + 1 + 1 := by rw [HW1.out]; simp
  have BP : Blk w1 w.heap.size 26 #[.slice (some ⟨pb, po, none⟩) 3 c] := by rw [HW1.out]; exact ((Blk.new w 26 #[.slice (some ⟨pb, po, none⟩) 3 c]).alloc _).alloc _
  have BQ : Blk w1 (w.heap.size + 1) 26 #[.slice (some ⟨qb, qo, none⟩) 3 d] := by
    have h1 := (Blk.new (w.alloc (.cells #[.slice (some ⟨pb, po, none⟩) 3 c] 26)) 26 #[.slice (some ⟨qb, qo, none⟩) 3 d]).alloc (.cells #[.slice none 0 0] 26)
    rw [HW1.out]
    simpa using h1
  have BR : Blk w1 (w.heap.size + 1 + 1) 26 #[.slice none 0 0] := by
    have h1 := Blk.new ((w.alloc (.cells #[.slice (some ⟨pb, po, none⟩) 3 c] 26)).alloc (.cells #[.slice (some ⟨qb, qo, none⟩) 3 d] 26)) 26 #[.slice none 0 0]
    rw [HW1.out]
    simpa using h1
  obtain ⟨w2, HW2⟩ : ∃ wb, Hid (wb = w1.alloc (.cells #[] 27)) := ⟨_, rfl⟩
  have hb2 : Below w1.heap.size w1 w2 := by rw [HW2.out]; exact below_box _ _
  have hs2 : w2.heap.size = w.heap.size + 1 + 1 + 1 + 1 := by rw [HW2.out, ← hs1]; simp
  have hM2 : OwM 27 3 (.int .i64) (w.heap.size + 1 + 1 + 1) w2 (.slice (some ⟨w.heap.size + 1 + 1 + 1, 0, none⟩) 0 0) 0 [] := by rw [HW2.out, ← hs1]; exact ⟨[], World.ownsRow_lit _ _ _ (Nat.le_refl _) (Nat.zero_le _) rfl, rfl, fun k u xs hu => by simp at hu, by simp⟩
  obtain ⟨w3, HW3⟩ : ∃ wb, Hid (wb = w2.alloc (.cells #[.slice (some ⟨w.heap.size + 1 + 1 + 1, 0, none⟩) 0 0] 26)) := ⟨_, rfl⟩
  have hb3 : Below w2.heap.size w2 w3 := by rw [HW3.out]; exact below_box _ _
  have BO : Blk w3 (w.heap.size + 1 + 1 + 1 + 1) 26 #[.slice (some ⟨w.heap.size + 1 + 1 + 1, 0, none⟩) 0 0] := by rw [HW3.out, ← hs2]; exact Blk.new _ _ _
  have hM3 := hM2.next hb3
  have hT13 : Below (w.heap.size + 1 + 1 + 1) w1 w3 := by rw [← hs1]; exact below_next hb2 hb3 rfl
  have hz3 : w.heap.size + 1 + 1 + 1 ≤ w3.heap.size := by have := hb3.size; omega
  have h1 := h.next stab_RVI hb1
  have h1' := h'.next stab_RVI hb1
  have kP := ((BP.next hb2).next hb3).cell 0
  have kQ := ((BQ.next hb2).next hb3).cell 0
  simp at kP kQ
  rw [HW3.out, HW2.out, HW1.out] at kP kQ
  clear hb2 hb3 hM2
  go_enter Try.func63, Try.ntmps63
  go_wp2_with fail
  rw [← HW1.out, ← HW2.out, ← HW3.out]
  obtain ⟨lo, HLO⟩ : ∃ lo, Hid (w.heap.size + 1 + 1 + 1 = lo) := ⟨_, rfl⟩
  have hl3 : w.heap.size + 1 + 1 < lo := by have := HLO.out; omega
  have hl4 : lo ≤ w.heap.size + 1 + 1 + 1 + 1 := by have := HLO.out; omega
  have hz4 : lo ≤ w3.heap.size := by have := HLO.out; omega
  rw [HLO.out] at hT13
  replace hM3 : OwM 27 3 (.int .i64) lo w3 (.slice (some ⟨w.heap.size + 1 + 1 + 1, 0, none⟩) 0 0) 0 [] := by rw [← HLO.out]; exact hM3
  have hTw3 : Below w.heap.size w w3 := hb1.trans (hT13.mono (by omega))
  have BP3 := BP.below hT13 (by omega)
  have BQ3 := BQ.below hT13 (by omega)
  have BR3 := BR.below hT13 (by omega)
  clear h1 h1' kP kQ BP BQ BR hT13 hb1
  go_loopw [7, 8, 9, 10, 11] (fun i _ _ _ _ wr => ∃ (x : Nat) (A' : Option Addr) (c' : Nat) (F' : List (List Int)), x ≤ 3 ∧ i = .int .i64 x ∧ Blk wr (w.heap.size + 1 + 1 + 1 + 1) 26 #[.slice A' (3 * x) c'] ∧ OwM 27 3 (.int .i64) lo wr (.slice A' (3 * x) c') (3 * x) F' ∧ (∀ p ∈ F', p.length ≤ 9 ∧ ∀ x ∈ p, 0 ≤ x ∧ x ≤ 9) ∧ Below lo w3 wr) (fun i _ _ _ _ _ => 3 - (intOf i).toNat)
  case atStart => exact ⟨0, _, 0, [], Nat.zero_le _, rfl, BO, hM3, fun p hp => by simp at hp, Below.refl _ _⟩
  case round =>
    clear hM3 BO
    obtain ⟨x, A', c', F', hx, rfl, BO, hM, hF', hT⟩ := hrel
    have HF' := Lib.hid hF'
    clear hF'
    have kP := (BP3.below hT (by omega)).cell 0
    have kQ := (BQ3.below hT (by omega)).cell 0
    simp at kP kQ
    by_cases hlx : x < 3
    · have hx0 : (0 : Int) ≤ (x : Int) := by omega
      have hx1 : (x : Int) < 3 := by omega
      go_wp2_with fail
      go_loopw [8, 9, 10, 11] (fun i _ _ _ wr => ∃ (y : Nat) (A' : Option Addr) (c' : Nat) (F' : List (List Int)), y ≤ 3 ∧ i = .int .i64 y ∧ Blk wr (w.heap.size + 1 + 1 + 1 + 1) 26 #[.slice A' (3 * x + y) c'] ∧ OwM 27 3 (.int .i64) lo wr (.slice A' (3 * x + y) c') (3 * x + y) F' ∧ (∀ p ∈ F', p.length ≤ 9 ∧ ∀ x ∈ p, 0 ≤ x ∧ x ≤ 9) ∧ Below lo w3 wr) (fun i _ _ _ _ => 3 - (intOf i).toNat)
      case atStart => exact ⟨0, A', c', F', Nat.zero_le _, rfl, BO, hM, HF'.out, hT⟩
      case round =>
        clear hM BO HF' hT kP kQ
        obtain ⟨y, A', c', F', hy, rfl, BO, hM, hF', hT⟩ := hrel
        have HF' := Lib.hid hF'
        clear hF'
        by_cases hly : y < 3
        · have hy0 : (0 : Int) ≤ (y : Int) := by omega
          have hy1 : (y : Int) < 3 := by omega
          obtain ⟨wy, HWY⟩ : ∃ wy : World, wy = wr := ⟨_, rfl⟩
          subst HWY
          have hzy : lo ≤ wy.heap.size := by have := hT.size; omega
          have hbx := below_box wy (.cells #[] 3)
          have hown0 : (wy.alloc (.cells #[] 3)).ownsRow wy.heap.size 3 1 (.slice (some ⟨wy.heap.size, 0, none⟩) 0 0) 0 (ints []) := World.ownsRow_lit wy #[] 0 (Nat.le_refl _) (Nat.zero_le _) rfl
          have hTy := hTw3.trans (hT.mono (by omega))
          have hPy := h.next stab_RVI hTy
          have hQy := h'.next stab_RVI hTy
          obtain ⟨vp, p, hcp, ⟨P1, lp, dp, rfl, hp⟩, -, hpx⟩ := hPy.at' hlx
          obtain ⟨vq, q, hcq, ⟨Q1, lq, dq, rfl, hq⟩, -, hqx⟩ := hQy.at' hly
          have hlp := hp.len
          have hlq := hq.len
          obtain ⟨hp3, hpv⟩ := HF.out p (List.mem_of_getElem? hpx)
          obtain ⟨hq3, hqv⟩ := HG.out q (List.mem_of_getElem? hqx)
          have HLP := Lib.hid hlp
          have HPV := Lib.hid hpv
          have HQV := Lib.hid hqv
          have hlp3 : lp ≤ 3 := by omega
          have hlq3 : lq ≤ 3 := by omega
          have kP := (BP3.below hT (by omega)).cell 0
          have kQ := (BQ3.below hT (by omega)).cell 0
          simp at kP kQ
          have kPa := keepP hbx kP
          have kQa := keepP hbx kQ
          clear hPy hQy hpx hqx hlp hlq hpv hqv hp3 hq3
          go_wp2_with fail
          go_loopw [9, 10, 11] (fun v i _ wr => ∃ (a : Nat) (A2 : Option Addr) (c2 : Nat) (acc : List Int), a ≤ lp ∧ i = .int .i64 a ∧ v = .slice A2 acc.length c2 ∧ acc.length ≤ 3 * a ∧ wr.ownsRow wy.heap.size 3 1 (.slice A2 acc.length c2) acc.length (ints acc) ∧ (∀ z ∈ acc, 0 ≤ z ∧ z ≤ 9) ∧ Below wy.heap.size wy wr) (fun _ i _ _ => lp - (intOf i).toNat)
          case atStart => exact ⟨0, _, 0, [], Nat.zero_le _, rfl, rfl, Nat.le_refl _, hown0, fun z hz => by simp at hz, hbx⟩
          case round =>
            clear hown0 hbx kPa kQa
            obtain ⟨a, A2, c2, acc, ha, rfl, rfl, hac, hown, hacc, hTa⟩ := hrel
            have HACC := Lib.hid hacc
            clear hacc
            have kPr := keepP hTa kP
            have kQr := keepP hTa kQ
            have hcpr := keepP hTa hcp
            have hcqr := keepP hTa hcq
            by_cases hla : a < lp
            · have ha0 : (0 : Int) ≤ (a : Int) := by omega
              have ha1 : (a : Int) < (lp : Int) := by omega
              go_wp2_with fail
              go_loopw [9, 11] (fun v i wr => ∃ (k : Nat) (A2 : Option Addr) (c2 : Nat) (acc : List Int), k ≤ lq ∧ i = .int .i64 k ∧ v = .slice A2 acc.length c2 ∧ acc.length ≤ 3 * a + k ∧ wr.ownsRow wy.heap.size 3 1 (.slice A2 acc.length c2) acc.length (ints acc) ∧ (∀ z ∈ acc, 0 ≤ z ∧ z ≤ 9) ∧ Below wy.heap.size wy wr) (fun _ i _ => lq - (intOf i).toNat)
              case atStart => exact ⟨0, A2, c2, acc, Nat.zero_le _, rfl, rfl, by omega, hown, HACC.out, hTa⟩
              case round =>
                clear hown HACC kPr kQr hcpr hcqr hTa hac
                obtain ⟨k, A2, c2, acc, hk, rfl, rfl, hac, hown, hacc, hTa⟩ := hrel
                have HACC := Lib.hid hacc
                clear hacc
                have kPr := keepP hTa kP
                have kQr := keepP hTa kQ
                have hcpr := keepP hTa hcp
                have hcqr := keepP hTa hcq
                by_cases hlk : k < lq
                · have hk0 : (0 : Int) ≤ (k : Int) := by omega
                  have hk1 : (k : Int) < (lq : Int) := by omega
                  obtain ⟨b1, o1, v1, u, rfl, hcu, ⟨rfl, -, -⟩, -, hux⟩ := (hp.next stab_RI hTa).at hla
                  obtain ⟨b2, o2, v2, v, rfl, hcv, ⟨rfl, -, -⟩, -, hvx⟩ := (hq.next stab_RI hTa).at hlk
                  have hu := HPV.out u (List.mem_of_getElem? hux)
                  have hv := HQV.out v (List.mem_of_getElem? hvx)
                  have hw1 : IntKind.i64.wrap (u * 3) = u * 3 := by rw [IntKind.wrap_i64]; omega
                  have hw2 : IntKind.i64.wrap (u * 3 + v) = u * 3 + v := by rw [IntKind.wrap_i64]; omega
                  have hzr := hTa.size
                  have hownd : (wr.drew).ownsRow wy.heap.size 3 1 (.slice A2 acc.length c2) acc.length (ints acc) := hown
                  have HUV := Lib.hid (And.intro hu hv)
                  clear hux hvx hown hu hv
                  go_wp2_with fail
                  go_region_law (first
                    | (refine step_app1 wr.drew rfl (.tmp 50) (.tmp 70) 27 3 rfl (.int .i64 0) 8 Try.underlying27 info_int rfl (by decide) wy.heap.size acc.length c2 A2 (ints acc) (by rfl) hownd (.int .i64 (u * 3 + v)) rfl (by rfl) (by omega) (by exact hzr) ?_; intro A5 c5 w5 hown5 hg5 hb5; have T5 := hTa.trans ((Below.drew (Below.refl _ _)).trans hb5)))
                  all_goals
                    go_wp2_with fail
                    go_roundw
                    case rel => exact ⟨k + 1, A5, c5, acc ++ [u * 3 + v], by omega, by go_num, by rw [List.length_append]; rfl, by rw [List.length_append, List.length_singleton]; omega, by rw [List.length_append, ← ints_snocG]; exact hown5, fun z hz => by
                      rcases List.mem_append.1 hz with hz | hz
                      · exact HACC.out z hz
                      · rw [List.mem_singleton.1 hz]; have := HUV.out; omega, T5⟩
                    case measure => simp [intOf]; omega
                · obtain rfl : lq = k := by omega
                  have hk1 : ¬ (lq : Int) < (lq : Int) := by omega
                  go_wp2_with fail
                  go_roundw
                  case rel => exact ⟨a + 1, A2, c2, acc, by omega, by go_num, rfl, by omega, hown, HACC.out, hTa⟩
                  case measure => simp [intOf]; omega
            · obtain rfl : lp = a := by omega
              have ha1 : ¬ (lp : Int) < (lp : Int) := by omega
              obtain ⟨vs, hvs, HPU⟩ := hM.push (by decide) hTa hzy (xs := acc) hown
              have hT2 := hT.trans (hTa.mono hzy)
              have hz2 := Nat.le_trans hzy hTa.size
              have BO2 := BO.next hTa
              have kO := BO2.cell 0
              have fO := BO2.frozen 0
              simp at kO
              go_wp2_with (at_builtin; refine app1 wr rfl _ _ 24 27 rfl (.slice none 0 0) 24 Try.underlying24 info_ints rfl (by decide) lo (3 * x + y) c' A' vs rfl hvs (.slice A2 acc.length c2) rfl rfl (by omega) hz2 ?_; intro A5 c5 w5 hown5 hg5 hb5; have BO5 := BO2.grown hg5 (fun e => own_far hvs BO2 (by decide) e.symm); have cO5 := BO5.cell 0; have fO5 := BO5.frozen 0; simp at cO5)
              go_roundw
              case rel => exact ⟨y + 1, A5, c5, F' ++ [acc], by omega, by go_num, BO5.set_ 0 _, (HPU hown5 hg5).far BO5 (by decide) (by decide) 0 _, fun p hp => by
                rcases List.mem_append.1 hp with hp | hp
                · exact HF'.out p hp
                · rw [List.mem_singleton.1 hp]; exact ⟨by omega, HACC.out⟩, (hT2.trans hb5).setCell (p := ⟨w.heap.size + 1 + 1 + 1 + 1, 0, none⟩) hl4 _⟩
              case measure => simp [intOf]; omega
        · obtain rfl : y = 3 := by omega
          have hy1 : ¬ (((3 : Nat) : Int) < 3) := by omega
          go_wp2_with fail
          go_roundw
          case rel => exact ⟨x + 1, A', c', F', by omega, by go_num, by rw [Nat.mul_succ]; exact BO, by rw [Nat.mul_succ]; exact hM, HF'.out, hT⟩
          case measure => simp [intOf]; omega
    · obtain rfl : x = 3 := by omega
      have hx1 : ¬ (((3 : Nat) : Int) < 3) := by omega
      have BR4 := BR3.below hT (by omega)
      have kO := BO.cell 0
      have kR := BR4.cell 0
      have fR := BR4.frozen 0
      simp at kO kR
      have hTf : Below w.heap.size w wr := hTw3.trans (hT.mono (by omega))
      have HM := Lib.hid hM
      clear hM
      go_wp2
      (try simp only [Exit.inBlock, Exit.then])
      refine bodyPost_ret (v := .agg #[.slice A' 9 c']) (results_cell_row rfl _ _ (w.heap.size + 1 + 1) 26 #[.slice A' 9 c'] (0, 0) _ (by simp) (BR4.set_ 0 _) Try.underlying26 rfl (by kernel_rfl)) rfl ?_
      exact ⟨A', 9, c', F', rfl, Nat.le_refl _, (HM.out.far BR4 (by decide) (by decide) 0 _).mono (by omega), HF'.out, hTf.setCell (p := ⟨w.heap.size + 1 + 1, 0, none⟩) (by show w.heap.size ≤ w.heap.size + 1 + 1; omega) _⟩
end Go.Proofs.Ytlncpabnlnipoaa
