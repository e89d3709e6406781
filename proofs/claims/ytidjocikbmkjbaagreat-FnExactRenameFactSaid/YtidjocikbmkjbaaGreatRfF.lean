
/- Walks: RenameFact in the program and in the reference; the harness's marks on a single fact. Printed by genrff.py. -/
import Derived.Test.YtidjocikbmkjbaaGreatRfX
import Derived.Test.YtidjocikbmkjbaaGreatTrue
import Derived.Test.YtidjocikbmkjbaaGreatTrueS
import Derived.Test.YtidjocikbmkjbaaGreatKFact
import Derived.Test.YtidjocikbmkjbaaGreatRes
namespace Go.Proofs.YtidjocikbmkjbaaGreat
open Go.RowKit
set_option linter.unusedVariables false
set_option linter.unusedSimpArgs false

/-! ## Marks -/
def msId (x : IdentityM) : Nat := x.1.length + x.2.length
def mqId (k : Int) (x : IdentityM) : IdentityM := (nums k x.1.length, nums (k + x.1.length) x.2.length)
def msFactA (x : FactM) : Nat := msId x.2.1 + x.2.2.length
def mqFactA (k : Int) (x : FactM) : FactM := (x.1, mqId k x.2.1, nums (k + msId x.2.1) x.2.2.length)
theorem mcle_stFact {x : FactM} (h : shFact.cnt x ≤ 1048576) : msFactA x ≤ 4194304 := by
  have hc : 0 + ((x.2.1.1.length + x.2.1.2.length) + x.2.2.length) ≤ 1048576 := h
  unfold msFactA msId
  omega
set_option maxHeartbeats 2000000 in
theorem markIdentity_any (cs : List Value) (x : IdentityM) (bl : List Nat) (k0 : Int) (w : World) (h : shIdentity.own w cs x bl) (hnd : bl.Nodup) (h0 : 0 ≤ k0) (h1 : k0 + msId x ≤ 4611686018427387904) :
    Calls Tryz.prog 34 #[.agg cs.toArray, .int .i64 k0] w (MkE shIdentity w cs (mqId k0 x) bl (k0 + msId x)) := by
  obtain ⟨c0, c1, b0, b1, rfl, rfl, O0, O1⟩ := h
  obtain ⟨_, rfl, A0, n0, d0, rfl, -⟩ := (Sh.il 3).ord O0
  obtain ⟨_, rfl, A1, n1, d1, rfl, -⟩ := (Sh.il 3).ord O1
  obtain ⟨w0, hw0, T0, hsz0, BP⟩ := boxes1 w #[.slice A0 n0 d0, .slice A1 n1 d1] 32
  have hn0 : w.heap.size ∉ b0 := blk_notin O0 rfl
  have hn1 : w.heap.size ∉ b1 := blk_notin O1 rfl
  have P0 := Sh.onext O0 T0
  have P1 := Sh.onext O1 T0
  have hm : k0 + (x.1.length : Int) + (x.2.length : Int) ≤ 4611686018427387904 := by unfold msId at h1; push_cast at h1; omega
  have HW0 := Lib.hid hw0
  have cP0 := BP.cell 0
  have cP1 := BP.cell 1
  simp at cP0 cP1
  have HX := nd_x hnd
  have HY := nd_y hnd
  clear hw0
  go_enter Tryz.func34, Tryz.ntmps34
  go_upto_region 1 with fail
  rw [← HW0.out]
  go_wp2_with fail
  refine (markIl_any _ x.1 b0 k0 w0 P0 h0 (by omega)).mono ?_
  rintro e w1 ⟨rfl, O2, hc⟩
  have P2 := Sh.ochg P1 hc HY
  have BP1 := BP.chgB hc hn0
  have cP2 := BP1.cell 1
  simp at cP2
  clear cP0 cP1
  go_wp2_with fail
  refine (markIl_any _ x.2 b1 (k0 + x.1.length) w1 P2 (by omega) (by omega)).mono ?_
  rintro e w2 ⟨rfl, O3, hc2⟩
  have O4 := Sh.ochg O2 hc2 HX
  have HE : Hid (k0 + (x.1.length : Int) + (x.2.length : Int) = k0 + ((msId x : Nat) : Int)) := by show _ = _; unfold msId; push_cast; omega
  go_wp2_with fail
  go_ret
  refine ⟨ret_int HE.out, ⟨[.slice A0 n0 d0], [.slice A1 n1 d1], b0, b1, rfl, rfl, O4, O3⟩, ?_⟩
  exact ((ChgB.ofBelow T0).trans (hc.mono fun b hb => List.mem_append_left _ hb)).trans (hc2.mono fun b hb => List.mem_append_right _ hb)
set_option maxHeartbeats 2000000 in
theorem heldIdentity_any (cs : List Value) (x : IdentityM) (k0 : Int) (w : World) (h : shIdentity.rd w cs (mqId k0 x)) (h0 : 0 ≤ k0) (h1 : k0 + msId x ≤ 4611686018427387904) :
    Calls Tryz.prog 35 #[.agg cs.toArray, .int .i64 k0] w (Bl w (.int .i64 (k0 + msId x))) := by
  obtain ⟨A0, n0, d0, A1, n1, d1, rfl, q0, q1⟩ := rdIdentity h
  obtain ⟨w0, hw0, T0, hsz0, BP⟩ := boxes1 w #[.slice A0 n0 d0, .slice A1 n1 d1] 32
  have hm : k0 + (x.1.length : Int) + (x.2.length : Int) ≤ 4611686018427387904 := by unfold msId at h1; push_cast at h1; omega
  have HW0 := Lib.hid hw0
  have r0 := q0.next stab_RI T0
  have r1 := q1.next stab_RI T0
  have cP0 := BP.cell 0
  have cP1 := BP.cell 1
  simp at cP0 cP1
  clear hw0
  go_enter Tryz.func35, Tryz.ntmps35
  go_upto_region 1 with fail
  rw [← HW0.out]
  go_wp2_with fail
  refine (heldIl_any A0 n0 d0 x.1 k0 w0 r0 h0 (by omega)).mono ?_
  rintro e w1 ⟨rfl, hb1⟩
  replace cP1 := keepc hb1 cP1
  have r2 := r1.next stab_RI hb1
  have hnn : ¬ k0 + (x.1.length : Int) < 0 := by omega
  clear cP0
  go_wp2_with fail
  refine (heldIl_any A1 n1 d1 x.2 (k0 + x.1.length) w1 r2 (by omega) (by omega)).mono ?_
  rintro e w2 ⟨rfl, hb2⟩
  have hnn2 : ¬ k0 + (x.1.length : Int) + (x.2.length : Int) < 0 := by omega
  have HE : Hid (k0 + (x.1.length : Int) + (x.2.length : Int) = k0 + ((msId x : Nat) : Int)) := by show _ = _; unfold msId; push_cast; omega
  go_wp2_with fail
  go_ret
  exact ⟨ret_int HE.out, below_next T0 (below_next hb1 hb2 rfl) rfl⟩
set_option maxHeartbeats 2000000 in
theorem markFact_any (cs : List Value) (x : FactM) (bl : List Nat) (k0 : Int) (w : World) (h : shFact.own w cs x bl) (hnd : bl.Nodup) (h0 : 0 ≤ k0) (h1 : k0 + msFactA x ≤ 4611686018427387904) :
    Calls Tryz.prog 15 #[.agg cs.toArray, .int .i64 k0] w (MkE shFact w cs (mqFactA k0 x) bl (k0 + msFactA x)) := by
  obtain ⟨cK, cX, bK, bX, rfl, rfl, OK, ⟨c0, c1, b0, b1, rfl, rfl, O0, O1⟩⟩ := h
  obtain ⟨_, rfl, ⟨rfl, lo0, hi0⟩, rfl⟩ := OK
  obtain ⟨AL, nL, cL, AR, nR, cR, rfl, -, -⟩ := rdIdentity (shIdentity.ord O0)
  obtain ⟨_, rfl, A1, n1, d1, rfl, -⟩ := (Sh.il 3).ord O1
  obtain ⟨w0, hw0, T0, hsz0, BP⟩ := boxes1 w #[.int .i64 x.1, .slice AL nL cL, .slice AR nR cR, .slice A1 n1 d1] 34
  have hnd2 : (b0 ++ b1).Nodup := by simpa using hnd
  have hn0 : w.heap.size ∉ b0 := blk_notin O0 rfl
  have P0 := Sh.onext O0 T0
  have P1 := Sh.onext O1 T0
  have hm : k0 + (msId x.2.1 : Int) + (x.2.2.length : Int) ≤ 4611686018427387904 := by unfold msFactA at h1; push_cast at h1; omega
  have HW0 := Lib.hid hw0
  have cP1 := BP.cell 1
  have cP2 := BP.cell 2
  have cP3 := BP.cell 3
  simp at cP1 cP2 cP3
  have HX := nd_x hnd2
  have HY := nd_y hnd2
  have HN0 := nd_l hnd2
  clear hw0
  go_enter Tryz.func15, Tryz.ntmps15
  go_upto_region 1 with fail
  rw [← HW0.out]
  go_wp2_with fail
  refine (markIdentity_any [.slice AL nL cL, .slice AR nR cR] x.2.1 b0 k0 w0 P0 HN0 h0 (by omega)).mono ?_
  rintro e w1 ⟨rfl, O2, hc⟩
  have P2 := Sh.ochg P1 hc HY
  have BP1 := BP.chgB hc hn0
  have cP4 := BP1.cell 3
  simp at cP4
  clear cP1 cP2 cP3
  obtain ⟨m0, HM0⟩ : ∃ m : Nat, Hid (msId x.2.1 = m) := ⟨_, rfl⟩
  rw [HM0.out] at hm ⊢
  go_wp2_with fail
  refine (markIl_any _ x.2.2 b1 (k0 + m0) w1 P2 (by omega) (by omega)).mono ?_
  rintro e w2 ⟨rfl, O3, hc2⟩
  have O4 := Sh.ochg O2 hc2 HX
  have HE : Hid (k0 + (m0 : Int) + (x.2.2.length : Int) = k0 + ((msFactA x : Nat) : Int)) := by show _ = _; unfold msFactA; rw [HM0.out]; push_cast; omega
  rw [← HM0.out] at O3
  go_wp2_with fail
  go_ret
  refine ⟨ret_int HE.out, ⟨[.int .i64 x.1], _, [], b0 ++ b1, rfl, rfl, ⟨_, rfl, ⟨rfl, lo0, hi0⟩, rfl⟩, ⟨_, _, b0, b1, rfl, rfl, O4, O3⟩⟩, ?_⟩
  exact ((ChgB.ofBelow T0).trans (hc.mono fun b hb => by simp [hb])).trans (hc2.mono fun b hb => by simp [hb])
set_option maxHeartbeats 2000000 in
theorem heldFact_any (cs : List Value) (x : FactM) (k0 : Int) (w : World) (h : shFact.rd w cs (mqFactA k0 x)) (h0 : 0 ≤ k0) (h1 : k0 + msFactA x ≤ 4611686018427387904) :
    Calls Tryz.prog 17 #[.agg cs.toArray, .int .i64 k0] w (Bl w (.int .i64 (k0 + msFactA x))) := by
  obtain ⟨cK, cX, rfl, OK, ⟨c0, c1, rfl, O0, O1⟩⟩ := h
  obtain ⟨vK, rfl, rfl, lo0, hi0⟩ := OK
  have O0' := O0
  obtain ⟨AL, nL, cL, AR, nR, cR, rfl, -, -⟩ := rdIdentity O0
  obtain ⟨_, rfl, A1, n1, d1, rfl, r1⟩ := O1
  obtain ⟨w0, hw0, T0, hsz0, BP⟩ := boxes1 w #[.int .i64 x.1, .slice AL nL cL, .slice AR nR cR, .slice A1 n1 d1] 34
  have P0 := stab_same O0' T0
  replace r1 := r1.next stab_RI T0
  have hm : k0 + (msId x.2.1 : Int) + (x.2.2.length : Int) ≤ 4611686018427387904 := by unfold msFactA at h1; push_cast at h1; omega
  have HW0 : Hid (w0 = w.alloc (.cells #[.int .i64 x.1, .slice AL nL cL, .slice AR nR cR, .slice A1 n1 d1] 34)) := hw0
  have cP1 := BP.cell 1
  have cP2 := BP.cell 2
  have cP3 := BP.cell 3
  simp at cP1 cP2 cP3
  clear hw0
  go_enter Tryz.func17, Tryz.ntmps17
  go_upto_region 1 with fail
  have HW1 : Hid (w.alloc (.cells #[.int .i64 (mqFactA k0 x).1, .slice AL nL cL, .slice AR nR cR, .slice A1 n1 d1] 34) = w0) := HW0.out.symm
  rw [HW1.out]
  go_wp2_with fail
  refine (heldIdentity_any [.slice AL nL cL, .slice AR nR cR] x.2.1 k0 w0 P0 h0 (by omega)).mono ?_
  rintro e w1 ⟨rfl, hb1⟩
  replace cP3 := keepc hb1 cP3
  have r2 := r1.next stab_RI hb1
  have r3 : RdL RI w1 A1 n1 (nums (k0 + msId x.2.1) x.2.2.length) := r2
  clear cP1 cP2 r2 r1
  obtain ⟨m0, HM0⟩ : ∃ m : Nat, Hid (msId x.2.1 = m) := ⟨_, rfl⟩
  rw [HM0.out] at hm r3 ⊢
  have hnn : ¬ k0 + (m0 : Int) < 0 := by omega
  go_wp2_with fail
  refine (heldIl_any A1 n1 d1 x.2.2 (k0 + m0) w1 r3 (by omega) (by omega)).mono ?_
  rintro e w2 ⟨rfl, hb2⟩
  have hnn2 : ¬ k0 + (m0 : Int) + (x.2.2.length : Int) < 0 := by omega
  have HE : Hid (k0 + (m0 : Int) + (x.2.2.length : Int) = k0 + ((msFactA x : Nat) : Int)) := by show _ = _; unfold msFactA; rw [HM0.out]; push_cast; omega
  go_wp2_with fail
  go_ret
  exact ⟨ret_int HE.out, below_next T0 (below_next hb1 hb2 rfl) rfl⟩
/-! ## A renamed fact as an owned value -/
theorem CfE.toE {w : World} {f : FactM} {e : Ending} {w' : World} (h : CfE w f e w') (hk : InR f.1) (hL : ∀ x ∈ f.2.1.1, InR x) (hR : ∀ x ∈ f.2.1.2, InR x) (hV : ∀ x ∈ f.2.2, InR x) : ToE shFact w f e w' := by
  obtain ⟨A1, c1, A2, c2, A3, c3, rfl, h1, h2, h3, a12, a13, a23, hb⟩ := h
  have iv : ∀ {v : Value} {n : Nat} {xs : List Value}, w'.ownsRow w.heap.size 3 1 v n xs → Iv w.heap.size w'.heap.size (obl v) := fun {v n xs} h => ⟨by unfold obl; cases v.ownBlock <;> simp, fun b hb => by rw [mem_obl] at hb; exact h.lt b hb⟩
  refine ⟨_, (obl (.slice A1 f.2.1.1.length c1) ++ obl (.slice A2 f.2.1.2.length c2)) ++ obl (.slice A3 f.2.2.length c3), rfl, ?_, ⟨?_, ?_⟩, hb⟩
  · exact ⟨[.int .i64 f.1], [.slice A1 f.2.1.1.length c1, .slice A2 f.2.1.2.length c2, .slice A3 f.2.2.length c3], [], _, rfl, rfl, ⟨_, rfl, ⟨rfl, hk.1, hk.2⟩, rfl⟩, [.slice A1 f.2.1.1.length c1, .slice A2 f.2.1.2.length c2], [.slice A3 f.2.2.length c3], _, _, rfl, rfl,
      ⟨[.slice A1 f.2.1.1.length c1], [.slice A2 f.2.1.2.length c2], _, _, rfl, rfl, ⟨_, rfl, own_mono h1 (Nat.zero_le _), hL, rfl⟩, ⟨_, rfl, own_mono h2 (Nat.zero_le _), hR, rfl⟩⟩, ⟨_, rfl, own_mono h3 (Nat.zero_le _), hV, rfl⟩⟩
  · refine List.nodup_append.2 ⟨List.nodup_append.2 ⟨(iv h1).1, (iv h2).1, ?_⟩, (iv h3).1, ?_⟩
    · rintro a ha b hb rfl
      exact a12 a (mem_obl.1 ha) (mem_obl.1 hb)
    · rintro a ha b hb rfl
      rcases List.mem_append.1 ha with ha | ha
      · exact a13 a (mem_obl.1 ha) (mem_obl.1 hb)
      · exact a23 a (mem_obl.1 ha) (mem_obl.1 hb)
  · intro b hb'
    rcases List.mem_append.1 hb' with hb' | hb'
    · rcases List.mem_append.1 hb' with hb' | hb'
      · exact (iv h1).2 b hb'
      · exact (iv h2).2 b hb'
    · exact (iv h3).2 b hb'
theorem nilFact (w : World) : shFact.own w [.int .i64 0, .slice none 0 0, .slice none 0 0, .slice none 0 0] (0, ([], []), []) [] := by
  have h : ∀ w : World, (Sh.il 3).own w [.slice none 0 0] [] [] := fun w => ⟨_, rfl, ⟨rfl, .inl ⟨rfl, rfl⟩⟩, (fun x hx => by simp at hx), rfl⟩
  exact ⟨[.int .i64 0], _, [], [], rfl, rfl, ⟨_, rfl, ⟨rfl, by omega, by omega⟩, rfl⟩, [.slice none 0 0, .slice none 0 0], [.slice none 0 0], [], [], rfl, rfl, ⟨[.slice none 0 0], [.slice none 0 0], [], [], rfl, rfl, h w, h w⟩, h w⟩
/-! ## RenameFact -/
noncomputable def rfOk (x : AlgebraM) (f : FactM) (s : List Int) : Bool := algB x && (trueB x f && permB x.1.toNat s)
noncomputable def rfR (x : AlgebraM) (f : FactM) (s : List Int) : FactM := if rfOk x f s then rfF f s else (0, ([], []), [])
theorem rises_nodup {l : List Int} (h : risesL l = true) : l.Nodup := (rises_iff.1 h).imp fun h => by omega
theorem nodup_in {n : Nat} {l : List Int} (h : l.Nodup) (hi : InL n l) : l.length ≤ n := by
  have := nodup_len (m := (List.range n).map fun (y : Nat) => (y : Int)) h fun v hv => by
    have := hi v hv
    exact List.mem_map.2 ⟨v.toNat, List.mem_range.2 (by omega), by omega⟩
  simpa using this
theorem mxV_le {n : Nat} {vars : List Int} (h : ∀ v ∈ vars, v ≤ (n : Int)) : mxV vars ≤ n + 1 := by
  unfold mxV
  rcases hl : vars.getLast? with _ | v
  · simp
  · have := h v (List.mem_of_getLast? hl)
    simp
    omega
theorem true_len {x : AlgebraM} {f : FactM} (hx : AlgP x) (h : trueB x f = true) : f.2.2.length ≤ 1000 := by
  obtain ⟨hi, h1, h35, h46, k0, k6⟩ := true_in h
  have hs := hx.2.1
  rcases (by omega : f.1 = 1 ∨ f.1 = 2 ∨ (f.1 = 3 ∨ f.1 = 5) ∨ (f.1 = 4 ∨ f.1 = 6)) with e | e | e | e
  · rw [h1 e]; simp
  · unfold trueB at h
    rw [if_neg (by omega), if_pos e, Bool.and_eq_true] at h
    have h3 := h.2
    unfold failB at h3
    rw [Bool.and_eq_true, Bool.and_eq_true, decide_eq_true_iff] at h3
    have := mxV_le (n := 5) (vars := varsL f.2.1.1 f.2.1.2) fun v hv => by have := (markL_in (n := 6) v hv).2; omega
    omega
  · have := nodup_in (rises_nodup (h35 e)) hi
    omega
  · rw [h46 e]; omega
theorem rfR_yes {x : AlgebraM} {f : FactM} {s : List Int} (h : rfOk x f s = true) : rfR x f s = rfF f s := if_pos h
theorem rfR_no {x : AlgebraM} {f : FactM} {s : List Int} (h : rfOk x f s = false) : rfR x f s = (0, ([], []), []) := if_neg (by rw [h]; decide)
theorem rfL_leneq {k : Int} {V s : List Int} {n : Nat} (hp : PermL n s) (hV : InL n V) (h35 : k = 3 ∨ k = 5 → V.Nodup) (h46 : k = 4 ∨ k = 6 → V.length = n) : (rfL k V s).length = V.length := by
  have hli : (inv n s).length = n := (inv_perm hp).1
  unfold rfL
  rw [hp.1]
  split
  · rw [comp_len]
  · split
    · rename_i h1 h2
      rw [← sort_mark (comp_nodup hp hV (h35 h2)) (comp_in hp hV), List.length_mergeSort, comp_len]
    · split
      · rename_i h1 h2 h3
        rw [kerL_len, comp_len, hli, h46 (.inl h3)]
      · split
        · rename_i h1 h2 h3 h4
          rw [comp_len, comp_len, hli, h46 (.inr h4)]
        · rfl
theorem rfR_cnt {x : AlgebraM} {f : FactM} {s : List Int} (h : shFact.cnt f ≤ 1048576) : shFact.cnt (rfR x f s) ≤ 1048576 := by
  have hc : 0 + ((f.2.1.1.length + f.2.1.2.length) + f.2.2.length) ≤ 1048576 := h
  rcases ho : rfOk x f s with _ | _
  · rw [rfR_no ho]; exact Nat.zero_le _
  · rw [rfR_yes ho]
    unfold rfOk at ho
    rw [Bool.and_eq_true, Bool.and_eq_true] at ho
    have hti := true_in ho.2.1
    have hp : PermL x.1.toNat s := tt_iff.1 ho.2.2
    show 0 + ((f.2.1.1.length + f.2.1.2.length) + (rfL f.1 f.2.2 s).length) ≤ 1048576
    rw [rfL_leneq hp hti.1 (fun h => rises_nodup (hti.2.2.1 h)) hti.2.2.2.1]
    exact hc
set_option maxRecDepth 20000 in
set_option maxHeartbeats 8000000 in
theorem implRF_any (cs ds : List Value) (v : Value) (x : AlgebraM) (f : FactM) (s : List Int) (w : World) (h : shAlgebra.rd w cs x) (h' : shFact.rd w ds f) (h2 : (Sh.il 3).rd w [v] s) (hcn : shFact.cnt f ≤ 1048576) :
    Calls Tryz.prog 10 #[.agg cs.toArray, .agg ds.toArray, v] w (OwA shFact w (rfR x f s) (rfOk x f s)) := by
  have hrd := h
  have hrd' := h'
  obtain ⟨B, m, d, rfl, qs, -⟩ := rdAlgebra h
  obtain ⟨AL, nL, cL, AR, nR, cR, AV, nV, cV, rfl, qk, rL, rR, rV⟩ := rdFact h'
  obtain ⟨_, e, AS, n, cS, rfl, rS⟩ := h2
  injection e with e _
  subst e
  obtain ⟨w1, hw1, T0, hsz1, P, F, R⟩ := boxes3' w #[.int .i64 x.1, .slice B m d] #[.int .i64 f.1, .slice AL nL cL, .slice AR nR cR, .slice AV nV cV] #[.int .i64 0, .slice none 0 0, .slice none 0 0, .slice none 0 0] 39 34 34
  have HW1 := Lib.hid hw1
  have H1 : Hid (∀ wz, Below w1.heap.size w1 wz → shAlgebra.rd wz [.int .i64 x.1, .slice B m d] x) := fun wz hz => stab_same (stab_same hrd T0) hz
  have H2 : Hid (∀ wz, Below w1.heap.size w1 wz → shFact.rd wz [.int .i64 f.1, .slice AL nL cL, .slice AR nR cR, .slice AV nV cV] f) := fun wz hz => stab_same (stab_same hrd' T0) hz
  have HL1 : Hid (∀ wz, Below w1.heap.size w1 wz → RdL RI wz AL nL f.2.1.1 ∧ RdL RI wz AR nR f.2.1.2 ∧ RdL RI wz AV nV f.2.2) := fun wz hz => ⟨(rL.next stab_RI T0).next stab_RI hz, (rR.next stab_RI T0).next stab_RI hz, (rV.next stab_RI T0).next stab_RI hz⟩
  have HS1 : Hid (∀ wz, Below w1.heap.size w1 wz → RdL RI wz AS n s) := fun wz hz => (rS.next stab_RI T0).next stab_RI hz
  have hlL := rL.len
  have hlR := rR.len
  have hlV := rV.len
  have HLN : Hid (nL ≤ 1048576 ∧ nR ≤ 1048576) := by
    have hc : 0 + ((f.2.1.1.length + f.2.1.2.length) + f.2.2.length) ≤ 1048576 := hcn
    exact ⟨by omega, by omega⟩
  have HVL := Lib.hid hlV
  have HIN : Hid (InR f.1 ∧ (∀ x ∈ f.2.1.1, InR x) ∧ (∀ x ∈ f.2.1.2, InR x)) := ⟨qk, rdl_inR rL, rdl_inR rR⟩
  obtain ⟨ab, HAB⟩ : ∃ b, Hid (algB x = b) := ⟨_, rfl⟩
  obtain ⟨tb, HTB⟩ : ∃ b, Hid (trueB x f = b) := ⟨_, rfl⟩
  obtain ⟨pb, HPB⟩ : ∃ b, Hid (permB x.1.toNat s = b) := ⟨_, rfl⟩
  obtain ⟨ok, HOK⟩ : ∃ b, Hid (rfOk x f s = b) := ⟨_, rfl⟩
  have HOV : Hid (ok = (ab && (tb && pb))) := by show _ = _; rw [← HOK.out, ← HAB.out, ← HTB.out, ← HPB.out]; rfl
  rw [HOK.out]
  have Tk : Below w1.heap.size w1 w1 := Below.refl _ _
  have HA := Lib.hid (isAlgebra_any _ x w1 (H1.out w1 Tk))
  rw [HAB.out] at HA
  clear hw1 hsz1 hrd hrd' h h' qs qk rL rR rV rS hlL hlR hlV hcn
  go_enter Tryz.func10, Tryz.ntmps10
  go_upto_region 1 with fail
  rw [← HW1.out]
  have cP_0 := P.cell 0
  have cP_1 := P.cell 1
  have cF_0 := F.cell 0
  have cF_1 := F.cell 1
  have cF_2 := F.cell 2
  have cF_3 := F.cell 3
  have cR_0 := R.cell 0
  have cR_1 := R.cell 1
  have cR_2 := R.cell 2
  have cR_3 := R.cell 3
  simp only [List.getElem?_toArray, List.getElem?_cons_zero, List.getElem?_cons_succ] at cP_0 cP_1 cF_0 cF_1 cF_2 cF_3 cR_0 cR_1 cR_2 cR_3
  go_wp2_with fail
  clear cP_0 cP_1 cF_0 cF_1 cF_2 cF_3 cR_0 cR_1 cR_2 cR_3
  refine (HA.out).mono ?_
  rintro e w2 ⟨rfl, hbw2⟩
  replace T0 := below_next T0 hbw2 rfl
  replace Tk := below_next Tk hbw2 rfl
  replace P := P.next hbw2
  replace F := F.next hbw2
  replace R := R.next hbw2
  clear hbw2
  rcases ab with _ | _
  · have HZ : Hid (rfR x f s = (0, ([], []), [])) := rfR_no (HOK.out.trans HOV.out)
    obtain ⟨w3, Hw3⟩ : ∃ x, Hid (x = ((((w2.setCell ⟨(w.heap.size + 1 + 1), 0, none⟩ (.int .i64 0)).setCell ⟨(w.heap.size + 1 + 1), 1, none⟩ (.slice none 0 0)).setCell ⟨(w.heap.size + 1 + 1), 2, none⟩ (.slice none 0 0)).setCell ⟨(w.heap.size + 1 + 1), 3, none⟩ (.slice none 0 0))) := ⟨_, rfl⟩
    have Bw3 : Blk w3 (w.heap.size + 1 + 1) 34 #[.int .i64 0, .slice none 0 0, .slice none 0 0, .slice none 0 0] := by rw [Hw3.out]; simpa using (Blk.set_ (Blk.set_ (Blk.set_ (Blk.set_ R 0 (.int .i64 0)) 1 (.slice none 0 0)) 2 (.slice none 0 0)) 3 (.slice none 0 0))
    have TF : Hid (Below w.heap.size w w3) := by show Below _ _ _; rw [Hw3.out]; exact (((T0.setCell (p := ⟨w.heap.size + 1 + 1, 0, none⟩) (show w.heap.size ≤ w.heap.size + 1 + 1 by omega) _).setCell (p := ⟨w.heap.size + 1 + 1, 1, none⟩) (show w.heap.size ≤ w.heap.size + 1 + 1 by omega) _).setCell (p := ⟨w.heap.size + 1 + 1, 2, none⟩) (show w.heap.size ≤ w.heap.size + 1 + 1 by omega) _).setCell (p := ⟨w.heap.size + 1 + 1, 3, none⟩) (show w.heap.size ≤ w.heap.size + 1 + 1 by omega) _
    have BRH := Lib.hid Bw3
    clear Bw3
    have cR_0 := R.cell 0
    have cR_1 := R.cell 1
    have cR_2 := R.cell 2
    have cR_3 := R.cell 3
    have fR_0 := R.frozen 0
    have fR_1 := R.frozen 1
    have fR_2 := R.frozen 2
    have fR_3 := R.frozen 3
    simp only [List.getElem?_toArray, List.getElem?_cons_zero, List.getElem?_cons_succ] at cR_0 cR_1 cR_2 cR_3
    go_wp2_with fail
    clear cR_0 cR_1 cR_2 cR_3 fR_0 fR_1 fR_2 fR_3
    rw [← Hw3.out]
    (try simp only [Exit.inBlock, Exit.then])
    refine bodyPost_ret (v := .tuple #[.agg #[.int .i64 0, .slice none 0 0, .slice none 0 0, .slice none 0 0], .bool false]) (res_row_tmpF rfl _ _ (w.heap.size + 1 + 1) 34 #[.int .i64 0, .slice none 0 0, .slice none 0 0, .slice none 0 0] (0, 0) _ _ (by simp) BRH.out Tryz.underlying34 rfl (by kernel_rfl) rfl) rfl ?_
    exact ⟨[.int .i64 0, .slice none 0 0, .slice none 0 0, .slice none 0 0], [], by rw [HOV.out]; rfl, by rw [HZ.out]; exact nilFact _, Iv.nil _ _, TF.out⟩
  · have HC := Lib.hid (isTrueOf_any [.int .i64 x.1, .slice B m d] [.int .i64 f.1, .slice AL nL cL, .slice AR nR cR, .slice AV nV cV] x f w2 (H1.out _ Tk) (H2.out _ Tk) (alg_iff.1 HAB.out))
    rw [HTB.out] at HC
    have cP_0 := P.cell 0
    have cP_1 := P.cell 1
    have cF_0 := F.cell 0
    have cF_1 := F.cell 1
    have cF_2 := F.cell 2
    have cF_3 := F.cell 3
    have cR_0 := R.cell 0
    have cR_1 := R.cell 1
    have cR_2 := R.cell 2
    have cR_3 := R.cell 3
    simp only [List.getElem?_toArray, List.getElem?_cons_zero, List.getElem?_cons_succ] at cP_0 cP_1 cF_0 cF_1 cF_2 cF_3 cR_0 cR_1 cR_2 cR_3
    go_wp2_with fail
    clear cP_0 cP_1 cF_0 cF_1 cF_2 cF_3 cR_0 cR_1 cR_2 cR_3
    refine (HC.out).mono ?_
    rintro e w3 ⟨rfl, hbw3⟩
    replace T0 := below_next T0 hbw3 rfl
    replace Tk := below_next Tk hbw3 rfl
    replace P := P.next hbw3
    replace F := F.next hbw3
    replace R := R.next hbw3
    clear hbw3
    rcases tb with _ | _
    · have HZ : Hid (rfR x f s = (0, ([], []), [])) := rfR_no (HOK.out.trans HOV.out)
      obtain ⟨w4, Hw4⟩ : ∃ x, Hid (x = ((((w3.setCell ⟨(w.heap.size + 1 + 1), 0, none⟩ (.int .i64 0)).setCell ⟨(w.heap.size + 1 + 1), 1, none⟩ (.slice none 0 0)).setCell ⟨(w.heap.size + 1 + 1), 2, none⟩ (.slice none 0 0)).setCell ⟨(w.heap.size + 1 + 1), 3, none⟩ (.slice none 0 0))) := ⟨_, rfl⟩
      have Bw4 : Blk w4 (w.heap.size + 1 + 1) 34 #[.int .i64 0, .slice none 0 0, .slice none 0 0, .slice none 0 0] := by rw [Hw4.out]; simpa using (Blk.set_ (Blk.set_ (Blk.set_ (Blk.set_ R 0 (.int .i64 0)) 1 (.slice none 0 0)) 2 (.slice none 0 0)) 3 (.slice none 0 0))
      have TF : Hid (Below w.heap.size w w4) := by show Below _ _ _; rw [Hw4.out]; exact (((T0.setCell (p := ⟨w.heap.size + 1 + 1, 0, none⟩) (show w.heap.size ≤ w.heap.size + 1 + 1 by omega) _).setCell (p := ⟨w.heap.size + 1 + 1, 1, none⟩) (show w.heap.size ≤ w.heap.size + 1 + 1 by omega) _).setCell (p := ⟨w.heap.size + 1 + 1, 2, none⟩) (show w.heap.size ≤ w.heap.size + 1 + 1 by omega) _).setCell (p := ⟨w.heap.size + 1 + 1, 3, none⟩) (show w.heap.size ≤ w.heap.size + 1 + 1 by omega) _
      have BRH := Lib.hid Bw4
      clear Bw4
      have cR_0 := R.cell 0
      have cR_1 := R.cell 1
      have cR_2 := R.cell 2
      have cR_3 := R.cell 3
      have fR_0 := R.frozen 0
      have fR_1 := R.frozen 1
      have fR_2 := R.frozen 2
      have fR_3 := R.frozen 3
      simp only [List.getElem?_toArray, List.getElem?_cons_zero, List.getElem?_cons_succ] at cR_0 cR_1 cR_2 cR_3
      go_wp2_with fail
      clear cR_0 cR_1 cR_2 cR_3 fR_0 fR_1 fR_2 fR_3
      rw [← Hw4.out]
      (try simp only [Exit.inBlock, Exit.then])
      refine bodyPost_ret (v := .tuple #[.agg #[.int .i64 0, .slice none 0 0, .slice none 0 0, .slice none 0 0], .bool false]) (res_row_tmpF rfl _ _ (w.heap.size + 1 + 1) 34 #[.int .i64 0, .slice none 0 0, .slice none 0 0, .slice none 0 0] (0, 0) _ _ (by simp) BRH.out Tryz.underlying34 rfl (by kernel_rfl) rfl) rfl ?_
      exact ⟨[.int .i64 0, .slice none 0 0, .slice none 0 0, .slice none 0 0], [], by rw [HOV.out]; rfl, by rw [HZ.out]; exact nilFact _, Iv.nil _ _, TF.out⟩
    · obtain ⟨N, HN⟩ : ∃ N : Nat, Hid (x.1.toNat = N) := ⟨_, rfl⟩
      have hax := alg_iff.1 HAB.out
      have hN1 := hax.1
      have hN2 := hax.2.1
      have HN8 : Hid (N ≤ 8) := by show N ≤ 8; rw [← HN.out]; omega
      have HXN : Hid (x.1 = (N : Int)) := by show x.1 = _; rw [← HN.out]; omega
      have HC2 : Hid (Calls Tryz.prog 29 #[.slice AS n cS, .int .i64 x.1] w3 (Bl w3 (.bool pb))) := by
        have := isOrder_any AS n cS N s w3 (HS1.out _ Tk) (by have := HN8.out; omega)
        rw [← HXN.out, ← HN.out, HPB.out] at this
        exact this
      clear hN1 hN2
      have cP_0 := P.cell 0
      have cP_1 := P.cell 1
      have cF_0 := F.cell 0
      have cF_1 := F.cell 1
      have cF_2 := F.cell 2
      have cF_3 := F.cell 3
      have cR_0 := R.cell 0
      have cR_1 := R.cell 1
      have cR_2 := R.cell 2
      have cR_3 := R.cell 3
      simp only [List.getElem?_toArray, List.getElem?_cons_zero, List.getElem?_cons_succ] at cP_0 cP_1 cF_0 cF_1 cF_2 cF_3 cR_0 cR_1 cR_2 cR_3
      go_wp2_with fail
      clear cP_0 cP_1 cF_0 cF_1 cF_2 cF_3 cR_0 cR_1 cR_2 cR_3
      refine (HC2.out).mono ?_
      rintro e w4 ⟨rfl, hbw4⟩
      replace T0 := below_next T0 hbw4 rfl
      replace Tk := below_next Tk hbw4 rfl
      replace P := P.next hbw4
      replace F := F.next hbw4
      replace R := R.next hbw4
      clear hbw4
      rcases pb with _ | _
      · have HZ : Hid (rfR x f s = (0, ([], []), [])) := rfR_no (HOK.out.trans HOV.out)
        obtain ⟨w5, Hw5⟩ : ∃ x, Hid (x = ((((w4.setCell ⟨(w.heap.size + 1 + 1), 0, none⟩ (.int .i64 0)).setCell ⟨(w.heap.size + 1 + 1), 1, none⟩ (.slice none 0 0)).setCell ⟨(w.heap.size + 1 + 1), 2, none⟩ (.slice none 0 0)).setCell ⟨(w.heap.size + 1 + 1), 3, none⟩ (.slice none 0 0))) := ⟨_, rfl⟩
        have Bw5 : Blk w5 (w.heap.size + 1 + 1) 34 #[.int .i64 0, .slice none 0 0, .slice none 0 0, .slice none 0 0] := by rw [Hw5.out]; simpa using (Blk.set_ (Blk.set_ (Blk.set_ (Blk.set_ R 0 (.int .i64 0)) 1 (.slice none 0 0)) 2 (.slice none 0 0)) 3 (.slice none 0 0))
        have TF : Hid (Below w.heap.size w w5) := by show Below _ _ _; rw [Hw5.out]; exact (((T0.setCell (p := ⟨w.heap.size + 1 + 1, 0, none⟩) (show w.heap.size ≤ w.heap.size + 1 + 1 by omega) _).setCell (p := ⟨w.heap.size + 1 + 1, 1, none⟩) (show w.heap.size ≤ w.heap.size + 1 + 1 by omega) _).setCell (p := ⟨w.heap.size + 1 + 1, 2, none⟩) (show w.heap.size ≤ w.heap.size + 1 + 1 by omega) _).setCell (p := ⟨w.heap.size + 1 + 1, 3, none⟩) (show w.heap.size ≤ w.heap.size + 1 + 1 by omega) _
        have BRH := Lib.hid Bw5
        clear Bw5
        have cR_0 := R.cell 0
        have cR_1 := R.cell 1
        have cR_2 := R.cell 2
        have cR_3 := R.cell 3
        have fR_0 := R.frozen 0
        have fR_1 := R.frozen 1
        have fR_2 := R.frozen 2
        have fR_3 := R.frozen 3
        simp only [List.getElem?_toArray, List.getElem?_cons_zero, List.getElem?_cons_succ] at cR_0 cR_1 cR_2 cR_3
        go_wp2_with fail
        clear cR_0 cR_1 cR_2 cR_3 fR_0 fR_1 fR_2 fR_3
        rw [← Hw5.out]
        (try simp only [Exit.inBlock, Exit.then])
        refine bodyPost_ret (v := .tuple #[.agg #[.int .i64 0, .slice none 0 0, .slice none 0 0, .slice none 0 0], .bool false]) (res_row_tmpF rfl _ _ (w.heap.size + 1 + 1) 34 #[.int .i64 0, .slice none 0 0, .slice none 0 0, .slice none 0 0] (0, 0) _ _ (by simp) BRH.out Tryz.underlying34 rfl (by kernel_rfl) rfl) rfl ?_
        exact ⟨[.int .i64 0, .slice none 0 0, .slice none 0 0, .slice none 0 0], [], by rw [HOV.out]; rfl, by rw [HZ.out]; exact nilFact _, Iv.nil _ _, TF.out⟩
      · have HZ : Hid (rfR x f s = rfF f s) := rfR_yes (HOK.out.trans HOV.out)
        have hpm : PermL N s := by rw [← HN.out]; exact tt_iff.1 HPB.out
        have hn : n = N := by rw [← (HS1.out _ Tk).len]; exact hpm.1
        have hti := true_in HTB.out
        rw [HN.out] at hti
        have HRS : Hid (w.heap.size + 1 + 1 < w4.heap.size ∧ w.heap.size ≤ w4.heap.size) := ⟨R.lt, T0.size⟩
        have HCR : Hid (Calls Tryz.prog 30 #[.agg #[.int .i64 f.1, .slice AL nL cL, .slice AR nR cR, .slice AV nV cV], .slice AS n cS] w4 (CfE w4 (f.1, f.2.1, rfL f.1 f.2.2 s))) := renameFact_any f.1 AL nL cL AR nR cR AV nV cV AS n cS f.2.1.1 f.2.1.2 f.2.2 s w4 (HL1.out _ Tk).1 (HL1.out _ Tk).2.1 (HL1.out _ Tk).2.2 (HS1.out _ Tk) (by rw [hn]; exact hpm) (by have := HN8.out; omega) HLN.out.1 HLN.out.2 (by rw [← HVL.out]; exact true_len hax HTB.out) (by rw [hn]; exact hti.1) ⟨hti.2.2.2.2.1, hti.2.2.2.2.2⟩ hti.2.1 (fun h => rises_nodup (hti.2.2.1 h)) (fun h => by rw [hn]; exact hti.2.2.2.1 h)
        have HIV : Hid (∀ v ∈ rfL f.1 f.2.2 s, InR v) := fun v hv => by
          have := rfL_in hpm hti.1 hti.2.2.2.1 v hv
          have := HN8.out
          exact ⟨by omega, by omega⟩
        clear hti hn hpm hax
        have cF_0 := F.cell 0
        have cF_1 := F.cell 1
        have cF_2 := F.cell 2
        have cF_3 := F.cell 3
        simp only [List.getElem?_toArray, List.getElem?_cons_zero, List.getElem?_cons_succ] at cF_0 cF_1 cF_2 cF_3
        go_wp2_with fail
        clear cF_0 cF_1 cF_2 cF_3
        refine HCR.out.mono ?_
        rintro e w5 hcf
        have hte := hcf.toE HIN.out.1 HIN.out.2.1 HIN.out.2.2 HIV.out
        obtain ⟨cs1, bl, rfl, hO, hI, hb⟩ := hte
        obtain ⟨A1, n1, c1, A2, n2, c2, A3, n3, c3, rfl, -, -, -, -⟩ := rdFact (shFact.ord hO)
        replace T0 := below_next T0 hb rfl
        replace Tk := below_next Tk hb rfl
        replace P := P.next hb
        replace F := F.next hb
        replace R := R.next hb
        skip
        obtain ⟨w6, Hw6⟩ : ∃ x, Hid (x = ((((w5.setCell ⟨(w.heap.size + 1 + 1), 0, none⟩ (.int .i64 f.1)).setCell ⟨(w.heap.size + 1 + 1), 1, none⟩ (.slice A1 n1 c1)).setCell ⟨(w.heap.size + 1 + 1), 2, none⟩ (.slice A2 n2 c2)).setCell ⟨(w.heap.size + 1 + 1), 3, none⟩ (.slice A3 n3 c3))) := ⟨_, rfl⟩
        have Bw6 : Blk w6 (w.heap.size + 1 + 1) 34 #[.int .i64 f.1, .slice A1 n1 c1, .slice A2 n2 c2, .slice A3 n3 c3] := by rw [Hw6.out]; simpa using (Blk.set_ (Blk.set_ (Blk.set_ (Blk.set_ R 0 (.int .i64 f.1)) 1 (.slice A1 n1 c1)) 2 (.slice A2 n2 c2)) 3 (.slice A3 n3 c3))
        have TF : Hid (Below w.heap.size w w6) := by show Below _ _ _; rw [Hw6.out]; exact (((T0.setCell (p := ⟨w.heap.size + 1 + 1, 0, none⟩) (show w.heap.size ≤ w.heap.size + 1 + 1 by omega) _).setCell (p := ⟨w.heap.size + 1 + 1, 1, none⟩) (show w.heap.size ≤ w.heap.size + 1 + 1 by omega) _).setCell (p := ⟨w.heap.size + 1 + 1, 2, none⟩) (show w.heap.size ≤ w.heap.size + 1 + 1 by omega) _).setCell (p := ⟨w.heap.size + 1 + 1, 3, none⟩) (show w.heap.size ≤ w.heap.size + 1 + 1 by omega) _
        have hRI : (w.heap.size + 1 + 1) ∉ bl := fun hh => by have := hI.2 _ hh; have := HRS.out; omega
        have OF : Hid (shFact.own w6 [.int .i64 f.1, .slice A1 n1 c1, .slice A2 n2 c2, .slice A3 n3 c3] (rfF f s) bl) := by show shFact.own _ _ _ _; rw [Hw6.out]; exact Sh.oset' (p := ⟨w.heap.size + 1 + 1, 3, none⟩) (Sh.oset' (p := ⟨w.heap.size + 1 + 1, 2, none⟩) (Sh.oset' (p := ⟨w.heap.size + 1 + 1, 1, none⟩) (Sh.oset' (p := ⟨w.heap.size + 1 + 1, 0, none⟩) hO hRI _) hRI _) hRI _) hRI _
        have IF : Hid (Iv w.heap.size w6.heap.size bl) := by show Iv _ _ _; rw [Hw6.out]; exact hI.mono (by have := HRS.out; omega) (by simp)
        have BRH := Lib.hid Bw6
        clear Bw6 hO hI hcf hRI
        have cR_0 := R.cell 0
        have cR_1 := R.cell 1
        have cR_2 := R.cell 2
        have cR_3 := R.cell 3
        have fR_0 := R.frozen 0
        have fR_1 := R.frozen 1
        have fR_2 := R.frozen 2
        have fR_3 := R.frozen 3
        simp only [List.getElem?_toArray, List.getElem?_cons_zero, List.getElem?_cons_succ] at cR_0 cR_1 cR_2 cR_3
        go_wp2_with fail
        clear cR_0 cR_1 cR_2 cR_3 fR_0 fR_1 fR_2 fR_3
        rw [← Hw6.out]
        (try simp only [Exit.inBlock, Exit.then])
        refine bodyPost_ret (v := .tuple #[.agg #[.int .i64 f.1, .slice A1 n1 c1, .slice A2 n2 c2, .slice A3 n3 c3], .bool true]) (res_row_tmpF rfl _ _ (w.heap.size + 1 + 1) 34 #[.int .i64 f.1, .slice A1 n1 c1, .slice A2 n2 c2, .slice A3 n3 c3] (0, 0) _ _ (by simp) BRH.out Tryz.underlying34 rfl (by kernel_rfl) rfl) rfl ?_
        exact ⟨[.int .i64 f.1, .slice A1 n1 c1, .slice A2 n2 c2, .slice A3 n3 c3], bl, by rw [HOV.out]; rfl, by rw [HZ.out]; exact OF.out, IF.out, TF.out⟩
set_option maxRecDepth 20000 in
set_option maxHeartbeats 8000000 in
theorem specRF_any (cs ds : List Value) (v : Value) (x : AlgebraM) (f : FactM) (s : List Int) (w : World) (h : shAlgebra.rd w cs x) (h' : shFact.rd w ds f) (h2 : (Sh.il 3).rd w [v] s) (hcn : shFact.cnt f ≤ 1048576) :
    Calls Tryz.prog 6 #[.agg cs.toArray, .agg ds.toArray, v] w (OwA shFact w (rfR x f s) (rfOk x f s)) := by
  have hrd := h
  have hrd' := h'
  obtain ⟨B, m, d, rfl, qs, -⟩ := rdAlgebra h
  obtain ⟨AL, nL, cL, AR, nR, cR, AV, nV, cV, rfl, qk, rL, rR, rV⟩ := rdFact h'
  obtain ⟨_, e, AS, n, cS, rfl, rS⟩ := h2
  injection e with e _
  subst e
  obtain ⟨w1, hw1, T0, hsz1, P, F, R⟩ := boxes3' w #[.int .i64 x.1, .slice B m d] #[.int .i64 f.1, .slice AL nL cL, .slice AR nR cR, .slice AV nV cV] #[.int .i64 0, .slice none 0 0, .slice none 0 0, .slice none 0 0] 39 34 34
  have HW1 := Lib.hid hw1
  have H1 : Hid (∀ wz, Below w1.heap.size w1 wz → shAlgebra.rd wz [.int .i64 x.1, .slice B m d] x) := fun wz hz => stab_same (stab_same hrd T0) hz
  have H2 : Hid (∀ wz, Below w1.heap.size w1 wz → shFact.rd wz [.int .i64 f.1, .slice AL nL cL, .slice AR nR cR, .slice AV nV cV] f) := fun wz hz => stab_same (stab_same hrd' T0) hz
  have HL1 : Hid (∀ wz, Below w1.heap.size w1 wz → RdL RI wz AL nL f.2.1.1 ∧ RdL RI wz AR nR f.2.1.2 ∧ RdL RI wz AV nV f.2.2) := fun wz hz => ⟨(rL.next stab_RI T0).next stab_RI hz, (rR.next stab_RI T0).next stab_RI hz, (rV.next stab_RI T0).next stab_RI hz⟩
  have HS1 : Hid (∀ wz, Below w1.heap.size w1 wz → RdL RI wz AS n s) := fun wz hz => (rS.next stab_RI T0).next stab_RI hz
  have hlL := rL.len
  have hlR := rR.len
  have hlV := rV.len
  have HLN : Hid (nL ≤ 1048576 ∧ nR ≤ 1048576) := by
    have hc : 0 + ((f.2.1.1.length + f.2.1.2.length) + f.2.2.length) ≤ 1048576 := hcn
    exact ⟨by omega, by omega⟩
  have HVL := Lib.hid hlV
  have HIN : Hid (InR f.1 ∧ (∀ x ∈ f.2.1.1, InR x) ∧ (∀ x ∈ f.2.1.2, InR x)) := ⟨qk, rdl_inR rL, rdl_inR rR⟩
  obtain ⟨ab, HAB⟩ : ∃ b, Hid (algB x = b) := ⟨_, rfl⟩
  obtain ⟨tb, HTB⟩ : ∃ b, Hid (trueB x f = b) := ⟨_, rfl⟩
  obtain ⟨pb, HPB⟩ : ∃ b, Hid (permB x.1.toNat s = b) := ⟨_, rfl⟩
  obtain ⟨ok, HOK⟩ : ∃ b, Hid (rfOk x f s = b) := ⟨_, rfl⟩
  have HOV : Hid (ok = (ab && (tb && pb))) := by show _ = _; rw [← HOK.out, ← HAB.out, ← HTB.out, ← HPB.out]; rfl
  rw [HOK.out]
  have Tk : Below w1.heap.size w1 w1 := Below.refl _ _
  have HA := Lib.hid (l2Good_any _ x w1 (H1.out w1 Tk))
  rw [HAB.out] at HA
  clear hw1 hsz1 hrd hrd' h h' qs qk rL rR rV rS hlL hlR hlV hcn
  go_enter Tryz.func6, Tryz.ntmps6
  go_upto_region 1 with fail
  rw [← HW1.out]
  have cP_0 := P.cell 0
  have cP_1 := P.cell 1
  have cF_0 := F.cell 0
  have cF_1 := F.cell 1
  have cF_2 := F.cell 2
  have cF_3 := F.cell 3
  have cR_0 := R.cell 0
  have cR_1 := R.cell 1
  have cR_2 := R.cell 2
  have cR_3 := R.cell 3
  simp only [List.getElem?_toArray, List.getElem?_cons_zero, List.getElem?_cons_succ] at cP_0 cP_1 cF_0 cF_1 cF_2 cF_3 cR_0 cR_1 cR_2 cR_3
  go_wp2_with fail
  clear cP_0 cP_1 cF_0 cF_1 cF_2 cF_3 cR_0 cR_1 cR_2 cR_3
  refine (HA.out).mono ?_
  rintro e w2 ⟨rfl, hbw2⟩
  replace T0 := below_next T0 hbw2 rfl
  replace Tk := below_next Tk hbw2 rfl
  replace P := P.next hbw2
  replace F := F.next hbw2
  replace R := R.next hbw2
  clear hbw2
  rcases ab with _ | _
  · have HZ : Hid (rfR x f s = (0, ([], []), [])) := rfR_no (HOK.out.trans HOV.out)
    obtain ⟨w3, Hw3⟩ : ∃ x, Hid (x = ((((w2.setCell ⟨(w.heap.size + 1 + 1), 0, none⟩ (.int .i64 0)).setCell ⟨(w.heap.size + 1 + 1), 1, none⟩ (.slice none 0 0)).setCell ⟨(w.heap.size + 1 + 1), 2, none⟩ (.slice none 0 0)).setCell ⟨(w.heap.size + 1 + 1), 3, none⟩ (.slice none 0 0))) := ⟨_, rfl⟩
    have Bw3 : Blk w3 (w.heap.size + 1 + 1) 34 #[.int .i64 0, .slice none 0 0, .slice none 0 0, .slice none 0 0] := by rw [Hw3.out]; simpa using (Blk.set_ (Blk.set_ (Blk.set_ (Blk.set_ R 0 (.int .i64 0)) 1 (.slice none 0 0)) 2 (.slice none 0 0)) 3 (.slice none 0 0))
    have TF : Hid (Below w.heap.size w w3) := by show Below _ _ _; rw [Hw3.out]; exact (((T0.setCell (p := ⟨w.heap.size + 1 + 1, 0, none⟩) (show w.heap.size ≤ w.heap.size + 1 + 1 by omega) _).setCell (p := ⟨w.heap.size + 1 + 1, 1, none⟩) (show w.heap.size ≤ w.heap.size + 1 + 1 by omega) _).setCell (p := ⟨w.heap.size + 1 + 1, 2, none⟩) (show w.heap.size ≤ w.heap.size + 1 + 1 by omega) _).setCell (p := ⟨w.heap.size + 1 + 1, 3, none⟩) (show w.heap.size ≤ w.heap.size + 1 + 1 by omega) _
    have BRH := Lib.hid Bw3
    clear Bw3
    have cR_0 := R.cell 0
    have cR_1 := R.cell 1
    have cR_2 := R.cell 2
    have cR_3 := R.cell 3
    have fR_0 := R.frozen 0
    have fR_1 := R.frozen 1
    have fR_2 := R.frozen 2
    have fR_3 := R.frozen 3
    simp only [List.getElem?_toArray, List.getElem?_cons_zero, List.getElem?_cons_succ] at cR_0 cR_1 cR_2 cR_3
    go_wp2_with fail
    clear cR_0 cR_1 cR_2 cR_3 fR_0 fR_1 fR_2 fR_3
    rw [← Hw3.out]
    (try simp only [Exit.inBlock, Exit.then])
    refine bodyPost_ret (v := .tuple #[.agg #[.int .i64 0, .slice none 0 0, .slice none 0 0, .slice none 0 0], .bool false]) (res_row_tmpF rfl _ _ (w.heap.size + 1 + 1) 34 #[.int .i64 0, .slice none 0 0, .slice none 0 0, .slice none 0 0] (0, 0) _ _ (by simp) BRH.out Tryz.underlying34 rfl (by kernel_rfl) rfl) rfl ?_
    exact ⟨[.int .i64 0, .slice none 0 0, .slice none 0 0, .slice none 0 0], [], by rw [HOV.out]; rfl, by rw [HZ.out]; exact nilFact _, Iv.nil _ _, TF.out⟩
  · have HC := Lib.hid (l32True_any [.int .i64 x.1, .slice B m d] [.int .i64 f.1, .slice AL nL cL, .slice AR nR cR, .slice AV nV cV] x f w2 (H1.out _ Tk) (H2.out _ Tk) (alg_iff.1 HAB.out))
    rw [HTB.out] at HC
    have cP_0 := P.cell 0
    have cP_1 := P.cell 1
    have cF_0 := F.cell 0
    have cF_1 := F.cell 1
    have cF_2 := F.cell 2
    have cF_3 := F.cell 3
    have cR_0 := R.cell 0
    have cR_1 := R.cell 1
    have cR_2 := R.cell 2
    have cR_3 := R.cell 3
    simp only [List.getElem?_toArray, List.getElem?_cons_zero, List.getElem?_cons_succ] at cP_0 cP_1 cF_0 cF_1 cF_2 cF_3 cR_0 cR_1 cR_2 cR_3
    go_wp2_with fail
    clear cP_0 cP_1 cF_0 cF_1 cF_2 cF_3 cR_0 cR_1 cR_2 cR_3
    refine (HC.out).mono ?_
    rintro e w3 ⟨rfl, hbw3⟩
    replace T0 := below_next T0 hbw3 rfl
    replace Tk := below_next Tk hbw3 rfl
    replace P := P.next hbw3
    replace F := F.next hbw3
    replace R := R.next hbw3
    clear hbw3
    rcases tb with _ | _
    · have HZ : Hid (rfR x f s = (0, ([], []), [])) := rfR_no (HOK.out.trans HOV.out)
      obtain ⟨w4, Hw4⟩ : ∃ x, Hid (x = ((((w3.setCell ⟨(w.heap.size + 1 + 1), 0, none⟩ (.int .i64 0)).setCell ⟨(w.heap.size + 1 + 1), 1, none⟩ (.slice none 0 0)).setCell ⟨(w.heap.size + 1 + 1), 2, none⟩ (.slice none 0 0)).setCell ⟨(w.heap.size + 1 + 1), 3, none⟩ (.slice none 0 0))) := ⟨_, rfl⟩
      have Bw4 : Blk w4 (w.heap.size + 1 + 1) 34 #[.int .i64 0, .slice none 0 0, .slice none 0 0, .slice none 0 0] := by rw [Hw4.out]; simpa using (Blk.set_ (Blk.set_ (Blk.set_ (Blk.set_ R 0 (.int .i64 0)) 1 (.slice none 0 0)) 2 (.slice none 0 0)) 3 (.slice none 0 0))
      have TF : Hid (Below w.heap.size w w4) := by show Below _ _ _; rw [Hw4.out]; exact (((T0.setCell (p := ⟨w.heap.size + 1 + 1, 0, none⟩) (show w.heap.size ≤ w.heap.size + 1 + 1 by omega) _).setCell (p := ⟨w.heap.size + 1 + 1, 1, none⟩) (show w.heap.size ≤ w.heap.size + 1 + 1 by omega) _).setCell (p := ⟨w.heap.size + 1 + 1, 2, none⟩) (show w.heap.size ≤ w.heap.size + 1 + 1 by omega) _).setCell (p := ⟨w.heap.size + 1 + 1, 3, none⟩) (show w.heap.size ≤ w.heap.size + 1 + 1 by omega) _
      have BRH := Lib.hid Bw4
      clear Bw4
      have cR_0 := R.cell 0
      have cR_1 := R.cell 1
      have cR_2 := R.cell 2
      have cR_3 := R.cell 3
      have fR_0 := R.frozen 0
      have fR_1 := R.frozen 1
      have fR_2 := R.frozen 2
      have fR_3 := R.frozen 3
      simp only [List.getElem?_toArray, List.getElem?_cons_zero, List.getElem?_cons_succ] at cR_0 cR_1 cR_2 cR_3
      go_wp2_with fail
      clear cR_0 cR_1 cR_2 cR_3 fR_0 fR_1 fR_2 fR_3
      rw [← Hw4.out]
      (try simp only [Exit.inBlock, Exit.then])
      refine bodyPost_ret (v := .tuple #[.agg #[.int .i64 0, .slice none 0 0, .slice none 0 0, .slice none 0 0], .bool false]) (res_row_tmpF rfl _ _ (w.heap.size + 1 + 1) 34 #[.int .i64 0, .slice none 0 0, .slice none 0 0, .slice none 0 0] (0, 0) _ _ (by simp) BRH.out Tryz.underlying34 rfl (by kernel_rfl) rfl) rfl ?_
      exact ⟨[.int .i64 0, .slice none 0 0, .slice none 0 0, .slice none 0 0], [], by rw [HOV.out]; rfl, by rw [HZ.out]; exact nilFact _, Iv.nil _ _, TF.out⟩
    · obtain ⟨N, HN⟩ : ∃ N : Nat, Hid (x.1.toNat = N) := ⟨_, rfl⟩
      have hax := alg_iff.1 HAB.out
      have hN1 := hax.1
      have hN2 := hax.2.1
      have HN8 : Hid (N ≤ 8) := by show N ≤ 8; rw [← HN.out]; omega
      have HXN : Hid (x.1 = (N : Int)) := by show x.1 = _; rw [← HN.out]; omega
      have HC2 : Hid (Calls Tryz.prog 23 #[.slice AS n cS, .int .i64 x.1] w3 (Bl w3 (.bool pb))) := by
        have := l2PermB_any AS n cS N s w3 (HS1.out _ Tk) (by have := HN8.out; omega)
        rw [← HXN.out, ← HN.out, HPB.out] at this
        exact this
      clear hN1 hN2
      have cP_0 := P.cell 0
      have cP_1 := P.cell 1
      have cF_0 := F.cell 0
      have cF_1 := F.cell 1
      have cF_2 := F.cell 2
      have cF_3 := F.cell 3
      have cR_0 := R.cell 0
      have cR_1 := R.cell 1
      have cR_2 := R.cell 2
      have cR_3 := R.cell 3
      simp only [List.getElem?_toArray, List.getElem?_cons_zero, List.getElem?_cons_succ] at cP_0 cP_1 cF_0 cF_1 cF_2 cF_3 cR_0 cR_1 cR_2 cR_3
      go_wp2_with fail
      clear cP_0 cP_1 cF_0 cF_1 cF_2 cF_3 cR_0 cR_1 cR_2 cR_3
      refine (HC2.out).mono ?_
      rintro e w4 ⟨rfl, hbw4⟩
      replace T0 := below_next T0 hbw4 rfl
      replace Tk := below_next Tk hbw4 rfl
      replace P := P.next hbw4
      replace F := F.next hbw4
      replace R := R.next hbw4
      clear hbw4
      rcases pb with _ | _
      · have HZ : Hid (rfR x f s = (0, ([], []), [])) := rfR_no (HOK.out.trans HOV.out)
        obtain ⟨w5, Hw5⟩ : ∃ x, Hid (x = ((((w4.setCell ⟨(w.heap.size + 1 + 1), 0, none⟩ (.int .i64 0)).setCell ⟨(w.heap.size + 1 + 1), 1, none⟩ (.slice none 0 0)).setCell ⟨(w.heap.size + 1 + 1), 2, none⟩ (.slice none 0 0)).setCell ⟨(w.heap.size + 1 + 1), 3, none⟩ (.slice none 0 0))) := ⟨_, rfl⟩
        have Bw5 : Blk w5 (w.heap.size + 1 + 1) 34 #[.int .i64 0, .slice none 0 0, .slice none 0 0, .slice none 0 0] := by rw [Hw5.out]; simpa using (Blk.set_ (Blk.set_ (Blk.set_ (Blk.set_ R 0 (.int .i64 0)) 1 (.slice none 0 0)) 2 (.slice none 0 0)) 3 (.slice none 0 0))
        have TF : Hid (Below w.heap.size w w5) := by show Below _ _ _; rw [Hw5.out]; exact (((T0.setCell (p := ⟨w.heap.size + 1 + 1, 0, none⟩) (show w.heap.size ≤ w.heap.size + 1 + 1 by omega) _).setCell (p := ⟨w.heap.size + 1 + 1, 1, none⟩) (show w.heap.size ≤ w.heap.size + 1 + 1 by omega) _).setCell (p := ⟨w.heap.size + 1 + 1, 2, none⟩) (show w.heap.size ≤ w.heap.size + 1 + 1 by omega) _).setCell (p := ⟨w.heap.size + 1 + 1, 3, none⟩) (show w.heap.size ≤ w.heap.size + 1 + 1 by omega) _
        have BRH := Lib.hid Bw5
        clear Bw5
        have cR_0 := R.cell 0
        have cR_1 := R.cell 1
        have cR_2 := R.cell 2
        have cR_3 := R.cell 3
        have fR_0 := R.frozen 0
        have fR_1 := R.frozen 1
        have fR_2 := R.frozen 2
        have fR_3 := R.frozen 3
        simp only [List.getElem?_toArray, List.getElem?_cons_zero, List.getElem?_cons_succ] at cR_0 cR_1 cR_2 cR_3
        go_wp2_with fail
        clear cR_0 cR_1 cR_2 cR_3 fR_0 fR_1 fR_2 fR_3
        rw [← Hw5.out]
        (try simp only [Exit.inBlock, Exit.then])
        refine bodyPost_ret (v := .tuple #[.agg #[.int .i64 0, .slice none 0 0, .slice none 0 0, .slice none 0 0], .bool false]) (res_row_tmpF rfl _ _ (w.heap.size + 1 + 1) 34 #[.int .i64 0, .slice none 0 0, .slice none 0 0, .slice none 0 0] (0, 0) _ _ (by simp) BRH.out Tryz.underlying34 rfl (by kernel_rfl) rfl) rfl ?_
        exact ⟨[.int .i64 0, .slice none 0 0, .slice none 0 0, .slice none 0 0], [], by rw [HOV.out]; rfl, by rw [HZ.out]; exact nilFact _, Iv.nil _ _, TF.out⟩
      · have HZ : Hid (rfR x f s = rfF f s) := rfR_yes (HOK.out.trans HOV.out)
        have hpm : PermL N s := by rw [← HN.out]; exact tt_iff.1 HPB.out
        have hn : n = N := by rw [← (HS1.out _ Tk).len]; exact hpm.1
        have hti := true_in HTB.out
        rw [HN.out] at hti
        have HRS : Hid (w.heap.size + 1 + 1 < w4.heap.size ∧ w.heap.size ≤ w4.heap.size) := ⟨R.lt, T0.size⟩
        have HCR : Hid (Calls Tryz.prog 24 #[.agg #[.int .i64 f.1, .slice AL nL cL, .slice AR nR cR, .slice AV nV cV], .slice AS n cS] w4 (CfE w4 (f.1, f.2.1, rfL f.1 f.2.2 s))) := l32Rename_any f.1 AL nL cL AR nR cR AV nV cV AS n cS f.2.1.1 f.2.1.2 f.2.2 s w4 (HL1.out _ Tk).1 (HL1.out _ Tk).2.1 (HL1.out _ Tk).2.2 (HS1.out _ Tk) (by rw [hn]; exact hpm) (by have := HN8.out; omega) HLN.out.1 HLN.out.2 (by rw [← HVL.out]; exact true_len hax HTB.out) (by rw [hn]; exact hti.1) ⟨hti.2.2.2.2.1, hti.2.2.2.2.2⟩ hti.2.1 (fun h => rises_nodup (hti.2.2.1 h)) (fun h => by rw [hn]; exact hti.2.2.2.1 h)
        have HIV : Hid (∀ v ∈ rfL f.1 f.2.2 s, InR v) := fun v hv => by
          have := rfL_in hpm hti.1 hti.2.2.2.1 v hv
          have := HN8.out
          exact ⟨by omega, by omega⟩
        clear hti hn hpm hax
        have cF_0 := F.cell 0
        have cF_1 := F.cell 1
        have cF_2 := F.cell 2
        have cF_3 := F.cell 3
        simp only [List.getElem?_toArray, List.getElem?_cons_zero, List.getElem?_cons_succ] at cF_0 cF_1 cF_2 cF_3
        go_wp2_with fail
        clear cF_0 cF_1 cF_2 cF_3
        refine HCR.out.mono ?_
        rintro e w5 hcf
        have hte := hcf.toE HIN.out.1 HIN.out.2.1 HIN.out.2.2 HIV.out
        obtain ⟨cs1, bl, rfl, hO, hI, hb⟩ := hte
        obtain ⟨A1, n1, c1, A2, n2, c2, A3, n3, c3, rfl, -, -, -, -⟩ := rdFact (shFact.ord hO)
        replace T0 := below_next T0 hb rfl
        replace Tk := below_next Tk hb rfl
        replace P := P.next hb
        replace F := F.next hb
        replace R := R.next hb
        skip
        obtain ⟨w6, Hw6⟩ : ∃ x, Hid (x = ((((w5.setCell ⟨(w.heap.size + 1 + 1), 0, none⟩ (.int .i64 f.1)).setCell ⟨(w.heap.size + 1 + 1), 1, none⟩ (.slice A1 n1 c1)).setCell ⟨(w.heap.size + 1 + 1), 2, none⟩ (.slice A2 n2 c2)).setCell ⟨(w.heap.size + 1 + 1), 3, none⟩ (.slice A3 n3 c3))) := ⟨_, rfl⟩
        have Bw6 : Blk w6 (w.heap.size + 1 + 1) 34 #[.int .i64 f.1, .slice A1 n1 c1, .slice A2 n2 c2, .slice A3 n3 c3] := by rw [Hw6.out]; simpa using (Blk.set_ (Blk.set_ (Blk.set_ (Blk.set_ R 0 (.int .i64 f.1)) 1 (.slice A1 n1 c1)) 2 (.slice A2 n2 c2)) 3 (.slice A3 n3 c3))
        have TF : Hid (Below w.heap.size w w6) := by show Below _ _ _; rw [Hw6.out]; exact (((T0.setCell (p := ⟨w.heap.size + 1 + 1, 0, none⟩) (show w.heap.size ≤ w.heap.size + 1 + 1 by omega) _).setCell (p := ⟨w.heap.size + 1 + 1, 1, none⟩) (show w.heap.size ≤ w.heap.size + 1 + 1 by omega) _).setCell (p := ⟨w.heap.size + 1 + 1, 2, none⟩) (show w.heap.size ≤ w.heap.size + 1 + 1 by omega) _).setCell (p := ⟨w.heap.size + 1 + 1, 3, none⟩) (show w.heap.size ≤ w.heap.size + 1 + 1 by omega) _
        have hRI : (w.heap.size + 1 + 1) ∉ bl := fun hh => by have := hI.2 _ hh; have := HRS.out; omega
        have OF : Hid (shFact.own w6 [.int .i64 f.1, .slice A1 n1 c1, .slice A2 n2 c2, .slice A3 n3 c3] (rfF f s) bl) := by show shFact.own _ _ _ _; rw [Hw6.out]; exact Sh.oset' (p := ⟨w.heap.size + 1 + 1, 3, none⟩) (Sh.oset' (p := ⟨w.heap.size + 1 + 1, 2, none⟩) (Sh.oset' (p := ⟨w.heap.size + 1 + 1, 1, none⟩) (Sh.oset' (p := ⟨w.heap.size + 1 + 1, 0, none⟩) hO hRI _) hRI _) hRI _) hRI _
        have IF : Hid (Iv w.heap.size w6.heap.size bl) := by show Iv _ _ _; rw [Hw6.out]; exact hI.mono (by have := HRS.out; omega) (by simp)
        have BRH := Lib.hid Bw6
        clear Bw6 hO hI hcf hRI
        have cR_0 := R.cell 0
        have cR_1 := R.cell 1
        have cR_2 := R.cell 2
        have cR_3 := R.cell 3
        have fR_0 := R.frozen 0
        have fR_1 := R.frozen 1
        have fR_2 := R.frozen 2
        have fR_3 := R.frozen 3
        simp only [List.getElem?_toArray, List.getElem?_cons_zero, List.getElem?_cons_succ] at cR_0 cR_1 cR_2 cR_3
        go_wp2_with fail
        clear cR_0 cR_1 cR_2 cR_3 fR_0 fR_1 fR_2 fR_3
        rw [← Hw6.out]
        (try simp only [Exit.inBlock, Exit.then])
        refine bodyPost_ret (v := .tuple #[.agg #[.int .i64 f.1, .slice A1 n1 c1, .slice A2 n2 c2, .slice A3 n3 c3], .bool true]) (res_row_tmpF rfl _ _ (w.heap.size + 1 + 1) 34 #[.int .i64 f.1, .slice A1 n1 c1, .slice A2 n2 c2, .slice A3 n3 c3] (0, 0) _ _ (by simp) BRH.out Tryz.underlying34 rfl (by kernel_rfl) rfl) rfl ?_
        exact ⟨[.int .i64 f.1, .slice A1 n1 c1, .slice A2 n2 c2, .slice A3 n3 c3], bl, by rw [HOV.out]; rfl, by rw [HZ.out]; exact OF.out, IF.out, TF.out⟩
end Go.Proofs.YtidjocikbmkjbaaGreat
