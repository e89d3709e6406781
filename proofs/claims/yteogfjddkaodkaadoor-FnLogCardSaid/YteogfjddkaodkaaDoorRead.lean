
/- Walk: the reference's reading of a line. -/
import Derived.Test.YteogfjddkaodkaaDoorDec2
namespace Go.Proofs.YteogfjddkaodkaaDoor
open Go.RowKit

/-- The first piece of a text, as the walk reads it. -/
theorem split_zero {w : World} {A : Option Addr} {b : UInt8} {l : Bs} (h : RdL RSb w A (splitL b l).length (splitL b l)) : ∃ g o, A = some ⟨g, o, none⟩ ∧ w.cell? ⟨g, o, none⟩ = some (.string (mk (cutAt b l).1)) := by
  obtain ⟨g, o, v, x, e, hc, hv, -, hx⟩ := h.at (k := 0) (split_pos b l)
  rw [split_first] at hx
  injection hx with hx
  subst hx
  rw [hv] at hc
  exact ⟨g, o, e, by simpa using hc⟩
theorem split_bound (b : UInt8) (l : Bs) : (1 : Int) ≤ ((splitL b l).length : Int) := by have := split_pos b l; omega

set_option linter.unusedSimpArgs false in
set_option maxRecDepth 20000 in
set_option maxHeartbeats 4000000 in
theorem l33Read_any (k : Nat) (s : ByteArray) (w : World) (hk : k < 60) (hs : s.size ≤ 1048576) :
    Calls Tryd.prog 70 #[.string s, .int .i64 k] w (DecE w k (bs s ++ [10])) := by
  have hb := below_box w (.cells #[.string ⟨#[]⟩, .string ⟨#[]⟩] 27)
  have BX := Blk.new w 27 #[.string ⟨#[]⟩, .string ⟨#[]⟩]
  obtain ⟨D, HD⟩ : ∃ D, Hid (mk (Lib.decDigits k) = D) := ⟨_, rfl⟩
  have hds : D.size ≤ 2 := by rw [← HD.out, size_mk]; exact dec_len2 (by omega)
  have HDB : Hid (bs D = Lib.decDigits k) := by show _ = _; rw [← HD.out]; rfl
  have k1 := cat D ⟨#[32]⟩ (by show _ + 1 ≤ _; omega)
  have HAH : Hid (bs (D ++ ⟨#[32]⟩) = Lib.decDigits k ++ [32]) := by show _ = _; rw [bs_app, HDB.out]; rfl
  have HAL : Hid ((Lib.decDigits k ++ [32]).length = D.size + 1) := by show _ = _; rw [← HDB.out]; simp [size_bs]
  go_enter Tryd.func70, Tryd.ntmps70
  go_wp2_with fail
  refine (l1Num_any k (by omega) _).mono ?_
  rintro e w1 ⟨rfl, z, rfl⟩
  rw [HD.out]
  go_wp2_with fail
  refine (l1Split_any s 35 35 rfl _ (by omega)).mono ?_
  rintro e w2 ⟨A, c, rfl, hr, hb2⟩
  obtain ⟨g, o, rfl, hc⟩ := split_zero hr
  have hT2 : Below w.heap.size w w2 := below_next (below_drewN hb _) hb2 rfl
  replace BX : Blk w2 w.heap.size 27 #[.string ⟨#[]⟩, .string ⟨#[]⟩] := (BX.drewN z).next hb2
  have hsp := split_bound 35 (bs s)
  obtain ⟨n1, HN1⟩ : ∃ n, Hid ((splitL 35 (bs s)).length = n) := ⟨_, rfl⟩
  obtain ⟨T, HTT⟩ : ∃ T, Hid (mk (cutAt 35 (bs s)).1 = T) := ⟨_, rfl⟩
  rw [HN1.out] at hsp ⊢
  rw [HTT.out] at hc
  have HTB : Hid (bs T = (cutAt 35 (bs s)).1) := by show _ = _; rw [← HTT.out]; rfl
  have hts : T.size ≤ 1048576 := by
    have h1 := (cutAt_len 35 (bs s)).1
    have h2 := congrArg List.length HTB.out
    have h3 : (bs T).length = T.size := rfl
    have h4 : (bs s).length = s.size := rfl
    omega
  clear hr hb hb2
  by_cases hA : T.size < D.size + 1
  · have BN := BX
    have cN0 := BN.cell 0
    have cN1 := BN.cell 1
    have fN0 := BN.frozen 0
    have fN1 := BN.frozen 1
    simp at cN0 cN1
    go_wp2_with fail
    (try simp only [Exit.inBlock, Exit.then])
    refine bodyPost_ret (v := .tuple #[.agg #[.string ⟨#[]⟩, .string ⟨#[]⟩], .bool false]) (res_row_tmp rfl _ _ w.heap.size 27 #[.string ⟨#[]⟩, .string ⟨#[]⟩] (0, 0) _ _ (by simp) ((BN.set_ 0 _).set_ 1 _) Tryd.underlying27 rfl (by kernel_rfl) (by simp)) rfl ?_
    exact ⟨_, _, false, rfl, read_no1 (by rw [HAL.out, ← HTB.out]; intro h; have h3 : (bs T).length = T.size := rfl; omega), ((hT2).setCell (Nat.le_refl _) _).setCell (Nat.le_refl _) _⟩
  · have c0 : (0 : Int) ≤ (D.size : Int) + 1 := by omega
    have c1 : (D.size : Int) + 1 ≤ (T.size : Int) := by omega
    have c2 : ¬ ((T.size : Int) < (D.size : Int) + 1) := by omega
    rcases hq : ((T.extract 0 (D.size + 1)).toList == (D ++ ⟨#[32]⟩).toList) with _ | _
    · have HQ : Hid ((bs T).take (D.size + 1) ≠ Lib.decDigits k ++ [32]) := by
        show ¬ _
        rw [str_eq, bs_ext, HAH.out] at hq
        simpa using hq
      have BN := BX
      have cN0 := BN.cell 0
      have cN1 := BN.cell 1
      have fN0 := BN.frozen 0
      have fN1 := BN.frozen 1
      simp at cN0 cN1
      go_wp2_with fail
      (try simp only [Exit.inBlock, Exit.then])
      refine bodyPost_ret (v := .tuple #[.agg #[.string ⟨#[]⟩, .string ⟨#[]⟩], .bool false]) (res_row_tmp rfl _ _ w.heap.size 27 #[.string ⟨#[]⟩, .string ⟨#[]⟩] (0, 0) _ _ (by simp) ((BN.set_ 0 _).set_ 1 _) Tryd.underlying27 rfl (by kernel_rfl) (by simp)) rfl ?_
      exact ⟨_, _, false, rfl, read_no1 (by rw [HAL.out, ← HTB.out]; exact fun h => HQ.out h.2), ((hT2).setCell (Nat.le_refl _) _).setCell (Nat.le_refl _) _⟩
    · have HQ : Hid ((bs T).take (D.size + 1) = Lib.decDigits k ++ [32]) := by
        show _ = _
        rw [str_eq, bs_ext, HAH.out] at hq
        simpa using hq
      obtain ⟨R, HR⟩ : ∃ R, Hid (T.extract (D.size + 1) T.size = R) := ⟨_, rfl⟩
      have HRB : Hid (bs R = (bs T).drop (D.size + 1)) := by
        show _ = _
        rw [← HR.out, bs_ext, List.take_of_length_le (by rw [List.length_drop]; exact Nat.le_refl _)]
      have hrs : R.size ≤ 1048576 := by
        have h2 := congrArg List.length HRB.out
        have h3 : (bs T).length = T.size := rfl
        have h4 : (bs R).length = R.size := rfl
        rw [List.length_drop] at h2
        omega
      have HREST : Hid ((cutAt 35 (bs s)).1.drop (Lib.decDigits k ++ [32]).length = bs R) := by
        show _ = _
        rw [HAL.out, ← HTB.out, HRB.out]
      go_wp2_with fail
      rw [HR.out]
      refine (l1Split_any R 64 64 rfl _ (by omega)).mono ?_
      rintro e w3 ⟨A, c3, rfl, hr3, hb3⟩
      obtain ⟨g3, o3, rfl, hc3⟩ := split_zero hr3
      have hT3 := below_next hT2 hb3 rfl
      replace BX := BX.next hb3
      have hsp3 := split_bound 64 (bs R)
      obtain ⟨n3, HN3⟩ : ∃ n, Hid ((splitL 64 (bs R)).length = n) := ⟨_, rfl⟩
      obtain ⟨Q, HQQ⟩ : ∃ T, Hid (mk (cutAt 64 (bs R)).1 = T) := ⟨_, rfl⟩
      rw [HN3.out] at hsp3 ⊢
      rw [HQQ.out] at hc3
      have HQB : Hid ((cutAt 64 (bs R)).1 = bs Q) := by show _ = _; rw [← HQQ.out]; rfl
      have hqs : Q.size ≤ R.size := by
        have h1 := (cutAt_len 64 (bs R)).1
        have h2 := congrArg List.length HQB.out
        have h3 : (bs Q).length = Q.size := rfl
        have h4 : (bs R).length = R.size := rfl
        omega
      clear hr3 hb3 hc hsp c0 c1 c2 hA
      rcases hqr : ((Q.size : Int) == (R.size : Int)) with _ | _
      rotate_left
      · have HQR : Hid ((cutAt 64 (bs R)).1.length = (bs R).length) := by
          show _ = _
          rw [HQB.out]
          have := beq_iff_eq.1 hqr
          have h3 : (bs Q).length = Q.size := rfl
          have h4 : (bs R).length = R.size := rfl
          omega
        have BN := BX
        have cN0 := BN.cell 0
        have cN1 := BN.cell 1
        have fN0 := BN.frozen 0
        have fN1 := BN.frozen 1
        simp at cN0 cN1
        go_wp2_with fail
        (try simp only [Exit.inBlock, Exit.then])
        refine bodyPost_ret (v := .tuple #[.agg #[.string ⟨#[]⟩, .string ⟨#[]⟩], .bool false]) (res_row_tmp rfl _ _ w.heap.size 27 #[.string ⟨#[]⟩, .string ⟨#[]⟩] (0, 0) _ _ (by simp) ((BN.set_ 0 _).set_ 1 _) Tryd.underlying27 rfl (by kernel_rfl) (by simp)) rfl ?_
        exact ⟨_, _, false, rfl, read_no2 HREST.out HQR.out, ((hT3).setCell (Nat.le_refl _) _).setCell (Nat.le_refl _) _⟩
      · have hlt : Q.size + 1 ≤ R.size := by
          have := beq_eq_false_iff_ne.1 hqr
          omega
        have c0 : (0 : Int) ≤ (Q.size : Int) + 1 := by omega
        have c1 : (Q.size : Int) + 1 ≤ (R.size : Int) := by omega
        obtain ⟨X, HX⟩ : ∃ X, Hid (R.extract (Q.size + 1) R.size = X) := ⟨_, rfl⟩
        have HXB : Hid (bs X = (bs R).drop (Q.size + 1)) := by
          show _ = _
          rw [← HX.out, bs_ext, List.take_of_length_le (by rw [List.length_drop]; exact Nat.le_refl _)]
        have hxs : X.size ≤ 1048576 := by
          have h2 := congrArg List.length HXB.out
          have h3 : (bs X).length = X.size := rfl
          have h4 : (bs R).length = R.size := rfl
          rw [List.length_drop] at h2
          omega
        have hlt3 := BX.lt
        obtain ⟨w4, hw4⟩ : ∃ w4, Hid (w4 = w3.alloc (.cells #[.string Q, .string X] 27)) := ⟨_, rfl⟩
        have hbe : Below w3.heap.size w3 w4 := by rw [hw4.out]; exact below_box _ _
        have BE : Blk w4 w3.heap.size 27 #[.string Q, .string X] := by rw [hw4.out]; exact Blk.new _ _ _
        have hT4 := below_next hT3 hbe rfl
        replace BX := BX.next hbe
        have cE0 := BE.cell 0
        have cE1 := BE.cell 1
        simp at cE0 cE1
        have k5 := cat s ⟨#[10]⟩ (by show _ + 1 ≤ _; omega)
        have hq1 : Q.size ≤ maxLen := by unfold maxLen; omega
        have hx1 : X.size ≤ maxLen := by unfold maxLen; omega
        have HXR : Hid ((bs R).drop ((bs Q).length + 1) = bs X) := HXB.out.symm
        have HNO : Hid (¬ (goodL (bs Q) (bs X) = true ∧ k < 60 ∧ lineL k (bs Q) (bs X) = bs s ++ [10]) → DecR k (bs s ++ [10]) (bs Q) (bs X) false) := fun h => read_no3 HREST.out HQB.out HXR.out h
        clear hbe
        go_wp2_with fail
        rw [HX.out, ← hw4.out]
        clear hw4
        have hne : w.heap.size ≠ w3.heap.size := by omega
        have Tk : Below w4.heap.size w4 w4 := Below.refl _ _
        rcases hg : goodB Q X with _ | _
        · have HG := Lib.hid hg
          clear hg
          refine wp_region_held_drew (S := fun w' => w'.cell? ⟨w3.heap.size, 0, none⟩ = some (.string Q) ∧ w'.cell? ⟨w3.heap.size, 1, none⟩ = some (.string X)) (by kernel_rfl) ⟨cE0, cE1⟩ (fun hHeld => ?_)
          refine wpAnyH_take (i := 0) (v := .agg #[.string Q, .string X]) rfl (by kernel_rfl) (by kernel_rfl) (by kernel_rfl) (fun _ _ _ h => h) (Or.inl ⟨by rfl, fun wv hSw => by (obtain ⟨hS0, hS1⟩ := hSw); go_simp⟩) (by assumption) ?_
          (try simp only [Act.put, List.setIfInBounds_toArray, List.set_cons_zero, List.set_cons_succ])
          refine wpAnyH_take (i := 1) (v := .agg #[.string Q, .string X]) rfl (by kernel_rfl) (by kernel_rfl) (by kernel_rfl) (fun _ _ _ h => h) (Or.inl ⟨by rfl, fun wv hSw => by (obtain ⟨hS0, hS1⟩ := hSw); go_simp⟩) (by assumption) ?_
          (try simp only [Act.put, List.setIfInBounds_toArray, List.set_cons_zero, List.set_cons_succ])
          refine wpAnyH_ready (rs := [2]) (by kernel_rfl) (by simp) ?_
          refine AllReadyH.cons rfl (fun K hK => ?_) AllReadyH.nil
          go_simp
          refine (l33Good_any Q X _ hq1 hx1).mono ?_
          rintro e wn ⟨rfl, hbn⟩
          rw [HG.out]
          replace Tk := below_next (by first | exact Tk | exact Below.drew Tk) hbn rfl
          go_wp2_with fail
          refine hK.out _ _ ⟨keepc Tk cE0, keepc Tk cE1⟩ (fun hHeld2 => ?_)
          clear hK K hHeld
          (try simp only [Act.put, List.setIfInBounds_toArray, List.set_cons_zero, List.set_cons_succ])
          have cX0 : wn.cell? ⟨w.heap.size, 0, none⟩ = some (.string ⟨#[]⟩) := (BX.next Tk).cell 0
          have cX1 : wn.cell? ⟨w.heap.size, 1, none⟩ = some (.string ⟨#[]⟩) := (BX.next Tk).cell 1
          have fX0 := (BX.next Tk).frozen 0
          have fX1 := (BX.next Tk).frozen 1
          refine wpAnyH_take (i := 3) (v := .bool false) rfl (by kernel_rfl) (by kernel_rfl) (by kernel_rfl) (fun _ _ _ h => h) (Or.inl ⟨by rfl, fun _ _ => by go_simp⟩) (by assumption) ?_
          (try simp only [Act.put, List.setIfInBounds_toArray, List.set_cons_zero, List.set_cons_succ])
          refine wpAnyH_take (i := 4) (v := undef) rfl (by kernel_rfl) (by kernel_rfl) (by kernel_rfl) (fun _ _ _ h => h) (Or.inr ⟨by rfl, rfl⟩) (by assumption) ?_
          (try simp only [Act.put, List.setIfInBounds_toArray, List.set_cons_zero, List.set_cons_succ])
          refine wpAnyH_take (i := 5) (v := undef) rfl (by kernel_rfl) (by kernel_rfl) (by kernel_rfl) (fun _ _ _ h => h) (Or.inr ⟨by rfl, rfl⟩) (by assumption) ?_
          (try simp only [Act.put, List.setIfInBounds_toArray, List.set_cons_zero, List.set_cons_succ])
          refine wpAnyH_take (i := 6) (v := undef) rfl (by kernel_rfl) (by kernel_rfl) (by kernel_rfl) (fun _ _ _ h => h) (Or.inr ⟨by rfl, rfl⟩) (by assumption) ?_
          (try simp only [Act.put, List.setIfInBounds_toArray, List.set_cons_zero, List.set_cons_succ])
          refine wpAnyH_take (i := 7) (v := undef) rfl (by kernel_rfl) (by kernel_rfl) (by kernel_rfl) (fun _ _ _ h => h) (Or.inr ⟨by rfl, rfl⟩) (by assumption) ?_
          (try simp only [Act.put, List.setIfInBounds_toArray, List.set_cons_zero, List.set_cons_succ])
          refine wpAnyH_take (i := 8) (v := undef) rfl (by kernel_rfl) (by kernel_rfl) (by kernel_rfl) (fun _ _ _ h => h) (Or.inr ⟨by rfl, rfl⟩) (by assumption) ?_
          (try simp only [Act.put, List.setIfInBounds_toArray, List.set_cons_zero, List.set_cons_succ])
          refine wpAnyH_take (i := 9) (v := undef) rfl (by kernel_rfl) (by kernel_rfl) (by kernel_rfl) (fun _ _ _ h => h) (Or.inr ⟨by rfl, rfl⟩) (by assumption) ?_
          (try simp only [Act.put, List.setIfInBounds_toArray, List.set_cons_zero, List.set_cons_succ])
          refine wpAnyH_take (i := 10) (v := .bool false) rfl (by kernel_rfl) (by kernel_rfl) (by kernel_rfl) (fun _ _ _ h => h) (Or.inl ⟨by rfl, fun _ _ => by go_simp⟩) (by assumption) ?_
          (try simp only [Act.put, List.setIfInBounds_toArray, List.set_cons_zero, List.set_cons_succ])
          refine wpAnyH_ready (rs := [11]) (by kernel_rfl) (by simp) ?_
          refine AllReadyH.cons rfl (fun K hK => ?_) AllReadyH.nil
          go_simp
          refine hK.out _ _ ⟨by rw [World.cell?_setCell_far _ _ _ _ (by show _ ≠ _; omega), World.cell?_setCell_far _ _ _ _ (by show _ ≠ _; omega)]; exact keepc Tk cE0, by rw [World.cell?_setCell_far _ _ _ _ (by show _ ≠ _; omega), World.cell?_setCell_far _ _ _ _ (by show _ ≠ _; omega)]; exact keepc Tk cE1⟩ (fun hHeld3 => ?_)
          clear hK K hHeld2
          (try simp only [Act.put, List.setIfInBounds_toArray, List.set_cons_zero, List.set_cons_succ])
          refine wpAnyH_ready (rs := [12]) (by kernel_rfl) (by simp) ?_
          refine AllReadyH.cons rfl (fun K hK => ?_) AllReadyH.nil
          go_simp
          refine hK.out _ _ hHeld3 (fun hHeld4 => ?_)
          clear hK K hHeld3
          (try simp only [Act.put, List.setIfInBounds_toArray, List.set_cons_zero, List.set_cons_succ])
          refine wpAnyH_done (by kernel_rfl) ?_ _
          go_wp2
          (try simp only [Exit.inBlock, Exit.then])
          refine bodyPost_ret (v := .tuple #[.agg #[.string Q, .string X], .bool false]) (res_row_tmp rfl _ _ w.heap.size 27 #[.string Q, .string X] (0, 0) _ _ (by simp) (((BX.next Tk).set_ 0 _).set_ 1 _) Tryd.underlying27 rfl (by kernel_rfl) (by simp)) rfl ?_
          exact ⟨_, _, false, rfl, HNO.out (by rw [← goodB_eq, HG.out]; simp), ((below_next hT4 Tk rfl).setCell (Nat.le_refl _) _).setCell (Nat.le_refl _) _⟩
        · have HG := Lib.hid hg
          obtain ⟨hq2, hx2⟩ := good_sz hg
          obtain ⟨bl, hl⟩ : ∃ b, ((mk (lineL k (bs Q) (bs X))).toList == (s ++ ⟨#[10]⟩).toList) = b := ⟨_, rfl⟩
          have HL : Hid (decide (lineL k (bs Q) (bs X) = bs s ++ [10]) = bl) := by
            show _ = _
            rw [← hl, str_eq, bs_app]
            rfl
          clear hg
          first
            | go_region_held3 (fun w' => w'.cell? ⟨w3.heap.size, 0, none⟩ = some (.string Q) ∧ w'.cell? ⟨w3.heap.size, 1, none⟩ = some (.string X)) (first | go_keep | exact ⟨keepc Tk cE0, keepc Tk cE1⟩) (first | (go_at_call 43; refine (l33Good_any Q X _ hq1 hx1).mono ?_; rintro e wn ⟨rfl, hbn⟩; rw [HG.out]; replace Tk := below_next (by first | exact Tk | exact Below.drew Tk) hbn rfl) | (go_at_call 44; refine (l33Line_any k Q X _ (by omega) (by omega) (by omega)).mono ?_; rintro e wn ⟨rfl, hbn⟩; replace Tk := below_next (by first | exact Tk | exact Below.drew Tk) hbn rfl; have cX0 : wn.cell? ⟨w.heap.size, 0, none⟩ = some (.string ⟨#[]⟩) := (BX.next Tk).cell 0; have cX1 : wn.cell? ⟨w.heap.size, 1, none⟩ = some (.string ⟨#[]⟩) := (BX.next Tk).cell 1; have fX0 := (BX.next Tk).frozen 0; have fX1 := (BX.next Tk).frozen 1))
            | fail
          go_wp2
          (try simp only [Exit.inBlock, Exit.then])
          refine bodyPost_ret (v := .tuple #[.agg #[.string Q, .string X], .bool bl]) (res_row_tmp rfl _ _ w.heap.size 27 #[.string Q, .string X] (0, 0) _ _ (by simp) (((BX.next Tk).set_ 0 _).set_ 1 _) Tryd.underlying27 rfl (by kernel_rfl) (by simp)) rfl ?_
          refine ⟨_, _, bl, rfl, ?_, ((below_next hT4 Tk rfl).setCell (Nat.le_refl _) _).setCell (Nat.le_refl _) _⟩
          clear hl
          have hL := HL.out
          rcases bl with _ | _
          · exact HNO.out (fun h => by rw [h.2.2] at hL; simp at hL)
          · exact DecR.yes (by rw [← goodB_eq]; exact HG.out) hk (by simpa using hL)
end Go.Proofs.YteogfjddkaodkaaDoor
