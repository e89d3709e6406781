/- Parts of the proof: AddS, MrgS, Rm4, LawCatalogues. -/
import Derived.Test.YtkmgbdljiajlaaaQ5
import Derived.Test.YtkmgbdljiajlaaaQ6
import Derived.Test.YtkmgbdljiajlaaaQ4
import Derived.BigGuardPart
namespace Go.Proofs.Ytkmgbdljiajlaaa
open Go.RowKit

set_option maxRecDepth 100000 in
set_option maxHeartbeats 8000000 in
theorem specAdd_any (A : Option Addr) (n c : Nat) (xs : List EntryM) (s : ByteArray) (ds : List Value) (a : AlgebraM) (w : World) (h : RdN shEntry.m shEntry.rd w A n xs) (hs : s.size ≤ maxLen) (h' : shAlgebra.rd w ds a) (hn : xs.length + cntS shEntry.cnt xs ≤ 1048576) :
    Calls Try.prog 8 #[.slice A n c, .string s, .agg ds.toArray] w (RdV (Sh.rows shEntry 33) w (adP xs s a).1 (adP xs s a).2) := by
  have hle := h.le
  obtain rfl : xs.length = n := h.len
  have hrd' := h'
  obtain ⟨B, m, d, rfl, qs, qo⟩ := rdAlgebra h'
  obtain ⟨w0, hw0, T0, hsz0, BP⟩ := boxes1 w #[.int .i64 a.1, .slice B m d] 27
  have HW0 := Lib.hid hw0
  have h0 := h.next T0
  have hr0 := shAlgebra.stab hrd' T0.block
  clear hw0
  obtain ⟨r1, HR1⟩ : ∃ r, Hid (catB xs = r) := ⟨_, rfl⟩
  rcases r1 with _ | _
  · have HM := Lib.hid (ad_no1 (s := s) (a := a) HR1.out)
    rw [HM.out]
    go_enter Try.func8, Try.ntmps8
    go_wp2_with fail
    rw [← HW0.out]
    refine (l31Good_any _ _ _ xs _ h0).mono ?_
    rintro e w1 ⟨rfl, hb1⟩
    rw [HR1.out]
    have T1 := below_next T0 hb1 rfl
    obtain ⟨bl, ho, hiv⟩ := ow_lit T1
    have HO := Lib.hid ((Sh.rows shEntry 33).ord ho)
    clear ho
    have cP := (BP.next hb1).cell 0
    simp at cP
    go_wp2_with fail
    go_ret2
    exact ⟨_, rfl, HO.out, below_next T1 (below_box _ _) rfl⟩
  · obtain ⟨r2, HR2⟩ : ∃ r, Hid (nameB s = r) := ⟨_, rfl⟩
    rcases r2 with _ | _
    · have HM := Lib.hid (ad_no2 (xs := xs) (a := a) HR2.out)
      rw [HM.out]
      go_enter Try.func8, Try.ntmps8
      go_wp2_with fail
      rw [← HW0.out]
      refine (l31Good_any _ _ _ xs _ h0).mono ?_
      rintro e w1 ⟨rfl, hb1⟩
      rw [HR1.out]
      have T1 := below_next T0 hb1 rfl
      have cP := (BP.next hb1).cell 0
      simp at cP
      go_wp2_with fail
      refine (l31Name_any s _ hs).mono ?_
      rintro e w2 ⟨rfl, rfl⟩
      rw [HR2.out]
      obtain ⟨bl, ho, hiv⟩ := ow_lit T1
      have HO := Lib.hid ((Sh.rows shEntry 33).ord ho)
      clear ho
      go_wp2_with fail
      go_ret2
      exact ⟨_, rfl, HO.out, below_next T1 (below_box _ _) rfl⟩
    · obtain ⟨r3, HR3⟩ : ∃ r, Hid (smallB a = r) := ⟨_, rfl⟩
      go_enter Try.func8, Try.ntmps8
      go_wp2_with fail
      rw [← HW0.out]
      refine (l31Good_any _ _ _ xs _ h0).mono ?_
      rintro e w1 ⟨rfl, hb1⟩
      rw [HR1.out]
      have T1 := below_next T0 hb1 rfl
      have BP1 := BP.next hb1
      have cP0 := BP1.cell 0
      have cP1 := BP1.cell 1
      simp at cP0 cP1
      go_wp2_with fail
      refine (l31Name_any s _ hs).mono ?_
      rintro e w2 ⟨rfl, rfl⟩
      rw [HR2.out]
      go_wp2_with fail
      refine (l31Takes_any _ a _ (shAlgebra.stab hr0 hb1.block)).mono ?_
      rintro e w3 ⟨rfl, hb3⟩
      rw [HR3.out]
      have T3 := below_next T1 hb3 rfl
      have BP3 := BP1.next hb3
      clear cP0 cP1
      have cP0 := BP3.cell 0
      have cP1 := BP3.cell 1
      simp at cP0 cP1
      rcases r3 with _ | _
      · have HM := Lib.hid (ad_no3 (xs := xs) (s := s) HR3.out)
        obtain ⟨bl, ho, hiv⟩ := ow_lit T3
        have HO := Lib.hid ((Sh.rows shEntry 33).ord ho)
        clear ho
        go_wp2_with fail
        go_ret2
        rw [HM.out]
        exact ⟨_, rfl, HO.out, below_next T3 (below_box _ _) rfl⟩
      · have hsm := small_iff.1 HR3.out
        have h3 := h.next T3
        have hr3 := shAlgebra.stab hrd' T3.block
        have HCL : ∀ wz, Below w3.heap.size w3 wz → Calls Try.prog 50 #[.slice A xs.length c] wz (CpN wz xs) := fun wz hz => l31CopyN_any A xs.length c xs wz (h3.next hz) (by omega)
        have HFM : ∀ wz, Below w3.heap.size w3 wz → Calls Try.prog 51 #[.agg #[.int .i64 a.1, .slice B m d]] wz (fun e w' => ∃ V L vc, e = .returned (.agg #[.int .i64 (canA a).1, .slice V L vc]) ∧ FormR a wz V L vc w') := fun wz hz => formR (shAlgebra.stab hr3 hz.block) hsm
        have Tk : Below w3.heap.size w3 w3 := Below.refl _ _
        have hcs := canA_small hsm
        have HSM : Hid (∀ x ∈ xs, SmallP x.2) := fun x hx => cat_small HR1.out hx
        have hl12 := (cat_two HR1.out).1
        clear h0 hrd' hr0 qs qo
        go_upto_region 3 with fail
        go_region_held3 (fun w' => w'.cell? ⟨w.heap.size, 0, none⟩ = some (.int .i64 a.1) ∧ w'.cell? ⟨w.heap.size, 1, none⟩ = some (.slice B m d)) (first | go_keep | exact ⟨keepc Tk cP0, keepc Tk cP1⟩) (first
          | (go_at_call 50; (with_reducible refine (HCL _ ?_).mono ?_); (first | exact Tk | exact Below.drew Tk); rintro e w6 ⟨g6, n6, c6, css6, bls6, rfl, hP6, hb6⟩; obtain ⟨rfl, hc6⟩ := hP6.ln; (try replace hF := shAlgebra.stab hF hb6.block); replace Tk := below_next (by first | exact Tk | exact Below.drew Tk) hb6 rfl)
          | (go_at_call 51; (with_reducible refine (HFM _ ?_).mono ?_); (first | exact Tk | exact Below.drew Tk); rintro e w7 ⟨V, L, vc, rfl, ⟨hF, hb7⟩⟩; (try replace hP6 := hP6.next hb7); replace Tk := below_next (by first | exact Tk | exact Below.drew Tk) hb7 rfl)
          | (go_at_call 49; refine (l31Put_any g6 0 c6 xs (s, canA a) V L vc _ hP6.rdN hc6 (entR hs hF) HSM.out hcs (by omega)).mono ?_; rintro e w8 ⟨g8, c8, rfl, hc8, hr8, hb8⟩; replace Tk := below_next Tk hb8 rfl))
        all_goals
          have T7 := below_next T3 Tk rfl
          obtain ⟨r4, HR4⟩ : ∃ r, Hid (catB (insM xs (s, canA a)) = r) := ⟨_, rfl⟩
          rw [HR4.out]
          have HR8 := Lib.hid hr8
          clear hr8 hP6
          rcases r4 with _ | _
          · have HM := Lib.hid (ad_no4 (xs := xs) (s := s) HR4.out)
            obtain ⟨bl, ho, hiv⟩ := ow_lit T7
            have HO := Lib.hid ((Sh.rows shEntry 33).ord ho)
            clear ho
            go_wp2_with fail
            go_ret2
            rw [HM.out]
            exact ⟨_, rfl, HO.out, below_next T7 (below_box _ _) rfl⟩
          · have HM := Lib.hid (ad_yes HR1.out HR2.out HR3.out HR4.out)
            go_wp2_with fail
            go_ret2
            rw [HM.out]
            exact ⟨_, rfl, ⟨_, _, _, rfl, HR8.out⟩, T7⟩
theorem implAddv_any (v : Value) (xs : List EntryM) (s : ByteArray) (ds : List Value) (a : AlgebraM) (w : World) (h : (Sh.rows shEntry 33).rd w [v] xs) (hs : s.size ≤ maxLen) (h' : shAlgebra.rd w ds a) (hn : (Sh.rows shEntry 33).cnt xs ≤ 1048576) : Calls Try.prog 7 #[v, .string s, .agg ds.toArray] w (OwV (Sh.rows shEntry 33) w (adP xs s a).1 (adP xs s a).2) := by
  obtain ⟨A, n, c, e, r⟩ := h
  injection e with e _
  subst e
  exact implAdd_any A n c xs s ds a w r hs h' hn
theorem specAddv_any (v : Value) (xs : List EntryM) (s : ByteArray) (ds : List Value) (a : AlgebraM) (w : World) (h : (Sh.rows shEntry 33).rd w [v] xs) (hs : s.size ≤ maxLen) (h' : shAlgebra.rd w ds a) (hn : (Sh.rows shEntry 33).cnt xs ≤ 1048576) : Calls Try.prog 8 #[v, .string s, .agg ds.toArray] w (RdV (Sh.rows shEntry 33) w (adP xs s a).1 (adP xs s a).2) := by
  obtain ⟨A, n, c, e, r⟩ := h
  injection e with e _
  subst e
  exact specAdd_any A n c xs s ds a w r hs h' hn
end Go.Proofs.Ytkmgbdljiajlaaa
namespace Go.Proofs.Ytkmgbdljiajlaaa
open Go.RowKit

theorem hasM_snoc (l : List EntryM) (x : EntryM) (m : AlgebraM) : hasM (l ++ [x]) m = (hasM l m || eqC x.2 m) := by simp [hasM]
set_option linter.unusedVariables false in
set_option linter.unusedSimpArgs false in
set_option maxRecDepth 100000 in
set_option maxHeartbeats 8000000 in
theorem specMg_any (A D : Option Addr) (n c m d : Nat) (xs ys : List EntryM) (w : World) (h : RdN shEntry.m shEntry.rd w A n xs) (h' : RdN shEntry.m shEntry.rd w D m ys) (hn : xs.length + cntS shEntry.cnt xs ≤ 1048576) (hn' : ys.length + cntS shEntry.cnt ys ≤ 1048576) :
    Calls Try.prog 16 #[.slice A n c, .slice D m d] w (RdV (Sh.rows shEntry 33) w (mgP xs ys).1 (mgP xs ys).2) := by
  have hle := h.le
  have hle' := h'.le
  obtain rfl : xs.length = n := h.len
  obtain rfl : ys.length = m := h'.len
  obtain ⟨r1, HR1⟩ : ∃ r, Hid (catB xs = r) := ⟨_, rfl⟩
  rcases r1 with _ | _
  · have HM := Lib.hid (mg_no1 (ys := ys) HR1.out)
    rw [HM.out]
    go_enter Try.func16, Try.ntmps16
    go_wp2_with fail
    refine (l31Good_any _ _ _ xs _ h).mono ?_
    rintro e w1 ⟨rfl, hb1⟩
    rw [HR1.out]
    obtain ⟨bl, ho, hiv⟩ := ow_lit hb1
    have HO := Lib.hid ((Sh.rows shEntry 33).ord ho)
    clear ho
    go_wp2_with fail
    go_ret2
    exact ⟨_, rfl, HO.out, below_next hb1 (below_box _ _) rfl⟩
  · obtain ⟨r2, HR2⟩ : ∃ r, Hid (catB ys = r) := ⟨_, rfl⟩
    rcases r2 with _ | _
    · have HM := Lib.hid (mg_no2 (xs := xs) HR2.out)
      rw [HM.out]
      go_enter Try.func16, Try.ntmps16
      go_wp2_with fail
      refine (l31Good_any _ _ _ xs _ h).mono ?_
      rintro e w1 ⟨rfl, hb1⟩
      rw [HR1.out]
      go_wp2_with fail
      refine (l31Good_any _ _ _ ys _ (h'.next hb1)).mono ?_
      rintro e w2 ⟨rfl, hb2⟩
      rw [HR2.out]
      have T2 := below_next hb1 hb2 rfl
      obtain ⟨bl, ho, hiv⟩ := ow_lit T2
      have HO := Lib.hid ((Sh.rows shEntry 33).ord ho)
      clear ho
      go_wp2_with fail
      go_ret2
      exact ⟨_, rfl, HO.out, below_next T2 (below_box _ _) rfl⟩
    · have hx12 := (cat_two HR1.out).1
      have hy12 := (cat_two HR2.out).1
      have HSX : Hid (∀ x ∈ xs, SmallP x.2) := fun x hx => cat_small HR1.out hx
      have HSY : Hid (∀ x ∈ ys, SmallP x.2) := fun x hx => cat_small HR2.out hx
      have HMG := Lib.hid (mg_spec HR1.out HR2.out)
      go_enter Try.func16, Try.ntmps16
      go_wp2_with fail
      refine (l31Good_any _ _ _ xs _ h).mono ?_
      rintro e w1 ⟨rfl, hb1⟩
      rw [HR1.out]
      go_wp2_with fail
      refine (l31Good_any _ _ _ ys _ (h'.next hb1)).mono ?_
      rintro e w2 ⟨rfl, hb2⟩
      rw [HR2.out]
      have T2 := below_next hb1 hb2 rfl
      have HCX := Lib.hid (l31CopyN_any A xs.length c xs w2 (h.next T2) hn)
      go_wp2_with fail
      refine HCX.out.mono ?_
      rintro e w3 ⟨g3, n3, c3, css3, bls3, rfl, hP3, hb3⟩
      obtain ⟨rfl, hc3⟩ := hP3.ln
      have T3 := below_next T2 hb3 rfl
      have hL3 := hP3.rdN
      clear hP3 HCX
      go_wp2_with fail
      go_loopw [6, 7, 8, 9, 10, 11] (fun v i _ _ _ _ wr => ∃ (k : Nat) (L : List EntryM) (g c' : Nat), k ≤ ys.length ∧ i = .int .i64 k ∧ v = .slice (some ⟨g, 0, none⟩) L.length c' ∧ L.length ≤ c' ∧ L.length ≤ xs.length + k ∧ RdN shEntry.m shEntry.rd wr (some ⟨g, 0, none⟩) L.length L ∧ Hid (mgS xs (ys.drop k) L = mgP xs ys) ∧ Hid (∀ z ∈ L, SmallP z.2) ∧ Below w.heap.size w wr) (fun _ i _ _ _ _ _ => ys.length - (intOf i).toNat)
      case atStart => exact ⟨0, xs, g3, c3, Nat.zero_le _, rfl, rfl, hc3, by omega, hL3, HMG.out, HSX.out, T3⟩
      case round =>
        clear hL3 T3 hb3 hc3
        obtain ⟨k, L, g, c', hk, rfl, rfl, hLc, hLn, hL, HST, HSL, hT⟩ := hrel
        by_cases hlt : k < ys.length
        · have hk0 : (0 : Int) ≤ (k : Int) := by omega
          have hk1 : (k : Int) < (ys.length : Int) := by omega
          obtain ⟨b', o', vs, y, rfl, -, hcy, hry, hdy, hy⟩ := (h'.next hT).at hlt
          obtain ⟨B, q, r, rfl, hsz, hIn, hops⟩ := rdEntry hry
          have hrya := mkAlgebra (cOps := r) hIn hops
          have cy0 : wr.cell? ⟨b', o' + k * 3, none⟩ = some (.string y.1) := hcy 0 _ rfl
          have cy1 : wr.cell? ⟨b', o' + k * 3 + 1, none⟩ = some (.int .i64 y.2.1) := hcy 1 _ rfl
          have cy2 : wr.cell? ⟨b', o' + k * 3 + 2, none⟩ = some (.slice B q r) := hcy 2 _ rfl
          have hsy := HSY.out y (List.mem_of_getElem? hy)
          have HMS : Hid (mgS xs (ys.drop k) L = if hasM xs y.2 then mgS xs (ys.drop (k + 1)) L else if catB (insM L y) then mgS xs (ys.drop (k + 1)) (insM L y) else ([], false)) := by show _ = _; rw [hdy, mgS]
          rw [HST.out] at HMS
          have hxr := h.next hT
          obtain ⟨wo, HWO⟩ : ∃ wo : World, wo = wr := ⟨_, rfl⟩
          subst HWO
          clear hcy hry hdy hy HST
          go_wp2_with fail
          go_loopw [8, 9] (fun f i wi => ∃ j : Nat, j ≤ xs.length ∧ i = .int .i64 j ∧ f = .bool (hasM (xs.take j) y.2) ∧ Below wo.heap.size wo wi) (fun _ i _ => xs.length - (intOf i).toNat)
          case atStart => exact ⟨0, Nat.zero_le _, rfl, rfl, Below.refl _ _⟩
          case round =>
            obtain ⟨j, hj, rfl, rfl, hTi⟩ := hrel
            replace cy0 := keepc hTi cy0
            replace cy1 := keepc hTi cy1
            replace cy2 := keepc hTi cy2
            by_cases hltj : j < xs.length
            · have hj0 : (0 : Int) ≤ (j : Int) := by omega
              have hj1 : (j : Int) < (xs.length : Int) := by omega
              obtain ⟨b, o, vs, x, rfl, -, hcx, hrx, -, hx⟩ := (hxr.next hTi).at hltj
              obtain ⟨Bx, qx, rx, rfl, hszx, hInx, hopsx⟩ := rdEntry hrx
              have hrxa := mkAlgebra (cOps := rx) hInx hopsx
              have cx1 : wr.cell? ⟨b, o + j * 3 + 1, none⟩ = some (.int .i64 x.2.1) := hcx 1 _ rfl
              have cx2 : wr.cell? ⟨b, o + j * 3 + 2, none⟩ = some (.slice Bx qx rx) := hcx 2 _ rfl
              have hsx := HSX.out x (List.mem_of_getElem? hx)
              have HTK : Hid (hasM (xs.take (j + 1)) y.2 = (hasM (xs.take j) y.2 || eqC x.2 y.2)) := by show _ = _; rw [take_snoc hx, hasM_snoc]
              obtain ⟨kn, HKN⟩ : ∃ kn, Hid (hasM (xs.take j) y.2 = kn) := ⟨_, rfl⟩
              rw [HKN.out] at HTK ⊢
              have Tk : Below wr.heap.size wr wr := Below.refl _ _
              clear hcx hrx hx hopsx
              rcases kn with _ | _
              · obtain ⟨rv, HRV⟩ : ∃ rv, Hid (eqC x.2 y.2 = rv) := ⟨_, rfl⟩
                have HC : ∀ wz, Below wr.heap.size wr wz → Calls Try.prog 55 #[.agg #[.int .i64 x.2.1, .slice Bx qx rx], .agg #[.int .i64 y.2.1, .slice B q r]] wz (Bl wz (.bool (eqC x.2 y.2))) := fun wz hz =>
                  l31Same_any [.int .i64 x.2.1, .slice Bx qx rx] [.int .i64 y.2.1, .slice B q r] x.2 y.2 wz (shAlgebra.stab hrxa hz.block) (shAlgebra.stab (shAlgebra.stab hrya hTi.block) hz.block) hsx hsy
                have HTK2 : Hid (hasM (xs.take (j + 1)) y.2 = rv) := by show _ = _; rw [HTK.out, HRV.out, Bool.false_or]
                go_wp2_with fail
                refine wp_region_held_drew (S := fun w' => w'.cell? ⟨b, o + j * 3 + 1, none⟩ = some (.int .i64 x.2.1) ∧ w'.cell? ⟨b, o + j * 3 + 2, none⟩ = some (.slice Bx qx rx) ∧ w'.cell? ⟨b', o' + k * 3 + 1, none⟩ = some (.int .i64 y.2.1) ∧ w'.cell? ⟨b', o' + k * 3 + 2, none⟩ = some (.slice B q r)) (by kernel_rfl) ⟨cx1, cx2, cy1, cy2⟩ (fun hHeld0 => ?_)
                refine wpAnyH_take (i := 0) (v := .bool false) rfl (by kernel_rfl) (by kernel_rfl) (by kernel_rfl) (fun _ _ _ h => h) (Or.inl ⟨by kernel_rfl, fun _ _ => by go_simp⟩) (by assumption) ?_
                (try simp only [Act.put, List.getElem_toArray, List.getElem_cons_zero, List.getElem_cons_succ, List.setIfInBounds_toArray, List.set_cons_zero, List.set_cons_succ])
                refine wpAnyH_take (i := 1) (v := .bool false) rfl (by kernel_rfl) (by kernel_rfl) (by kernel_rfl) (fun _ _ _ h => h) (Or.inl ⟨by kernel_rfl, fun _ _ => by go_simp⟩) (by assumption) ?_
                (try simp only [Act.put, List.getElem_toArray, List.getElem_cons_zero, List.getElem_cons_succ, List.setIfInBounds_toArray, List.set_cons_zero, List.set_cons_succ])
                refine wpAnyH_take (i := 2) (v := .slice (some ⟨b, o, none⟩) xs.length c) rfl (by kernel_rfl) (by kernel_rfl) (by kernel_rfl) (fun _ _ _ h => h) (Or.inl ⟨by kernel_rfl, fun _ _ => by go_simp⟩) (by assumption) ?_
                (try simp only [Act.put, List.getElem_toArray, List.getElem_cons_zero, List.getElem_cons_succ, List.setIfInBounds_toArray, List.set_cons_zero, List.set_cons_succ])
                refine wpAnyH_take (i := 3) (v := .int .i64 j) rfl (by kernel_rfl) (by kernel_rfl) (by kernel_rfl) (fun _ _ _ h => h) (Or.inl ⟨by kernel_rfl, fun _ _ => by go_simp⟩) (by assumption) ?_
                (try simp only [Act.put, List.getElem_toArray, List.getElem_cons_zero, List.getElem_cons_succ, List.setIfInBounds_toArray, List.set_cons_zero, List.set_cons_succ])
                refine wpAnyH_take (i := 4) (v := .pointer (some ⟨b, o + j * 3, none⟩)) rfl (by kernel_rfl) (by kernel_rfl) (by kernel_rfl) (fun _ _ _ h => h) (Or.inl ⟨by kernel_rfl, fun _ _ => by go_simp⟩) (by assumption) ?_
                (try simp only [Act.put, List.getElem_toArray, List.getElem_cons_zero, List.getElem_cons_succ, List.setIfInBounds_toArray, List.set_cons_zero, List.set_cons_succ])
                refine wpAnyH_take (i := 5) (v := .pointer (some ⟨b, o + j * 3 + 1, none⟩)) rfl (by kernel_rfl) (by kernel_rfl) (by kernel_rfl) (fun _ _ _ h => h) (Or.inl ⟨by kernel_rfl, fun _ _ => by go_simp⟩) (by assumption) ?_
                (try simp only [Act.put, List.getElem_toArray, List.getElem_cons_zero, List.getElem_cons_succ, List.setIfInBounds_toArray, List.set_cons_zero, List.set_cons_succ])
                refine wpAnyH_take (i := 6) (v := .agg #[.int .i64 x.2.1, .slice Bx qx rx]) rfl (by kernel_rfl) (by kernel_rfl) (by kernel_rfl) (fun _ _ _ h => h) (Or.inl ⟨by kernel_rfl, fun wv hSw => by (obtain ⟨hS0, hS1, hS2, hS3⟩ := hSw); go_simp⟩) (by assumption) ?_
                (try simp only [Act.put, List.getElem_toArray, List.getElem_cons_zero, List.getElem_cons_succ, List.setIfInBounds_toArray, List.set_cons_zero, List.set_cons_succ])
                refine wpAnyH_take (i := 7) (v := .slice (some ⟨b', o', none⟩) ys.length d) rfl (by kernel_rfl) (by kernel_rfl) (by kernel_rfl) (fun _ _ _ h => h) (Or.inl ⟨by kernel_rfl, fun _ _ => by go_simp⟩) (by assumption) ?_
                (try simp only [Act.put, List.getElem_toArray, List.getElem_cons_zero, List.getElem_cons_succ, List.setIfInBounds_toArray, List.set_cons_zero, List.set_cons_succ])
                refine wpAnyH_take (i := 8) (v := .int .i64 k) rfl (by kernel_rfl) (by kernel_rfl) (by kernel_rfl) (fun _ _ _ h => h) (Or.inl ⟨by kernel_rfl, fun _ _ => by go_simp⟩) (by assumption) ?_
                (try simp only [Act.put, List.getElem_toArray, List.getElem_cons_zero, List.getElem_cons_succ, List.setIfInBounds_toArray, List.set_cons_zero, List.set_cons_succ])
                refine wpAnyH_take (i := 9) (v := .pointer (some ⟨b', o' + k * 3, none⟩)) rfl (by kernel_rfl) (by kernel_rfl) (by kernel_rfl) (fun _ _ _ h => h) (Or.inl ⟨by kernel_rfl, fun _ _ => by go_simp⟩) (by assumption) ?_
                (try simp only [Act.put, List.getElem_toArray, List.getElem_cons_zero, List.getElem_cons_succ, List.setIfInBounds_toArray, List.set_cons_zero, List.set_cons_succ])
                refine wpAnyH_take (i := 10) (v := .pointer (some ⟨b', o' + k * 3 + 1, none⟩)) rfl (by kernel_rfl) (by kernel_rfl) (by kernel_rfl) (fun _ _ _ h => h) (Or.inl ⟨by kernel_rfl, fun _ _ => by go_simp⟩) (by assumption) ?_
                (try simp only [Act.put, List.getElem_toArray, List.getElem_cons_zero, List.getElem_cons_succ, List.setIfInBounds_toArray, List.set_cons_zero, List.set_cons_succ])
                refine wpAnyH_take (i := 11) (v := .agg #[.int .i64 y.2.1, .slice B q r]) rfl (by kernel_rfl) (by kernel_rfl) (by kernel_rfl) (fun _ _ _ h => h) (Or.inl ⟨by kernel_rfl, fun wv hSw => by (obtain ⟨hS0, hS1, hS2, hS3⟩ := hSw); go_simp⟩) (by assumption) ?_
                (try simp only [Act.put, List.getElem_toArray, List.getElem_cons_zero, List.getElem_cons_succ, List.setIfInBounds_toArray, List.set_cons_zero, List.set_cons_succ])
                refine wpAnyH_ready (rs := [12]) (by kernel_rfl) (by simp) ?_
                refine AllReadyH.cons rfl (fun K hK => ?_) AllReadyH.nil
                go_simp
                refine (HC _ (Below.drew Tk)).mono ?_
                rintro e' wn ⟨rfl, hbn⟩
                rw [HRV.out]
                replace Tk := below_next (Below.drew Tk) hbn rfl
                go_wp2_with fail
                refine hK.out _ _ ⟨keepc Tk cx1, keepc Tk cx2, keepc Tk cy1, keepc Tk cy2⟩ (fun hHeld1 => ?_)
                clear hK K hHeld0
                (try simp only [Act.put, List.getElem_toArray, List.getElem_cons_zero, List.getElem_cons_succ, List.setIfInBounds_toArray, List.set_cons_zero, List.set_cons_succ])
                refine wpAnyH_take (i := 13) (v := .bool rv) rfl (by kernel_rfl) (by kernel_rfl) (by kernel_rfl) (fun _ _ _ h => h) (Or.inl ⟨by kernel_rfl, fun _ _ => by go_simp⟩) (by assumption) ?_
                (try simp only [Act.put, List.getElem_toArray, List.getElem_cons_zero, List.getElem_cons_succ, List.setIfInBounds_toArray, List.set_cons_zero, List.set_cons_succ])
                refine wpAnyH_take (i := 14) (v := .bool rv) rfl (by kernel_rfl) (by kernel_rfl) (by kernel_rfl) (fun _ _ _ h => h) (Or.inl ⟨by kernel_rfl, fun _ _ => by go_simp⟩) (by assumption) ?_
                (try simp only [Act.put, List.getElem_toArray, List.getElem_cons_zero, List.getElem_cons_succ, List.setIfInBounds_toArray, List.set_cons_zero, List.set_cons_succ])
                refine wpAnyH_done (by kernel_rfl) ?_ _
                go_wp2_with fail
                go_roundw
                case rel => exact ⟨j + 1, by omega, by go_num, by rw [HTK2.out], below_next hTi Tk rfl⟩
                case measure => simp [intOf]; omega
              · have HTK2 : Hid (hasM (xs.take (j + 1)) y.2 = true) := by show _ = _; rw [HTK.out, Bool.true_or]
                go_wp2_with fail
                refine wp_region_held_drew (S := fun w' => w'.cell? ⟨b', o' + k * 3 + 1, none⟩ = some (.int .i64 y.2.1)) (by kernel_rfl) cy1 (fun hHeld0 => ?_)
                refine wpAnyH_take (i := 0) (v := .bool true) rfl (by kernel_rfl) (by kernel_rfl) (by kernel_rfl) (fun _ _ _ h => h) (Or.inl ⟨by kernel_rfl, fun _ _ => by go_simp⟩) (by assumption) ?_
                (try simp only [Act.put, List.getElem_toArray, List.getElem_cons_zero, List.getElem_cons_succ, List.setIfInBounds_toArray, List.set_cons_zero, List.set_cons_succ])
                refine wpAnyH_take (i := 1) (v := .bool true) rfl (by kernel_rfl) (by kernel_rfl) (by kernel_rfl) (fun _ _ _ h => h) (Or.inl ⟨by kernel_rfl, fun _ _ => by go_simp⟩) (by assumption) ?_
                (try simp only [Act.put, List.getElem_toArray, List.getElem_cons_zero, List.getElem_cons_succ, List.setIfInBounds_toArray, List.set_cons_zero, List.set_cons_succ])
                refine wpAnyH_take (i := 2) (v := undef) rfl (by kernel_rfl) (by kernel_rfl) (by kernel_rfl) (fun _ _ _ h => h) (Or.inr ⟨by kernel_rfl, rfl⟩) (by assumption) ?_
                (try simp only [Act.put, List.getElem_toArray, List.getElem_cons_zero, List.getElem_cons_succ, List.setIfInBounds_toArray, List.set_cons_zero, List.set_cons_succ])
                refine wpAnyH_take (i := 3) (v := undef) rfl (by kernel_rfl) (by kernel_rfl) (by kernel_rfl) (fun _ _ _ h => h) (Or.inr ⟨by kernel_rfl, rfl⟩) (by assumption) ?_
                (try simp only [Act.put, List.getElem_toArray, List.getElem_cons_zero, List.getElem_cons_succ, List.setIfInBounds_toArray, List.set_cons_zero, List.set_cons_succ])
                refine wpAnyH_take (i := 4) (v := undef) rfl (by kernel_rfl) (by kernel_rfl) (by kernel_rfl) (fun _ _ _ h => h) (Or.inr ⟨by kernel_rfl, rfl⟩) (by assumption) ?_
                (try simp only [Act.put, List.getElem_toArray, List.getElem_cons_zero, List.getElem_cons_succ, List.setIfInBounds_toArray, List.set_cons_zero, List.set_cons_succ])
                refine wpAnyH_take (i := 5) (v := undef) rfl (by kernel_rfl) (by kernel_rfl) (by kernel_rfl) (fun _ _ _ h => h) (Or.inr ⟨by kernel_rfl, rfl⟩) (by assumption) ?_
                (try simp only [Act.put, List.getElem_toArray, List.getElem_cons_zero, List.getElem_cons_succ, List.setIfInBounds_toArray, List.set_cons_zero, List.set_cons_succ])
                refine wpAnyH_take (i := 6) (v := undef) rfl (by kernel_rfl) (by kernel_rfl) (by kernel_rfl) (fun _ _ _ h => h) (Or.inr ⟨by kernel_rfl, rfl⟩) (by assumption) ?_
                (try simp only [Act.put, List.getElem_toArray, List.getElem_cons_zero, List.getElem_cons_succ, List.setIfInBounds_toArray, List.set_cons_zero, List.set_cons_succ])
                refine wpAnyH_take (i := 7) (v := undef) rfl (by kernel_rfl) (by kernel_rfl) (by kernel_rfl) (fun _ _ _ h => h) (Or.inr ⟨by kernel_rfl, rfl⟩) (by assumption) ?_
                (try simp only [Act.put, List.getElem_toArray, List.getElem_cons_zero, List.getElem_cons_succ, List.setIfInBounds_toArray, List.set_cons_zero, List.set_cons_succ])
                refine wpAnyH_take (i := 8) (v := undef) rfl (by kernel_rfl) (by kernel_rfl) (by kernel_rfl) (fun _ _ _ h => h) (Or.inr ⟨by kernel_rfl, rfl⟩) (by assumption) ?_
                (try simp only [Act.put, List.getElem_toArray, List.getElem_cons_zero, List.getElem_cons_succ, List.setIfInBounds_toArray, List.set_cons_zero, List.set_cons_succ])
                refine wpAnyH_take (i := 9) (v := undef) rfl (by kernel_rfl) (by kernel_rfl) (by kernel_rfl) (fun _ _ _ h => h) (Or.inr ⟨by kernel_rfl, rfl⟩) (by assumption) ?_
                (try simp only [Act.put, List.getElem_toArray, List.getElem_cons_zero, List.getElem_cons_succ, List.setIfInBounds_toArray, List.set_cons_zero, List.set_cons_succ])
                refine wpAnyH_take (i := 10) (v := undef) rfl (by kernel_rfl) (by kernel_rfl) (by kernel_rfl) (fun _ _ _ h => h) (Or.inr ⟨by kernel_rfl, rfl⟩) (by assumption) ?_
                (try simp only [Act.put, List.getElem_toArray, List.getElem_cons_zero, List.getElem_cons_succ, List.setIfInBounds_toArray, List.set_cons_zero, List.set_cons_succ])
                refine wpAnyH_take (i := 11) (v := undef) rfl (by kernel_rfl) (by kernel_rfl) (by kernel_rfl) (fun _ _ _ h => h) (Or.inr ⟨by kernel_rfl, rfl⟩) (by assumption) ?_
                (try simp only [Act.put, List.getElem_toArray, List.getElem_cons_zero, List.getElem_cons_succ, List.setIfInBounds_toArray, List.set_cons_zero, List.set_cons_succ])
                refine wpAnyH_take (i := 12) (v := undef) rfl (by kernel_rfl) (by kernel_rfl) (by kernel_rfl) (fun _ _ _ h => h) (Or.inr ⟨by kernel_rfl, rfl⟩) (by assumption) ?_
                (try simp only [Act.put, List.getElem_toArray, List.getElem_cons_zero, List.getElem_cons_succ, List.setIfInBounds_toArray, List.set_cons_zero, List.set_cons_succ])
                refine wpAnyH_take (i := 13) (v := .bool true) rfl (by kernel_rfl) (by kernel_rfl) (by kernel_rfl) (fun _ _ _ h => h) (Or.inl ⟨by kernel_rfl, fun _ _ => by go_simp⟩) (by assumption) ?_
                (try simp only [Act.put, List.getElem_toArray, List.getElem_cons_zero, List.getElem_cons_succ, List.setIfInBounds_toArray, List.set_cons_zero, List.set_cons_succ])
                refine wpAnyH_take (i := 14) (v := .bool true) rfl (by kernel_rfl) (by kernel_rfl) (by kernel_rfl) (fun _ _ _ h => h) (Or.inl ⟨by kernel_rfl, fun _ _ => by go_simp⟩) (by assumption) ?_
                (try simp only [Act.put, List.getElem_toArray, List.getElem_cons_zero, List.getElem_cons_succ, List.setIfInBounds_toArray, List.set_cons_zero, List.set_cons_succ])
                refine wpAnyH_done (by kernel_rfl) ?_ _
                go_wp2_with fail
                go_roundw
                case rel => exact ⟨j + 1, by omega, by go_num, by rw [HTK2.out], Below.drew hTi⟩
                case measure => simp [intOf]; omega
            · have hj1 : ¬ (j : Int) < (xs.length : Int) := by omega
              have HTE : Hid (xs.take j = xs) := List.take_of_length_le (by omega)
              have hT5 := below_next hT hTi rfl
              have hL5 := hL.next hTi
              have hry5 := shAlgebra.stab hrya hTi.block
              rw [HTE.out]
              obtain ⟨kn, HKN⟩ : ∃ kn, Hid (hasM xs y.2 = kn) := ⟨_, rfl⟩
              rw [HKN.out] at HMS ⊢
              rcases kn with _ | _
              · obtain ⟨cv, HCV⟩ : ∃ cv, Hid (catB (insM L y) = cv) := ⟨_, rfl⟩
                have hcn := cnt_small2 hsy
                have HOWN : ∀ wz, Below wr.heap.size wr wz → Calls Try.prog 56 #[.agg #[.int .i64 y.2.1, .slice B q r]] wz (AlgE wz y.2) := fun wz hz => l2Own_any [.int .i64 y.2.1, .slice B q r] y.2 wz (shAlgebra.stab hry5 hz.block) (by omega)
                have Tk : Below wr.heap.size wr wr := Below.refl _ _
                go_upto_region 13 with fail
                go_cut [10, 11] from 23 to 70 (fun u10 u11 wx => (∃ g6 c6, u10 = .slice (some ⟨g6, 0, none⟩) (insM L y).length c6 ∧ (insM L y).length ≤ c6 ∧ RdN shEntry.m shEntry.rd wx (some ⟨g6, 0, none⟩) (insM L y).length (insM L y)) ∧ u11 = .bool cv ∧ Below wr.heap.size wr wx)
                case first =>
                  go_region_held3 (fun w' => w'.cell? ⟨b', o' + k * 3, none⟩ = some (.string y.1) ∧ w'.cell? ⟨b', o' + k * 3 + 1, none⟩ = some (.int .i64 y.2.1) ∧ w'.cell? ⟨b', o' + k * 3 + 2, none⟩ = some (.slice B q r)) (first | go_keep | exact ⟨keepc Tk cy0, keepc Tk cy1, keepc Tk cy2⟩) (first
                    | (go_at_call 56; (with_reducible refine (HOWN _ ?_).mono ?_); (first | exact Tk | exact Below.drew Tk); rintro e w6 ⟨v6, css6, bls6, rfl, hP6, hb6⟩; obtain ⟨V6, d6, rfl⟩ := own_slice hP6.2.1; replace Tk := below_next (by first | exact Tk | exact Below.drew Tk) hb6 rfl)
                    | (go_at_call 49; refine (l31Put_any g 0 c' L y V6 _ d6 _ (hL5.next Tk) hLc (entR hsz (hP6.alg (a := y.2.1) hIn)) HSL.out hsy (by omega)).mono ?_; rintro e w8 ⟨g8, c8, rfl, hc8, hr8, hb8⟩; rw [HCV.out]; replace Tk := below_next Tk hb8 rfl))
                  all_goals
                    go_wp2_with fail
                    go_meet
                    exact ⟨⟨_, _, rfl, hc8, hr8⟩, rfl, Tk⟩
                case rest =>
                  obtain ⟨⟨g6, c6, rfl, hc6, hr6⟩, rfl, hTc⟩ := hcut
                  obtain ⟨w7, HWC⟩ : ∃ wq : World, wq = wc := ⟨_, rfl⟩
                  subst HWC
                  have T7 := below_next hT5 hTc rfl
                  have HL7 := Lib.hid (insM_len L y)
                  have HS7 : Hid (∀ z ∈ insM L y, SmallP z.2) := fun z hz => by
                    rcases insM_mem.1 hz with rfl | hz
                    · exact hsy
                    · exact HSL.out z hz
                  have HR7 := Lib.hid hr6
                  obtain ⟨M, HMM⟩ : ∃ M, Hid (insM L y = M) := ⟨_, rfl⟩
                  rw [HMM.out] at hc6 HR7 HS7 HL7 ⊢
                  have HMS2 : Hid (mgP xs ys = if catB (insM L y) then mgS xs (ys.drop (k + 1)) M else ([], false)) := by show _ = _; rw [HMS.out, HMM.out, if_neg (by decide)]
                  rw [HCV.out] at HMS2
                  clear hr6
                  rcases cv with _ | _
                  · have HM : Hid (mgP xs ys = ([], false)) := by show _ = _; rw [HMS2.out, if_neg (by decide)]
                    obtain ⟨bl, ho, hiv⟩ := ow_lit T7
                    have HO := Lib.hid ((Sh.rows shEntry 33).ord ho)
                    clear ho
                    go_wp2_with fail
                    go_ret2
                    rw [HM.out]
                    exact ⟨_, rfl, HO.out, below_next T7 (below_box _ _) rfl⟩
                  · go_wp2_with fail
                    go_roundw
                    case rel => exact ⟨k + 1, M, g6, c6, by omega, by go_num, rfl, hc6, by have := HL7.out; omega, HR7.out, by show _ = _; rw [HMS2.out, if_pos rfl], HS7.out, T7⟩
                    case measure => simp [intOf]; omega
              · have HM1 : Hid (mgS xs (ys.drop (k + 1)) L = mgP xs ys) := by show _ = _; rw [HMS.out, if_pos rfl]
                go_wp2_with fail
                go_roundw
                case rel => exact ⟨k + 1, L, g, c', by omega, by go_num, rfl, hLc, by omega, hL5, HM1.out, HSL.out, hT5⟩
                case measure => simp [intOf]; omega
        · have hlt' : ¬ (k : Int) < (ys.length : Int) := by omega
          have HM : Hid (mgP xs ys = (L, true)) := by show _ = _; rw [← HST.out, List.drop_eq_nil_of_le (by omega), mgS]
          have HLL := Lib.hid hL
          clear hL
          go_wp2_with fail
          go_ret2
          rw [HM.out]
          exact ⟨_, rfl, ⟨_, _, _, rfl, HLL.out⟩, hT⟩
theorem implMgv_any (v u : Value) (xs ys : List EntryM) (w : World) (h : (Sh.rows shEntry 33).rd w [v] xs) (h' : (Sh.rows shEntry 33).rd w [u] ys) (hn : (Sh.rows shEntry 33).cnt xs ≤ 1048576) (hn' : (Sh.rows shEntry 33).cnt ys ≤ 1048576) : Calls Try.prog 14 #[v, u] w (OwV (Sh.rows shEntry 33) w (mgP xs ys).1 (mgP xs ys).2) := by
  obtain ⟨A, n, c, e, r⟩ := h
  obtain ⟨D, m, d, e', r'⟩ := h'
  injection e with e _
  injection e' with e' _
  subst e
  subst e'
  exact implMg_any A D n c m d xs ys w r r' hn hn'
theorem specMgv_any (v u : Value) (xs ys : List EntryM) (w : World) (h : (Sh.rows shEntry 33).rd w [v] xs) (h' : (Sh.rows shEntry 33).rd w [u] ys) (hn : (Sh.rows shEntry 33).cnt xs ≤ 1048576) (hn' : (Sh.rows shEntry 33).cnt ys ≤ 1048576) : Calls Try.prog 16 #[v, u] w (RdV (Sh.rows shEntry 33) w (mgP xs ys).1 (mgP xs ys).2) := by
  obtain ⟨A, n, c, e, r⟩ := h
  obtain ⟨D, m, d, e', r'⟩ := h'
  injection e with e _
  injection e' with e' _
  subst e
  subst e'
  exact specMg_any A D n c m d xs ys w r r' hn hn'
end Go.Proofs.Ytkmgbdljiajlaaa
namespace Go.Proofs.Ytkmgbdljiajlaaa
open Go.RowKit

/-! ## The forms that the law cites -/
theorem implRmv_any (v : Value) (xs : List EntryM) (s : ByteArray) (w : World) (h : (Sh.rows shEntry 33).rd w [v] xs) (hn : (Sh.rows shEntry 33).cnt xs ≤ 1048576) : Calls Try.prog 13 #[v, .string s] w (OwV (Sh.rows shEntry 33) w (rmP xs s).1 (rmP xs s).2) := by
  obtain ⟨A, n, c, e, r⟩ := h
  injection e with e _
  subst e
  exact implRm_any A n c xs s w r hn
end Go.Proofs.Ytkmgbdljiajlaaa
namespace Go.Proofs.Ytkmgbdljiajlaaa
open Go.RowKit
set_option linter.unusedVariables false
set_option linter.unusedSimpArgs false

theorem EnR.next {w w' : World} {v : Value} {xs : List EntryM} (h : EnR w v xs) (hb : Below w.heap.size w w') : EnR w' v xs := ⟨stab_same h.1 hb, h.2⟩
theorem rows_sl {w : World} {v : Value} {xs : List EntryM} (h : (Sh.rows shEntry 33).rd w [v] xs) : ∃ A c, v = .slice A xs.length c ∧ RdN shEntry.m shEntry.rd w A xs.length xs := by
  obtain ⟨A, n, c, e, r⟩ := h
  injection e with e _
  obtain rfl : xs.length = n := r.len
  exact ⟨A, c, e, r⟩
theorem noP_two {xs : List EntryM} {x : AlgebraM} {s : ByteArray} {b : Bool} (h : noP xs x = (s, b)) : (Value.tuple #[.string (noP xs x).1, .bool (noP xs x).2]) = .tuple #[.string s, .bool b] := by rw [h]
set_option maxRecDepth 100000 in
set_option maxHeartbeats 16000000 in
theorem lawCatalogues (A : Option Addr) (n c : Nat) (code : List Int) (w : World) (h : RdL RU8 w A n code) :
    Calls Try.prog 3 #[.slice A n c] w (Bl w (.bool true)) := by
  have hle := h.le
  by_cases hbig : 65536 < n
  · go_enter Try.func3, Try.ntmps3
    have hd : decide (65536 < n) = true := by simpa using hbig
    go_wp2_with fail
    refine (rBig_any A n c _ hle).mono ?_
    rintro e w' ⟨rfl, rfl⟩
    rw [hd]
    go_wp2_with fail
    go_ret
    exact ⟨rfl, Below.refl _ _⟩
  have hC := code_inB h (by omega)
  have HDb : Hid (decide (65536 < n) = false) := by show _ = _; simpa using hbig
  clear hbig
  go_enter Try.func3, Try.ntmps3
  go_wp2_with fail
  refine (rBig_any A n c _ hle).mono ?_
  rintro e w' ⟨rfl, rfl⟩
  rw [HDb.out]
  go_wp2_with fail
  refine (drawAdd_any A n c _ hC).mono ?_
  rintro e w1 ⟨v3, xs, s, dx, x, rfl, HX, hs, hA, hAQ, T1⟩
  obtain ⟨A3, c3, rfl, -⟩ := rows_sl HX.1
  obtain ⟨AX, mX, cX, hdx, -, -⟩ := rdAlgebra hA
  subst hdx
  have hsM : s.size ≤ maxLen := by unfold maxLen; omega
  obtain ⟨w2, HW2⟩ : ∃ wb, Hid (wb = w1.alloc (.cells #[.int .i64 x.1, .slice AX mX cX] 27)) := ⟨_, Lib.hid rfl⟩
  have hb2 : Below w1.heap.size w1 w2 := by rw [HW2.out]; exact below_box _ _
  have BX : Blk w2 w1.heap.size 27 #[.int .i64 x.1, .slice AX mX cX] := by rw [HW2.out]; exact Blk.new _ _ _
  obtain ⟨gX, HGX⟩ : ∃ x, Hid (w1.heap.size = x) := ⟨_, Lib.hid rfl⟩
  go_upto_region 4 with fail
  rw [← HW2.out]
  rw [HGX.out] at BX ⊢
  replace HX := HX.next hb2
  replace hA := stab_same hA hb2
  have T2 := below_next T1 hb2 rfl
  replace hC := hC.next T2
  obtain ⟨ys, ok, HAD⟩ : ∃ ys ok, Hid (adP xs s x = (ys, ok)) := ⟨_, _, Lib.hid rfl⟩
  have HI : Calls Try.prog 7 #[.slice A3 xs.length c3, .string s, .agg #[.int .i64 x.1, .slice AX mX cX]] w2 (OwV (Sh.rows shEntry 33) w2 ys ok) := by
    have := implAddv_any (.slice A3 xs.length c3) xs s [.int .i64 x.1, .slice AX mX cX] x w2 HX.1 hsM hA HX.2
    rw [HAD.out] at this
    exact this
  have cX0 := BX.cell 0
  have cX1 := BX.cell 1
  simp at cX0 cX1
  have HI' := Lib.hid HI
  clear HI hb2 T1
  go_wp2_with fail
  refine HI'.out.mono ?_
  rintro e w3 hOw
  obtain ⟨v6, rfl, h6, T3⟩ := OwV.rd hOw
  obtain ⟨A6, c6, rfl, r6⟩ := rows_sl h6
  replace HX := HX.next T3
  replace hA := stab_same hA T3
  replace BX := BX.next T3
  replace hC := hC.next T3
  replace T2 := below_next T2 T3 rfl
  have HS : Hid (Calls Try.prog 8 #[.slice A3 xs.length c3, .string s, .agg #[.int .i64 x.1, .slice AX mX cX]] w3 (RdV (Sh.rows shEntry 33) w3 ys ok)) := by
    have := specAddv_any (.slice A3 xs.length c3) xs s [.int .i64 x.1, .slice AX mX cX] x w3 HX.1 hsM hA HX.2
    rw [HAD.out] at this
    exact this
  clear cX0 cX1
  have cX0 := BX.cell 0
  have cX1 := BX.cell 1
  simp at cX0 cX1
  clear HI' hOw T3
  go_wp2_with fail
  refine HS.out.mono ?_
  rintro e w4 ⟨v8, rfl, h8, T4⟩
  obtain ⟨A8, c8, rfl, r8⟩ := rows_sl h8
  replace HX := HX.next T4
  replace hA := stab_same hA T4
  replace BX := BX.next T4
  replace hC := hC.next T4
  replace h6 := stab_same h6 T4
  replace r6 := r6.next T4
  replace T2 := below_next T2 T4 rfl
  have hyn : ys.length ≤ 9223372036854775807 := by have := r6.le; unfold maxLen at this; omega
  have hbb : (ok != ok) = false := by cases ok <;> rfl
  clear HS h8 T4 cX0 cX1
  go_wp2_with fail
  go_loopw [10] (fun i wr => ∃ k : Nat, k ≤ ys.length ∧ i = .int .i64 k ∧ Below w4.heap.size w4 wr) (fun i _ => ys.length - (intOf i).toNat)
  case atStart => exact ⟨0, Nat.zero_le _, rfl, Below.refl _ _⟩
  case round =>
    obtain ⟨k, hk, rfl, hTr⟩ := hrel
    by_cases hlt : k < ys.length
    · have hk0 : (0 : Int) ≤ (k : Int) := by omega
      have hk1 : (k : Int) < (ys.length : Int) := by omega
      obtain ⟨b6, o6, vs6, y, hA6, -, hc6, hr6, -, hy6⟩ := (RdN.next (S := shEntry) r6 hTr).at hlt
      obtain ⟨b8, o8, vs8, y8, hA8, -, hc8, hr8, -, hy8⟩ := (RdN.next (S := shEntry) r8 hTr).at hlt
      obtain rfl : y = y8 := by rw [hy6] at hy8; injection hy8
      subst hA6
      subst hA8
      obtain ⟨B6, m6, d6, rfl, -, hin6, ho6⟩ := rdEntry hr6
      obtain ⟨B8, m8, d8, rfl, -, hin8, ho8⟩ := rdEntry hr8
      have hra : shAlgebra.rd wr [.int .i64 y.2.1, .slice B6 m6 d6] y.2 := mkAlgebra hin6 ho6
      have hrb : shAlgebra.rd wr [.int .i64 y.2.1, .slice B8 m8 d8] y.2 := mkAlgebra hin8 ho8
      have c60 : wr.cell? ⟨b6, o6 + k * 3, none⟩ = some (.string y.1) := hc6 0 _ rfl
      have c61 : wr.cell? ⟨b6, o6 + k * 3 + 1, none⟩ = some (.int .i64 y.2.1) := hc6 1 _ rfl
      have c62 : wr.cell? ⟨b6, o6 + k * 3 + 2, none⟩ = some (.slice B6 m6 d6) := hc6 2 _ rfl
      have c80 : wr.cell? ⟨b8, o8 + k * 3, none⟩ = some (.string y.1) := hc8 0 _ rfl
      have c81 : wr.cell? ⟨b8, o8 + k * 3 + 1, none⟩ = some (.int .i64 y.2.1) := hc8 1 _ rfl
      have c82 : wr.cell? ⟨b8, o8 + k * 3 + 2, none⟩ = some (.slice B8 m8 d8) := hc8 2 _ rfl
      clear hr6 hr8 hy6 hy8 hc6 hc8 hin6 ho6 hin8 ho8
      go_upto_region 11 with fail
      refine wp_region_held_drew (S := fun w' => w'.cell? ⟨b6, o6 + k * 3, none⟩ = some (.string y.1) ∧ w'.cell? ⟨b6, o6 + k * 3 + 1, none⟩ = some (.int .i64 y.2.1) ∧ w'.cell? ⟨b6, o6 + k * 3 + 2, none⟩ = some (.slice B6 m6 d6) ∧ w'.cell? ⟨b8, o8 + k * 3, none⟩ = some (.string y.1) ∧ w'.cell? ⟨b8, o8 + k * 3 + 1, none⟩ = some (.int .i64 y.2.1) ∧ w'.cell? ⟨b8, o8 + k * 3 + 2, none⟩ = some (.slice B8 m8 d8)) (by kernel_rfl) ⟨c60, c61, c62, c80, c81, c82⟩ (fun hHeld0 => ?_)
      obtain ⟨wt1, Hwt1⟩ : ∃ x, Hid (x = World.drew wr) := ⟨_, rfl⟩
      have hbwt1 : Below wr.heap.size wr wt1 := by rw [Hwt1.out]; exact (Below.refl _ _).drew
      rw [← Hwt1.out] at hHeld0 ⊢
      have ywt1 := hbwt1.size
      replace hTr := below_next hTr hbwt1 rfl
      replace hra := stab_same hra hbwt1
      replace hrb := stab_same hrb hbwt1
      replace c60 := keepc hbwt1 c60
      replace c61 := keepc hbwt1 c61
      replace c62 := keepc hbwt1 c62
      replace c80 := keepc hbwt1 c80
      replace c81 := keepc hbwt1 c81
      replace c82 := keepc hbwt1 c82
      refine wpAnyH_take (i := 0) (v := .slice (some ⟨b6, o6, none⟩) ys.length c6) rfl (by kernel_rfl) (by kernel_rfl) (by kernel_rfl) (fun _ _ _ h => h) (Or.inl ⟨by kernel_rfl, fun _ _ => by go_simp⟩) (by assumption) ?_
      (try simp only [Act.put, List.getElem_toArray, List.getElem_cons_zero, List.getElem_cons_succ, List.setIfInBounds_toArray, List.set_cons_zero, List.set_cons_succ])
      refine wpAnyH_take (i := 1) (v := .int .i64 (k : Int)) rfl (by kernel_rfl) (by kernel_rfl) (by kernel_rfl) (fun _ _ _ h => h) (Or.inl ⟨by kernel_rfl, fun _ _ => by go_simp⟩) (by assumption) ?_
      (try simp only [Act.put, List.getElem_toArray, List.getElem_cons_zero, List.getElem_cons_succ, List.setIfInBounds_toArray, List.set_cons_zero, List.set_cons_succ])
      refine wpAnyH_take (i := 2) (v := .pointer (some ⟨b6, o6 + k * 3, none⟩)) rfl (by kernel_rfl) (by kernel_rfl) (by kernel_rfl) (fun _ _ _ h => h) (Or.inl ⟨by kernel_rfl, fun _ _ => by go_simp⟩) (by assumption) ?_
      (try simp only [Act.put, List.getElem_toArray, List.getElem_cons_zero, List.getElem_cons_succ, List.setIfInBounds_toArray, List.set_cons_zero, List.set_cons_succ])
      refine wpAnyH_take (i := 3) (v := .pointer (some ⟨b6, o6 + k * 3, none⟩)) rfl (by kernel_rfl) (by kernel_rfl) (by kernel_rfl) (fun _ _ _ h => h) (Or.inl ⟨by kernel_rfl, fun _ _ => by go_simp⟩) (by assumption) ?_
      (try simp only [Act.put, List.getElem_toArray, List.getElem_cons_zero, List.getElem_cons_succ, List.setIfInBounds_toArray, List.set_cons_zero, List.set_cons_succ])
      refine wpAnyH_take (i := 4) (v := .string y.1) rfl (by kernel_rfl) (by kernel_rfl) (by kernel_rfl) (fun _ _ _ h => h) (Or.inl ⟨by kernel_rfl, fun wv hSw => by (obtain ⟨hS0, hS1, hS2, hS3, hS4, hS5⟩ := hSw); go_simp⟩) (by assumption) ?_
      (try simp only [Act.put, List.getElem_toArray, List.getElem_cons_zero, List.getElem_cons_succ, List.setIfInBounds_toArray, List.set_cons_zero, List.set_cons_succ])
      refine wpAnyH_take (i := 5) (v := .slice (some ⟨b8, o8, none⟩) ys.length c8) rfl (by kernel_rfl) (by kernel_rfl) (by kernel_rfl) (fun _ _ _ h => h) (Or.inl ⟨by kernel_rfl, fun _ _ => by go_simp⟩) (by assumption) ?_
      (try simp only [Act.put, List.getElem_toArray, List.getElem_cons_zero, List.getElem_cons_succ, List.setIfInBounds_toArray, List.set_cons_zero, List.set_cons_succ])
      refine wpAnyH_take (i := 6) (v := .int .i64 (k : Int)) rfl (by kernel_rfl) (by kernel_rfl) (by kernel_rfl) (fun _ _ _ h => h) (Or.inl ⟨by kernel_rfl, fun _ _ => by go_simp⟩) (by assumption) ?_
      (try simp only [Act.put, List.getElem_toArray, List.getElem_cons_zero, List.getElem_cons_succ, List.setIfInBounds_toArray, List.set_cons_zero, List.set_cons_succ])
      refine wpAnyH_take (i := 7) (v := .pointer (some ⟨b8, o8 + k * 3, none⟩)) rfl (by kernel_rfl) (by kernel_rfl) (by kernel_rfl) (fun _ _ _ h => h) (Or.inl ⟨by kernel_rfl, fun _ _ => by go_simp⟩) (by assumption) ?_
      (try simp only [Act.put, List.getElem_toArray, List.getElem_cons_zero, List.getElem_cons_succ, List.setIfInBounds_toArray, List.set_cons_zero, List.set_cons_succ])
      refine wpAnyH_take (i := 8) (v := .pointer (some ⟨b8, o8 + k * 3, none⟩)) rfl (by kernel_rfl) (by kernel_rfl) (by kernel_rfl) (fun _ _ _ h => h) (Or.inl ⟨by kernel_rfl, fun _ _ => by go_simp⟩) (by assumption) ?_
      (try simp only [Act.put, List.getElem_toArray, List.getElem_cons_zero, List.getElem_cons_succ, List.setIfInBounds_toArray, List.set_cons_zero, List.set_cons_succ])
      refine wpAnyH_take (i := 9) (v := .string y.1) rfl (by kernel_rfl) (by kernel_rfl) (by kernel_rfl) (fun _ _ _ h => h) (Or.inl ⟨by kernel_rfl, fun wv hSw => by (obtain ⟨hS0, hS1, hS2, hS3, hS4, hS5⟩ := hSw); go_simp⟩) (by assumption) ?_
      (try simp only [Act.put, List.getElem_toArray, List.getElem_cons_zero, List.getElem_cons_succ, List.setIfInBounds_toArray, List.set_cons_zero, List.set_cons_succ])
      refine wpAnyH_take (i := 10) (v := .bool false) rfl (by kernel_rfl) (by kernel_rfl) (by kernel_rfl) (fun _ _ _ h => h) (Or.inl ⟨by kernel_rfl, fun _ _ => by go_simp⟩) (by assumption) ?_
      (try simp only [Act.put, List.getElem_toArray, List.getElem_cons_zero, List.getElem_cons_succ, List.setIfInBounds_toArray, List.set_cons_zero, List.set_cons_succ])
      refine wpAnyH_take (i := 11) (v := .bool false) rfl (by kernel_rfl) (by kernel_rfl) (by kernel_rfl) (fun _ _ _ h => h) (Or.inl ⟨by kernel_rfl, fun _ _ => by go_simp⟩) (by assumption) ?_
      (try simp only [Act.put, List.getElem_toArray, List.getElem_cons_zero, List.getElem_cons_succ, List.setIfInBounds_toArray, List.set_cons_zero, List.set_cons_succ])
      refine wpAnyH_take (i := 12) (v := .slice (some ⟨b6, o6, none⟩) ys.length c6) rfl (by kernel_rfl) (by kernel_rfl) (by kernel_rfl) (fun _ _ _ h => h) (Or.inl ⟨by kernel_rfl, fun _ _ => by go_simp⟩) (by assumption) ?_
      (try simp only [Act.put, List.getElem_toArray, List.getElem_cons_zero, List.getElem_cons_succ, List.setIfInBounds_toArray, List.set_cons_zero, List.set_cons_succ])
      refine wpAnyH_take (i := 13) (v := .int .i64 (k : Int)) rfl (by kernel_rfl) (by kernel_rfl) (by kernel_rfl) (fun _ _ _ h => h) (Or.inl ⟨by kernel_rfl, fun _ _ => by go_simp⟩) (by assumption) ?_
      (try simp only [Act.put, List.getElem_toArray, List.getElem_cons_zero, List.getElem_cons_succ, List.setIfInBounds_toArray, List.set_cons_zero, List.set_cons_succ])
      refine wpAnyH_take (i := 14) (v := .pointer (some ⟨b6, o6 + k * 3, none⟩)) rfl (by kernel_rfl) (by kernel_rfl) (by kernel_rfl) (fun _ _ _ h => h) (Or.inl ⟨by kernel_rfl, fun _ _ => by go_simp⟩) (by assumption) ?_
      (try simp only [Act.put, List.getElem_toArray, List.getElem_cons_zero, List.getElem_cons_succ, List.setIfInBounds_toArray, List.set_cons_zero, List.set_cons_succ])
      refine wpAnyH_take (i := 15) (v := .pointer (some ⟨b6, o6 + k * 3 + 1, none⟩)) rfl (by kernel_rfl) (by kernel_rfl) (by kernel_rfl) (fun _ _ _ h => h) (Or.inl ⟨by kernel_rfl, fun _ _ => by go_simp⟩) (by assumption) ?_
      (try simp only [Act.put, List.getElem_toArray, List.getElem_cons_zero, List.getElem_cons_succ, List.setIfInBounds_toArray, List.set_cons_zero, List.set_cons_succ])
      refine wpAnyH_take (i := 16) (v := .agg #[.int .i64 y.2.1, .slice B6 m6 d6]) rfl (by kernel_rfl) (by kernel_rfl) (by kernel_rfl) (fun _ _ _ h => h) (Or.inl ⟨by kernel_rfl, fun wv hSw => by (obtain ⟨hS0, hS1, hS2, hS3, hS4, hS5⟩ := hSw); go_simp⟩) (by assumption) ?_
      (try simp only [Act.put, List.getElem_toArray, List.getElem_cons_zero, List.getElem_cons_succ, List.setIfInBounds_toArray, List.set_cons_zero, List.set_cons_succ])
      refine wpAnyH_take (i := 17) (v := .slice (some ⟨b8, o8, none⟩) ys.length c8) rfl (by kernel_rfl) (by kernel_rfl) (by kernel_rfl) (fun _ _ _ h => h) (Or.inl ⟨by kernel_rfl, fun _ _ => by go_simp⟩) (by assumption) ?_
      (try simp only [Act.put, List.getElem_toArray, List.getElem_cons_zero, List.getElem_cons_succ, List.setIfInBounds_toArray, List.set_cons_zero, List.set_cons_succ])
      refine wpAnyH_take (i := 18) (v := .int .i64 (k : Int)) rfl (by kernel_rfl) (by kernel_rfl) (by kernel_rfl) (fun _ _ _ h => h) (Or.inl ⟨by kernel_rfl, fun _ _ => by go_simp⟩) (by assumption) ?_
      (try simp only [Act.put, List.getElem_toArray, List.getElem_cons_zero, List.getElem_cons_succ, List.setIfInBounds_toArray, List.set_cons_zero, List.set_cons_succ])
      refine wpAnyH_take (i := 19) (v := .pointer (some ⟨b8, o8 + k * 3, none⟩)) rfl (by kernel_rfl) (by kernel_rfl) (by kernel_rfl) (fun _ _ _ h => h) (Or.inl ⟨by kernel_rfl, fun _ _ => by go_simp⟩) (by assumption) ?_
      (try simp only [Act.put, List.getElem_toArray, List.getElem_cons_zero, List.getElem_cons_succ, List.setIfInBounds_toArray, List.set_cons_zero, List.set_cons_succ])
      refine wpAnyH_take (i := 20) (v := .pointer (some ⟨b8, o8 + k * 3 + 1, none⟩)) rfl (by kernel_rfl) (by kernel_rfl) (by kernel_rfl) (fun _ _ _ h => h) (Or.inl ⟨by kernel_rfl, fun _ _ => by go_simp⟩) (by assumption) ?_
      (try simp only [Act.put, List.getElem_toArray, List.getElem_cons_zero, List.getElem_cons_succ, List.setIfInBounds_toArray, List.set_cons_zero, List.set_cons_succ])
      refine wpAnyH_take (i := 21) (v := .agg #[.int .i64 y.2.1, .slice B8 m8 d8]) rfl (by kernel_rfl) (by kernel_rfl) (by kernel_rfl) (fun _ _ _ h => h) (Or.inl ⟨by kernel_rfl, fun wv hSw => by (obtain ⟨hS0, hS1, hS2, hS3, hS4, hS5⟩ := hSw); go_simp⟩) (by assumption) ?_
      (try simp only [Act.put, List.getElem_toArray, List.getElem_cons_zero, List.getElem_cons_succ, List.setIfInBounds_toArray, List.set_cons_zero, List.set_cons_succ])
      refine wpAnyH_ready (rs := [22]) (by kernel_rfl) (by simp) ?_
      refine (AllReadyH.cons rfl (fun K hK => ?_) AllReadyH.nil)
      go_simp
      refine (rAlgebra_any [.int .i64 y.2.1, .slice B6 m6 d6] [.int .i64 y.2.1, .slice B8 m8 d8] y.2 y.2 wt1 hra hrb).mono ?_
      rintro e wt2 ⟨rfl, hbn⟩
      rw [eqC_self]
      go_wp2_with fail
      have ywt2 := hbn.size
      replace hTr := below_next hTr hbn rfl
      replace hra := stab_same hra hbn
      replace hrb := stab_same hrb hbn
      replace c60 := keepc hbn c60
      replace c61 := keepc hbn c61
      replace c62 := keepc hbn c62
      replace c80 := keepc hbn c80
      replace c81 := keepc hbn c81
      replace c82 := keepc hbn c82
      refine hK.out _ _ ⟨c60, c61, c62, c80, c81, c82⟩ (fun hHeld1 => ?_)
      clear hK K hHeld0
      (try simp only [Act.put, List.getElem_toArray, List.getElem_cons_zero, List.getElem_cons_succ, List.setIfInBounds_toArray, List.set_cons_zero, List.set_cons_succ])
      refine wpAnyH_take (i := 23) (v := .bool false) rfl (by kernel_rfl) (by kernel_rfl) (by kernel_rfl) (fun _ _ _ h => h) (Or.inl ⟨by kernel_rfl, fun _ _ => by go_simp⟩) (by assumption) ?_
      (try simp only [Act.put, List.getElem_toArray, List.getElem_cons_zero, List.getElem_cons_succ, List.setIfInBounds_toArray, List.set_cons_zero, List.set_cons_succ])
      refine wpAnyH_take (i := 24) (v := .bool false) rfl (by kernel_rfl) (by kernel_rfl) (by kernel_rfl) (fun _ _ _ h => h) (Or.inl ⟨by kernel_rfl, fun _ _ => by go_simp⟩) (by assumption) ?_
      (try simp only [Act.put, List.getElem_toArray, List.getElem_cons_zero, List.getElem_cons_succ, List.setIfInBounds_toArray, List.set_cons_zero, List.set_cons_succ])
      refine wpAnyH_done (by kernel_rfl) ?_ _
      clear hHeld1
      go_wp2_with fail
      go_roundw
      case rel => exact ⟨k + 1, by omega, by go_num, hTr⟩
      case measure => simp [intOf]; omega
    · have hk1 : ¬ (k : Int) < (ys.length : Int) := by omega
      have hT5 := hTr
      clear r6 r8
      obtain ⟨w5, HW5⟩ : ∃ x : World, x = wr := ⟨_, rfl⟩
      subst HW5
      replace HX := HX.next hTr
      replace hA := stab_same hA hTr
      replace BX := BX.next hTr
      replace hC := hC.next hTr
      replace h6 := stab_same h6 hTr
      replace T2 := below_next T2 hTr rfl
      have HIC := Lib.hid (isCatv_any (.slice A3 xs.length c3) xs w5 HX.1)
      obtain ⟨cb, HCB⟩ : ∃ b, Hid (catB xs = b) := ⟨_, Lib.hid rfl⟩
      clear hT5 hTr
      go_wp2_with fail
      refine HIC.out.mono ?_
      rintro e w6 ⟨rfl, T6⟩
      rw [HCB.out]
      replace HX := HX.next T6
      replace hA := stab_same hA T6
      replace BX := BX.next T6
      replace hC := hC.next T6
      replace h6 := stab_same h6 T6
      replace T2 := below_next T2 T6 rfl
      have HSC := Lib.hid (specIsCatv_any (.slice A3 xs.length c3) xs w6 HX.1)
      have hcb : (cb != cb) = false := by cases cb <;> rfl
      clear HIC T6
      go_wp2_with fail
      refine HSC.out.mono ?_
      rintro e w7 ⟨rfl, T7⟩
      rw [HCB.out]
      replace HX := HX.next T7
      replace hA := stab_same hA T7
      replace BX := BX.next T7
      replace hC := hC.next T7
      replace h6 := stab_same h6 T7
      replace T2 := below_next T2 T7 rfl
      have cX0 := BX.cell 0
      have cX1 := BX.cell 1
      simp at cX0 cX1
      have hxn : xs.length ≤ 9223372036854775807 := by obtain ⟨_, _, _, r⟩ := rows_sl HX.1; have := r.le; unfold maxLen at this; omega
      clear HSC T7
      go_upto_if 104 with fail
      go_cut [11, 12, 13, 14, 15, 16, 17, 18, 19] from 105 to 208 (fun _ _ _ _ _ _ _ _ _ wx => Below w7.heap.size w7 wx)
      case first =>
        rcases ok with _ | _
        · go_wp2_with fail
          go_meet
          exact Below.refl _ _
        · obtain ⟨L1, L2, L3, L4, L5, L6, L7, L8⟩ := ad_law (xs := xs) (s := s) (a := x) (by rw [HAD.out])
          rw [HAD.out] at L1 L2 L3 L4 L5 L6 L7 L8
          have HL1 : Hid (catB ys = true) := L1
          have HL3 : Hid (noP ys x = (s, true)) := L3
          have HL4 : Hid (rmP ys s = (xs, true)) := L4
          have HYC : Hid ((Sh.rows shEntry 33).cnt ys ≤ 1048576) := by have := @adP_cnt xs s x; rw [HAD.out] at this; exact this
          obtain ⟨zs, b5, HM5⟩ : ∃ zs b, Hid (mgP xs ys = (zs, b)) := ⟨_, _, Lib.hid rfl⟩
          obtain ⟨us, b7, HM7⟩ : ∃ zs b, Hid (mgP ys ys = (zs, b)) := ⟨_, _, Lib.hid rfl⟩
          rw [HM5.out] at L5 L6
          rw [HM7.out] at L7 L8
          have L5' : b5 = true := L5
          have L7' : b7 = true := L7
          subst L5'
          subst L7'
          have HZL : Hid (zs.length = ys.length) := L6
          have HUL : Hid (us.length = ys.length) := L8
          have hyl : (xs.length : Int) + 1 = (ys.length : Int) := by have : ys.length = xs.length + 1 := L2; omega
          have hyw : IntKind.i64.wrap (ys.length : Int) = (ys.length : Int) := by rw [IntKind.wrap_i64]; omega
          have HNO := Lib.hid (implNameOfv_any (.slice A6 ys.length c6) ys [.int .i64 x.1, .slice AX mX cX] x w7 h6 hA)
          clear L1 L2 L3 L4 L5 L6 L7 L8
          go_wp2_with fail
          refine HNO.out.mono ?_
          rintro e w8 ⟨rfl, T8⟩
          rw [noP_two HL3.out]
          have HX8 := HX.next T8
          have h68 := stab_same h6 T8
          have hT8 : Below w7.heap.size w7 w8 := T8
          have HRM : Hid (Calls Try.prog 13 #[.slice A6 ys.length c6, .string s] w8 (OwV (Sh.rows shEntry 33) w8 xs true)) := by
            have := implRmv_any (.slice A6 ys.length c6) ys s w8 h68 HYC.out
            rw [HL4.out] at this
            exact this
          clear HNO T8 cX0 cX1
          go_wp2_with fail
          refine HRM.out.mono ?_
          rintro e w9 hOw
          obtain ⟨v13, rfl, h13, T9⟩ := OwV.rd hOw
          obtain ⟨A13, c13, rfl, r13⟩ := rows_sl h13
          replace HX8 := HX8.next T9
          replace h68 := stab_same h68 T9
          replace hT8 := below_next hT8 T9 rfl
          have HC9 := Lib.hid (isCatv_any (.slice A6 ys.length c6) ys w9 h68)
          clear HRM hOw T9 h13
          go_wp2_with fail
          refine HC9.out.mono ?_
          rintro e w10 ⟨rfl, T10⟩
          rw [HL1.out]
          replace HX8 := HX8.next T10
          replace h68 := stab_same h68 T10
          replace r13 := r13.next T10
          replace hT8 := below_next hT8 T10 rfl
          obtain ⟨_, _, hsl3, r3⟩ := rows_sl HX8.1
          injection hsl3 with e1 _ e3
          subst e1
          subst e3
          clear HC9 T10
          go_wp2_with fail
          go_loopw [15] (fun i wr => ∃ k : Nat, k ≤ xs.length ∧ i = .int .i64 k ∧ Below w10.heap.size w10 wr) (fun i _ => xs.length - (intOf i).toNat)
          case atStart => exact ⟨0, Nat.zero_le _, rfl, Below.refl _ _⟩
          case round =>
            obtain ⟨k, hk, rfl, hTr⟩ := hrel
            by_cases hlt : k < xs.length
            · have hk0 : (0 : Int) ≤ (k : Int) := by omega
              have hk1 : (k : Int) < (xs.length : Int) := by omega
              obtain ⟨b6, o6, vs6, y, hA6, -, hc6, hr6, -, hy6⟩ := (RdN.next (S := shEntry) r13 hTr).at hlt
              obtain ⟨b8, o8, vs8, y8, hA8, -, hc8, hr8, -, hy8⟩ := (RdN.next (S := shEntry) r3 hTr).at hlt
              obtain rfl : y = y8 := by rw [hy6] at hy8; injection hy8
              subst hA6
              subst hA8
              obtain ⟨B6, m6, d6, rfl, -, hin6, ho6⟩ := rdEntry hr6
              obtain ⟨B8, m8, d8, rfl, -, hin8, ho8⟩ := rdEntry hr8
              have hra : shAlgebra.rd wr [.int .i64 y.2.1, .slice B6 m6 d6] y.2 := mkAlgebra hin6 ho6
              have hrb : shAlgebra.rd wr [.int .i64 y.2.1, .slice B8 m8 d8] y.2 := mkAlgebra hin8 ho8
              have c60 : wr.cell? ⟨b6, o6 + k * 3, none⟩ = some (.string y.1) := hc6 0 _ rfl
              have c61 : wr.cell? ⟨b6, o6 + k * 3 + 1, none⟩ = some (.int .i64 y.2.1) := hc6 1 _ rfl
              have c62 : wr.cell? ⟨b6, o6 + k * 3 + 2, none⟩ = some (.slice B6 m6 d6) := hc6 2 _ rfl
              have c80 : wr.cell? ⟨b8, o8 + k * 3, none⟩ = some (.string y.1) := hc8 0 _ rfl
              have c81 : wr.cell? ⟨b8, o8 + k * 3 + 1, none⟩ = some (.int .i64 y.2.1) := hc8 1 _ rfl
              have c82 : wr.cell? ⟨b8, o8 + k * 3 + 2, none⟩ = some (.slice B8 m8 d8) := hc8 2 _ rfl
              clear hr6 hr8 hy6 hy8 hc6 hc8 hin6 ho6 hin8 ho8
              go_upto_region 23 with fail
              refine wp_region_held_drew (S := fun w' => w'.cell? ⟨b6, o6 + k * 3, none⟩ = some (.string y.1) ∧ w'.cell? ⟨b6, o6 + k * 3 + 1, none⟩ = some (.int .i64 y.2.1) ∧ w'.cell? ⟨b6, o6 + k * 3 + 2, none⟩ = some (.slice B6 m6 d6) ∧ w'.cell? ⟨b8, o8 + k * 3, none⟩ = some (.string y.1) ∧ w'.cell? ⟨b8, o8 + k * 3 + 1, none⟩ = some (.int .i64 y.2.1) ∧ w'.cell? ⟨b8, o8 + k * 3 + 2, none⟩ = some (.slice B8 m8 d8)) (by kernel_rfl) ⟨c60, c61, c62, c80, c81, c82⟩ (fun hHeld0 => ?_)
              obtain ⟨wt1, Hwt1⟩ : ∃ x, Hid (x = World.drew wr) := ⟨_, rfl⟩
              have hbwt1 : Below wr.heap.size wr wt1 := by rw [Hwt1.out]; exact (Below.refl _ _).drew
              rw [← Hwt1.out] at hHeld0 ⊢
              have ywt1 := hbwt1.size
              replace hTr := below_next hTr hbwt1 rfl
              replace hra := stab_same hra hbwt1
              replace hrb := stab_same hrb hbwt1
              replace c60 := keepc hbwt1 c60
              replace c61 := keepc hbwt1 c61
              replace c62 := keepc hbwt1 c62
              replace c80 := keepc hbwt1 c80
              replace c81 := keepc hbwt1 c81
              replace c82 := keepc hbwt1 c82
              refine wpAnyH_take (i := 0) (v := .slice (some ⟨b6, o6, none⟩) xs.length c13) rfl (by kernel_rfl) (by kernel_rfl) (by kernel_rfl) (fun _ _ _ h => h) (Or.inl ⟨by kernel_rfl, fun _ _ => by go_simp⟩) (by assumption) ?_
              (try simp only [Act.put, List.getElem_toArray, List.getElem_cons_zero, List.getElem_cons_succ, List.setIfInBounds_toArray, List.set_cons_zero, List.set_cons_succ])
              refine wpAnyH_take (i := 1) (v := .int .i64 (k : Int)) rfl (by kernel_rfl) (by kernel_rfl) (by kernel_rfl) (fun _ _ _ h => h) (Or.inl ⟨by kernel_rfl, fun _ _ => by go_simp⟩) (by assumption) ?_
              (try simp only [Act.put, List.getElem_toArray, List.getElem_cons_zero, List.getElem_cons_succ, List.setIfInBounds_toArray, List.set_cons_zero, List.set_cons_succ])
              refine wpAnyH_take (i := 2) (v := .pointer (some ⟨b6, o6 + k * 3, none⟩)) rfl (by kernel_rfl) (by kernel_rfl) (by kernel_rfl) (fun _ _ _ h => h) (Or.inl ⟨by kernel_rfl, fun _ _ => by go_simp⟩) (by assumption) ?_
              (try simp only [Act.put, List.getElem_toArray, List.getElem_cons_zero, List.getElem_cons_succ, List.setIfInBounds_toArray, List.set_cons_zero, List.set_cons_succ])
              refine wpAnyH_take (i := 3) (v := .pointer (some ⟨b6, o6 + k * 3, none⟩)) rfl (by kernel_rfl) (by kernel_rfl) (by kernel_rfl) (fun _ _ _ h => h) (Or.inl ⟨by kernel_rfl, fun _ _ => by go_simp⟩) (by assumption) ?_
              (try simp only [Act.put, List.getElem_toArray, List.getElem_cons_zero, List.getElem_cons_succ, List.setIfInBounds_toArray, List.set_cons_zero, List.set_cons_succ])
              refine wpAnyH_take (i := 4) (v := .string y.1) rfl (by kernel_rfl) (by kernel_rfl) (by kernel_rfl) (fun _ _ _ h => h) (Or.inl ⟨by kernel_rfl, fun wv hSw => by (obtain ⟨hS0, hS1, hS2, hS3, hS4, hS5⟩ := hSw); go_simp⟩) (by assumption) ?_
              (try simp only [Act.put, List.getElem_toArray, List.getElem_cons_zero, List.getElem_cons_succ, List.setIfInBounds_toArray, List.set_cons_zero, List.set_cons_succ])
              refine wpAnyH_take (i := 5) (v := .slice (some ⟨b8, o8, none⟩) xs.length c3) rfl (by kernel_rfl) (by kernel_rfl) (by kernel_rfl) (fun _ _ _ h => h) (Or.inl ⟨by kernel_rfl, fun _ _ => by go_simp⟩) (by assumption) ?_
              (try simp only [Act.put, List.getElem_toArray, List.getElem_cons_zero, List.getElem_cons_succ, List.setIfInBounds_toArray, List.set_cons_zero, List.set_cons_succ])
              refine wpAnyH_take (i := 6) (v := .int .i64 (k : Int)) rfl (by kernel_rfl) (by kernel_rfl) (by kernel_rfl) (fun _ _ _ h => h) (Or.inl ⟨by kernel_rfl, fun _ _ => by go_simp⟩) (by assumption) ?_
              (try simp only [Act.put, List.getElem_toArray, List.getElem_cons_zero, List.getElem_cons_succ, List.setIfInBounds_toArray, List.set_cons_zero, List.set_cons_succ])
              refine wpAnyH_take (i := 7) (v := .pointer (some ⟨b8, o8 + k * 3, none⟩)) rfl (by kernel_rfl) (by kernel_rfl) (by kernel_rfl) (fun _ _ _ h => h) (Or.inl ⟨by kernel_rfl, fun _ _ => by go_simp⟩) (by assumption) ?_
              (try simp only [Act.put, List.getElem_toArray, List.getElem_cons_zero, List.getElem_cons_succ, List.setIfInBounds_toArray, List.set_cons_zero, List.set_cons_succ])
              refine wpAnyH_take (i := 8) (v := .pointer (some ⟨b8, o8 + k * 3, none⟩)) rfl (by kernel_rfl) (by kernel_rfl) (by kernel_rfl) (fun _ _ _ h => h) (Or.inl ⟨by kernel_rfl, fun _ _ => by go_simp⟩) (by assumption) ?_
              (try simp only [Act.put, List.getElem_toArray, List.getElem_cons_zero, List.getElem_cons_succ, List.setIfInBounds_toArray, List.set_cons_zero, List.set_cons_succ])
              refine wpAnyH_take (i := 9) (v := .string y.1) rfl (by kernel_rfl) (by kernel_rfl) (by kernel_rfl) (fun _ _ _ h => h) (Or.inl ⟨by kernel_rfl, fun wv hSw => by (obtain ⟨hS0, hS1, hS2, hS3, hS4, hS5⟩ := hSw); go_simp⟩) (by assumption) ?_
              (try simp only [Act.put, List.getElem_toArray, List.getElem_cons_zero, List.getElem_cons_succ, List.setIfInBounds_toArray, List.set_cons_zero, List.set_cons_succ])
              refine wpAnyH_take (i := 10) (v := .bool false) rfl (by kernel_rfl) (by kernel_rfl) (by kernel_rfl) (fun _ _ _ h => h) (Or.inl ⟨by kernel_rfl, fun _ _ => by go_simp⟩) (by assumption) ?_
              (try simp only [Act.put, List.getElem_toArray, List.getElem_cons_zero, List.getElem_cons_succ, List.setIfInBounds_toArray, List.set_cons_zero, List.set_cons_succ])
              refine wpAnyH_take (i := 11) (v := .bool false) rfl (by kernel_rfl) (by kernel_rfl) (by kernel_rfl) (fun _ _ _ h => h) (Or.inl ⟨by kernel_rfl, fun _ _ => by go_simp⟩) (by assumption) ?_
              (try simp only [Act.put, List.getElem_toArray, List.getElem_cons_zero, List.getElem_cons_succ, List.setIfInBounds_toArray, List.set_cons_zero, List.set_cons_succ])
              refine wpAnyH_take (i := 12) (v := .slice (some ⟨b6, o6, none⟩) xs.length c13) rfl (by kernel_rfl) (by kernel_rfl) (by kernel_rfl) (fun _ _ _ h => h) (Or.inl ⟨by kernel_rfl, fun _ _ => by go_simp⟩) (by assumption) ?_
              (try simp only [Act.put, List.getElem_toArray, List.getElem_cons_zero, List.getElem_cons_succ, List.setIfInBounds_toArray, List.set_cons_zero, List.set_cons_succ])
              refine wpAnyH_take (i := 13) (v := .int .i64 (k : Int)) rfl (by kernel_rfl) (by kernel_rfl) (by kernel_rfl) (fun _ _ _ h => h) (Or.inl ⟨by kernel_rfl, fun _ _ => by go_simp⟩) (by assumption) ?_
              (try simp only [Act.put, List.getElem_toArray, List.getElem_cons_zero, List.getElem_cons_succ, List.setIfInBounds_toArray, List.set_cons_zero, List.set_cons_succ])
              refine wpAnyH_take (i := 14) (v := .pointer (some ⟨b6, o6 + k * 3, none⟩)) rfl (by kernel_rfl) (by kernel_rfl) (by kernel_rfl) (fun _ _ _ h => h) (Or.inl ⟨by kernel_rfl, fun _ _ => by go_simp⟩) (by assumption) ?_
              (try simp only [Act.put, List.getElem_toArray, List.getElem_cons_zero, List.getElem_cons_succ, List.setIfInBounds_toArray, List.set_cons_zero, List.set_cons_succ])
              refine wpAnyH_take (i := 15) (v := .pointer (some ⟨b6, o6 + k * 3 + 1, none⟩)) rfl (by kernel_rfl) (by kernel_rfl) (by kernel_rfl) (fun _ _ _ h => h) (Or.inl ⟨by kernel_rfl, fun _ _ => by go_simp⟩) (by assumption) ?_
              (try simp only [Act.put, List.getElem_toArray, List.getElem_cons_zero, List.getElem_cons_succ, List.setIfInBounds_toArray, List.set_cons_zero, List.set_cons_succ])
              refine wpAnyH_take (i := 16) (v := .agg #[.int .i64 y.2.1, .slice B6 m6 d6]) rfl (by kernel_rfl) (by kernel_rfl) (by kernel_rfl) (fun _ _ _ h => h) (Or.inl ⟨by kernel_rfl, fun wv hSw => by (obtain ⟨hS0, hS1, hS2, hS3, hS4, hS5⟩ := hSw); go_simp⟩) (by assumption) ?_
              (try simp only [Act.put, List.getElem_toArray, List.getElem_cons_zero, List.getElem_cons_succ, List.setIfInBounds_toArray, List.set_cons_zero, List.set_cons_succ])
              refine wpAnyH_take (i := 17) (v := .slice (some ⟨b8, o8, none⟩) xs.length c3) rfl (by kernel_rfl) (by kernel_rfl) (by kernel_rfl) (fun _ _ _ h => h) (Or.inl ⟨by kernel_rfl, fun _ _ => by go_simp⟩) (by assumption) ?_
              (try simp only [Act.put, List.getElem_toArray, List.getElem_cons_zero, List.getElem_cons_succ, List.setIfInBounds_toArray, List.set_cons_zero, List.set_cons_succ])
              refine wpAnyH_take (i := 18) (v := .int .i64 (k : Int)) rfl (by kernel_rfl) (by kernel_rfl) (by kernel_rfl) (fun _ _ _ h => h) (Or.inl ⟨by kernel_rfl, fun _ _ => by go_simp⟩) (by assumption) ?_
              (try simp only [Act.put, List.getElem_toArray, List.getElem_cons_zero, List.getElem_cons_succ, List.setIfInBounds_toArray, List.set_cons_zero, List.set_cons_succ])
              refine wpAnyH_take (i := 19) (v := .pointer (some ⟨b8, o8 + k * 3, none⟩)) rfl (by kernel_rfl) (by kernel_rfl) (by kernel_rfl) (fun _ _ _ h => h) (Or.inl ⟨by kernel_rfl, fun _ _ => by go_simp⟩) (by assumption) ?_
              (try simp only [Act.put, List.getElem_toArray, List.getElem_cons_zero, List.getElem_cons_succ, List.setIfInBounds_toArray, List.set_cons_zero, List.set_cons_succ])
              refine wpAnyH_take (i := 20) (v := .pointer (some ⟨b8, o8 + k * 3 + 1, none⟩)) rfl (by kernel_rfl) (by kernel_rfl) (by kernel_rfl) (fun _ _ _ h => h) (Or.inl ⟨by kernel_rfl, fun _ _ => by go_simp⟩) (by assumption) ?_
              (try simp only [Act.put, List.getElem_toArray, List.getElem_cons_zero, List.getElem_cons_succ, List.setIfInBounds_toArray, List.set_cons_zero, List.set_cons_succ])
              refine wpAnyH_take (i := 21) (v := .agg #[.int .i64 y.2.1, .slice B8 m8 d8]) rfl (by kernel_rfl) (by kernel_rfl) (by kernel_rfl) (fun _ _ _ h => h) (Or.inl ⟨by kernel_rfl, fun wv hSw => by (obtain ⟨hS0, hS1, hS2, hS3, hS4, hS5⟩ := hSw); go_simp⟩) (by assumption) ?_
              (try simp only [Act.put, List.getElem_toArray, List.getElem_cons_zero, List.getElem_cons_succ, List.setIfInBounds_toArray, List.set_cons_zero, List.set_cons_succ])
              refine wpAnyH_ready (rs := [22]) (by kernel_rfl) (by simp) ?_
              refine (AllReadyH.cons rfl (fun K hK => ?_) AllReadyH.nil)
              go_simp
              refine (rAlgebra_any [.int .i64 y.2.1, .slice B6 m6 d6] [.int .i64 y.2.1, .slice B8 m8 d8] y.2 y.2 wt1 hra hrb).mono ?_
              rintro e wt2 ⟨rfl, hbn⟩
              rw [eqC_self]
              go_wp2_with fail
              have ywt2 := hbn.size
              replace hTr := below_next hTr hbn rfl
              replace hra := stab_same hra hbn
              replace hrb := stab_same hrb hbn
              replace c60 := keepc hbn c60
              replace c61 := keepc hbn c61
              replace c62 := keepc hbn c62
              replace c80 := keepc hbn c80
              replace c81 := keepc hbn c81
              replace c82 := keepc hbn c82
              refine hK.out _ _ ⟨c60, c61, c62, c80, c81, c82⟩ (fun hHeld1 => ?_)
              clear hK K hHeld0
              (try simp only [Act.put, List.getElem_toArray, List.getElem_cons_zero, List.getElem_cons_succ, List.setIfInBounds_toArray, List.set_cons_zero, List.set_cons_succ])
              refine wpAnyH_take (i := 23) (v := .bool false) rfl (by kernel_rfl) (by kernel_rfl) (by kernel_rfl) (fun _ _ _ h => h) (Or.inl ⟨by kernel_rfl, fun _ _ => by go_simp⟩) (by assumption) ?_
              (try simp only [Act.put, List.getElem_toArray, List.getElem_cons_zero, List.getElem_cons_succ, List.setIfInBounds_toArray, List.set_cons_zero, List.set_cons_succ])
              refine wpAnyH_take (i := 24) (v := .bool false) rfl (by kernel_rfl) (by kernel_rfl) (by kernel_rfl) (fun _ _ _ h => h) (Or.inl ⟨by kernel_rfl, fun _ _ => by go_simp⟩) (by assumption) ?_
              (try simp only [Act.put, List.getElem_toArray, List.getElem_cons_zero, List.getElem_cons_succ, List.setIfInBounds_toArray, List.set_cons_zero, List.set_cons_succ])
              refine wpAnyH_done (by kernel_rfl) ?_ _
              clear hHeld1
              go_wp2_with fail
              go_roundw
              case rel => exact ⟨k + 1, by omega, by go_num, hTr⟩
              case measure => simp [intOf]; omega
            · have hk1 : ¬ (k : Int) < (xs.length : Int) := by omega
              clear r13 r3
              replace HX8 := HX8.next hTr
              replace h68 := stab_same h68 hTr
              replace hT8 := below_next hT8 hTr rfl
              obtain ⟨w11, HW11⟩ : ∃ x : World, x = wr := ⟨_, rfl⟩
              subst HW11
              have HMA : Hid (Calls Try.prog 14 #[.slice A3 xs.length c3, .slice A6 ys.length c6] w11 (OwV (Sh.rows shEntry 33) w11 zs true)) := by
                have := implMgv_any (.slice A3 xs.length c3) (.slice A6 ys.length c6) xs ys w11 HX8.1 h68 HX8.2 HYC.out
                rw [HM5.out] at this
                exact this
              clear hTr
              go_wp2_with fail
              refine HMA.out.mono ?_
              rintro e w12 hOw
              obtain ⟨v16, rfl, h16, T12⟩ := OwV.rd hOw
              obtain ⟨A16, c16, rfl, -⟩ := rows_sl h16
              rw [HZL.out]
              replace h68 := stab_same h68 T12
              replace hT8 := below_next hT8 T12 rfl
              have HMB : Hid (Calls Try.prog 14 #[.slice A6 ys.length c6, .slice A6 ys.length c6] w12 (OwV (Sh.rows shEntry 33) w12 us true)) := by
                have := implMgv_any (.slice A6 ys.length c6) (.slice A6 ys.length c6) ys ys w12 h68 h68 HYC.out HYC.out
                rw [HM7.out] at this
                exact this
              clear HMA hOw h16 T12
              go_wp2_with fail
              refine HMB.out.mono ?_
              rintro e w13 hOw
              obtain ⟨v18, rfl, h18, T13⟩ := OwV.rd hOw
              obtain ⟨A18, c18, rfl, -⟩ := rows_sl h18
              rw [HUL.out]
              replace hT8 := below_next hT8 T13 rfl
              clear HMB hOw h18 T13
              go_wp2_with fail
              go_meet
              exact hT8
      case rest =>
        have hTc : Below w7.heap.size w7 wc := hcut
        obtain ⟨w8, HW8⟩ : ∃ wq : World, wq = wc := ⟨_, rfl⟩
        subst HW8
        replace hC := hC.next hTc
        replace T2 := below_next T2 hTc rfl
        have HDM := Lib.hid (drawMrg_any A n c w8 hC)
        clear hTc HX hA BX h6 cX0 cX1 hxn
        go_wp2_with fail
        refine HDM.out.mono ?_
        rintro e w9 ⟨v20, xa, v21, bs, rfl, HA9, HB9, T9⟩
        obtain ⟨A20, c20, rfl, -⟩ := rows_sl HA9.1
        obtain ⟨A21, c21, rfl, -⟩ := rows_sl HB9.1
        replace hC := hC.next T9
        replace T2 := below_next T2 T9 rfl
        obtain ⟨us, fine, HMG⟩ : ∃ us b, Hid (mgP xa bs = (us, b)) := ⟨_, _, Lib.hid rfl⟩
        have HMA : Hid (Calls Try.prog 14 #[.slice A20 xa.length c20, .slice A21 bs.length c21] w9 (OwV (Sh.rows shEntry 33) w9 us fine)) := by
          have := implMgv_any (.slice A20 xa.length c20) (.slice A21 bs.length c21) xa bs w9 HA9.1 HB9.1 HA9.2 HB9.2
          rw [HMG.out] at this
          exact this
        clear HDM T9
        go_wp2_with fail
        refine HMA.out.mono ?_
        rintro e w10 hOw
        obtain ⟨v22, rfl, h22, T10⟩ := OwV.rd hOw
        obtain ⟨A22, c22, rfl, r22⟩ := rows_sl h22
        replace HA9 := HA9.next T10
        replace HB9 := HB9.next T10
        replace hC := hC.next T10
        replace T2 := below_next T2 T10 rfl
        have HMS : Hid (Calls Try.prog 16 #[.slice A20 xa.length c20, .slice A21 bs.length c21] w10 (RdV (Sh.rows shEntry 33) w10 us fine)) := by
          have := specMgv_any (.slice A20 xa.length c20) (.slice A21 bs.length c21) xa bs w10 HA9.1 HB9.1 HA9.2 HB9.2
          rw [HMG.out] at this
          exact this
        clear HMA hOw T10
        go_wp2_with fail
        refine HMS.out.mono ?_
        rintro e w11 ⟨v24, rfl, h24, T11⟩
        obtain ⟨A24, c24, rfl, r24⟩ := rows_sl h24
        have hun : us.length ≤ 9223372036854775807 := by have := r24.le; unfold maxLen at this; omega
        replace HB9 := HB9.next T11
        replace h22 := stab_same h22 T11
        replace r22 := r22.next T11
        replace hC := hC.next T11
        replace T2 := below_next T2 T11 rfl
        have hff : (fine != fine) = false := by cases fine <;> rfl
        clear HMS T11 HA9 h24
        go_wp2_with fail
        go_loopw [26] (fun i wr => ∃ k : Nat, k ≤ us.length ∧ i = .int .i64 k ∧ Below w11.heap.size w11 wr) (fun i _ => us.length - (intOf i).toNat)
        case atStart => exact ⟨0, Nat.zero_le _, rfl, Below.refl _ _⟩
        case round =>
          obtain ⟨k, hk, rfl, hTr⟩ := hrel
          by_cases hlt : k < us.length
          · have hk0 : (0 : Int) ≤ (k : Int) := by omega
            have hk1 : (k : Int) < (us.length : Int) := by omega
            obtain ⟨b6, o6, vs6, y, hA6, -, hc6, hr6, -, hy6⟩ := (RdN.next (S := shEntry) r22 hTr).at hlt
            obtain ⟨b8, o8, vs8, y8, hA8, -, hc8, hr8, -, hy8⟩ := (RdN.next (S := shEntry) r24 hTr).at hlt
            obtain rfl : y = y8 := by rw [hy6] at hy8; injection hy8
            subst hA6
            subst hA8
            obtain ⟨B6, m6, d6, rfl, -, hin6, ho6⟩ := rdEntry hr6
            obtain ⟨B8, m8, d8, rfl, -, hin8, ho8⟩ := rdEntry hr8
            have hra : shAlgebra.rd wr [.int .i64 y.2.1, .slice B6 m6 d6] y.2 := mkAlgebra hin6 ho6
            have hrb : shAlgebra.rd wr [.int .i64 y.2.1, .slice B8 m8 d8] y.2 := mkAlgebra hin8 ho8
            have c60 : wr.cell? ⟨b6, o6 + k * 3, none⟩ = some (.string y.1) := hc6 0 _ rfl
            have c61 : wr.cell? ⟨b6, o6 + k * 3 + 1, none⟩ = some (.int .i64 y.2.1) := hc6 1 _ rfl
            have c62 : wr.cell? ⟨b6, o6 + k * 3 + 2, none⟩ = some (.slice B6 m6 d6) := hc6 2 _ rfl
            have c80 : wr.cell? ⟨b8, o8 + k * 3, none⟩ = some (.string y.1) := hc8 0 _ rfl
            have c81 : wr.cell? ⟨b8, o8 + k * 3 + 1, none⟩ = some (.int .i64 y.2.1) := hc8 1 _ rfl
            have c82 : wr.cell? ⟨b8, o8 + k * 3 + 2, none⟩ = some (.slice B8 m8 d8) := hc8 2 _ rfl
            clear hr6 hr8 hy6 hy8 hc6 hc8 hin6 ho6 hin8 ho8
            go_upto_region 39 with fail
            refine wp_region_held_drew (S := fun w' => w'.cell? ⟨b6, o6 + k * 3, none⟩ = some (.string y.1) ∧ w'.cell? ⟨b6, o6 + k * 3 + 1, none⟩ = some (.int .i64 y.2.1) ∧ w'.cell? ⟨b6, o6 + k * 3 + 2, none⟩ = some (.slice B6 m6 d6) ∧ w'.cell? ⟨b8, o8 + k * 3, none⟩ = some (.string y.1) ∧ w'.cell? ⟨b8, o8 + k * 3 + 1, none⟩ = some (.int .i64 y.2.1) ∧ w'.cell? ⟨b8, o8 + k * 3 + 2, none⟩ = some (.slice B8 m8 d8)) (by kernel_rfl) ⟨c60, c61, c62, c80, c81, c82⟩ (fun hHeld0 => ?_)
            obtain ⟨wt1, Hwt1⟩ : ∃ x, Hid (x = World.drew wr) := ⟨_, rfl⟩
            have hbwt1 : Below wr.heap.size wr wt1 := by rw [Hwt1.out]; exact (Below.refl _ _).drew
            rw [← Hwt1.out] at hHeld0 ⊢
            have ywt1 := hbwt1.size
            replace hTr := below_next hTr hbwt1 rfl
            replace hra := stab_same hra hbwt1
            replace hrb := stab_same hrb hbwt1
            replace c60 := keepc hbwt1 c60
            replace c61 := keepc hbwt1 c61
            replace c62 := keepc hbwt1 c62
            replace c80 := keepc hbwt1 c80
            replace c81 := keepc hbwt1 c81
            replace c82 := keepc hbwt1 c82
            refine wpAnyH_take (i := 0) (v := .slice (some ⟨b6, o6, none⟩) us.length c22) rfl (by kernel_rfl) (by kernel_rfl) (by kernel_rfl) (fun _ _ _ h => h) (Or.inl ⟨by kernel_rfl, fun _ _ => by go_simp⟩) (by assumption) ?_
            (try simp only [Act.put, List.getElem_toArray, List.getElem_cons_zero, List.getElem_cons_succ, List.setIfInBounds_toArray, List.set_cons_zero, List.set_cons_succ])
            refine wpAnyH_take (i := 1) (v := .int .i64 (k : Int)) rfl (by kernel_rfl) (by kernel_rfl) (by kernel_rfl) (fun _ _ _ h => h) (Or.inl ⟨by kernel_rfl, fun _ _ => by go_simp⟩) (by assumption) ?_
            (try simp only [Act.put, List.getElem_toArray, List.getElem_cons_zero, List.getElem_cons_succ, List.setIfInBounds_toArray, List.set_cons_zero, List.set_cons_succ])
            refine wpAnyH_take (i := 2) (v := .pointer (some ⟨b6, o6 + k * 3, none⟩)) rfl (by kernel_rfl) (by kernel_rfl) (by kernel_rfl) (fun _ _ _ h => h) (Or.inl ⟨by kernel_rfl, fun _ _ => by go_simp⟩) (by assumption) ?_
            (try simp only [Act.put, List.getElem_toArray, List.getElem_cons_zero, List.getElem_cons_succ, List.setIfInBounds_toArray, List.set_cons_zero, List.set_cons_succ])
            refine wpAnyH_take (i := 3) (v := .pointer (some ⟨b6, o6 + k * 3, none⟩)) rfl (by kernel_rfl) (by kernel_rfl) (by kernel_rfl) (fun _ _ _ h => h) (Or.inl ⟨by kernel_rfl, fun _ _ => by go_simp⟩) (by assumption) ?_
            (try simp only [Act.put, List.getElem_toArray, List.getElem_cons_zero, List.getElem_cons_succ, List.setIfInBounds_toArray, List.set_cons_zero, List.set_cons_succ])
            refine wpAnyH_take (i := 4) (v := .string y.1) rfl (by kernel_rfl) (by kernel_rfl) (by kernel_rfl) (fun _ _ _ h => h) (Or.inl ⟨by kernel_rfl, fun wv hSw => by (obtain ⟨hS0, hS1, hS2, hS3, hS4, hS5⟩ := hSw); go_simp⟩) (by assumption) ?_
            (try simp only [Act.put, List.getElem_toArray, List.getElem_cons_zero, List.getElem_cons_succ, List.setIfInBounds_toArray, List.set_cons_zero, List.set_cons_succ])
            refine wpAnyH_take (i := 5) (v := .slice (some ⟨b8, o8, none⟩) us.length c24) rfl (by kernel_rfl) (by kernel_rfl) (by kernel_rfl) (fun _ _ _ h => h) (Or.inl ⟨by kernel_rfl, fun _ _ => by go_simp⟩) (by assumption) ?_
            (try simp only [Act.put, List.getElem_toArray, List.getElem_cons_zero, List.getElem_cons_succ, List.setIfInBounds_toArray, List.set_cons_zero, List.set_cons_succ])
            refine wpAnyH_take (i := 6) (v := .int .i64 (k : Int)) rfl (by kernel_rfl) (by kernel_rfl) (by kernel_rfl) (fun _ _ _ h => h) (Or.inl ⟨by kernel_rfl, fun _ _ => by go_simp⟩) (by assumption) ?_
            (try simp only [Act.put, List.getElem_toArray, List.getElem_cons_zero, List.getElem_cons_succ, List.setIfInBounds_toArray, List.set_cons_zero, List.set_cons_succ])
            refine wpAnyH_take (i := 7) (v := .pointer (some ⟨b8, o8 + k * 3, none⟩)) rfl (by kernel_rfl) (by kernel_rfl) (by kernel_rfl) (fun _ _ _ h => h) (Or.inl ⟨by kernel_rfl, fun _ _ => by go_simp⟩) (by assumption) ?_
            (try simp only [Act.put, List.getElem_toArray, List.getElem_cons_zero, List.getElem_cons_succ, List.setIfInBounds_toArray, List.set_cons_zero, List.set_cons_succ])
            refine wpAnyH_take (i := 8) (v := .pointer (some ⟨b8, o8 + k * 3, none⟩)) rfl (by kernel_rfl) (by kernel_rfl) (by kernel_rfl) (fun _ _ _ h => h) (Or.inl ⟨by kernel_rfl, fun _ _ => by go_simp⟩) (by assumption) ?_
            (try simp only [Act.put, List.getElem_toArray, List.getElem_cons_zero, List.getElem_cons_succ, List.setIfInBounds_toArray, List.set_cons_zero, List.set_cons_succ])
            refine wpAnyH_take (i := 9) (v := .string y.1) rfl (by kernel_rfl) (by kernel_rfl) (by kernel_rfl) (fun _ _ _ h => h) (Or.inl ⟨by kernel_rfl, fun wv hSw => by (obtain ⟨hS0, hS1, hS2, hS3, hS4, hS5⟩ := hSw); go_simp⟩) (by assumption) ?_
            (try simp only [Act.put, List.getElem_toArray, List.getElem_cons_zero, List.getElem_cons_succ, List.setIfInBounds_toArray, List.set_cons_zero, List.set_cons_succ])
            refine wpAnyH_take (i := 10) (v := .bool false) rfl (by kernel_rfl) (by kernel_rfl) (by kernel_rfl) (fun _ _ _ h => h) (Or.inl ⟨by kernel_rfl, fun _ _ => by go_simp⟩) (by assumption) ?_
            (try simp only [Act.put, List.getElem_toArray, List.getElem_cons_zero, List.getElem_cons_succ, List.setIfInBounds_toArray, List.set_cons_zero, List.set_cons_succ])
            refine wpAnyH_take (i := 11) (v := .bool false) rfl (by kernel_rfl) (by kernel_rfl) (by kernel_rfl) (fun _ _ _ h => h) (Or.inl ⟨by kernel_rfl, fun _ _ => by go_simp⟩) (by assumption) ?_
            (try simp only [Act.put, List.getElem_toArray, List.getElem_cons_zero, List.getElem_cons_succ, List.setIfInBounds_toArray, List.set_cons_zero, List.set_cons_succ])
            refine wpAnyH_take (i := 12) (v := .slice (some ⟨b6, o6, none⟩) us.length c22) rfl (by kernel_rfl) (by kernel_rfl) (by kernel_rfl) (fun _ _ _ h => h) (Or.inl ⟨by kernel_rfl, fun _ _ => by go_simp⟩) (by assumption) ?_
            (try simp only [Act.put, List.getElem_toArray, List.getElem_cons_zero, List.getElem_cons_succ, List.setIfInBounds_toArray, List.set_cons_zero, List.set_cons_succ])
            refine wpAnyH_take (i := 13) (v := .int .i64 (k : Int)) rfl (by kernel_rfl) (by kernel_rfl) (by kernel_rfl) (fun _ _ _ h => h) (Or.inl ⟨by kernel_rfl, fun _ _ => by go_simp⟩) (by assumption) ?_
            (try simp only [Act.put, List.getElem_toArray, List.getElem_cons_zero, List.getElem_cons_succ, List.setIfInBounds_toArray, List.set_cons_zero, List.set_cons_succ])
            refine wpAnyH_take (i := 14) (v := .pointer (some ⟨b6, o6 + k * 3, none⟩)) rfl (by kernel_rfl) (by kernel_rfl) (by kernel_rfl) (fun _ _ _ h => h) (Or.inl ⟨by kernel_rfl, fun _ _ => by go_simp⟩) (by assumption) ?_
            (try simp only [Act.put, List.getElem_toArray, List.getElem_cons_zero, List.getElem_cons_succ, List.setIfInBounds_toArray, List.set_cons_zero, List.set_cons_succ])
            refine wpAnyH_take (i := 15) (v := .pointer (some ⟨b6, o6 + k * 3 + 1, none⟩)) rfl (by kernel_rfl) (by kernel_rfl) (by kernel_rfl) (fun _ _ _ h => h) (Or.inl ⟨by kernel_rfl, fun _ _ => by go_simp⟩) (by assumption) ?_
            (try simp only [Act.put, List.getElem_toArray, List.getElem_cons_zero, List.getElem_cons_succ, List.setIfInBounds_toArray, List.set_cons_zero, List.set_cons_succ])
            refine wpAnyH_take (i := 16) (v := .agg #[.int .i64 y.2.1, .slice B6 m6 d6]) rfl (by kernel_rfl) (by kernel_rfl) (by kernel_rfl) (fun _ _ _ h => h) (Or.inl ⟨by kernel_rfl, fun wv hSw => by (obtain ⟨hS0, hS1, hS2, hS3, hS4, hS5⟩ := hSw); go_simp⟩) (by assumption) ?_
            (try simp only [Act.put, List.getElem_toArray, List.getElem_cons_zero, List.getElem_cons_succ, List.setIfInBounds_toArray, List.set_cons_zero, List.set_cons_succ])
            refine wpAnyH_take (i := 17) (v := .slice (some ⟨b8, o8, none⟩) us.length c24) rfl (by kernel_rfl) (by kernel_rfl) (by kernel_rfl) (fun _ _ _ h => h) (Or.inl ⟨by kernel_rfl, fun _ _ => by go_simp⟩) (by assumption) ?_
            (try simp only [Act.put, List.getElem_toArray, List.getElem_cons_zero, List.getElem_cons_succ, List.setIfInBounds_toArray, List.set_cons_zero, List.set_cons_succ])
            refine wpAnyH_take (i := 18) (v := .int .i64 (k : Int)) rfl (by kernel_rfl) (by kernel_rfl) (by kernel_rfl) (fun _ _ _ h => h) (Or.inl ⟨by kernel_rfl, fun _ _ => by go_simp⟩) (by assumption) ?_
            (try simp only [Act.put, List.getElem_toArray, List.getElem_cons_zero, List.getElem_cons_succ, List.setIfInBounds_toArray, List.set_cons_zero, List.set_cons_succ])
            refine wpAnyH_take (i := 19) (v := .pointer (some ⟨b8, o8 + k * 3, none⟩)) rfl (by kernel_rfl) (by kernel_rfl) (by kernel_rfl) (fun _ _ _ h => h) (Or.inl ⟨by kernel_rfl, fun _ _ => by go_simp⟩) (by assumption) ?_
            (try simp only [Act.put, List.getElem_toArray, List.getElem_cons_zero, List.getElem_cons_succ, List.setIfInBounds_toArray, List.set_cons_zero, List.set_cons_succ])
            refine wpAnyH_take (i := 20) (v := .pointer (some ⟨b8, o8 + k * 3 + 1, none⟩)) rfl (by kernel_rfl) (by kernel_rfl) (by kernel_rfl) (fun _ _ _ h => h) (Or.inl ⟨by kernel_rfl, fun _ _ => by go_simp⟩) (by assumption) ?_
            (try simp only [Act.put, List.getElem_toArray, List.getElem_cons_zero, List.getElem_cons_succ, List.setIfInBounds_toArray, List.set_cons_zero, List.set_cons_succ])
            refine wpAnyH_take (i := 21) (v := .agg #[.int .i64 y.2.1, .slice B8 m8 d8]) rfl (by kernel_rfl) (by kernel_rfl) (by kernel_rfl) (fun _ _ _ h => h) (Or.inl ⟨by kernel_rfl, fun wv hSw => by (obtain ⟨hS0, hS1, hS2, hS3, hS4, hS5⟩ := hSw); go_simp⟩) (by assumption) ?_
            (try simp only [Act.put, List.getElem_toArray, List.getElem_cons_zero, List.getElem_cons_succ, List.setIfInBounds_toArray, List.set_cons_zero, List.set_cons_succ])
            refine wpAnyH_ready (rs := [22]) (by kernel_rfl) (by simp) ?_
            refine (AllReadyH.cons rfl (fun K hK => ?_) AllReadyH.nil)
            go_simp
            refine (rAlgebra_any [.int .i64 y.2.1, .slice B6 m6 d6] [.int .i64 y.2.1, .slice B8 m8 d8] y.2 y.2 wt1 hra hrb).mono ?_
            rintro e wt2 ⟨rfl, hbn⟩
            rw [eqC_self]
            go_wp2_with fail
            have ywt2 := hbn.size
            replace hTr := below_next hTr hbn rfl
            replace hra := stab_same hra hbn
            replace hrb := stab_same hrb hbn
            replace c60 := keepc hbn c60
            replace c61 := keepc hbn c61
            replace c62 := keepc hbn c62
            replace c80 := keepc hbn c80
            replace c81 := keepc hbn c81
            replace c82 := keepc hbn c82
            refine hK.out _ _ ⟨c60, c61, c62, c80, c81, c82⟩ (fun hHeld1 => ?_)
            clear hK K hHeld0
            (try simp only [Act.put, List.getElem_toArray, List.getElem_cons_zero, List.getElem_cons_succ, List.setIfInBounds_toArray, List.set_cons_zero, List.set_cons_succ])
            refine wpAnyH_take (i := 23) (v := .bool false) rfl (by kernel_rfl) (by kernel_rfl) (by kernel_rfl) (fun _ _ _ h => h) (Or.inl ⟨by kernel_rfl, fun _ _ => by go_simp⟩) (by assumption) ?_
            (try simp only [Act.put, List.getElem_toArray, List.getElem_cons_zero, List.getElem_cons_succ, List.setIfInBounds_toArray, List.set_cons_zero, List.set_cons_succ])
            refine wpAnyH_take (i := 24) (v := .bool false) rfl (by kernel_rfl) (by kernel_rfl) (by kernel_rfl) (fun _ _ _ h => h) (Or.inl ⟨by kernel_rfl, fun _ _ => by go_simp⟩) (by assumption) ?_
            (try simp only [Act.put, List.getElem_toArray, List.getElem_cons_zero, List.getElem_cons_succ, List.setIfInBounds_toArray, List.set_cons_zero, List.set_cons_succ])
            refine wpAnyH_done (by kernel_rfl) ?_ _
            clear hHeld1
            go_wp2_with fail
            go_roundw
            case rel => exact ⟨k + 1, by omega, by go_num, hTr⟩
            case measure => simp [intOf]; omega
          · have hk1 : ¬ (k : Int) < (us.length : Int) := by omega
            clear r22 r24
            obtain ⟨w12, HW12⟩ : ∃ x : World, x = wr := ⟨_, rfl⟩
            subst HW12
            replace HB9 := HB9.next hTr
            replace h22 := stab_same h22 hTr
            replace hC := hC.next hTr
            replace T2 := below_next T2 hTr rfl
            obtain ⟨_, _, hslb, r21⟩ := rows_sl HB9.1
            have hbn : bs.length ≤ 9223372036854775807 := by have := r21.le; unfold maxLen at this; omega
            injection hslb with e1 _ e3
            subst e1
            subst e3
            clear hTr
            go_upto_if 267 with fail
            go_cut [27, 28, 29] from 268 to 285 (fun _ _ _ wx => Below w12.heap.size w12 wx)
            case first =>
              rcases fine with _ | _
              · go_wp2_with fail
                go_meet
                exact Below.refl _ _
              · have HLW : Hid (∀ y ∈ bs, (noP us y.2).2 = true) := fun y hy => by
                  have h1 := mg_law (xs := xa) (ys := bs) (by rw [HMG.out]) hy
                  rw [HMG.out] at h1
                  exact h1
                go_wp2_with fail
                go_loopw [27, 28, 29] (fun i _ _ wr => ∃ k : Nat, k ≤ bs.length ∧ i = .int .i64 k ∧ Below w12.heap.size w12 wr) (fun i _ _ _ => bs.length - (intOf i).toNat)
                case atStart => exact ⟨0, Nat.zero_le _, rfl, Below.refl _ _⟩
                case round =>
                  obtain ⟨k, hk, rfl, hTr⟩ := hrel
                  by_cases hlt : k < bs.length
                  · have hk0 : (0 : Int) ≤ (k : Int) := by omega
                    have hk1 : (k : Int) < (bs.length : Int) := by omega
                    obtain ⟨b6, o6, vs6, y, hA6, -, hc6, hr6, -, hy6⟩ := (RdN.next (S := shEntry) r21 hTr).at hlt
                    subst hA6
                    obtain ⟨B6, m6, d6, rfl, -, hin6, ho6⟩ := rdEntry hr6
                    have hra : shAlgebra.rd wr [.int .i64 y.2.1, .slice B6 m6 d6] y.2 := mkAlgebra hin6 ho6
                    have c61 : wr.cell? ⟨b6, o6 + k * 3 + 1, none⟩ = some (.int .i64 y.2.1) := hc6 1 _ rfl
                    have c62 : wr.cell? ⟨b6, o6 + k * 3 + 2, none⟩ = some (.slice B6 m6 d6) := hc6 2 _ rfl
                    have HNO := Lib.hid (implNameOfv_any (.slice A22 us.length c22) us [.int .i64 y.2.1, .slice B6 m6 d6] y.2 wr (stab_same h22 hTr) hra)
                    have HNY := Lib.hid (HLW.out y (List.mem_of_getElem? hy6))
                    clear hr6 hy6 hc6 hin6 ho6 hra
                    go_wp2_with fail
                    refine HNO.out.mono ?_
                    rintro e w13 ⟨rfl, T13⟩
                    rw [HNY.out]
                    have hT13 := below_next hTr T13 rfl
                    clear HNO T13
                    go_wp2_with fail
                    go_roundw
                    case rel => exact ⟨k + 1, by omega, by go_num, hT13⟩
                    case measure => simp [intOf]; omega
                  · have hk1 : ¬ (k : Int) < (bs.length : Int) := by omega
                    go_wp2_with fail
                    go_meet
                    exact hTr
            case rest =>
              have hTc : Below w12.heap.size w12 wc := hcut
              obtain ⟨w13, HW13⟩ : ∃ wq : World, wq = wc := ⟨_, rfl⟩
              subst HW13
              replace hC := hC.next hTc
              replace T2 := below_next T2 hTc rfl
              have HDN := Lib.hid (drawNof_any A n c w13 hC)
              clear hTc HB9 h22 r21
              go_wp2_with fail
              refine HDN.out.mono ?_
              rintro e w14 ⟨v30, ls, ds, x9, rfl, HL14, hx14, -, T14⟩
              obtain ⟨A30, c30, rfl, -⟩ := rows_sl HL14.1
              obtain ⟨A9, m9, c9, hdx, -, -⟩ := rdAlgebra hx14
              subst hdx
              replace T2 := below_next T2 T14 rfl
              obtain ⟨w15, HW15⟩ : ∃ wb, Hid (wb = w14.alloc (.cells #[.int .i64 x9.1, .slice A9 m9 c9] 27)) := ⟨_, Lib.hid rfl⟩
              have hb15 : Below w14.heap.size w14 w15 := by rw [HW15.out]; exact below_box _ _
              have BY : Blk w15 w14.heap.size 27 #[.int .i64 x9.1, .slice A9 m9 c9] := by rw [HW15.out]; exact Blk.new _ _ _
              obtain ⟨gY, HGY⟩ : ∃ x, Hid (w14.heap.size = x) := ⟨_, Lib.hid rfl⟩
              clear HDN T14 hC
              go_upto_region 49 with fail
              rw [← HW15.out]
              rw [HGY.out] at BY ⊢
              replace HL14 := HL14.next hb15
              replace hx14 := stab_same hx14 hb15
              replace T2 := below_next T2 hb15 rfl
              have HNI := Lib.hid (implNameOfv_any (.slice A30 ls.length c30) ls [.int .i64 x9.1, .slice A9 m9 c9] x9 w15 HL14.1 hx14)
              have cY0 := BY.cell 0
              have cY1 := BY.cell 1
              simp at cY0 cY1
              clear hb15
              go_wp2_with fail
              refine HNI.out.mono ?_
              rintro e w16 ⟨rfl, T16⟩
              replace HL14 := HL14.next T16
              replace hx14 := stab_same hx14 T16
              replace BY := BY.next T16
              replace T2 := below_next T2 T16 rfl
              have HNS := Lib.hid (specNameOfv_any (.slice A30 ls.length c30) ls [.int .i64 x9.1, .slice A9 m9 c9] x9 w16 HL14.1 hx14)
              obtain ⟨s9, b9, HN9⟩ : ∃ s b, Hid (noP ls x9 = (s, b)) := ⟨_, _, Lib.hid rfl⟩
              rw [noP_two HN9.out]
              clear cY0 cY1
              have cY0 := BY.cell 0
              have cY1 := BY.cell 1
              simp at cY0 cY1
              have hb9 : (b9 == b9) = true := by cases b9 <;> rfl
              clear HNI T16
              go_wp2_with fail
              refine HNS.out.mono ?_
              rintro e w17 ⟨rfl, T17⟩
              rw [noP_two HN9.out]
              replace T2 := below_next T2 T17 rfl
              clear HNS T17 cY0 cY1
              go_wp2_with fail
              go_ret
              exact ⟨rfl, T2⟩
end Go.Proofs.Ytkmgbdljiajlaaa
