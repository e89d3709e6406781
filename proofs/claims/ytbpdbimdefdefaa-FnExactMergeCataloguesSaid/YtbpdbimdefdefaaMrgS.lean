
/- Walks: MergeCatalogues of the reference. Printed by genmrg.py. -/
import Derived.Test.YtbpdbimdefdefaaMrgI
import Derived.Test.YtbpdbimdefdefaaAddS
namespace Go.Proofs.Ytbpdbimdefdefaa
open Go.RowKit

theorem hasM_snoc (l : List EntryM) (x : EntryM) (m : AlgebraM) : hasM (l ++ [x]) m = (hasM l m || eqC x.2 m) := by simp [hasM]
set_option linter.unusedVariables false in
set_option linter.unusedSimpArgs false in
set_option maxRecDepth 100000 in
set_option maxHeartbeats 8000000 in
theorem specMg_any (A D : Option Addr) (n c m d : Nat) (xs ys : List EntryM) (w : World) (h : RdN shEntry.m shEntry.rd w A n xs) (h' : RdN shEntry.m shEntry.rd w D m ys) (hn : xs.length + cntS shEntry.cnt xs ≤ 1048576) (hn' : ys.length + cntS shEntry.cnt ys ≤ 1048576) :
    Calls Try.prog 22 #[.slice A n c, .slice D m d] w (RdV (Sh.rows shEntry 64) w (mgP xs ys).1 (mgP xs ys).2) := by
  have hle := h.le
  have hle' := h'.le
  obtain rfl : xs.length = n := h.len
  obtain rfl : ys.length = m := h'.len
  obtain ⟨r1, HR1⟩ : ∃ r, Hid (catB xs = r) := ⟨_, rfl⟩
  rcases r1 with _ | _
  · have HM := Lib.hid (mg_no1 (ys := ys) HR1.out)
    rw [HM.out]
    go_enter Try.func22, Try.ntmps22
    go_wp2_with fail
    refine (l31Good_any _ _ _ xs _ h).mono ?_
    rintro e w1 ⟨rfl, hb1⟩
    rw [HR1.out]
    obtain ⟨bl, ho, hiv⟩ := ow_lit hb1
    have HO := Lib.hid ((Sh.rows shEntry 64).ord ho)
    clear ho
    go_wp2_with fail
    go_ret2
    exact ⟨_, rfl, HO.out, below_next hb1 (below_box _ _) rfl⟩
  · obtain ⟨r2, HR2⟩ : ∃ r, Hid (catB ys = r) := ⟨_, rfl⟩
    rcases r2 with _ | _
    · have HM := Lib.hid (mg_no2 (xs := xs) HR2.out)
      rw [HM.out]
      go_enter Try.func22, Try.ntmps22
      go_wp2_with fail
      refine (l31Good_any _ _ _ xs _ h).mono ?_
      rintro e w1 ⟨rfl, hb1⟩
      rw [HR1.out]
      go_wp2_with fail
      refine (l31Good_any _ _ _ ys _ (h'.next hb1)).mono ?_
      rintro e w2 ⟨rfl, hb2⟩
      rw [HR2.out]
      have T2 := below_next hb1 hb2 rfl
      obtain ⟨bl, ho, hiv⟩ := ow_lit T2
      have HO := Lib.hid ((Sh.rows shEntry 64).ord ho)
      clear ho
      go_wp2_with fail
      go_ret2
      exact ⟨_, rfl, HO.out, below_next T2 (below_box _ _) rfl⟩
    · have hx12 := (cat_two HR1.out).1
      have hy12 := (cat_two HR2.out).1
      have HSX : Hid (∀ x ∈ xs, SmallP x.2) := fun x hx => cat_small HR1.out hx
      have HSY : Hid (∀ x ∈ ys, SmallP x.2) := fun x hx => cat_small HR2.out hx
      have HMG := Lib.hid (mg_spec HR1.out HR2.out)
      go_enter Try.func22, Try.ntmps22
      go_wp2_with fail
      refine (l31Good_any _ _ _ xs _ h).mono ?_
      rintro e w1 ⟨rfl, hb1⟩
      rw [HR1.out]
      go_wp2_with fail
      refine (l31Good_any _ _ _ ys _ (h'.next hb1)).mono ?_
      rintro e w2 ⟨rfl, hb2⟩
      rw [HR2.out]
      have T2 := below_next hb1 hb2 rfl
      have HCX := Lib.hid (l31CopyN_any A xs.length c xs w2 (h.next T2) hn)
      go_wp2_with fail
      refine HCX.out.mono ?_
      rintro e w3 ⟨g3, n3, c3, css3, bls3, rfl, hP3, hb3⟩
      obtain ⟨rfl, hc3⟩ := hP3.ln
      have T3 := below_next T2 hb3 rfl
      have hL3 := hP3.rdN
      clear hP3 HCX
      go_wp2_with fail
      go_loopw [6, 7, 8, 9, 10, 11] (fun v i _ _ _ _ wr => ∃ (k : Nat) (L : List EntryM) (g c' : Nat), k ≤ ys.length ∧ i = .int .i64 k ∧ v = .slice (some ⟨g, 0, none⟩) L.length c' ∧ L.length ≤ c' ∧ L.length ≤ xs.length + k ∧ RdN shEntry.m shEntry.rd wr (some ⟨g, 0, none⟩) L.length L ∧ Hid (mgS xs (ys.drop k) L = mgP xs ys) ∧ Hid (∀ z ∈ L, SmallP z.2) ∧ Below w.heap.size w wr) (fun _ i _ _ _ _ _ => ys.length - (intOf i).toNat)
      case atStart => exact ⟨0, xs, g3, c3, Nat.zero_le _, rfl, rfl, hc3, by omega, hL3, HMG.out, HSX.out, T3⟩
      case round =>
        clear hL3 T3 hb3 hc3
        obtain ⟨k, L, g, c', hk, rfl, rfl, hLc, hLn, hL, HST, HSL, hT⟩ := hrel
        by_cases hlt : k < ys.length
        · have hk0 : (0 : Int) ≤ (k : Int) := by omega
          have hk1 : (k : Int) < (ys.length : Int) := by omega
          obtain ⟨b', o', vs, y, rfl, -, hcy, hry, hdy, hy⟩ := (h'.next hT).at hlt
          obtain ⟨B, q, r, rfl, hsz, hIn, hops⟩ := rdEntry hry
          have hrya := mkAlgebra (cOps := r) hIn hops
          have cy0 : wr.cell? ⟨b', o' + k * 3, none⟩ = some (.string y.1) := hcy 0 _ rfl
          have cy1 : wr.cell? ⟨b', o' + k * 3 + 1, none⟩ = some (.int .i64 y.2.1) := hcy 1 _ rfl
          have cy2 : wr.cell? ⟨b', o' + k * 3 + 2, none⟩ = some (.slice B q r) := hcy 2 _ rfl
          have hsy := HSY.out y (List.mem_of_getElem? hy)
          have HMS : Hid (mgS xs (ys.drop k) L = if hasM xs y.2 then mgS xs (ys.drop (k + 1)) L else if catB (insM L y) then mgS xs (ys.drop (k + 1)) (insM L y) else ([], false)) := by show _ = _; rw [hdy, mgS]
          rw [HST.out] at HMS
          have hxr := h.next hT
          obtain ⟨wo, HWO⟩ : ∃ wo : World, wo = wr := ⟨_, rfl⟩
          subst HWO
          clear hcy hry hdy hy HST
          go_wp2_with fail
          go_loopw [8, 9] (fun f i wi => ∃ j : Nat, j ≤ xs.length ∧ i = .int .i64 j ∧ f = .bool (hasM (xs.take j) y.2) ∧ Below wo.heap.size wo wi) (fun _ i _ => xs.length - (intOf i).toNat)
          case atStart => exact ⟨0, Nat.zero_le _, rfl, rfl, Below.refl _ _⟩
          case round =>
            obtain ⟨j, hj, rfl, rfl, hTi⟩ := hrel
            replace cy0 := keepc hTi cy0
            replace cy1 := keepc hTi cy1
            replace cy2 := keepc hTi cy2
            by_cases hltj : j < xs.length
            · have hj0 : (0 : Int) ≤ (j : Int) := by omega
              have hj1 : (j : Int) < (xs.length : Int) := by omega
              obtain ⟨b, o, vs, x, rfl, -, hcx, hrx, -, hx⟩ := (hxr.next hTi).at hltj
              obtain ⟨Bx, qx, rx, rfl, hszx, hInx, hopsx⟩ := rdEntry hrx
              have hrxa := mkAlgebra (cOps := rx) hInx hopsx
              have cx1 : wr.cell? ⟨b, o + j * 3 + 1, none⟩ = some (.int .i64 x.2.1) := hcx 1 _ rfl
              have cx2 : wr.cell? ⟨b, o + j * 3 + 2, none⟩ = some (.slice Bx qx rx) := hcx 2 _ rfl
              have hsx := HSX.out x (List.mem_of_getElem? hx)
              have HTK : Hid (hasM (xs.take (j + 1)) y.2 = (hasM (xs.take j) y.2 || eqC x.2 y.2)) := by show _ = _; rw [take_snoc hx, hasM_snoc]
              obtain ⟨kn, HKN⟩ : ∃ kn, Hid (hasM (xs.take j) y.2 = kn) := ⟨_, rfl⟩
              rw [HKN.out] at HTK ⊢
              have Tk : Below wr.heap.size wr wr := Below.refl _ _
              clear hcx hrx hx hopsx
              rcases kn with _ | _
              · obtain ⟨rv, HRV⟩ : ∃ rv, Hid (eqC x.2 y.2 = rv) := ⟨_, rfl⟩
                have HC : ∀ wz, Below wr.heap.size wr wz → Calls Try.prog 60 #[.agg #[.int .i64 x.2.1, .slice Bx qx rx], .agg #[.int .i64 y.2.1, .slice B q r]] wz (Bl wz (.bool (eqC x.2 y.2))) := fun wz hz =>
                  l31Same_any [.int .i64 x.2.1, .slice Bx qx rx] [.int .i64 y.2.1, .slice B q r] x.2 y.2 wz (shAlgebra.stab hrxa hz.block) (shAlgebra.stab (shAlgebra.stab hrya hTi.block) hz.block) hsx hsy
                have HTK2 : Hid (hasM (xs.take (j + 1)) y.2 = rv) := by show _ = _; rw [HTK.out, HRV.out, Bool.false_or]
                go_wp2_with fail
                refine wp_region_held_drew (S := fun w' => w'.cell? ⟨b, o + j * 3 + 1, none⟩ = some (.int .i64 x.2.1) ∧ w'.cell? ⟨b, o + j * 3 + 2, none⟩ = some (.slice Bx qx rx) ∧ w'.cell? ⟨b', o' + k * 3 + 1, none⟩ = some (.int .i64 y.2.1) ∧ w'.cell? ⟨b', o' + k * 3 + 2, none⟩ = some (.slice B q r)) (by kernel_rfl) ⟨cx1, cx2, cy1, cy2⟩ (fun hHeld0 => ?_)
                refine wpAnyH_take (i := 0) (v := .bool false) rfl (by kernel_rfl) (by kernel_rfl) (by kernel_rfl) (fun _ _ _ h => h) (Or.inl ⟨by kernel_rfl, fun _ _ => by go_simp⟩) (by assumption) ?_
                (try simp only [Act.put, List.getElem_toArray, List.getElem_cons_zero, List.getElem_cons_succ, List.setIfInBounds_toArray, List.set_cons_zero, List.set_cons_succ])
                refine wpAnyH_take (i := 1) (v := .bool false) rfl (by kernel_rfl) (by kernel_rfl) (by kernel_rfl) (fun _ _ _ h => h) (Or.inl ⟨by kernel_rfl, fun _ _ => by go_simp⟩) (by assumption) ?_
                (try simp only [Act.put, List.getElem_toArray, List.getElem_cons_zero, List.getElem_cons_succ, List.setIfInBounds_toArray, List.set_cons_zero, List.set_cons_succ])
                refine wpAnyH_take (i := 2) (v := .slice (some ⟨b, o, none⟩) xs.length c) rfl (by kernel_rfl) (by kernel_rfl) (by kernel_rfl) (fun _ _ _ h => h) (Or.inl ⟨by kernel_rfl, fun _ _ => by go_simp⟩) (by assumption) ?_
                (try simp only [Act.put, List.getElem_toArray, List.getElem_cons_zero, List.getElem_cons_succ, List.setIfInBounds_toArray, List.set_cons_zero, List.set_cons_succ])
                refine wpAnyH_take (i := 3) (v := .int .i64 j) rfl (by kernel_rfl) (by kernel_rfl) (by kernel_rfl) (fun _ _ _ h => h) (Or.inl ⟨by kernel_rfl, fun _ _ => by go_simp⟩) (by assumption) ?_
                (try simp only [Act.put, List.getElem_toArray, List.getElem_cons_zero, List.getElem_cons_succ, List.setIfInBounds_toArray, List.set_cons_zero, List.set_cons_succ])
                refine wpAnyH_take (i := 4) (v := .pointer (some ⟨b, o + j * 3, none⟩)) rfl (by kernel_rfl) (by kernel_rfl) (by kernel_rfl) (fun _ _ _ h => h) (Or.inl ⟨by kernel_rfl, fun _ _ => by go_simp⟩) (by assumption) ?_
                (try simp only [Act.put, List.getElem_toArray, List.getElem_cons_zero, List.getElem_cons_succ, List.setIfInBounds_toArray, List.set_cons_zero, List.set_cons_succ])
                refine wpAnyH_take (i := 5) (v := .pointer (some ⟨b, o + j * 3 + 1, none⟩)) rfl (by kernel_rfl) (by kernel_rfl) (by kernel_rfl) (fun _ _ _ h => h) (Or.inl ⟨by kernel_rfl, fun _ _ => by go_simp⟩) (by assumption) ?_
                (try simp only [Act.put, List.getElem_toArray, List.getElem_cons_zero, List.getElem_cons_succ, List.setIfInBounds_toArray, List.set_cons_zero, List.set_cons_succ])
                refine wpAnyH_take (i := 6) (v := .agg #[.int .i64 x.2.1, .slice Bx qx rx]) rfl (by kernel_rfl) (by kernel_rfl) (by kernel_rfl) (fun _ _ _ h => h) (Or.inl ⟨by kernel_rfl, fun wv hSw => by (obtain ⟨hS0, hS1, hS2, hS3⟩ := hSw); go_simp⟩) (by assumption) ?_
                (try simp only [Act.put, List.getElem_toArray, List.getElem_cons_zero, List.getElem_cons_succ, List.setIfInBounds_toArray, List.set_cons_zero, List.set_cons_succ])
                refine wpAnyH_take (i := 7) (v := .slice (some ⟨b', o', none⟩) ys.length d) rfl (by kernel_rfl) (by kernel_rfl) (by kernel_rfl) (fun _ _ _ h => h) (Or.inl ⟨by kernel_rfl, fun _ _ => by go_simp⟩) (by assumption) ?_
                (try simp only [Act.put, List.getElem_toArray, List.getElem_cons_zero, List.getElem_cons_succ, List.setIfInBounds_toArray, List.set_cons_zero, List.set_cons_succ])
                refine wpAnyH_take (i := 8) (v := .int .i64 k) rfl (by kernel_rfl) (by kernel_rfl) (by kernel_rfl) (fun _ _ _ h => h) (Or.inl ⟨by kernel_rfl, fun _ _ => by go_simp⟩) (by assumption) ?_
                (try simp only [Act.put, List.getElem_toArray, List.getElem_cons_zero, List.getElem_cons_succ, List.setIfInBounds_toArray, List.set_cons_zero, List.set_cons_succ])
                refine wpAnyH_take (i := 9) (v := .pointer (some ⟨b', o' + k * 3, none⟩)) rfl (by kernel_rfl) (by kernel_rfl) (by kernel_rfl) (fun _ _ _ h => h) (Or.inl ⟨by kernel_rfl, fun _ _ => by go_simp⟩) (by assumption) ?_
                (try simp only [Act.put, List.getElem_toArray, List.getElem_cons_zero, List.getElem_cons_succ, List.setIfInBounds_toArray, List.set_cons_zero, List.set_cons_succ])
                refine wpAnyH_take (i := 10) (v := .pointer (some ⟨b', o' + k * 3 + 1, none⟩)) rfl (by kernel_rfl) (by kernel_rfl) (by kernel_rfl) (fun _ _ _ h => h) (Or.inl ⟨by kernel_rfl, fun _ _ => by go_simp⟩) (by assumption) ?_
                (try simp only [Act.put, List.getElem_toArray, List.getElem_cons_zero, List.getElem_cons_succ, List.setIfInBounds_toArray, List.set_cons_zero, List.set_cons_succ])
                refine wpAnyH_take (i := 11) (v := .agg #[.int .i64 y.2.1, .slice B q r]) rfl (by kernel_rfl) (by kernel_rfl) (by kernel_rfl) (fun _ _ _ h => h) (Or.inl ⟨by kernel_rfl, fun wv hSw => by (obtain ⟨hS0, hS1, hS2, hS3⟩ := hSw); go_simp⟩) (by assumption) ?_
                (try simp only [Act.put, List.getElem_toArray, List.getElem_cons_zero, List.getElem_cons_succ, List.setIfInBounds_toArray, List.set_cons_zero, List.set_cons_succ])
                refine wpAnyH_ready (rs := [12]) (by kernel_rfl) (by simp) ?_
                refine AllReadyH.cons rfl (fun K hK => ?_) AllReadyH.nil
                go_simp
                refine (HC _ (Below.drew Tk)).mono ?_
                rintro e' wn ⟨rfl, hbn⟩
                rw [HRV.out]
                replace Tk := below_next (Below.drew Tk) hbn rfl
                go_wp2_with fail
                refine hK.out _ _ ⟨keepc Tk cx1, keepc Tk cx2, keepc Tk cy1, keepc Tk cy2⟩ (fun hHeld1 => ?_)
                clear hK K hHeld0
                (try simp only [Act.put, List.getElem_toArray, List.getElem_cons_zero, List.getElem_cons_succ, List.setIfInBounds_toArray, List.set_cons_zero, List.set_cons_succ])
                refine wpAnyH_take (i := 13) (v := .bool rv) rfl (by kernel_rfl) (by kernel_rfl) (by kernel_rfl) (fun _ _ _ h => h) (Or.inl ⟨by kernel_rfl, fun _ _ => by go_simp⟩) (by assumption) ?_
                (try simp only [Act.put, List.getElem_toArray, List.getElem_cons_zero, List.getElem_cons_succ, List.setIfInBounds_toArray, List.set_cons_zero, List.set_cons_succ])
                refine wpAnyH_take (i := 14) (v := .bool rv) rfl (by kernel_rfl) (by kernel_rfl) (by kernel_rfl) (fun _ _ _ h => h) (Or.inl ⟨by kernel_rfl, fun _ _ => by go_simp⟩) (by assumption) ?_
                (try simp only [Act.put, List.getElem_toArray, List.getElem_cons_zero, List.getElem_cons_succ, List.setIfInBounds_toArray, List.set_cons_zero, List.set_cons_succ])
                refine wpAnyH_done (by kernel_rfl) ?_ _
                go_wp2_with fail
                go_roundw
                case rel => exact ⟨j + 1, by omega, by go_num, by rw [HTK2.out], below_next hTi Tk rfl⟩
                case measure => simp [intOf]; omega
              · have HTK2 : Hid (hasM (xs.take (j + 1)) y.2 = true) := by show _ = _; rw [HTK.out, Bool.true_or]
                go_wp2_with fail
                refine wp_region_held_drew (S := fun w' => w'.cell? ⟨b', o' + k * 3 + 1, none⟩ = some (.int .i64 y.2.1)) (by kernel_rfl) cy1 (fun hHeld0 => ?_)
                refine wpAnyH_take (i := 0) (v := .bool true) rfl (by kernel_rfl) (by kernel_rfl) (by kernel_rfl) (fun _ _ _ h => h) (Or.inl ⟨by kernel_rfl, fun _ _ => by go_simp⟩) (by assumption) ?_
                (try simp only [Act.put, List.getElem_toArray, List.getElem_cons_zero, List.getElem_cons_succ, List.setIfInBounds_toArray, List.set_cons_zero, List.set_cons_succ])
                refine wpAnyH_take (i := 1) (v := .bool true) rfl (by kernel_rfl) (by kernel_rfl) (by kernel_rfl) (fun _ _ _ h => h) (Or.inl ⟨by kernel_rfl, fun _ _ => by go_simp⟩) (by assumption) ?_
                (try simp only [Act.put, List.getElem_toArray, List.getElem_cons_zero, List.getElem_cons_succ, List.setIfInBounds_toArray, List.set_cons_zero, List.set_cons_succ])
                refine wpAnyH_take (i := 2) (v := undef) rfl (by kernel_rfl) (by kernel_rfl) (by kernel_rfl) (fun _ _ _ h => h) (Or.inr ⟨by kernel_rfl, rfl⟩) (by assumption) ?_
                (try simp only [Act.put, List.getElem_toArray, List.getElem_cons_zero, List.getElem_cons_succ, List.setIfInBounds_toArray, List.set_cons_zero, List.set_cons_succ])
                refine wpAnyH_take (i := 3) (v := undef) rfl (by kernel_rfl) (by kernel_rfl) (by kernel_rfl) (fun _ _ _ h => h) (Or.inr ⟨by kernel_rfl, rfl⟩) (by assumption) ?_
                (try simp only [Act.put, List.getElem_toArray, List.getElem_cons_zero, List.getElem_cons_succ, List.setIfInBounds_toArray, List.set_cons_zero, List.set_cons_succ])
                refine wpAnyH_take (i := 4) (v := undef) rfl (by kernel_rfl) (by kernel_rfl) (by kernel_rfl) (fun _ _ _ h => h) (Or.inr ⟨by kernel_rfl, rfl⟩) (by assumption) ?_
                (try simp only [Act.put, List.getElem_toArray, List.getElem_cons_zero, List.getElem_cons_succ, List.setIfInBounds_toArray, List.set_cons_zero, List.set_cons_succ])
                refine wpAnyH_take (i := 5) (v := undef) rfl (by kernel_rfl) (by kernel_rfl) (by kernel_rfl) (fun _ _ _ h => h) (Or.inr ⟨by kernel_rfl, rfl⟩) (by assumption) ?_
                (try simp only [Act.put, List.getElem_toArray, List.getElem_cons_zero, List.getElem_cons_succ, List.setIfInBounds_toArray, List.set_cons_zero, List.set_cons_succ])
                refine wpAnyH_take (i := 6) (v := undef) rfl (by kernel_rfl) (by kernel_rfl) (by kernel_rfl) (fun _ _ _ h => h) (Or.inr ⟨by kernel_rfl, rfl⟩) (by assumption) ?_
                (try simp only [Act.put, List.getElem_toArray, List.getElem_cons_zero, List.getElem_cons_succ, List.setIfInBounds_toArray, List.set_cons_zero, List.set_cons_succ])
                refine wpAnyH_take (i := 7) (v := undef) rfl (by kernel_rfl) (by kernel_rfl) (by kernel_rfl) (fun _ _ _ h => h) (Or.inr ⟨by kernel_rfl, rfl⟩) (by assumption) ?_
                (try simp only [Act.put, List.getElem_toArray, List.getElem_cons_zero, List.getElem_cons_succ, List.setIfInBounds_toArray, List.set_cons_zero, List.set_cons_succ])
                refine wpAnyH_take (i := 8) (v := undef) rfl (by kernel_rfl) (by kernel_rfl) (by kernel_rfl) (fun _ _ _ h => h) (Or.inr ⟨by kernel_rfl, rfl⟩) (by assumption) ?_
                (try simp only [Act.put, List.getElem_toArray, List.getElem_cons_zero, List.getElem_cons_succ, List.setIfInBounds_toArray, List.set_cons_zero, List.set_cons_succ])
                refine wpAnyH_take (i := 9) (v := undef) rfl (by kernel_rfl) (by kernel_rfl) (by kernel_rfl) (fun _ _ _ h => h) (Or.inr ⟨by kernel_rfl, rfl⟩) (by assumption) ?_
                (try simp only [Act.put, List.getElem_toArray, List.getElem_cons_zero, List.getElem_cons_succ, List.setIfInBounds_toArray, List.set_cons_zero, List.set_cons_succ])
                refine wpAnyH_take (i := 10) (v := undef) rfl (by kernel_rfl) (by kernel_rfl) (by kernel_rfl) (fun _ _ _ h => h) (Or.inr ⟨by kernel_rfl, rfl⟩) (by assumption) ?_
                (try simp only [Act.put, List.getElem_toArray, List.getElem_cons_zero, List.getElem_cons_succ, List.setIfInBounds_toArray, List.set_cons_zero, List.set_cons_succ])
                refine wpAnyH_take (i := 11) (v := undef) rfl (by kernel_rfl) (by kernel_rfl) (by kernel_rfl) (fun _ _ _ h => h) (Or.inr ⟨by kernel_rfl, rfl⟩) (by assumption) ?_
                (try simp only [Act.put, List.getElem_toArray, List.getElem_cons_zero, List.getElem_cons_succ, List.setIfInBounds_toArray, List.set_cons_zero, List.set_cons_succ])
                refine wpAnyH_take (i := 12) (v := undef) rfl (by kernel_rfl) (by kernel_rfl) (by kernel_rfl) (fun _ _ _ h => h) (Or.inr ⟨by kernel_rfl, rfl⟩) (by assumption) ?_
                (try simp only [Act.put, List.getElem_toArray, List.getElem_cons_zero, List.getElem_cons_succ, List.setIfInBounds_toArray, List.set_cons_zero, List.set_cons_succ])
                refine wpAnyH_take (i := 13) (v := .bool true) rfl (by kernel_rfl) (by kernel_rfl) (by kernel_rfl) (fun _ _ _ h => h) (Or.inl ⟨by kernel_rfl, fun _ _ => by go_simp⟩) (by assumption) ?_
                (try simp only [Act.put, List.getElem_toArray, List.getElem_cons_zero, List.getElem_cons_succ, List.setIfInBounds_toArray, List.set_cons_zero, List.set_cons_succ])
                refine wpAnyH_take (i := 14) (v := .bool true) rfl (by kernel_rfl) (by kernel_rfl) (by kernel_rfl) (fun _ _ _ h => h) (Or.inl ⟨by kernel_rfl, fun _ _ => by go_simp⟩) (by assumption) ?_
                (try simp only [Act.put, List.getElem_toArray, List.getElem_cons_zero, List.getElem_cons_succ, List.setIfInBounds_toArray, List.set_cons_zero, List.set_cons_succ])
                refine wpAnyH_done (by kernel_rfl) ?_ _
                go_wp2_with fail
                go_roundw
                case rel => exact ⟨j + 1, by omega, by go_num, by rw [HTK2.out], Below.drew hTi⟩
                case measure => simp [intOf]; omega
            · have hj1 : ¬ (j : Int) < (xs.length : Int) := by omega
              have HTE : Hid (xs.take j = xs) := List.take_of_length_le (by omega)
              have hT5 := below_next hT hTi rfl
              have hL5 := hL.next hTi
              have hry5 := shAlgebra.stab hrya hTi.block
              rw [HTE.out]
              obtain ⟨kn, HKN⟩ : ∃ kn, Hid (hasM xs y.2 = kn) := ⟨_, rfl⟩
              rw [HKN.out] at HMS ⊢
              rcases kn with _ | _
              · obtain ⟨cv, HCV⟩ : ∃ cv, Hid (catB (insM L y) = cv) := ⟨_, rfl⟩
                have hcn := cnt_small2 hsy
                have HOWN : ∀ wz, Below wr.heap.size wr wz → Calls Try.prog 61 #[.agg #[.int .i64 y.2.1, .slice B q r]] wz (AlgE wz y.2) := fun wz hz => l2Own_any [.int .i64 y.2.1, .slice B q r] y.2 wz (shAlgebra.stab hry5 hz.block) (by omega)
                have Tk : Below wr.heap.size wr wr := Below.refl _ _
                go_upto_region 13 with fail
                go_cut [10, 11] from 23 to 70 (fun u10 u11 wx => (∃ g6 c6, u10 = .slice (some ⟨g6, 0, none⟩) (insM L y).length c6 ∧ (insM L y).length ≤ c6 ∧ RdN shEntry.m shEntry.rd wx (some ⟨g6, 0, none⟩) (insM L y).length (insM L y)) ∧ u11 = .bool cv ∧ Below wr.heap.size wr wx)
                case first =>
                  go_region_held3 (fun w' => w'.cell? ⟨b', o' + k * 3, none⟩ = some (.string y.1) ∧ w'.cell? ⟨b', o' + k * 3 + 1, none⟩ = some (.int .i64 y.2.1) ∧ w'.cell? ⟨b', o' + k * 3 + 2, none⟩ = some (.slice B q r)) (first | go_keep | exact ⟨keepc Tk cy0, keepc Tk cy1, keepc Tk cy2⟩) (first
                    | (go_at_call 61; (with_reducible refine (HOWN _ ?_).mono ?_); (first | exact Tk | exact Below.drew Tk); rintro e w6 ⟨v6, css6, bls6, rfl, hP6, hb6⟩; obtain ⟨V6, d6, rfl⟩ := own_slice hP6.2.1; replace Tk := below_next (by first | exact Tk | exact Below.drew Tk) hb6 rfl)
                    | (go_at_call 52; refine (l31Put_any g 0 c' L y V6 _ d6 _ (hL5.next Tk) hLc (entR hsz (hP6.alg (a := y.2.1) hIn)) HSL.out hsy (by omega)).mono ?_; rintro e w8 ⟨g8, c8, rfl, hc8, hr8, hb8⟩; rw [HCV.out]; replace Tk := below_next Tk hb8 rfl))
                  all_goals
                    go_wp2_with fail
                    go_meet
                    exact ⟨⟨_, _, rfl, hc8, hr8⟩, rfl, Tk⟩
                case rest =>
                  obtain ⟨⟨g6, c6, rfl, hc6, hr6⟩, rfl, hTc⟩ := hcut
                  obtain ⟨w7, HWC⟩ : ∃ wq : World, wq = wc := ⟨_, rfl⟩
                  subst HWC
                  have T7 := below_next hT5 hTc rfl
                  have HL7 := Lib.hid (insM_len L y)
                  have HS7 : Hid (∀ z ∈ insM L y, SmallP z.2) := fun z hz => by
                    rcases insM_mem.1 hz with rfl | hz
                    · exact hsy
                    · exact HSL.out z hz
                  have HR7 := Lib.hid hr6
                  obtain ⟨M, HMM⟩ : ∃ M, Hid (insM L y = M) := ⟨_, rfl⟩
                  rw [HMM.out] at hc6 HR7 HS7 HL7 ⊢
                  have HMS2 : Hid (mgP xs ys = if catB (insM L y) then mgS xs (ys.drop (k + 1)) M else ([], false)) := by show _ = _; rw [HMS.out, HMM.out, if_neg (by decide)]
                  rw [HCV.out] at HMS2
                  clear hr6
                  rcases cv with _ | _
                  · have HM : Hid (mgP xs ys = ([], false)) := by show _ = _; rw [HMS2.out, if_neg (by decide)]
                    obtain ⟨bl, ho, hiv⟩ := ow_lit T7
                    have HO := Lib.hid ((Sh.rows shEntry 64).ord ho)
                    clear ho
                    go_wp2_with fail
                    go_ret2
                    rw [HM.out]
                    exact ⟨_, rfl, HO.out, below_next T7 (below_box _ _) rfl⟩
                  · go_wp2_with fail
                    go_roundw
                    case rel => exact ⟨k + 1, M, g6, c6, by omega, by go_num, rfl, hc6, by have := HL7.out; omega, HR7.out, by show _ = _; rw [HMS2.out, if_pos rfl], HS7.out, T7⟩
                    case measure => simp [intOf]; omega
              · have HM1 : Hid (mgS xs (ys.drop (k + 1)) L = mgP xs ys) := by show _ = _; rw [HMS.out, if_pos rfl]
                go_wp2_with fail
                go_roundw
                case rel => exact ⟨k + 1, L, g, c', by omega, by go_num, rfl, hLc, by omega, hL5, HM1.out, HSL.out, hT5⟩
                case measure => simp [intOf]; omega
        · have hlt' : ¬ (k : Int) < (ys.length : Int) := by omega
          have HM : Hid (mgP xs ys = (L, true)) := by show _ = _; rw [← HST.out, List.drop_eq_nil_of_le (by omega), mgS]
          have HLL := Lib.hid hL
          clear hL
          go_wp2_with fail
          go_ret2
          rw [HM.out]
          exact ⟨_, rfl, ⟨_, _, _, rfl, HLL.out⟩, hT⟩
theorem implMgv_any (v u : Value) (xs ys : List EntryM) (w : World) (h : (Sh.rows shEntry 64).rd w [v] xs) (h' : (Sh.rows shEntry 64).rd w [u] ys) (hn : (Sh.rows shEntry 64).cnt xs ≤ 1048576) (hn' : (Sh.rows shEntry 64).cnt ys ≤ 1048576) : Calls Try.prog 23 #[v, u] w (OwV (Sh.rows shEntry 64) w (mgP xs ys).1 (mgP xs ys).2) := by
  obtain ⟨A, n, c, e, r⟩ := h
  obtain ⟨D, m, d, e', r'⟩ := h'
  injection e with e _
  injection e' with e' _
  subst e
  subst e'
  exact implMg_any A D n c m d xs ys w r r' hn hn'
theorem specMgv_any (v u : Value) (xs ys : List EntryM) (w : World) (h : (Sh.rows shEntry 64).rd w [v] xs) (h' : (Sh.rows shEntry 64).rd w [u] ys) (hn : (Sh.rows shEntry 64).cnt xs ≤ 1048576) (hn' : (Sh.rows shEntry 64).cnt ys ≤ 1048576) : Calls Try.prog 22 #[v, u] w (RdV (Sh.rows shEntry 64) w (mgP xs ys).1 (mgP xs ys).2) := by
  obtain ⟨A, n, c, e, r⟩ := h
  obtain ⟨D, m, d, e', r'⟩ := h'
  injection e with e _
  injection e' with e' _
  subst e
  subst e'
  exact specMg_any A D n c m d xs ys w r r' hn hn'
end Go.Proofs.Ytbpdbimdefdefaa
