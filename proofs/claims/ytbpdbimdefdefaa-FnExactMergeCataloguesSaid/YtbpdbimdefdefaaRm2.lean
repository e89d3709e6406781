
/- Walks: RemoveEntry of the program. -/
import Derived.Test.YtbpdbimdefdefaaRm1
namespace Go.Proofs.Ytbpdbimdefdefaa
open Go.RowKit

theorem PE.move {lo : Nat} {w : World} {v : Value} {xs : List EntryM} {css : List (List Value)} {bls : List (List Nat)} (h : PE lo w v xs css bls) {c : List Value} {x : EntryM} {bk : List Nat} (ho : shEntry.own w c x bk) (hbk : bk.Nodup) (hb : ∀ b ∈ bk, lo ≤ b ∧ b < w.heap.size) (hdis : ∀ b ∈ bk, b ∉ bls.flatten)
    {w2 : World} {v' : Value} (hown : w2.ownsRow lo 64 3 v' (xs.length + 1) (css.flatten ++ c)) (hg : w.grownBy w2 v.ownBlock) : PE lo w2 v' (xs ++ [x]) (css ++ [c]) (bls ++ [bk]) := by
  have hnd := List.nodup_append.1 h.2.2.1
  have far : ∀ b, b ∈ bls.flatten → w2.heap[b]? = w.heap[b]? := fun b hb' => hg.block b (h.2.2.2 b (List.mem_append_right _ hb')).2 fun e => hnd.2.2 b (mem_obl.2 e.symm) b hb' rfl
  have far2 : ∀ b, b ∈ bk → w2.heap[b]? = w.heap[b]? := fun b hb' => hg.block b (hb b hb').2 fun e => by
    obtain ⟨cur, t, fr, hc, hne⟩ := shEntry_blk ho hb'
    obtain ⟨cur2, fr2, hc2⟩ := row_blk h.2.1 (mem_obl.2 e.symm)
    rw [hc] at hc2
    injection hc2 with hc2
    injection hc2 with _ h5
    exact hne h5
  have hl1 := h.1.l1
  have hl2 := h.1.l2
  have hP : Parts shEntry 64 w2 v' (xs ++ [x]) (css ++ [c]) (bls ++ [bk]) := by
    refine ⟨?_, by simp [hl1], by simp [hl2], fun k c' x' bk' e1 e2 e3 => ?_⟩
    · rw [List.length_append, List.flatten_append, List.flatten_singleton]
      exact own_mono hown (Nat.zero_le _)
    · by_cases hk : k < xs.length
      · rw [List.getElem?_append_left (by omega)] at e1 e2 e3
        exact shEntry.osame (h.1.el k c' x' bk' e1 e2 e3) fun b hb' => far b (List.mem_flatten.2 ⟨_, List.mem_of_getElem? e3, hb'⟩)
      · have hk2 : k = xs.length := by
          have := (List.getElem?_eq_some_iff.1 e2).1
          simp at this
          omega
        subst hk2
        rw [List.getElem?_append_right (by omega)] at e1 e2 e3
        simp [hl1, hl2] at e1 e2 e3
        subst e1
        subst e2
        subst e3
        exact shEntry.osame ho far2
  refine ⟨hP, by rw [List.length_append, List.flatten_append]; simpa using hown, ?_⟩
  rw [List.flatten_append]
  have hz : w.heap.size ≤ w2.heap.size := hg.size
  refine ⟨?_, fun b hb' => ?_⟩
  · rw [List.nodup_append]
    refine ⟨obl_nd _, ?_, fun a ha b hb' e => ?_⟩
    · rw [List.nodup_append]
      refine ⟨hnd.2.1, by simpa using hbk, fun a ha b hb' e => ?_⟩
      simp at hb'
      subst e
      exact hdis a hb' ha
    · subst e
      obtain ⟨cur, fr, hc⟩ := row_blk hown ha
      have hb2 : a ∈ (bls ++ [bk]).flatten := by rw [List.flatten_append]; exact hb'
      obtain ⟨bq, hbq, hab⟩ := List.mem_flatten.1 hb2
      obtain ⟨k, hk⟩ := List.getElem?_of_mem hbq
      have hkl := (List.getElem?_eq_some_iff.1 hk).1
      have e1 := hP.l1
      have e2 := hP.l2
      have ho2 := hP.el k _ _ bq (List.getElem?_eq_getElem (by omega)) (List.getElem?_eq_getElem (by omega)) hk
      obtain ⟨cur2, t2, fr2, hc2, hne⟩ := shEntry_blk ho2 hab
      rw [hc] at hc2
      injection hc2 with hc2
      injection hc2 with _ h5
      exact absurd h5.symm hne
  · rcases List.mem_append.1 hb' with hb' | hb'
    · exact hown.lt b (mem_obl.1 hb')
    · rcases List.mem_append.1 hb' with hb' | hb'
      · have := h.2.2.2 b (List.mem_append_right _ hb')
        omega
      · have := hb b (by simpa using hb')
        omega

/-! ## The model -/
noncomputable def rmL (s : ByteArray) (xs : List EntryM) : List EntryM := xs.filter fun e => !eqC e.1 s
noncomputable def rmP (xs : List EntryM) (s : ByteArray) : List EntryM × Bool := if catB xs && hasS s (xs.map (·.1)) then (rmL s xs, true) else ([], false)
theorem rmL_snoc (s : ByteArray) (l : List EntryM) (e : EntryM) : rmL s (l ++ [e]) = if eqC e.1 s then rmL s l else rmL s l ++ [e] := by
  unfold rmL
  rw [List.filter_append]
  rcases h : eqC e.1 s with _ | _
  · simp [h]
  · simp [h]
theorem rmL_len (s : ByteArray) : ∀ xs : List EntryM, (rmL s xs).length ≤ xs.length ∧ ((rmL s xs).length = xs.length ↔ hasS s (xs.map (·.1)) = false)
  | [] => ⟨Nat.le_refl _, by simp [rmL, hasS]⟩
  | e :: l => by
    have ih := rmL_len s l
    have hs : hasS s ((e :: l).map (·.1)) = (eqC e.1 s || hasS s (l.map (·.1))) := by simp [hasS]
    rw [hs]
    unfold rmL at *
    rcases h : eqC e.1 s with _ | _
    · rw [List.filter_cons, h]
      simp only [Bool.not_false, if_true, List.length_cons, Bool.false_or]
      exact ⟨by omega, by rw [← ih.2]; omega⟩
    · rw [List.filter_cons, h]
      simp only [Bool.not_true, Bool.false_eq_true, if_false, List.length_cons, Bool.true_or]
      exact ⟨by omega, by constructor; · intro hh; omega
                          · intro hh; cases hh⟩
theorem rm_no1 {xs : List EntryM} {s : ByteArray} (h : catB xs = false) : rmP xs s = ([], false) := by unfold rmP; rw [h]; rfl
theorem rm_no2 {xs : List EntryM} {s : ByteArray} (h : hasS s (xs.map (·.1)) = false) : rmP xs s = ([], false) := by unfold rmP; rw [h, Bool.and_false]; rfl
theorem rm_yes {xs : List EntryM} {s : ByteArray} (h1 : catB xs = true) (h2 : hasS s (xs.map (·.1)) = true) : rmP xs s = (rmL s xs, true) := by unfold rmP; rw [h1, h2]; rfl
theorem ow_lit {w w1 : World} (h : Below w.heap.size w w1) : ∃ bl, (Sh.rows shEntry 64).own (w1.alloc (.cells #[] 64)) [.slice (some ⟨w1.heap.size, 0, none⟩) 0 0] [] bl ∧ Iv w.heap.size (w1.alloc (.cells #[] 64)).heap.size bl := by
  have hP := PE.lit (lo := w.heap.size) (w := w1) h.size
  exact ⟨_, hP.own, hP.2.2⟩
theorem nd_two {bls : List (List Nat)} (h : bls.flatten.Nodup) {j k : Nat} {bq bk : List Nat} (hj : bls[j]? = some bq) (hk : bls[k]? = some bk) (hne : j ≠ k) {b : Nat} (h1 : b ∈ bq) (h2 : b ∈ bk) : False := by
  rw [List.nodup_iff_pairwise_ne, List.pairwise_flatten] at h
  obtain ⟨hj1, hj2⟩ := List.getElem?_eq_some_iff.1 hj
  obtain ⟨hk1, hk2⟩ := List.getElem?_eq_some_iff.1 hk
  have hp := List.pairwise_iff_getElem.1 h.2
  rcases Nat.lt_or_ge j k with hl | hl
  · exact hp j k hj1 hk1 hl b (hj2 ▸ h1) b (hk2 ▸ h2) rfl
  · exact hp k j hk1 hj1 (by omega) b (hk2 ▸ h2) b (hj2 ▸ h1) rfl
set_option maxRecDepth 100000 in
set_option maxHeartbeats 8000000 in
theorem implRm_any (A : Option Addr) (n c : Nat) (xs : List EntryM) (s : ByteArray) (w : World) (h : RdN shEntry.m shEntry.rd w A n xs) (hn : xs.length + cntS shEntry.cnt xs ≤ 1048576) :
    Calls Try.prog 12 #[.slice A n c, .string s] w (OwV (Sh.rows shEntry 64) w (rmP xs s).1 (rmP xs s).2) := by
  have hle := h.le
  obtain rfl : xs.length = n := h.len
  obtain ⟨r1, HR1⟩ : ∃ r, Hid (catB xs = r) := ⟨_, rfl⟩
  have hlx : xs.length ≤ 1048576 := by omega
  rcases r1 with _ | _
  · have HM := Lib.hid (rm_no1 (s := s) HR1.out)
    rw [HM.out]
    go_enter Try.func12, Try.ntmps12
    go_wp2_with fail
    refine (isCat_any _ _ _ xs _ h).mono ?_
    rintro e w1 ⟨rfl, hb1⟩
    rw [HR1.out]
    obtain ⟨bl, ho, hiv⟩ := ow_lit hb1
    have HO := Lib.hid ho
    clear ho
    go_wp2_with fail
    go_ret2
    exact ⟨_, bl, rfl, HO.out, hiv, below_next hb1 (below_box _ _) rfl⟩
  · go_enter Try.func12, Try.ntmps12
    go_wp2_with fail
    refine (isCat_any _ _ _ xs _ h).mono ?_
    rintro e w1 ⟨rfl, hb1⟩
    rw [HR1.out]
    have hT2 := below_next hb1 (below_box w1 (.cells #[] 64)) rfl
    have hL0 : PE w.heap.size (w1.alloc (.cells #[] 64)) (.slice (some ⟨w1.heap.size, 0, none⟩) 0 0) [] [] [] := PE.lit hb1.size
    obtain ⟨w2, HW2⟩ : ∃ w2, Hid (w2 = w1.alloc (.cells #[] 64)) := ⟨_, rfl⟩
    have hz2 : w2.heap.size = w1.heap.size + 1 := by rw [HW2.out]; simp
    rw [← HW2.out] at hT2 hL0
    have HCL := Lib.hid (cloneEntries_any A xs.length c xs w2 (h.next hT2) hn)
    go_wp2_with fail
    rw [← HW2.out]
    refine HCL.out.mono ?_
    rintro e w3 ⟨vc, ccss, cbls, rfl, hC, hb3⟩
    obtain ⟨Ac, cc, rfl⟩ := own_slice hC.2.1
    have hT3 := below_next hT2 hb3 rfl
    have hL3 := hL0.next hb3
    have hdis0 : ∀ b, (Value.slice (some ⟨w1.heap.size, 0, none⟩) 0 0).ownBlock = some b → b ∉ obl (.slice Ac xs.length cc) ++ cbls.flatten := fun b hb hm => by
      have h1 := (hC.2.2.2 b hm).1
      have h2 : w1.heap.size = b := by simpa [Value.ownBlock] using hb
      omega
    clear hL0 HCL hb3
    go_wp2_with fail
    go_loopw [6, 17] (fun v i wr => ∃ (k : Nat) (css : List (List Value)) (bls : List (List Nat)), k ≤ xs.length ∧ i = .int .i64 k ∧ PE w.heap.size wr v (rmL s (xs.take k)) css bls ∧ PE w2.heap.size wr (.slice Ac xs.length cc) xs ccss cbls ∧ (∀ b, v.ownBlock = some b → b ∉ obl (.slice Ac xs.length cc) ++ cbls.flatten) ∧ (∀ b ∈ bls.flatten, ∃ j bk, j < k ∧ cbls[j]? = some bk ∧ b ∈ bk) ∧ Below w.heap.size w wr) (fun _ i _ => xs.length - (intOf i).toNat)
    case atStart => exact ⟨0, [], [], Nat.zero_le _, rfl, hL3, hC, hdis0, fun b hb => by simp at hb, hT3⟩
    case round =>
      clear hL3 hC hdis0 hT3
      obtain ⟨k, css, bls, hk, rfl, hL, hC, hdis, hsub, hT⟩ := hrel
      by_cases hlt : k < xs.length
      · have hk0 : (0 : Int) ≤ (k : Int) := by omega
        have hk1 : (k : Int) < (xs.length : Int) := by omega
        have hl1 := hC.1.l1
        have hl2 := hC.1.l2
        have hy : xs[k]? = some (xs[k]'hlt) := List.getElem?_eq_getElem hlt
        generalize xs[k]'hlt = y at hy
        have hcj : ccss[k]? = some (ccss[k]'(by omega)) := List.getElem?_eq_getElem (by omega)
        have hbj : cbls[k]? = some (cbls[k]'(by omega)) := List.getElem?_eq_getElem (by omega)
        generalize ccss[k]'(by omega) = cj at hcj
        generalize cbls[k]'(by omega) = bk at hbj
        have ho := hC.1.el k cj y bk hcj hy hbj
        obtain ⟨B, m, d, rfl, hsz, hIn, hops⟩ := rdEntry (shEntry.ord ho)
        obtain ⟨g, cap, hv⟩ := hC.1.slice hlt
        injection hv with hA _ hcc
        subst hA
        subst hcc
        have cc0 : wr.cell? ⟨g, k * 3, none⟩ = some (.string y.1) := hC.1.cell rfl hcj (i := 0) rfl
        have cc1 : wr.cell? ⟨g, k * 3 + 1, none⟩ = some (.int .i64 y.2.1) := hC.1.cell rfl hcj (i := 1) rfl
        have cc2 : wr.cell? ⟨g, k * 3 + 2, none⟩ = some (.slice B m d) := hC.1.cell rfl hcj (i := 2) rfl
        have HTS : Hid (xs.take (k + 1) = xs.take k ++ [y]) := take_snoc hy
        obtain ⟨L, HL⟩ : ∃ L, Hid (rmL s (xs.take k) = L) := ⟨_, rfl⟩
        have hLl : L.length ≤ 1048576 := by
          rw [← HL.out]
          have := (rmL_len s (xs.take k)).1
          have h2 : (xs.take k).length ≤ xs.length := by rw [List.length_take]; omega
          omega
        rw [HL.out] at hL
        obtain ⟨A', c', rfl⟩ := own_slice hL.2.1
        obtain ⟨wb, HWB⟩ : ∃ wb, Hid (wb = wr.alloc (.cells #[.string y.1, .int .i64 y.2.1, .slice B m d] 64)) := ⟨_, rfl⟩
        have hbb : Below wr.heap.size wr wb := by rw [HWB.out]; exact below_box _ _
        have BN : Blk wb wr.heap.size 64 #[.string y.1, .int .i64 y.2.1, .slice B m d] := by rw [HWB.out]; exact Blk.new _ _ _
        have Tb := below_next hT hbb rfl
        have hLb := hL.next hbb
        have hCb := hC.next hbb
        have hob := Sh.onext ho hbb
        have hndC := hC.2.2.1
        have hbkn : bk.Nodup := nd_el hndC hbj
        have hbkl : ∀ b ∈ bk, w.heap.size ≤ b ∧ b < wb.heap.size := fun b hb => by
          have := hC.2.2.2 b (List.mem_append_right _ (List.mem_flatten.2 ⟨bk, List.mem_of_getElem? hbj, hb⟩))
          have h2 := hT2.size
          have h3 := hbb.size
          omega
        have hbkd : ∀ b ∈ bk, b ∉ bls.flatten := fun b hb hm => by
          obtain ⟨j, bq, hjk, hbq, hbm⟩ := hsub b hm
          exact nd_two (List.nodup_append.1 hndC).2.1 hbq hbj (by omega) hbm hb
        have cN0 := BN.cell 0
        have cN1 := BN.cell 1
        have cN2 := BN.cell 2
        simp at cN0 cN1 cN2
        have hsub2 : ∀ b ∈ bls.flatten, ∃ j bk, j < k + 1 ∧ cbls[j]? = some bk ∧ b ∈ bk := fun b hb => by
          obtain ⟨j, bq, h1, h2, h3⟩ := hsub b hb
          exact ⟨j, bq, by omega, h2, h3⟩
        have HSUB := Lib.hid hsub2
        have HBJ := Lib.hid hbj
        have HD := Lib.hid hdis
        have HCb := Lib.hid hCb
        clear hsub hsub2 hdis hndC hcj hbj hy ho hops
        obtain ⟨sv, HSV⟩ : ∃ b, Hid (eqC y.1 s = b) := ⟨_, rfl⟩
        have hst := eqq_str HSV.out
        have hsn : (y.1.toList != s.toList) = !sv := by rw [bne, hst]
        rcases sv with _ | _
        · have HRM : Hid (rmL s (xs.take (k + 1)) = L ++ [y]) := by show _ = _; rw [HTS.out, rmL_snoc, HSV.out, HL.out]; rfl
          have hvs := hLb.2.1
          have hzb := Tb.size
          go_upto_region 7 with fail
          rw [← HWB.out]
          clear cc0 cc1 cc2
          go_wp2_with (at_builtin; refine app3at wb rfl _ _ 24 64 rfl (.agg #[.string ⟨#[]⟩, .int .i64 0, .slice none 0 0]) 48 Try.underlying24 info_entry3 rfl (by decide) w.heap.size L.length c' A' css.flatten rfl hvs (.string y.1) (.int .i64 y.2.1) (.slice B m d) rfl rfl rfl rfl (by omega) hzb ?_; intro A2 c2 w5 hown5 hg5 hb5 hat)
          have hM := hLb.move hob hbkn hbkl hbkd hown5 hg5
          have hC5 : PE w2.heap.size w5 (.slice (some ⟨g, 0, none⟩) xs.length cc) xs ccss cbls := HCb.out.same hg5.size fun b hb => hg5.block b (HCb.out.2.2.2 b hb).2 fun e => HD.out b e.symm hb
          have hd5 : ∀ b, (Value.slice A2 (L.length + 1) c2).ownBlock = some b → b ∉ obl (.slice (some ⟨g, 0, none⟩) xs.length cc) ++ cbls.flatten := fun b hb hm => by
            rcases hat with e | e
            · rw [e] at hb
              exact HD.out b hb hm
            · rw [e] at hb
              injection hb with hb
              have := (HCb.out.2.2.2 b hm).2
              omega
          have HFIN := Lib.hid (And.intro hM (And.intro hC5 (And.intro hd5 (Tb.trans hb5))))
          clear hM hC5 hd5 hown5 hg5 hb5 hat
          go_roundw
          case rel =>
            refine ⟨k + 1, _, _, by omega, by go_num, by rw [HRM.out]; exact HFIN.out.1, by first | exact HFIN.out.2.1 | (rw [← hz2]; exact HFIN.out.2.1), HFIN.out.2.2.1, fun b hb => ?_, HFIN.out.2.2.2⟩
            rw [List.flatten_append, List.mem_append] at hb
            rcases hb with hb | hb
            · exact HSUB.out b hb
            · exact ⟨k, bk, by omega, HBJ.out, by simpa using hb⟩
          case measure => simp [intOf]; omega
        · have HRM : Hid (rmL s (xs.take (k + 1)) = L) := by show _ = _; rw [HTS.out, rmL_snoc, HSV.out, HL.out]; rfl
          have HLb := Lib.hid hLb
          go_upto_region 7 with fail
          rw [← HWB.out]
          clear cc0 cc1 cc2 hLb
          go_wp2_with fail
          go_roundw
          case rel => exact ⟨k + 1, css, bls, by omega, by go_num, by rw [HRM.out]; exact HLb.out, HCb.out, HD.out, HSUB.out, Tb⟩
          case measure => simp [intOf]; omega
      · have hlt' : ¬ (k : Int) < (xs.length : Int) := by omega
        have HE : Hid (xs.take k = xs) := List.take_of_length_le (by omega)
        rw [HE.out] at hL
        have hll := rmL_len s xs
        obtain ⟨L, HL⟩ : ∃ L, Hid (rmL s xs = L) := ⟨_, rfl⟩
        rw [HL.out] at hL hll
        obtain ⟨A', c', rfl⟩ := own_slice hL.2.1
        have HLL := Lib.hid hL
        clear hC hdis hsub hL
        by_cases he : L.length = xs.length
        · have HM := Lib.hid (rm_no2 (xs := xs) (hll.2.1 he))
          rw [HM.out]
          have hc1 : ((L.length : Int) == (xs.length : Int)) = true := by simp; omega
          obtain ⟨bl, ho, hiv⟩ := ow_lit hT
          have HO := Lib.hid ho
          clear ho hll he
          go_wp2_with fail
          go_ret2
          rw [HM.out]
          exact ⟨_, bl, rfl, HO.out, hiv, below_next hT (below_box _ _) rfl⟩
        · have hh : hasS s (xs.map (·.1)) = true := by
            cases hq : hasS s (xs.map (·.1)) with
            | true => rfl
            | false => exact absurd (hll.2.2 hq) he
          have HM := Lib.hid (rm_yes HR1.out hh)
          rw [HM.out, HL.out]
          have hc1 : ((L.length : Int) == (xs.length : Int)) = false := by simp; omega
          clear hh hll he
          go_wp2_with fail
          go_ret2
          rw [HM.out, HL.out]
          exact ⟨_, _, rfl, HLL.out.own, HLL.out.2.2, hT⟩
end Go.Proofs.Ytbpdbimdefdefaa
