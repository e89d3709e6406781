
/- Walks: MergeCatalogues of the program. -/
import Derived.Test.YtbpdbimdefdefaaMrgP
import Derived.Test.YtbpdbimdefdefaaAddI
namespace Go.Proofs.Ytbpdbimdefdefaa
open Go.RowKit

theorem mgI_snoc : ∀ (l L : List EntryM) (y : EntryM), mgI (l ++ [y]) L = wiM (mgI l L) y
  | [], _, _ => rfl
  | x :: l, L, y => mgI_snoc l (wiM L x) y
theorem wiM_mem {L : List EntryM} {e z : EntryM} (h : z ∈ wiM L e) : z = e ∨ z ∈ L := by
  unfold wiM at h
  split at h
  · exact .inr h
  · exact insM_mem.1 h
theorem wiM_len (L : List EntryM) (e : EntryM) : (wiM L e).length ≤ L.length + 1 := by
  unfold wiM
  split
  · omega
  · rw [insM_len]; exact Nat.le_refl _
theorem mgI_mem : ∀ {l L : List EntryM} {z : EntryM}, z ∈ mgI l L → z ∈ l ∨ z ∈ L
  | [], _, _, h => .inr h
  | y :: l, L, z, h => by
    rcases mgI_mem (l := l) h with h | h
    · exact .inl (List.mem_cons_of_mem _ h)
    · rcases wiM_mem h with rfl | h
      · exact .inl (List.mem_cons_self ..)
      · exact .inr h
theorem mgI_len : ∀ (l L : List EntryM), (mgI l L).length ≤ L.length + l.length
  | [], _ => Nat.le_refl _
  | y :: l, L => by
    have h1 := mgI_len l (wiM L y)
    have h2 := wiM_len L y
    rw [List.length_cons]
    show (mgI l (wiM L y)).length ≤ _
    omega
theorem wi_pos {L : List EntryM} {e : EntryM} : 0 < (wiM L e).length := by
  unfold wiM
  split
  · rename_i h
    obtain ⟨x, hx, -⟩ := dup_mem h
    exact List.length_pos_of_mem hx
  · rw [insM_len]; omega
set_option maxRecDepth 100000 in
set_option maxHeartbeats 8000000 in
theorem implMg_any (A D : Option Addr) (n c m d : Nat) (xs ys : List EntryM) (w : World) (h : RdN shEntry.m shEntry.rd w A n xs) (h' : RdN shEntry.m shEntry.rd w D m ys) (hn : xs.length + cntS shEntry.cnt xs ≤ 1048576) (hn' : ys.length + cntS shEntry.cnt ys ≤ 1048576) :
    Calls Try.prog 23 #[.slice A n c, .slice D m d] w (OwV (Sh.rows shEntry 64) w (mgP xs ys).1 (mgP xs ys).2) := by
  have hle := h.le
  have hle' := h'.le
  obtain rfl : xs.length = n := h.len
  obtain rfl : ys.length = m := h'.len
  obtain ⟨r1, HR1⟩ : ∃ r, Hid (catB xs = r) := ⟨_, rfl⟩
  rcases r1 with _ | _
  · have HM := Lib.hid (mg_no1 (ys := ys) HR1.out)
    rw [HM.out]
    go_enter Try.func23, Try.ntmps23
    go_wp2_with fail
    refine (isCat_any _ _ _ xs _ h).mono ?_
    rintro e w1 ⟨rfl, hb1⟩
    rw [HR1.out]
    obtain ⟨bl, ho, hiv⟩ := ow_lit hb1
    have HO := Lib.hid ho
    clear ho
    go_wp2_with fail
    go_ret2
    exact ⟨_, bl, rfl, HO.out, hiv, below_next hb1 (below_box _ _) rfl⟩
  · obtain ⟨r2, HR2⟩ : ∃ r, Hid (catB ys = r) := ⟨_, rfl⟩
    rcases r2 with _ | _
    · have HM := Lib.hid (mg_no2 (xs := xs) HR2.out)
      rw [HM.out]
      go_enter Try.func23, Try.ntmps23
      go_wp2_with fail
      refine (isCat_any _ _ _ xs _ h).mono ?_
      rintro e w1 ⟨rfl, hb1⟩
      rw [HR1.out]
      go_wp2_with fail
      refine (isCat_any _ _ _ ys _ (h'.next hb1)).mono ?_
      rintro e w2 ⟨rfl, hb2⟩
      rw [HR2.out]
      have T2 := below_next hb1 hb2 rfl
      obtain ⟨bl, ho, hiv⟩ := ow_lit T2
      have HO := Lib.hid ho
      clear ho
      go_wp2_with fail
      go_ret2
      exact ⟨_, bl, rfl, HO.out, hiv, below_next T2 (below_box _ _) rfl⟩
    · have hx12 := (cat_two HR1.out).1
      have hy12 := (cat_two HR2.out).1
      have HSX : Hid (∀ x ∈ xs, SmallP x.2) := fun x hx => cat_small HR1.out hx
      have HSY : Hid (∀ x ∈ ys, SmallP x.2) := fun x hx => cat_small HR2.out hx
      go_enter Try.func23, Try.ntmps23
      go_wp2_with fail
      refine (isCat_any _ _ _ xs _ h).mono ?_
      rintro e w1 ⟨rfl, hb1⟩
      rw [HR1.out]
      go_wp2_with fail
      refine (isCat_any _ _ _ ys _ (h'.next hb1)).mono ?_
      rintro e w2 ⟨rfl, hb2⟩
      rw [HR2.out]
      have T2 := below_next hb1 hb2 rfl
      have HCX := Lib.hid (cloneEntriesN_any A xs.length c xs w2 (h.next T2) hn)
      go_wp2_with fail
      refine HCX.out.mono ?_
      rintro e w3 ⟨g3, n3, c3, css3, bls3, rfl, hP3, hb3⟩
      obtain ⟨rfl, -⟩ := hP3.ln
      have T3 := below_next T2 hb3 rfl
      have hP3' := hP3.mono T2.size
      have HCY := Lib.hid (cloneEntriesN_any D ys.length d ys w3 (h'.next T3) hn')
      clear hP3 HCX
      go_wp2_with fail
      refine HCY.out.mono ?_
      rintro e w4 ⟨g4, n4, c4, ccss, cbls, rfl, hC, hb4⟩
      obtain ⟨rfl, -⟩ := hC.ln
      have T4 := below_next T3 hb4 rfl
      have hL4 := hP3'.next hb4
      have hsub0 : ∀ b ∈ bls3.flatten, b < w3.heap.size ∨ ∃ j bk, j < 0 ∧ cbls[j]? = some bk ∧ b ∈ bk := fun b hb => .inl (hP3'.2.2.2 b (List.mem_append_right _ hb)).2
      have hz3 := T3.size
      clear hP3' HCY
      go_wp2_with fail
      go_loopw [6, 23] (fun v i wr => ∃ (k : Nat) (css : List (List Value)) (bls : List (List Nat)), k ≤ ys.length ∧ i = .int .i64 k ∧ (∃ g n c, v = .slice (some ⟨g, 0, none⟩) n c) ∧ PE w.heap.size wr v (mgI (ys.take k) xs) css bls ∧ PE w3.heap.size wr (.slice (some ⟨g4, 0, none⟩) ys.length c4) ys ccss cbls ∧ (∀ b ∈ bls.flatten, b < w3.heap.size ∨ ∃ j bk, j < k ∧ cbls[j]? = some bk ∧ b ∈ bk) ∧ Below w.heap.size w wr) (fun _ i _ => ys.length - (intOf i).toNat)
      case atStart => exact ⟨0, css3, bls3, Nat.zero_le _, rfl, ⟨_, _, _, rfl⟩, hL4, hC, hsub0, T4⟩
      case round =>
        clear hL4 hC hsub0 T4 hb4
        obtain ⟨k, css, bls, hk, rfl, ⟨g, nn, c', rfl⟩, hL, hC, hsub, hT⟩ := hrel
        obtain ⟨hnn, -⟩ := hL.ln
        by_cases hlt : k < ys.length
        · have hk0 : (0 : Int) ≤ (k : Int) := by omega
          have hk1 : (k : Int) < (ys.length : Int) := by omega
          have hl1 := hC.1.l1
          have hl2 := hC.1.l2
          have hy : ys[k]? = some (ys[k]'hlt) := List.getElem?_eq_getElem hlt
          generalize ys[k]'hlt = y at hy
          have hcj : ccss[k]? = some (ccss[k]'(by omega)) := List.getElem?_eq_getElem (by omega)
          have hbj : cbls[k]? = some (cbls[k]'(by omega)) := List.getElem?_eq_getElem (by omega)
          generalize ccss[k]'(by omega) = cj at hcj
          generalize cbls[k]'(by omega) = bk at hbj
          have ho := hC.1.el k cj y bk hcj hy hbj
          obtain ⟨B, q, r, rfl, hsz, hIn, hops⟩ := rdEntry (shEntry.ord ho)
          have cc0 : wr.cell? ⟨g4, k * 3, none⟩ = some (.string y.1) := hC.1.cell rfl hcj (i := 0) rfl
          have cc1 : wr.cell? ⟨g4, k * 3 + 1, none⟩ = some (.int .i64 y.2.1) := hC.1.cell rfl hcj (i := 1) rfl
          have cc2 : wr.cell? ⟨g4, k * 3 + 2, none⟩ = some (.slice B q r) := hC.1.cell rfl hcj (i := 2) rfl
          have HTS : Hid (mgI (ys.take (k + 1)) xs = wiM (mgI (ys.take k) xs) y) := by show _ = _; rw [take_snoc hy, mgI_snoc]
          have hlen := mgI_len (ys.take k) xs
          have hlt2 : (ys.take k).length ≤ ys.length := by rw [List.length_take]; omega
          have HSL : Hid (∀ z ∈ mgI (ys.take k) xs, SmallP z.2) := fun z hz => by
            rcases mgI_mem hz with hz | hz
            · exact HSY.out z (List.mem_of_mem_take hz)
            · exact HSX.out z hz
          have hsy := HSY.out y (List.mem_of_getElem? hy)
          obtain ⟨L, HL⟩ : ∃ L, Hid (mgI (ys.take k) xs = L) := ⟨_, rfl⟩
          rw [HL.out] at hL hnn hlen HSL HTS
          obtain ⟨wb, HWB⟩ : ∃ wb, Hid (wb = wr.alloc (.cells #[.string y.1, .int .i64 y.2.1, .slice B q r] 64)) := ⟨_, rfl⟩
          have hbb : Below wr.heap.size wr wb := by rw [HWB.out]; exact below_box _ _
          have BN : Blk wb wr.heap.size 64 #[.string y.1, .int .i64 y.2.1, .slice B q r] := by rw [HWB.out]; exact Blk.new _ _ _
          have Tb := below_next hT hbb rfl
          have hLb := hL.next hbb
          have hCb := hC.next hbb
          have hob := Sh.onext ho hbb
          have hndC := hC.2.2.1
          have hbkn : bk.Nodup := nd_el hndC hbj
          have hbkl : ∀ b ∈ bk, w3.heap.size ≤ b ∧ b < wb.heap.size := fun b hb => by
            have := hC.2.2.2 b (List.mem_append_right _ (List.mem_flatten.2 ⟨bk, List.mem_of_getElem? hbj, hb⟩))
            have h3 := hbb.size
            omega
          have hbkd : ∀ b ∈ bk, b ∉ bls.flatten := fun b hb hm => by
            rcases hsub b hm with h9 | ⟨j, bq, hjk, hbq, hbm⟩
            · have := (hbkl b hb).1; omega
            · exact nd_two (List.nodup_append.1 hndC).2.1 hbq hbj (by omega) hbm hb
          subst hnn
          have HWI := Lib.hid (withEntry_some w.heap.size g c' L css bls y B q r bk wb hLb hob hbkn (fun b hb => by have := hbkl b hb; omega) hbkd Tb.size HSL.out hsy (by omega))
          have cN0 := BN.cell 0
          have cN1 := BN.cell 1
          have cN2 := BN.cell 2
          simp at cN0 cN1 cN2
          have HSUB := Lib.hid hsub
          have HBJ := Lib.hid hbj
          have HCb := Lib.hid hCb
          clear hsub hndC hcj hbj hy ho hops hLb hL hC hCb hob hbkd hbkl hbkn
          go_upto_region 7 with fail
          rw [← HWB.out]
          clear cc0 cc1 cc2
          go_wp2_with fail
          refine HWI.out.mono ?_
          rintro e w5 ⟨A5, n5, c5, css5, bls5, rfl, hP5, hb5, hs5⟩
          have T5 := below_next Tb hb5 rfl
          have hP5' : PE w.heap.size w5 (.slice A5 n5 c5) (wiM L y) css5 bls5 := hP5
          obtain ⟨g5, n5', c5', e5⟩ := hP5'.nn wi_pos
          have HP5 := Lib.hid hP5'
          have HC5 := Lib.hid (HCb.out.next hb5)
          have HS5 := Lib.hid hs5
          injection e5 with e51 e52 e53
          subst e51
          subst e52
          subst e53
          clear hP5 hP5' hs5
          go_wp2_with fail
          go_roundw
          case rel =>
            refine ⟨k + 1, css5, bls5, by omega, by go_num, ⟨_, _, _, rfl⟩, by rw [HTS.out]; exact HP5.out, HC5.out, fun b hb => ?_, T5⟩
            rcases HS5.out b hb with h9 | h9
            · rcases HSUB.out b h9 with h8 | ⟨j, bq, h1, h2, h3⟩
              · exact .inl h8
              · exact .inr ⟨j, bq, by omega, h2, h3⟩
            · exact .inr ⟨k, bk, by omega, HBJ.out, h9⟩
          case measure => simp [intOf]; omega
        · have hlt' : ¬ (k : Int) < (ys.length : Int) := by omega
          have HE : Hid (ys.take k = ys) := List.take_of_length_le (by omega)
          rw [HE.out] at hL
          have HLL := Lib.hid hL
          have HRD := Lib.hid hL.rdN
          obtain ⟨r4, HR4⟩ : ∃ r, Hid (catB (mgI ys xs) = r) := ⟨_, rfl⟩
          clear hC hsub hL hnn
          rcases r4 with _ | _
          · have HM := Lib.hid (mg_no3 HR4.out)
            go_wp2_with fail
            refine (isCat_any _ _ _ _ _ HRD.out).mono ?_
            rintro e w8 ⟨rfl, hb8⟩
            rw [HR4.out]
            have T8 := below_next hT hb8 rfl
            obtain ⟨bl, ho, hiv⟩ := ow_lit T8
            have HO := Lib.hid ho
            clear ho
            go_wp2_with fail
            go_ret2
            rw [HM.out]
            exact ⟨_, bl, rfl, HO.out, hiv, below_next T8 (below_box _ _) rfl⟩
          · have HM := Lib.hid (mg_yes HR1.out HR2.out HR4.out)
            go_wp2_with fail
            refine (isCat_any _ _ _ _ _ HRD.out).mono ?_
            rintro e w8 ⟨rfl, hb8⟩
            rw [HR4.out]
            have T8 := below_next hT hb8 rfl
            have HP8 := Lib.hid (HLL.out.next hb8)
            go_wp2_with fail
            go_ret2
            rw [HM.out]
            exact ⟨_, _, rfl, HP8.out.own, HP8.out.2.2, T8⟩
end Go.Proofs.Ytbpdbimdefdefaa
