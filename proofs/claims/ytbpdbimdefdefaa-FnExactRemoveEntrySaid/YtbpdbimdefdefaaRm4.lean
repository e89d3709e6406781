
/- Walks: RemoveEntry of the reference. -/
import Derived.Test.YtbpdbimdefdefaaRm3
namespace Go.Proofs.Ytbpdbimdefdefaa
open Go.RowKit

theorem rm_read {wr w6 : World} {base k c6 : Nat} {A6 : Option Addr} {css : List (List Value)} {xs : List EntryM} (hcl : css.length = xs.length) (hk : k < xs.length) (hall : ∀ c ∈ css, c.length = 3)
    (hrd : ∀ (k : Nat) cs x, css[k]? = some cs → xs[k]? = some x → shEntry.rd wr cs x) (hT : Below wr.heap.size wr w6)
    (hown : w6.ownsRow base 64 3 (.slice A6 (k + (xs.length - (k + 1))) c6) (k + (xs.length - (k + 1))) (((css.drop 0).take k).flatten ++ ((css.drop (k + 1)).take (xs.length - (k + 1))).flatten)) :
    RdN shEntry.m shEntry.rd w6 A6 (k + (xs.length - (k + 1))) (xs.take k ++ xs.drop (k + 1)) := by
  have e : ((css.drop 0).take k).flatten ++ ((css.drop (k + 1)).take (xs.length - (k + 1))).flatten = (css.take k ++ css.drop (k + 1)).flatten := by
    rw [List.flatten_append, List.drop_zero, List.take_of_length_le (l := css.drop (k + 1)) (by rw [List.length_drop, hcl]; omega)]
  rw [e] at hown
  refine rdE_of_rows hown (fun c hc => ?_) ?_ ?_ fun j cs x h1 h2 => shEntry.stab (cut_rd hrd k j cs x h1 h2) hT.block
  · rcases List.mem_append.1 hc with hc | hc
    · exact hall c (List.mem_of_mem_take hc)
    · exact hall c (List.mem_of_mem_drop hc)
  · rw [List.length_append, List.length_take, List.length_drop, hcl]; omega
  · rw [List.length_append, List.length_take, List.length_drop]; omega
set_option linter.unusedVariables false in
set_option maxRecDepth 100000 in
set_option maxHeartbeats 8000000 in
theorem specRm_any (A : Option Addr) (n c : Nat) (xs : List EntryM) (s : ByteArray) (w : World) (h : RdN shEntry.m shEntry.rd w A n xs) (hs : s.size ≤ maxLen) (hc : n ≤ c) (hn : xs.length + cntS shEntry.cnt xs ≤ 1048576) :
    Calls Try.prog 10 #[.slice A n c, .string s] w (RdV (Sh.rows shEntry 64) w (rmP xs s).1 (rmP xs s).2) := by
  have hle := h.le
  obtain rfl : xs.length = n := h.len
  obtain ⟨r1, HR1⟩ : ∃ r, Hid (catB xs = r) := ⟨_, rfl⟩
  obtain ⟨r2, HR2⟩ : ∃ r, Hid (nameB s = r) := ⟨_, rfl⟩
  have hlx : xs.length ≤ 1048576 := by omega
  rcases r1 with _ | _
  · have HM := Lib.hid (rm_no1 (s := s) HR1.out)
    go_enter Try.func10, Try.ntmps10
    go_wp2_with fail
    refine (l31Good_any _ _ _ xs _ h).mono ?_
    rintro e w1 ⟨rfl, hb1⟩
    rw [HR1.out]
    obtain ⟨bl, ho, hiv⟩ := ow_lit hb1
    have HO := Lib.hid ((Sh.rows shEntry 64).ord ho)
    clear ho
    go_wp2_with fail
    go_ret2
    rw [HM.out]
    exact ⟨_, rfl, HO.out, below_next hb1 (below_box _ _) rfl⟩
  · rcases r2 with _ | _
    · have HM := Lib.hid (rm_no2 (rm_name HR1.out HR2.out))
      go_enter Try.func10, Try.ntmps10
      go_wp2_with fail
      refine (l31Good_any _ _ _ xs _ h).mono ?_
      rintro e w1 ⟨rfl, hb1⟩
      rw [HR1.out]
      go_wp2_with fail
      refine (l31Name_any s _ hs).mono ?_
      rintro e w2 ⟨rfl, rfl⟩
      rw [HR2.out]
      obtain ⟨bl, ho, hiv⟩ := ow_lit hb1
      have HO := Lib.hid ((Sh.rows shEntry 64).ord ho)
      clear ho
      go_wp2_with fail
      go_ret2
      rw [HM.out]
      exact ⟨_, rfl, HO.out, below_next hb1 (below_box _ _) rfl⟩
    · go_enter Try.func10, Try.ntmps10
      go_wp2_with fail
      refine (l31Good_any _ _ _ xs _ h).mono ?_
      rintro e w1 ⟨rfl, hb1⟩
      rw [HR1.out]
      go_wp2_with fail
      refine (l31Name_any s _ hs).mono ?_
      rintro e w2 ⟨rfl, rfl⟩
      rw [HR2.out]
      go_wp2_with fail
      go_loopw [6] (fun i wr => ∃ k : Nat, k ≤ xs.length ∧ i = .int .i64 k ∧ hasS s ((xs.take k).map (·.1)) = false ∧ Below w.heap.size w wr) (fun i _ => xs.length - (intOf i).toNat)
      case atStart => exact ⟨0, Nat.zero_le _, rfl, rfl, hb1⟩
      case round =>
        obtain ⟨k, hk, rfl, H, hT⟩ := hrel
        have HH := Lib.hid H
        clear H
        by_cases hlt : k < xs.length
        · have hk0 : (0 : Int) ≤ (k : Int) := by omega
          have hk1 : (k : Int) < (xs.length : Int) := by omega
          obtain ⟨b, o, vs, y, rfl, -, hcc, hr, hd, hx⟩ := (h.next hT).at hlt
          obtain ⟨Bm, m, d, rfl, hsz, hIn, hops⟩ := rdEntry hr
          have cc0 : wr.cell? ⟨b, o + k * 3, none⟩ = some (.string y.1) := hcc 0 _ rfl
          have HX := Lib.hid hx
          clear hcc hr hd hx hops
          obtain ⟨sv, HSV⟩ : ∃ b, Hid (eqC y.1 s = b) := ⟨_, rfl⟩
          have hst := eqq_str HSV.out
          rcases sv with _ | _
          · go_wp2_with fail
            go_roundw
            case rel => exact ⟨k + 1, by omega, by go_num, rm_round HH.out HX.out HSV.out, hT⟩
            case measure => simp [intOf]; omega
          · have HM := Lib.hid (rm_hit HR1.out HH.out HX.out HSV.out)
            have HCN := Lib.hid (cut_cnt HX.out)
            obtain ⟨css, hcl, hall, hone, hcell, hrd⟩ := rawE (h.next hT)
            have HRD := Lib.hid hrd
            have HALL := Lib.hid hall
            have hkc : (k : Int) ≤ (c : Int) := by omega
            have hk2 : (0 : Int) ≤ (k : Int) + 1 := by omega
            have hk3 : (k : Int) + 1 ≤ (xs.length : Int) := by omega
            have N1 := Lib.hid (raw_cells hall hcell 0 k)
            have N2 := Lib.hid (raw_cells hall hcell (k + 1) (xs.length - (k + 1)))
            have hlen : ∀ (a m : Nat), a + m ≤ xs.length → ((css.drop a).take m).flatten.length = m * 3 := fun a m ham => by
              rw [flat_len (m := 3) fun c h => hall c (List.mem_of_mem_drop (List.mem_of_mem_take h)), List.length_take, List.length_drop, hcl, Nat.min_eq_left (by omega)]
            have hon : ∀ (a m : Nat), ∀ u ∈ ((css.drop a).take m).flatten, u.oneCell' = true := fun a m u hu => by
              obtain ⟨c, hc, hu⟩ := List.mem_flatten.1 hu
              exact hone c (List.mem_of_mem_drop (List.mem_of_mem_take hc)) u hu
            obtain ⟨ad, HIF, N3⟩ : ∃ ad, Hid ((if c = k + 1 then some (⟨b, o, none⟩ : Addr) else some ⟨b, o + (k + 1) * 3, none⟩) = some ad) ∧ Hid (∀ (j : Nat) u, ((css.drop (k + 1)).take (xs.length - (k + 1))).flatten[j]? = some u → wr.cell? (ad.add j) = some u) := by
              by_cases hq : c = k + 1
              · refine ⟨⟨b, o, none⟩, if_pos hq, fun j u hu => ?_⟩
                have e0 : xs.length - (k + 1) = 0 := by omega
                rw [e0] at hu
                simp at hu
              · exact ⟨_, if_neg hq, N2.out⟩
            have HL1 := Lib.hid (hlen 0 k (by omega))
            have HL2 := Lib.hid (hlen (k + 1) (xs.length - (k + 1)) (by omega))
            have HO1 := Lib.hid (hon 0 k)
            have HO2 := Lib.hid (hon (k + 1) (xs.length - (k + 1)))
            have hwr : IntKind.i64.wrap ((k : Int) + 1) = (k : Int) + 1 := by rw [IntKind.wrap_i64]; omega
            clear hrd hcell hlen hon hone hall
            go_upto_region 7 with fail
            go_region_law (first
              | (refine step_appN _ rfl (.tmp 29) (.tmp 32) 24 64 rfl (.agg #[.string ⟨#[]⟩, .int .i64 0, .slice none 0 0]) 48 Try.underlying24 info_entry3 rfl (by decide) wr.heap.size 0 0 _ [] (by rfl) (by exact own_lit wr) ⟨b, o + 0 * 3, none⟩ k c ((css.drop 0).take k).flatten (by rfl) HL1.out (fun j u hu => by first | exact keepc (below_box wr _) (N1.out j u hu) | exact keepc (Below.drew (below_box wr _)) (N1.out j u hu)) HO1.out (by omega) (by exact (below_box wr (.cells #[] 64)).size) ?_; intro A5 c5 w5 hown5 hg5 hb5; simp only [Nat.zero_add, List.nil_append] at hown5 ⊢; have T5 : Below wr.heap.size wr w5 := (by first | exact (below_box wr _).trans hb5 | exact (Below.drew (below_box wr _)).trans hb5))
              | (refine step_appN _ rfl (.tmp 33) (.tmp 37) 24 64 rfl (.agg #[.string ⟨#[]⟩, .int .i64 0, .slice none 0 0]) 48 Try.underlying24 info_entry3 rfl (by decide) wr.heap.size k c5 A5 ((css.drop 0).take k).flatten (by rfl) (by exact hown5) ad (xs.length - (k + 1)) (c - (k + 1)) ((css.drop (k + 1)).take (xs.length - (k + 1))).flatten (by show Value.slice (if c = k + 1 then _ else _) _ _ = _; rw [HIF.out]) HL2.out (fun j u hu => by exact keepc T5 (N3.out j u hu)) HO2.out (by omega) (by exact T5.size) ?_; intro A6 c6 w6 hown6 hg6 hb6; have T6 := T5.trans hb6; have HR6 := rm_read hcl hlt HALL.out HRD.out T6 hown6)
              | (go_simp; go_at_call 42; refine (l31Copy_any A6 _ c6 _ _ HR6 (by have := HCN.out; omega)).mono ?_; rintro e w7 ⟨v7, css7, bls7, rfl, hP7, hb7⟩))
            have HO := Lib.hid ((Sh.rows shEntry 64).ord hP7.own)
            have T7 := below_next hT (below_next T6 hb7 rfl) rfl
            clear hP7
            go_wp2_with fail
            all_goals
              go_ret2
              rw [HM.out]
              exact ⟨_, rfl, HO.out, T7⟩
        · have hlt' : ¬ (k : Int) < (xs.length : Int) := by omega
          have HE : Hid (xs.take k = xs) := List.take_of_length_le (by omega)
          have HM := Lib.hid (rm_no2 (xs := xs) (s := s) (by have := HH.out; rw [HE.out] at this; exact this))
          obtain ⟨bl, ho, hiv⟩ := ow_lit hT
          have HO := Lib.hid ((Sh.rows shEntry 64).ord ho)
          clear ho
          go_wp2_with fail
          go_ret2
          rw [HM.out]
          exact ⟨_, rfl, HO.out, below_next hT (below_box _ _) rfl⟩

/-! ## The forms that the law cites -/
theorem cap_of {α : Type} {S : Sh α} {E : TypeId} {w : World} {v : Value} {xs : List α} {bl : List Nat} (h : (Sh.rows S E).own w [v] xs bl) : ∀ B n c, v = .slice B n c → n ≤ c := by
  obtain ⟨v', css, bls, e, P, -⟩ := h
  injection e with e _
  subst e
  intro B n c e
  rcases P.row.2 with ⟨e', h0⟩ | ⟨g, cap, cur, e', -, -, h1, -⟩
  · rw [e] at e'
    injection e' with _ e2 e3
    omega
  · rw [e] at e'
    injection e' with _ e2 e3
    omega
theorem implRmv_any (v : Value) (xs : List EntryM) (s : ByteArray) (w : World) (h : (Sh.rows shEntry 64).rd w [v] xs) (hn : (Sh.rows shEntry 64).cnt xs ≤ 1048576) : Calls Try.prog 12 #[v, .string s] w (OwV (Sh.rows shEntry 64) w (rmP xs s).1 (rmP xs s).2) := by
  obtain ⟨A, n, c, e, r⟩ := h
  injection e with e _
  subst e
  exact implRm_any A n c xs s w r hn
theorem specRmv_any (v : Value) (xs : List EntryM) (s : ByteArray) (w : World) (h : (Sh.rows shEntry 64).rd w [v] xs) (hc : ∀ B n c, v = .slice B n c → n ≤ c) (hs : s.size ≤ maxLen) (hn : (Sh.rows shEntry 64).cnt xs ≤ 1048576) : Calls Try.prog 10 #[v, .string s] w (RdV (Sh.rows shEntry 64) w (rmP xs s).1 (rmP xs s).2) := by
  obtain ⟨A, n, c, e, r⟩ := h
  injection e with e _
  have hc' := hc A n c e
  subst e
  exact specRm_any A n c xs s w r hs hc' hn
theorem rmP_cnt {xs : List EntryM} {s : ByteArray} (h : (Sh.rows shEntry 64).cnt xs ≤ 1048576) : (Sh.rows shEntry 64).cnt (rmP xs s).1 ≤ 1048576 := by
  refine Nat.le_trans ?_ h
  show (rmP xs s).1.length + cntS shEntry.cnt (rmP xs s).1 ≤ xs.length + cntS shEntry.cnt xs
  unfold rmP
  split
  · unfold rmL
    have h1 := List.length_filter_le (fun e : EntryM => !eqC e.1 s) xs
    have h2 : ∀ l : List EntryM, cntS shEntry.cnt (l.filter fun e => !eqC e.1 s) ≤ cntS shEntry.cnt l := fun l => by
      induction l with
      | nil => exact Nat.le_refl _
      | cons a l ih =>
        rw [List.filter_cons, cntS_cons]
        split
        · rw [cntS_cons]; omega
        · omega
    have := h2 xs
    show (xs.filter _).length + cntS shEntry.cnt (xs.filter _) ≤ _
    omega
  · show 0 + 0 ≤ _
    omega
end Go.Proofs.Ytbpdbimdefdefaa
