
/- Walks: AddEntry of the reference. -/
import Derived.Test.YtbpdbimdefdefaaPut
import Derived.Test.YtbpdbimdefdefaaAddI
namespace Go.Proofs.Ytbpdbimdefdefaa
open Go.RowKit

theorem entR {w : World} {s : ByteArray} {a : AlgebraM} {V : Option Addr} {m d : Nat} (hs : s.size ≤ maxLen) (h : shAlgebra.rd w [.int .i64 a.1, .slice V m d] a) : shEntry.rd w [.string s, .int .i64 a.1, .slice V m d] (s, a) :=
  ⟨[.string s], [.int .i64 a.1, .slice V m d], rfl, ⟨_, rfl, rfl, hs⟩, h⟩
set_option maxRecDepth 100000 in
set_option maxHeartbeats 8000000 in
theorem specAdd_any (A : Option Addr) (n c : Nat) (xs : List EntryM) (s : ByteArray) (ds : List Value) (a : AlgebraM) (w : World) (h : RdN shEntry.m shEntry.rd w A n xs) (hs : s.size ≤ maxLen) (h' : shAlgebra.rd w ds a) (hn : xs.length + cntS shEntry.cnt xs ≤ 1048576) :
    Calls Try.prog 17 #[.slice A n c, .string s, .agg ds.toArray] w (RdV (Sh.rows shEntry 64) w (adP xs s a).1 (adP xs s a).2) := by
  have hle := h.le
  obtain rfl : xs.length = n := h.len
  have hrd' := h'
  obtain ⟨B, m, d, rfl, qs, qo⟩ := rdAlgebra h'
  obtain ⟨w0, hw0, T0, hsz0, BP⟩ := boxes1 w #[.int .i64 a.1, .slice B m d] 38
  have HW0 := Lib.hid hw0
  have h0 := h.next T0
  have hr0 := shAlgebra.stab hrd' T0.block
  clear hw0
  obtain ⟨r1, HR1⟩ : ∃ r, Hid (catB xs = r) := ⟨_, rfl⟩
  rcases r1 with _ | _
  · have HM := Lib.hid (ad_no1 (s := s) (a := a) HR1.out)
    rw [HM.out]
    go_enter Try.func17, Try.ntmps17
    go_wp2_with fail
    rw [← HW0.out]
    refine (l31Good_any _ _ _ xs _ h0).mono ?_
    rintro e w1 ⟨rfl, hb1⟩
    rw [HR1.out]
    have T1 := below_next T0 hb1 rfl
    obtain ⟨bl, ho, hiv⟩ := ow_lit T1
    have HO := Lib.hid ((Sh.rows shEntry 64).ord ho)
    clear ho
    have cP := (BP.next hb1).cell 0
    simp at cP
    go_wp2_with fail
    go_ret2
    exact ⟨_, rfl, HO.out, below_next T1 (below_box _ _) rfl⟩
  · obtain ⟨r2, HR2⟩ : ∃ r, Hid (nameB s = r) := ⟨_, rfl⟩
    rcases r2 with _ | _
    · have HM := Lib.hid (ad_no2 (xs := xs) (a := a) HR2.out)
      rw [HM.out]
      go_enter Try.func17, Try.ntmps17
      go_wp2_with fail
      rw [← HW0.out]
      refine (l31Good_any _ _ _ xs _ h0).mono ?_
      rintro e w1 ⟨rfl, hb1⟩
      rw [HR1.out]
      have T1 := below_next T0 hb1 rfl
      have cP := (BP.next hb1).cell 0
      simp at cP
      go_wp2_with fail
      refine (l31Name_any s _ hs).mono ?_
      rintro e w2 ⟨rfl, rfl⟩
      rw [HR2.out]
      obtain ⟨bl, ho, hiv⟩ := ow_lit T1
      have HO := Lib.hid ((Sh.rows shEntry 64).ord ho)
      clear ho
      go_wp2_with fail
      go_ret2
      exact ⟨_, rfl, HO.out, below_next T1 (below_box _ _) rfl⟩
    · obtain ⟨r3, HR3⟩ : ∃ r, Hid (smallB a = r) := ⟨_, rfl⟩
      go_enter Try.func17, Try.ntmps17
      go_wp2_with fail
      rw [← HW0.out]
      refine (l31Good_any _ _ _ xs _ h0).mono ?_
      rintro e w1 ⟨rfl, hb1⟩
      rw [HR1.out]
      have T1 := below_next T0 hb1 rfl
      have BP1 := BP.next hb1
      have cP0 := BP1.cell 0
      have cP1 := BP1.cell 1
      simp at cP0 cP1
      go_wp2_with fail
      refine (l31Name_any s _ hs).mono ?_
      rintro e w2 ⟨rfl, rfl⟩
      rw [HR2.out]
      go_wp2_with fail
      refine (l31Takes_any _ a _ (shAlgebra.stab hr0 hb1.block)).mono ?_
      rintro e w3 ⟨rfl, hb3⟩
      rw [HR3.out]
      have T3 := below_next T1 hb3 rfl
      have BP3 := BP1.next hb3
      clear cP0 cP1
      have cP0 := BP3.cell 0
      have cP1 := BP3.cell 1
      simp at cP0 cP1
      rcases r3 with _ | _
      · have HM := Lib.hid (ad_no3 (xs := xs) (s := s) HR3.out)
        obtain ⟨bl, ho, hiv⟩ := ow_lit T3
        have HO := Lib.hid ((Sh.rows shEntry 64).ord ho)
        clear ho
        go_wp2_with fail
        go_ret2
        rw [HM.out]
        exact ⟨_, rfl, HO.out, below_next T3 (below_box _ _) rfl⟩
      · have hsm := small_iff.1 HR3.out
        have h3 := h.next T3
        have hr3 := shAlgebra.stab hrd' T3.block
        have HCL : ∀ wz, Below w3.heap.size w3 wz → Calls Try.prog 42 #[.slice A xs.length c] wz (CpN wz xs) := fun wz hz => l31CopyN_any A xs.length c xs wz (h3.next hz) (by omega)
        have HFM : ∀ wz, Below w3.heap.size w3 wz → Calls Try.prog 53 #[.agg #[.int .i64 a.1, .slice B m d]] wz (fun e w' => ∃ V L vc, e = .returned (.agg #[.int .i64 (canA a).1, .slice V L vc]) ∧ FormR a wz V L vc w') := fun wz hz => formR (shAlgebra.stab hr3 hz.block) hsm
        have Tk : Below w3.heap.size w3 w3 := Below.refl _ _
        have hcs := canA_small hsm
        have HSM : Hid (∀ x ∈ xs, SmallP x.2) := fun x hx => cat_small HR1.out hx
        have hl12 := (cat_two HR1.out).1
        clear h0 hrd' hr0 qs qo
        go_upto_region 3 with fail
        go_region_held3 (fun w' => w'.cell? ⟨w.heap.size, 0, none⟩ = some (.int .i64 a.1) ∧ w'.cell? ⟨w.heap.size, 1, none⟩ = some (.slice B m d)) (first | go_keep | exact ⟨keepc Tk cP0, keepc Tk cP1⟩) (first
          | (go_at_call 42; (with_reducible refine (HCL _ ?_).mono ?_); (first | exact Tk | exact Below.drew Tk); rintro e w6 ⟨g6, n6, c6, css6, bls6, rfl, hP6, hb6⟩; obtain ⟨rfl, hc6⟩ := hP6.ln; (try replace hF := shAlgebra.stab hF hb6.block); replace Tk := below_next (by first | exact Tk | exact Below.drew Tk) hb6 rfl)
          | (go_at_call 53; (with_reducible refine (HFM _ ?_).mono ?_); (first | exact Tk | exact Below.drew Tk); rintro e w7 ⟨V, L, vc, rfl, ⟨hF, hb7⟩⟩; (try replace hP6 := hP6.next hb7); replace Tk := below_next (by first | exact Tk | exact Below.drew Tk) hb7 rfl)
          | (go_at_call 52; refine (l31Put_any g6 0 c6 xs (s, canA a) V L vc _ hP6.rdN hc6 (entR hs hF) HSM.out hcs (by omega)).mono ?_; rintro e w8 ⟨g8, c8, rfl, hc8, hr8, hb8⟩; replace Tk := below_next Tk hb8 rfl))
        all_goals
          have T7 := below_next T3 Tk rfl
          obtain ⟨r4, HR4⟩ : ∃ r, Hid (catB (insM xs (s, canA a)) = r) := ⟨_, rfl⟩
          rw [HR4.out]
          have HR8 := Lib.hid hr8
          clear hr8 hP6
          rcases r4 with _ | _
          · have HM := Lib.hid (ad_no4 (xs := xs) (s := s) HR4.out)
            obtain ⟨bl, ho, hiv⟩ := ow_lit T7
            have HO := Lib.hid ((Sh.rows shEntry 64).ord ho)
            clear ho
            go_wp2_with fail
            go_ret2
            rw [HM.out]
            exact ⟨_, rfl, HO.out, below_next T7 (below_box _ _) rfl⟩
          · have HM := Lib.hid (ad_yes HR1.out HR2.out HR3.out HR4.out)
            go_wp2_with fail
            go_ret2
            rw [HM.out]
            exact ⟨_, rfl, ⟨_, _, _, rfl, HR8.out⟩, T7⟩
theorem implAddv_any (v : Value) (xs : List EntryM) (s : ByteArray) (ds : List Value) (a : AlgebraM) (w : World) (h : (Sh.rows shEntry 64).rd w [v] xs) (hs : s.size ≤ maxLen) (h' : shAlgebra.rd w ds a) (hn : (Sh.rows shEntry 64).cnt xs ≤ 1048576) : Calls Try.prog 19 #[v, .string s, .agg ds.toArray] w (OwV (Sh.rows shEntry 64) w (adP xs s a).1 (adP xs s a).2) := by
  obtain ⟨A, n, c, e, r⟩ := h
  injection e with e _
  subst e
  exact implAdd_any A n c xs s ds a w r hs h' hn
theorem specAddv_any (v : Value) (xs : List EntryM) (s : ByteArray) (ds : List Value) (a : AlgebraM) (w : World) (h : (Sh.rows shEntry 64).rd w [v] xs) (hs : s.size ≤ maxLen) (h' : shAlgebra.rd w ds a) (hn : (Sh.rows shEntry 64).cnt xs ≤ 1048576) : Calls Try.prog 17 #[v, .string s, .agg ds.toArray] w (RdV (Sh.rows shEntry 64) w (adP xs s a).1 (adP xs s a).2) := by
  obtain ⟨A, n, c, e, r⟩ := h
  injection e with e _
  subst e
  exact specAdd_any A n c xs s ds a w r hs h' hn
end Go.Proofs.Ytbpdbimdefdefaa
