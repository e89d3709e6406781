
/- Walks: UpperAdjoint, in the program. -/
import Derived.Test.YtfcjhmaggefhaaaAdj2
namespace Go.Proofs.Ytfcjhmaggefhaaa
open Go.RowKit

theorem own_lowB {w : World} {b b' e s n : Nat} {v : Value} {xs : List Value} (h : w.ownsRow b e s v n xs) (hb : b' ≤ b) : w.ownsRow b' e s v n xs := by
  refine ⟨h.1, ?_⟩
  rcases h.2 with h2 | ⟨g, cap, cur, hv, hg, rest⟩
  · exact .inl h2
  · exact .inr ⟨g, cap, cur, hv, by omega, rest⟩
theorem boxes3a (w : World) (ca cb cc : Array Value) (ta tb tc : TypeId) : ∃ w3, w3 = ((w.alloc (.cells ca ta)).alloc (.cells cb tb)).alloc (.cells cc tc) ∧ Below w.heap.size w w3 ∧ w3.heap.size = w.heap.size + 3 ∧ Blk w3 w.heap.size ta ca ∧ Blk w3 (w.heap.size + 1) tb cb ∧ Blk w3 (w.heap.size + 2) tc cc := by
  refine ⟨_, rfl, below_box3 _ _ _ _, by simp, ((Blk.new w _ _).next (below_box _ _)).next (below_box _ _), ?_, ?_⟩
  · have := (Blk.new (w.alloc (.cells ca ta)) tb cb).next (below_box _ (.cells cc tc))
    rwa [World.size_alloc] at this
  · have := Blk.new ((w.alloc (.cells ca ta)).alloc (.cells cb tb)) tc cc
    rwa [World.size_alloc, World.size_alloc] at this
theorem boxes1a (w : World) (cp : Array Value) (tp : TypeId) : ∃ w3, w3 = w.alloc (.cells cp tp) ∧ Below w.heap.size w w3 ∧ w3.heap.size = w.heap.size + 1 ∧ Blk w3 w.heap.size tp cp := ⟨_, rfl, below_box _ _, by simp, Blk.new _ _ _⟩

def gUp (F G : Nat → Nat → Bool) (fs : List Int) (n y : Nat) : Int := grI F (rowTo (upF G fs) y n)
def upR (F G : Nat → Nat → Bool) (fs : List Int) (n k : Nat) : List Int := (List.range k).map (gUp F G fs n)
theorem upR_succ (F G : Nat → Nat → Bool) (fs : List Int) (n k : Nat) : upR F G fs n (k + 1) = upR F G fs n k ++ [gUp F G fs n k] := by simp [upR, List.range_succ]
theorem upR_len (F G : Nat → Nat → Bool) (fs : List Int) (n k : Nat) : (upR F G fs n k).length = k := by simp [upR]
def UpP (n m : Nat) (F G : Nat → Nat → Bool) (fs : List Int) : Prop := (∀ y < m, 0 ≤ gUp F G fs n y) ∧ AdjP n m F G fs (upR F G fs n m)
theorem row_in {F : Nat → Nat → Bool} {x n : Nat} : ∀ v ∈ rowTo F x n, 0 ≤ v ∧ v ≤ (n : Int) - 1 := fun v hv => by
  obtain ⟨y, hy, -, rfl⟩ := rowTo_mem.1 hv
  omega
theorem gUp_in {F G : Nat → Nat → Bool} {fs : List Int} {n y : Nat} : gUp F G fs n y = -1 ∨ (0 ≤ gUp F G fs n y ∧ gUp F G fs n y ≤ (n : Int) - 1) := by
  rcases grI_mem (F := F) (xs := rowTo (upF G fs) y n) row_in with h | h
  · exact .inl h
  · exact .inr ⟨h.1, h.2.1⟩
theorem upR_in {F G : Nat → Nat → Bool} {fs : List Int} {n k : Nat} (h : ∀ y < k, 0 ≤ gUp F G fs n y) : ∀ v ∈ upR F G fs n k, 0 ≤ v ∧ v ≤ (n : Int) - 1 := fun v hv => by
  unfold upR at hv
  rw [List.mem_map] at hv
  obtain ⟨y, hy, rfl⟩ := hv
  have h0 := h y (by simpa using hy)
  rcases gUp_in (F := F) (G := G) (fs := fs) (n := n) (y := y) with h1 | h1
  · omega
  · exact h1
noncomputable def upB (n m l : Nat) (xss yss : List (List Int)) (fs : List Int) : Bool := mapS n m l xss yss fs && tt (UpP n m (leF xss) (leF yss) fs)
noncomputable def upL (n m l : Nat) (xss yss : List (List Int)) (fs : List Int) : List Int := if upB n m l xss yss fs then upR (leF xss) (leF yss) fs n m else []
def UpE (w : World) (n m l : Nat) (xss yss : List (List Int)) (fs : List Int) (e : Ending) (w' : World) : Prop :=
  ∃ A k c, e = .returned (.tuple #[.slice A k c, .bool (upB n m l xss yss fs)]) ∧ w'.ownsRow w.heap.size 3 1 (.slice A k c) k (ints (upL n m l xss yss fs)) ∧ Below w.heap.size w w'
theorem UpE.no {w w' : World} {n m l : Nat} {xss yss : List (List Int)} {fs : List Int} {A : Option Addr} {c : Nat} (h : upB n m l xss yss fs = false) (ho : w'.ownsRow w.heap.size 3 1 (.slice A 0 c) 0 []) (hb : Below w.heap.size w w') : UpE w n m l xss yss fs (.returned (.tuple #[.slice A 0 c, .bool false])) w' := by
  have e : upL n m l xss yss fs = [] := by unfold upL; rw [h]; rfl
  exact ⟨A, 0, c, by rw [h], by rw [e]; exact ho, hb⟩
theorem UpE.yes {w w' : World} {n m l k : Nat} {xss yss : List (List Int)} {fs : List Int} {A : Option Addr} {c : Nat} (h : upB n m l xss yss fs = true) (ho : w'.ownsRow w.heap.size 3 1 (.slice A k c) k (ints (upR (leF xss) (leF yss) fs n m))) (hb : Below w.heap.size w w') : UpE w n m l xss yss fs (.returned (.tuple #[.slice A k c, .bool true])) w' := by
  have e : upL n m l xss yss fs = upR (leF xss) (leF yss) fs n m := by unfold upL; rw [h]; rfl
  exact ⟨A, k, c, by rw [h], by rw [e]; exact ho, hb⟩

set_option maxRecDepth 20000 in
set_option maxHeartbeats 4000000 in
theorem implUp_any (A B C : Option Addr) (n m l c d e : Nat) (xss yss : List (List Int)) (fs : List Int) (w : World) (h : RdL (RV RI) w A n xss) (h' : RdL (RV RI) w B m yss) (hf : RdL RI w C l fs) :
    Calls Try.prog 28 #[.agg #[.slice A n c], .agg #[.slice B m d], .slice C l e] w (UpE w n m l xss yss fs) := by
  obtain ⟨w0, hw0, T0, hsz0, BX, BY, BZ⟩ := boxes3a w #[.slice A n c] #[.slice B m d] #[.slice C l e] 29 29 25
  have HW0 := Lib.hid hw0
  have cX := BX.c0
  have cY := BY.c0
  rw [HW0.out] at cX cY
  have h0 := h.next stab_RVI T0
  have h0' := h'.next stab_RVI T0
  have hf0 := hf.next stab_RI T0
  clear hw0
  rcases h1 : (tt (GoodP xss) && tt (GoodP yss)) with _ | _
  · have H0 : Hid (upB n m l xss yss fs = false) := by show _ = _; unfold upB mapS; rw [h1]; rfl
    have H1 := Lib.hid h1
    clear h1
    go_enter Try.func28, Try.ntmps28
    go_wp2_with fail
    rw [← HW0.out]
    refine (twoOrders_any _ _ _ _ _ _ _ _ _ h0 h0').mono ?_
    rintro e w2 ⟨A1, m1, c1, A2, m2, c2, rfl, -, -, hb1⟩
    rw [H1.out]
    have T1 := below_next T0 hb1 rfl
    obtain ⟨w3, hw3, T3', hsz3, BO⟩ := boxes1a w2 #[.slice A2 m2 c2] 77
    have HW3 := Lib.hid hw3
    have T3 := below_next T1 T3' rfl
    clear hw3
    go_wp2_with fail
    rw [← HW3.out]
    go_ret2
    exact UpE.no H0.out (by rw [← hsz3]; exact World.ownsRow_lit w3 #[] 0 T3.size (Nat.zero_le _) rfl) (below_next T3 (below_box _ _) rfl)
  · have HG : GoodP xss ∧ GoodP yss := by simpa only [Bool.and_eq_true, tt_iff] using h1
    have H1 := Lib.hid h1
    rcases h4 : mapB n m l fs with _ | _
    · have H0 : Hid (upB n m l xss yss fs = false) := by show _ = _; unfold upB mapS; rw [h4]; simp
      have H4 := Lib.hid h4
      clear h1 h4
      go_enter Try.func28, Try.ntmps28
      go_wp2_with fail
      rw [← HW0.out]
      refine (twoOrders_any _ _ _ _ _ _ _ _ _ h0 h0').mono ?_
      rintro e w2 ⟨A1, m1, c1, A2, m2, c2, rfl, hr1, hr2, hb1⟩
      rw [H1.out]
      obtain ⟨rfl, r1⟩ := hr1 HG.1
      obtain ⟨rfl, r2⟩ := hr2 HG.2
      have T1 := below_next T0 hb1 rfl
      obtain ⟨w3, hw3, T3', -, BO⟩ := boxes1a w2 #[.slice A2 m2 c2] 77
      have HW3 := Lib.hid hw3
      have T3 := below_next T1 T3' rfl
      have BZ3 := (BZ.next hb1).next T3'
      have hf3 := (hf0.next stab_RI hb1).next stab_RI T3'
      have cO := BO.c0
      have cZ := BZ3.c0
      rw [HW3.out] at cO cZ
      clear hw3
      go_wp2_with fail
      rw [← HW3.out]
      refine (isPosetMap_any _ _ _ _ _ _ _ _ _ _ _ hf3).mono ?_
      rintro e w4 ⟨rfl, rfl⟩
      rw [H4.out]
      go_wp2_with fail
      go_ret2
      exact UpE.no H0.out (World.ownsRow_lit _ #[] 0 T3.size (Nat.zero_le _) rfl) (below_next T3 (below_box _ _) rfl)
    · have H4 := Lib.hid h4
      obtain ⟨rfl, hin⟩ := mapB_in h4
      have hMS : mapS l m l xss yss fs = true := by unfold mapS; rw [h1, h4]; rfl
      have HMS := Lib.hid hMS
      have HIN := Lib.hid hin
      have hn10 : l ≤ 10 := by rw [← h.len]; exact HG.1.1
      have hm10 : m ≤ 10 := by rw [← h'.len]; exact HG.2.1
      obtain ⟨F, HF⟩ : ∃ F, Hid (leF xss = F) := ⟨_, rfl⟩
      obtain ⟨G, HGG⟩ : ∃ F, Hid (leF yss = F) := ⟨_, rfl⟩
      have HUB : Hid (upB l m l xss yss fs = tt (UpP l m F G fs)) := by show _ = _; unfold upB; rw [hMS, HF.out, HGG.out]; rfl
      clear h1 h4 hin hMS
      go_enter Try.func28, Try.ntmps28
      go_wp2_with fail
      rw [← HW0.out]
      refine (twoOrders_any _ _ _ _ _ _ _ _ _ h0 h0').mono ?_
      rintro e w2 ⟨A1, m1, c1, A2, m2, c2, rfl, hr1, hr2, hb1⟩
      rw [H1.out]
      obtain ⟨rfl, r1⟩ := hr1 HG.1
      obtain ⟨rfl, r2⟩ := hr2 HG.2
      rw [HF.out] at r1
      rw [HGG.out] at r2
      have T1 := below_next T0 hb1 rfl
      obtain ⟨w3, hw3, T3', -, BO⟩ := boxes1a w2 #[.slice A2 m2 c2] 77
      have HW3 := Lib.hid hw3
      have T3 := below_next T1 T3' rfl
      have BZ3 := (BZ.next hb1).next T3'
      have hf3 := (hf0.next stab_RI hb1).next stab_RI T3'
      replace r1 := r1.next stab_RVB T3'
      replace r2 := r2.next stab_RVB T3'
      have cO := BO.c0
      have cZ := BZ3.c0
      rw [HW3.out] at cO cZ
      clear hw3 cX cY
      go_wp2_with fail
      rw [← HW3.out]
      refine (isPosetMap_any _ _ _ _ _ _ _ _ _ _ _ hf3).mono ?_
      rintro e w4 ⟨rfl, rfl⟩
      rw [H4.out]
      clear cO cZ
      have cO := BO.c0
      have cZ := BZ3.c0
      have cO' := (BO.next (below_box w3 (.cells #[] 3))).c0
      go_wp2_with fail
      clear cO'
      go_loopw [11, 34] (fun v i wr => ∃ (k : Nat) (acc : List Int), k ≤ m2 ∧ i = .int .i64 k ∧ acc = upR F G fs m1 k ∧ (∀ y < k, 0 ≤ gUp F G fs m1 y) ∧ Gat w3.heap.size w3 wr v k acc) (fun _ i _ => m2 - (intOf i).toNat)
      case atStart => exact ⟨0, [], Nat.zero_le _, rfl, rfl, upto0, _, _, rfl, rfl, World.ownsRow_lit _ _ _ (Nat.le_refl _) (Nat.zero_le _) rfl, below_box _ _⟩
      case round =>
        obtain ⟨k, acc, hk, rfl, hacc2, hpos, A', c', rfl, hacc, hown, hT⟩ := hrel
        have HA := Lib.hid hacc
        have HA2 := Lib.hid hacc2
        have HP := Lib.hid hpos
        clear hacc hacc2 hpos
        replace r1 := r1.next stab_RVB hT
        replace r2 := r2.next stab_RVB hT
        replace hf3 := hf3.next stab_RI hT
        replace BO := BO.next hT
        replace BZ3 := BZ3.next hT
        clear cO cZ
        by_cases hlt : k < m2
        · obtain ⟨w5, hw5, T5, -, BK⟩ := boxes1a wr #[.int .i64 k] 3
          have HW5 := Lib.hid hw5
          clear hw5
          replace r1 := r1.next stab_RVB T5
          replace r2 := r2.next stab_RVB T5
          replace hf3 := hf3.next stab_RI T5
          replace hown := own_next hown T5
          have hT5 := below_next hT T5 rfl
          have cO := (BO.next T5).c0
          have cZ := (BZ3.next T5).c0
          have cK := BK.c0
          go_wp2_with fail
          rw [← HW5.out]
          refine (those_any A1 A2 _ _ _ c1 _ _ G fs k _ _ _ _ r2 hf3 HIN.out (by omega) hlt cO cZ cK).mono ?_
          rintro e w6 ⟨A6, n6, c6, rfl, hl6, ho6, hb6⟩
          have hT6 := below_next hT5 hb6 rfl
          replace r1 := r1.next stab_RVB hb6
          replace hown := own_next hown hb6
          have R6 := rd_of_own (R := RI) ho6 (RI_ints fun v hv => by have := row_in v hv; omega)
          clear cO cZ cK
          go_wp2_with fail
          refine (greatest_any _ _ _ _ _ _ F _ _ r1 R6 row_in).mono ?_
          rintro e w7 ⟨rfl, z, rfl⟩
          have hT7 := below_drewN hT6 z
          have hown7 := own_drewN hown z
          have hs7 := hT7.size
          obtain ⟨w7, hw7⟩ : ∃ w7, w7 = w6.drewN z := ⟨_, rfl⟩
          rw [← hw7] at hT7 hown7 hs7 ⊢
          clear hw7
          rcases gUp_in (F := F) (G := G) (fs := fs) (n := m1) (y := k) with hv | hv
          · have hgk : grI F (rowTo (upF G fs) k m1) = -1 := hv
            have HNO : Hid (upB m1 m2 m1 xss yss fs = false) := by
              show _ = _
              rw [HUB.out, ← tt_false]
              exact fun hh => by have := hh.1 k hlt; omega
            rw [hgk]
            clear hv hgk
            have hT7' : Below w.heap.size w w7 := below_next T3 hT7 rfl
            go_wp2_with fail
            go_ret2
            exact UpE.no HNO.out (World.ownsRow_lit w7 #[] 0 hT7'.size (Nat.zero_le _) rfl) (below_next hT7' (below_box _ _) rfl)
          · obtain ⟨V, HV⟩ : ∃ V, Hid (grI F (rowTo (upF G fs) k m1) = V) := ⟨_, rfl⟩
            have HGV : Hid (gUp F G fs m1 k = V) := HV
            rw [HV.out]
            rw [HGV.out] at hv
            have hv0 : ¬ V < 0 := by omega
            go_wp2_with (at_builtin; refine app1 w7 rfl _ _ 25 3 rfl (.int .i64 0) 8 Try.underlying25 info_int rfl (by decide) w3.heap.size k c' A' (ints acc) rfl hown7 (.int .i64 V) rfl rfl (by omega) hs7 ?_; intro A2 c2 w8 hown2 hg2 hb2)
            go_roundw
            case rel => exact ⟨k + 1, acc ++ [V], by omega, by go_num, by rw [upR_succ, HA2.out, HGV.out], upto HP.out (by rw [HGV.out]; omega), A2, c2, rfl, by simp [HA.out], by rw [ints_snoc]; exact hown2, hT7.trans hb2⟩
            case measure => simp [intOf]; omega
        · obtain rfl : k = m2 := by omega
          have hlt' : ¬ (k : Int) < (k : Int) := by omega
          have cO := BO.c0
          have cZ := BZ3.c0
          have Rg : RdL RI wr A' k (upR F G fs m1 k) := by
            rw [← HA2.out]
            exact rd_of_own (R := RI) hown (RI_ints fun v hv => by
              rw [HA2.out] at hv
              have := upR_in HP.out v hv
              omega)
          have hgin := upR_in HP.out
          have HGIN := Lib.hid hgin
          clear hgin
          have hTw : Below w.heap.size w wr := below_next T3 hT rfl
          rcases ha : tt (AdjP m1 k F G fs (upR F G fs m1 k)) with _ | _
          · have HAD := Lib.hid ha
            have HNO : Hid (upB m1 k m1 xss yss fs = false) := by
              show _ = _
              rw [HUB.out, ← tt_false]
              intro hh
              rw [← tt_true hh.2] at ha
              cases ha
            clear ha
            go_wp2_with fail
            refine (adjoint_any _ _ _ _ _ _ _ _ _ _ F G fs _ _ r1 r2 hf3 Rg HIN.out HGIN.out).mono ?_
            rintro e w7 ⟨rfl, z, rfl⟩
            rw [HAD.out]
            have hTz := below_drewN hTw z
            go_wp2_with fail
            go_ret2
            exact UpE.no HNO.out (World.ownsRow_lit _ #[] 0 hTz.size (Nat.zero_le _) rfl) (below_next hTz (below_box _ _) rfl)
          · have HAD := Lib.hid ha
            have HYES : Hid (upB m1 k m1 xss yss fs = true) := by
              show _ = _
              rw [HUB.out, ← tt_true]
              exact ⟨HP.out, tt_iff.1 ha⟩
            clear ha
            go_wp2_with fail
            refine (adjoint_any _ _ _ _ _ _ _ _ _ _ F G fs _ _ r1 r2 hf3 Rg HIN.out HGIN.out).mono ?_
            rintro e w7 ⟨rfl, z, rfl⟩
            rw [HAD.out]
            have hTz := below_drewN hTw z
            go_wp2_with fail
            go_ret2
            exact UpE.yes HYES.out (by rw [HF.out, HGG.out, ← HA2.out]; exact own_lowB (own_drewN hown z) T3.size) hTz
end Go.Proofs.Ytfcjhmaggefhaaa
