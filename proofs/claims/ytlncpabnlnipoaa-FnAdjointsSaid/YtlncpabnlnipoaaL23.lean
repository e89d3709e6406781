
/- Walks: the reference's test of a poset. -/
import Derived.Test.YtlncpabnlnipoaaIsOrder
namespace Go.Proofs.Ytlncpabnlnipoaa
open Go.RowKit

theorem keepc {w w' : World} {p : Addr} {v : Value} (hb : Below w.heap.size w w') (h : w.cell? p = some v) : w'.cell? p = some v := (hb.cell (cell_lt h)).trans h
theorem Blk.c0 {w : World} {g : Nat} {t : TypeId} {v : Value} (h : Blk w g t #[v]) : w.cell? ⟨g, 0, none⟩ = some v := by have := h.cell 0; simpa using this

def P1 (xss : List (List Int)) (x : Nat) : Prop := (allIn 0 ((xss.length : Int) - 1) (rowOf xss x) && risesL (rowOf xss x)) = true ∧ hasI x (rowOf xss x) = true
def P2 (xss : List (List Int)) (x : Nat) (y : Int) : Prop := ¬ (y ≠ x ∧ hasI x (rowOf xss y.toNat) = true) ∧ partL (rowOf xss x) (rowOf xss y.toNat) = true
def GoodQ (xss : List (List Int)) : Prop := xss.length ≤ 10 ∧ (∀ x < xss.length, P1 xss x) ∧ ∀ x < xss.length, ∀ (i : Nat) y, (rowOf xss x)[i]? = some y → P2 xss x y
theorem good_iff {xss : List (List Int)} : GoodQ xss ↔ GoodP xss := by
  constructor
  · rintro ⟨h1, h2, h3⟩
    have h3' : ∀ x < xss.length, ∀ y ∈ rowOf xss x, P2 xss x y := fun x hx y hy => by
      obtain ⟨i, hi⟩ := List.getElem?_of_mem hy
      exact h3 x hx i y hi
    refine ⟨h1, fun x hx => ?_, fun x hx => ⟨(h2 x hx).2, fun y hy => ⟨?_, fun z hz => ?_⟩⟩⟩
    · have := (h2 x hx).1
      simp only [Bool.and_eq_true] at this
      exact ⟨this.2, this.1⟩
    · rintro ⟨e1, e2, e3⟩
      have h4 := (h3' x hx y (hasI_iff.1 e3)).1
      exact h4 ⟨by omega, by simpa [leF] using e2⟩
    · rintro ⟨e1, e2, e3⟩
      have h4 := (h3' z hz y (hasI_iff.1 e2)).2
      have h5 := partL_iff.1 h4 x (by simpa [leF, hasI_iff] using e1)
      have : leF xss x z = true := hasI_iff.2 h5
      rw [this] at e3
      exact absurd e3 (by decide)
  · rintro ⟨h1, h2, h3⟩
    refine ⟨h1, fun x hx => ⟨by rw [(h2 x hx).1, (h2 x hx).2]; rfl, (h3 x hx).1⟩, fun x hx i y hy => ?_⟩
    have hm := List.mem_of_getElem? hy
    have hb := allIn_iff.1 (h2 x hx).2 y hm
    obtain ⟨y, rfl⟩ := Int.eq_ofNat_of_zero_le hb.1
    have hyn : y < xss.length := by omega
    refine ⟨?_, ?_⟩
    · rintro ⟨e1, e2⟩
      exact ((h3 x hx).2 y hyn).1 ⟨by omega, by simpa [leF] using e2, hasI_iff.2 hm⟩
    · rw [partL_iff]
      intro v hv
      have hvb := allIn_iff.1 (h2 y hyn).2 v (by simpa using hv)
      obtain ⟨v, rfl⟩ := Int.eq_ofNat_of_zero_le hvb.1
      have h4 := ((h3 v (by omega)).2 y hyn).2 x hx
      rcases e : leF xss v x with _ | _
      · exact absurd ⟨hasI_iff.2 (by simpa using hv), hasI_iff.2 hm, e⟩ h4
      · exact hasI_iff.1 e

theorem l1Has_is {A : Option Addr} {n c : Nat} {xs : List Int} {y : Int} {w : World} {r : Bool} (hr : hasI y xs = r) (h : RdL RI w A n xs) : Calls Try.prog 54 #[.slice A n c, .int .i64 y] w (Qt w (.bool r)) :=
  hr ▸ quiet_same (l1Has_any A n c xs y w h)
theorem l5Within_is {A B : Option Addr} {n m c d : Nat} {xs ys : List Int} {w : World} {r : Bool} (hr : partL ys xs = r) (h : RdL RI w A n xs) (h' : RdL RI w B m ys) : Calls Try.prog 34 #[.slice A n c, .slice B m d] w (Qt w (.bool r)) :=
  hr ▸ quiet_same (l5Within_any A B n m c d xs ys w h h')
theorem bad2 {xss : List (List Int)} {k i : Nat} {y : Int} (hk : k < xss.length) (hi : (rowOf xss k)[i]? = some y) (h : ¬ P2 xss k y) : ¬ GoodP xss := fun hg => h ((good_iff.2 hg).2.2 k hk i y hi)
theorem P2_iff {xss : List (List Int)} {k y : Nat} {s t : List Int} (hs : rowOf xss k = s) (ht : rowOf xss y = t) : P2 xss k (y : Int) ↔ ((((y : Int) != (k : Int)) && hasI k t) || !(partL s t)) = false := by
  unfold P2
  rw [Int.toNat_natCast, hs, ht]
  rcases hasI k t with _ | _ <;> rcases partL s t with _ | _ <;> simp
theorem P2_eq {xss : List (List Int)} {k y : Nat} {s t : List Int} {a b c : Bool} (hs : rowOf xss k = s) (ht : rowOf xss y = t) (ha : ((y : Int) != (k : Int)) = a) (hb : hasI k t = b) (hc : partL s t = c) (h : ((a && b) || !c) = true) : ¬ P2 xss k (y : Int) := by
  rw [P2_iff hs ht, ha, hb, hc, h]; decide
theorem P2_eq' {xss : List (List Int)} {k y : Nat} {s t : List Int} {a b c : Bool} (hs : rowOf xss k = s) (ht : rowOf xss y = t) (ha : ((y : Int) != (k : Int)) = a) (hb : hasI k t = b) (hc : partL s t = c) (h : ((a && b) || !c) = false) : P2 xss k (y : Int) := by
  rw [P2_iff hs ht, ha, hb, hc, h]

set_option maxRecDepth 20000 in
set_option maxHeartbeats 4000000 in
theorem l23Good_any (A : Option Addr) (n c : Nat) (xss : List (List Int)) (w : World) (h : RdL (RV RI) w A n xss) :
    Calls Try.prog 51 #[.agg #[.slice A n c]] w (Bl w (.bool (tt (GoodP xss)))) := by
  have hle := h.le
  have hlen := Lib.hid h.len
  have hb := below_box w (.cells #[.slice A n c] 26)
  have h1 := h.next stab_RVI hb
  have BX := Blk.new w 26 #[.slice A n c]
  have c0 := BX.cell 0
  simp at c0
  by_cases hn : n ≤ 10
  rotate_left
  · have HG : Hid (¬ GoodP xss) := fun hg => hn (by rw [← hlen.out]; exact hg.1)
    go_enter Try.func51, Try.ntmps51
    go_wp2
    go_ret
    exact ⟨ret_bool (tt_false HG.out), hb⟩
  · go_enter Try.func51, Try.ntmps51
    go_wp2
    have c1 := BX.cell 0
    clear c0 h BX
    generalize w.alloc (.cells #[.slice A n c] 26) = w1 at *
    simp at c1
    go_loopw [4] (fun i wr => ∃ k : Nat, k ≤ n ∧ i = .int .i64 k ∧ Hid (∀ x < k, P1 xss x) ∧ Drawn w1 wr) (fun i _ => n - (intOf i).toNat)
    case atStart => exact ⟨0, Nat.zero_le _, rfl, fun x hx => absurd hx (by omega), Drawn.zero _⟩
    case round =>
      obtain ⟨k, hk, rfl, HH, z, rfl⟩ := hrel
      by_cases hlt : k < n
      · obtain ⟨b, o, v, s, rfl, hc, ⟨B, j, d, rfl, hs⟩, -, hx⟩ := h1.at hlt
        have HX := Lib.hid (rowOf_get hx)
        have hk0 : (0 : Int) ≤ (k : Int) := by omega
        have hk1 : (k : Int) < (n : Int) := by omega
        clear hx
        rcases hr : (allIn 0 ((n : Int) - 1) s && risesL s) with _ | _
        · have HG : Hid (¬ GoodP xss) := fun hg => by
            have := ((good_iff.2 hg).2.1 k (by rw [hlen.out]; exact hlt)).1
            rw [HX.out, hlen.out, hr] at this
            exact absurd this (by decide)
          have HRR := Lib.hid hr
          clear hr
          go_wp2_with fail
          refine (l1Rising_any _ _ _ _ _ _ _ (hs.drewN stab_RI _)).mono ?_
          rintro e w' ⟨rfl, z', rfl⟩
          rw [HRR.out]
          go_wp2_with fail
          go_ret
          exact ⟨ret_bool (tt_false HG.out), (by first | exact hb | exact below_drewN (hb) _ | exact below_drewN (below_drewN (hb) _) _ | exact below_drewN (below_drewN (below_drewN (hb) _) _) _)⟩
        · have HRR := Lib.hid hr
          clear hr
          rcases hi : hasI k s with _ | _
          · have HG : Hid (¬ GoodP xss) := fun hg => by
              have := ((good_iff.2 hg).2.1 k (by rw [hlen.out]; exact hlt)).2
              rw [HX.out, hi] at this
              exact absurd this (by decide)
            have HI := Lib.hid hi
            clear hi
            go_wp2_with fail
            refine (l1Rising_any _ _ _ _ _ _ _ (hs.drewN stab_RI _)).mono ?_
            rintro e w' ⟨rfl, z', rfl⟩
            rw [HRR.out]
            go_wp2_with fail
            refine (l1Has_any _ _ _ _ _ _ (hs.drewN stab_RI _)).mono ?_
            rintro e w' ⟨rfl, rfl⟩
            rw [HI.out]
            go_wp2_with fail
            go_ret
            exact ⟨ret_bool (tt_false HG.out), (by first | exact hb | exact below_drewN (hb) _ | exact below_drewN (below_drewN (hb) _) _ | exact below_drewN (below_drewN (below_drewN (hb) _) _) _)⟩
          · have HI := Lib.hid hi
            have HP : Hid (P1 xss k) := ⟨by rw [HX.out, hlen.out]; exact HRR.out, by rw [HX.out]; exact hi⟩
            clear hi
            go_wp2_with fail
            refine (l1Rising_any _ _ _ _ _ _ _ (hs.drewN stab_RI _)).mono ?_
            rintro e w' ⟨rfl, z', rfl⟩
            rw [HRR.out]
            go_wp2_with fail
            refine (l1Has_any _ _ _ _ _ _ (hs.drewN stab_RI _)).mono ?_
            rintro e w' ⟨rfl, rfl⟩
            rw [HI.out]
            go_wp2_with fail
            go_roundw
            case rel => exact ⟨k + 1, by omega, by go_num, fun x hx => by
              rcases Nat.lt_or_ge x k with h1 | h1
              · exact HH.out x h1
              · have : x = k := by omega
                subst this
                exact HP.out, (by first | exact Drawn.zero _ | exact Drawn.at_ _ _ | exact (Drawn.at_ _ _).more _ | exact ((Drawn.at_ _ _).more _).more _)⟩
            case measure => simp [intOf]; omega
      · have HP : Hid (∀ x < n, P1 xss x) := fun x hx => HH.out x (by omega)
        clear HH
        go_wp2
        go_loopw [5, 6, 7] (fun i _ _ wr => ∃ k : Nat, k ≤ n ∧ i = .int .i64 k ∧ Hid (∀ x < k, ∀ (i : Nat) y, (rowOf xss x)[i]? = some y → P2 xss x y) ∧ Drawn w1 wr) (fun i _ _ _ => n - (intOf i).toNat)
        case atStart => exact ⟨0, Nat.zero_le _, rfl, fun x hx => absurd hx (by omega), (by first | exact Drawn.zero _ | exact Drawn.at_ _ _ | exact (Drawn.at_ _ _).more _ | exact ((Drawn.at_ _ _).more _).more _)⟩
        case round =>
          obtain ⟨k, hk, rfl, HH, z, rfl⟩ := hrel
          by_cases hlt : k < n
          · obtain ⟨b, o, v, s, rfl, hc, ⟨B, j, d, rfl, hs⟩, -, hx⟩ := h1.at hlt
            have HX := Lib.hid (rowOf_get hx)
            have HJ := Lib.hid hs.len
            have hk0 : (0 : Int) ≤ (k : Int) := by omega
            have hk1 : (k : Int) < (n : Int) := by omega
            have hjle := hs.le
            have HIN := Lib.hid (allIn_iff.1 ((Bool.and_eq_true _ _).mp (HP.out k hlt).1).1)
            clear hx
            go_wp2
            go_loopw [6, 7] (fun i _ wi => ∃ q : Nat, q ≤ j ∧ i = .int .i64 q ∧ Hid (∀ i < q, ∀ y, (rowOf xss k)[i]? = some y → P2 xss k y) ∧ Drawn w1 wi) (fun i _ _ => j - (intOf i).toNat)
            case atStart => exact ⟨0, Nat.zero_le _, rfl, fun i hi => absurd hi (by omega), (by first | exact Drawn.zero _ | exact Drawn.at_ _ _ | exact (Drawn.at_ _ _).more _ | exact ((Drawn.at_ _ _).more _).more _)⟩
            case round =>
              obtain ⟨q, hq, rfl, HQ, z, rfl⟩ := hrel
              by_cases hltq : q < j
              · obtain ⟨B1, B2, v, y, rfl, hcy, ⟨rfl, -⟩, -, hxy⟩ := hs.at hltq
                have HXY : Hid ((rowOf xss k)[q]? = some y) := by rw [HX.out]; exact hxy
                have hy := HIN.out y (by rw [HX.out]; exact List.mem_of_getElem? hxy)
                obtain ⟨y, rfl⟩ := Int.eq_ofNat_of_zero_le hy.1
                have hyn : y < n := by have := hlen.out; omega
                have hy0 : (0 : Int) ≤ (y : Int) := by omega
                have hy1 : (y : Int) < (n : Int) := by omega
                have hq0 : (0 : Int) ≤ (q : Int) := by omega
                have hq1 : (q : Int) < (j : Int) := by omega
                obtain ⟨v', t, hct, ⟨B', j', d', rfl, ht⟩, -, hxt⟩ := h1.at' hyn
                have HT := Lib.hid (rowOf_get hxt)
                clear hxy hy hxt
                rcases hyk : ((y : Int) != (k : Int)) with _ | _
                all_goals
                  rcases hb1 : hasI k t with _ | _
                  all_goals
                    rcases hb2 : partL s t with _ | _
                    all_goals
                      have HYK := Lib.hid hyk
                      have HB1 := Lib.hid hb1
                      have HB2 := Lib.hid hb2
                      clear hb1 hb2
                      go_wp2
                      go_quiet ((first | (go_at_call 54; exact quiet_add (l1Has_is HB1.out (ht.drewN stab_RI _))) | (go_at_call 34; exact quiet_add (l5Within_is HB2.out (ht.drewN stab_RI _) (hs.drewN stab_RI _)))))
                      go_wp2
                      first
                        | (go_ret
                           exact ⟨ret_bool (tt_false (bad2 (by rw [hlen.out]; exact hlt) HXY.out (P2_eq HX.out HT.out HYK.out HB1.out HB2.out (by decide)))), (by first | exact hb | exact below_drewN (hb) _ | exact below_drewN (below_drewN (hb) _) _ | exact below_drewN (below_drewN (below_drewN (hb) _) _) _)⟩)
                        | (go_roundw
                           case rel => exact ⟨q + 1, by omega, by go_num, fun i hi y' hy' => by
                             rcases Nat.lt_or_ge i q with h1 | h1
                             · exact HQ.out i h1 y' hy'
                             · have : i = q := by omega
                               subst this
                               rw [HXY.out] at hy'
                               injection hy' with hy'
                               subst hy'
                               exact P2_eq' HX.out HT.out HYK.out HB1.out HB2.out (by decide), (by first | exact Drawn.zero _ | exact Drawn.at_ _ _ | exact (Drawn.at_ _ _).more _ | exact ((Drawn.at_ _ _).more _).more _)⟩
                           case measure => simp [intOf]; omega)
              · have HN : Hid (∀ (i : Nat) y, (rowOf xss k)[i]? = some y → P2 xss k y) := fun i y hy => HQ.out i (by
                  have := (List.getElem?_eq_some_iff.1 hy).1
                  rw [HX.out, HJ.out] at this
                  omega) y hy
                clear HQ
                go_wp2
                go_roundw
                case rel => exact ⟨k + 1, by omega, by go_num, fun x hx => by
                  rcases Nat.lt_or_ge x k with h1 | h1
                  · exact HH.out x h1
                  · have : x = k := by omega
                    subst this
                    exact HN.out, (by first | exact Drawn.zero _ | exact Drawn.at_ _ _ | exact (Drawn.at_ _ _).more _ | exact ((Drawn.at_ _ _).more _).more _)⟩
                case measure => simp [intOf]; omega
          · have HG : Hid (GoodP xss) := good_iff.1 ⟨by rw [hlen.out]; exact hn, by rw [hlen.out]; exact HP.out, by rw [hlen.out]; exact fun x hx => HH.out x (by omega)⟩
            go_wp2
            go_ret
            exact ⟨ret_bool (tt_true HG.out), (by first | exact hb | exact below_drewN (hb) _ | exact below_drewN (below_drewN (hb) _) _ | exact below_drewN (below_drewN (below_drewN (hb) _) _) _)⟩
end Go.Proofs.Ytlncpabnlnipoaa
