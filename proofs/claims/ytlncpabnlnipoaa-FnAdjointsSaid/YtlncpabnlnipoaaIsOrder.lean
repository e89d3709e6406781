
/- Walks: when a relation is an order (the program's isOrder). -/
import Derived.Test.YtlncpabnlnipoaaPoset
namespace Go.Proofs.Ytlncpabnlnipoaa
open Go.RowKit

noncomputable def tt (p : Prop) : Bool := @decide p (Classical.propDecidable p)
theorem tt_true {p : Prop} (h : p) : true = tt p := by unfold tt; simp [h]
theorem tt_false {p : Prop} (h : ¬ p) : false = tt p := by unfold tt; simp [h]
theorem tt_iff {p : Prop} : tt p = true ↔ p := by unfold tt; simp
theorem tt_congr {p q : Prop} (h : p ↔ q) : tt p = tt q := by unfold tt; simp [h]

def TrP (F : Nat → Nat → Bool) (x y z : Nat) : Prop := ¬ (F x y = true ∧ F y z = true ∧ F x z = false)
def AnP (n : Nat) (F : Nat → Nat → Bool) (x y : Nat) : Prop := ¬ (x ≠ y ∧ F x y = true ∧ F y x = true) ∧ ∀ z < n, TrP F x y z
def OrP (n : Nat) (F : Nat → Nat → Bool) (x : Nat) : Prop := F x x = true ∧ ∀ y < n, AnP n F x y
def OrdP (n : Nat) (F : Nat → Nat → Bool) : Prop := ∀ x < n, OrP n F x

theorem RdL.rowT {w : World} {b o n : Nat} {F : Nat → Nat → Bool} (h : RdL (RV RB) w (some ⟨b, o, none⟩) n (tab n F)) {i : Nat} (hi : i < n) :
    ∃ r p d, w.cell? ⟨b, o + i, none⟩ = some (.slice (some ⟨r, p, none⟩) n d) ∧ ∀ k, k < n → w.cell? ⟨r, p + k, none⟩ = some (.bool (F i k)) := by
  obtain ⟨v, row, hc, ⟨B, m, d, rfl, hr⟩, -, hx⟩ := h.at' hi
  rw [tab_get hi] at hx
  injection hx with hx
  subst hx
  have hm : m = n := by have := hr.len; simpa using this.symm
  subst hm
  obtain ⟨r, p, -, -, rfl, -⟩ := hr.at hi
  refine ⟨r, p, d, hc, fun k hk => ?_⟩
  obtain ⟨v, x, hc', hv, -, hx'⟩ := hr.at' hk
  rw [row_get hk] at hx'
  injection hx' with hx'
  subst hx'
  rw [hv] at hc'
  exact hc'
theorem RdL.addr {α : Type} {R : World → Value → α → Prop} {w : World} {A : Option Addr} {n : Nat} {xs : List α} (h : RdL R w A n xs) {k : Nat} (hk : k < n) : ∃ b o, A = some ⟨b, o, none⟩ := by
  obtain ⟨b, o, -, -, e, -⟩ := h.at hk
  exact ⟨b, o, e⟩

set_option maxHeartbeats 1000000 in
theorem isOrder_any (A : Option Addr) (n c : Nat) (F : Nat → Nat → Bool) (w : World) (h : RdL (RV RB) w A n (tab n F)) :
    Calls Try.prog 60 #[.slice A n c] w fun e w' => e = .returned (.bool (tt (OrdP n F))) ∧ w = w' := by
  have hle := h.le
  go_enter Try.func60, Try.ntmps60
  go_wp2
  go_loop [8] (fun i => ∃ k : Nat, k ≤ n ∧ i = .int .i64 k ∧ ∀ x < k, OrP n F x) (fun i => n - (intOf i).toNat)
  case atStart => exact ⟨0, Nat.zero_le _, rfl, fun x hx => absurd hx (by omega)⟩
  case round =>
    obtain ⟨k, hk, rfl, H⟩ := hrel
    have HH := Lib.hid H
    clear H
    by_cases hlt : k < n
    · obtain ⟨b, o, rfl⟩ := h.addr hlt
      obtain ⟨r, p, d, hc1, hall⟩ := h.rowT hlt
      have HA := Lib.hid hall
      have hc2 := hall k hlt
      clear hall
      have hk0 : (0 : Int) ≤ (k : Int) := by omega
      have hk1 : (k : Int) < (n : Int) := by omega
      rcases hkk : F k k with _ | _
      · rw [hkk] at hc2
        have HK := Lib.hid hkk
        clear hkk
        go_wp2
        go_ret
        exact ⟨ret_bool (tt_false fun hh => by have := (hh k hlt).1; rw [HK.out] at this; exact absurd this (by decide)), rfl⟩
      · rw [hkk] at hc2
        have HK := Lib.hid hkk
        clear hkk
        go_wp2
        clear hc2
        go_loop [21] (fun i => ∃ q : Nat, q ≤ n ∧ i = .int .i64 q ∧ ∀ y < q, AnP n F k y) (fun i => n - (intOf i).toNat)
        case atStart => exact ⟨0, Nat.zero_le _, rfl, fun x hx => absurd hx (by omega)⟩
        case round =>
          obtain ⟨q, hq, rfl, H2⟩ := hrel
          have HH2 := Lib.hid H2
          clear H2
          by_cases hltq : q < n
          · obtain ⟨r2, p2, d2, hc3, hall2⟩ := h.rowT hltq
            have HA2 := Lib.hid hall2
            have hq0 : (0 : Int) ≤ (q : Int) := by omega
            have hq1 : (q : Int) < (n : Int) := by omega
            clear hall2
            have hkq := HA.out q hltq
            have hqk := HA2.out k hlt
            by_cases hbad : k ≠ q ∧ F k q = true ∧ F q k = true
            · rw [hbad.2.1] at hkq
              rw [hbad.2.2] at hqk
              have hne : ((k : Int) != (q : Int)) = true := by rw [bne_iff_ne]; have := hbad.1; omega
              have HB := Lib.hid hbad
              clear hbad
              go_wp2
              go_ret
              exact ⟨ret_bool (tt_false fun hh => ((hh k hlt).2 q hltq).1 HB.out), rfl⟩
            · have HB := Lib.hid hbad
              have hloop : ∀ z, z < n → w.cell? ⟨r2, p2 + z, none⟩ = some (.bool (F q z)) := HA2.out
              have HL := Lib.hid hloop
              clear hloop
              rcases hF1 : F k q with _ | _
              all_goals
                rcases hF2 : F q k with _ | _
              all_goals
                rw [hF1] at hkq
                rw [hF2] at hqk
                have HF1 := Lib.hid hF1
                have HF2 := Lib.hid hF2
                rcases hkqe : ((k : Int) != (q : Int)) with _ | _
                all_goals first
                  | (exfalso; exact HB.out ⟨by rw [bne_iff_ne] at hkqe; omega, HF1.out, HF2.out⟩)
                  | skip
              all_goals
                clear hF1 hF2
                go_wp2
                go_loop [47] (fun i => ∃ z : Nat, z ≤ n ∧ i = .int .i64 z ∧ ∀ y < z, TrP F k q y) (fun i => n - (intOf i).toNat)
                case atStart => exact ⟨0, Nat.zero_le _, rfl, fun x hx => absurd hx (by omega)⟩
                case round =>
                  obtain ⟨z, hz, rfl, H3⟩ := hrel
                  have HH3 := Lib.hid H3
                  clear H3
                  by_cases hltz : z < n
                  · have hqz := HA2.out z hltz
                    have hkz := HA.out z hltz
                    have hz0 : (0 : Int) ≤ (z : Int) := by omega
                    have hz1 : (z : Int) < (n : Int) := by omega
                    rcases hG1 : F q z with _ | _
                    all_goals
                      rcases hG2 : F k z with _ | _
                    all_goals
                      rw [hG1] at hqz
                      rw [hG2] at hkz
                      have HG1 := Lib.hid hG1
                      have HG2 := Lib.hid hG2
                      clear hG1 hG2
                      go_wp2
                      first
                        | (go_round
                           case rel => exact ⟨z + 1, by omega, by go_num, fun y hy => by
                             rcases Nat.lt_or_ge y z with h1 | h1
                             · exact HH3.out y h1
                             · have : y = z := by omega
                               subst this
                               unfold TrP
                               rw [HF1.out, HG1.out, HG2.out]
                               decide⟩
                           case measure => simp [intOf]; omega)
                        | (go_ret
                           exact ⟨ret_bool (tt_false fun hh => ((hh k hlt).2 q hltq).2 z hltz ⟨HF1.out, HG1.out, HG2.out⟩), rfl⟩)
                  · have HE := Lib.hid (show ∀ y < n, TrP F k q y from fun y hy => HH3.out y (by omega))
                    go_wp2
                    go_round
                    case rel => exact ⟨q + 1, by omega, by go_num, fun y hy => by
                      rcases Nat.lt_or_ge y q with h1 | h1
                      · exact HH2.out y h1
                      · have : y = q := by omega
                        subst this
                        exact ⟨HB.out, HE.out⟩⟩
                    case measure => simp [intOf]; omega
          · have HE := Lib.hid (show ∀ y < n, AnP n F k y from fun y hy => HH2.out y (by omega))
            go_wp2
            go_round
            case rel => exact ⟨k + 1, by omega, by go_num, fun y hy => by
              rcases Nat.lt_or_ge y k with h1 | h1
              · exact HH.out y h1
              · have : y = k := by omega
                subst this
                exact ⟨HK.out, HE.out⟩⟩
            case measure => simp [intOf]; omega
    · have HE := Lib.hid (show OrdP n F from fun x hx => HH.out x (by omega))
      go_wp2
      go_ret
      exact ⟨ret_bool (tt_true HE.out), rfl⟩
end Go.Proofs.Ytlncpabnlnipoaa
namespace Go.Proofs.Ytlncpabnlnipoaa
open Go.RowKit

def rowOf (xss : List (List Int)) (x : Nat) : List Int := xss.getD x []
theorem rowOf_get {xss : List (List Int)} {x : Nat} {s : List Int} (h : xss[x]? = some s) : rowOf xss x = s := by simp [rowOf, List.getD_eq_getElem?_getD, h]
/-- y is at most x: it stands in x's list. -/
def leF (xss : List (List Int)) : Nat → Nat → Bool := fun y x => hasI y (rowOf xss x)
def RowP (xss : List (List Int)) (x : Nat) : Prop := risesL (rowOf xss x) = true ∧ allIn 0 ((xss.length : Int) - 1) (rowOf xss x) = true
def GoodP (xss : List (List Int)) : Prop := xss.length ≤ 10 ∧ (∀ x < xss.length, RowP xss x) ∧ OrdP xss.length (leF xss)
/-- The relation as far as it is laid: the first k lists, and j of the next one. -/
def Lto (xss : List (List Int)) (k j : Nat) : Nat → Nat → Bool := fun y x => (decide (x < k) && leF xss y x) || (decide (x = k) && hasI y ((rowOf xss k).take j))
theorem Lto_zero {n : Nat} (xss : List (List Int)) : tab n (Lto xss 0 0) = tab n (fun _ _ => false) := by
  refine tab_ext fun y _ x _ => ?_
  unfold Lto
  simp [hasI]
theorem hasI_snoc {x y : Int} : ∀ {l : List Int}, hasI x (l ++ [y]) = (hasI x l || x == y) := by
  intro l
  rw [Bool.eq_iff_iff]
  simp [hasI_iff]
theorem Lto_step {n : Nat} (xss : List (List Int)) {k j v : Nat} (hj : (rowOf xss k)[j]? = some (v : Int)) : tab n (upd (Lto xss k j) v k true) = tab n (Lto xss k (j + 1)) := by
  refine tab_ext fun y _ x _ => ?_
  unfold upd Lto
  have e : (rowOf xss k).take (j + 1) = (rowOf xss k).take j ++ [(v : Int)] := by rw [List.take_add_one, hj]; rfl
  rw [e, hasI_snoc]
  by_cases hx : x = k
  · subst hx
    by_cases hy : y = v
    · subst hy
      simp
    · have : ((y : Int) == (v : Int)) = false := by rw [beq_eq_false_iff_ne]; omega
      simp [hy, this]
  · simp [hx]
theorem Lto_next {n : Nat} (xss : List (List Int)) {k j : Nat} (hj : (rowOf xss k).length ≤ j) : tab n (Lto xss k j) = tab n (Lto xss (k + 1) 0) := by
  refine tab_ext fun y _ x _ => ?_
  unfold Lto leF
  rw [List.take_of_length_le hj]
  by_cases hx : x = k
  · subst hx
    simp
  · by_cases h1 : x < k
    · simp [h1, hx, show x < k + 1 by omega, hasI]
    · simp [h1, hx, show ¬ x < k + 1 by omega, hasI]
theorem Lto_all {n : Nat} (xss : List (List Int)) : tab n (Lto xss n 0) = tab n (leF xss) := by
  refine tab_ext fun y _ x hx => ?_
  unfold Lto
  simp [hx, hasI]

/-- The call hands back an order (of its own, where it is one) and whether it is one. -/
def OrdR (w : World) (n : Nat) (xss : List (List Int)) (e : Ending) (w' : World) : Prop :=
  ∃ A m c, e = .returned (.tuple #[.slice A m c, .bool (tt (GoodP xss))]) ∧ (GoodP xss → m = n ∧ RdL (RV RB) w' A n (tab n (leF xss))) ∧ Below w.heap.size w w'

set_option maxRecDepth 20000 in
set_option maxHeartbeats 1000000 in
theorem orderOf_any (A : Option Addr) (n c : Nat) (xss : List (List Int)) (w : World) (h : RdL (RV RI) w A n xss) :
    Calls Try.prog 42 #[.agg #[.slice A n c]] w (OrdR w n xss) := by
  have hle := h.le
  have hlen := Lib.hid h.len
  have hb0 := below_box w (.cells #[.slice A n c] 26)
  have BX := Blk.new w 26 #[.slice A n c]
  have c0 := BX.cell 0
  simp at c0
  by_cases hn : n ≤ 10
  rotate_left
  · have HG : Hid (¬ GoodP xss) := fun hg => hn (by rw [← hlen.out]; exact hg.1)
    go_enter Try.func42, Try.ntmps42
    go_wp2
    go_ret2
    exact ⟨none, 0, 0, by rw [← tt_false HG.out]; rfl, fun hg => absurd hg HG.out, hb0⟩
  · go_enter Try.func42, Try.ntmps42
    go_wp2_with fail
    refine (newOrder_any n _ (by omega)).mono ?_
    rintro e w2 ⟨g, rfl, ho2, hb2⟩
    have hlt0 := BX.lt
    replace BX := BX.next hb2
    have hT2 := below_next hb0 hb2 rfl
    have ho : OwT (w.heap.size + 1) w2 g n (Lto xss 0 0) := by
      show OwM _ _ _ _ _ _ _ (tab n (Lto xss 0 0))
      rw [Lto_zero]
      exact ho2.mono hlt0
    have c1 := BX.cell 0
    simp at c1
    clear ho2 hb2 hb0 c0 hlt0
    go_wp2_with fail
    clear c1
    go_loopw [20] (fun i wr => ∃ k : Nat, k ≤ n ∧ i = .int .i64 k ∧ Hid (∀ x < k, RowP xss x) ∧ OwT (w.heap.size + 1) wr g n (Lto xss k 0) ∧ Below w.heap.size w wr) (fun i _ => n - (intOf i).toNat)
    case atStart => exact ⟨0, Nat.zero_le _, rfl, fun x hx => absurd hx (by omega), ho, hT2⟩
    case round =>
      clear ho hT2 BX
      obtain ⟨k, hk, rfl, HH, ho, hT⟩ := hrel
      by_cases hlt : k < n
      · obtain ⟨b, o, v, s, rfl, hc0, ⟨B, j, d, rfl, hs⟩, -, hx⟩ := h.at hlt
        have HX := Lib.hid (rowOf_get hx)
        have HLS := Lib.hid hs.len
        have hc : wr.cell? ⟨b, o + k, none⟩ = some (.slice B j d) := (hT.cell (p := ⟨b, o + k, none⟩) (cell_lt hc0)).trans hc0
        have hs' := hs.next stab_RI hT
        have hk0 : (0 : Int) ≤ (k : Int) := by omega
        have hk1 : (k : Int) < (n : Int) := by omega
        have hjle := hs.le
        clear hx hc0
        rcases hr : risesL s with _ | _
        · have HG : Hid (¬ GoodP xss) := fun hg => by
            have := (hg.2.1 k (by rw [hlen.out]; exact hlt)).1
            rw [HX.out, hr] at this
            exact absurd this (by decide)
          have HRR := Lib.hid hr
          clear hr
          go_wp2_with fail
          refine (rises_any _ _ _ _ _ hs').mono ?_
          rintro e w' ⟨rfl, z, rfl⟩
          rw [HRR.out]
          go_wp2_with fail
          go_ret2
          exact ⟨none, 0, 0, by rw [← tt_false HG.out]; rfl, fun hg => absurd hg HG.out, below_drewN hT _⟩
        · have HRR := Lib.hid hr
          clear hr
          rcases hi : allIn 0 ((n : Int) - 1) s with _ | _
          · have HG : Hid (¬ GoodP xss) := fun hg => by
              have := (hg.2.1 k (by rw [hlen.out]; exact hlt)).2
              rw [HX.out, hlen.out, hi] at this
              exact absurd this (by decide)
            have HI := Lib.hid hi
            clear hi
            go_wp2_with fail
            refine (rises_any _ _ _ _ _ hs').mono ?_
            rintro e w' ⟨rfl, z, rfl⟩
            rw [HRR.out]
            go_wp2_with fail
            refine (inSize_any _ _ _ _ _ _ (hs'.drewN stab_RI _)).mono ?_
            rintro e w' ⟨rfl, rfl⟩
            rw [HI.out]
            go_wp2_with fail
            go_ret2
            exact ⟨none, 0, 0, by rw [← tt_false HG.out]; rfl, fun hg => absurd hg HG.out, below_drewN hT _⟩
          · have HI := Lib.hid hi
            have HRow : Hid (RowP xss k) := ⟨by rw [HX.out]; exact HRR.out, by rw [HX.out, hlen.out]; exact hi⟩
            have HIN := Lib.hid (allIn_iff.1 hi)
            clear hi
            go_wp2_with fail
            refine (rises_any _ _ _ _ _ hs').mono ?_
            rintro e w' ⟨rfl, z, rfl⟩
            rw [HRR.out]
            go_wp2_with fail
            refine (inSize_any _ _ _ _ _ _ (hs'.drewN stab_RI _)).mono ?_
            rintro e w' ⟨rfl, rfl⟩
            rw [HI.out]
            go_wp2_with fail
            go_loopw [36] (fun i wi => ∃ q : Nat, q ≤ j ∧ i = .int .i64 q ∧ OwT (w.heap.size + 1) wi g n (Lto xss k q) ∧ Below w.heap.size w wi) (fun i _ => j - (intOf i).toNat)
            case atStart => exact ⟨0, Nat.zero_le _, rfl, ho, below_drewN hT _⟩
            case round =>
              clear ho hT hs' hc
              obtain ⟨q, hq, rfl, ho, hT⟩ := hrel
              by_cases hltq : q < j
              · have hs' := hs.next stab_RI hT
                obtain ⟨B1, B2, v, y, rfl, hcy, ⟨rfl, -⟩, -, hxy⟩ := hs'.at hltq
                have hy := HIN.out y (List.mem_of_getElem? hxy)
                obtain ⟨y, rfl⟩ := Int.eq_ofNat_of_zero_le hy.1
                have hyn : y < n := by omega
                obtain ⟨r, dr, hgr, hcell, hlo, hrl, hcs, hset⟩ := ho.get hyn
                obtain ⟨hcq, hfq⟩ := hcs k hlt
                have hst := hset k true hlt
                have hLS := Lib.hid (Lto_step (n := n) xss (k := k) (j := q) (v := y) (by rw [HX.out]; exact hxy))
                have hy0 : (0 : Int) ≤ (y : Int) := by omega
                have hy1 : (y : Int) < (n : Int) := by omega
                clear hxy hcs hset hy
                go_wp2
                go_roundw
                case rel => exact ⟨q + 1, by omega, by go_num, by
                  show OwM _ _ _ _ _ _ _ (tab n (Lto xss k (q + 1)))
                  rw [← hLS.out]
                  exact hst, hT.setCell (p := ⟨r, k, none⟩) (by show w.heap.size ≤ r; omega) _⟩
                case measure => simp [intOf]; omega
              · go_wp2
                go_roundw
                case rel => exact ⟨k + 1, by omega, by go_num, fun x hx => by
                  rcases Nat.lt_or_ge x k with h1 | h1
                  · exact HH.out x h1
                  · have : x = k := by omega
                    subst this
                    exact HRow.out, by
                  show OwM _ _ _ _ _ _ _ (tab n (Lto xss (k + 1) 0))
                  rw [← Lto_next xss (k := k) (j := q) (by rw [HX.out, HLS.out]; omega)]
                  exact ho, hT⟩
                case measure => simp [intOf]; omega
      · obtain rfl : k = n := by omega
        have ho' : OwM 64 4 Value.bool (w.heap.size + 1) wr (.slice (some ⟨g, 0, none⟩) k k) k (tab k (leF xss)) := by
          rw [← Lto_all xss]
          exact ho
        have hrd := ho'.rd (R := RB) (fun xs _ x _ => rfl)
        have HE : Hid (tt (OrdP k (leF xss)) = tt (GoodP xss)) := by
          refine tt_congr ⟨fun h1 => ⟨by rw [hlen.out]; exact hn, by rw [hlen.out]; exact HH.out, by rw [hlen.out]; exact h1⟩, fun h1 => ?_⟩
          have := h1.2.2
          rwa [hlen.out] at this
        go_wp2_with fail
        refine (isOrder_any _ _ _ _ _ hrd).mono ?_
        rintro e w' ⟨rfl, rfl⟩
        go_wp2_with fail
        go_ret2
        exact ⟨_, k, k, by rw [← HE.out]; rfl, fun _ => ⟨rfl, hrd⟩, hT⟩
end Go.Proofs.Ytlncpabnlnipoaa
