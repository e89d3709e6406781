
/- Walks: orderOf, twoOrders, isPosetMap, monotone (the program's orders out of posets). -/
import Derived.Test.YtfcjhmaggefhaaaIsOrder
namespace Go.Proofs.Ytfcjhmaggefhaaa
open Go.RowKit

def rowOf (xss : List (List Int)) (x : Nat) : List Int := xss.getD x []
theorem rowOf_get {xss : List (List Int)} {x : Nat} {s : List Int} (h : xss[x]? = some s) : rowOf xss x = s := by simp [rowOf, List.getD_eq_getElem?_getD, h]
/-- y is at most x: it stands in x's list. -/
def leF (xss : List (List Int)) : Nat → Nat → Bool := fun y x => hasI y (rowOf xss x)
def RowP (xss : List (List Int)) (x : Nat) : Prop := risesL (rowOf xss x) = true ∧ allIn 0 ((xss.length : Int) - 1) (rowOf xss x) = true
def GoodP (xss : List (List Int)) : Prop := xss.length ≤ 10 ∧ (∀ x < xss.length, RowP xss x) ∧ OrdP xss.length (leF xss)
/-- The relation as far as it is laid: the first k lists, and j of the next one. -/
def Lto (xss : List (List Int)) (k j : Nat) : Nat → Nat → Bool := fun y x => (decide (x < k) && leF xss y x) || (decide (x = k) && hasI y ((rowOf xss k).take j))
theorem Lto_zero {n : Nat} (xss : List (List Int)) : tab n (Lto xss 0 0) = tab n (fun _ _ => false) := by
  refine tab_ext fun y _ x _ => ?_
  unfold Lto
  simp [hasI]
theorem hasI_snoc {x y : Int} : ∀ {l : List Int}, hasI x (l ++ [y]) = (hasI x l || x == y) := by
  intro l
  rw [Bool.eq_iff_iff]
  simp [hasI_iff]
theorem Lto_step {n : Nat} (xss : List (List Int)) {k j v : Nat} (hj : (rowOf xss k)[j]? = some (v : Int)) : tab n (upd (Lto xss k j) v k true) = tab n (Lto xss k (j + 1)) := by
  refine tab_ext fun y _ x _ => ?_
  unfold upd Lto
  have e : (rowOf xss k).take (j + 1) = (rowOf xss k).take j ++ [(v : Int)] := by rw [List.take_add_one, hj]; rfl
  rw [e, hasI_snoc]
  by_cases hx : x = k
  · subst hx
    by_cases hy : y = v
    · subst hy
      simp
    · have : ((y : Int) == (v : Int)) = false := by rw [beq_eq_false_iff_ne]; omega
      simp [hy, this]
  · simp [hx]
theorem Lto_next {n : Nat} (xss : List (List Int)) {k j : Nat} (hj : (rowOf xss k).length ≤ j) : tab n (Lto xss k j) = tab n (Lto xss (k + 1) 0) := by
  refine tab_ext fun y _ x _ => ?_
  unfold Lto leF
  rw [List.take_of_length_le hj]
  by_cases hx : x = k
  · subst hx
    simp
  · by_cases h1 : x < k
    · simp [h1, hx, show x < k + 1 by omega, hasI]
    · simp [h1, hx, show ¬ x < k + 1 by omega, hasI]
theorem Lto_all {n : Nat} (xss : List (List Int)) : tab n (Lto xss n 0) = tab n (leF xss) := by
  refine tab_ext fun y _ x hx => ?_
  unfold Lto
  simp [hx, hasI]

/-- The call hands back an order (of its own, where it is one) and whether it is one. -/
def OrdR (w : World) (n : Nat) (xss : List (List Int)) (e : Ending) (w' : World) : Prop :=
  ∃ A m c, e = .returned (.tuple #[.slice A m c, .bool (tt (GoodP xss))]) ∧ (GoodP xss → m = n ∧ RdL (RV RB) w' A n (tab n (leF xss))) ∧ Below w.heap.size w w'

set_option maxRecDepth 20000 in
set_option maxHeartbeats 1000000 in
theorem orderOf_any (A : Option Addr) (n c : Nat) (xss : List (List Int)) (w : World) (h : RdL (RV RI) w A n xss) :
    Calls Try.prog 142 #[.agg #[.slice A n c]] w (OrdR w n xss) := by
  have hle := h.le
  have hlen := Lib.hid h.len
  have hb0 := below_box w (.cells #[.slice A n c] 29)
  have BX := Blk.new w 29 #[.slice A n c]
  have c0 := BX.cell 0
  simp at c0
  by_cases hn : n ≤ 10
  rotate_left
  · have HG : Hid (¬ GoodP xss) := fun hg => hn (by rw [← hlen.out]; exact hg.1)
    go_enter Try.func142, Try.ntmps142
    go_wp2
    go_ret2
    exact ⟨none, 0, 0, by rw [← tt_false HG.out]; rfl, fun hg => absurd hg HG.out, hb0⟩
  · go_enter Try.func142, Try.ntmps142
    go_wp2_with fail
    refine (newOrder_any n _ (by omega)).mono ?_
    rintro e w2 ⟨g, rfl, ho2, hb2⟩
    have hlt0 := BX.lt
    replace BX := BX.next hb2
    have hT2 := below_next hb0 hb2 rfl
    have ho : OwT (w.heap.size + 1) w2 g n (Lto xss 0 0) := by
      show OwM _ _ _ _ _ _ _ (tab n (Lto xss 0 0))
      rw [Lto_zero]
      exact ho2.mono hlt0
    have c1 := BX.cell 0
    simp at c1
    clear ho2 hb2 hb0 c0 hlt0
    go_wp2_with fail
    clear c1
    go_loopw [20] (fun i wr => ∃ k : Nat, k ≤ n ∧ i = .int .i64 k ∧ Hid (∀ x < k, RowP xss x) ∧ OwT (w.heap.size + 1) wr g n (Lto xss k 0) ∧ Below w.heap.size w wr) (fun i _ => n - (intOf i).toNat)
    case atStart => exact ⟨0, Nat.zero_le _, rfl, fun x hx => absurd hx (by omega), ho, hT2⟩
    case round =>
      clear ho hT2 BX
      obtain ⟨k, hk, rfl, HH, ho, hT⟩ := hrel
      by_cases hlt : k < n
      · obtain ⟨b, o, v, s, rfl, hc0, ⟨B, j, d, rfl, hs⟩, -, hx⟩ := h.at hlt
        have HX := Lib.hid (rowOf_get hx)
        have HLS := Lib.hid hs.len
        have hc : wr.cell? ⟨b, o + k, none⟩ = some (.slice B j d) := (hT.cell (p := ⟨b, o + k, none⟩) (cell_lt hc0)).trans hc0
        have hs' := hs.next stab_RI hT
        have hk0 : (0 : Int) ≤ (k : Int) := by omega
        have hk1 : (k : Int) < (n : Int) := by omega
        have hjle := hs.le
        clear hx hc0
        rcases hr : risesL s with _ | _
        · have HG : Hid (¬ GoodP xss) := fun hg => by
            have := (hg.2.1 k (by rw [hlen.out]; exact hlt)).1
            rw [HX.out, hr] at this
            exact absurd this (by decide)
          have HRR := Lib.hid hr
          clear hr
          go_wp2_with fail
          refine (rises_any _ _ _ _ _ hs').mono ?_
          rintro e w' ⟨rfl, z, rfl⟩
          rw [HRR.out]
          go_wp2_with fail
          go_ret2
          exact ⟨none, 0, 0, by rw [← tt_false HG.out]; rfl, fun hg => absurd hg HG.out, below_drewN hT _⟩
        · have HRR := Lib.hid hr
          clear hr
          rcases hi : allIn 0 ((n : Int) - 1) s with _ | _
          · have HG : Hid (¬ GoodP xss) := fun hg => by
              have := (hg.2.1 k (by rw [hlen.out]; exact hlt)).2
              rw [HX.out, hlen.out, hi] at this
              exact absurd this (by decide)
            have HI := Lib.hid hi
            clear hi
            go_wp2_with fail
            refine (rises_any _ _ _ _ _ hs').mono ?_
            rintro e w' ⟨rfl, z, rfl⟩
            rw [HRR.out]
            go_wp2_with fail
            refine (inSize_any _ _ _ _ _ _ (hs'.drewN stab_RI _)).mono ?_
            rintro e w' ⟨rfl, rfl⟩
            rw [HI.out]
            go_wp2_with fail
            go_ret2
            exact ⟨none, 0, 0, by rw [← tt_false HG.out]; rfl, fun hg => absurd hg HG.out, below_drewN hT _⟩
          · have HI := Lib.hid hi
            have HRow : Hid (RowP xss k) := ⟨by rw [HX.out]; exact HRR.out, by rw [HX.out, hlen.out]; exact hi⟩
            have HIN := Lib.hid (allIn_iff.1 hi)
            clear hi
            go_wp2_with fail
            refine (rises_any _ _ _ _ _ hs').mono ?_
            rintro e w' ⟨rfl, z, rfl⟩
            rw [HRR.out]
            go_wp2_with fail
            refine (inSize_any _ _ _ _ _ _ (hs'.drewN stab_RI _)).mono ?_
            rintro e w' ⟨rfl, rfl⟩
            rw [HI.out]
            go_wp2_with fail
            go_loopw [36] (fun i wi => ∃ q : Nat, q ≤ j ∧ i = .int .i64 q ∧ OwT (w.heap.size + 1) wi g n (Lto xss k q) ∧ Below w.heap.size w wi) (fun i _ => j - (intOf i).toNat)
            case atStart => exact ⟨0, Nat.zero_le _, rfl, ho, below_drewN hT _⟩
            case round =>
              clear ho hT hs' hc
              obtain ⟨q, hq, rfl, ho, hT⟩ := hrel
              by_cases hltq : q < j
              · have hs' := hs.next stab_RI hT
                obtain ⟨B1, B2, v, y, rfl, hcy, ⟨rfl, -⟩, -, hxy⟩ := hs'.at hltq
                have hy := HIN.out y (List.mem_of_getElem? hxy)
                obtain ⟨y, rfl⟩ := Int.eq_ofNat_of_zero_le hy.1
                have hyn : y < n := by omega
                obtain ⟨r, dr, hgr, hcell, hlo, hrl, hcs, hset⟩ := ho.get hyn
                obtain ⟨hcq, hfq⟩ := hcs k hlt
                have hst := hset k true hlt
                have hLS := Lib.hid (Lto_step (n := n) xss (k := k) (j := q) (v := y) (by rw [HX.out]; exact hxy))
                have hy0 : (0 : Int) ≤ (y : Int) := by omega
                have hy1 : (y : Int) < (n : Int) := by omega
                clear hxy hcs hset hy
                go_wp2
                go_roundw
                case rel => exact ⟨q + 1, by omega, by go_num, by
                  show OwM _ _ _ _ _ _ _ (tab n (Lto xss k (q + 1)))
                  rw [← hLS.out]
                  exact hst, hT.setCell (p := ⟨r, k, none⟩) (by show w.heap.size ≤ r; omega) _⟩
                case measure => simp [intOf]; omega
              · go_wp2
                go_roundw
                case rel => exact ⟨k + 1, by omega, by go_num, fun x hx => by
                  rcases Nat.lt_or_ge x k with h1 | h1
                  · exact HH.out x h1
                  · have : x = k := by omega
                    subst this
                    exact HRow.out, by
                  show OwM _ _ _ _ _ _ _ (tab n (Lto xss (k + 1) 0))
                  rw [← Lto_next xss (k := k) (j := q) (by rw [HX.out, HLS.out]; omega)]
                  exact ho, hT⟩
                case measure => simp [intOf]; omega
      · obtain rfl : k = n := by omega
        have ho' : OwM 65 4 Value.bool (w.heap.size + 1) wr (.slice (some ⟨g, 0, none⟩) k k) k (tab k (leF xss)) := by
          rw [← Lto_all xss]
          exact ho
        have hrd := ho'.rd (R := RB) (fun xs _ x _ => rfl)
        have HE : Hid (tt (OrdP k (leF xss)) = tt (GoodP xss)) := by
          refine tt_congr ⟨fun h1 => ⟨by rw [hlen.out]; exact hn, by rw [hlen.out]; exact HH.out, by rw [hlen.out]; exact h1⟩, fun h1 => ?_⟩
          have := h1.2.2
          rwa [hlen.out] at this
        go_wp2_with fail
        refine (isOrder_any _ _ _ _ _ hrd).mono ?_
        rintro e w' ⟨rfl, rfl⟩
        go_wp2_with fail
        go_ret2
        exact ⟨_, k, k, by rw [← HE.out]; rfl, fun _ => ⟨rfl, hrd⟩, hT⟩
end Go.Proofs.Ytfcjhmaggefhaaa
