/- Parts of the proof: DsE, DsD, DsS, DsF, NumB, DsT, DsU, Rb. -/
import Derived.Test.YtkmgbdljiajlaaaGreatDoorQ3
import Derived.BigGuardPart
import Derived.Test.YtkmgbdljiajlaaaGreatDoorQ1
import Derived.Test.YtkmgbdljiajlaaaGreatDoorShelf
import Derived.Lib.AppendIntMem
import Derived.Deep.RegionHeld3
import Derived.Deep.RegionWith
import Derived.Deep.DeepFit
import Derived.Lib.ItoaNum
import Derived.Lib.ItoaMem
import Derived.Lib.IndexMore
import Derived.Lib.Strings
import Derived.Sort.Grow
import Derived.IntWalk
import Derived.Laws.Concat
import Derived.Lib.Builder
import Derived.Lib.OthersKept
import Derived.Shelf.Strings.Builder1
import Derived.Shelf.Strings.BuilderK
namespace Go.Proofs.YtkmgbdljiajlaaaGreatDoor
open Go.RowKit
set_option linter.unusedVariables false
set_option linter.unusedSimpArgs false

/-- Less than x and not in the list. -/
def lsB (F : Nat → Nat → Bool) (L : List Int) (x y : Nat) : Bool := (decide (y ≠ x) && F y x) && !(hasI (y : Int) L)
theorem min_ls {n : Nat} {F : Nat → Nat → Bool} {L : List Int} {x : Nat} : minB n F L x = (!(hasI (x : Int) L) && decide ((markL n (lsB F L x)).length = 0)) := by
  have e : ((List.range n).all fun y => !(decide (y ≠ x) && F y x) || hasI (y : Int) L) = decide ((markL n (lsB F L x)).length = 0) := by
    rw [Bool.eq_iff_iff, List.all_eq_true, decide_eq_true_eq, List.length_eq_zero_iff]
    constructor
    · intro h
      refine List.eq_nil_iff_forall_not_mem.2 fun v hv => ?_
      obtain ⟨y, hy, h1, -⟩ := markL_mem.1 hv
      have := h y (List.mem_range.2 hy)
      unfold lsB at h1
      cases h2 : (decide (y ≠ x) && F y x) <;> cases h3 : hasI (y : Int) L <;> simp_all
    · intro h y hy
      cases h2 : (decide (y ≠ x) && F y x) with
      | false => rfl
      | true =>
        cases h3 : hasI (y : Int) L with
        | true => rfl
        | false =>
          have : (y : Int) ∈ markL n (lsB F L x) := markL_mem.2 ⟨y, List.mem_range.1 hy, by unfold lsB; rw [h2, h3]; rfl, rfl⟩
          rw [h] at this
          cases this
  unfold minB
  rw [e]
set_option maxRecDepth 20000 in
set_option maxHeartbeats 2000000 in
theorem less_any (A : Option Addr) (n c x y : Nat) (F : Nat → Nat → Bool) (w : World) (hr : RdL (RV RB) w A n (tab n F)) (hx : x < n) (hy : y < n) :
    Calls Tryz.prog 42 #[.slice A n c, .int .i64 (x : Int), .int .i64 (y : Int)] w fun e w' => e = .returned (.bool (decide (x ≠ y) && F x y)) ∧ w = w' := by
  obtain ⟨b, o, rfl⟩ := hr.addr hx
  obtain ⟨r2, p2, d2, hc2, hall2⟩ := hr.rowT hx
  have hcF := hall2 y hy
  have hx0 : (0 : Int) ≤ (x : Int) := by omega
  have hx1 : (x : Int) < (n : Int) := by omega
  have hy0 : (0 : Int) ≤ (y : Int) := by omega
  have hy1 : (y : Int) < (n : Int) := by omega
  clear hall2
  go_enter Tryz.func42, Tryz.ntmps42
  by_cases h : x = y
  · subst h
    go_wp2_with fail
    go_ret
    exact ⟨ret_bool (by simp), rfl⟩
  · have hne : ((x : Int) != (y : Int)) = true := by simp; omega
    have hne2 : ¬ (x : Int) = (y : Int) := by omega
    go_wp2_with fail
    go_ret
    exact ⟨ret_bool (by simp [h]), rfl⟩
set_option maxRecDepth 20000 in
set_option maxHeartbeats 2000000 in
theorem feClo_any (A B : Option Addr) (n c m d ob xb lb x y : Nat) (F : Nat → Nat → Bool) (L : List Int) (w : World) (hr : RdL (RV RB) w A n (tab n F)) (hs : RdL RI w B m L) (hx : x < n) (hy : y < n)
    (c1 : w.cell? ⟨ob, 0, none⟩ = some (.slice A n c)) (c2 : w.cell? ⟨xb, 0, none⟩ = some (.int .i64 (x : Int))) (c3 : w.cell? ⟨lb, 0, none⟩ = some (.slice B m d)) :
    Calls Tryz.prog 41 #[.int .i64 (y : Int), .pointer (some ⟨ob, 0, none⟩), .pointer (some ⟨xb, 0, none⟩), .pointer (some ⟨lb, 0, none⟩)] w (Bl w (.bool (lsB F L x y))) := by
  have HLS := Lib.hid (less_any A n c y x F w hr hy hx)
  have HHN := Lib.hid (hasNot_any B m d L (y : Int) w hs)
  obtain ⟨q, HQ⟩ : ∃ q, Hid ((decide (y ≠ x) && F y x) = q) := ⟨_, Lib.hid rfl⟩
  rw [HQ.out] at HLS
  go_enter Tryz.func41, Tryz.ntmps41
  rcases q with _ | _
  · go_wp2_with fail
    refine HLS.out.mono ?_
    rintro e wq ⟨rfl, rfl⟩
    go_wp2_with fail
    go_ret
    exact ⟨ret_bool (by unfold lsB; rw [HQ.out]; rfl), Below.refl _ _⟩
  · go_wp2_with fail
    refine HLS.out.mono ?_
    rintro e wq ⟨rfl, rfl⟩
    go_wp2_with fail
    refine HHN.out.mono ?_
    rintro e wq ⟨rfl, rfl⟩
    go_wp2_with fail
    go_ret
    exact ⟨ret_bool (by unfold lsB; rw [HQ.out]; rfl), Below.refl _ _⟩
set_option maxRecDepth 20000 in
theorem feEnter (args : Array Value) (w : World) : (callFunc 41 args).run Tryz.prog w = .ok (.enter 41 args) w := rfl
set_option maxRecDepth 20000 in
set_option maxHeartbeats 2000000 in
theorem none3_any (A : Option Addr) (n c f : Nat) (p q r : Value) (M : Nat → Bool) (w : World) (hent : ∀ (args : Array Value) (w : World), (callFunc f args).run Tryz.prog w = .ok (.enter f args) w) (hC : ∀ x wz, x < n → Below w.heap.size w wz → Calls Tryz.prog f #[.int .i64 (x : Int), p, q, r] wz (Bl wz (.bool (M x)))) (hn : n ≤ 1000) :
    Calls Tryz.prog 40 #[.slice A n c, .func (.func f) #[] #[p, q, r]] w (Bl w (.bool (decide ((markL n M).length = 0)))) := by
  have HT := Lib.hid (those3_any A n c f p q r M w hent hC hn)
  clear hC
  go_enter Tryz.func40, Tryz.ntmps40
  go_wp2_with fail
  refine HT.out.mono ?_
  rintro e w1 ⟨A1, c1, rfl, -, hb⟩
  go_wp2_with fail
  go_ret
  exact ⟨ret_bool (by by_cases h : (markL n M).length = 0 <;> simp [h]), hb⟩
/-- The length of the slice in a box. -/
def slAt (w : World) (g : Nat) : Nat := match w.cell? ⟨g, 0, none⟩ with | some (.slice _ k _) => k | _ => 0
theorem slAt_eq {w : World} {g k c : Nat} {A : Option Addr} {t : TypeId} (h : Blk w g t #[.slice A k c]) : slAt w g = k := by
  have := h.cell 0
  simp at this
  unfold slAt
  rw [this]
theorem ext_in {n : Nat} {F : Nat → Nat → Bool} (hF : OrdP n F) : ∀ k, k ≤ n → ∀ v ∈ extL n F k, 0 ≤ v ∧ v ≤ (n : Int) - 1
  | 0, _, v, hv => by cases hv
  | k + 1, hk, v, hv => by
    rw [extL] at hv
    rcases List.mem_append.1 hv with hv | hv
    · exact ext_in hF k (by omega) v hv
    · rw [List.mem_singleton.1 hv]
      have := (next_ok hF (L := extL n F k) (by rw [extL_len]; omega)).1
      omega
theorem own_offD {w : World} {base : Nat} {e : TypeId} {size : Nat} {v : Value} {n : Nat} {xs : List Value} (h : w.ownsRow base e size v n xs) {g : Nat} {t : TypeId} {cs : Array Value} (hB : Blk w g t cs) (hne : e ≠ t) : v.ownBlock ≠ some g := by
  rcases h.2 with ⟨rfl, _⟩ | ⟨g1, cap, cur, rfl, _, hh, _⟩
  · simp [Value.ownBlock]
  · intro hc
    simp only [Value.ownBlock, Option.some.injEq] at hc
    subst hc
    rw [hB] at hh
    injection hh with hh
    injection hh with _ hh
    exact hne hh.symm
/-- FirstExtension's answer. -/
noncomputable def feRes (xss : List (List Int)) : List Int := if tt (GoodP xss) then extL xss.length (leF xss) xss.length else []
set_option maxRecDepth 20000 in
set_option maxHeartbeats 8000000 in
theorem implFe_any (A : Option Addr) (n c : Nat) (xss : List (List Int)) (w : World) (h : RdL (RV RI) w A n xss) : Calls Tryz.prog 17 #[.agg #[.slice A n c]] w (OwnB w (feRes xss) (tt (GoodP xss))) := by
  have hl := h.len
  obtain ⟨w0, HW0⟩ : ∃ wb, Hid (wb = w.alloc (.cells #[.slice A n c] 26)) := ⟨_, Lib.hid rfl⟩
  have hb0 : Below w.heap.size w w0 := by rw [HW0.out]; exact below_box _ _
  have BP : Blk w0 w.heap.size 26 #[.slice A n c] := by rw [HW0.out]; exact Blk.new _ _ _
  have hr0 := h.next stab_RVI hb0
  have cP0 := BP.cell 0
  simp at cP0
  have HO := Lib.hid (orderOf_any A n c xss w0 hr0)
  have HLL := Lib.hid hl
  obtain ⟨r, HR⟩ : ∃ r, Hid (tt (GoodP xss) = r) := ⟨_, rfl⟩
  rw [HR.out]
  clear hl h
  go_enter Tryz.func17, Tryz.ntmps17
  go_upto_region 1 with fail
  rw [← HW0.out]
  go_wp2_with fail
  refine HO.out.mono ?_
  rintro e w1 ⟨A1, m1, c1, rfl, hgd, hb1⟩
  rw [HR.out]
  have T1 := below_next hb0 hb1 rfl
  obtain ⟨w2, HW2⟩ : ∃ wb, Hid (wb = w1.alloc (.cells #[.slice A1 m1 c1] 53)) := ⟨_, Lib.hid rfl⟩
  have hb2 : Below w1.heap.size w1 w2 := by rw [HW2.out]; exact below_box _ _
  have BO : Blk w2 w1.heap.size 53 #[.slice A1 m1 c1] := by rw [HW2.out]; exact Blk.new _ _ _
  obtain ⟨ob, HOB⟩ : ∃ x, Hid (w1.heap.size = x) := ⟨_, Lib.hid rfl⟩
  have T2 := below_next T1 hb2 rfl
  go_upto_region 2 with fail
  rw [← HW2.out]
  rw [HOB.out] at BO ⊢
  clear HO cP0 BP hr0 T1
  rcases r with _ | _
  · have HF : Hid (feRes xss = []) := by show _ = _; unfold feRes; rw [HR.out]; rfl
    clear hgd
    go_wp2_with fail
    go_ret2
    rw [HF.out]
    exact ⟨_, 0, 0, rfl, own_lit0 T2, below_next T2 (below_box _ _) rfl⟩
  · have hgp := tt_iff.1 HR.out
    obtain ⟨rfl, hrb⟩ := hgd hgp
    obtain ⟨F, HFF⟩ : ∃ F, Hid (leF xss = F) := ⟨_, Lib.hid rfl⟩
    have HOP : Hid (OrdP m1 F) := by show OrdP _ _; rw [← HFF.out, ← HLL.out]; exact hgp.2.2
    have hn10 : m1 ≤ 10 := by rw [← HLL.out]; exact hgp.1
    have HF : Hid (feRes xss = extL m1 F m1) := by show _ = _; unfold feRes; rw [HR.out, if_pos rfl, HLL.out, HFF.out]
    rw [HFF.out] at hrb
    have hrb2 := hrb.next stab_RVB hb2
    obtain ⟨w3, HW3⟩ : ∃ wb, Hid (wb = w2.alloc (.cells #[] 3)) := ⟨_, Lib.hid rfl⟩
    have hb3 : Below w2.heap.size w2 w3 := by rw [HW3.out]; exact below_box _ _
    have hown3 : w3.ownsRow w2.heap.size 3 1 (.slice (some ⟨w2.heap.size, 0, none⟩) 0 0) 0 (ints []) := by rw [HW3.out]; exact World.ownsRow_lit _ _ _ (Nat.le_refl _) (Nat.zero_le _) rfl
    have hs3 : w3.heap.size = w2.heap.size + 1 := by rw [HW3.out]; simp
    obtain ⟨w4, HW4⟩ : ∃ wb, Hid (wb = w3.alloc (.cells #[.slice (some ⟨w2.heap.size, 0, none⟩) 0 0] 27)) := ⟨_, Lib.hid rfl⟩
    have hb4 : Below w3.heap.size w3 w4 := by rw [HW4.out]; exact below_box _ _
    have BL : Blk w4 w3.heap.size 27 #[.slice (some ⟨w2.heap.size, 0, none⟩) 0 0] := by rw [HW4.out]; exact Blk.new _ _ _
    have hT24 := below_next hb3 hb4 rfl
    have hown4 := own_next hown3 hb4
    obtain ⟨lb, HLB⟩ : ∃ x, Hid (w3.heap.size = x) := ⟨_, Lib.hid rfl⟩
    have hlb : w2.heap.size ≤ lb := by have := HLB.out; omega
    have hob : ob < w2.heap.size := BO.lt
    clear hgd hrb hgp hown3 hb3 hb4
    go_upto_region 5 with fail
    rw [show (w2.alloc (.cells #[] 3)).alloc _ = w4 by rw [HW4.out, HW3.out]]
    rw [show w2.heap.size + 1 = lb by rw [← HLB.out, hs3]]
    rw [HLB.out] at BL
    clear hs3
    go_loopw [24] (fun _ wr => ∃ (k : Nat) (A2 : Option Addr) (c2 : Nat), k ≤ m1 ∧ Blk wr lb 27 #[.slice A2 k c2] ∧ wr.ownsRow w2.heap.size 3 1 (.slice A2 k c2) k (ints (extL m1 F k)) ∧ Below w2.heap.size w2 wr) (fun _ wr => m1 - slAt wr lb)
    case atStart => exact ⟨0, _, _, Nat.zero_le _, BL, hown4, hT24⟩
    case round =>
      clear BL hown4 hT24
      obtain ⟨k, A2, c2, hk, BL, hown, hT⟩ := hrel
      have cO0 := (BO.next hT).cell 0
      have cL0 := BL.cell 0
      simp at cO0 cL0
      have HSA := Lib.hid (slAt_eq BL)
      obtain ⟨L, HL⟩ : ∃ L, Hid (extL m1 F k = L) := ⟨_, Lib.hid rfl⟩
      have HLK : Hid (L.length = k) := by show _ = _; rw [← HL.out, extL_len]
      by_cases hlt : k < m1
      · have hk0 : (k : Int) < (m1 : Int) := by omega
        obtain ⟨x0, HX0⟩ : ∃ x, Hid (nextX m1 F L = x) := ⟨_, Lib.hid rfl⟩
        obtain ⟨hx0n, hmin, hmin2⟩ := next_ok HOP.out (L := L) (by rw [HLK.out]; exact hlt)
        rw [HX0.out] at hx0n hmin hmin2
        have HMIN := Lib.hid hmin
        have HMIN2 := Lib.hid hmin2
        have HSTEP : Hid (extL m1 F (k + 1) = L ++ [(x0 : Int)]) := by show _ = _; rw [extL, HL.out, HX0.out]
        have HLIN : Hid (∀ v ∈ L, -9223372036854775808 ≤ v ∧ v ≤ 9223372036854775807) := fun v hv => by rw [← HL.out] at hv; have := ext_in HOP.out k hk v hv; omega
        rw [HL.out] at hown
        obtain ⟨w5, HW5⟩ : ∃ x : World, Hid (x = wr) := ⟨_, Lib.hid rfl⟩
        rw [← HW5.out] at BL hown hT cO0 cL0 HSA ⊢
        have hw5 := hT.size
        clear hmin hmin2
        go_wp2_with fail
        go_loopw [24] (fun u wi => ∃ j : Nat, j ≤ x0 ∧ u = .int .i64 (j : Int) ∧ Below w5.heap.size w5 wi) (fun u _ => m1 - (intOf u).toNat)
        case atStart => exact ⟨0, Nat.zero_le _, rfl, Below.refl _ _⟩
        case round =>
          obtain ⟨j, hj, rfl, hTi⟩ := hrel
          have hjn : j < m1 := by omega
          have hj0 : (0 : Int) ≤ (j : Int) := by omega
          have hj1 : (j : Int) < (m1 : Int) := by omega
          obtain ⟨w6, HW6⟩ : ∃ wb, Hid (wb = wr.alloc (.cells #[.int .i64 (j : Int)] 3)) := ⟨_, Lib.hid rfl⟩
          have hb6 : Below wr.heap.size wr w6 := by rw [HW6.out]; exact below_box _ _
          have BX : Blk w6 wr.heap.size 3 #[.int .i64 (j : Int)] := by rw [HW6.out]; exact Blk.new _ _ _
          obtain ⟨xb, HXB⟩ : ∃ x, Hid (wr.heap.size = x) := ⟨_, Lib.hid rfl⟩
          have hT6 := below_next hTi hb6 rfl
          go_upto_region 9 with fail
          rw [← HW6.out]
          rw [HXB.out] at BX ⊢
          have hT26 := below_next hT hT6 rfl
          have cX6 := BX.cell 0
          simp at cX6
          have cO6 := keepM hT6 cO0
          have cL6 := keepM hT6 cL0
          have hs6 := rd_of_own (R := RI) (own_next hown hT6) (RI_ints HLIN.out)
          have hr6 := hrb2.next stab_RVB hT26
          have HHN := Lib.hid (hasNot_any A2 k c2 L (j : Int) w6 hs6)
          have HMB := Lib.hid (min_ls (n := m1) (F := F) (L := L) (x := j))
          obtain ⟨hn, HHI⟩ : ∃ b, Hid (hasI (j : Int) L = b) := ⟨_, Lib.hid rfl⟩
          rw [HHI.out] at HHN HMB
          rcases hn with _ | _
          · -- not in the list
            have HNN := Lib.hid (none3_any A1 m1 c1 41 (.pointer (some ⟨ob, 0, none⟩)) (.pointer (some ⟨xb, 0, none⟩)) (.pointer (some ⟨lb, 0, none⟩)) (lsB F L j) w6 feEnter (fun y wz hy hz => feClo_any A1 A2 m1 c1 k c2 ob xb lb j y F L wz (hr6.next stab_RVB hz) (hs6.next stab_RI hz) hjn hy (keepM hz cO6) (keepM hz cX6) (keepM hz cL6)) (by omega))
            obtain ⟨q, HQ⟩ : ∃ q, Hid (decide ((markL m1 (lsB F L j)).length = 0) = q) := ⟨_, Lib.hid rfl⟩
            rw [HQ.out] at HNN HMB
            have hmq : minB m1 F L j = q := HMB.out
            have HMQ := Lib.hid hmq
            clear hmq
            go_wp2_with fail
            refine HHN.out.mono ?_
            rintro e wq ⟨rfl, rfl⟩
            go_wp2_with fail
            refine HNN.out.mono ?_
            rintro e w7 ⟨rfl, hb7⟩
            have hT7 := below_next hT6 hb7 rfl
            clear HNN HHN
            rcases q with _ | _
            · have hne : j ≠ x0 := fun e => by have h1 := HMIN.out; rw [← e, HMQ.out] at h1; cases h1
              go_wp2_with fail
              go_roundw
              case rel => exact ⟨j + 1, by omega, by go_num, hT7⟩
              case measure => simp [intOf]; omega
            · have hje : j = x0 := by
                by_cases e : j < x0
                · have h1 := HMIN2.out j e; rw [HMQ.out] at h1; cases h1
                · omega
              subst hje
              have BL7 := BL.next hT7
              have hown7 := own_next hown hT7
              have BX7 := BX.next hb7
              have cL7 := BL7.cell 0
              have cX7 := BX7.cell 0
              simp at cL7 cX7
              have h27 := below_next hT hT7 rfl
              have hs27 := h27.size
              have hk9 : k ≤ 1099511627776 := by omega
              have HLB7 := Lib.hid hlb
              clear hr6 hs6 cO6 cX6 cL6 hlb
              go_wp2_with (at_builtin; refine app1 w7 rfl _ _ 27 3 rfl (.int .i64 0) 8 Tryz.underlying27 info_int rfl (by decide) w2.heap.size k c2 A2 (ints L) rfl hown7 (.int .i64 (j : Int)) rfl rfl hk9 hs27 ?_; intro A3 c3 w8 hown8 hg8 hb8; have BL8 := BL7.grown hg8 (fun e => own_offD hown7 BL7 (by decide) e.symm); have cL8 := BL8.cell 0; simp at cL8; have fL8 := BL8.frozen 0)
              have BS : Blk (w8.setCell ⟨lb, 0, none⟩ (.slice A3 (k + 1) c3)) lb 27 #[.slice A3 (k + 1) c3] := by simpa using BL8.set_ 0 (.slice A3 (k + 1) c3)
              have hownS := own_set hown8 (p := ⟨lb, 0, none⟩) (own_offD hown8 BL8 (by decide)) (.slice A3 (k + 1) c3)
              have hTS : Below w2.heap.size w2 (w8.setCell ⟨lb, 0, none⟩ (.slice A3 (k + 1) c3)) := (h27.trans hb8).setCell HLB7.out _
              refine ⟨⟨k + 1, A3, c3, by omega, BS, ?_, hTS⟩, ?_⟩
              · rw [HSTEP.out, ints_snoc]; exact hownS
              · rw [slAt_eq BS, HSA.out]; omega
          · have HMF : Hid (minB m1 F L j = false) := HMB.out
            have hne : j ≠ x0 := fun e => by have h1 := HMIN.out; rw [← e, HMF.out] at h1; cases h1
            go_wp2_with fail
            refine HHN.out.mono ?_
            rintro e wq ⟨rfl, rfl⟩
            go_wp2_with fail
            go_roundw
            case rel => exact ⟨j + 1, by omega, by go_num, hT6⟩
            case measure => simp [intOf]; omega
      · obtain rfl : k = m1 := by omega
        have hk1 : ¬ (k : Int) < (k : Int) := by omega
        have hTw := below_next T2 hT rfl
        rw [HL.out] at hown
        go_wp2_with fail
        go_ret2
        rw [HF.out, HL.out]
        exact ⟨A2, k, c2, rfl, own_mono hown T2.size, hTw⟩
end Go.Proofs.YtkmgbdljiajlaaaGreatDoor
namespace Go.Proofs.YtkmgbdljiajlaaaGreatDoor
open Go.RowKit
set_option linter.unusedVariables false
set_option linter.unusedSimpArgs false

theorem r2_rgD {g q n : Nat} {w : World} {A : Option Addr} {F : List (List Int)} (h : RdL (RG2 g q) w A n F) : RdL (RG g) w A n F :=
  ⟨h.1, h.2.1, fun k x hk => by
    obtain ⟨b, o, v, e, hc, A', n', c', e', hr, h1, -⟩ := h.2.2 k x hk
    exact ⟨b, o, v, e, hc, A', n', c', e', hr, h1⟩⟩
theorem r2_farD {g q n : Nat} {w w' : World} {A : Option Addr} {F : List (List Int)} (h : RdL (RG2 g q) w A n F) (hA : Hi q A) (hg : w.grownBy w' (some q)) : RdL (RV RI) w' A n F := (r2_rgD (r2_end h hA hg)).toRV
theorem r2_grownD {g q n : Nat} {w w' : World} {A : Option Addr} {F : List (List Int)} (h : RdL (RG2 g q) w A n F) (hA : Off g A) (hg : w.grownBy w' (some g)) : RdL (RG2 g q) w' A n F :=
  rdl_grownR h hA (fun _ _ ⟨A', n', c', e, hr, h1, h2⟩ => ⟨A', n', c', e, rdl_grown hr h1 (fun _ _ h => h) hg, h1, h2⟩) hg
theorem r2_lowD {g q q' n : Nat} {w : World} {A : Option Addr} {F : List (List Int)} (h : RdL (RG2 g q) w A n F) (hq : q' ≤ q) : RdL (RG2 g q') w A n F :=
  ⟨h.1, h.2.1, fun k x hk => by
    obtain ⟨b, o, v, e, hc, A', n', c', e', hr, h1, h2⟩ := h.2.2 k x hk
    exact ⟨b, o, v, e, hc, A', n', c', e', hr, h1, fun b o e => Nat.lt_of_le_of_lt hq (h2 b o e)⟩⟩
theorem numsLD (P : Int → Prop) (L : List Int) (w : World) (g : Nat) (hg : g < w.heap.size) (h0 : 0 < L.length) (h1 : L.length ≤ 1000) (hP : ∀ x ∈ L, P x) {k : Nat} (hk : k = w.heap.size) : NumsP P (w.alloc (.cells (ints L).toArray 3)) g k L.length := by
  subst hk
  refine ⟨by omega, h0, h1, fun i hi => ?_⟩
  have hc := (Blk.new w 3 (ints L).toArray).cell i
  refine ⟨L[i], hP _ (List.getElem_mem hi), ?_⟩
  rw [hc]
  simp [ints, hi]
theorem Blk.grownGD {w w' : World} {b g : Nat} {t : TypeId} {cs : Array Value} (h : Blk w b t cs) (hg : w.grownBy w' (some g)) (hne : b ≠ g) : Blk w' b t cs := h.grown hg fun e => hne (by injection e)
/-- A drawn poset and a list of points. -/
def DsD (w : World) (e : Ending) (w' : World) : Prop := ∃ A m c F B k d L, e = .returned (.tuple #[.agg #[.slice A m c], .slice B k d]) ∧ RdL (RV RI) w' A m F ∧ m ≤ 12 ∧ RdL RI w' B k L ∧ k ≤ 21 ∧ (∀ v ∈ L, -1 ≤ v ∧ v ≤ 12) ∧ Below w.heap.size w w'
set_option maxRecDepth 20000 in
set_option maxHeartbeats 8000000 in
theorem drawDs_any (A : Option Addr) (n c : Nat) (w : World) (h : CodeB w A n) : Calls Tryz.prog 5 #[.slice A n c] w (DsD w) := by
  obtain ⟨w0, HW0⟩ : ∃ wb, Hid (wb = w.alloc (.cells #[.slice none 0 0] 26)) := ⟨_, rfl⟩
  have hb0 : Below w.heap.size w w0 := by rw [HW0.out]; exact below_box _ _
  have B0 : Blk w0 w.heap.size 26 #[.slice none 0 0] := by rw [HW0.out]; exact Blk.new _ _ _
  have hs0 : w0.heap.size = w.heap.size + 1 := by rw [HW0.out]; simp
  obtain ⟨w1, HW1⟩ : ∃ wb, Hid (wb = w0.alloc (.cells #[.slice A n c, .int .i64 0, .int .u64 0] 47)) := ⟨_, rfl⟩
  have hb1 : Below w0.heap.size w0 w1 := by rw [HW1.out]; exact below_box _ _
  have hc1 : CurB (w.heap.size + 1) w1 (w.heap.size + 1) 0 := by rw [HW1.out]; exact CurB.made (h.next hb0) hs0.symm
  have hz1 : w.heap.size + 1 < w1.heap.size := hc1.lt
  have B1 := B0.next hb1
  have HLA := Lib.hid (poset_any (w.heap.size + 1) (w.heap.size + 1) 0 w1 hc1 (by omega) (by omega))
  have hT1 := below_next hb0 hb1 rfl
  have hz1' : w.heap.size ≤ w1.heap.size := by omega
  clear B0 hc1 hb1
  go_enter Tryz.func5, Tryz.ntmps5
  go_wp2_with fail
  rw [← HW0.out, ← HW1.out]
  refine HLA.out.mono ?_
  rintro e w2 ⟨A2, m2, c2, F, rfl, hr, hog, hhi, hm12, hF, hc2, hg2⟩
  have HOG := Lib.hid hog
  have HHI := Lib.hid hhi
  obtain ⟨g, HG⟩ : ∃ x, Hid (w.heap.size + 1 = x) := ⟨_, Lib.hid rfl⟩
  obtain ⟨rb, HRB⟩ : ∃ x, Hid (w.heap.size = x) := ⟨_, Lib.hid rfl⟩
  have hrg : rb ≠ g := by have := HG.out; have := HRB.out; omega
  have hgl : g < w2.heap.size := by rw [← HG.out]; exact hc2.lt
  have hz2 := hg2.size
  have B2 := B1.grown hg2 (fun e => by injection e with e; omega)
  clear hF hog hhi HLA B1
  obtain ⟨w3, HW3⟩ : ∃ wb, Hid (wb = w2.alloc (.cells #[.slice A2 m2 c2] 26)) := ⟨_, rfl⟩
  have hb3 : Below w2.heap.size w2 w3 := by rw [HW3.out]; exact below_box _ _
  have BP3 : Blk w3 w2.heap.size 26 #[.slice A2 m2 c2] := by rw [HW3.out]; exact Blk.new _ _ _
  have hs3 : w3.heap.size = w2.heap.size + 1 := by rw [HW3.out]; simp
  obtain ⟨w4, HW4⟩ : ∃ wb, Hid (wb = w3.alloc (.cells #[] 3)) := ⟨_, rfl⟩
  have hb4 : Below w3.heap.size w3 w4 := by rw [HW4.out]; exact below_box _ _
  have hown4 : w4.ownsRow (w2.heap.size + 1) 3 1 (.slice (some ⟨w2.heap.size + 1, 0, none⟩) 0 0) 0 (ints []) := by
    rw [HW4.out, ← hs3]
    exact World.ownsRow_lit (base := w3.heap.size) w3 #[] 0 (Nat.le_refl _) (Nat.zero_le _) rfl
  have hs4 : w4.heap.size = w2.heap.size + 2 := by rw [HW4.out]; simp [hs3]
  obtain ⟨w5, HW5⟩ : ∃ wb, Hid (wb = w4.alloc (.cells #[.int .i64 0, .int .i64 1, .int .i64 1, .int .i64 2, .int .i64 3, .int .i64 20, .int .i64 21] 3)) := ⟨_, rfl⟩
  have hb5 : Below w4.heap.size w4 w5 := by rw [HW5.out]; exact below_box _ _
  have HNM : Hid (∀ k, 0 < k → k ≤ 7 → NumsP (fun v => 0 ≤ v ∧ v ≤ 21) w5 g (w2.heap.size + 2) k) := fun k h0 h1 => by
    rw [HW5.out, ← hs4]
    have h2 := numsLD (fun v => 0 ≤ v ∧ v ≤ 21) [0, 1, 1, 2, 3, 20, 21] w4 g (by omega) (by decide) (by decide) (by intro v hv; simp at hv; omega) rfl
    exact ⟨h2.1, h0, by omega, fun i hi => h2.2.2.2 i (by have : [0, 1, 1, 2, 3, 20, (21 : Int)].length = 7 := rfl; omega)⟩
  have hc5 : CurB (w.heap.size + 1) w5 (w.heap.size + 1) (0 + 200) := ((hc2.next_ hb3).next_ hb4).next_ hb5
  have hgr5 := growB_trans (growB_trans (toGr (r := some g) hb3) (toGr (r := some g) hb4)) (toGr (r := some g) hb5)
  have BP5 := (BP3.next hb4).next hb5
  have BR5 := ((B2.next hb3).next hb4).next hb5
  have hown5 := own_next hown4 hb5
  rw [HG.out] at hc5 hg2
  rw [HRB.out] at BR5
  have HPK := Lib.hid (pickB_any g (0 + 200) 24 w5 hc5 (by omega) (by omega))
  clear hown4 hb3 hb4 hb5 hc2 hc5 BP3 B2
  go_wp2_with fail
  rw [show ((w2.alloc (.cells #[.slice A2 m2 c2] 26)).alloc (.cells #[] 3)).alloc _ = w5 by rw [HW5.out, HW4.out, HW3.out]]
  rw [HG.out, HRB.out]
  refine HPK.out.mono ?_
  rintro e w6 ⟨y, hy, rfl, hc6, hg6⟩
  obtain ⟨q, HQ⟩ : ∃ q, Hid (y / 11 = q) := ⟨_, Lib.hid rfl⟩
  have hq2 : q ≤ 2 := by have := HQ.out; omega
  have hy0 : (0 : Int) ≤ (y : Int) := by omega
  have f1 : (y : Int) / 11 = (q : Int) := by have := HQ.out; omega
  have f1t : (y : Int).tdiv 11 = (q : Int) := by rw [Int.tdiv_eq_ediv_of_nonneg hy0]; exact f1
  have f2 : IntKind.i64.wrap (q : Int) = (q : Int) := by rw [IntKind.wrap_i64]; omega
  obtain ⟨k, HK⟩ : ∃ k, Hid (5 + q = k) := ⟨_, Lib.hid rfl⟩
  have hk6 : 5 ≤ k ∧ k ≤ 7 := by have := HK.out; omega
  have f3 : 5 + (q : Int) = (k : Int) := by have := HK.out; omega
  have f4 : IntKind.i64.wrap (k : Int) = (k : Int) := by rw [IntKind.wrap_i64]; omega
  have hk0 : (0 : Int) ≤ (k : Int) := by omega
  have hk1 : (k : Int) ≤ 7 := by omega
  have HAM := Lib.hid (amongB_any g (0 + 200 + 2) (w2.heap.size + 2) k 7 w6 hc6 (by omega) _ ((HNM.out k (by omega) hk6.2).grown hg6))
  have hgb : g < w2.heap.size + 1 := by omega
  have hown6 := own_grownG hown5 hg6 hgb
  have hpg : w2.heap.size ≠ g := by omega
  have BP6 := BP5.grownGD hg6 hpg
  have BR6 := BR5.grownGD hg6 hrg
  have hgr6 := growB_trans hgr5 hg6
  clear HPK hy hg6 hown5 BP5 BR5 hgr5 HNM
  go_wp2_with fail
  refine HAM.out.mono ?_
  rintro e w7 ⟨v, hv, rfl, hc7, hg7⟩
  obtain ⟨n0, rfl⟩ := Int.eq_ofNat_of_zero_le hv.1
  have hn21 : n0 ≤ 21 := by omega
  replace hown6 := own_grownG hown6 hg7 hgb
  replace BP6 := BP6.grownGD hg7 hpg
  replace BR6 := BR6.grownGD hg7 hrg
  replace hgr6 := growB_trans hgr6 hg7
  clear HAM hg7 hv f1 f1t f2 f3 f4
  obtain ⟨pb, HPB⟩ : ∃ x, Hid (w2.heap.size = x) := ⟨_, Lib.hid rfl⟩
  rw [HPB.out] at BP6 hpg ⊢
  have hm1000 : m2 ≤ 1000 := by omega
  go_wp2_with fail
  go_loopw [6, 7] (fun l i wr => ∃ (j k c : Nat) (A : Option Addr) (L : List Int), l = .slice A k c ∧ i = .int .i64 (j : Int) ∧ j ≤ 21 ∧ wr.ownsRow (w2.heap.size + 1) 3 1 (.slice A k c) k (ints L) ∧ Hid (∀ v ∈ L, -1 ≤ v ∧ v ≤ 12) ∧ k + j ≤ 21 ∧ CurB g wr g (204 + 4 * (21 - j)) ∧ w2.grownBy wr (some g) ∧ Blk wr pb 26 #[.slice A2 m2 c2] ∧ Blk wr rb 26 #[.slice none 0 0]) (fun _ i _ => (intOf i).toNat)
  case atStart => exact ⟨n0, 0, 0, _, [], by rw [HPB.out], rfl, hn21, hown6, (fun v hv => by cases hv), by omega, hc7.mono (by omega), hgr6, BP6, BR6⟩
  case round =>
    clear hown6 hc7 hgr6 BP6 BR6
    obtain ⟨j, k, cL, AL, L, rfl, rfl, hj, hown, HLB, hkj, hcu, hgr, BPr, BRr⟩ := hrel
    have hwr := hgr.size
    have cP0 := BPr.cell 0
    simp at cP0
    by_cases hj0 : j = 0
    · subst hj0
      have hlo : rb < w2.heap.size + 1 := by have := HRB.out; omega
      have hG : wr.grownBy (wr.setCell ⟨rb, 0, none⟩ (.slice A2 m2 c2)) (some rb) := grown_setB (g := rb) (p := ⟨rb, 0, none⟩) (grown_reflB wr _) rfl _
      have hrF : RdL (RV RI) (wr.setCell ⟨rb, 0, none⟩ (.slice A2 m2 c2)) A2 m2 F := by
        rw [HG.out] at hr
        have h1 : RdL (RG2 g rb) wr A2 m2 F := r2_lowD (r2_grownD hr (by rw [← HG.out]; exact HOG.out) hgr) (by have := HRB.out; omega)
        exact r2_farD h1 (fun b o e => by have := HHI.out b o e; have := HRB.out; omega) hG
      have hoF := own_same (w' := wr.setCell ⟨rb, 0, none⟩ (.slice A2 m2 c2)) hown fun k hk => hG.block k (hown.lt k hk).2 (fun e => by injection e with e; have := (hown.lt k hk).1; omega)
      have hLF := rd_of_own (R := RI) hoF (RI_ints fun x hx => by have := HLB.out x hx; omega)
      have hTF : Below w.heap.size w (wr.setCell ⟨rb, 0, none⟩ (.slice A2 m2 c2)) := ((hT1.grown (growB_trans hg2 hgr) hz1' (fun r hr => by injection hr with hr; have := HG.out; omega))).setCell (p := ⟨rb, 0, none⟩) (by have := HRB.out; exact Nat.le_of_eq this) _
      have HFIN := Lib.hid (And.intro hrF (And.intro hLF hTF))
      have cR0 := BRr.cell 0
      have fR0 := BRr.frozen 0
      simp at cR0
      clear hrF hoF hLF hTF hG hown hcu
      go_wp2
      (try simp only [Exit.inBlock, Exit.then])
      refine bodyPost_ret (v := .tuple #[.agg #[.slice A2 m2 c2], .slice AL k cL]) (results_row_tmp rfl _ _ rb 26 #[.slice A2 m2 c2] (0, 0) _ _ (by first | (simp; done) | (simp [Act.put]; done)) (BRr.set_ 0 _) Tryz.underlying26 rfl (by kernel_rfl) (by first | (simp; done) | (simp [Act.put]; done))) (by first | rfl | (simp [Act.put]; done)) ?_
      exact ⟨A2, m2, c2, F, AL, k, cL, L, rfl, HFIN.out.1, hm12, HFIN.out.2.1, by omega, HLB.out, HFIN.out.2.2⟩
    · have hj1 : (0 : Int) < (j : Int) := by omega
      have HE := Lib.hid (point23_any g g (204 + 4 * (21 - j)) m2 c2 A2 wr hcu (by omega) hm1000)
      go_wp2_with fail
      refine HE.out.mono ?_
      rintro e w8 ⟨v, ⟨hv0, hv1⟩, rfl, hc8, hg8⟩
      replace hown := own_grownG hown hg8 hgb
      replace BPr := BPr.grownGD hg8 hpg
      replace BRr := BRr.grownGD hg8 hrg
      replace hgr := growB_trans hgr hg8
      have hw8 : w2.heap.size + 1 ≤ w8.heap.size := by have := hgr.size; have := BPr.lt; have := HPB.out; omega
      clear HE hg8 cP0 hcu
      go_wp2_with (at_builtin; refine app1 w8 rfl _ _ 27 3 rfl (.int .i64 0) 8 Tryz.underlying27 info_int rfl (by decide) (w2.heap.size + 1) k cL AL (ints L) rfl hown (.int .i64 v) rfl rfl (by omega) hw8 ?_; intro A9 c9 w9 hown9 hg9 hb9)
      rw [ints_snocG] at hown9
      have BP9 := BPr.grown hg9 (fun e => own_offD hown BPr (by decide) e.symm)
      have BR9 := BRr.grown hg9 (fun e => own_offD hown BRr (by decide) e.symm)
      have hc9 := hc8.grown hg9 (fun r e => by have := hown.lt r e; have := HG.out; omega)
      have hgr9 := growB_own hgr hg9 (fun r e => by have := (hown.lt r e).1; omega)
      have HLB9 : Hid (∀ u ∈ L ++ [v], -1 ≤ u ∧ u ≤ 12) := fun u hu => by
        rcases List.mem_append.1 hu with hu | hu
        · exact HLB.out u hu
        · rw [List.mem_singleton.1 hu]; exact ⟨hv0, by omega⟩
      clear hown BPr BRr hc8 hgr hg9 hb9
      go_roundw
      case rel => exact ⟨j - 1, k + 1, c9, A9, L ++ [v], rfl, by go_num, by omega, hown9, HLB9, by omega, hc9.mono (by omega), hgr9, BP9, BR9⟩
      case measure => simp [intOf]; omega
end Go.Proofs.YtkmgbdljiajlaaaGreatDoor
namespace Go.Proofs.YtkmgbdljiajlaaaGreatDoor
open Go.RowKit
set_option linter.unusedVariables false
set_option linter.unusedSimpArgs false

theorem keep_set {w wf : World} {g y b o : Nat} {u : Value} (h : wf = w.setCell ⟨g, y, none⟩ u) (hne : b ≠ g) : wf.cell? ⟨b, o, none⟩ = w.cell? ⟨b, o, none⟩ := by
  rw [h]
  exact World.cell?_of_block (Below.heap_setCell _ _ _ _ hne)
theorem own_cellB {w : World} {base g n c k : Nat} {Q : List Bool} (h : w.ownsRow base 4 1 (.slice (some ⟨g, 0, none⟩) n c) n (bls Q)) (hl : Q.length = n) (hk : k < n) : ∃ z, w.cell? ⟨g, k, none⟩ = some (.bool z) := by
  refine ⟨gB Q k, ?_⟩
  rw [h.cellAt k (by omega), bls_get (by omega)]
theorem RdL.addr_lt {α : Type} {R : World → Value → α → Prop} {w : World} {A : Option Addr} {n k b o : Nat} {xs : List α} (h : RdL R w A n xs) (hk : k < n) (hA : A = some ⟨b, o, none⟩) : b < w.heap.size := by
  obtain ⟨b', o', v, x, e, hc, -⟩ := h.at hk
  rw [hA] at e
  injection e with e
  injection e with e1 _
  subst e1
  exact cell_lt hc
theorem rdB_own {w : World} {base g n c : Nat} {Q : List Bool} (h : w.ownsRow base 4 1 (.slice (some ⟨g, 0, none⟩) n c) n (bls Q)) (hl : Q.length = n) (hn : n ≤ maxLen) : RdL RB w (some ⟨g, 0, none⟩) n Q :=
  ⟨hl, hn, fun k x hk => by
    have hkl := (List.getElem?_eq_some_iff.1 hk).1
    refine ⟨g, 0, .bool x, rfl, ?_, rfl⟩
    rw [Nat.zero_add, h.cellAt k (by omega), bls_get hkl, gB_get hk]⟩
set_option maxRecDepth 20000 in
set_option maxHeartbeats 8000000 in
theorem l23Down_any (A B : Option Addr) (n c m d : Nat) (xss : List (List Int)) (L : List Int) (w : World) (h : RdL (RV RI) w A n xss) (hs : RdL RI w B m L) (hgd : GoodP xss) (hL : ∀ v ∈ L, 0 ≤ v ∧ v ≤ (n : Int) - 1) :
    Calls Tryz.prog 31 #[.agg #[.slice A n c], .slice B m d] w (OwI w (dwnL n (leF xss) L)) := by
  have hl := h.len
  have HL := Lib.hid hL
  have HXL := Lib.hid hl
  have HLM := Lib.hid hs.len
  have hml : m ≤ 9223372036854775807 := by have := hs.le; unfold maxLen at this; omega
  have hn10 : n ≤ 10 := by rw [← hl]; exact hgd.1
  have HROW : Hid (∀ x, x < n → ∀ v ∈ rowOf xss x, 0 ≤ v ∧ v ≤ (n : Int) - 1) := fun x hx v hv => by
    have := allIn_iff.1 (hgd.2.1 x (by rw [HXL.out]; exact hx)).2 v hv
    rw [HXL.out] at this
    exact this
  obtain ⟨w0, HW0⟩ : ∃ wb, Hid (wb = w.alloc (.cells #[.slice A n c] 26)) := ⟨_, Lib.hid rfl⟩
  have hb0 : Below w.heap.size w w0 := by rw [HW0.out]; exact below_box _ _
  have BP : Blk w0 w.heap.size 26 #[.slice A n c] := by rw [HW0.out]; exact Blk.new _ _ _
  have hr0 := h.next stab_RVI hb0
  have hs0 := hs.next stab_RI hb0
  have cP0 := BP.cell 0
  simp at cP0
  have hlt0 := BP.lt
  clear hl h hs hL hgd
  go_enter Tryz.func31, Tryz.ntmps31
  go_upto_region 1 with fail
  rw [← HW0.out]
  go_wp2_with (at_make; refine make_bl w0 rfl _ _ rfl n rfl rfl (by omega) ?_; intro w1 hown1 hg1)
  have hb1 := (Below.refl w0.heap.size w0).grown hg1 (Nat.le_refl _) (by simp)
  have T1 := below_next hb0 hb1 rfl
  obtain ⟨g, HG⟩ : ∃ x, Hid (w0.heap.size = x) := ⟨_, Lib.hid rfl⟩
  obtain ⟨p, HP⟩ : ∃ x, Hid (w.heap.size = x) := ⟨_, Lib.hid rfl⟩
  have hr1 := hr0.next stab_RVI hb1
  have hs1 := hs0.next stab_RI hb1
  have HAB : Hid (∀ b, b < w0.heap.size → b ≠ g) := fun b hb e => by have := HG.out; omega
  have hpg : p ≠ g := by have := HG.out; have := HP.out; omega
  have hT0 : Below g w0 w1 := by rw [← HG.out]; exact hb1
  rw [HG.out] at hown1 ⊢
  rw [HP.out]
  have HR0 := Lib.hid hr0
  have HS0 := Lib.hid hs0
  have cpw : w0.cell? ⟨p, 0, none⟩ = some (.slice A n c) := by rw [← HP.out]; exact cP0
  clear hg1 cP0 BP hr1 hs1 hr0 hs0
  go_loopw [6] (fun u wr => ∃ (i : Nat) (Lb : List Bool), i ≤ m ∧ u = .int .i64 (i : Int) ∧ wr.ownsRow g 4 1 (.slice (some ⟨g, 0, none⟩) n n) n (bls Lb) ∧ (Lb.length = n ∧ ∀ z, z < n → (gB Lb z = true ↔ ∃ j u : Nat, j < i ∧ L[j]? = some (u : Int) ∧ leF xss z u = true)) ∧ Below g w0 wr) (fun u _ => m - (intOf u).toNat)
  case atStart => exact ⟨0, _, Nat.zero_le _, rfl, hown1, ⟨by simp, fun z hz => ⟨fun h => by simp [gB, List.getD_eq_getElem?_getD, List.getElem?_replicate, hz] at h, fun ⟨j, u, h, _⟩ => absurd h (by omega)⟩⟩, hT0⟩
  case round =>
    clear hown1 hT0 hb1
    obtain ⟨i, Lb0, hi, rfl, hown0, hLB0, hTr⟩ := hrel
    have HLB0 := Lib.hid hLB0
    clear hLB0
    have hT0r : Below w0.heap.size w0 wr := by rw [HG.out]; exact hTr
    by_cases hlt : i < m
    · have hi0 : (0 : Int) ≤ (i : Int) := by omega
      have hi1 : (i : Int) < (m : Int) := by omega
      obtain ⟨b, o, v, x, hBe, hcx, ⟨rfl, -⟩, -, hx⟩ := HS0.out.at hlt
      have hbg : b ≠ g := HAB.out b (RdL.addr_lt HS0.out hlt hBe)
      subst hBe
      have hxr := HL.out x (List.mem_of_getElem? hx)
      obtain ⟨x, rfl⟩ := Int.eq_ofNat_of_zero_le hxr.1
      have hxn : x < n := by omega
      have hx0 : (0 : Int) ≤ (x : Int) := by omega
      have hx1 : (x : Int) < (n : Int) := by omega
      obtain ⟨ba, oa, v2, row, hAe, hcr, ⟨R, rn, rc, rfl, hRow⟩, -, hrow⟩ := HR0.out.at hxn
      have hag : ba ≠ g := HAB.out ba (RdL.addr_lt HR0.out hxn hAe)
      subst hAe
      have HRE : Hid (rowOf xss x = row) := rowOf_get hrow
      rw [← HRE.out] at hRow
      have HRW := Lib.hid (HROW.out x hxn)
      have hrnl := hRow.le
      have HRN := Lib.hid hRow.len
      have HX := Lib.hid hx
      clear hrow hx hxr
      go_wp2_with fail
      go_loopw [7] (fun u wi => ∃ (k : Nat) (Lb : List Bool), k ≤ rn ∧ u = .int .i64 (k : Int) ∧ wi.ownsRow g 4 1 (.slice (some ⟨g, 0, none⟩) n n) n (bls Lb) ∧ (Lb.length = n ∧ ∀ z, z < n → (gB Lb z = true ↔ (∃ j u : Nat, j < i ∧ L[j]? = some (u : Int) ∧ leF xss z u = true) ∨ ∃ t, t < k ∧ (rowOf xss x)[t]? = some (z : Int))) ∧ Below g w0 wi) (fun u _ => rn - (intOf u).toNat)
      case atStart => exact ⟨0, Lb0, Nat.zero_le _, rfl, hown0, ⟨HLB0.out.1, fun z hz => by rw [HLB0.out.2 z hz]; exact ⟨.inl, fun h => h.elim id fun ⟨t, h, _⟩ => absurd h (by omega)⟩⟩, hTr⟩
      case round =>
        clear hown0 HLB0 hTr hT0r
        obtain ⟨k, Lb, hk, rfl, hown, hLB, hTi⟩ := hrel
        have HLB := Lib.hid hLB
        clear hLB
        have hT0i : Below w0.heap.size w0 wr := by rw [HG.out]; exact hTi
        have cP0 := keepM hT0i cpw
        have cX := keepM hT0i hcx
        have cR := keepM hT0i hcr
        have hg0 : g ≤ g := Nat.le_refl _
        have hgs := (hown.lt g rfl).2
        clear hT0i
        by_cases hlk : k < rn
        · have hk0 : (0 : Int) ≤ (k : Int) := by omega
          have hk1 : (k : Int) < (rn : Int) := by omega
          go_upto_region 6 with fail
          refine wp_region_held_drew (S := fun w' => w'.cell? ⟨p, 0, none⟩ = some (.slice (some ⟨ba, oa, none⟩) n c) ∧ w'.cell? ⟨b, o + i, none⟩ = some (.int .i64 (x : Int)) ∧ w'.cell? ⟨ba, oa + x, none⟩ = some (.slice R rn rc)) (by kernel_rfl) ⟨cP0, cX, cR⟩ (fun hHeld0 => ?_)
          obtain ⟨wt1, Hwt1⟩ : ∃ x, Hid (x = World.drew wr) := ⟨_, rfl⟩
          have hbwt1 : Below wr.heap.size wr wt1 := by rw [Hwt1.out]; exact (Below.refl _ _).drew
          rw [← Hwt1.out] at hHeld0 ⊢
          have ywt1 := hbwt1.size
          replace hown := own_next hown hbwt1
          replace hTi := hTi.trans (hbwt1.mono (by omega))
          replace cP0 := keepM hbwt1 cP0
          replace cX := keepM hbwt1 cX
          replace cR := keepM hbwt1 cR
          refine wpAnyH_take (i := 0) (v := .int .i64 (k : Int)) rfl (by kernel_rfl) (by kernel_rfl) (by kernel_rfl) (fun _ _ _ h => h) (Or.inl ⟨by kernel_rfl, fun _ _ => by go_simp⟩) (by assumption) ?_
          (try simp only [Act.put, List.getElem_toArray, List.getElem_cons_zero, List.getElem_cons_succ, List.setIfInBounds_toArray, List.set_cons_zero, List.set_cons_succ])
          refine wpAnyH_take (i := 1) (v := .pointer (some ⟨p, 0, none⟩)) rfl (by kernel_rfl) (by kernel_rfl) (by kernel_rfl) (fun _ _ _ h => h) (Or.inl ⟨by kernel_rfl, fun _ _ => by go_simp⟩) (by assumption) ?_
          (try simp only [Act.put, List.getElem_toArray, List.getElem_cons_zero, List.getElem_cons_succ, List.setIfInBounds_toArray, List.set_cons_zero, List.set_cons_succ])
          refine wpAnyH_take (i := 2) (v := .slice (some ⟨ba, oa, none⟩) n c) rfl (by kernel_rfl) (by kernel_rfl) (by kernel_rfl) (fun _ _ _ h => h) (Or.inl ⟨by kernel_rfl, fun wv hSw => by (obtain ⟨hS0, hS1, hS2⟩ := hSw); go_simp⟩) (by assumption) ?_
          (try simp only [Act.put, List.getElem_toArray, List.getElem_cons_zero, List.getElem_cons_succ, List.setIfInBounds_toArray, List.set_cons_zero, List.set_cons_succ])
          refine wpAnyH_take (i := 3) (v := .slice (some ⟨b, o, none⟩) m d) rfl (by kernel_rfl) (by kernel_rfl) (by kernel_rfl) (fun _ _ _ h => h) (Or.inl ⟨by kernel_rfl, fun _ _ => by go_simp⟩) (by assumption) ?_
          (try simp only [Act.put, List.getElem_toArray, List.getElem_cons_zero, List.getElem_cons_succ, List.setIfInBounds_toArray, List.set_cons_zero, List.set_cons_succ])
          refine wpAnyH_take (i := 4) (v := .int .i64 (i : Int)) rfl (by kernel_rfl) (by kernel_rfl) (by kernel_rfl) (fun _ _ _ h => h) (Or.inl ⟨by kernel_rfl, fun _ _ => by go_simp⟩) (by assumption) ?_
          (try simp only [Act.put, List.getElem_toArray, List.getElem_cons_zero, List.getElem_cons_succ, List.setIfInBounds_toArray, List.set_cons_zero, List.set_cons_succ])
          refine wpAnyH_take (i := 5) (v := .pointer (some ⟨b, o + i, none⟩)) rfl (by kernel_rfl) (by kernel_rfl) (by kernel_rfl) (fun _ _ _ h => h) (Or.inl ⟨by kernel_rfl, fun _ _ => by go_simp⟩) (by assumption) ?_
          (try simp only [Act.put, List.getElem_toArray, List.getElem_cons_zero, List.getElem_cons_succ, List.setIfInBounds_toArray, List.set_cons_zero, List.set_cons_succ])
          refine wpAnyH_take (i := 6) (v := .int .i64 (x : Int)) rfl (by kernel_rfl) (by kernel_rfl) (by kernel_rfl) (fun _ _ _ h => h) (Or.inl ⟨by kernel_rfl, fun wv hSw => by (obtain ⟨hS0, hS1, hS2⟩ := hSw); go_simp⟩) (by assumption) ?_
          (try simp only [Act.put, List.getElem_toArray, List.getElem_cons_zero, List.getElem_cons_succ, List.setIfInBounds_toArray, List.set_cons_zero, List.set_cons_succ])
          refine wpAnyH_take (i := 7) (v := .pointer (some ⟨ba, oa + x, none⟩)) rfl (by kernel_rfl) (by kernel_rfl) (by kernel_rfl) (fun _ _ _ h => h) (Or.inl ⟨by kernel_rfl, fun _ _ => by go_simp⟩) (by assumption) ?_
          (try simp only [Act.put, List.getElem_toArray, List.getElem_cons_zero, List.getElem_cons_succ, List.setIfInBounds_toArray, List.set_cons_zero, List.set_cons_succ])
          refine wpAnyH_take (i := 8) (v := .slice R rn rc) rfl (by kernel_rfl) (by kernel_rfl) (by kernel_rfl) (fun _ _ _ h => h) (Or.inl ⟨by kernel_rfl, fun wv hSw => by (obtain ⟨hS0, hS1, hS2⟩ := hSw); go_simp⟩) (by assumption) ?_
          (try simp only [Act.put, List.getElem_toArray, List.getElem_cons_zero, List.getElem_cons_succ, List.setIfInBounds_toArray, List.set_cons_zero, List.set_cons_succ])
          refine wpAnyH_take (i := 9) (v := .int .i64 (rn : Int)) rfl (by kernel_rfl) (by kernel_rfl) (by kernel_rfl) (fun _ _ _ h => h) (Or.inl ⟨by kernel_rfl, fun _ _ => by go_simp⟩) (by assumption) ?_
          (try simp only [Act.put, List.getElem_toArray, List.getElem_cons_zero, List.getElem_cons_succ, List.setIfInBounds_toArray, List.set_cons_zero, List.set_cons_succ])
          refine wpAnyH_take (i := 10) (v := .bool true) rfl (by kernel_rfl) (by kernel_rfl) (by kernel_rfl) (fun _ _ _ h => h) (Or.inl ⟨by kernel_rfl, fun _ _ => by go_simp⟩) (by assumption) ?_
          (try simp only [Act.put, List.getElem_toArray, List.getElem_cons_zero, List.getElem_cons_succ, List.setIfInBounds_toArray, List.set_cons_zero, List.set_cons_succ])
          refine wpAnyH_done (by kernel_rfl) ?_ _
          clear hHeld0
          obtain ⟨wr2, HWR⟩ : ∃ z, Hid (z = wt1) := ⟨_, Lib.hid rfl⟩
          rw [← HWR.out] at cP0 cX cR hown hTi ⊢
          go_upto_region 8 with fail
          have hgs2 := (hown.lt g rfl).2
          have hT0j : Below w0.heap.size w0 wr2 := by rw [HG.out]; exact hTi
          have hRne := hRow
          obtain ⟨rb, ro, vy, yz, rfl, hcy, ⟨rfl, -⟩, -, hyz⟩ := (hRow.next stab_RI hT0j).at hlk
          have hyr := HRW.out yz (List.mem_of_getElem? hyz)
          obtain ⟨y, rfl⟩ := Int.eq_ofNat_of_zero_le hyr.1
          have hyn : y < n := by omega
          have hy0 : (0 : Int) ≤ (y : Int) := by omega
          have hy1 : (y : Int) < (n : Int) := by omega
          have cY : wr2.cell? ⟨rb, ro + k, none⟩ = some (.int .i64 (y : Int)) := hcy
          have hrg : rb ≠ g := HAB.out rb (RdL.addr_lt hRne hlk rfl)
          have HLB2 : Hid ((Lb.set y true).length = n ∧ ∀ z, z < n → (gB (Lb.set y true) z = true ↔ (∃ j u : Nat, j < i ∧ L[j]? = some (u : Int) ∧ leF xss z u = true) ∨ ∃ t, t < k + 1 ∧ (rowOf xss x)[t]? = some (z : Int))) := by
            refine ⟨by rw [List.length_set]; exact HLB.out.1, fun z hz => ?_⟩
            rw [gB_set (by rw [HLB.out.1]; exact hyn)]
            by_cases e : z = y
            · subst e
              rw [if_pos rfl]
              exact ⟨fun _ => .inr ⟨k, by omega, hyz⟩, fun _ => rfl⟩
            · rw [if_neg e, HLB.out.2 z hz]
              refine or_congr Iff.rfl ⟨fun ⟨t, h1, h2⟩ => ⟨t, by omega, h2⟩, fun ⟨t, h1, h2⟩ => ?_⟩
              by_cases e2 : t = k
              · subst e2
                rw [hyz] at h2
                injection h2 with h2
                exact absurd (by omega) e
              · exact ⟨t, by omega, h2⟩
          clear hcy hyz hyr hT0j
          refine wp_region_held_drew (S := fun w' => w'.cell? ⟨p, 0, none⟩ = some (.slice (some ⟨ba, oa, none⟩) n c) ∧ w'.cell? ⟨b, o + i, none⟩ = some (.int .i64 (x : Int)) ∧ w'.cell? ⟨ba, oa + x, none⟩ = some (.slice (some ⟨rb, ro, none⟩) rn rc) ∧ w'.cell? ⟨rb, ro + k, none⟩ = some (.int .i64 (y : Int))) (by kernel_rfl) ⟨cP0, cX, cR, cY⟩ (fun hHeld0 => ?_)
          obtain ⟨wt1, Hwt1⟩ : ∃ x, Hid (x = World.drew wr2) := ⟨_, rfl⟩
          have hbwt1 : Below wr2.heap.size wr2 wt1 := by rw [Hwt1.out]; exact (Below.refl _ _).drew
          rw [← Hwt1.out] at hHeld0 ⊢
          have ywt1 := hbwt1.size
          replace hown := own_next hown hbwt1
          replace hTi := hTi.trans (hbwt1.mono (by omega))
          replace cP0 := keepM hbwt1 cP0
          replace cX := keepM hbwt1 cX
          replace cR := keepM hbwt1 cR
          replace cY := keepM hbwt1 cY
          refine wpAnyH_take (i := 0) (v := .slice (some ⟨g, 0, none⟩) n n) rfl (by kernel_rfl) (by kernel_rfl) (by kernel_rfl) (fun _ _ _ h => h) (Or.inl ⟨by kernel_rfl, fun _ _ => by go_simp⟩) (by assumption) ?_
          (try simp only [Act.put, List.getElem_toArray, List.getElem_cons_zero, List.getElem_cons_succ, List.setIfInBounds_toArray, List.set_cons_zero, List.set_cons_succ])
          refine wpAnyH_take (i := 1) (v := .pointer (some ⟨p, 0, none⟩)) rfl (by kernel_rfl) (by kernel_rfl) (by kernel_rfl) (fun _ _ _ h => h) (Or.inl ⟨by kernel_rfl, fun _ _ => by go_simp⟩) (by assumption) ?_
          (try simp only [Act.put, List.getElem_toArray, List.getElem_cons_zero, List.getElem_cons_succ, List.setIfInBounds_toArray, List.set_cons_zero, List.set_cons_succ])
          refine wpAnyH_take (i := 2) (v := .slice (some ⟨ba, oa, none⟩) n c) rfl (by kernel_rfl) (by kernel_rfl) (by kernel_rfl) (fun _ _ _ h => h) (Or.inl ⟨by kernel_rfl, fun wv hSw => by (obtain ⟨hS0, hS1, hS2, hS3⟩ := hSw); go_simp⟩) (by assumption) ?_
          (try simp only [Act.put, List.getElem_toArray, List.getElem_cons_zero, List.getElem_cons_succ, List.setIfInBounds_toArray, List.set_cons_zero, List.set_cons_succ])
          refine wpAnyH_take (i := 3) (v := .slice (some ⟨b, o, none⟩) m d) rfl (by kernel_rfl) (by kernel_rfl) (by kernel_rfl) (fun _ _ _ h => h) (Or.inl ⟨by kernel_rfl, fun _ _ => by go_simp⟩) (by assumption) ?_
          (try simp only [Act.put, List.getElem_toArray, List.getElem_cons_zero, List.getElem_cons_succ, List.setIfInBounds_toArray, List.set_cons_zero, List.set_cons_succ])
          refine wpAnyH_take (i := 4) (v := .int .i64 (i : Int)) rfl (by kernel_rfl) (by kernel_rfl) (by kernel_rfl) (fun _ _ _ h => h) (Or.inl ⟨by kernel_rfl, fun _ _ => by go_simp⟩) (by assumption) ?_
          (try simp only [Act.put, List.getElem_toArray, List.getElem_cons_zero, List.getElem_cons_succ, List.setIfInBounds_toArray, List.set_cons_zero, List.set_cons_succ])
          refine wpAnyH_take (i := 5) (v := .pointer (some ⟨b, o + i, none⟩)) rfl (by kernel_rfl) (by kernel_rfl) (by kernel_rfl) (fun _ _ _ h => h) (Or.inl ⟨by kernel_rfl, fun _ _ => by go_simp⟩) (by assumption) ?_
          (try simp only [Act.put, List.getElem_toArray, List.getElem_cons_zero, List.getElem_cons_succ, List.setIfInBounds_toArray, List.set_cons_zero, List.set_cons_succ])
          refine wpAnyH_take (i := 6) (v := .int .i64 (x : Int)) rfl (by kernel_rfl) (by kernel_rfl) (by kernel_rfl) (fun _ _ _ h => h) (Or.inl ⟨by kernel_rfl, fun wv hSw => by (obtain ⟨hS0, hS1, hS2, hS3⟩ := hSw); go_simp⟩) (by assumption) ?_
          (try simp only [Act.put, List.getElem_toArray, List.getElem_cons_zero, List.getElem_cons_succ, List.setIfInBounds_toArray, List.set_cons_zero, List.set_cons_succ])
          refine wpAnyH_take (i := 7) (v := .pointer (some ⟨ba, oa + x, none⟩)) rfl (by kernel_rfl) (by kernel_rfl) (by kernel_rfl) (fun _ _ _ h => h) (Or.inl ⟨by kernel_rfl, fun _ _ => by go_simp⟩) (by assumption) ?_
          (try simp only [Act.put, List.getElem_toArray, List.getElem_cons_zero, List.getElem_cons_succ, List.setIfInBounds_toArray, List.set_cons_zero, List.set_cons_succ])
          refine wpAnyH_take (i := 8) (v := .slice (some ⟨rb, ro, none⟩) rn rc) rfl (by kernel_rfl) (by kernel_rfl) (by kernel_rfl) (fun _ _ _ h => h) (Or.inl ⟨by kernel_rfl, fun wv hSw => by (obtain ⟨hS0, hS1, hS2, hS3⟩ := hSw); go_simp⟩) (by assumption) ?_
          (try simp only [Act.put, List.getElem_toArray, List.getElem_cons_zero, List.getElem_cons_succ, List.setIfInBounds_toArray, List.set_cons_zero, List.set_cons_succ])
          refine wpAnyH_take (i := 9) (v := .int .i64 (k : Int)) rfl (by kernel_rfl) (by kernel_rfl) (by kernel_rfl) (fun _ _ _ h => h) (Or.inl ⟨by kernel_rfl, fun _ _ => by go_simp⟩) (by assumption) ?_
          (try simp only [Act.put, List.getElem_toArray, List.getElem_cons_zero, List.getElem_cons_succ, List.setIfInBounds_toArray, List.set_cons_zero, List.set_cons_succ])
          refine wpAnyH_take (i := 10) (v := .pointer (some ⟨rb, ro + k, none⟩)) rfl (by kernel_rfl) (by kernel_rfl) (by kernel_rfl) (fun _ _ _ h => h) (Or.inl ⟨by kernel_rfl, fun _ _ => by go_simp⟩) (by assumption) ?_
          (try simp only [Act.put, List.getElem_toArray, List.getElem_cons_zero, List.getElem_cons_succ, List.setIfInBounds_toArray, List.set_cons_zero, List.set_cons_succ])
          refine wpAnyH_take (i := 11) (v := .int .i64 (y : Int)) rfl (by kernel_rfl) (by kernel_rfl) (by kernel_rfl) (fun _ _ _ h => h) (Or.inl ⟨by kernel_rfl, fun wv hSw => by (obtain ⟨hS0, hS1, hS2, hS3⟩ := hSw); go_simp⟩) (by assumption) ?_
          (try simp only [Act.put, List.getElem_toArray, List.getElem_cons_zero, List.getElem_cons_succ, List.setIfInBounds_toArray, List.set_cons_zero, List.set_cons_succ])
          refine wpAnyH_take (i := 12) (v := .pointer (some ⟨g, y, none⟩)) rfl (by kernel_rfl) (by kernel_rfl) (by kernel_rfl) (fun _ _ _ h => h) (Or.inl ⟨by kernel_rfl, fun _ _ => by go_simp⟩) (by assumption) ?_
          (try simp only [Act.put, List.getElem_toArray, List.getElem_cons_zero, List.getElem_cons_succ, List.setIfInBounds_toArray, List.set_cons_zero, List.set_cons_succ])
          refine wpAnyH_ready (rs := [13]) (by kernel_rfl) (by simp) ?_
          refine (AllReadyH.cons rfl (fun K hK => ?_) AllReadyH.nil)
          obtain ⟨z0, hz0⟩ := own_cellB hown HLB.out.1 hyn
          have hfz := hown.frozenAt y
          go_simp
          obtain ⟨wt2, Hwt2⟩ : ∃ z, Hid (z = wt1.setCell ⟨g, y, none⟩ (.bool true)) := ⟨_, Lib.hid rfl⟩
          rw [← Hwt2.out]
          have hst := (hown.stored y (.bool true)).1
          rw [bls_set, ← Hwt2.out] at hst
          replace hTi := hTi.setCell (p := ⟨g, y, none⟩) hg0 (.bool true)
          rw [← Hwt2.out] at hTi
          replace cP0 : wt2.cell? ⟨p, 0, none⟩ = some (.slice (some ⟨ba, oa, none⟩) n c) := (keep_set Hwt2.out hpg).trans cP0
          replace cX : wt2.cell? ⟨b, o + i, none⟩ = some (.int .i64 (x : Int)) := (keep_set Hwt2.out hbg).trans cX
          replace cR : wt2.cell? ⟨ba, oa + x, none⟩ = some (.slice (some ⟨rb, ro, none⟩) rn rc) := (keep_set Hwt2.out hag).trans cR
          replace cY : wt2.cell? ⟨rb, ro + k, none⟩ = some (.int .i64 (y : Int)) := (keep_set Hwt2.out hrg).trans cY
          refine hK.out _ _ ⟨cP0, cX, cR, cY⟩ (fun hHeld1 => ?_)
          clear hK K hHeld0
          (try simp only [Act.put, List.getElem_toArray, List.getElem_cons_zero, List.getElem_cons_succ, List.setIfInBounds_toArray, List.set_cons_zero, List.set_cons_succ])
          refine wpAnyH_done (by kernel_rfl) ?_ _
          clear hHeld1
          go_wp2_with fail
          go_roundw
          case rel => exact ⟨k + 1, _, by omega, by go_num, hst, HLB2.out, hTi⟩
          case measure => simp [intOf]; omega
        · have hkr : k = rn := by omega
          have hk1 : ¬ (k : Int) < (rn : Int) := by omega
          have HLN : Hid (Lb.length = n ∧ ∀ z, z < n → (gB Lb z = true ↔ ∃ j u : Nat, j < i + 1 ∧ L[j]? = some (u : Int) ∧ leF xss z u = true)) := by
            refine ⟨HLB.out.1, fun z hz => ?_⟩
            rw [HLB.out.2 z hz]
            constructor
            · rintro (⟨j, u, h1, h2, h3⟩ | ⟨t, h1, h2⟩)
              · exact ⟨j, u, by omega, h2, h3⟩
              · exact ⟨i, x, by omega, HX.out, hasI_iff.2 (List.mem_of_getElem? h2)⟩
            · rintro ⟨j, u, h1, h2, h3⟩
              by_cases e : j = i
              · subst e
                rw [HX.out] at h2
                injection h2 with h2
                have : x = u := by omega
                subst this
                obtain ⟨t, ht⟩ := List.getElem?_of_mem (hasI_iff.1 h3)
                exact .inr ⟨t, by rw [hkr, ← HRN.out]; exact (List.getElem?_eq_some_iff.1 ht).1, ht⟩
              · exact .inl ⟨j, u, by omega, h2, h3⟩
          go_upto_region 6 with fail
          refine wp_region_held_drew (S := fun w' => w'.cell? ⟨p, 0, none⟩ = some (.slice (some ⟨ba, oa, none⟩) n c) ∧ w'.cell? ⟨b, o + i, none⟩ = some (.int .i64 (x : Int)) ∧ w'.cell? ⟨ba, oa + x, none⟩ = some (.slice R rn rc)) (by kernel_rfl) ⟨cP0, cX, cR⟩ (fun hHeld0 => ?_)
          obtain ⟨wt1, Hwt1⟩ : ∃ x, Hid (x = World.drew wr) := ⟨_, rfl⟩
          have hbwt1 : Below wr.heap.size wr wt1 := by rw [Hwt1.out]; exact (Below.refl _ _).drew
          rw [← Hwt1.out] at hHeld0 ⊢
          have ywt1 := hbwt1.size
          replace hown := own_next hown hbwt1
          replace hTi := hTi.trans (hbwt1.mono (by omega))
          replace cP0 := keepM hbwt1 cP0
          replace cX := keepM hbwt1 cX
          replace cR := keepM hbwt1 cR
          refine wpAnyH_take (i := 0) (v := .int .i64 (k : Int)) rfl (by kernel_rfl) (by kernel_rfl) (by kernel_rfl) (fun _ _ _ h => h) (Or.inl ⟨by kernel_rfl, fun _ _ => by go_simp⟩) (by assumption) ?_
          (try simp only [Act.put, List.getElem_toArray, List.getElem_cons_zero, List.getElem_cons_succ, List.setIfInBounds_toArray, List.set_cons_zero, List.set_cons_succ])
          refine wpAnyH_take (i := 1) (v := .pointer (some ⟨p, 0, none⟩)) rfl (by kernel_rfl) (by kernel_rfl) (by kernel_rfl) (fun _ _ _ h => h) (Or.inl ⟨by kernel_rfl, fun _ _ => by go_simp⟩) (by assumption) ?_
          (try simp only [Act.put, List.getElem_toArray, List.getElem_cons_zero, List.getElem_cons_succ, List.setIfInBounds_toArray, List.set_cons_zero, List.set_cons_succ])
          refine wpAnyH_take (i := 2) (v := .slice (some ⟨ba, oa, none⟩) n c) rfl (by kernel_rfl) (by kernel_rfl) (by kernel_rfl) (fun _ _ _ h => h) (Or.inl ⟨by kernel_rfl, fun wv hSw => by (obtain ⟨hS0, hS1, hS2⟩ := hSw); go_simp⟩) (by assumption) ?_
          (try simp only [Act.put, List.getElem_toArray, List.getElem_cons_zero, List.getElem_cons_succ, List.setIfInBounds_toArray, List.set_cons_zero, List.set_cons_succ])
          refine wpAnyH_take (i := 3) (v := .slice (some ⟨b, o, none⟩) m d) rfl (by kernel_rfl) (by kernel_rfl) (by kernel_rfl) (fun _ _ _ h => h) (Or.inl ⟨by kernel_rfl, fun _ _ => by go_simp⟩) (by assumption) ?_
          (try simp only [Act.put, List.getElem_toArray, List.getElem_cons_zero, List.getElem_cons_succ, List.setIfInBounds_toArray, List.set_cons_zero, List.set_cons_succ])
          refine wpAnyH_take (i := 4) (v := .int .i64 (i : Int)) rfl (by kernel_rfl) (by kernel_rfl) (by kernel_rfl) (fun _ _ _ h => h) (Or.inl ⟨by kernel_rfl, fun _ _ => by go_simp⟩) (by assumption) ?_
          (try simp only [Act.put, List.getElem_toArray, List.getElem_cons_zero, List.getElem_cons_succ, List.setIfInBounds_toArray, List.set_cons_zero, List.set_cons_succ])
          refine wpAnyH_take (i := 5) (v := .pointer (some ⟨b, o + i, none⟩)) rfl (by kernel_rfl) (by kernel_rfl) (by kernel_rfl) (fun _ _ _ h => h) (Or.inl ⟨by kernel_rfl, fun _ _ => by go_simp⟩) (by assumption) ?_
          (try simp only [Act.put, List.getElem_toArray, List.getElem_cons_zero, List.getElem_cons_succ, List.setIfInBounds_toArray, List.set_cons_zero, List.set_cons_succ])
          refine wpAnyH_take (i := 6) (v := .int .i64 (x : Int)) rfl (by kernel_rfl) (by kernel_rfl) (by kernel_rfl) (fun _ _ _ h => h) (Or.inl ⟨by kernel_rfl, fun wv hSw => by (obtain ⟨hS0, hS1, hS2⟩ := hSw); go_simp⟩) (by assumption) ?_
          (try simp only [Act.put, List.getElem_toArray, List.getElem_cons_zero, List.getElem_cons_succ, List.setIfInBounds_toArray, List.set_cons_zero, List.set_cons_succ])
          refine wpAnyH_take (i := 7) (v := .pointer (some ⟨ba, oa + x, none⟩)) rfl (by kernel_rfl) (by kernel_rfl) (by kernel_rfl) (fun _ _ _ h => h) (Or.inl ⟨by kernel_rfl, fun _ _ => by go_simp⟩) (by assumption) ?_
          (try simp only [Act.put, List.getElem_toArray, List.getElem_cons_zero, List.getElem_cons_succ, List.setIfInBounds_toArray, List.set_cons_zero, List.set_cons_succ])
          refine wpAnyH_take (i := 8) (v := .slice R rn rc) rfl (by kernel_rfl) (by kernel_rfl) (by kernel_rfl) (fun _ _ _ h => h) (Or.inl ⟨by kernel_rfl, fun wv hSw => by (obtain ⟨hS0, hS1, hS2⟩ := hSw); go_simp⟩) (by assumption) ?_
          (try simp only [Act.put, List.getElem_toArray, List.getElem_cons_zero, List.getElem_cons_succ, List.setIfInBounds_toArray, List.set_cons_zero, List.set_cons_succ])
          refine wpAnyH_take (i := 9) (v := .int .i64 (rn : Int)) rfl (by kernel_rfl) (by kernel_rfl) (by kernel_rfl) (fun _ _ _ h => h) (Or.inl ⟨by kernel_rfl, fun _ _ => by go_simp⟩) (by assumption) ?_
          (try simp only [Act.put, List.getElem_toArray, List.getElem_cons_zero, List.getElem_cons_succ, List.setIfInBounds_toArray, List.set_cons_zero, List.set_cons_succ])
          refine wpAnyH_take (i := 10) (v := .bool false) rfl (by kernel_rfl) (by kernel_rfl) (by kernel_rfl) (fun _ _ _ h => h) (Or.inl ⟨by kernel_rfl, fun _ _ => by go_simp⟩) (by assumption) ?_
          (try simp only [Act.put, List.getElem_toArray, List.getElem_cons_zero, List.getElem_cons_succ, List.setIfInBounds_toArray, List.set_cons_zero, List.set_cons_succ])
          refine wpAnyH_done (by kernel_rfl) ?_ _
          clear hHeld0
          go_wp2_with fail
          go_roundw
          case rel => exact ⟨i + 1, _, by omega, by go_num, hown, HLN.out, hTi⟩
          case measure => simp [intOf]; omega
    · obtain rfl : i = m := by omega
      have hi1 : ¬ (i : Int) < (i : Int) := by omega
      have hrdB : RdL RB wr (some ⟨g, 0, none⟩) n Lb0 := rdB_own hown0 HLB0.out.1 (by unfold maxLen; omega)
      have HLI := Lib.hid (l5List_any (some ⟨g, 0, none⟩) n n Lb0 wr hrdB (by omega))
      have HEQ : Hid (markL n (gB Lb0) = dwnL n (leF xss) L) := by
        refine markL_congr fun y hy => ?_
        have e : gB Lb0 y = true ↔ dwB (leF xss) L y = true := by
          rw [HLB0.out.2 y hy, dwB_iff]
          constructor
          · rintro ⟨j, u, -, h2, h3⟩
            exact ⟨_, List.mem_of_getElem? h2, by simpa using h3⟩
          · rintro ⟨v, hv, h3⟩
            obtain ⟨j, hj⟩ := List.getElem?_of_mem hv
            obtain ⟨u, rfl⟩ := Int.eq_ofNat_of_zero_le (HL.out v hv).1
            exact ⟨j, u, by rw [← HLM.out]; exact (List.getElem?_eq_some_iff.1 hj).1, hj, by simpa using h3⟩
        cases h1 : gB Lb0 y <;> cases h2 : dwB (leF xss) L y <;> simp_all
      have hTw : Below w.heap.size w wr := below_next hb0 hT0r rfl
      clear hown0 HLB0
      go_wp2_with fail
      refine HLI.out.mono ?_
      rintro e w2 ⟨A2, c2, rfl, hM, hb2⟩
      rw [HEQ.out] at hM ⊢
      go_wp2_with fail
      go_ret
      exact ⟨A2, c2, rfl, own_mono hM hTw.size, below_next hTw hb2 rfl⟩
set_option maxRecDepth 20000 in
set_option maxHeartbeats 8000000 in
theorem specDo_any (A B : Option Addr) (n c m d : Nat) (xss : List (List Int)) (L : List Int) (w : World) (h : RdL (RV RI) w A n xss) (hs : RdL RI w B m L) : Calls Tryz.prog 7 #[.agg #[.slice A n c], .slice B m d] w (OwnB w (doRes xss L) (doOk xss L)) := by
  have hl := h.len
  obtain ⟨w0, HW0⟩ : ∃ wb, Hid (wb = w.alloc (.cells #[.slice A n c] 26)) := ⟨_, Lib.hid rfl⟩
  have hb0 : Below w.heap.size w w0 := by rw [HW0.out]; exact below_box _ _
  have BP : Blk w0 w.heap.size 26 #[.slice A n c] := by rw [HW0.out]; exact Blk.new _ _ _
  have hr0 := h.next stab_RVI hb0
  have hs0 := hs.next stab_RI hb0
  have cP0 := BP.cell 0
  simp at cP0
  have HO := Lib.hid (l23Good_any A n c xss w0 hr0)
  have HLL := Lib.hid hl
  have HLS := Lib.hid hs.len
  obtain ⟨r, HR⟩ : ∃ r, Hid (tt (GoodP xss) = r) := ⟨_, rfl⟩
  rw [HR.out] at HO
  clear hl h hs
  go_enter Tryz.func7, Tryz.ntmps7
  go_upto_region 1 with fail
  rw [← HW0.out]
  rcases r with _ | _
  · have HK : Hid (doOk xss L = false) := by show _ = _; unfold doOk; rw [HR.out]; rfl
    have HF : Hid (doRes xss L = []) := by show _ = _; unfold doRes; rw [HK.out]; rfl
    go_wp2_with fail
    refine HO.out.mono ?_
    rintro e w1 ⟨rfl, hb1⟩
    have T1 := below_next hb0 hb1 rfl
    go_wp2_with fail
    go_ret2
    rw [HK.out, HF.out]
    exact ⟨_, 0, 0, rfl, own_lit0 T1, below_next T1 (below_box _ _) rfl⟩
  · have hgd := tt_iff.1 HR.out
    have HGD := Lib.hid hgd
    have hn10 : n ≤ 10 := by rw [← HLL.out]; exact hgd.1
    clear hgd
    by_cases h20 : 20 < m
    · have h20i : (20 : Int) < (m : Int) := by omega
      have HK : Hid (doOk xss L = false) := by show _ = _; unfold doOk; rw [HR.out, decide_eq_false (by rw [HLS.out]; omega)]; rfl
      have HF : Hid (doRes xss L = []) := by show _ = _; unfold doRes; rw [HK.out]; rfl
      go_wp2_with fail
      refine HO.out.mono ?_
      rintro e w1 ⟨rfl, hb1⟩
      have T1 := below_next hb0 hb1 rfl
      have cP1 := keepM hb1 cP0
      go_wp2_with fail
      go_ret2
      rw [HK.out, HF.out]
      exact ⟨_, 0, 0, rfl, own_lit0 T1, below_next T1 (below_box _ _) rfl⟩
    · have h20i : ¬ (20 : Int) < (m : Int) := by omega
      have h20j : (m : Int) ≤ 20 := by omega
      obtain ⟨q, HQ⟩ : ∃ q, Hid (allIn 0 ((n : Int) - 1) L = q) := ⟨_, Lib.hid rfl⟩
      have HKQ : Hid (doOk xss L = q) := by show _ = _; unfold doOk; rw [HR.out, decide_eq_true (by rw [HLS.out]; omega), HLL.out, HQ.out]; rfl
      go_wp2_with fail
      refine HO.out.mono ?_
      rintro e w1 ⟨rfl, hb1⟩
      have T1 := below_next hb0 hb1 rfl
      have cP1 := keepM hb1 cP0
      have hr1 := hr0.next stab_RVI hb1
      have hs1 := hs0.next stab_RI hb1
      have HE := Lib.hid (l2Elements_any B m d L (n : Int) w1 hs1 (by omega) (by omega))
      clear HO cP0
      go_wp2_with fail
      refine HE.out.mono ?_
      rintro e wq ⟨rfl, rfl⟩
      rw [HQ.out]
      clear HE
      rcases q with _ | _
      · have HF : Hid (doRes xss L = []) := by show _ = _; unfold doRes; rw [HKQ.out]; rfl
        go_wp2_with fail
        go_ret2
        rw [HKQ.out, HF.out]
        exact ⟨_, 0, 0, rfl, own_lit0 T1, below_next T1 (below_box _ _) rfl⟩
      · have HF : Hid (doRes xss L = dwnL n (leF xss) L) := by show _ = _; unfold doRes; rw [HKQ.out, if_pos rfl, HLL.out]
        have HD := Lib.hid (l23Down_any A B n c m d xss L w1 hr1 hs1 HGD.out (fun v hv => allIn_iff.1 HQ.out v hv))
        go_wp2_with fail
        refine HD.out.mono ?_
        rintro e w3 ⟨A2, c2, rfl, hM, hb3⟩
        go_wp2_with fail
        go_ret2
        rw [HKQ.out, HF.out]
        exact ⟨A2, _, c2, rfl, own_mono hM T1.size, below_next T1 hb3 rfl⟩
/-- A set is a downset exactly if it is the downset of its elements. -/
theorem down_same {n : Nat} {F : Nat → Nat → Bool} (hF : OrdP n F) {S : List Int} (hS : IsSet n S) : eqL (dwnL n F S) S = tt (DownP n F S) := by
  have e : eqL (dwnL n F S) S = true ↔ DownP n F S := by
    rw [eqL_iff]
    have h := down_iff hF S
    unfold downB at h
    rw [setB_iff.2 hS, Bool.true_and, tt_iff, filt_self hS.2] at h
    exact ⟨fun h2 => h.2 ⟨hS, h2⟩, fun h2 => (h.1 h2).2⟩
  cases h1 : eqL (dwnL n F S) S with
  | true => rw [tt_iff.2 (e.1 h1)]
  | false => exact tt_false fun h2 => by rw [e.2 h2] at h1; cases h1
set_option maxRecDepth 20000 in
set_option maxHeartbeats 8000000 in
theorem l23Downsets_any (A : Option Addr) (n c : Nat) (xss : List (List Int)) (w : World) (h : RdL (RV RI) w A n xss) (hgd : GoodP xss) (hn10 : n ≤ 10) :
    Calls Tryz.prog 33 #[.agg #[.slice A n c]] w (fun e w' => ∃ A q c, e = .returned (.slice A q c) ∧ RdL (RV RI) w' A q (dsL n (leF xss)) ∧ Below w.heap.size w w') := by
  have HXL := Lib.hid h.len
  have HGD := Lib.hid hgd
  have HOP : Hid (OrdP n (leF xss)) := by show OrdP _ _; rw [← h.len]; exact hgd.2.2
  obtain ⟨P, HP⟩ : ∃ P, Hid (downB n (leF xss) = P) := ⟨_, Lib.hid rfl⟩
  obtain ⟨N, HN⟩ : ∃ N : Nat, Hid (2 ^ n = N) := ⟨_, Lib.hid rfl⟩
  have hN : N ≤ 1024 := by rw [← HN.out]; exact pow10T hn10
  have HSL : Hid (dsL n (leF xss) = insD P N) := by show _ = _; unfold dsL; rw [HP.out, HN.out]
  obtain ⟨w0, HW0⟩ : ∃ wb, Hid (wb = w.alloc (.cells #[.slice A n c] 26)) := ⟨_, Lib.hid rfl⟩
  have hb0 : Below w.heap.size w w0 := by rw [HW0.out]; exact below_box _ _
  have BP : Blk w0 w.heap.size 26 #[.slice A n c] := by rw [HW0.out]; exact Blk.new _ _ _
  have hr0 := h.next stab_RVI hb0
  have hT1 : Below w0.heap.size w0 (w0.alloc (.cells #[] 27)) := below_box _ _
  clear h hgd
  go_enter Tryz.func33, Tryz.ntmps33
  go_upto_region 1 with fail
  rw [← HW0.out]
  go_wp2_with fail
  go_loopw [3, 4] (fun v j wr => ∃ k : Nat, k ≤ N ∧ j = .int .i64 k ∧ OutM wr v (insD P k) ∧ Below w0.heap.size w0 wr) (fun _ j _ => N - (intOf j).toNat)
  case atStart => exact ⟨0, Nat.zero_le _, rfl, ⟨_, _, _, _, rfl, Nat.le_refl _, RdL.nil _ _ _⟩, hT1⟩
  case round =>
    clear hT1
    obtain ⟨k, hk, rfl, ⟨ob, oo, on, oc, rfl, hoc, ho⟩, hT⟩ := hrel
    have hpw : (1 : Int) * 2 ^ n = (N : Int) := by rw [← HN.out]; simp
    have hpw2 : (2 : Int) ^ n = (N : Int) := by rw [← HN.out]; simp
    have hol := insD_len P k
    rw [ho.len] at hol
    have cP0 := (BP.next hT).cell 0
    simp at cP0
    have hT0r := below_next hb0 hT rfl
    by_cases hlt : k < N
    · have hk1 : (k : Int) < (N : Int) := by omega
      have HST : Hid (insD P (k + 1) = if P (bitsTo k 10) then insT (bitsTo k 10) (insD P k) else insD P k) := rfl
      have hbl := bitsT_len k (by omega) 10 (by omega)
      have HIS := Lib.hid (bitsT_in (n := n) (q := k) (by rw [HN.out]; exact hlt) hn10)
      have HPT : Hid (eqL (dwnL n (leF xss) (bitsTo k 10)) (bitsTo k 10) = P (bitsTo k 10)) := by show _ = _; rw [down_same HOP.out HIS.out, ← HP.out]; exact (downB_bits (by rw [HN.out]; exact hlt) hn10).symm
      obtain ⟨acc, HA⟩ : ∃ acc, Hid (insD P k = acc) := ⟨_, rfl⟩
      obtain ⟨xs, HX⟩ : ∃ xs, Hid (bitsTo k 10 = xs) := ⟨_, rfl⟩
      rw [HA.out] at ho HST
      rw [HX.out] at hbl HIS HST HPT
      have HB1 := l5BitsT_any k wr (by omega)
      rw [HX.out] at HB1
      have HB := Lib.hid HB1
      clear HB1
      go_upto_region 6 with (go_at_call 68; refine HB.out.mono ?_; rintro e w4 ⟨A4, c4, rfl, how4, hb4⟩)
      have hT4 := below_next hT hb4 rfl
      have hrx := rd_of_own (R := RI) how4 (RI_ints fun v hv => by have := HIS.out.2 v hv; omega)
      replace ho := ho.next stab_RVI hb4
      obtain ⟨r, HR⟩ : ∃ r, Hid (P xs = r) := ⟨_, rfl⟩
      rw [HR.out] at HST HPT
      have HF := Lib.hid (l23Down_any A A4 n c xs.length c4 xss xs w4 (hr0.next stab_RVI hT4) hrx HGD.out (fun v hv => by have := HIS.out.2 v hv; omega))
      clear cP0
      have cP0 := (BP.next hT4).cell 0
      simp at cP0
      have HDB : Hid (∀ v ∈ dwnL n (leF xss) xs, -9223372036854775808 ≤ v ∧ v ≤ 9223372036854775807) := markL_bd n _ (by omega)
      obtain ⟨ds, HDS⟩ : ∃ ds, Hid (dwnL n (leF xss) xs = ds) := ⟨_, Lib.hid rfl⟩
      rw [HDS.out] at HF HDB HPT
      clear how4 hb4
      go_wp2_with fail
      refine HF.out.mono ?_
      rintro e w5 ⟨A5, c5, rfl, how5, hb5⟩
      have hT5 := below_next hT4 hb5 rfl
      replace hrx := hrx.next stab_RI hb5
      replace ho := ho.next stab_RVI hb5
      have hrd := rd_of_own (R := RI) how5 (RI_ints HDB.out)
      have HSM := Lib.hid (l1Same_any A5 A4 ds.length xs.length c5 c4 ds xs w5 hrd hrx)
      clear HF how5 hb5 cP0
      rcases r with _ | _
      · have HS2 : Hid (insD P (k + 1) = acc) := by show _ = _; rw [HST.out]; simp
        go_wp2_with fail
        refine HSM.out.mono ?_
        rintro e wq ⟨rfl, z5, rfl⟩
        rw [HPT.out]
        have hbq : Below w5.heap.size w5 (w5.drewN z5) := below_drewN (Below.refl _ _) z5
        obtain ⟨w55, HW55⟩ : ∃ x, Hid (x = w5.drewN z5) := ⟨_, Lib.hid rfl⟩
        rw [← HW55.out] at hbq ⊢
        go_wp2_with fail
        go_roundw
        case rel => exact ⟨k + 1, by omega, by go_num, ⟨ob, oo, on, oc, rfl, hoc, by rw [HS2.out]; exact ho.next stab_RVI hbq⟩, below_next hT5 hbq rfl⟩
        case measure => simp [intOf]; omega
      · have HS2 : Hid (insD P (k + 1) = insT xs acc) := by show _ = _; rw [HST.out]; simp
        go_wp2_with fail
        refine HSM.out.mono ?_
        rintro e wq ⟨rfl, z5, rfl⟩
        rw [HPT.out]
        have hbq : Below w5.heap.size w5 (w5.drewN z5) := below_drewN (Below.refl _ _) z5
        obtain ⟨w55, HW55⟩ : ∃ x, Hid (x = w5.drewN z5) := ⟨_, Lib.hid rfl⟩
        rw [← HW55.out] at hbq ⊢
        have HSO := Lib.hid (l5Sort_any ob oo on oc A4 xs.length c4 acc xs w55 (ho.next stab_RVI hbq) (hrx.next stab_RI hbq) hoc (by omega))
        have hT55 := below_next hT5 hbq rfl
        go_wp2_with (go_at_call 70; refine HSO.out.mono ?_; rintro e w6 ⟨g6, c6, rfl, hc6, hr6, hb6⟩)
        have hT6 := below_next hT55 hb6 rfl
        go_roundw
        case rel => exact ⟨k + 1, by omega, by go_num, ⟨g6, 0, on + 1, c6, rfl, hc6, by rw [HS2.out]; exact hr6⟩, hT6⟩
        case measure => simp [intOf]; omega
    · obtain rfl : k = N := by omega
      have hk1 : ¬ (k : Int) < (k : Int) := by omega
      go_wp2_with fail
      go_ret
      exact ⟨some ⟨ob, oo, none⟩, on, ⟨oc, rfl⟩, by rw [HSL.out]; exact ho, hT0r⟩
set_option maxRecDepth 20000 in
set_option maxHeartbeats 4000000 in
theorem specDs_any (A : Option Addr) (n c : Nat) (xss : List (List Int)) (w : World) (h : RdL (RV RI) w A n xss) : Calls Tryz.prog 10 #[.agg #[.slice A n c]] w (RdMB w (dsRes xss) (tt (GoodP xss))) := by
  have hl := h.len
  obtain ⟨w0, HW0⟩ : ∃ wb, Hid (wb = w.alloc (.cells #[.slice A n c] 26)) := ⟨_, Lib.hid rfl⟩
  have hb0 : Below w.heap.size w w0 := by rw [HW0.out]; exact below_box _ _
  have BP : Blk w0 w.heap.size 26 #[.slice A n c] := by rw [HW0.out]; exact Blk.new _ _ _
  have hr0 := h.next stab_RVI hb0
  have cP0 := BP.cell 0
  simp at cP0
  have HO := Lib.hid (l23Good_any A n c xss w0 hr0)
  have HLL := Lib.hid hl
  obtain ⟨r, HR⟩ : ∃ r, Hid (tt (GoodP xss) = r) := ⟨_, rfl⟩
  rw [HR.out] at HO ⊢
  clear hl h
  go_enter Tryz.func10, Tryz.ntmps10
  go_upto_region 1 with fail
  rw [← HW0.out]
  go_wp2_with fail
  refine HO.out.mono ?_
  rintro e w1 ⟨rfl, hb1⟩
  have T1 := below_next hb0 hb1 rfl
  have cP1 := keepM hb1 cP0
  clear HO cP0
  rcases r with _ | _
  · have HF : Hid (dsRes xss = []) := by show _ = _; unfold dsRes; rw [HR.out]; rfl
    go_wp2_with fail
    go_ret2
    rw [HF.out]
    exact ⟨_, 0, 0, rfl, RdL.nil _ _ _, below_next T1 (below_box _ _) rfl⟩
  · have HF : Hid (dsRes xss = dsL n (leF xss)) := by show _ = _; unfold dsRes; rw [HR.out, HLL.out]; rfl
    have hn10 : n ≤ 10 := by rw [← HLL.out]; exact (tt_iff.1 HR.out).1
    have HD := Lib.hid (l23Downsets_any A n c xss w1 (hr0.next stab_RVI hb1) (tt_iff.1 HR.out) hn10)
    go_wp2_with fail
    refine HD.out.mono ?_
    rintro e w2 ⟨A2, q, c2, rfl, hM, hb2⟩
    go_wp2_with fail
    go_ret2
    rw [HF.out]
    exact ⟨A2, q, c2, rfl, hM, below_next T1 hb2 rfl⟩
end Go.Proofs.YtkmgbdljiajlaaaGreatDoor
namespace Go.Proofs.YtkmgbdljiajlaaaGreatDoor
open Go.RowKit
set_option linter.unusedVariables false
set_option linter.unusedSimpArgs false

def lenE : Value → Nat
  | .slice _ k _ => k
  | _ => 0
theorem app_ints {w : World} {base k c : Nat} {A : Option Addr} {L : List Int} {j : Int} (h : w.ownsRow base 3 1 (.slice A (k + 1) c) (k + 1) (ints L ++ [j].map fun x => .int .i64 x)) : w.ownsRow base 3 1 (.slice A (k + 1) c) (k + 1) (ints (L ++ [j])) := by simpa [ints] using h
theorem step_appAnyG {P : Program} {α : Type} {R : World → Value → α → Prop} (w : World) {ops : Array Oper} {o : Oper} {a : Act} {K : Act → World → Prop} {Q : Exit → Act → World → Prop} {E : Prop} (hw : Region.wanted o (yielded ops a.tmps) = true) (s x : Operand) (t e : TypeId)
    (ho : o.op = .call { callee := .builtin .append, args := #[s, x], argTypes := #[t, t] }) (z : Value) (bytes : Nat)
    (ht : P.underlying t = some (.slice e)) (hi : (P.info? e).map (fun i => (i.zero, i.size, i.bytes)) = some (some z, 1, bytes)) (hzs : z.cells.size = 1) (hbb : bytes ≤ 64)
    (base n c : Nat) (A : Option Addr) (vs : List Value) (hs : a.eval s = .slice A n c) (hown : w.ownsRow base e 1 (.slice A n c) n vs)
    (B : Option Addr) (m d : Nat) (xs : List α) (f : α → Value) (h1 : ∀ x, (f x).oneCell' = true) (hx : a.eval x = .slice B m d) (hr : RdL R w B m xs) (hf : ∀ w v x, R w v x → v = f x)
    (hn : n + m ≤ 1099511627776) (hbase : base ≤ w.heap.size)
    (hK : ∀ A' c' w', w'.ownsRow base e 1 (.slice A' (n + m) c') (n + m) (vs ++ xs.map f) → w.grownBy w' (Value.slice A n c).ownBlock → Below base w w' → K (a.put o.dst (.slice A' (n + m) c')) w') :
    if Region.wanted o (yielded ops a.tmps) = true then Oper.wp P o a w K Q else E := by
  rw [if_pos hw]
  exact wp_appAny w s x t e ho z bytes ht hi hzs hbb base n c A vs hs hown B m d xs f h1 hx hr hf hn hbase hK
theorem partL_iffD {ys : List Int} : ∀ {xs : List Int}, partL ys xs = true ↔ ∀ x ∈ xs, x ∈ ys
  | [] => by simp [partL]
  | x :: l => by
    rw [partL]
    simp only [Bool.and_eq_true, hasI_iff, List.mem_cons, forall_eq_or_imp]
    rw [partL_iffD]
theorem rd_oneD {w : World} {g : Nat} {u : Int} (h : w.cell? ⟨g, 0, none⟩ = some (.int .i64 u)) (hu : -9223372036854775808 ≤ u ∧ u ≤ 9223372036854775807) : RdL RI w (some ⟨g, 0, none⟩) 1 [u] := ⟨rfl, by unfold maxLen; omega, fun k x hk => by
  rcases k with _ | k
  · simp only [List.getElem?_cons_zero, Option.some.injEq] at hk
    subst hk
    exact ⟨g, 0, .int .i64 u, rfl, h, rfl, hu⟩
  · simp at hk⟩
/-- The next element, in the reference's words. -/
theorem min_part {xss : List (List Int)} {L : List Int} {x : Nat} (hx : x < xss.length) (hR : ∀ v ∈ rowOf xss x, 0 ≤ v ∧ v ≤ (xss.length : Int) - 1) : minB xss.length (leF xss) L x = (!(hasI (x : Int) L) && partL (L ++ [(x : Int)]) (rowOf xss x)) := by
  rw [Bool.eq_iff_iff, minB_iff, Bool.and_eq_true, Bool.not_eq_true', ← Bool.not_eq_true, hasI_iff, partL_iffD]
  constructor
  · rintro ⟨h1, h2⟩
    refine ⟨h1, fun v hv => ?_⟩
    have h0 := hR v hv
    obtain ⟨y, rfl⟩ := Int.eq_ofNat_of_zero_le h0.1
    by_cases e : y = x
    · subst e; simp
    · have := h2 y (by omega) e (by unfold leF; exact hasI_iff.2 hv)
      simp [this]
  · rintro ⟨h1, h2⟩
    refine ⟨h1, fun y hy hne hl => ?_⟩
    have := h2 (y : Int) (by unfold leF at hl; exact hasI_iff.1 hl)
    rcases List.mem_append.1 this with h | h
    · exact h
    · have := List.mem_singleton.1 h
      omega
set_option maxRecDepth 20000 in
set_option maxHeartbeats 8000000 in
theorem l23First_any (A : Option Addr) (n c : Nat) (xss : List (List Int)) (w : World) (h : RdL (RV RI) w A n xss) (hgd : GoodP xss) :
    Calls Tryz.prog 43 #[.agg #[.slice A n c]] w (OwI w (extL n (leF xss) n)) := by
  have hl := h.len
  obtain ⟨F, HFF⟩ : ∃ F, Hid (leF xss = F) := ⟨_, Lib.hid rfl⟩
  rw [HFF.out]
  have HOP : Hid (OrdP n F) := by show OrdP _ _; rw [← HFF.out, ← hl]; exact hgd.2.2
  have hn10 : n ≤ 10 := by rw [← hl]; exact hgd.1
  have HRX : Hid (∀ x, x < n → ∀ v ∈ rowOf xss x, 0 ≤ v ∧ v ≤ (n : Int) - 1) := fun x hx v hv => by
    have := allIn_iff.1 (hgd.2.1 x (by rw [hl]; exact hx)).2 v hv
    rw [hl] at this
    exact this
  have HMP : Hid (∀ x, x < n → ∀ L : List Int, minB n F L x = (!(hasI (x : Int) L) && partL (L ++ [(x : Int)]) (rowOf xss x))) := fun x hx L => by
    have h2 := HRX.out x hx
    rw [← hl] at h2 hx ⊢
    rw [← HFF.out]
    exact min_part hx h2
  obtain ⟨w0, HW0⟩ : ∃ wb, Hid (wb = w.alloc (.cells #[.slice A n c] 26)) := ⟨_, Lib.hid rfl⟩
  have hb0 : Below w.heap.size w w0 := by rw [HW0.out]; exact below_box _ _
  have BP : Blk w0 w.heap.size 26 #[.slice A n c] := by rw [HW0.out]; exact Blk.new _ _ _
  have HR0 := Lib.hid (h.next stab_RVI hb0)
  have cP00 := BP.cell 0
  simp at cP00
  obtain ⟨p, HP⟩ : ∃ x, Hid (w.heap.size = x) := ⟨_, Lib.hid rfl⟩
  obtain ⟨w1, HW1⟩ : ∃ wb, Hid (wb = w0.alloc (.cells #[] 3)) := ⟨_, Lib.hid rfl⟩
  have hb1 : Below w0.heap.size w0 w1 := by rw [HW1.out]; exact below_box _ _
  have hown1 : w1.ownsRow w0.heap.size 3 1 (.slice (some ⟨w0.heap.size, 0, none⟩) 0 0) 0 (ints []) := by rw [HW1.out]; exact World.ownsRow_lit _ _ _ (Nat.le_refl _) (Nat.zero_le _) rfl
  have hT0 := hb0
  clear hl h hgd
  go_enter Tryz.func43, Tryz.ntmps43
  go_upto_region 1 with fail
  rw [← HW0.out]
  rw [HP.out] at cP00 ⊢
  clear BP hb0
  go_upto_region 2 with fail
  rw [← HW1.out]
  go_loopw [3] (fun u wr => ∃ (k : Nat) (A2 : Option Addr) (c2 : Nat), k ≤ n ∧ u = .slice A2 k c2 ∧ wr.ownsRow w0.heap.size 3 1 (.slice A2 k c2) k (ints (extL n F k)) ∧ Below w0.heap.size w0 wr) (fun u _ => n - lenE u)
  case atStart => exact ⟨0, _, _, Nat.zero_le _, rfl, hown1, hb1⟩
  case round =>
    clear hown1 hb1
    obtain ⟨k, A2, c2, hk, rfl, hown, hT⟩ := hrel
    have cPr := keepM hT cP00
    obtain ⟨L, HL⟩ : ∃ L, Hid (extL n F k = L) := ⟨_, Lib.hid rfl⟩
    have HLK : Hid (L.length = k) := by show _ = _; rw [← HL.out, extL_len]
    by_cases hlt : k < n
    · have hk0 : (k : Int) < (n : Int) := by omega
      have hk9 : k ≤ 1099511627776 := by omega
      obtain ⟨x0, HX0⟩ : ∃ x, Hid (nextX n F L = x) := ⟨_, Lib.hid rfl⟩
      obtain ⟨hx0n, hmin, hmin2⟩ := next_ok HOP.out (L := L) (by rw [HLK.out]; exact hlt)
      rw [HX0.out] at hx0n hmin hmin2
      have HMIN := Lib.hid hmin
      have HMIN2 := Lib.hid hmin2
      have HSTEP : Hid (extL n F (k + 1) = L ++ [(x0 : Int)]) := by show _ = _; rw [extL, HL.out, HX0.out]
      have HLIN : Hid (∀ v ∈ L, -9223372036854775808 ≤ v ∧ v ≤ 9223372036854775807) := fun v hv => by rw [← HL.out] at hv; have := ext_in HOP.out k hk v hv; omega
      rw [HL.out] at hown
      obtain ⟨w5, HW5⟩ : ∃ x : World, Hid (x = wr) := ⟨_, Lib.hid rfl⟩
      rw [← HW5.out] at hown hT cPr ⊢
      have hw5 := hT.size
      have HRDL : Hid (∀ wz, Below w5.heap.size w5 wz → RdL RI wz A2 k L) := fun wz hz => rd_of_own (R := RI) (own_next hown hz) (RI_ints HLIN.out)
      clear hmin hmin2
      go_wp2_with fail
      go_loopw [4] (fun u wi => ∃ j : Nat, j ≤ x0 ∧ u = .int .i64 (j : Int) ∧ Below w5.heap.size w5 wi) (fun u _ => n - (intOf u).toNat)
      case atStart => exact ⟨0, Nat.zero_le _, rfl, Below.refl _ _⟩
      case round =>
        obtain ⟨j, hj, rfl, hTR⟩ := hrel
        have hjn : j < n := by omega
        have hj0 : (0 : Int) ≤ (j : Int) := by omega
        have hj1 : (j : Int) < (n : Int) := by omega
        have hwi := hTR.size
        obtain ⟨ba, oa, v2, row, hAe, hcr, ⟨R, rn, rc, rfl, hRow⟩, -, hrow⟩ := HR0.out.at hjn
        subst hAe
        have HRE : Hid (rowOf xss j = row) := rowOf_get hrow
        rw [← HRE.out] at hRow
        have HROW : Hid (∀ wz, Below w0.heap.size w0 wz → RdL RI wz R rn (rowOf xss j)) := fun wz hz => hRow.next stab_RI hz
        have cRw := keepM hT hcr
        have cPw := cPr
        have cP0 := keepM hTR cPw
        have cR := keepM hTR cRw
        have HLX : Hid (∀ v ∈ L ++ [(j : Int)], -9223372036854775808 ≤ v ∧ v ≤ 9223372036854775807) := fun v hv => by
          rcases List.mem_append.1 hv with h | h
          · exact HLIN.out v h
          · rw [List.mem_singleton.1 h]; omega
        have HMJ := Lib.hid (HMP.out j hjn L)
        clear hrow hRow
        obtain ⟨hn, HHI⟩ : ∃ b, Hid (hasI (j : Int) L = b) := ⟨_, Lib.hid rfl⟩
        obtain ⟨q, HQ⟩ : ∃ b, Hid (partL (L ++ [(j : Int)]) (rowOf xss j) = b) := ⟨_, Lib.hid rfl⟩
        rw [HHI.out, HQ.out] at HMJ
        rcases hn with _ | _
        · rcases q with _ | _
          · have hne : j ≠ x0 := fun e => by have h1 := HMIN.out; rw [← e, HMJ.out] at h1; cases h1
            go_upto_region 4 with fail
            refine wp_region_held_drew (S := fun w' => w'.cell? ⟨p, 0, none⟩ = some (.slice (some ⟨ba, oa, none⟩) n c) ∧ w'.cell? ⟨ba, oa + j, none⟩ = some (.slice R rn rc)) (by kernel_rfl) ⟨cP0, cR⟩ (fun hHeld0 => ?_)
            obtain ⟨wt1, Hwt1⟩ : ∃ x, Hid (x = World.drew wr) := ⟨_, rfl⟩
            have hbwt1 : Below wr.heap.size wr wt1 := by rw [Hwt1.out]; exact (Below.refl _ _).drew
            rw [← Hwt1.out] at hHeld0 ⊢
            have ywt1 := hbwt1.size
            replace hTR := below_next hTR hbwt1 rfl
            replace cP0 := keepM hbwt1 cP0
            replace cR := keepM hbwt1 cR
            refine wpAnyH_take (i := 0) (v := .slice A2 k c2) rfl (by kernel_rfl) (by kernel_rfl) (by kernel_rfl) (fun _ _ _ h => h) (Or.inl ⟨by kernel_rfl, fun _ _ => by go_simp⟩) (by assumption) ?_
            (try simp only [Act.put, List.getElem_toArray, List.getElem_cons_zero, List.getElem_cons_succ, List.setIfInBounds_toArray, List.set_cons_zero, List.set_cons_succ])
            refine wpAnyH_take (i := 1) (v := .int .i64 (j : Int)) rfl (by kernel_rfl) (by kernel_rfl) (by kernel_rfl) (fun _ _ _ h => h) (Or.inl ⟨by kernel_rfl, fun _ _ => by go_simp⟩) (by assumption) ?_
            (try simp only [Act.put, List.getElem_toArray, List.getElem_cons_zero, List.getElem_cons_succ, List.setIfInBounds_toArray, List.set_cons_zero, List.set_cons_succ])
            refine wpAnyH_ready (rs := [2]) (by kernel_rfl) (by simp) ?_
            refine (AllReadyH.cons rfl (fun K hK => ?_) AllReadyH.nil)
            go_simp
            refine (l1Has_any A2 k c2 L (j : Int) wt1 (HRDL.out _ hTR)).mono ?_
            rintro e wq ⟨rfl, hwq⟩
            rw [← hwq, HHI.out]
            clear hwq wq
            go_wp2_with fail
            refine hK.out _ _ ⟨cP0, cR⟩ (fun hHeld1 => ?_)
            clear hK K hHeld0
            (try simp only [Act.put, List.getElem_toArray, List.getElem_cons_zero, List.getElem_cons_succ, List.setIfInBounds_toArray, List.set_cons_zero, List.set_cons_succ])
            refine wpAnyH_take (i := 3) (v := .bool false) rfl (by kernel_rfl) (by kernel_rfl) (by kernel_rfl) (fun _ _ _ h => h) (Or.inl ⟨by kernel_rfl, fun _ _ => by go_simp⟩) (by assumption) ?_
            (try simp only [Act.put, List.getElem_toArray, List.getElem_cons_zero, List.getElem_cons_succ, List.setIfInBounds_toArray, List.set_cons_zero, List.set_cons_succ])
            refine wpAnyH_take (i := 4) (v := .pointer (some ⟨p, 0, none⟩)) rfl (by kernel_rfl) (by kernel_rfl) (by kernel_rfl) (fun _ _ _ h => h) (Or.inl ⟨by kernel_rfl, fun _ _ => by go_simp⟩) (by assumption) ?_
            (try simp only [Act.put, List.getElem_toArray, List.getElem_cons_zero, List.getElem_cons_succ, List.setIfInBounds_toArray, List.set_cons_zero, List.set_cons_succ])
            refine wpAnyH_take (i := 5) (v := .slice (some ⟨ba, oa, none⟩) n c) rfl (by kernel_rfl) (by kernel_rfl) (by kernel_rfl) (fun _ _ _ h => h) (Or.inl ⟨by kernel_rfl, fun wv hSw => by (obtain ⟨hS0, hS1⟩ := hSw); go_simp⟩) (by assumption) ?_
            (try simp only [Act.put, List.getElem_toArray, List.getElem_cons_zero, List.getElem_cons_succ, List.setIfInBounds_toArray, List.set_cons_zero, List.set_cons_succ])
            refine wpAnyH_take (i := 6) (v := .int .i64 (j : Int)) rfl (by kernel_rfl) (by kernel_rfl) (by kernel_rfl) (fun _ _ _ h => h) (Or.inl ⟨by kernel_rfl, fun _ _ => by go_simp⟩) (by assumption) ?_
            (try simp only [Act.put, List.getElem_toArray, List.getElem_cons_zero, List.getElem_cons_succ, List.setIfInBounds_toArray, List.set_cons_zero, List.set_cons_succ])
            refine wpAnyH_take (i := 7) (v := .pointer (some ⟨ba, oa + j, none⟩)) rfl (by kernel_rfl) (by kernel_rfl) (by kernel_rfl) (fun _ _ _ h => h) (Or.inl ⟨by kernel_rfl, fun _ _ => by go_simp⟩) (by assumption) ?_
            (try simp only [Act.put, List.getElem_toArray, List.getElem_cons_zero, List.getElem_cons_succ, List.setIfInBounds_toArray, List.set_cons_zero, List.set_cons_succ])
            refine wpAnyH_take (i := 8) (v := .slice R rn rc) rfl (by kernel_rfl) (by kernel_rfl) (by kernel_rfl) (fun _ _ _ h => h) (Or.inl ⟨by kernel_rfl, fun wv hSw => by (obtain ⟨hS0, hS1⟩ := hSw); go_simp⟩) (by assumption) ?_
            (try simp only [Act.put, List.getElem_toArray, List.getElem_cons_zero, List.getElem_cons_succ, List.setIfInBounds_toArray, List.set_cons_zero, List.set_cons_succ])
            refine wpAnyH_take (i := 9) (v := .slice A2 k c2) rfl (by kernel_rfl) (by kernel_rfl) (by kernel_rfl) (fun _ _ _ h => h) (Or.inl ⟨by kernel_rfl, fun _ _ => by go_simp⟩) (by assumption) ?_
            (try simp only [Act.put, List.getElem_toArray, List.getElem_cons_zero, List.getElem_cons_succ, List.setIfInBounds_toArray, List.set_cons_zero, List.set_cons_succ])
            refine wpAnyH_take (i := 11) (v := .int .i64 (j : Int)) rfl (by kernel_rfl) (by kernel_rfl) (by kernel_rfl) (fun _ _ _ h => h) (Or.inl ⟨by kernel_rfl, fun _ _ => by go_simp⟩) (by assumption) ?_
            (try simp only [Act.put, List.getElem_toArray, List.getElem_cons_zero, List.getElem_cons_succ, List.setIfInBounds_toArray, List.set_cons_zero, List.set_cons_succ])
            refine wpAnyH_ready (rs := [10, 12]) (by kernel_rfl) (by simp) ?_
            refine (AllReadyH.cons rfl (fun K hK => ?_) (AllReadyH.cons rfl (fun K hK => ?_) AllReadyH.nil))
            · go_simp
              refine (l1Own_any A2 k c2 L wt1 (HRDL.out _ hTR) (by omega)).mono ?_
              rintro e wt2 ⟨A4, c4, rfl, how4, hbwt2⟩
              go_wp2_with fail
              have ywt2 := hbwt2.size
              replace hTR := below_next hTR hbwt2 rfl
              replace cP0 := keepM hbwt2 cP0
              replace cR := keepM hbwt2 cR
              refine hK.out _ _ ⟨cP0, cR⟩ (fun hHeld2 => ?_)
              clear hK K hHeld1
              (try simp only [Act.put, List.getElem_toArray, List.getElem_cons_zero, List.getElem_cons_succ, List.setIfInBounds_toArray, List.set_cons_zero, List.set_cons_succ])
              refine wpAnyH_ready (rs := [12]) (by kernel_rfl) (by simp) ?_
              refine (AllReadyH.cons rfl (fun K hK => ?_) AllReadyH.nil)
              go_simp
              obtain ⟨wt3, Hwt3⟩ : ∃ x, Hid (x = wt2.alloc (.cells #[.int .i64 (j : Int)] 3)) := ⟨_, Lib.hid rfl⟩
              rw [← Hwt3.out]
              have hbwt3 : Below wt2.heap.size wt2 wt3 := by rw [Hwt3.out]; exact below_box _ _
              have Bwt3 : Blk wt3 wt2.heap.size 3 #[.int .i64 (j : Int)] := by rw [Hwt3.out]; exact Blk.new _ _ _
              have zwt3 : wt2.heap.size < wt3.heap.size := Bwt3.lt
              have ywt3 := hbwt3.size
              replace hTR := below_next hTR hbwt3 rfl
              replace how4 := own_next how4 hbwt3
              replace cP0 := keepM hbwt3 cP0
              replace cR := keepM hbwt3 cR
              refine hK.out _ _ ⟨cP0, cR⟩ (fun hHeld3 => ?_)
              clear hK K hHeld2
              (try simp only [Act.put, List.getElem_toArray, List.getElem_cons_zero, List.getElem_cons_succ, List.setIfInBounds_toArray, List.set_cons_zero, List.set_cons_succ])
              refine wpAnyH_ready (rs := [13]) (by kernel_rfl) (by simp) ?_
              refine (AllReadyH.cons rfl (fun K hK => ?_) AllReadyH.nil)
              have cX4 := Bwt3.cell 0
              simp at cX4
              refine step_appAnyG wt3 (by kernel_rfl) (.tmp 22) (.tmp 24) 27 3 rfl (.int .i64 0) 8 Tryz.underlying27 info_int rfl (by decide) wt1.heap.size k c4 A4 (ints L) (by rfl) how4 (some ⟨wt2.heap.size, 0, none⟩) 1 1 [(j : Int)] (fun x => .int .i64 x) (fun _ => rfl) (by rfl) (rd_oneD cX4 (by omega)) (fun _ _ _ h => h.1) (by omega) (by omega) ?_
              intro A6 c6 wt4 how6 hg6 hb6
              clear cX4
              replace hTR := hTR.trans (hb6.mono (by omega))
              replace cP0 := keepM hTR cPw
              replace cR := keepM hTR cRw
              have hrd6 := rd_of_own (R := RI) (app_ints how6) (RI_ints HLX.out)
              refine hK.out _ _ ⟨cP0, cR⟩ (fun hHeld4 => ?_)
              clear hK K hHeld3
              (try simp only [Act.put, List.getElem_toArray, List.getElem_cons_zero, List.getElem_cons_succ, List.setIfInBounds_toArray, List.set_cons_zero, List.set_cons_succ])
              refine wpAnyH_ready (rs := [14]) (by kernel_rfl) (by simp) ?_
              refine (AllReadyH.cons rfl (fun K hK => ?_) AllReadyH.nil)
              go_simp
              refine (l5Within_any R A6 rn (k + 1) rc c6 (rowOf xss j) (L ++ [(j : Int)]) wt4 (HROW.out _ (below_next hT hTR rfl)) hrd6).mono ?_
              rintro e wq ⟨rfl, hwq⟩
              rw [← hwq, HQ.out]
              clear hwq wq
              go_wp2_with fail
              refine hK.out _ _ ⟨cP0, cR⟩ (fun hHeld5 => ?_)
              clear hK K hHeld4
              (try simp only [Act.put, List.getElem_toArray, List.getElem_cons_zero, List.getElem_cons_succ, List.setIfInBounds_toArray, List.set_cons_zero, List.set_cons_succ])
              refine wpAnyH_take (i := 15) (v := .bool true) rfl (by kernel_rfl) (by kernel_rfl) (by kernel_rfl) (fun _ _ _ h => h) (Or.inl ⟨by kernel_rfl, fun _ _ => by go_simp⟩) (by assumption) ?_
              (try simp only [Act.put, List.getElem_toArray, List.getElem_cons_zero, List.getElem_cons_succ, List.setIfInBounds_toArray, List.set_cons_zero, List.set_cons_succ])
              refine wpAnyH_take (i := 16) (v := .bool true) rfl (by kernel_rfl) (by kernel_rfl) (by kernel_rfl) (fun _ _ _ h => h) (Or.inl ⟨by kernel_rfl, fun _ _ => by go_simp⟩) (by assumption) ?_
              (try simp only [Act.put, List.getElem_toArray, List.getElem_cons_zero, List.getElem_cons_succ, List.setIfInBounds_toArray, List.set_cons_zero, List.set_cons_succ])
              refine wpAnyH_done (by kernel_rfl) ?_ _
              clear hHeld5
              go_wp2_with fail
              go_roundw
              case rel => exact ⟨j + 1, by omega, by go_num, hTR⟩
              case measure => simp [intOf]; omega
            · go_simp
              obtain ⟨wt5, Hwt5⟩ : ∃ x, Hid (x = wt1.alloc (.cells #[.int .i64 (j : Int)] 3)) := ⟨_, Lib.hid rfl⟩
              rw [← Hwt5.out]
              have hbwt5 : Below wt1.heap.size wt1 wt5 := by rw [Hwt5.out]; exact below_box _ _
              have Bwt5 : Blk wt5 wt1.heap.size 3 #[.int .i64 (j : Int)] := by rw [Hwt5.out]; exact Blk.new _ _ _
              have zwt5 : wt1.heap.size < wt5.heap.size := Bwt5.lt
              have ywt5 := hbwt5.size
              replace hTR := below_next hTR hbwt5 rfl
              replace cP0 := keepM hbwt5 cP0
              replace cR := keepM hbwt5 cR
              refine hK.out _ _ ⟨cP0, cR⟩ (fun hHeld2 => ?_)
              clear hK K hHeld1
              (try simp only [Act.put, List.getElem_toArray, List.getElem_cons_zero, List.getElem_cons_succ, List.setIfInBounds_toArray, List.set_cons_zero, List.set_cons_succ])
              refine wpAnyH_ready (rs := [10]) (by kernel_rfl) (by simp) ?_
              refine (AllReadyH.cons rfl (fun K hK => ?_) AllReadyH.nil)
              go_simp
              refine (l1Own_any A2 k c2 L wt5 (HRDL.out _ hTR) (by omega)).mono ?_
              rintro e wt6 ⟨A4, c4, rfl, how4, hbwt6⟩
              go_wp2_with fail
              have ywt6 := hbwt6.size
              replace hTR := below_next hTR hbwt6 rfl
              replace Bwt5 := Bwt5.next hbwt6
              replace cP0 := keepM hbwt6 cP0
              replace cR := keepM hbwt6 cR
              refine hK.out _ _ ⟨cP0, cR⟩ (fun hHeld3 => ?_)
              clear hK K hHeld2
              (try simp only [Act.put, List.getElem_toArray, List.getElem_cons_zero, List.getElem_cons_succ, List.setIfInBounds_toArray, List.set_cons_zero, List.set_cons_succ])
              refine wpAnyH_ready (rs := [13]) (by kernel_rfl) (by simp) ?_
              refine (AllReadyH.cons rfl (fun K hK => ?_) AllReadyH.nil)
              have cX4 := Bwt5.cell 0
              simp at cX4
              refine step_appAnyG wt6 (by kernel_rfl) (.tmp 22) (.tmp 24) 27 3 rfl (.int .i64 0) 8 Tryz.underlying27 info_int rfl (by decide) wt5.heap.size k c4 A4 (ints L) (by rfl) how4 (some ⟨wt1.heap.size, 0, none⟩) 1 1 [(j : Int)] (fun x => .int .i64 x) (fun _ => rfl) (by rfl) (rd_oneD cX4 (by omega)) (fun _ _ _ h => h.1) (by omega) (by omega) ?_
              intro A6 c6 wt7 how6 hg6 hb6
              clear cX4
              replace hTR := hTR.trans (hb6.mono (by omega))
              replace cP0 := keepM hTR cPw
              replace cR := keepM hTR cRw
              have hrd6 := rd_of_own (R := RI) (app_ints how6) (RI_ints HLX.out)
              refine hK.out _ _ ⟨cP0, cR⟩ (fun hHeld4 => ?_)
              clear hK K hHeld3
              (try simp only [Act.put, List.getElem_toArray, List.getElem_cons_zero, List.getElem_cons_succ, List.setIfInBounds_toArray, List.set_cons_zero, List.set_cons_succ])
              refine wpAnyH_ready (rs := [14]) (by kernel_rfl) (by simp) ?_
              refine (AllReadyH.cons rfl (fun K hK => ?_) AllReadyH.nil)
              go_simp
              refine (l5Within_any R A6 rn (k + 1) rc c6 (rowOf xss j) (L ++ [(j : Int)]) wt7 (HROW.out _ (below_next hT hTR rfl)) hrd6).mono ?_
              rintro e wq ⟨rfl, hwq⟩
              rw [← hwq, HQ.out]
              clear hwq wq
              go_wp2_with fail
              refine hK.out _ _ ⟨cP0, cR⟩ (fun hHeld5 => ?_)
              clear hK K hHeld4
              (try simp only [Act.put, List.getElem_toArray, List.getElem_cons_zero, List.getElem_cons_succ, List.setIfInBounds_toArray, List.set_cons_zero, List.set_cons_succ])
              refine wpAnyH_take (i := 15) (v := .bool true) rfl (by kernel_rfl) (by kernel_rfl) (by kernel_rfl) (fun _ _ _ h => h) (Or.inl ⟨by kernel_rfl, fun _ _ => by go_simp⟩) (by assumption) ?_
              (try simp only [Act.put, List.getElem_toArray, List.getElem_cons_zero, List.getElem_cons_succ, List.setIfInBounds_toArray, List.set_cons_zero, List.set_cons_succ])
              refine wpAnyH_take (i := 16) (v := .bool true) rfl (by kernel_rfl) (by kernel_rfl) (by kernel_rfl) (fun _ _ _ h => h) (Or.inl ⟨by kernel_rfl, fun _ _ => by go_simp⟩) (by assumption) ?_
              (try simp only [Act.put, List.getElem_toArray, List.getElem_cons_zero, List.getElem_cons_succ, List.setIfInBounds_toArray, List.set_cons_zero, List.set_cons_succ])
              refine wpAnyH_done (by kernel_rfl) ?_ _
              clear hHeld5
              go_wp2_with fail
              go_roundw
              case rel => exact ⟨j + 1, by omega, by go_num, hTR⟩
              case measure => simp [intOf]; omega
          · have hje : j = x0 := by
              by_cases e : j < x0
              · have h1 := HMIN2.out j e; rw [HMJ.out] at h1; cases h1
              · omega
            subst hje
            go_upto_region 4 with fail
            refine wp_region_held_drew (S := fun w' => w'.cell? ⟨p, 0, none⟩ = some (.slice (some ⟨ba, oa, none⟩) n c) ∧ w'.cell? ⟨ba, oa + j, none⟩ = some (.slice R rn rc)) (by kernel_rfl) ⟨cP0, cR⟩ (fun hHeld0 => ?_)
            obtain ⟨wt1, Hwt1⟩ : ∃ x, Hid (x = World.drew wr) := ⟨_, rfl⟩
            have hbwt1 : Below wr.heap.size wr wt1 := by rw [Hwt1.out]; exact (Below.refl _ _).drew
            rw [← Hwt1.out] at hHeld0 ⊢
            have ywt1 := hbwt1.size
            replace hTR := below_next hTR hbwt1 rfl
            replace cP0 := keepM hbwt1 cP0
            replace cR := keepM hbwt1 cR
            refine wpAnyH_take (i := 0) (v := .slice A2 k c2) rfl (by kernel_rfl) (by kernel_rfl) (by kernel_rfl) (fun _ _ _ h => h) (Or.inl ⟨by kernel_rfl, fun _ _ => by go_simp⟩) (by assumption) ?_
            (try simp only [Act.put, List.getElem_toArray, List.getElem_cons_zero, List.getElem_cons_succ, List.setIfInBounds_toArray, List.set_cons_zero, List.set_cons_succ])
            refine wpAnyH_take (i := 1) (v := .int .i64 (j : Int)) rfl (by kernel_rfl) (by kernel_rfl) (by kernel_rfl) (fun _ _ _ h => h) (Or.inl ⟨by kernel_rfl, fun _ _ => by go_simp⟩) (by assumption) ?_
            (try simp only [Act.put, List.getElem_toArray, List.getElem_cons_zero, List.getElem_cons_succ, List.setIfInBounds_toArray, List.set_cons_zero, List.set_cons_succ])
            refine wpAnyH_ready (rs := [2]) (by kernel_rfl) (by simp) ?_
            refine (AllReadyH.cons rfl (fun K hK => ?_) AllReadyH.nil)
            go_simp
            refine (l1Has_any A2 k c2 L (j : Int) wt1 (HRDL.out _ hTR)).mono ?_
            rintro e wq ⟨rfl, hwq⟩
            rw [← hwq, HHI.out]
            clear hwq wq
            go_wp2_with fail
            refine hK.out _ _ ⟨cP0, cR⟩ (fun hHeld1 => ?_)
            clear hK K hHeld0
            (try simp only [Act.put, List.getElem_toArray, List.getElem_cons_zero, List.getElem_cons_succ, List.setIfInBounds_toArray, List.set_cons_zero, List.set_cons_succ])
            refine wpAnyH_take (i := 3) (v := .bool false) rfl (by kernel_rfl) (by kernel_rfl) (by kernel_rfl) (fun _ _ _ h => h) (Or.inl ⟨by kernel_rfl, fun _ _ => by go_simp⟩) (by assumption) ?_
            (try simp only [Act.put, List.getElem_toArray, List.getElem_cons_zero, List.getElem_cons_succ, List.setIfInBounds_toArray, List.set_cons_zero, List.set_cons_succ])
            refine wpAnyH_take (i := 4) (v := .pointer (some ⟨p, 0, none⟩)) rfl (by kernel_rfl) (by kernel_rfl) (by kernel_rfl) (fun _ _ _ h => h) (Or.inl ⟨by kernel_rfl, fun _ _ => by go_simp⟩) (by assumption) ?_
            (try simp only [Act.put, List.getElem_toArray, List.getElem_cons_zero, List.getElem_cons_succ, List.setIfInBounds_toArray, List.set_cons_zero, List.set_cons_succ])
            refine wpAnyH_take (i := 5) (v := .slice (some ⟨ba, oa, none⟩) n c) rfl (by kernel_rfl) (by kernel_rfl) (by kernel_rfl) (fun _ _ _ h => h) (Or.inl ⟨by kernel_rfl, fun wv hSw => by (obtain ⟨hS0, hS1⟩ := hSw); go_simp⟩) (by assumption) ?_
            (try simp only [Act.put, List.getElem_toArray, List.getElem_cons_zero, List.getElem_cons_succ, List.setIfInBounds_toArray, List.set_cons_zero, List.set_cons_succ])
            refine wpAnyH_take (i := 6) (v := .int .i64 (j : Int)) rfl (by kernel_rfl) (by kernel_rfl) (by kernel_rfl) (fun _ _ _ h => h) (Or.inl ⟨by kernel_rfl, fun _ _ => by go_simp⟩) (by assumption) ?_
            (try simp only [Act.put, List.getElem_toArray, List.getElem_cons_zero, List.getElem_cons_succ, List.setIfInBounds_toArray, List.set_cons_zero, List.set_cons_succ])
            refine wpAnyH_take (i := 7) (v := .pointer (some ⟨ba, oa + j, none⟩)) rfl (by kernel_rfl) (by kernel_rfl) (by kernel_rfl) (fun _ _ _ h => h) (Or.inl ⟨by kernel_rfl, fun _ _ => by go_simp⟩) (by assumption) ?_
            (try simp only [Act.put, List.getElem_toArray, List.getElem_cons_zero, List.getElem_cons_succ, List.setIfInBounds_toArray, List.set_cons_zero, List.set_cons_succ])
            refine wpAnyH_take (i := 8) (v := .slice R rn rc) rfl (by kernel_rfl) (by kernel_rfl) (by kernel_rfl) (fun _ _ _ h => h) (Or.inl ⟨by kernel_rfl, fun wv hSw => by (obtain ⟨hS0, hS1⟩ := hSw); go_simp⟩) (by assumption) ?_
            (try simp only [Act.put, List.getElem_toArray, List.getElem_cons_zero, List.getElem_cons_succ, List.setIfInBounds_toArray, List.set_cons_zero, List.set_cons_succ])
            refine wpAnyH_take (i := 9) (v := .slice A2 k c2) rfl (by kernel_rfl) (by kernel_rfl) (by kernel_rfl) (fun _ _ _ h => h) (Or.inl ⟨by kernel_rfl, fun _ _ => by go_simp⟩) (by assumption) ?_
            (try simp only [Act.put, List.getElem_toArray, List.getElem_cons_zero, List.getElem_cons_succ, List.setIfInBounds_toArray, List.set_cons_zero, List.set_cons_succ])
            refine wpAnyH_take (i := 11) (v := .int .i64 (j : Int)) rfl (by kernel_rfl) (by kernel_rfl) (by kernel_rfl) (fun _ _ _ h => h) (Or.inl ⟨by kernel_rfl, fun _ _ => by go_simp⟩) (by assumption) ?_
            (try simp only [Act.put, List.getElem_toArray, List.getElem_cons_zero, List.getElem_cons_succ, List.setIfInBounds_toArray, List.set_cons_zero, List.set_cons_succ])
            refine wpAnyH_ready (rs := [10, 12]) (by kernel_rfl) (by simp) ?_
            refine (AllReadyH.cons rfl (fun K hK => ?_) (AllReadyH.cons rfl (fun K hK => ?_) AllReadyH.nil))
            · go_simp
              refine (l1Own_any A2 k c2 L wt1 (HRDL.out _ hTR) (by omega)).mono ?_
              rintro e wt2 ⟨A4, c4, rfl, how4, hbwt2⟩
              go_wp2_with fail
              have ywt2 := hbwt2.size
              replace hTR := below_next hTR hbwt2 rfl
              replace cP0 := keepM hbwt2 cP0
              replace cR := keepM hbwt2 cR
              refine hK.out _ _ ⟨cP0, cR⟩ (fun hHeld2 => ?_)
              clear hK K hHeld1
              (try simp only [Act.put, List.getElem_toArray, List.getElem_cons_zero, List.getElem_cons_succ, List.setIfInBounds_toArray, List.set_cons_zero, List.set_cons_succ])
              refine wpAnyH_ready (rs := [12]) (by kernel_rfl) (by simp) ?_
              refine (AllReadyH.cons rfl (fun K hK => ?_) AllReadyH.nil)
              go_simp
              obtain ⟨wt3, Hwt3⟩ : ∃ x, Hid (x = wt2.alloc (.cells #[.int .i64 (j : Int)] 3)) := ⟨_, Lib.hid rfl⟩
              rw [← Hwt3.out]
              have hbwt3 : Below wt2.heap.size wt2 wt3 := by rw [Hwt3.out]; exact below_box _ _
              have Bwt3 : Blk wt3 wt2.heap.size 3 #[.int .i64 (j : Int)] := by rw [Hwt3.out]; exact Blk.new _ _ _
              have zwt3 : wt2.heap.size < wt3.heap.size := Bwt3.lt
              have ywt3 := hbwt3.size
              replace hTR := below_next hTR hbwt3 rfl
              replace how4 := own_next how4 hbwt3
              replace cP0 := keepM hbwt3 cP0
              replace cR := keepM hbwt3 cR
              refine hK.out _ _ ⟨cP0, cR⟩ (fun hHeld3 => ?_)
              clear hK K hHeld2
              (try simp only [Act.put, List.getElem_toArray, List.getElem_cons_zero, List.getElem_cons_succ, List.setIfInBounds_toArray, List.set_cons_zero, List.set_cons_succ])
              refine wpAnyH_ready (rs := [13]) (by kernel_rfl) (by simp) ?_
              refine (AllReadyH.cons rfl (fun K hK => ?_) AllReadyH.nil)
              have cX4 := Bwt3.cell 0
              simp at cX4
              refine step_appAnyG wt3 (by kernel_rfl) (.tmp 22) (.tmp 24) 27 3 rfl (.int .i64 0) 8 Tryz.underlying27 info_int rfl (by decide) wt1.heap.size k c4 A4 (ints L) (by rfl) how4 (some ⟨wt2.heap.size, 0, none⟩) 1 1 [(j : Int)] (fun x => .int .i64 x) (fun _ => rfl) (by rfl) (rd_oneD cX4 (by omega)) (fun _ _ _ h => h.1) (by omega) (by omega) ?_
              intro A6 c6 wt4 how6 hg6 hb6
              clear cX4
              replace hTR := hTR.trans (hb6.mono (by omega))
              replace cP0 := keepM hTR cPw
              replace cR := keepM hTR cRw
              have hrd6 := rd_of_own (R := RI) (app_ints how6) (RI_ints HLX.out)
              refine hK.out _ _ ⟨cP0, cR⟩ (fun hHeld4 => ?_)
              clear hK K hHeld3
              (try simp only [Act.put, List.getElem_toArray, List.getElem_cons_zero, List.getElem_cons_succ, List.setIfInBounds_toArray, List.set_cons_zero, List.set_cons_succ])
              refine wpAnyH_ready (rs := [14]) (by kernel_rfl) (by simp) ?_
              refine (AllReadyH.cons rfl (fun K hK => ?_) AllReadyH.nil)
              go_simp
              refine (l5Within_any R A6 rn (k + 1) rc c6 (rowOf xss j) (L ++ [(j : Int)]) wt4 (HROW.out _ (below_next hT hTR rfl)) hrd6).mono ?_
              rintro e wq ⟨rfl, hwq⟩
              rw [← hwq, HQ.out]
              clear hwq wq
              go_wp2_with fail
              refine hK.out _ _ ⟨cP0, cR⟩ (fun hHeld5 => ?_)
              clear hK K hHeld4
              (try simp only [Act.put, List.getElem_toArray, List.getElem_cons_zero, List.getElem_cons_succ, List.setIfInBounds_toArray, List.set_cons_zero, List.set_cons_succ])
              refine wpAnyH_take (i := 15) (v := .bool false) rfl (by kernel_rfl) (by kernel_rfl) (by kernel_rfl) (fun _ _ _ h => h) (Or.inl ⟨by kernel_rfl, fun _ _ => by go_simp⟩) (by assumption) ?_
              (try simp only [Act.put, List.getElem_toArray, List.getElem_cons_zero, List.getElem_cons_succ, List.setIfInBounds_toArray, List.set_cons_zero, List.set_cons_succ])
              refine wpAnyH_take (i := 16) (v := .bool false) rfl (by kernel_rfl) (by kernel_rfl) (by kernel_rfl) (fun _ _ _ h => h) (Or.inl ⟨by kernel_rfl, fun _ _ => by go_simp⟩) (by assumption) ?_
              (try simp only [Act.put, List.getElem_toArray, List.getElem_cons_zero, List.getElem_cons_succ, List.setIfInBounds_toArray, List.set_cons_zero, List.set_cons_succ])
              refine wpAnyH_done (by kernel_rfl) ?_ _
              clear hHeld5
              have hW := hTR.size
              have hown6 := own_next hown hTR
              have hT6 := below_next hT hTR rfl
              have hs6 := hT6.size
              go_wp2_with (at_builtin; refine app1 wt4 rfl _ _ 27 3 rfl (.int .i64 0) 8 Tryz.underlying27 info_int rfl (by decide) w0.heap.size k c2 A2 (ints L) rfl hown6 (.int .i64 (j : Int)) rfl rfl hk9 hs6 ?_; intro A7 c7 w7 hown7 hg7 hb7)
              refine ⟨⟨k + 1, A7, c7, by omega, rfl, ?_, hT6.trans hb7⟩, ?_⟩
              · rw [HSTEP.out, ints_snoc]; exact hown7
              · simp [lenE]; omega
            · go_simp
              obtain ⟨wt5, Hwt5⟩ : ∃ x, Hid (x = wt1.alloc (.cells #[.int .i64 (j : Int)] 3)) := ⟨_, Lib.hid rfl⟩
              rw [← Hwt5.out]
              have hbwt5 : Below wt1.heap.size wt1 wt5 := by rw [Hwt5.out]; exact below_box _ _
              have Bwt5 : Blk wt5 wt1.heap.size 3 #[.int .i64 (j : Int)] := by rw [Hwt5.out]; exact Blk.new _ _ _
              have zwt5 : wt1.heap.size < wt5.heap.size := Bwt5.lt
              have ywt5 := hbwt5.size
              replace hTR := below_next hTR hbwt5 rfl
              replace cP0 := keepM hbwt5 cP0
              replace cR := keepM hbwt5 cR
              refine hK.out _ _ ⟨cP0, cR⟩ (fun hHeld2 => ?_)
              clear hK K hHeld1
              (try simp only [Act.put, List.getElem_toArray, List.getElem_cons_zero, List.getElem_cons_succ, List.setIfInBounds_toArray, List.set_cons_zero, List.set_cons_succ])
              refine wpAnyH_ready (rs := [10]) (by kernel_rfl) (by simp) ?_
              refine (AllReadyH.cons rfl (fun K hK => ?_) AllReadyH.nil)
              go_simp
              refine (l1Own_any A2 k c2 L wt5 (HRDL.out _ hTR) (by omega)).mono ?_
              rintro e wt6 ⟨A4, c4, rfl, how4, hbwt6⟩
              go_wp2_with fail
              have ywt6 := hbwt6.size
              replace hTR := below_next hTR hbwt6 rfl
              replace Bwt5 := Bwt5.next hbwt6
              replace cP0 := keepM hbwt6 cP0
              replace cR := keepM hbwt6 cR
              refine hK.out _ _ ⟨cP0, cR⟩ (fun hHeld3 => ?_)
              clear hK K hHeld2
              (try simp only [Act.put, List.getElem_toArray, List.getElem_cons_zero, List.getElem_cons_succ, List.setIfInBounds_toArray, List.set_cons_zero, List.set_cons_succ])
              refine wpAnyH_ready (rs := [13]) (by kernel_rfl) (by simp) ?_
              refine (AllReadyH.cons rfl (fun K hK => ?_) AllReadyH.nil)
              have cX4 := Bwt5.cell 0
              simp at cX4
              refine step_appAnyG wt6 (by kernel_rfl) (.tmp 22) (.tmp 24) 27 3 rfl (.int .i64 0) 8 Tryz.underlying27 info_int rfl (by decide) wt5.heap.size k c4 A4 (ints L) (by rfl) how4 (some ⟨wt1.heap.size, 0, none⟩) 1 1 [(j : Int)] (fun x => .int .i64 x) (fun _ => rfl) (by rfl) (rd_oneD cX4 (by omega)) (fun _ _ _ h => h.1) (by omega) (by omega) ?_
              intro A6 c6 wt7 how6 hg6 hb6
              clear cX4
              replace hTR := hTR.trans (hb6.mono (by omega))
              replace cP0 := keepM hTR cPw
              replace cR := keepM hTR cRw
              have hrd6 := rd_of_own (R := RI) (app_ints how6) (RI_ints HLX.out)
              refine hK.out _ _ ⟨cP0, cR⟩ (fun hHeld4 => ?_)
              clear hK K hHeld3
              (try simp only [Act.put, List.getElem_toArray, List.getElem_cons_zero, List.getElem_cons_succ, List.setIfInBounds_toArray, List.set_cons_zero, List.set_cons_succ])
              refine wpAnyH_ready (rs := [14]) (by kernel_rfl) (by simp) ?_
              refine (AllReadyH.cons rfl (fun K hK => ?_) AllReadyH.nil)
              go_simp
              refine (l5Within_any R A6 rn (k + 1) rc c6 (rowOf xss j) (L ++ [(j : Int)]) wt7 (HROW.out _ (below_next hT hTR rfl)) hrd6).mono ?_
              rintro e wq ⟨rfl, hwq⟩
              rw [← hwq, HQ.out]
              clear hwq wq
              go_wp2_with fail
              refine hK.out _ _ ⟨cP0, cR⟩ (fun hHeld5 => ?_)
              clear hK K hHeld4
              (try simp only [Act.put, List.getElem_toArray, List.getElem_cons_zero, List.getElem_cons_succ, List.setIfInBounds_toArray, List.set_cons_zero, List.set_cons_succ])
              refine wpAnyH_take (i := 15) (v := .bool false) rfl (by kernel_rfl) (by kernel_rfl) (by kernel_rfl) (fun _ _ _ h => h) (Or.inl ⟨by kernel_rfl, fun _ _ => by go_simp⟩) (by assumption) ?_
              (try simp only [Act.put, List.getElem_toArray, List.getElem_cons_zero, List.getElem_cons_succ, List.setIfInBounds_toArray, List.set_cons_zero, List.set_cons_succ])
              refine wpAnyH_take (i := 16) (v := .bool false) rfl (by kernel_rfl) (by kernel_rfl) (by kernel_rfl) (fun _ _ _ h => h) (Or.inl ⟨by kernel_rfl, fun _ _ => by go_simp⟩) (by assumption) ?_
              (try simp only [Act.put, List.getElem_toArray, List.getElem_cons_zero, List.getElem_cons_succ, List.setIfInBounds_toArray, List.set_cons_zero, List.set_cons_succ])
              refine wpAnyH_done (by kernel_rfl) ?_ _
              clear hHeld5
              have hW := hTR.size
              have hown6 := own_next hown hTR
              have hT6 := below_next hT hTR rfl
              have hs6 := hT6.size
              go_wp2_with (at_builtin; refine app1 wt7 rfl _ _ 27 3 rfl (.int .i64 0) 8 Tryz.underlying27 info_int rfl (by decide) w0.heap.size k c2 A2 (ints L) rfl hown6 (.int .i64 (j : Int)) rfl rfl hk9 hs6 ?_; intro A7 c7 w7 hown7 hg7 hb7)
              refine ⟨⟨k + 1, A7, c7, by omega, rfl, ?_, hT6.trans hb7⟩, ?_⟩
              · rw [HSTEP.out, ints_snoc]; exact hown7
              · simp [lenE]; omega
        · have hne : j ≠ x0 := fun e => by have h1 := HMIN.out; rw [← e, HMJ.out] at h1; cases h1
          go_upto_region 4 with fail
          refine wp_region_held_drew (S := fun w' => w'.cell? ⟨p, 0, none⟩ = some (.slice (some ⟨ba, oa, none⟩) n c) ∧ w'.cell? ⟨ba, oa + j, none⟩ = some (.slice R rn rc)) (by kernel_rfl) ⟨cP0, cR⟩ (fun hHeld0 => ?_)
          obtain ⟨wt1, Hwt1⟩ : ∃ x, Hid (x = World.drew wr) := ⟨_, rfl⟩
          have hbwt1 : Below wr.heap.size wr wt1 := by rw [Hwt1.out]; exact (Below.refl _ _).drew
          rw [← Hwt1.out] at hHeld0 ⊢
          have ywt1 := hbwt1.size
          replace hTR := below_next hTR hbwt1 rfl
          replace cP0 := keepM hbwt1 cP0
          replace cR := keepM hbwt1 cR
          refine wpAnyH_take (i := 0) (v := .slice A2 k c2) rfl (by kernel_rfl) (by kernel_rfl) (by kernel_rfl) (fun _ _ _ h => h) (Or.inl ⟨by kernel_rfl, fun _ _ => by go_simp⟩) (by assumption) ?_
          (try simp only [Act.put, List.getElem_toArray, List.getElem_cons_zero, List.getElem_cons_succ, List.setIfInBounds_toArray, List.set_cons_zero, List.set_cons_succ])
          refine wpAnyH_take (i := 1) (v := .int .i64 (j : Int)) rfl (by kernel_rfl) (by kernel_rfl) (by kernel_rfl) (fun _ _ _ h => h) (Or.inl ⟨by kernel_rfl, fun _ _ => by go_simp⟩) (by assumption) ?_
          (try simp only [Act.put, List.getElem_toArray, List.getElem_cons_zero, List.getElem_cons_succ, List.setIfInBounds_toArray, List.set_cons_zero, List.set_cons_succ])
          refine wpAnyH_ready (rs := [2]) (by kernel_rfl) (by simp) ?_
          refine (AllReadyH.cons rfl (fun K hK => ?_) AllReadyH.nil)
          go_simp
          refine (l1Has_any A2 k c2 L (j : Int) wt1 (HRDL.out _ hTR)).mono ?_
          rintro e wq ⟨rfl, hwq⟩
          rw [← hwq, HHI.out]
          clear hwq wq
          go_wp2_with fail
          refine hK.out _ _ ⟨cP0, cR⟩ (fun hHeld1 => ?_)
          clear hK K hHeld0
          (try simp only [Act.put, List.getElem_toArray, List.getElem_cons_zero, List.getElem_cons_succ, List.setIfInBounds_toArray, List.set_cons_zero, List.set_cons_succ])
          refine wpAnyH_take (i := 3) (v := .bool true) rfl (by kernel_rfl) (by kernel_rfl) (by kernel_rfl) (fun _ _ _ h => h) (Or.inl ⟨by kernel_rfl, fun _ _ => by go_simp⟩) (by assumption) ?_
          (try simp only [Act.put, List.getElem_toArray, List.getElem_cons_zero, List.getElem_cons_succ, List.setIfInBounds_toArray, List.set_cons_zero, List.set_cons_succ])
          refine wpAnyH_take (i := 4) (v := undef) rfl (by kernel_rfl) (by kernel_rfl) (by kernel_rfl) (fun _ _ _ h => h) (Or.inr ⟨by kernel_rfl, rfl⟩) (by assumption) ?_
          (try simp only [Act.put, List.getElem_toArray, List.getElem_cons_zero, List.getElem_cons_succ, List.setIfInBounds_toArray, List.set_cons_zero, List.set_cons_succ])
          refine wpAnyH_take (i := 5) (v := undef) rfl (by kernel_rfl) (by kernel_rfl) (by kernel_rfl) (fun _ _ _ h => h) (Or.inr ⟨by kernel_rfl, rfl⟩) (by assumption) ?_
          (try simp only [Act.put, List.getElem_toArray, List.getElem_cons_zero, List.getElem_cons_succ, List.setIfInBounds_toArray, List.set_cons_zero, List.set_cons_succ])
          refine wpAnyH_take (i := 6) (v := undef) rfl (by kernel_rfl) (by kernel_rfl) (by kernel_rfl) (fun _ _ _ h => h) (Or.inr ⟨by kernel_rfl, rfl⟩) (by assumption) ?_
          (try simp only [Act.put, List.getElem_toArray, List.getElem_cons_zero, List.getElem_cons_succ, List.setIfInBounds_toArray, List.set_cons_zero, List.set_cons_succ])
          refine wpAnyH_take (i := 7) (v := undef) rfl (by kernel_rfl) (by kernel_rfl) (by kernel_rfl) (fun _ _ _ h => h) (Or.inr ⟨by kernel_rfl, rfl⟩) (by assumption) ?_
          (try simp only [Act.put, List.getElem_toArray, List.getElem_cons_zero, List.getElem_cons_succ, List.setIfInBounds_toArray, List.set_cons_zero, List.set_cons_succ])
          refine wpAnyH_take (i := 8) (v := undef) rfl (by kernel_rfl) (by kernel_rfl) (by kernel_rfl) (fun _ _ _ h => h) (Or.inr ⟨by kernel_rfl, rfl⟩) (by assumption) ?_
          (try simp only [Act.put, List.getElem_toArray, List.getElem_cons_zero, List.getElem_cons_succ, List.setIfInBounds_toArray, List.set_cons_zero, List.set_cons_succ])
          refine wpAnyH_take (i := 9) (v := undef) rfl (by kernel_rfl) (by kernel_rfl) (by kernel_rfl) (fun _ _ _ h => h) (Or.inr ⟨by kernel_rfl, rfl⟩) (by assumption) ?_
          (try simp only [Act.put, List.getElem_toArray, List.getElem_cons_zero, List.getElem_cons_succ, List.setIfInBounds_toArray, List.set_cons_zero, List.set_cons_succ])
          refine wpAnyH_take (i := 10) (v := undef) rfl (by kernel_rfl) (by kernel_rfl) (by kernel_rfl) (fun _ _ _ h => h) (Or.inr ⟨by kernel_rfl, rfl⟩) (by assumption) ?_
          (try simp only [Act.put, List.getElem_toArray, List.getElem_cons_zero, List.getElem_cons_succ, List.setIfInBounds_toArray, List.set_cons_zero, List.set_cons_succ])
          refine wpAnyH_take (i := 11) (v := undef) rfl (by kernel_rfl) (by kernel_rfl) (by kernel_rfl) (fun _ _ _ h => h) (Or.inr ⟨by kernel_rfl, rfl⟩) (by assumption) ?_
          (try simp only [Act.put, List.getElem_toArray, List.getElem_cons_zero, List.getElem_cons_succ, List.setIfInBounds_toArray, List.set_cons_zero, List.set_cons_succ])
          refine wpAnyH_take (i := 12) (v := undef) rfl (by kernel_rfl) (by kernel_rfl) (by kernel_rfl) (fun _ _ _ h => h) (Or.inr ⟨by kernel_rfl, rfl⟩) (by assumption) ?_
          (try simp only [Act.put, List.getElem_toArray, List.getElem_cons_zero, List.getElem_cons_succ, List.setIfInBounds_toArray, List.set_cons_zero, List.set_cons_succ])
          refine wpAnyH_take (i := 13) (v := undef) rfl (by kernel_rfl) (by kernel_rfl) (by kernel_rfl) (fun _ _ _ h => h) (Or.inr ⟨by kernel_rfl, rfl⟩) (by assumption) ?_
          (try simp only [Act.put, List.getElem_toArray, List.getElem_cons_zero, List.getElem_cons_succ, List.setIfInBounds_toArray, List.set_cons_zero, List.set_cons_succ])
          refine wpAnyH_take (i := 14) (v := undef) rfl (by kernel_rfl) (by kernel_rfl) (by kernel_rfl) (fun _ _ _ h => h) (Or.inr ⟨by kernel_rfl, rfl⟩) (by assumption) ?_
          (try simp only [Act.put, List.getElem_toArray, List.getElem_cons_zero, List.getElem_cons_succ, List.setIfInBounds_toArray, List.set_cons_zero, List.set_cons_succ])
          refine wpAnyH_take (i := 15) (v := undef) rfl (by kernel_rfl) (by kernel_rfl) (by kernel_rfl) (fun _ _ _ h => h) (Or.inr ⟨by kernel_rfl, rfl⟩) (by assumption) ?_
          (try simp only [Act.put, List.getElem_toArray, List.getElem_cons_zero, List.getElem_cons_succ, List.setIfInBounds_toArray, List.set_cons_zero, List.set_cons_succ])
          refine wpAnyH_take (i := 16) (v := .bool true) rfl (by kernel_rfl) (by kernel_rfl) (by kernel_rfl) (fun _ _ _ h => h) (Or.inl ⟨by kernel_rfl, fun _ _ => by go_simp⟩) (by assumption) ?_
          (try simp only [Act.put, List.getElem_toArray, List.getElem_cons_zero, List.getElem_cons_succ, List.setIfInBounds_toArray, List.set_cons_zero, List.set_cons_succ])
          refine wpAnyH_done (by kernel_rfl) ?_ _
          clear hHeld1
          go_wp2_with fail
          go_roundw
          case rel => exact ⟨j + 1, by omega, by go_num, hTR⟩
          case measure => simp [intOf]; omega
    · obtain rfl : k = n := by omega
      have hk1 : ¬ (k : Int) < (k : Int) := by omega
      have hTw : Below w.heap.size w wr := below_next hT0 hT rfl
      rw [HL.out] at hown
      have hs0 := hT0.size
      go_wp2_with fail
      go_ret
      rw [HL.out]
      have HLK2 := HLK.out
      subst HLK2
      exact ⟨A2, c2, rfl, own_mono hown hs0, hTw⟩
set_option maxRecDepth 20000 in
set_option maxHeartbeats 8000000 in
theorem specFe_any (A : Option Addr) (n c : Nat) (xss : List (List Int)) (w : World) (h : RdL (RV RI) w A n xss) : Calls Tryz.prog 18 #[.agg #[.slice A n c]] w (OwnB w (feRes xss) (tt (GoodP xss))) := by
  have hl := h.len
  obtain ⟨w0, HW0⟩ : ∃ wb, Hid (wb = w.alloc (.cells #[.slice A n c] 26)) := ⟨_, Lib.hid rfl⟩
  have hb0 : Below w.heap.size w w0 := by rw [HW0.out]; exact below_box _ _
  have BP : Blk w0 w.heap.size 26 #[.slice A n c] := by rw [HW0.out]; exact Blk.new _ _ _
  have hr0 := h.next stab_RVI hb0
  have cP0 := BP.cell 0
  simp at cP0
  have HO := Lib.hid (l23Good_any A n c xss w0 hr0)
  have HLL := Lib.hid hl
  obtain ⟨r, HR⟩ : ∃ r, Hid (tt (GoodP xss) = r) := ⟨_, rfl⟩
  rw [HR.out] at HO
  rw [HR.out]
  clear hl h
  go_enter Tryz.func18, Tryz.ntmps18
  go_upto_region 1 with fail
  rw [← HW0.out]
  rcases r with _ | _
  · have HF : Hid (feRes xss = []) := by show _ = _; unfold feRes; rw [HR.out]; rfl
    go_wp2_with fail
    refine HO.out.mono ?_
    rintro e w1 ⟨rfl, hb1⟩
    have T1 := below_next hb0 hb1 rfl
    go_wp2_with fail
    go_ret2
    rw [HF.out]
    exact ⟨_, 0, 0, rfl, own_lit0 T1, below_next T1 (below_box _ _) rfl⟩
  · have HGD := Lib.hid (tt_iff.1 HR.out)
    have HF : Hid (feRes xss = extL n (leF xss) n) := by show _ = _; unfold feRes; rw [HR.out, if_pos rfl, HLL.out]
    go_wp2_with fail
    refine HO.out.mono ?_
    rintro e w1 ⟨rfl, hb1⟩
    have T1 := below_next hb0 hb1 rfl
    have cP1 := keepM hb1 cP0
    have hr1 := hr0.next stab_RVI hb1
    have HD := Lib.hid (l23First_any A n c xss w1 hr1 HGD.out)
    clear HO cP0
    go_wp2_with fail
    refine HD.out.mono ?_
    rintro e w3 ⟨A2, c2, rfl, hM, hb3⟩
    go_wp2_with fail
    go_ret2
    rw [HF.out]
    rw [extL_len] at hM ⊢
    exact ⟨A2, _, c2, rfl, own_mono hM T1.size, below_next T1 hb3 rfl⟩
end Go.Proofs.YtkmgbdljiajlaaaGreatDoor
namespace Go.Proofs.YtkmgbdljiajlaaaGreatDoor
open Go.RowKit

abbrev Bs := List UInt8
def mk (l : Bs) : ByteArray := ⟨l.toArray⟩
theorem bs_of (l : Bs) : bs (mk l) = l := rfl
theorem mk_eq {s : ByteArray} {l : Bs} (h : bs s = l) : s = mk l := bs_inj h
theorem bs_app (a b : ByteArray) : bs (a ++ b) = bs a ++ bs b := by
  unfold bs
  rw [ByteArray.data_append, Array.toList_append]
theorem bs_ext (s : ByteArray) (i j : Nat) : bs (s.extract i j) = ((bs s).drop i).take (j - i) := Lib.extract_data s i j
theorem size_bs (s : ByteArray) : s.size = (bs s).length := rfl
theorem size_mk (l : Bs) : (mk l).size = l.length := rfl
/-- A concatenation, as the walk meets it. -/
theorem cat (a b : ByteArray) (h : a.size + b.size ≤ 1099511627776) : ∀ w, (Op.stringOp .add a b).run Tryz.prog w = .ok (.string (a ++ b)) w := fun w => run_string_add_sum w a b (by omega)
theorem size_app (a b : ByteArray) : (a ++ b).size = a.size + b.size := by rw [size_bs, bs_app, List.length_append]; rfl
theorem ndig_le {u : Nat} (h : u < 1000000) : Lib.nDigits u ≤ 6 := by
  rcases Nat.lt_or_ge u 10 with h1 | h1
  · rw [Lib.nDigits_small h1]; omega
  rw [Lib.nDigits_big (by omega)]
  rcases Nat.lt_or_ge (u / 10) 10 with h2 | h2
  · rw [Lib.nDigits_small h2]; omega
  rw [Lib.nDigits_big (by omega)]
  rcases Nat.lt_or_ge (u / 10 / 10) 10 with h3 | h3
  · rw [Lib.nDigits_small h3]; omega
  rw [Lib.nDigits_big (by omega)]
  rcases Nat.lt_or_ge (u / 10 / 10 / 10) 10 with h4 | h4
  · rw [Lib.nDigits_small h4]; omega
  rw [Lib.nDigits_big (by omega)]
  rcases Nat.lt_or_ge (u / 10 / 10 / 10 / 10) 10 with h5 | h5
  · rw [Lib.nDigits_small h5]; omega
  rw [Lib.nDigits_big (by omega), Lib.nDigits_small (by omega)]
  omega
theorem dec_len {u : Nat} (h : u < 1000000) : (Lib.decDigits u).length ≤ 6 := by rw [Lib.decDigits_length]; exact ndig_le h
/-- The library's table of powers of ten reads as its initialiser lays it. -/
def Tab (w : World) : Prop := Lib.TabIs Tryz.prog w "internal/strconv.uint64pow10" .u64 Lib.pow10Tab
theorem Tab.next {w w' : World} (h : Tab w) (hb : Below w.heap.size w w') : Tab w' := (Lib.tabBelow_of_tabIs h) w' hb
theorem Tab.drewN {w : World} (h : Tab w) (n : Nat) : Tab (w.drewN n) := h.next (below_drewN (Below.refl _ _) _)
theorem itoa_small (n : Nat) (hn : n < 100) (w : World) :
    Calls Tryz.prog 45 #[.int .i64 n] w (Qt w (.string (mk (Lib.decDigits n)))) :=
  (Tryz.strconv_Itoa_small n hn w).mono fun _ _ ⟨he, hw⟩ => ⟨he, 0, hw⟩

/-! ## the reference's numeral -/
theorem digit_piece {i : Nat} (h : i < 10) : ((([48, 49, 50, 51, 52, 53, 54, 55, 56, 57] : Bs).drop i).take (i + 1 - i)) = [UInt8.ofNat (48 + i)] := by
  have : ∀ i : Fin 10, ((([48, 49, 50, 51, 52, 53, 54, 55, 56, 57] : Bs).drop i.val).take (i.val + 1 - i.val)) = [UInt8.ofNat (48 + i.val)] := by decide
  exact this ⟨i, h⟩
theorem num_small {n : Nat} (h : n < 10) : (⟨#[48, 49, 50, 51, 52, 53, 54, 55, 56, 57]⟩ : ByteArray).extract n (n + 1) = mk (Lib.decDigits n) := by
  apply mk_eq
  rw [bs_ext, Lib.decDigits_one h]
  exact digit_piece h
theorem num_big {n : Nat} (h : ¬ n < 10) : mk (Lib.decDigits (n / 10)) ++ (⟨#[48, 49, 50, 51, 52, 53, 54, 55, 56, 57]⟩ : ByteArray).extract (n % 10) (n % 10 + 1) = mk (Lib.decDigits n) := by
  apply mk_eq
  rw [bs_app, bs_ext, bs_of, Lib.decDigits.eq_def n, dif_neg h]
  congr 1
  exact digit_piece (Nat.mod_lt _ (by decide))

set_option maxHeartbeats 1000000 in
theorem l1Num_any (n : Nat) : ∀ (_hn : n < 1000000) (w : World), Calls Tryz.prog 79 #[.int .i64 n] w (Qt w (.string (mk (Lib.decDigits n)))) := by
  induction n using Nat.strongRecOn with
  | _ n ih =>
    intro hn w
    by_cases h10 : n < 10
    · have HD := Lib.hid (num_small h10)
      have hi0 : (0 : Int) ≤ (n : Int) := by omega
      have hi1 : (n : Int) < 10 := by omega
      clear ih
      go_enter Tryz.func79, Tryz.ntmps79
      go_wp2
      go_ret
      exact ⟨ret_str HD.out, 0, rfl⟩
    · have HD := Lib.hid (num_big h10)
      have hr := ih (n / 10) (by omega) (by omega)
      have hi0 : (10 : Int) ≤ (n : Int) := by omega
      have f1 : IntKind.i64.wrap ((n : Int) / 10) = (n : Int) / 10 := IntWalk.i64_in _ (by omega)
      have f2 : (n : Int).tmod 10 = (n : Int) % 10 := rfl
      have f3 : IntKind.i64.wrap ((n : Int) % 10 + 1) = (n : Int) % 10 + 1 := IntWalk.i64_in _ (by omega)
      have b0 : (0 : Int) ≤ (n : Int) % 10 := by omega
      have b1 : (n : Int) % 10 + 1 ≤ 10 := by omega
      have b2 : (n : Int) % 10 ≤ 9 := by omega
      have b3 : (n : Int) % 10 < 10 := by omega
      have b4 : (0 : Int) ≤ (n : Int) % 10 + 1 := by omega
      have b5 : (n : Int) % 10 + 1 ≤ ((⟨#[48, 49, 50, 51, 52, 53, 54, 55, 56, 57]⟩ : ByteArray).size : Int) := b1
      have hsl : ∀ w, (Instr.slice 9 (.string ⟨#[48, 49, 50, 51, 52, 53, 54, 55, 56, 57]⟩) (some (.int .i64 ((n : Int) % 10))) (some (.int .i64 ((n : Int) % 10 + 1))) none).run Tryz.prog w = .ok (.string ((⟨#[48, 49, 50, 51, 52, 53, 54, 55, 56, 57]⟩ : ByteArray).extract (n % 10) (n % 10 + 1))) w := fun w => by
        have := run_slice_string (P := Tryz.prog) (w := w) 9 ⟨#[48, 49, 50, 51, 52, 53, 54, 55, 56, 57]⟩ .i64 .i64 ((n : Int) % 10) ((n : Int) % 10 + 1) Tryz.underlying9 b0 (by omega) b1
        rw [this]
        have e1 : ((n : Int) % 10).toNat = n % 10 := by omega
        have e2 : ((n : Int) % 10 + 1).toNat = n % 10 + 1 := by omega
        rw [e1, e2]
      have hr' : ∀ w, Calls Tryz.prog 79 #[.int .i64 ((n : Int) / 10)] w (Qt w (.string (mk (Lib.decDigits (n / 10))))) := hr
      have kc := cat (mk (Lib.decDigits (n / 10))) ((⟨#[48, 49, 50, 51, 52, 53, 54, 55, 56, 57]⟩ : ByteArray).extract (n % 10) (n % 10 + 1)) (by
        have h1 := dec_len (u := n / 10) (by omega)
        rw [size_mk, size_bs, bs_ext, List.length_take]
        omega)
      clear ih h10
      go_enter Tryz.func79, Tryz.ntmps79
      go_wp2
      go_quiet ((go_at_call 79; (first | exact quiet_one (hr' _) | exact quiet_add (hr' _))))
      go_wp2
      go_ret
      exact ⟨ret_str HD.out, (by first | exact Drawn.zero _ | exact Drawn.at_ _ _ | exact (Drawn.at_ _ _).more _ | exact ((Drawn.at_ _ _).more _).more _)⟩

/-- A numeral as the call tells it. -/
def numS (n : Nat) : ByteArray := mk (Lib.decDigits n)
theorem numS_size {n : Nat} (h : n < 1000000) : (numS n).size ≤ 6 := dec_len h
theorem catx (a b : ByteArray) (n m : Nat) (ha : a.size ≤ n) (hb : b.size ≤ m) (h : n + m ≤ 1000000) : ∃ s, Hid (a ++ b = s) ∧ (∀ w, (Op.stringOp .add a b).run Tryz.prog w = .ok (.string s) w) ∧ s.size ≤ n + m :=
  ⟨a ++ b, rfl, cat a b (by omega), by rw [size_app]; omega⟩
end Go.Proofs.YtkmgbdljiajlaaaGreatDoor
namespace Go.Proofs.YtkmgbdljiajlaaaGreatDoor
open Go.RowKit
set_option linter.unusedVariables false

/-- A builder in block b that holds l; its bytes lie above b. -/
def Bd (w : World) (b : Nat) (l : Bs) : Prop := Lib.IsBuilder 72 5 b b (Lib.byteCells l) w
/-- Nothing below b turns, nor what is neither the builder nor a row of bytes. -/
def Kb (b : Nat) (w w' : World) : Prop := Below b w w' ∧ Lib.OthersKept 5 (some b) w w'
theorem Kb.refl (b : Nat) (w : World) : Kb b w w := ⟨Below.refl _ _, Lib.OthersKept.refl _ _ _⟩
theorem Kb.trans {b : Nat} {a c d : World} (h : Kb b a c) (k : Kb b c d) : Kb b a d := ⟨h.1.trans k.1, h.2.trans k.2⟩
theorem Bd.new (w : World) : Bd (w.alloc (.cells #[.pointer none, .slice none 0 0] 72)) w.heap.size [] :=
  .inl ⟨Nat.le_refl _, .slice none 0 0, Blk.new w 72 #[.pointer none, .slice none 0 0], World.ownsRow_nil _ _ _ _, by simp [Value.ownBlock]⟩
theorem Bd.lt {w : World} {b : Nat} {l : Bs} (h : Bd w b l) : b < w.heap.size := by
  rcases h with ⟨_, v, hb, _⟩ | ⟨_, v, hb, _⟩
  · exact (Array.getElem?_eq_some_iff.1 hb).1
  · exact (Array.getElem?_eq_some_iff.1 hb).1
theorem Bd.next {w w' : World} {b : Nat} {l : Bs} (h : Bd w b l) (hb : Below w.heap.size w w') : Bd w' b l := by
  have hlt := h.lt
  rcases h with ⟨h1, v, h2, h3, h4⟩ | ⟨h1, v, h2, h3, h4⟩
  · exact .inl ⟨h1, v, (hb.block b hlt).trans h2, own_next h3 hb, h4⟩
  · exact .inr ⟨h1, v, (hb.block b hlt).trans h2, own_next h3 hb, h4⟩
theorem kb_next {w w' : World} {b : Nat} (hlt : b < w.heap.size) (hb : Below w.heap.size w w') : Kb b w w' :=
  ⟨⟨hb.os, hb.tape, hb.output, hb.size, fun i hi => hb.block i (by omega)⟩, fun k o hk _ _ => (hb.block k (Array.getElem?_eq_some_iff.1 hk).1).trans hk⟩
set_option maxRecDepth 100000 in
set_option maxHeartbeats 1000000 in
theorem copyCheck_any (b : Nat) (l : Bs) (w : World) (h : Bd w b l) :
    Calls Tryz.prog 76 #[.pointer (some ⟨b, 0, none⟩)] w fun e w' => e = .returned (.tuple #[]) ∧ Lib.BuilderAt 72 5 b b (.pointer (some ⟨b, 0, none⟩)) (Lib.byteCells l) w' ∧ Kb b w w' := by
  obtain ⟨j, hj, hjs⟩ := Option.map_eq_some_iff.1 (show (Tryz.prog.info? 72).map (·.size) = some 2 by kernel_rfl)
  have hlt := h.lt
  rcases h with h | h
  · have h0 := h.cell0
    have hsh := h.shape
    have hfz := h.frozen0
    have HU := Lib.hid (h.used (.pointer (some ⟨b, 0, none⟩)))
    have T1 : Kb b w (w.setCell ⟨b, 0, none⟩ (.pointer (some ⟨b, 0, none⟩))) := ⟨(Below.refl b w).setCell (p := ⟨b, 0, none⟩) (Nat.le_refl _) _, (Lib.OthersKept.refl _ _ w).setCell ⟨b, 0, none⟩ rfl _⟩
    clear h
    go_enter Tryz.func76, Tryz.ntmps76
    go_wp2
    rw [Lib.run_to_unsafe w ⟨b, 0, none⟩ Tryz.underlying70 Tryz.underlying103 hj (by rw [hjs]; decide) hsh (Nat.zero_lt_succ 1)]
    simp only [Result.andThen]
    rw [Oper.upon_value]
    go_wp2
    rw [run_callFunc_extern Tryz.func87 (by kernel_rfl) (by kernel_rfl) (by kernel_rfl) (e := Extern.AbiNoEscape.same) (by kernel_rfl)]
    rw [Lib.run_noEscape]
    simp only [Result.andThen]
    rw [Oper.upon_value]
    go_wp2
    rw [Lib.run_from_unsafe w ⟨b, 0, none⟩ Tryz.underlying103 Tryz.underlying70 hj hsh (by kernel_rfl)]
    simp only [Result.andThen]
    rw [Oper.upon_value]
    go_wp2
    go_end0
    exact ⟨rfl, HU.out, T1⟩
  · have h0 := h.cell0
    go_enter Tryz.func76, Tryz.ntmps76
    go_wp2
    rw [Lib.run_neq_ptr_same w _ Tryz.underlying70 hj]
    go_wp2
    go_end0
    exact ⟨rfl, h, Kb.refl _ _⟩
set_option maxRecDepth 100000 in
set_option maxHeartbeats 2000000 in
theorem writeString_any (b : Nat) (l : Bs) (s : ByteArray) (w : World) (h : Bd w b l) (hl : l.length + s.size ≤ 1000000000) :
    Calls Tryz.prog 44 #[.pointer (some ⟨b, 0, none⟩), .string s] w fun e w' => e = .returned (.tuple #[.int .i64 s.size, .nilIface]) ∧ Bd w' b (l ++ bs s) ∧ Kb b w w' := by
  obtain ⟨i0, hi, hz0, hz1, hz2⟩ := info_parts (show (Tryz.prog.info? 5).map (fun i => (i.zero, i.size, i.bytes)) = some (some (.int .u8 0), 1, 1) by kernel_rfl)
  have hlt := h.lt
  go_enter Tryz.func44, Tryz.ntmps44
  go_wp2_with fail
  refine (copyCheck_any b l _ h).mono ?_
  rintro e w1 ⟨rfl, h1, hb1⟩
  obtain ⟨hB, v, hbk, hown, hne⟩ := h1
  have c0 : w1.cell? ⟨b, 0, none⟩ = some (.pointer (some ⟨b, 0, none⟩)) := by rw [Lib.cell_of_heap hbk]; rfl
  have c1 : w1.cell? ⟨b, 1, none⟩ = some v := by rw [Lib.cell_of_heap hbk]; rfl
  have hz1' := hb1.1.size
  have hlen : (Lib.byteCells l).length = l.length := Lib.byteCells_length l
  go_wp2_with (at_builtin; refine Lib.wpList_append_own_string _ rfl _ _ 22 9 rfl b 5 i0 Tryz.underlying22 Tryz.underlying9 hi hz0 hz1 hz2 _ _ _ rfl hown s rfl ?c3 ?c4 ?c5 ?_)
  case c3 => unfold maxLen; omega
  case c4 => omega
  case c5 => omega
  intro v' w2 hown' hgrow _
  have hlt1 : b < w1.heap.size := by omega
  have hb2 : w2.heap[b]? = some (.cells #[.pointer (some ⟨b, 0, none⟩), v] 72 (0, 0)) := (hgrow.block b hlt1 (fun e => hne e.symm)).trans hbk
  have d0 : w2.cell? ⟨b, 0, none⟩ = some (.pointer (some ⟨b, 0, none⟩)) := by rw [Lib.cell_of_heap hb2]; rfl
  have d1 : w2.cell? ⟨b, 1, none⟩ = some v := by rw [Lib.cell_of_heap hb2]; rfl
  have f1 : w2.frozen? ⟨b, 1, none⟩ = false := Lib.frozen_of_heap hb2 1
  obtain ⟨ao, n', cap, rfl⟩ : ∃ ao n' cap, v' = .slice ao n' cap := by
    rcases hown'.2 with ⟨hv, _⟩ | ⟨g, cap, cur, hv, _⟩
    · exact ⟨_, _, _, hv⟩
    · exact ⟨_, _, _, hv⟩
  go_wp2
  go_ret2
  refine ⟨rfl, .inr ?_, hb1.trans ⟨((Below.refl b w1).grown hgrow (by omega) (fun k hk => (hown.lt k hk).1)).setCell (p := ⟨b, 1, none⟩) hB _, ((Lib.OthersKept.refl _ _ w1).grown hgrow (Lib.ownsRowF_kind (World.ownsRowF_of hown))).setCell ⟨b, 1, none⟩ rfl _⟩⟩
  have e1 : Lib.byteCells (l ++ bs s) = Lib.byteCells l ++ Lib.strCells s := by rw [Lib.strCells_eq]; unfold Lib.byteCells bs; rw [List.map_append]
  rw [e1]
  exact Lib.BuilderAt.put (T := 72) (e := 5) hB hb2 (bs' := Lib.byteCells l ++ Lib.strCells s) (by rw [List.length_append, Lib.strCells_length, hlen]; exact hown') (by decide)
theorem string_any (b : Nat) (l : Bs) (w : World) (h : Bd w b l) :
    Calls Tryz.prog 47 #[.pointer (some ⟨b, 0, none⟩)] w fun e w' => e = .returned (.string (mk l)) ∧ Below b w w' :=
  Tryz.Builder_String_any b b l w h (Nat.le_of_lt h.lt)
end Go.Proofs.YtkmgbdljiajlaaaGreatDoor
namespace Go.Proofs.YtkmgbdljiajlaaaGreatDoor
open Go.RowKit
set_option linter.unusedVariables false
set_option linter.unusedSimpArgs false

/-! ## Plain -/
def ltB (F : Nat → Nat → Bool) (x y : Nat) : Bool := decide (x ≠ y) && F x y
def cvTo (F : Nat → Nat → Bool) (x y k : Nat) : Bool := (List.range k).all fun z => !(ltB F x z && ltB F z y)
def cvB (n : Nat) (F : Nat → Nat → Bool) (x y : Nat) : Bool := ltB F x y && cvTo F x y n
theorem cvTo_succ (F : Nat → Nat → Bool) (x y k : Nat) : cvTo F x y (k + 1) = (cvTo F x y k && !(ltB F x k && ltB F k y)) := by
  unfold cvTo
  rw [List.range_succ, List.all_append]
  simp
theorem cvTo_no {F : Nat → Nat → Bool} {x y k n : Nat} (hk : k < n) (h : (ltB F x k && ltB F k y) = true) : cvTo F x y n = false := by
  unfold cvTo
  rw [List.all_eq_false]
  exact ⟨k, List.mem_range.2 hk, by rw [h]; simp⟩
def prR (n : Nat) (F : Nat → Nat → Bool) (x j : Nat) : List (Nat × Nat) := ((List.range j).filter fun y => cvB n F x y).map fun y => (x, y)
def prA (n : Nat) (F : Nat → Nat → Bool) (k : Nat) : List (Nat × Nat) := (List.range k).flatMap fun x => prR n F x n
theorem prR_yes {n : Nat} {F : Nat → Nat → Bool} {x j : Nat} (h : cvB n F x j = true) : prR n F x (j + 1) = prR n F x j ++ [(x, j)] := by simp [prR, List.range_succ, List.filter_append, h]
theorem prR_no {n : Nat} {F : Nat → Nat → Bool} {x j : Nat} (h : cvB n F x j = false) : prR n F x (j + 1) = prR n F x j := by simp [prR, List.range_succ, List.filter_append, h]
theorem prA_succ (n : Nat) (F : Nat → Nat → Bool) (k : Nat) : prA n F (k + 1) = prA n F k ++ prR n F k n := by simp [prA, List.range_succ, List.flatMap_append]
theorem prR_len (n : Nat) (F : Nat → Nat → Bool) (x j : Nat) : (prR n F x j).length ≤ j := by
  unfold prR
  rw [List.length_map]
  have := List.length_filter_le (fun y => cvB n F x y) (List.range j)
  rw [List.length_range] at this
  exact this
theorem prA_len (n : Nat) (F : Nat → Nat → Bool) : ∀ k, (prA n F k).length ≤ k * n
  | 0 => by simp [prA]
  | k + 1 => by
    rw [prA_succ, List.length_append]
    have h1 := prA_len n F k
    have h2 := prR_len n F k n
    rw [Nat.succ_mul]
    omega
theorem prR_mem {n : Nat} {F : Nat → Nat → Bool} {x j : Nat} {p : Nat × Nat} (h : p ∈ prR n F x j) : p.1 = x ∧ p.2 < j := by
  unfold prR at h
  obtain ⟨y, hy, rfl⟩ := List.mem_map.1 h
  exact ⟨rfl, List.mem_range.1 (List.mem_filter.1 hy).1⟩
theorem prA_mem {n : Nat} {F : Nat → Nat → Bool} {k : Nat} {p : Nat × Nat} (h : p ∈ prA n F k) : p.1 < k ∧ p.2 < n := by
  unfold prA at h
  obtain ⟨x, hx, hp⟩ := List.mem_flatMap.1 h
  have := prR_mem hp
  have := List.mem_range.1 hx
  omega
def flP (ps : List (Nat × Nat)) : List Int := ps.flatMap fun p => [(p.1 : Int), (p.2 : Int)]
theorem flP_snoc (ps : List (Nat × Nat)) (x y : Nat) : ints (flP ps) ++ [.int .i64 (x : Int), .int .i64 (y : Int)] = ints (flP (ps ++ [(x, y)])) := by simp [flP, ints]
theorem flP_len : ∀ ps : List (Nat × Nat), (flP ps).length = ps.length * 2
  | [] => rfl
  | p :: l => by
    have e : flP (p :: l) = (p.1 : Int) :: (p.2 : Int) :: flP l := by simp [flP]
    rw [e, List.length_cons, List.length_cons, flP_len l, List.length_cons]
    omega
theorem flP_get : ∀ (ps : List (Nat × Nat)) (i : Nat) (p : Nat × Nat), ps[i]? = some p → (flP ps)[i * 2]? = some (p.1 : Int) ∧ (flP ps)[i * 2 + 1]? = some (p.2 : Int)
  | [], i, p, h => by simp at h
  | q :: l, i, p, h => by
    have e : flP (q :: l) = (q.1 : Int) :: (q.2 : Int) :: flP l := by simp [flP]
    rw [e]
    rcases i with _ | i
    · simp at h
      subst h
      exact ⟨rfl, rfl⟩
    · have := flP_get l i p (by simpa using h)
      rw [Nat.succ_mul]
      exact ⟨by simpa using this.1, by simpa using this.2⟩
/-- The text of pairs. -/
def ptB (ps : List (Nat × Nat)) : Bs := ps.flatMap fun p => [32] ++ Lib.decDigits p.1 ++ [60] ++ Lib.decDigits p.2
theorem ptB_snoc {ps : List (Nat × Nat)} {i : Nat} {p : Nat × Nat} (h : ps[i]? = some p) : ptB (ps.take (i + 1)) = ptB (ps.take i) ++ ([32] ++ Lib.decDigits p.1 ++ [60] ++ Lib.decDigits p.2) := by
  have hl := (List.getElem?_eq_some_iff.1 h).1
  have e : ps.take (i + 1) = ps.take i ++ [p] := by rw [List.take_add_one, h]; rfl
  rw [e]
  simp [ptB]
theorem ptB_len : ∀ {ps : List (Nat × Nat)}, (∀ p ∈ ps, p.1 < 100 ∧ p.2 < 100) → (ptB ps).length ≤ ps.length * 14
  | [], _ => by simp [ptB]
  | p :: l, h => by
    have e : ptB (p :: l) = ([32] ++ Lib.decDigits p.1 ++ [60] ++ Lib.decDigits p.2) ++ ptB l := by simp [ptB]
    have h1 := ptB_len (ps := l) fun q hq => h q (List.mem_cons_of_mem _ hq)
    have h2 := h p (List.mem_cons_self ..)
    have h3 := dec_len (u := p.1) (by omega)
    have h4 := dec_len (u := p.2) (by omega)
    rw [e]
    simp only [List.length_append, List.length_cons, List.length_nil]
    omega
def psB (n : Nat) (F : Nat → Nat → Bool) : Bs := Lib.decDigits n ++ ptB (prA n F n)
/-- PosetText's answer. -/
noncomputable def posT (xss : List (List Int)) : ByteArray := if tt (GoodP xss) then mk (psB xss.length (leF xss)) else ⟨#[]⟩
/-! ## Pairs in memory -/
def OwP (lo : Nat) (w : World) (v : Value) (m : Nat) (ps : List (Nat × Nat)) : Prop := w.ownsRow lo 80 2 v m (ints (flP ps))
theorem OwP.len {lo m : Nat} {w : World} {v : Value} {ps : List (Nat × Nat)} (h : OwP lo w v m ps) : ps.length = m := by
  have h1 := h.1
  have : (ints (flP ps)).length = ps.length * 2 := by rw [ints, List.length_map, flP_len]
  omega
theorem OwP.get {lo m c : Nat} {w : World} {A : Option Addr} {ps : List (Nat × Nat)} (h : OwP lo w (.slice A m c) m ps) {i : Nat} {p : Nat × Nat} (hp : ps[i]? = some p) :
    ∃ b, A = some ⟨b, 0, none⟩ ∧ lo ≤ b ∧ b < w.heap.size ∧ w.cell? ⟨b, i * 2, none⟩ = some (.int .i64 (p.1 : Int)) ∧ w.cell? ⟨b, i * 2 + 1, none⟩ = some (.int .i64 (p.2 : Int)) := by
  have hl := h.len
  have hi := (List.getElem?_eq_some_iff.1 hp).1
  obtain ⟨b, rfl, hlo, -⟩ := own_form h (by omega)
  obtain ⟨g1, g2⟩ := flP_get ps i p hp
  refine ⟨b, rfl, hlo, (h.lt b rfl).2, ?_, ?_⟩
  · rw [h.cellAt _ (by omega), ints, List.getElem?_map, g1]; rfl
  · rw [h.cellAt _ (by omega), ints, List.getElem?_map, g2]; rfl
/-- The call hands back the pairs ps of its own. -/
def PrE (ps : List (Nat × Nat)) (w : World) (e : Ending) (w' : World) : Prop := ∃ A c, e = .returned (.slice A ps.length c) ∧ OwP w.heap.size w' (.slice A ps.length c) ps.length ps ∧ Below w.heap.size w w'
/-! ## The program -/
set_option maxRecDepth 20000 in
set_option maxHeartbeats 2000000 in
theorem covers_any (A : Option Addr) (n c x y : Nat) (F : Nat → Nat → Bool) (w : World) (hr : RdL (RV RB) w A n (tab n F)) (hx : x < n) (hy : y < n) :
    Calls Tryz.prog 78 #[.slice A n c, .int .i64 (x : Int), .int .i64 (y : Int)] w fun e w' => e = .returned (.bool (cvB n F x y)) ∧ w = w' := by
  have HL := Lib.hid (less_any A n c x y F w hr hx hy)
  obtain ⟨q, HQ⟩ : ∃ q, Hid ((decide (x ≠ y) && F x y) = q) := ⟨_, Lib.hid rfl⟩
  rw [HQ.out] at HL
  have hle := hr.le
  go_enter Tryz.func78, Tryz.ntmps78
  rcases q with _ | _
  · go_wp2_with fail
    refine HL.out.mono ?_
    rintro e wq ⟨rfl, rfl⟩
    go_wp2_with fail
    go_ret
    exact ⟨ret_bool (by unfold cvB ltB; rw [HQ.out]; rfl), rfl⟩
  · go_wp2_with fail
    refine HL.out.mono ?_
    rintro e wq ⟨rfl, rfl⟩
    go_wp2_with fail
    go_loopw [15] (fun u wr => ∃ k : Nat, k ≤ n ∧ u = .int .i64 (k : Int) ∧ cvTo F x y k = true ∧ w = wr) (fun u _ => n - (intOf u).toNat)
    case atStart => exact ⟨0, Nat.zero_le _, rfl, rfl, rfl⟩
    case round =>
      obtain ⟨k, hk, rfl, hcv, rfl⟩ := hrel
      by_cases hlt : k < n
      · have hk1 : (k : Int) < (n : Int) := by omega
        have HL1 := Lib.hid (less_any A n c x k F w hr hx hlt)
        have HL2 := Lib.hid (less_any A n c k y F w hr hlt hy)
        obtain ⟨a, HA⟩ : ∃ q, Hid ((decide (x ≠ k) && F x k) = q) := ⟨_, Lib.hid rfl⟩
        obtain ⟨b, HB⟩ : ∃ q, Hid ((decide (k ≠ y) && F k y) = q) := ⟨_, Lib.hid rfl⟩
        rw [HA.out] at HL1
        rw [HB.out] at HL2
        have HS := Lib.hid (cvTo_succ F x y k)
        rcases a with _ | _
        · have HN : Hid (cvTo F x y (k + 1) = true) := by show _ = _; rw [HS.out, hcv]; unfold ltB; rw [HA.out]; rfl
          go_wp2_with fail
          refine HL1.out.mono ?_
          rintro e wq ⟨rfl, rfl⟩
          go_wp2_with fail
          go_roundw
          case rel => exact ⟨k + 1, by omega, by go_num, HN.out, trivial⟩
          case measure => simp [intOf]; omega
        · rcases b with _ | _
          · have HN : Hid (cvTo F x y (k + 1) = true) := by show _ = _; rw [HS.out, hcv]; unfold ltB; rw [HA.out, HB.out]; rfl
            go_wp2_with fail
            refine HL1.out.mono ?_
            rintro e wq ⟨rfl, rfl⟩
            go_wp2_with fail
            refine HL2.out.mono ?_
            rintro e wq ⟨rfl, rfl⟩
            go_wp2_with fail
            go_roundw
            case rel => exact ⟨k + 1, by omega, by go_num, HN.out, trivial⟩
            case measure => simp [intOf]; omega
          · have HN : Hid (cvB n F x y = false) := by
              show _ = _
              unfold cvB
              rw [cvTo_no hlt (by unfold ltB; rw [HA.out, HB.out]; rfl), Bool.and_false]
            go_wp2_with fail
            refine HL1.out.mono ?_
            rintro e wq ⟨rfl, rfl⟩
            go_wp2_with fail
            refine HL2.out.mono ?_
            rintro e wq ⟨rfl, rfl⟩
            go_wp2_with fail
            go_ret
            exact ⟨ret_bool HN.out.symm, rfl⟩
      · obtain rfl : k = n := by omega
        have hk1 : ¬ (k : Int) < (k : Int) := by omega
        go_wp2_with fail
        go_ret
        exact ⟨ret_bool (by unfold cvB ltB; rw [HQ.out, hcv]; rfl), rfl⟩
set_option maxRecDepth 20000 in
set_option maxHeartbeats 4000000 in
theorem coverPairs_any (A : Option Addr) (n c : Nat) (F : Nat → Nat → Bool) (w : World) (hr : RdL (RV RB) w A n (tab n F)) (hn : n ≤ 10) :
    Calls Tryz.prog 46 #[.slice A n c] w (PrE (prA n F n) w) := by
  have hb0 : Below w.heap.size w (w.alloc (.cells #[] 80)) := below_box _ _
  have hP0 : OwP w.heap.size (w.alloc (.cells #[] 80)) (.slice (some ⟨w.heap.size, 0, none⟩) 0 0) 0 (prA n F 0) := World.ownsRow_lit _ _ _ (Nat.le_refl _) (Nat.zero_le _) rfl
  go_enter Tryz.func46, Tryz.ntmps46
  go_wp2_with fail
  go_loopw [3, 9] (fun v i wr => ∃ (x : Nat) (A' : Option Addr) (c' : Nat), x ≤ n ∧ i = .int .i64 (x : Int) ∧ v = .slice A' (prA n F x).length c' ∧ OwP w.heap.size wr (.slice A' (prA n F x).length c') (prA n F x).length (prA n F x) ∧ Below w.heap.size w wr) (fun _ i _ => n - (intOf i).toNat)
  case atStart => exact ⟨0, _, 0, Nat.zero_le _, rfl, rfl, hP0, hb0⟩
  case round =>
    clear hP0 hb0
    obtain ⟨x, A', c', hx, rfl, rfl, hP, hT⟩ := hrel
    by_cases hlx : x < n
    · have hx1 : (x : Int) < (n : Int) := by omega
      have HE0 : Hid (prA n F x = prA n F x ++ prR n F x 0) := by show _ = _; simp [prR]
      have HPN := Lib.hid (prA_succ n F x)
      obtain ⟨P0, HP0⟩ : ∃ P, Hid (prA n F x = P) := ⟨_, Lib.hid rfl⟩
      have hp0 : P0.length ≤ 100 := by
        have h1 := prA_len n F x
        rw [HP0.out] at h1
        have h2 : x * n ≤ 10 * 10 := Nat.mul_le_mul (by omega) hn
        omega
      rw [HP0.out] at hP HE0 HPN ⊢
      go_wp2_with fail
      go_loopw [3, 14] (fun v i wi => ∃ (y : Nat) (A' : Option Addr) (c' : Nat), y ≤ n ∧ i = .int .i64 (y : Int) ∧ v = .slice A' (P0 ++ prR n F x y).length c' ∧ OwP w.heap.size wi (.slice A' (P0 ++ prR n F x y).length c') (P0 ++ prR n F x y).length (P0 ++ prR n F x y) ∧ Below w.heap.size w wi) (fun _ i _ => n - (intOf i).toNat)
      case atStart => exact ⟨0, A', c', Nat.zero_le _, rfl, by rw [← HE0.out], by rw [← HE0.out]; exact hP, hT⟩
      case round =>
        clear hP hT
        obtain ⟨y, A', c', hy, rfl, rfl, hP, hT⟩ := hrel
        obtain ⟨P1, HP1⟩ : ∃ P, Hid (P0 ++ prR n F x y = P) := ⟨_, Lib.hid rfl⟩
        by_cases hly : y < n
        · have hy1 : (y : Int) < (n : Int) := by omega
          have hw := hT.size
          have hm : P1.length ≤ 1000 := by
            rw [← HP1.out, List.length_append]
            have := prR_len n F x y
            omega
          rw [HP1.out] at hP ⊢
          have HC := Lib.hid (covers_any A n c x y F wr (hr.next stab_RVB hT) hlx hly)
          obtain ⟨b, HB⟩ : ∃ b, Hid (cvB n F x y = b) := ⟨_, Lib.hid rfl⟩
          rw [HB.out] at HC
          rcases b with _ | _
          · have HN : Hid (P0 ++ prR n F x (y + 1) = P1) := by show _ = _; rw [prR_no HB.out]; exact HP1.out
            go_wp2_with fail
            refine HC.out.mono ?_
            rintro e wq ⟨rfl, rfl⟩
            go_wp2_with fail
            go_roundw
            case rel => exact ⟨y + 1, A', c', by omega, by go_num, by rw [HN.out], by rw [HN.out]; exact hP, hT⟩
            case measure => simp [intOf]; omega
          · have HN : Hid (P0 ++ prR n F x (y + 1) = P1 ++ [(x, y)]) := by show _ = _; rw [prR_yes HB.out, ← List.append_assoc, HP1.out]
            go_wp2_with fail
            refine HC.out.mono ?_
            rintro e wq ⟨rfl, rfl⟩
            go_wp2_with (at_builtin; refine app2p wr rfl _ _ 78 80 rfl (.agg #[.int .i64 0, .int .i64 0]) 16 Tryz.underlying78 info_pair rfl (by decide) w.heap.size P1.length c' A' (ints (flP P1)) rfl hP (.int .i64 x) (.int .i64 y) rfl rfl rfl (by omega) hw ?_; intro A5 c5 w5 hown5 hg5 hb5)
            rw [flP_snoc] at hown5
            go_roundw
            case rel => exact ⟨y + 1, A5, c5, by omega, by go_num, by rw [HN.out]; simp, by rw [HN.out, List.length_append]; exact hown5, hT.trans hb5⟩
            case measure => simp [intOf]; omega
        · obtain rfl : n = y := by omega
          have hy1 : ¬ (n : Int) < (n : Int) := by omega
          go_wp2_with fail
          go_roundw
          case rel => exact ⟨x + 1, A', c', by omega, by go_num, by rw [HPN.out], by rw [HPN.out]; exact hP, hT⟩
          case measure => simp [intOf]; omega
    · obtain rfl : n = x := by omega
      have hx1 : ¬ (n : Int) < (n : Int) := by omega
      go_wp2_with fail
      go_ret
      exact ⟨A', c', rfl, hP, hT⟩
end Go.Proofs.YtkmgbdljiajlaaaGreatDoor
namespace Go.Proofs.YtkmgbdljiajlaaaGreatDoor
open Go.RowKit
set_option linter.unusedVariables false
set_option linter.unusedSimpArgs false

theorem Kb.blkD {b g : Nat} {w w' : World} {ty : TypeId} {cs : Array Value} (h : Kb b w w') (hB : Blk w g ty cs) (hg : g ≠ b) (ht : ty ≠ 5) : Blk w' g ty cs :=
  h.2 g _ hB (fun e => hg (by injection e)) (fun c fz e => ht (by injection e))
theorem OwP.kb {lo m b : Nat} {w w' : World} {v : Value} {ps : List (Nat × Nat)} (h : OwP lo w v m ps) (hk : Kb b w w') (hb : b < lo) : OwP lo w' v m ps := own_same h fun g hg => by
  rcases h.2 with ⟨rfl, _⟩ | ⟨g1, cap, cur, rfl, hlo, hh, _⟩
  · simp [Value.ownBlock] at hg
  · simp only [Value.ownBlock, Option.some.injEq] at hg
    subst hg
    rw [hh]
    exact hk.2 g1 _ hh (fun e => by injection e with e; omega) (fun c fz e => by injection e with _ e2; exact absurd e2 (by decide))
theorem OwP.next {lo m : Nat} {w w' : World} {v : Value} {ps : List (Nat × Nat)} (h : OwP lo w v m ps) (hb : Below w.heap.size w w') : OwP lo w' v m ps := own_next h hb
theorem ps_small {n : Nat} {F : Nat → Nat → Bool} (hn : n ≤ 10) : ∀ p ∈ prA n F n, p.1 < 100 ∧ p.2 < 100 := fun p hp => by have := prA_mem hp; omega
theorem ps_len {n : Nat} {F : Nat → Nat → Bool} (hn : n ≤ 10) : (prA n F n).length ≤ 100 := by
  have h1 := prA_len n F n
  have h2 : n * n ≤ 10 * 10 := Nat.mul_le_mul hn hn
  omega
theorem take_small {ps : List (Nat × Nat)} (h : ∀ p ∈ ps, p.1 < 100 ∧ p.2 < 100) (hl : ps.length ≤ 100) (q : Nat) : (ptB (ps.take q)).length ≤ 1400 := by
  have h1 := ptB_len (ps := ps.take q) fun p hp => h p (List.mem_of_mem_take hp)
  have h2 : (ps.take q).length ≤ 100 := by rw [List.length_take]; omega
  omega
set_option maxRecDepth 20000 in
set_option maxHeartbeats 8000000 in
theorem implPt_any (A : Option Addr) (n c : Nat) (xss : List (List Int)) (w : World) (h : RdL (RV RI) w A n xss) : Calls Tryz.prog 19 #[.agg #[.slice A n c]] w (Bl w (.tuple #[.string (posT xss), .bool (tt (GoodP xss))])) := by
  have hl := h.len
  obtain ⟨w0, HW0⟩ : ∃ wb, Hid (wb = w.alloc (.cells #[.slice A n c] 26)) := ⟨_, Lib.hid rfl⟩
  have hb0 : Below w.heap.size w w0 := by rw [HW0.out]; exact below_box _ _
  have BP : Blk w0 w.heap.size 26 #[.slice A n c] := by rw [HW0.out]; exact Blk.new _ _ _
  have hr0 := h.next stab_RVI hb0
  have cP0 := BP.cell 0
  simp at cP0
  have HO := Lib.hid (orderOf_any A n c xss w0 hr0)
  have HLL := Lib.hid hl
  obtain ⟨r, HR⟩ : ∃ r, Hid (tt (GoodP xss) = r) := ⟨_, rfl⟩
  rw [HR.out]
  clear hl h
  go_enter Tryz.func19, Tryz.ntmps19
  go_upto_region 1 with fail
  rw [← HW0.out]
  go_wp2_with fail
  refine HO.out.mono ?_
  rintro e w1 ⟨A1, m1, c1, rfl, hgd, hb1⟩
  rw [HR.out]
  have T1 := below_next hb0 hb1 rfl
  clear HO cP0 BP hr0
  rcases r with _ | _
  · have HF : Hid (posT xss = ⟨#[]⟩) := by show _ = _; unfold posT; rw [HR.out]; rfl
    clear hgd
    go_wp2_with fail
    go_ret2
    rw [HF.out]
    exact ⟨rfl, T1⟩
  · have hgp := tt_iff.1 HR.out
    obtain ⟨rfl, hrb⟩ := hgd hgp
    obtain ⟨F, HFF⟩ : ∃ F, Hid (leF xss = F) := ⟨_, Lib.hid rfl⟩
    have hn10 : m1 ≤ 10 := by rw [← HLL.out]; exact hgp.1
    obtain ⟨ps, HPS⟩ : ∃ ps, Hid (prA m1 F m1 = ps) := ⟨_, Lib.hid rfl⟩
    have HF : Hid (posT xss = mk (Lib.decDigits m1 ++ ptB ps)) := by show _ = _; unfold posT psB; rw [HR.out, if_pos rfl, HLL.out, HFF.out, HPS.out]
    rw [HFF.out] at hrb
    have HSM : Hid (∀ p ∈ ps, p.1 < 100 ∧ p.2 < 100) := by rw [← HPS.out]; exact ps_small hn10
    have hpl : ps.length ≤ 100 := by rw [← HPS.out]; exact ps_len hn10
    have HTK := Lib.hid (take_small HSM.out hpl)
    obtain ⟨w2, HW2⟩ : ∃ wb, Hid (wb = w1.alloc (.cells #[.pointer none, .slice none 0 0] 72)) := ⟨_, Lib.hid rfl⟩
    have hb2 : Below w1.heap.size w1 w2 := by rw [HW2.out]; exact below_box _ _
    have hB2 : Bd w2 w1.heap.size [] := by rw [HW2.out]; exact Bd.new _
    have T2 := below_next T1 hb2 rfl
    obtain ⟨bb, HBB⟩ : ∃ x, Hid (w1.heap.size = x) := ⟨_, Lib.hid rfl⟩
    have hwb : w.heap.size ≤ bb := by rw [← HBB.out]; exact T1.size
    have HRB1 := Lib.hid hrb
    have hrb2 := hrb.next stab_RVB hb2
    obtain ⟨N0, HN0⟩ : ∃ s, Hid (mk (Lib.decDigits m1) = s) := ⟨_, Lib.hid rfl⟩
    have zN0 : N0.size ≤ 6 := by rw [← HN0.out, size_mk]; exact dec_len (by omega)
    have HI0 : Hid (Calls Tryz.prog 45 #[.int .i64 (m1 : Int)] w2 (Bl w2 (.string N0))) := by
      have := bl_of_quiet (itoa_small m1 (by omega) w2)
      rw [HN0.out] at this
      exact this
    rw [HBB.out] at hB2
    have hlt2 := hB2.lt
    clear hgd hrb hgp
    go_upto_region 5 with fail
    rw [← HW2.out, HBB.out]
    go_wp2_with fail
    refine HI0.out.mono ?_
    rintro e w3 ⟨rfl, hb3⟩
    have hrb3 := hrb2.next stab_RVB hb3
    have hs3 := hb3.size
    have T3 := below_next T2 hb3 rfl
    have HWS := Lib.hid (writeString_any _ [] N0 w3 (hB2.next hb3) (by simp; omega))
    go_wp2_with fail
    refine HWS.out.mono ?_
    rintro e w4 ⟨rfl, hB4, hk4⟩
    rw [List.nil_append] at hB4
    have e4 : bs N0 = Lib.decDigits m1 := by rw [← HN0.out]; rfl
    rw [e4] at hB4
    have HK0 : Hid (Kb bb w3 w4) := hk4
    have hk2 : Kb bb w2 w3 := kb_next hlt2 hb3
    have T24 := hk2.trans hk4
    have h14 : Below w1.heap.size w1 w4 := by rw [HBB.out]; exact (show Below bb w1 w2 by rw [← HBB.out]; exact hb2).trans T24.1
    have hrb4 := HRB1.out.next stab_RVB h14
    have hs4 : bb < w4.heap.size := by have := hk4.1.size; omega
    have HCP := Lib.hid (coverPairs_any A1 m1 c1 F w4 hrb4 hn10)
    rw [HPS.out] at HCP
    clear hrb2 hrb3 hrb4 hb3 HI0 HWS hb2
    go_wp2_with fail
    refine HCP.out.mono ?_
    rintro e w5 ⟨A5, c5, rfl, hP5, hb5⟩
    have hB5 := hB4.next hb5
    have HP5 := Lib.hid hP5
    have hT15 : Below bb w1 w5 := by rw [HBB.out] at h14; exact h14.trans (hb5.mono (by omega))
    obtain ⟨m, HM⟩ : ∃ m, Hid (ps.length = m) := ⟨_, Lib.hid rfl⟩
    rw [HM.out] at HP5 hpl ⊢
    clear hP5 hB4 hk4 HK0 hk2 T24 h14 HCP hb5
    go_wp2_with fail
    go_loopw [23] (fun i wr => ∃ q : Nat, q ≤ m ∧ i = .int .i64 (q : Int) ∧ Bd wr bb (Lib.decDigits m1 ++ ptB (ps.take q)) ∧ Kb bb w5 wr) (fun i _ => m - (intOf i).toNat)
    case atStart => exact ⟨0, Nat.zero_le _, rfl, by rw [List.take_zero]; simpa [ptB] using hB5, Kb.refl _ _⟩
    case round =>
      clear hB5
      obtain ⟨q, hq, rfl, hB, hKb⟩ := hrel
      have hbl := hB.lt
      by_cases hlt : q < m
      · have hq0 : (0 : Int) ≤ (q : Int) := by omega
        have hq1 : (q : Int) < (m : Int) := by omega
        obtain ⟨⟨x, y⟩, hpq⟩ : ∃ p, ps[q]? = some p := ⟨_, List.getElem?_eq_getElem (by rw [HM.out]; exact hlt)⟩
        have hxy := HSM.out _ (List.mem_of_getElem? hpq)
        have hx9 : x < 100 := hxy.1
        have hy9 : y < 100 := hxy.2
        obtain ⟨g, rfl, -, -, hc1, hc2⟩ := (HP5.out.kb hKb hs4).get hpq
        have HSN := Lib.hid (ptB_snoc hpq)
        have HTQ := Lib.hid (HTK.out q)
        obtain ⟨N1, HN1⟩ : ∃ s, Hid (numS x = s) := ⟨_, rfl⟩
        obtain ⟨N2, HN2⟩ : ∃ s, Hid (numS y = s) := ⟨_, rfl⟩
        have z1 : N1.size ≤ 6 := by rw [← HN1.out]; exact numS_size (by omega)
        have z2 : N2.size ≤ 6 := by rw [← HN2.out]; exact numS_size (by omega)
        have HI1 : Hid (∀ wz, Calls Tryz.prog 45 #[.int .i64 (x : Int)] wz (Bl wz (.string N1))) := fun wz => by
          have := bl_of_quiet (itoa_small x hx9 wz)
          rw [← HN1.out]; exact this
        have HI2 : Hid (∀ wz, Calls Tryz.prog 45 #[.int .i64 (y : Int)] wz (Bl wz (.string N2))) := fun wz => by
          have := bl_of_quiet (itoa_small y hy9 wz)
          rw [← HN2.out]; exact this
        obtain ⟨S1, HS1, k1, y1⟩ := catx ⟨#[32]⟩ N1 1 _ (by decide) z1 (by decide)
        obtain ⟨S2, HS2, k2, y2⟩ := catx S1 ⟨#[60]⟩ _ 1 y1 (by decide) (by decide)
        obtain ⟨S3, HS3, k3, y3⟩ := catx S2 N2 _ _ y2 z2 (by decide)
        have HNX : Hid (Lib.decDigits m1 ++ ptB (ps.take (q + 1)) = Lib.decDigits m1 ++ ptB (ps.take q) ++ bs S3) := by
          show _ = _
          rw [HSN.out, ← HS3.out, bs_app, ← HS2.out, bs_app, ← HS1.out, bs_app, ← HN1.out, ← HN2.out]
          simp only [List.append_assoc]
          rfl
        have hlen : (Lib.decDigits m1 ++ ptB (ps.take q)).length + S3.size ≤ 1000000000 := by
          rw [List.length_append]
          have := dec_len (u := m1) (by omega)
          have := HTQ.out
          omega
        obtain ⟨l0, HL0⟩ : ∃ l, Hid (Lib.decDigits m1 ++ ptB (ps.take q) = l) := ⟨_, Lib.hid rfl⟩
        rw [HL0.out] at hB HNX hlen
        obtain ⟨w6, HW6⟩ : ∃ wb, Hid (wb = wr.alloc (.cells #[.int .i64 (x : Int), .int .i64 (y : Int)] 80)) := ⟨_, Lib.hid rfl⟩
        have hb6 : Below wr.heap.size wr w6 := by rw [HW6.out]; exact below_box _ _
        have BX : Blk w6 wr.heap.size 80 #[.int .i64 (x : Int), .int .i64 (y : Int)] := by rw [HW6.out]; exact Blk.new _ _ _
        obtain ⟨pb, HPB⟩ : ∃ p, Hid (wr.heap.size = p) := ⟨_, Lib.hid rfl⟩
        have hpb : pb ≠ bb := by have := HPB.out; omega
        replace hKb := hKb.trans (kb_next hB.lt hb6)
        replace hB := hB.next hb6
        go_upto_region 9 with fail
        rw [← HW6.out]
        rw [HPB.out] at BX ⊢
        have cX0 := BX.cell 0
        have cX1 := BX.cell 1
        simp at cX0 cX1
        clear hb6 hxy hpq
        refine wp_region_held_drew (S := fun w' => w'.cell? ⟨pb, 0, none⟩ = some (.int .i64 (x : Int)) ∧ w'.cell? ⟨pb, 1, none⟩ = some (.int .i64 (y : Int))) (by kernel_rfl) ⟨cX0, cX1⟩ (fun hHeld0 => ?_)
        obtain ⟨wt1, Hwt1⟩ : ∃ x, Hid (x = World.drew w6) := ⟨_, rfl⟩
        have hbwt1 : Below w6.heap.size w6 wt1 := by rw [Hwt1.out]; exact (Below.refl _ _).drew
        rw [← Hwt1.out] at hHeld0 ⊢
        have ywt1 := hbwt1.size
        replace hKb := hKb.trans (kb_next hB.lt hbwt1)
        replace hB := hB.next hbwt1
        replace BX := BX.next hbwt1
        replace cX0 := keepM hbwt1 cX0
        replace cX1 := keepM hbwt1 cX1
        refine wpAnyH_take (i := 0) (v := .pointer (some ⟨pb, 0, none⟩)) rfl (by kernel_rfl) (by kernel_rfl) (by kernel_rfl) (fun _ _ _ h => h) (Or.inl ⟨by kernel_rfl, fun _ _ => by go_simp⟩) (by assumption) ?_
        (try simp only [Act.put, List.getElem_toArray, List.getElem_cons_zero, List.getElem_cons_succ, List.setIfInBounds_toArray, List.set_cons_zero, List.set_cons_succ])
        refine wpAnyH_take (i := 1) (v := .int .i64 (x : Int)) rfl (by kernel_rfl) (by kernel_rfl) (by kernel_rfl) (fun _ _ _ h => h) (Or.inl ⟨by kernel_rfl, fun wv hSw => by (obtain ⟨hS0, hS1⟩ := hSw); go_simp⟩) (by assumption) ?_
        (try simp only [Act.put, List.getElem_toArray, List.getElem_cons_zero, List.getElem_cons_succ, List.setIfInBounds_toArray, List.set_cons_zero, List.set_cons_succ])
        refine wpAnyH_take (i := 5) (v := .pointer (some ⟨pb, 1, none⟩)) rfl (by kernel_rfl) (by kernel_rfl) (by kernel_rfl) (fun _ _ _ h => h) (Or.inl ⟨by kernel_rfl, fun _ _ => by go_simp⟩) (by assumption) ?_
        (try simp only [Act.put, List.getElem_toArray, List.getElem_cons_zero, List.getElem_cons_succ, List.setIfInBounds_toArray, List.set_cons_zero, List.set_cons_succ])
        refine wpAnyH_take (i := 6) (v := .int .i64 (y : Int)) rfl (by kernel_rfl) (by kernel_rfl) (by kernel_rfl) (fun _ _ _ h => h) (Or.inl ⟨by kernel_rfl, fun wv hSw => by (obtain ⟨hS0, hS1⟩ := hSw); go_simp⟩) (by assumption) ?_
        (try simp only [Act.put, List.getElem_toArray, List.getElem_cons_zero, List.getElem_cons_succ, List.setIfInBounds_toArray, List.set_cons_zero, List.set_cons_succ])
        refine wpAnyH_ready (rs := [2]) (by kernel_rfl) (by simp) ?_
        refine (AllReadyH.cons rfl (fun K hK => ?_) AllReadyH.nil)
        go_simp
        refine (HI1.out wt1).mono ?_
        rintro e wt2 ⟨rfl, hbwt2⟩
        go_wp2_with fail
        have ywt2 := hbwt2.size
        replace hKb := hKb.trans (kb_next hB.lt hbwt2)
        replace hB := hB.next hbwt2
        replace BX := BX.next hbwt2
        replace cX0 := keepM hbwt2 cX0
        replace cX1 := keepM hbwt2 cX1
        refine hK.out _ _ ⟨cX0, cX1⟩ (fun hHeld1 => ?_)
        clear hK K hHeld0
        (try simp only [Act.put, List.getElem_toArray, List.getElem_cons_zero, List.getElem_cons_succ, List.setIfInBounds_toArray, List.set_cons_zero, List.set_cons_succ])
        refine wpAnyH_take (i := 3) (v := .string S1) rfl (by kernel_rfl) (by kernel_rfl) (by kernel_rfl) (fun _ _ _ h => h) (Or.inl ⟨by kernel_rfl, fun _ _ => by go_simp⟩) (by assumption) ?_
        (try simp only [Act.put, List.getElem_toArray, List.getElem_cons_zero, List.getElem_cons_succ, List.setIfInBounds_toArray, List.set_cons_zero, List.set_cons_succ])
        refine wpAnyH_take (i := 4) (v := .string S2) rfl (by kernel_rfl) (by kernel_rfl) (by kernel_rfl) (fun _ _ _ h => h) (Or.inl ⟨by kernel_rfl, fun _ _ => by go_simp⟩) (by assumption) ?_
        (try simp only [Act.put, List.getElem_toArray, List.getElem_cons_zero, List.getElem_cons_succ, List.setIfInBounds_toArray, List.set_cons_zero, List.set_cons_succ])
        refine wpAnyH_ready (rs := [7]) (by kernel_rfl) (by simp) ?_
        refine (AllReadyH.cons rfl (fun K hK => ?_) AllReadyH.nil)
        go_simp
        refine (HI2.out wt2).mono ?_
        rintro e wt3 ⟨rfl, hbwt3⟩
        go_wp2_with fail
        have ywt3 := hbwt3.size
        replace hKb := hKb.trans (kb_next hB.lt hbwt3)
        replace hB := hB.next hbwt3
        replace BX := BX.next hbwt3
        replace cX0 := keepM hbwt3 cX0
        replace cX1 := keepM hbwt3 cX1
        refine hK.out _ _ ⟨cX0, cX1⟩ (fun hHeld2 => ?_)
        clear hK K hHeld1
        (try simp only [Act.put, List.getElem_toArray, List.getElem_cons_zero, List.getElem_cons_succ, List.setIfInBounds_toArray, List.set_cons_zero, List.set_cons_succ])
        refine wpAnyH_take (i := 8) (v := .string S3) rfl (by kernel_rfl) (by kernel_rfl) (by kernel_rfl) (fun _ _ _ h => h) (Or.inl ⟨by kernel_rfl, fun _ _ => by go_simp⟩) (by assumption) ?_
        (try simp only [Act.put, List.getElem_toArray, List.getElem_cons_zero, List.getElem_cons_succ, List.setIfInBounds_toArray, List.set_cons_zero, List.set_cons_succ])
        refine wpAnyH_ready (rs := [9]) (by kernel_rfl) (by simp) ?_
        refine (AllReadyH.cons rfl (fun K hK => ?_) AllReadyH.nil)
        go_simp
        refine (writeString_any _ _ S3 wt3 hB hlen).mono ?_
        rintro e wt4 ⟨rfl, hB4, hk4⟩
        replace hKb := hKb.trans hk4
        have BX4 := hk4.blkD BX hpb (by decide)
        replace cX0 := BX4.cell 0
        replace cX1 := BX4.cell 1
        simp at cX0 cX1
        rw [← HNX.out] at hB4
        go_wp2_with fail
        refine hK.out _ _ ⟨cX0, cX1⟩ (fun hHeld3 => ?_)
        clear hK K hHeld2
        (try simp only [Act.put, List.getElem_toArray, List.getElem_cons_zero, List.getElem_cons_succ, List.setIfInBounds_toArray, List.set_cons_zero, List.set_cons_succ])
        refine wpAnyH_done (by kernel_rfl) ?_ _
        clear hHeld3
        go_wp2_with fail
        go_roundw
        case rel => exact ⟨q + 1, by omega, by go_num, hB4, hKb⟩
        case measure => simp [intOf]; omega
      · obtain rfl : q = m := by omega
        have hq1 : ¬ (q : Int) < (q : Int) := by omega
        rw [List.take_of_length_le (by rw [HM.out]; exact Nat.le_refl _)] at hB
        have HST := Lib.hid (string_any _ _ wr hB)
        go_wp2_with fail
        refine HST.out.mono ?_
        rintro e w8 ⟨rfl, hb8⟩
        go_wp2_with fail
        go_ret2
        rw [HF.out]
        exact ⟨rfl, T1.trans (((hT15.trans hKb.1).trans hb8).mono hwb)⟩
set_option maxRecDepth 20000 in
set_option maxHeartbeats 2000000 in
theorem l23LessE_any (A : Option Addr) (n c : Nat) (xss : List (List Int)) (x y : Nat) (w : World) (h : RdL (RV RI) w A n xss) (hy : y < n) :
    Calls Tryz.prog 98 #[.agg #[.slice A n c], .int .i64 x, .int .i64 y] w (Bl w (.bool (ltB (leF xss) x y))) := by
  by_cases hxy : x = y
  · have h1 : ((x : Int) != (y : Int)) = false := by simp; omega
    go_enter Tryz.func98, Tryz.ntmps98
    go_wp2_with fail
    go_ret
    exact ⟨ret_bool (by unfold ltB; simp [hxy]), below_box _ _⟩
  · have h1 : ((x : Int) != (y : Int)) = true := by simp; omega
    have hb0 := below_box w (.cells #[.slice A n c] 26)
    have k0 := (Blk.new w 26 #[.slice A n c]).cell 0
    simp at k0
    go_enter Tryz.func98, Tryz.ntmps98
    go_wp2_with fail
    refine (l23Leq_any A n c xss (x : Int) y _ (h.next stab_RVI hb0) hy).mono ?_
    rintro e w1 ⟨rfl, hb⟩
    go_wp2_with fail
    go_ret
    exact ⟨ret_bool (by unfold ltB leF; simp [hxy]), below_next hb0 hb rfl⟩
set_option maxRecDepth 20000 in
set_option maxHeartbeats 2000000 in
theorem l23CoversE_any (A : Option Addr) (n c : Nat) (xss : List (List Int)) (x y : Nat) (w : World) (h : RdL (RV RI) w A n xss) (hy : y < n) :
    Calls Tryz.prog 89 #[.agg #[.slice A n c], .int .i64 x, .int .i64 y] w (Bl w (.bool (cvB n (leF xss) x y))) := by
  have hle := h.le
  have hb := below_box w (.cells #[.slice A n c] 26)
  have BX := Blk.new w 26 #[.slice A n c]
  have k0 := BX.cell 0
  simp at k0
  have h1 := h.next stab_RVI hb
  have HL0 := Lib.hid (l23LessE_any A n c xss x y _ h1 hy)
  obtain ⟨F, HF⟩ : ∃ F, Hid (leF xss = F) := ⟨_, Lib.hid rfl⟩
  have HLE : Hid (∀ (x y : Nat) (w : World), RdL (RV RI) w A n xss → y < n → Calls Tryz.prog 98 #[.agg #[.slice A n c], .int .i64 x, .int .i64 y] w (Bl w (.bool (ltB F x y)))) := fun x y w h hy => by rw [← HF.out]; exact l23LessE_any A n c xss x y w h hy
  rw [HF.out] at HL0 ⊢
  obtain ⟨b, HB⟩ : ∃ b, Hid (ltB F x y = b) := ⟨_, Lib.hid rfl⟩
  rw [HB.out] at HL0
  go_enter Tryz.func89, Tryz.ntmps89
  go_wp2_with fail
  refine HL0.out.mono ?_
  rintro e w1 ⟨rfl, hb1⟩
  have hT := below_next hb hb1 rfl
  have B1 := BX.next hb1
  have h2 := h1.next stab_RVI hb1
  clear k0 hb h1 BX hb1 HL0
  rcases b with _ | _
  · go_wp2_with fail
    go_ret
    exact ⟨ret_bool (by unfold cvB; rw [HB.out]; rfl), hT⟩
  · go_wp2_with fail
    go_loopw [7] (fun i wr => ∃ z : Nat, z ≤ n ∧ i = .int .i64 z ∧ cvTo F x y z = true ∧ Below w1.heap.size w1 wr) (fun i _ => n - (intOf i).toNat)
    case atStart => exact ⟨0, Nat.zero_le _, rfl, rfl, Below.refl _ _⟩
    case round =>
      obtain ⟨z, hz, rfl, hcv, hTr⟩ := hrel
      have HCV := Lib.hid hcv
      replace h2 := h2.next stab_RVI hTr
      have k1 := (B1.next hTr).cell 0
      simp at k1
      have hT2 := below_next hT hTr rfl
      clear hcv
      by_cases hlt : z < n
      · have hz1 : (z : Int) < (n : Int) := by omega
        have HS := Lib.hid (cvTo_succ F x y z)
        obtain ⟨p, HP⟩ : ∃ b, Hid (ltB F x z = b) := ⟨_, Lib.hid rfl⟩
        obtain ⟨q, HQ⟩ : ∃ b, Hid (ltB F z y = b) := ⟨_, Lib.hid rfl⟩
        have HL1 := Lib.hid (HLE.out x z wr h2 hlt)
        rw [HP.out] at HL1
        rcases p with _ | _
        · have HN : Hid (cvTo F x y (z + 1) = true) := by show _ = _; rw [HS.out, HCV.out, HP.out]; rfl
          go_wp2_with fail
          refine HL1.out.mono ?_
          rintro e w2 ⟨rfl, hb2⟩
          have hTr2 := below_next hTr hb2 rfl
          go_wp2_with fail
          go_roundw
          case rel => exact ⟨z + 1, by omega, by go_num, HN.out, hTr2⟩
          case measure => simp [intOf]; omega
        · go_wp2_with fail
          refine HL1.out.mono ?_
          rintro e w2 ⟨rfl, hb2⟩
          have hTr2 := below_next hTr hb2 rfl
          have k2 := (B1.next hTr2).cell 0
          simp at k2
          have HL2 := Lib.hid (HLE.out z y w2 (h2.next stab_RVI hb2) hy)
          rw [HQ.out] at HL2
          go_wp2_with fail
          refine HL2.out.mono ?_
          rintro e w3 ⟨rfl, hb3⟩
          have hTr3 := below_next hTr2 hb3 rfl
          rcases q with _ | _
          · have HN : Hid (cvTo F x y (z + 1) = true) := by show _ = _; rw [HS.out, HCV.out, HP.out, HQ.out]; rfl
            go_wp2_with fail
            go_roundw
            case rel => exact ⟨z + 1, by omega, by go_num, HN.out, hTr3⟩
            case measure => simp [intOf]; omega
          · have HN : Hid (cvB n F x y = false) := by show _ = _; unfold cvB; rw [cvTo_no hlt (by rw [HP.out, HQ.out]; rfl), Bool.and_false]
            go_wp2_with fail
            go_ret
            exact ⟨ret_bool HN.out.symm, below_next hT hTr3 rfl⟩
      · obtain rfl : n = z := by omega
        have hz1 : ¬ (n : Int) < (n : Int) := by omega
        go_wp2_with fail
        go_ret
        exact ⟨ret_bool (by unfold cvB; rw [HB.out, HCV.out]; rfl), hT2⟩
set_option maxRecDepth 20000 in
set_option maxHeartbeats 4000000 in
theorem l23PairsE_any (A : Option Addr) (n c : Nat) (xss : List (List Int)) (w : World) (h : RdL (RV RI) w A n xss) (hn : n ≤ 10) :
    Calls Tryz.prog 80 #[.agg #[.slice A n c]] w (PrE (prA n (leF xss) n) w) := by
  obtain ⟨w0, HW0⟩ : ∃ wb, Hid (wb = w.alloc (.cells #[.slice A n c] 26)) := ⟨_, rfl⟩
  have hb0 : Below w.heap.size w w0 := by rw [HW0.out]; exact below_box _ _
  have BX : Blk w0 w.heap.size 26 #[.slice A n c] := by rw [HW0.out]; exact Blk.new _ _ _
  obtain ⟨w1, HW1⟩ : ∃ wb, Hid (wb = w0.alloc (.cells #[] 80)) := ⟨_, rfl⟩
  have hb1 : Below w0.heap.size w0 w1 := by rw [HW1.out]; exact below_box _ _
  have hs0 : w0.heap.size = w.heap.size + 1 := by rw [HW0.out]; simp
  obtain ⟨F, HF⟩ : ∃ F, Hid (leF xss = F) := ⟨_, Lib.hid rfl⟩
  have hP0 : OwP w0.heap.size w1 (.slice (some ⟨w0.heap.size, 0, none⟩) 0 0) 0 (prA n F 0) := by rw [HW1.out]; exact World.ownsRow_lit _ _ _ (Nat.le_refl _) (Nat.zero_le _) rfl
  rw [HF.out]
  have HR0 := Lib.hid (h.next stab_RVI hb0)
  have hlt0 := BX.lt
  have HCV : Hid (∀ (x y : Nat) (wz : World), Below w0.heap.size w0 wz → y < n → Calls Tryz.prog 89 #[.agg #[.slice A n c], .int .i64 x, .int .i64 y] wz (Bl wz (.bool (cvB n F x y)))) := fun x y wz hz hy => by rw [← HF.out]; exact l23CoversE_any A n c xss x y wz (HR0.out.next stab_RVI hz) hy
  have hTw := hb0
  have hle := h.le
  clear h hb0
  go_enter Tryz.func80, Tryz.ntmps80
  go_wp2_with fail
  rw [← HW0.out, ← HW1.out]
  rw [← hs0]
  clear hs0
  go_loopw [3, 4, 5] (fun v i _ wr => ∃ (x : Nat) (A' : Option Addr) (c' : Nat), x ≤ n ∧ i = .int .i64 x ∧ v = .slice A' (prA n F x).length c' ∧ OwP w0.heap.size wr (.slice A' (prA n F x).length c') (prA n F x).length (prA n F x) ∧ Below w0.heap.size w0 wr) (fun _ i _ _ => n - (intOf i).toNat)
  case atStart => exact ⟨0, _, 0, Nat.zero_le _, rfl, rfl, hP0, hb1⟩
  case round =>
    clear hP0
    obtain ⟨x, A', c', hx, rfl, rfl, hP, hT⟩ := hrel
    have k1 := (BX.next hT).cell 0
    simp at k1
    by_cases hlx : x < n
    · have hx1 : (x : Int) < (n : Int) := by omega
      have HE0 : Hid (prA n F x = prA n F x ++ prR n F x 0) := by show _ = _; simp [prR]
      have HPN := Lib.hid (prA_succ n F x)
      obtain ⟨P0, HP0⟩ : ∃ P, Hid (prA n F x = P) := ⟨_, Lib.hid rfl⟩
      have hp0 : P0.length ≤ 100 := by
        have h1 := prA_len n F x
        rw [HP0.out] at h1
        have h2 : x * n ≤ 10 * 10 := Nat.mul_le_mul (by omega) hn
        omega
      rw [HP0.out] at hP HE0 HPN ⊢
      go_wp2_with fail
      go_loopw [3, 5] (fun v i wi => ∃ (y : Nat) (A' : Option Addr) (c' : Nat), y ≤ n ∧ i = .int .i64 y ∧ v = .slice A' (P0 ++ prR n F x y).length c' ∧ OwP w0.heap.size wi (.slice A' (P0 ++ prR n F x y).length c') (P0 ++ prR n F x y).length (P0 ++ prR n F x y) ∧ Below w0.heap.size w0 wi) (fun _ i _ => n - (intOf i).toNat)
      case atStart => exact ⟨0, A', c', Nat.zero_le _, rfl, by rw [← HE0.out], by rw [← HE0.out]; exact hP, hT⟩
      case round =>
        clear hP hT k1
        obtain ⟨y, A', c', hy, rfl, rfl, hP, hT⟩ := hrel
        have k1 := (BX.next hT).cell 0
        simp at k1
        obtain ⟨P1, HP1⟩ : ∃ P, Hid (P0 ++ prR n F x y = P) := ⟨_, Lib.hid rfl⟩
        by_cases hly : y < n
        · have hy1 : (y : Int) < (n : Int) := by omega
          have hm : P1.length ≤ 1000 := by
            rw [← HP1.out, List.length_append]
            have := prR_len n F x y
            omega
          rw [HP1.out] at hP ⊢
          have HC := Lib.hid (HCV.out x y wr hT hly)
          obtain ⟨b, HB⟩ : ∃ b, Hid (cvB n F x y = b) := ⟨_, Lib.hid rfl⟩
          rw [HB.out] at HC
          go_wp2_with fail
          refine HC.out.mono ?_
          rintro e w2 ⟨rfl, hb2⟩
          have hT2 := below_next hT hb2 rfl
          have hP2 := own_next hP hb2
          have hw2 := hT2.size
          rcases b with _ | _
          · have HN : Hid (P0 ++ prR n F x (y + 1) = P1) := by show _ = _; rw [prR_no HB.out]; exact HP1.out
            go_wp2_with fail
            go_roundw
            case rel => exact ⟨y + 1, A', c', by omega, by go_num, by rw [HN.out], by rw [HN.out]; exact hP2, hT2⟩
            case measure => simp [intOf]; omega
          · have HN : Hid (P0 ++ prR n F x (y + 1) = P1 ++ [(x, y)]) := by show _ = _; rw [prR_yes HB.out, ← List.append_assoc, HP1.out]
            go_wp2_with (at_builtin; refine app2p w2 rfl _ _ 78 80 rfl (.agg #[.int .i64 0, .int .i64 0]) 16 Tryz.underlying78 info_pair rfl (by decide) w0.heap.size P1.length c' A' (ints (flP P1)) rfl hP2 (.int .i64 x) (.int .i64 y) rfl rfl rfl (by omega) hw2 ?_; intro A5 c5 w5 hown5 hg5 hb5)
            rw [flP_snoc] at hown5
            go_roundw
            case rel => exact ⟨y + 1, A5, c5, by omega, by go_num, by rw [HN.out]; simp, by rw [HN.out, List.length_append]; exact hown5, hT2.trans hb5⟩
            case measure => simp [intOf]; omega
        · obtain rfl : n = y := by omega
          have hy1 : ¬ (n : Int) < (n : Int) := by omega
          go_wp2_with fail
          go_roundw
          case rel => exact ⟨x + 1, A', c', by omega, by go_num, by rw [HPN.out], by rw [HPN.out]; exact hP, hT⟩
          case measure => simp [intOf]; omega
    · obtain rfl : n = x := by omega
      have hx1 : ¬ (n : Int) < (n : Int) := by omega
      have hs := hTw.size
      go_wp2_with fail
      go_ret
      exact ⟨A', c', rfl, own_mono hP hs, below_next hTw hT rfl⟩
set_option maxRecDepth 20000 in
set_option maxHeartbeats 8000000 in
theorem l23Text_any (A : Option Addr) (n c : Nat) (xss : List (List Int)) (w : World) (h : RdL (RV RI) w A n xss) (hn10 : n ≤ 10) : Calls Tryz.prog 48 #[.agg #[.slice A n c]] w (Bl w (.string (mk (psB n (leF xss))))) := by
  obtain ⟨w0, HW0⟩ : ∃ wb, Hid (wb = w.alloc (.cells #[.slice A n c] 26)) := ⟨_, Lib.hid rfl⟩
  have hb0 : Below w.heap.size w w0 := by rw [HW0.out]; exact below_box _ _
  have BP : Blk w0 w.heap.size 26 #[.slice A n c] := by rw [HW0.out]; exact Blk.new _ _ _
  have hr0 := h.next stab_RVI hb0
  have cP0 := BP.cell 0
  simp at cP0
  obtain ⟨F, HFF⟩ : ∃ F, Hid (leF xss = F) := ⟨_, Lib.hid rfl⟩
  obtain ⟨ps, HPS⟩ : ∃ ps, Hid (prA n F n = ps) := ⟨_, Lib.hid rfl⟩
  have HF : Hid (mk (psB n (leF xss)) = mk (Lib.decDigits n ++ ptB ps)) := by show _ = _; unfold psB; rw [HFF.out, HPS.out]
  have HSM : Hid (∀ p ∈ ps, p.1 < 100 ∧ p.2 < 100) := by rw [← HPS.out]; exact ps_small hn10
  have hpl : ps.length ≤ 100 := by rw [← HPS.out]; exact ps_len hn10
  have HTK := Lib.hid (take_small HSM.out hpl)
  obtain ⟨N0, HN0⟩ : ∃ s, Hid (mk (Lib.decDigits n) = s) := ⟨_, Lib.hid rfl⟩
  have zN0 : N0.size ≤ 6 := by rw [← HN0.out, size_mk]; exact dec_len (by omega)
  have HI0 : Hid (Calls Tryz.prog 79 #[.int .i64 (n : Int)] w0 (Bl w0 (.string N0))) := by
    have := bl_of_quiet (l1Num_any n (by omega) w0)
    rw [HN0.out] at this
    exact this
  have e4 : Hid (bs N0 = Lib.decDigits n) := by show _ = _; rw [← HN0.out]; rfl
  rw [HF.out]
  clear h
  go_enter Tryz.func48, Tryz.ntmps48
  go_upto_region 1 with fail
  rw [← HW0.out]
  go_wp2_with fail
  refine HI0.out.mono ?_
  rintro e w1 ⟨rfl, hb1⟩
  have T1 := below_next hb0 hb1 rfl
  have cP1 := keepM hb1 cP0
  have HCP := Lib.hid (l23PairsE_any A n c xss w1 (hr0.next stab_RVI hb1) hn10)
  rw [HFF.out, HPS.out] at HCP
  clear cP0 HI0
  go_wp2_with fail
  refine HCP.out.mono ?_
  rintro e w5 ⟨A5, c5, rfl, hP5, hb5⟩
  have HP5 := Lib.hid hP5
  have T5 := below_next T1 hb5 rfl
  obtain ⟨m, HM⟩ : ∃ m, Hid (ps.length = m) := ⟨_, Lib.hid rfl⟩
  rw [HM.out] at HP5 hpl ⊢
  clear hP5 HCP hb5
  go_wp2_with fail
  go_loopw [3, 5] (fun s i wr => ∃ (q : Nat) (S : ByteArray), q ≤ m ∧ i = .int .i64 (q : Int) ∧ s = .string S ∧ bs S = Lib.decDigits n ++ ptB (ps.take q) ∧ Below w5.heap.size w5 wr) (fun _ i _ => m - (intOf i).toNat)
  case atStart => exact ⟨0, N0, Nat.zero_le _, rfl, rfl, by rw [e4.out, List.take_zero]; simp [ptB], Below.refl _ _⟩
  case round =>
    obtain ⟨q, S, hq, rfl, rfl, hS, hTR⟩ := hrel
    have HS := Lib.hid hS
    clear hS
    by_cases hlt : q < m
    · have hq0 : (0 : Int) ≤ (q : Int) := by omega
      have hq1 : (q : Int) < (m : Int) := by omega
      obtain ⟨⟨x, y⟩, hpq⟩ : ∃ p, ps[q]? = some p := ⟨_, List.getElem?_eq_getElem (by rw [HM.out]; exact hlt)⟩
      have hxy := HSM.out _ (List.mem_of_getElem? hpq)
      have hx9 : x < 100 := hxy.1
      have hy9 : y < 100 := hxy.2
      obtain ⟨g, rfl, -, -, hc1, hc2⟩ := (HP5.out.next hTR).get hpq
      have HSN := Lib.hid (ptB_snoc hpq)
      have zS : S.size ≤ 1406 := by
        rw [size_bs, HS.out, List.length_append]
        have := dec_len (u := n) (by omega)
        have := HTK.out q
        omega
      obtain ⟨N1, HN1⟩ : ∃ s, Hid (numS x = s) := ⟨_, rfl⟩
      obtain ⟨N2, HN2⟩ : ∃ s, Hid (numS y = s) := ⟨_, rfl⟩
      have z1 : N1.size ≤ 6 := by rw [← HN1.out]; exact numS_size (by omega)
      have z2 : N2.size ≤ 6 := by rw [← HN2.out]; exact numS_size (by omega)
      have HI1 : Hid (∀ wz, Calls Tryz.prog 79 #[.int .i64 (x : Int)] wz (Bl wz (.string N1))) := fun wz => by
        have := bl_of_quiet (l1Num_any x (by omega) wz)
        rw [← HN1.out]; exact this
      have HI2 : Hid (∀ wz, Calls Tryz.prog 79 #[.int .i64 (y : Int)] wz (Bl wz (.string N2))) := fun wz => by
        have := bl_of_quiet (l1Num_any y (by omega) wz)
        rw [← HN2.out]; exact this
      obtain ⟨S0, HS0, k0, y0⟩ := catx S ⟨#[32]⟩ _ 1 zS (by decide) (by decide)
      obtain ⟨S1, HS1, k1, y1⟩ := catx S0 N1 _ _ y0 z1 (by decide)
      obtain ⟨S2, HS2, k2, y2⟩ := catx S1 ⟨#[60]⟩ _ 1 y1 (by decide) (by decide)
      obtain ⟨S3, HS3, k3, y3⟩ := catx S2 N2 _ _ y2 z2 (by decide)
      have HNX : Hid (bs S3 = Lib.decDigits n ++ ptB (ps.take (q + 1))) := by
        show _ = _
        rw [HSN.out, ← HS3.out, bs_app, ← HS2.out, bs_app, ← HS1.out, bs_app, ← HS0.out, bs_app, HS.out, ← HN1.out, ← HN2.out]
        simp only [List.append_assoc]
        rfl
      have cX0 := hc1
      have cX1 := hc2
      clear hxy hpq hc1 hc2
      go_upto_region 6 with fail
      refine wp_region_held_drew (S := fun w' => w'.cell? ⟨g, q * 2, none⟩ = some (.int .i64 (x : Int)) ∧ w'.cell? ⟨g, q * 2 + 1, none⟩ = some (.int .i64 (y : Int))) (by kernel_rfl) ⟨cX0, cX1⟩ (fun hHeld0 => ?_)
      obtain ⟨wt1, Hwt1⟩ : ∃ x, Hid (x = World.drew wr) := ⟨_, rfl⟩
      have hbwt1 : Below wr.heap.size wr wt1 := by rw [Hwt1.out]; exact (Below.refl _ _).drew
      rw [← Hwt1.out] at hHeld0 ⊢
      have ywt1 := hbwt1.size
      replace hTR := below_next hTR hbwt1 rfl
      replace cX0 := keepM hbwt1 cX0
      replace cX1 := keepM hbwt1 cX1
      refine wpAnyH_take (i := 0) (v := .string S) rfl (by kernel_rfl) (by kernel_rfl) (by kernel_rfl) (fun _ _ _ h => h) (Or.inl ⟨by kernel_rfl, fun _ _ => by go_simp⟩) (by assumption) ?_
      (try simp only [Act.put, List.getElem_toArray, List.getElem_cons_zero, List.getElem_cons_succ, List.setIfInBounds_toArray, List.set_cons_zero, List.set_cons_succ])
      refine wpAnyH_take (i := 1) (v := .string S0) rfl (by kernel_rfl) (by kernel_rfl) (by kernel_rfl) (fun _ _ _ h => h) (Or.inl ⟨by kernel_rfl, fun _ _ => by go_simp⟩) (by assumption) ?_
      (try simp only [Act.put, List.getElem_toArray, List.getElem_cons_zero, List.getElem_cons_succ, List.setIfInBounds_toArray, List.set_cons_zero, List.set_cons_succ])
      refine wpAnyH_take (i := 2) (v := .slice (some ⟨g, 0, none⟩) m c5) rfl (by kernel_rfl) (by kernel_rfl) (by kernel_rfl) (fun _ _ _ h => h) (Or.inl ⟨by kernel_rfl, fun _ _ => by go_simp⟩) (by assumption) ?_
      (try simp only [Act.put, List.getElem_toArray, List.getElem_cons_zero, List.getElem_cons_succ, List.setIfInBounds_toArray, List.set_cons_zero, List.set_cons_succ])
      refine wpAnyH_take (i := 3) (v := .int .i64 (q : Int)) rfl (by kernel_rfl) (by kernel_rfl) (by kernel_rfl) (fun _ _ _ h => h) (Or.inl ⟨by kernel_rfl, fun _ _ => by go_simp⟩) (by assumption) ?_
      (try simp only [Act.put, List.getElem_toArray, List.getElem_cons_zero, List.getElem_cons_succ, List.setIfInBounds_toArray, List.set_cons_zero, List.set_cons_succ])
      refine wpAnyH_take (i := 4) (v := .pointer (some ⟨g, q * 2, none⟩)) rfl (by kernel_rfl) (by kernel_rfl) (by kernel_rfl) (fun _ _ _ h => h) (Or.inl ⟨by kernel_rfl, fun _ _ => by go_simp⟩) (by assumption) ?_
      (try simp only [Act.put, List.getElem_toArray, List.getElem_cons_zero, List.getElem_cons_succ, List.setIfInBounds_toArray, List.set_cons_zero, List.set_cons_succ])
      refine wpAnyH_take (i := 5) (v := .pointer (some ⟨g, q * 2, none⟩)) rfl (by kernel_rfl) (by kernel_rfl) (by kernel_rfl) (fun _ _ _ h => h) (Or.inl ⟨by kernel_rfl, fun _ _ => by go_simp⟩) (by assumption) ?_
      (try simp only [Act.put, List.getElem_toArray, List.getElem_cons_zero, List.getElem_cons_succ, List.setIfInBounds_toArray, List.set_cons_zero, List.set_cons_succ])
      refine wpAnyH_take (i := 6) (v := .int .i64 (x : Int)) rfl (by kernel_rfl) (by kernel_rfl) (by kernel_rfl) (fun _ _ _ h => h) (Or.inl ⟨by kernel_rfl, fun wv hSw => by (obtain ⟨hS0, hS1⟩ := hSw); go_simp⟩) (by assumption) ?_
      (try simp only [Act.put, List.getElem_toArray, List.getElem_cons_zero, List.getElem_cons_succ, List.setIfInBounds_toArray, List.set_cons_zero, List.set_cons_succ])
      refine wpAnyH_take (i := 10) (v := .slice (some ⟨g, 0, none⟩) m c5) rfl (by kernel_rfl) (by kernel_rfl) (by kernel_rfl) (fun _ _ _ h => h) (Or.inl ⟨by kernel_rfl, fun _ _ => by go_simp⟩) (by assumption) ?_
      (try simp only [Act.put, List.getElem_toArray, List.getElem_cons_zero, List.getElem_cons_succ, List.setIfInBounds_toArray, List.set_cons_zero, List.set_cons_succ])
      refine wpAnyH_take (i := 11) (v := .int .i64 (q : Int)) rfl (by kernel_rfl) (by kernel_rfl) (by kernel_rfl) (fun _ _ _ h => h) (Or.inl ⟨by kernel_rfl, fun _ _ => by go_simp⟩) (by assumption) ?_
      (try simp only [Act.put, List.getElem_toArray, List.getElem_cons_zero, List.getElem_cons_succ, List.setIfInBounds_toArray, List.set_cons_zero, List.set_cons_succ])
      refine wpAnyH_take (i := 12) (v := .pointer (some ⟨g, q * 2, none⟩)) rfl (by kernel_rfl) (by kernel_rfl) (by kernel_rfl) (fun _ _ _ h => h) (Or.inl ⟨by kernel_rfl, fun _ _ => by go_simp⟩) (by assumption) ?_
      (try simp only [Act.put, List.getElem_toArray, List.getElem_cons_zero, List.getElem_cons_succ, List.setIfInBounds_toArray, List.set_cons_zero, List.set_cons_succ])
      refine wpAnyH_take (i := 13) (v := .pointer (some ⟨g, q * 2 + 1, none⟩)) rfl (by kernel_rfl) (by kernel_rfl) (by kernel_rfl) (fun _ _ _ h => h) (Or.inl ⟨by kernel_rfl, fun _ _ => by go_simp⟩) (by assumption) ?_
      (try simp only [Act.put, List.getElem_toArray, List.getElem_cons_zero, List.getElem_cons_succ, List.setIfInBounds_toArray, List.set_cons_zero, List.set_cons_succ])
      refine wpAnyH_take (i := 14) (v := .int .i64 (y : Int)) rfl (by kernel_rfl) (by kernel_rfl) (by kernel_rfl) (fun _ _ _ h => h) (Or.inl ⟨by kernel_rfl, fun wv hSw => by (obtain ⟨hS0, hS1⟩ := hSw); go_simp⟩) (by assumption) ?_
      (try simp only [Act.put, List.getElem_toArray, List.getElem_cons_zero, List.getElem_cons_succ, List.setIfInBounds_toArray, List.set_cons_zero, List.set_cons_succ])
      refine wpAnyH_ready (rs := [7]) (by kernel_rfl) (by simp) ?_
      refine (AllReadyH.cons rfl (fun K hK => ?_) AllReadyH.nil)
      go_simp
      refine (HI1.out wt1).mono ?_
      rintro e wt2 ⟨rfl, hbwt2⟩
      go_wp2_with fail
      have ywt2 := hbwt2.size
      replace hTR := below_next hTR hbwt2 rfl
      replace cX0 := keepM hbwt2 cX0
      replace cX1 := keepM hbwt2 cX1
      refine hK.out _ _ ⟨cX0, cX1⟩ (fun hHeld1 => ?_)
      clear hK K hHeld0
      (try simp only [Act.put, List.getElem_toArray, List.getElem_cons_zero, List.getElem_cons_succ, List.setIfInBounds_toArray, List.set_cons_zero, List.set_cons_succ])
      refine wpAnyH_take (i := 8) (v := .string S1) rfl (by kernel_rfl) (by kernel_rfl) (by kernel_rfl) (fun _ _ _ h => h) (Or.inl ⟨by kernel_rfl, fun _ _ => by go_simp⟩) (by assumption) ?_
      (try simp only [Act.put, List.getElem_toArray, List.getElem_cons_zero, List.getElem_cons_succ, List.setIfInBounds_toArray, List.set_cons_zero, List.set_cons_succ])
      refine wpAnyH_take (i := 9) (v := .string S2) rfl (by kernel_rfl) (by kernel_rfl) (by kernel_rfl) (fun _ _ _ h => h) (Or.inl ⟨by kernel_rfl, fun _ _ => by go_simp⟩) (by assumption) ?_
      (try simp only [Act.put, List.getElem_toArray, List.getElem_cons_zero, List.getElem_cons_succ, List.setIfInBounds_toArray, List.set_cons_zero, List.set_cons_succ])
      refine wpAnyH_ready (rs := [15]) (by kernel_rfl) (by simp) ?_
      refine (AllReadyH.cons rfl (fun K hK => ?_) AllReadyH.nil)
      go_simp
      refine (HI2.out wt2).mono ?_
      rintro e wt3 ⟨rfl, hbwt3⟩
      go_wp2_with fail
      have ywt3 := hbwt3.size
      replace hTR := below_next hTR hbwt3 rfl
      replace cX0 := keepM hbwt3 cX0
      replace cX1 := keepM hbwt3 cX1
      refine hK.out _ _ ⟨cX0, cX1⟩ (fun hHeld2 => ?_)
      clear hK K hHeld1
      (try simp only [Act.put, List.getElem_toArray, List.getElem_cons_zero, List.getElem_cons_succ, List.setIfInBounds_toArray, List.set_cons_zero, List.set_cons_succ])
      refine wpAnyH_take (i := 16) (v := .string S3) rfl (by kernel_rfl) (by kernel_rfl) (by kernel_rfl) (fun _ _ _ h => h) (Or.inl ⟨by kernel_rfl, fun _ _ => by go_simp⟩) (by assumption) ?_
      (try simp only [Act.put, List.getElem_toArray, List.getElem_cons_zero, List.getElem_cons_succ, List.setIfInBounds_toArray, List.set_cons_zero, List.set_cons_succ])
      refine wpAnyH_take (i := 17) (v := .string S3) rfl (by kernel_rfl) (by kernel_rfl) (by kernel_rfl) (fun _ _ _ h => h) (Or.inl ⟨by kernel_rfl, fun _ _ => by go_simp⟩) (by assumption) ?_
      (try simp only [Act.put, List.getElem_toArray, List.getElem_cons_zero, List.getElem_cons_succ, List.setIfInBounds_toArray, List.set_cons_zero, List.set_cons_succ])
      refine wpAnyH_done (by kernel_rfl) ?_ _
      clear hHeld2
      go_wp2_with fail
      go_roundw
      case rel => exact ⟨q + 1, S3, by omega, by go_num, rfl, HNX.out, hTR⟩
      case measure => simp [intOf]; omega
    · obtain rfl : q = m := by omega
      have hq1 : ¬ (q : Int) < (q : Int) := by omega
      have HE : Hid (S = mk (Lib.decDigits n ++ ptB ps)) := by
        show _ = _
        apply mk_eq
        rw [HS.out, List.take_of_length_le (by rw [HM.out]; exact Nat.le_refl _)]
      go_wp2_with fail
      go_ret
      exact ⟨ret_str HE.out, below_next T5 hTR rfl⟩
set_option maxRecDepth 20000 in
set_option maxHeartbeats 8000000 in
theorem specPt_any (A : Option Addr) (n c : Nat) (xss : List (List Int)) (w : World) (h : RdL (RV RI) w A n xss) : Calls Tryz.prog 20 #[.agg #[.slice A n c]] w (Bl w (.tuple #[.string (posT xss), .bool (tt (GoodP xss))])) := by
  have hl := h.len
  obtain ⟨w0, HW0⟩ : ∃ wb, Hid (wb = w.alloc (.cells #[.slice A n c] 26)) := ⟨_, Lib.hid rfl⟩
  have hb0 : Below w.heap.size w w0 := by rw [HW0.out]; exact below_box _ _
  have BP : Blk w0 w.heap.size 26 #[.slice A n c] := by rw [HW0.out]; exact Blk.new _ _ _
  have hr0 := h.next stab_RVI hb0
  have cP0 := BP.cell 0
  simp at cP0
  have HO := Lib.hid (l23Good_any A n c xss w0 hr0)
  have HLL := Lib.hid hl
  obtain ⟨r, HR⟩ : ∃ r, Hid (tt (GoodP xss) = r) := ⟨_, rfl⟩
  rw [HR.out] at HO
  rw [HR.out]
  clear hl h
  go_enter Tryz.func20, Tryz.ntmps20
  go_upto_region 1 with fail
  rw [← HW0.out]
  rcases r with _ | _
  · have HF : Hid (posT xss = ⟨#[]⟩) := by show _ = _; unfold posT; rw [HR.out]; rfl
    go_wp2_with fail
    refine HO.out.mono ?_
    rintro e w1 ⟨rfl, hb1⟩
    go_wp2_with fail
    go_ret2
    rw [HF.out]
    exact ⟨rfl, below_next hb0 hb1 rfl⟩
  · have hgd := tt_iff.1 HR.out
    have hn10 : n ≤ 10 := by rw [← HLL.out]; exact hgd.1
    have HF : Hid (posT xss = mk (psB n (leF xss))) := by show _ = _; unfold posT; rw [HR.out, if_pos rfl, HLL.out]
    clear hgd
    go_wp2_with fail
    refine HO.out.mono ?_
    rintro e w1 ⟨rfl, hb1⟩
    have T1 := below_next hb0 hb1 rfl
    have cP1 := keepM hb1 cP0
    have HD := Lib.hid (l23Text_any A n c xss w1 (hr0.next stab_RVI hb1) hn10)
    clear HO cP0
    go_wp2_with fail
    refine HD.out.mono ?_
    rintro e w3 ⟨rfl, hb3⟩
    go_wp2_with fail
    go_ret2
    rw [HF.out]
    exact ⟨rfl, below_next T1 hb3 rfl⟩
end Go.Proofs.YtkmgbdljiajlaaaGreatDoor
namespace Go.Proofs.YtkmgbdljiajlaaaGreatDoor
open Go.RowKit

def RU8 (_ : World) (v : Value) (x : Int) : Prop := v = .int .u8 x ∧ 0 ≤ x ∧ x < 256
theorem code_inB {w : World} {A : Option Addr} {n : Nat} {xs : List Int} (h : RdL RU8 w A n xs) (hn : n ≤ 65536) : CodeB w A n := by
  refine ⟨hn, fun h0 => ?_⟩
  obtain ⟨b, o, v, x, e, -⟩ := h.at h0
  subst e
  refine ⟨b, o, rfl, fun i hi => ?_⟩
  obtain ⟨v, x, hc, ⟨rfl, h1, h2⟩, -, -⟩ := h.at' hi
  exact ⟨x.toNat, by omega, by rw [hc, Int.toNat_of_nonneg h1]⟩
set_option maxHeartbeats 400000 in
theorem rBig_any (A : Option Addr) (n c : Nat) (w : World) (hn : n ≤ 9223372036854775807) : Calls Tryz.prog 4 #[.slice A n c] w fun e w' => e = .returned (.bool (decide (65536 < n))) ∧ w = w' := by
  go_enter Tryz.func4, Tryz.ntmps4
  go_wp2
  go_ret
  exact ⟨ret_bool (decide_eq_decide.2 (by omega)), rfl⟩
end Go.Proofs.YtkmgbdljiajlaaaGreatDoor
