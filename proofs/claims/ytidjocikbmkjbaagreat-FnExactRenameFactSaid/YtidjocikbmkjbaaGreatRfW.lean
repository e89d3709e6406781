
/- Walks: orders of names, inverse, compose, kernels, in the program and in the reference. -/
import Derived.Test.YtidjocikbmkjbaaGreatGrp
import Derived.Test.YtidjocikbmkjbaaGreatGen
import Derived.Test.YtidjocikbmkjbaaGreatBl
import Derived.Test.YtidjocikbmkjbaaGreatInts
import Derived.IntWalk
namespace Go.Proofs.YtidjocikbmkjbaaGreat
open Go.RowKit
set_option linter.unusedVariables false

/-! ## Is a list an order of names? -/
noncomputable def permB (n : Nat) (L : List Int) : Bool := tt (PermL n L)
theorem permB_len {n : Nat} {L : List Int} (h : L.length ≠ n) : false = permB n L := tt_false fun hp => h hp.1
theorem permB_out {n : Nat} {L : List Int} (h : allIn 0 ((n : Int) - 1) L = false) : false = permB n L := tt_false fun hp => by
  have := allIn_iff.2 hp.2.1
  rw [this] at h
  cases h
theorem permB_dup {n k : Nat} {L : List Int} {y : Int} (hy : L[k]? = some y) (h : hasI y (L.take k) = true) : false = permB n L := tt_false fun hp => by
  have hm := hasI_iff.1 h
  obtain ⟨i, hi⟩ := List.getElem?_of_mem hm
  rw [List.getElem?_take] at hi
  split at hi
  · have := nodup_at hp.2.2 hi hy
    omega
  · cases hi
theorem permB_yes {n : Nat} {L : List Int} (h1 : L.length = n) (h2 : allIn 0 ((n : Int) - 1) L = true) (h3 : L.Nodup) : true = permB n L := tt_true ⟨h1, allIn_iff.1 h2, h3⟩
theorem take_nodup {k : Nat} {L : List Int} {y : Int} (h : (L.take k).Nodup) (hy : L[k]? = some y) (hm : hasI y (L.take k) = false) : (L.take (k + 1)).Nodup := by
  rw [List.take_add_one, hy]
  show (L.take k ++ [y]).Nodup
  rw [List.nodup_append]
  refine ⟨h, by simp, fun a ha b hb => ?_⟩
  rw [List.mem_singleton] at hb
  subst hb
  intro e
  subst e
  rw [hasI_iff.2 ha] at hm
  cases hm
theorem inL_nil (n : Nat) (L : List Int) : inL n (L.take 0) = List.replicate n false := by
  unfold inL
  rw [List.take_zero]
  exact List.eq_replicate_iff.2 ⟨by simp, fun b hb => by obtain ⟨y, -, rfl⟩ := List.mem_map.1 hb; rfl⟩
theorem gB_inL {n x : Nat} {L : List Int} (hx : x < n) : gB (inL n L) x = hasI (x : Int) L := by
  unfold gB inL
  rw [List.getD_eq_getElem?_getD, List.getElem?_map, List.getElem?_range hx]
  rfl
set_option maxHeartbeats 2000000 in
theorem isOrder_any (A : Option Addr) (m c n : Nat) (L : List Int) (w : World) (h : RdL RI w A m L) (hn : n ≤ 1000) :
    Calls Tryz.prog 29 #[.slice A m c, .int .i64 n] w (Bl w (.bool (permB n L))) := by
  have hle := h.le
  have HL := Lib.hid h.len
  by_cases hmn : m = n
  case neg =>
    have hq : ((m : Int) != (n : Int)) = true := by simp; omega
    have HR : Hid (false = permB n L) := permB_len (by rw [HL.out]; exact hmn)
    go_enter Tryz.func29, Tryz.ntmps29
    go_wp2_with fail
    go_ret
    exact ⟨ret_bool HR.out, Below.refl _ _⟩
  subst hmn
  have hq : ((m : Int) != (m : Int)) = false := by simp
  obtain ⟨el, HEL⟩ : ∃ b, Hid (allIn 0 ((m : Int) - 1) L = b) := ⟨_, rfl⟩
  have HE := Lib.hid (inSize_any A m c L m w h)
  rw [HEL.out] at HE
  rcases el with _ | _
  · have HR := Lib.hid (permB_out HEL.out)
    go_enter Tryz.func29, Tryz.ntmps29
    go_wp2_with fail
    refine HE.out.mono ?_
    rintro e w' ⟨rfl, rfl⟩
    go_wp2_with fail
    go_ret
    exact ⟨ret_bool HR.out, Below.refl _ _⟩
  have HS : Hid (∀ v ∈ L, 0 ≤ v ∧ v ≤ (m : Int) - 1) := allIn_iff.1 HEL.out
  go_enter Tryz.func29, Tryz.ntmps29
  go_wp2_with fail
  refine HE.out.mono ?_
  rintro e w' ⟨rfl, rfl⟩
  obtain ⟨wo, HWO⟩ : ∃ wo : World, wo = w := ⟨_, rfl⟩
  subst HWO
  go_wp2_with (at_make; refine make_bl wo rfl _ _ rfl m rfl rfl (by omega) ?_; intro w1 hown1 hg1)
  have hb1 := (Below.refl wo.heap.size wo).grown hg1 (Nat.le_refl _) (by simp)
  clear hg1
  go_loopw [22] (fun i wr => ∃ k : Nat, k ≤ m ∧ i = .int .i64 k ∧ wr.ownsRow wo.heap.size 4 1 (.slice (some ⟨wo.heap.size, 0, none⟩) m m) m (bls (inL m (L.take k))) ∧ Hid ((L.take k).Nodup) ∧ Below wo.heap.size wo wr) (fun i _ => m - (intOf i).toNat)
  case atStart =>
    refine ⟨0, Nat.zero_le _, rfl, ?_, (by show (L.take 0).Nodup; simp), hb1⟩
    rw [inL_nil]
    exact hown1
  case round =>
    clear hown1 hb1
    obtain ⟨k, hk, rfl, hown, HND, hTr⟩ := hrel
    by_cases hlt : k < m
    · have hk0 : (0 : Int) ≤ (k : Int) := by omega
      have hk1 : (k : Int) < (m : Int) := by omega
      obtain ⟨b, o, u, v, rfl, hc, ⟨rfl, hv0, hv1⟩, -, hx⟩ := h.at hlt
      have hvi := HS.out v (List.mem_of_getElem? hx)
      obtain ⟨x, rfl⟩ := Int.eq_ofNat_of_zero_le hvi.1
      have hxn : x < m := by omega
      have HSET := Lib.hid (inL_set hx hxn)
      have HX := Lib.hid hx
      replace hc := keepc hTr hc
      obtain ⟨sb, HSB⟩ : ∃ b, Hid (hasI (x : Int) (L.take k) = b) := ⟨_, rfl⟩
      have hcell : wr.cell? ⟨wo.heap.size, x, none⟩ = some (.bool sb) := by rw [hown.cellAt x (by omega), bls_get (by rw [inL_len]; exact hxn), gB_inL hxn, HSB.out]
      have hfz := hown.frozenAt x
      have hst := (hown.stored x (.bool true)).1
      rw [bls_set, HSET.out] at hst
      have hx0 : (0 : Int) ≤ (x : Int) := by omega
      have hx1 : (x : Int) < (m : Int) := by omega
      clear hx hown
      rcases sb with _ | _
      · have HN2 := Lib.hid (take_nodup HND.out HX.out HSB.out)
        go_wp2_with fail
        go_roundw
        case rel => exact ⟨k + 1, by omega, by go_num, hst, HN2, hTr.setCell (Nat.le_refl _) _⟩
        case measure => simp [intOf]; try omega
      · have HR : Hid (false = permB m L) := permB_dup HX.out HSB.out
        go_wp2_with fail
        go_ret
        exact ⟨ret_bool HR.out, hTr⟩
    · have hk1 : ¬ (k : Int) < (m : Int) := by omega
      have HR : Hid (true = permB m L) := permB_yes HL.out HEL.out (by have := HND.out; rwa [List.take_of_length_le (by rw [HL.out]; omega)] at this)
      go_wp2_with fail
      go_ret
      exact ⟨ret_bool HR.out, hTr⟩
set_option maxHeartbeats 2000000 in
theorem l2PermB_any (A : Option Addr) (m c n : Nat) (L : List Int) (w : World) (h : RdL RI w A m L) (hn : n ≤ 1000) :
    Calls Tryz.prog 23 #[.slice A m c, .int .i64 n] w (Bl w (.bool (permB n L))) := by
  have hle := h.le
  have HL := Lib.hid h.len
  by_cases hmn : m = n
  case neg =>
    have hq : ((m : Int) != (n : Int)) = true := by simp; omega
    have HR : Hid (false = permB n L) := permB_len (by rw [HL.out]; exact hmn)
    go_enter Tryz.func23, Tryz.ntmps23
    go_wp2_with fail
    go_ret
    exact ⟨ret_bool HR.out, Below.refl _ _⟩
  subst hmn
  have hq : ((m : Int) != (m : Int)) = false := by simp
  obtain ⟨el, HEL⟩ : ∃ b, Hid (allIn 0 ((m : Int) - 1) L = b) := ⟨_, rfl⟩
  have HE := Lib.hid (l2Elements_any A m c L m w h (by omega) (by omega))
  rw [HEL.out] at HE
  rcases el with _ | _
  · have HR := Lib.hid (permB_out HEL.out)
    go_enter Tryz.func23, Tryz.ntmps23
    go_wp2_with fail
    refine HE.out.mono ?_
    rintro e w' ⟨rfl, rfl⟩
    go_wp2_with fail
    go_ret
    exact ⟨ret_bool HR.out, Below.refl _ _⟩
  have HS : Hid (∀ v ∈ L, 0 ≤ v ∧ v ≤ (m : Int) - 1) := allIn_iff.1 HEL.out
  go_enter Tryz.func23, Tryz.ntmps23
  go_wp2_with fail
  refine HE.out.mono ?_
  rintro e w' ⟨rfl, rfl⟩
  obtain ⟨wo, HWO⟩ : ∃ wo : World, wo = w := ⟨_, rfl⟩
  subst HWO
  go_wp2_with (at_make; refine make_bl wo rfl _ _ rfl m rfl rfl (by omega) ?_; intro w1 hown1 hg1)
  have hb1 := (Below.refl wo.heap.size wo).grown hg1 (Nat.le_refl _) (by simp)
  clear hg1
  go_loopw [6] (fun i wr => ∃ k : Nat, k ≤ m ∧ i = .int .i64 k ∧ wr.ownsRow wo.heap.size 4 1 (.slice (some ⟨wo.heap.size, 0, none⟩) m m) m (bls (inL m (L.take k))) ∧ Hid ((L.take k).Nodup) ∧ Below wo.heap.size wo wr) (fun i _ => m - (intOf i).toNat)
  case atStart =>
    refine ⟨0, Nat.zero_le _, rfl, ?_, (by show (L.take 0).Nodup; simp), hb1⟩
    rw [inL_nil]
    exact hown1
  case round =>
    clear hown1 hb1
    obtain ⟨k, hk, rfl, hown, HND, hTr⟩ := hrel
    by_cases hlt : k < m
    · have hk0 : (0 : Int) ≤ (k : Int) := by omega
      have hk1 : (k : Int) < (m : Int) := by omega
      obtain ⟨b, o, u, v, rfl, hc, ⟨rfl, hv0, hv1⟩, -, hx⟩ := h.at hlt
      have hvi := HS.out v (List.mem_of_getElem? hx)
      obtain ⟨x, rfl⟩ := Int.eq_ofNat_of_zero_le hvi.1
      have hxn : x < m := by omega
      have HSET := Lib.hid (inL_set hx hxn)
      have HX := Lib.hid hx
      replace hc := keepc hTr hc
      obtain ⟨sb, HSB⟩ : ∃ b, Hid (hasI (x : Int) (L.take k) = b) := ⟨_, rfl⟩
      have hcell : wr.cell? ⟨wo.heap.size, x, none⟩ = some (.bool sb) := by rw [hown.cellAt x (by omega), bls_get (by rw [inL_len]; exact hxn), gB_inL hxn, HSB.out]
      have hfz := hown.frozenAt x
      have hst := (hown.stored x (.bool true)).1
      rw [bls_set, HSET.out] at hst
      have hx0 : (0 : Int) ≤ (x : Int) := by omega
      have hx1 : (x : Int) < (m : Int) := by omega
      clear hx hown
      rcases sb with _ | _
      · have HN2 := Lib.hid (take_nodup HND.out HX.out HSB.out)
        go_wp2_with fail
        go_roundw
        case rel => exact ⟨k + 1, by omega, by go_num, hst, HN2, hTr.setCell (Nat.le_refl _) _⟩
        case measure => simp [intOf]; try omega
      · have HR : Hid (false = permB m L) := permB_dup HX.out HSB.out
        go_wp2_with fail
        go_ret
        exact ⟨ret_bool HR.out, hTr⟩
    · have hk1 : ¬ (k : Int) < (m : Int) := by omega
      have HR : Hid (true = permB m L) := permB_yes HL.out HEL.out (by have := HND.out; rwa [List.take_of_length_le (by rw [HL.out]; omega)] at this)
      go_wp2_with fail
      go_ret
      exact ⟨ret_bool HR.out, hTr⟩
/-! ## inverse, compose -/
theorem inv_done {n : Nat} {s Q : List Int} (hs : PermL n s) (hl : Q.length = n) (h : ∀ x, x < n → Q[nmAt s x]? = some (x : Int)) : Q = inv n s := by
  refine perm_ext (n := n) hl (inv_perm hs).1 fun y hy => ?_
  obtain ⟨x, hx, e⟩ := hs.surj hy
  have h1 := h x hx
  have e2 : nmI s (x : Int) = (y : Int) := by rw [← nmAt_nmI hs hx, e]
  have e3 := inv_at hs hx
  rw [e2] at e3
  rw [e3]
  rw [e] at h1
  have := nmI_get h1
  unfold nmI at this ⊢
  simpa using this
theorem set_inv {n k : Nat} {s Q : List Int} (hs : PermL n s) (hl : Q.length = n) (hk : k < n) (h : ∀ x, x < k → Q[nmAt s x]? = some (x : Int)) : ∀ x, x < k + 1 → (Q.set (nmAt s k) (k : Int))[nmAt s x]? = some (x : Int) := fun x hx => by
  rw [List.getElem?_set]
  by_cases e : x = k
  · subst e
    rw [if_pos rfl, if_pos (by have := nmAt_lt hs hk; omega)]
  · rw [if_neg fun e2 => e ?_]
    · exact h x (by omega)
    · have h1 := nmAt_nmI hs (x := x) (by omega)
      have h2 := nmAt_nmI hs hk
      have := nmI_inj hs (a := (x : Int)) (b := (k : Int)) (by omega) (by omega) (by omega) (by omega) (by rw [← h1, ← h2, e2])
      omega
theorem zeros_int (n : Nat) : List.replicate n (Value.int .i64 0) = ints (List.replicate n 0) := by simp [ints]
theorem own_cellI {w : World} {base g n c k : Nat} {Q : List Int} (h : w.ownsRow base 3 1 (.slice (some ⟨g, 0, none⟩) n c) n (ints Q)) (hl : Q.length = n) (hk : k < n) : ∃ z, w.cell? ⟨g, k, none⟩ = some (.int .i64 z) := by
  refine ⟨Q[k]'(by omega), ?_⟩
  rw [h.cellAt k (by omega)]
  unfold ints
  rw [List.getElem?_map, List.getElem?_eq_getElem (by omega)]
  rfl
set_option maxHeartbeats 2000000 in
theorem inverse_any (A : Option Addr) (n c : Nat) (s : List Int) (w : World) (h : RdL RI w A n s) (hs : PermL n s) (hn : n ≤ 1000) :
    Calls Tryz.prog 66 #[.slice A n c] w (OwI w (inv n s)) := by
  have hle := h.le
  have HS := Lib.hid hs
  have HLI : Hid ((inv n s).length = n) := (inv_perm hs).1
  clear hs
  go_enter Tryz.func66, Tryz.ntmps66
  go_wp2_with (at_make; refine make_ints w rfl _ _ rfl n rfl rfl (by omega) ?_; intro w1 hown1 hg1)
  have hb1 := (Below.refl w.heap.size w).grown hg1 (Nat.le_refl _) (by simp)
  rw [zeros_int] at hown1
  clear hg1
  go_loopw [11] (fun i wr => ∃ (k : Nat) (Q : List Int), k ≤ n ∧ i = .int .i64 k ∧ wr.ownsRow w.heap.size 3 1 (.slice (some ⟨w.heap.size, 0, none⟩) n n) n (ints Q) ∧ Hid (Q.length = n) ∧ Hid (∀ x, x < k → Q[nmAt s x]? = some (x : Int)) ∧ Below w.heap.size w wr) (fun i _ => n - (intOf i).toNat)
  case atStart => exact ⟨0, _, Nat.zero_le _, rfl, hown1, List.length_replicate .., (fun x hx => absurd hx (by omega)), hb1⟩
  case round =>
    clear hown1 hb1
    obtain ⟨k, Q, hk, rfl, hown, HQL, HQ, hTr⟩ := hrel
    by_cases hlt : k < n
    · have hk0 : (0 : Int) ≤ (k : Int) := by omega
      have hk1 : (k : Int) < (n : Int) := by omega
      obtain ⟨b, o, u, v, rfl, hc, ⟨rfl, hv0, hv1⟩, -, hx⟩ := h.at hlt
      obtain ⟨y, hy, hyn, hye⟩ := HS.out.at hlt
      obtain rfl : v = (y : Int) := by rw [hx] at hy; injection hy
      replace hc := keepc hTr hc
      have hfz := hown.frozenAt y
      obtain ⟨z0, hz0⟩ := own_cellI hown HQL.out hyn
      have hst := (hown.stored y (.int .i64 (k : Int))).1
      rw [ints_set] at hst
      have HQ2 : Hid (∀ x, x < k + 1 → (Q.set y (k : Int))[nmAt s x]? = some (x : Int)) := by
        have := set_inv HS.out HQL.out hlt HQ.out
        rwa [hye] at this
      have HQL2 : Hid ((Q.set y (k : Int)).length = n) := by show _ = _; rw [List.length_set]; exact HQL.out
      have hx0 : (0 : Int) ≤ (y : Int) := by omega
      have hx1 : (y : Int) < (n : Int) := by omega
      clear hx hown hy hye
      go_wp2_with fail
      go_roundw
      case rel => exact ⟨k + 1, _, by omega, by go_num, hst, HQL2, HQ2, hTr.setCell (Nat.le_refl _) _⟩
      case measure => simp [intOf]; try omega
    · obtain rfl : k = n := by omega
      have hk1 : ¬ (k : Int) < (k : Int) := by omega
      have HD := Lib.hid (inv_done HS.out HQL.out HQ.out)
      go_wp2_with fail
      go_ret
      exact ⟨some ⟨w.heap.size, 0, none⟩, k, by rw [HLI.out]; rfl, by rw [HLI.out, ← HD.out]; exact hown, hTr⟩
theorem comp_done {V f Q : List Int} (hl : Q.length = V.length) (h : ∀ x, x < V.length → Q[x]? = some (nmI f (V.getD x 0))) : Q = comp V f := by
  apply List.ext_getElem?
  intro i
  unfold comp
  rw [List.getElem?_map]
  by_cases hi : i < V.length
  · rw [h i hi, List.getElem?_eq_getElem hi, List.getD_eq_getElem?_getD, List.getElem?_eq_getElem hi]
    rfl
  · rw [List.getElem?_eq_none (by omega), List.getElem?_eq_none (by omega)]
    rfl
theorem set_comp {n k : Nat} {Q : List Int} {F : Nat → Int} (hl : Q.length = n) (hk : k < n) (h : ∀ x, x < k → Q[x]? = some (F x)) : ∀ x, x < k + 1 → (Q.set k (F k))[x]? = some (F x) := fun x hx => by
  rw [List.getElem?_set]
  by_cases e : k = x
  · subst e
    rw [if_pos rfl, if_pos (by omega)]
  · rw [if_neg e]
    exact h x (by omega)
set_option maxHeartbeats 2000000 in
theorem compose_any (A C : Option Addr) (n c m d : Nat) (V f : List Int) (w : World) (h : RdL RI w A n V) (h' : RdL RI w C m f) (hV : InL m V) (hn : n ≤ 1000) :
    Calls Tryz.prog 67 #[.slice A n c, .slice C m d] w (OwI w (comp V f)) := by
  have hle := h.le
  have hle' := h'.le
  have HV := Lib.hid hV
  have HL := Lib.hid h.len
  have HL' := Lib.hid h'.len
  have HLC : Hid ((comp V f).length = n) := by show _ = _; rw [comp_len]; exact h.len
  clear hV
  go_enter Tryz.func67, Tryz.ntmps67
  go_wp2_with (at_make; refine make_ints w rfl _ _ rfl n rfl rfl (by omega) ?_; intro w1 hown1 hg1)
  have hb1 := (Below.refl w.heap.size w).grown hg1 (Nat.le_refl _) (by simp)
  rw [zeros_int] at hown1
  clear hg1
  go_loopw [13] (fun i wr => ∃ (k : Nat) (Q : List Int), k ≤ n ∧ i = .int .i64 k ∧ wr.ownsRow w.heap.size 3 1 (.slice (some ⟨w.heap.size, 0, none⟩) n n) n (ints Q) ∧ Hid (Q.length = n) ∧ Hid (∀ x, x < k → Q[x]? = some (nmI f (V.getD x 0))) ∧ Below w.heap.size w wr) (fun i _ => n - (intOf i).toNat)
  case atStart => exact ⟨0, _, Nat.zero_le _, rfl, hown1, List.length_replicate .., (fun x hx => absurd hx (by omega)), hb1⟩
  case round =>
    clear hown1 hb1
    obtain ⟨k, Q, hk, rfl, hown, HQL, HQ, hTr⟩ := hrel
    by_cases hlt : k < n
    · have hk0 : (0 : Int) ≤ (k : Int) := by omega
      have hk1 : (k : Int) < (n : Int) := by omega
      obtain ⟨b, o, u, v, rfl, hc, ⟨rfl, hv0, hv1⟩, -, hx⟩ := h.at hlt
      have hvi := HV.out v (List.mem_of_getElem? hx)
      obtain ⟨y, rfl⟩ := Int.eq_ofNat_of_zero_le hvi.1
      have hym : y < m := by omega
      obtain ⟨b2, o2, u2, z, rfl, hc2, ⟨rfl, hz0, hz1⟩, -, hx2⟩ := h'.at hym
      replace hc := keepc hTr hc
      replace hc2 := keepc hTr hc2
      have hfz := hown.frozenAt k
      obtain ⟨z0, hcz0⟩ := own_cellI hown HQL.out hlt
      have hst := (hown.stored k (.int .i64 z)).1
      rw [ints_set] at hst
      have eF : nmI f (V.getD k 0) = z := by
        rw [List.getD_eq_getElem?_getD, hx]
        unfold nmI
        show f.getD (y : Int).toNat 0 = z
        rw [Int.toNat_natCast, List.getD_eq_getElem?_getD, hx2]
        rfl
      have HQ2 : Hid (∀ x, x < k + 1 → (Q.set k z)[x]? = some (nmI f (V.getD x 0))) := by
        have := set_comp (F := fun x => nmI f (V.getD x 0)) HQL.out hlt HQ.out
        simp only [eF] at this
        exact this
      have HQL2 : Hid ((Q.set k z).length = n) := by show _ = _; rw [List.length_set]; exact HQL.out
      have hx0 : (0 : Int) ≤ (y : Int) := by omega
      have hx1 : (y : Int) < (m : Int) := by omega
      clear hx hown hx2 eF
      go_wp2_with fail
      go_roundw
      case rel => exact ⟨k + 1, _, by omega, by go_num, hst, HQL2, HQ2, hTr.setCell (Nat.le_refl _) _⟩
      case measure => simp [intOf]; try omega
    · obtain rfl : k = n := by omega
      have hk1 : ¬ (k : Int) < (k : Int) := by omega
      have HD : Hid (Q = comp V f) := comp_done (by rw [HQL.out, HL.out]) (by rw [HL.out]; exact HQ.out)
      go_wp2_with fail
      go_ret
      exact ⟨some ⟨w.heap.size, 0, none⟩, k, by rw [HLC.out]; rfl, by rw [HLC.out, ← HD.out]; exact hown, hTr⟩
/-! ## kernels -/
theorem kerL_done {q Q : List Int} (hl : Q.length = q.length) (h : ∀ x, x < q.length → Q[x]? = some ((posN q (q.getD x 0) : Nat) : Int)) : Q = kerL q := by
  apply List.ext_getElem?
  intro i
  unfold kerL
  rw [List.getElem?_map]
  by_cases hi : i < q.length
  · rw [h i hi, List.getElem?_eq_getElem hi, List.getD_eq_getElem?_getD, List.getElem?_eq_getElem hi]
    rfl
  · rw [List.getElem?_eq_none (by omega), List.getElem?_eq_none (by omega)]
    rfl
def valAt (w : World) (g k : Nat) : Nat := match w.cell? ⟨g, k, none⟩ with | some (.int .i64 y) => y.toNat | _ => 0
theorem valAt_eq {w : World} {g k y : Nat} (h : w.cell? ⟨g, k, none⟩ = some (.int .i64 (y : Int))) : valAt w g k = y := by unfold valAt; rw [h]; simp
set_option maxHeartbeats 4000000 in
theorem kernelOf_any (A : Option Addr) (n c : Nat) (q : List Int) (w : World) (h : RdL RI w A n q) (hn : n ≤ 1000) :
    Calls Tryz.prog 69 #[.slice A n c] w (OwI w (kerL q)) := by
  have hle := h.le
  have HL := Lib.hid h.len
  have HLK : Hid ((kerL q).length = n) := by show _ = _; rw [kerL_len]; exact h.len
  go_enter Tryz.func69, Tryz.ntmps69
  go_wp2_with (at_make; refine make_ints w rfl _ _ rfl n rfl rfl (by omega) ?_; intro w1 hown1 hg1)
  have hb1 := (Below.refl w.heap.size w).grown hg1 (Nat.le_refl _) (by simp)
  rw [zeros_int] at hown1
  clear hg1
  go_loopw [10] (fun i wr => ∃ (k : Nat) (Q : List Int), k ≤ n ∧ i = .int .i64 k ∧ wr.ownsRow w.heap.size 3 1 (.slice (some ⟨w.heap.size, 0, none⟩) n n) n (ints Q) ∧ Hid (Q.length = n) ∧ Hid (∀ x, x < k → Q[x]? = some ((posN q (q.getD x 0) : Nat) : Int)) ∧ Below w.heap.size w wr) (fun i _ => n - (intOf i).toNat)
  case atStart => exact ⟨0, _, Nat.zero_le _, rfl, hown1, List.length_replicate .., (fun x hx => absurd hx (by omega)), hb1⟩
  case round =>
    clear hown1 hb1
    obtain ⟨k, Q, hk, rfl, hown, HQL, HQ, hTr⟩ := hrel
    by_cases hlt : k < n
    · have hk0 : (0 : Int) ≤ (k : Int) := by omega
      have hk1 : (k : Int) < (n : Int) := by omega
      obtain ⟨b, o, u, v, rfl, hc, ⟨rfl, hv0, hv1⟩, -, hx⟩ := h.at hlt
      have hfz := hown.frozenAt k
      obtain ⟨z0, hcz0⟩ := own_cellI hown HQL.out hlt
      have hst := (hown.stored k (.int .i64 0)).1
      rw [ints_set] at hst
      have HX := Lib.hid hx
      have HV : Hid (q.getD k 0 = v) := by show _ = _; rw [List.getD_eq_getElem?_getD, hx]; rfl
      have T2 : Below w.heap.size w (wr.setCell ⟨w.heap.size, k, none⟩ (.int .i64 0)) := hTr.setCell (Nat.le_refl _) _
      have HQK : Hid (∀ y : Nat, ∀ x, x < k → (Q.set k (y : Int))[x]? = some ((posN q (q.getD x 0) : Nat) : Int)) := fun y x hx => by
        rw [List.getElem?_set, if_neg (by omega)]
        exact HQ.out x hx
      clear hx hown hc
      go_wp2_with fail
      go_loopw [28] (fun _ wi => ∃ y : Nat, y ≤ k ∧ wi.ownsRow w.heap.size 3 1 (.slice (some ⟨w.heap.size, 0, none⟩) n n) n (ints (Q.set k (y : Int))) ∧ Hid (∀ z, z < y → q[z]? ≠ some v) ∧ Below w.heap.size w wi) (fun _ wi => n - valAt wi w.heap.size k)
      case atStart => exact ⟨0, Nat.zero_le _, hst, (fun z hz => absurd hz (by omega)), T2⟩
      case round =>
        clear hst T2
        obtain ⟨y, hy, hown, HB, hTi⟩ := hrel
        have hyn : y < n := by omega
        obtain ⟨uk, vk, hck, ⟨rfl, -, -⟩, -, hxk⟩ := (h.next stab_RI hTi).at' hlt
        obtain rfl : vk = v := by rw [HX.out] at hxk; injection hxk with e; exact e.symm
        obtain ⟨uy, vy, hcy, ⟨rfl, -, -⟩, -, hxy⟩ := (h.next stab_RI hTi).at' hyn
        have hcell : wr.cell? ⟨w.heap.size, k, none⟩ = some (.int .i64 (y : Int)) := by
          rw [hown.cellAt k (by omega)]
          unfold ints
          rw [List.getElem?_map, List.getElem?_set, if_pos rfl, if_pos (by rw [HQL.out]; exact hlt)]
          rfl
        have hy0 : (0 : Int) ≤ (y : Int) := by omega
        have hy1 : (y : Int) < (n : Int) := by omega
        have hfz2 := hown.frozenAt k
        have HM := Lib.hid (valAt_eq hcell)
        obtain ⟨ne, hne⟩ : ∃ b, (vy != vk) = b := ⟨_, rfl⟩
        have HNE := Lib.hid hne
        have HXY := Lib.hid hxy
        clear hxk hxy
        go_wp2_with fail
        go_quiet (fail)
        rcases ne with _ | _
        · have HEQ : Hid (vy = vk) := by have := HNE.out; show vy = vk; simpa using this
          have HP : Hid (posN q (q.getD k 0) = y) := by
            show _ = _
            rw [HV.out]
            exact posN_first (by rw [HXY.out, HEQ.out]) HB.out
          have HQ2 : Hid (∀ x, x < k + 1 → (Q.set k (y : Int))[x]? = some ((posN q (q.getD x 0) : Nat) : Int)) := fun x hx => by
            by_cases e : x = k
            · subst e
              rw [List.getElem?_set, if_pos rfl, if_pos (by rw [HQL.out]; exact hlt), HP.out]
            · exact HQK.out y x (by omega)
          have HQL2 : Hid ((Q.set k (y : Int)).length = n) := by show _ = _; rw [List.length_set]; exact HQL.out
          go_wp2_with fail
          go_roundw
          case rel => exact ⟨k + 1, _, by omega, by go_num, by first | exact hown | exact own_next hown (below_drewN (Below.refl _ _) _), HQL2, HQ2, by first | exact hTi | exact below_drewN hTi _⟩
          case measure => simp [intOf]; try omega
        · have HNQ : Hid (¬ vy = vk) := by have := HNE.out; show ¬ vy = vk; simpa using this
          have hyk : y ≠ k := fun e => by
            subst e
            have := HXY.out
            rw [HX.out] at this
            injection this with this
            exact HNQ.out this.symm
          have hst2 := (hown.stored k (.int .i64 ((y : Int) + 1))).1
          rw [ints_set, List.set_set] at hst2
          have HB2 : Hid (∀ z, z < y + 1 → q[z]? ≠ some vk) := fun z hz => by
            by_cases e : z = y
            · subst e
              rw [HXY.out]
              intro e2
              injection e2 with e2
              exact HNQ.out e2
            · exact HB.out z (by omega)
          have hc2 : (wr.setCell ⟨w.heap.size, k, none⟩ (.int .i64 ((y : Int) + 1))).cell? ⟨w.heap.size, k, none⟩ = some (.int .i64 ((y + 1 : Nat) : Int)) := by
            rw [hst2.cellAt k (by omega)]
            unfold ints
            rw [List.getElem?_map, List.getElem?_set, if_pos rfl, if_pos (by rw [HQL.out]; exact hlt)]
            show some _ = some _
            congr 1
          have HM2 := Lib.hid (valAt_eq hc2)
          have hw64 : IntKind.i64.wrap ((y : Int) + 1) = (y : Int) + 1 := IntWalk.i64_in _ (by omega)
          clear hc2
          go_wp2_with fail
          go_roundw
          case rel => exact ⟨y + 1, by omega, by push_cast; first | exact hst2 | exact own_next hst2 (below_drewN (Below.refl _ _) _), HB2, by first | exact hTi.setCell (Nat.le_refl _) _ | exact (below_drewN hTi _).setCell (Nat.le_refl _) _⟩
          case measure =>
            rw [HM.out]
            refine Nat.lt_of_le_of_lt (Nat.le_of_eq (congrArg (fun z => n - z) (show valAt _ w.heap.size k = y + 1 from HM2.out))) ?_
            show n - (y + 1) < n - y
            omega
    · obtain rfl : k = n := by omega
      have hk1 : ¬ (k : Int) < (k : Int) := by omega
      have HD : Hid (Q = kerL q) := kerL_done (by rw [HQL.out, HL.out]) (by rw [HL.out]; exact HQ.out)
      go_wp2_with fail
      go_ret
      exact ⟨some ⟨w.heap.size, 0, none⟩, k, by rw [HLK.out]; rfl, by rw [HLK.out, ← HD.out]; exact hown, hTr⟩
set_option maxHeartbeats 4000000 in
theorem l7Kernel_any (A : Option Addr) (n c : Nat) (q : List Int) (w : World) (h : RdL RI w A n q) (hn : n ≤ 1000) :
    Calls Tryz.prog 54 #[.slice A n c] w (OwI w (kerL q)) := by
  have hle := h.le
  have HL := Lib.hid h.len
  have HLK : Hid ((kerL q).length = n) := by show _ = _; rw [kerL_len]; exact h.len
  have hT := below_box w (.cells #[] 3)
  have hO := World.ownsRow_lit (base := w.heap.size) (e := 3) (size := 1) w #[] 0 (Nat.le_refl _) (Nat.zero_le _) rfl
  go_enter Tryz.func54, Tryz.ntmps54
  go_wp2_with fail
  go_loopw [3, 4] (fun s i wr => ∃ (k : Nat) (A1 : Option Addr) (c1 : Nat), k ≤ n ∧ i = .int .i64 k ∧ s = .slice A1 k c1 ∧ wr.ownsRow w.heap.size 3 1 (.slice A1 k c1) k (ints ((kerL q).take k)) ∧ Below w.heap.size w wr) (fun _ i _ => n - (intOf i).toNat)
  case atStart => exact ⟨0, _, _, Nat.zero_le _, rfl, rfl, hO, hT⟩
  case round =>
    clear hO hT
    obtain ⟨k, A1, c1, hk, rfl, rfl, hown, hTr⟩ := hrel
    by_cases hlt : k < n
    · have hk0 : (0 : Int) ≤ (k : Int) := by omega
      have hk1 : (k : Int) < (n : Int) := by omega
      obtain ⟨b, o, u, v, rfl, hc, ⟨rfl, hv0, hv1⟩, -, hx⟩ := (h.next stab_RI hTr).at hlt
      have HX := Lib.hid hx
      have HRD := Lib.hid (h.next stab_RI hTr)
      clear hx
      go_wp2_with fail
      go_loopw [5] (fun j wi => ∃ y : Nat, y ≤ k ∧ j = .int .i64 (y : Int) ∧ Hid (∀ z, z < y → q[z]? ≠ some v) ∧ wi.ownsRow w.heap.size 3 1 (.slice A1 k c1) k (ints ((kerL q).take k)) ∧ Below w.heap.size w wi) (fun j _ => n - (intOf j).toNat)
      case atStart => exact ⟨0, Nat.zero_le _, rfl, (fun z hz => absurd hz (by omega)), hown, hTr⟩
      case round =>
        clear hown hTr hc HRD
        obtain ⟨y, hy, rfl, HB, hown, hTi⟩ := hrel
        have hyn : y < n := by omega
        obtain ⟨uk, vk, hck, ⟨rfl, -, -⟩, -, hxk⟩ := (h.next stab_RI hTi).at' hlt
        obtain rfl : vk = v := by rw [HX.out] at hxk; injection hxk with e; exact e.symm
        obtain ⟨uy, vy, hcy, ⟨rfl, -, -⟩, -, hxy⟩ := (h.next stab_RI hTi).at' hyn
        have hy0 : (0 : Int) ≤ (y : Int) := by omega
        have hy1 : (y : Int) < (n : Int) := by omega
        obtain ⟨ne, hne⟩ : ∃ b, (vy != vk) = b := ⟨_, rfl⟩
        have HNE := Lib.hid hne
        have HXY := Lib.hid hxy
        have hz := hTi.size
        clear hxy hxk
        go_wp2_with fail
        go_quiet (fail)
        rcases ne with _ | _
        · have HEQ : Hid (vy = vk) := by have := HNE.out; show vy = vk; simpa using this
          have HS : Hid ((kerL q).take (k + 1) = (kerL q).take k ++ [(y : Int)]) := by
            show _ = _
            have : (kerL q)[k]? = some (y : Int) := by
              unfold kerL
              rw [List.getElem?_map, HX.out]
              show some ((posN q vk : Nat) : Int) = _
              rw [posN_first (by rw [HXY.out, HEQ.out]) HB.out]
            rw [List.take_add_one, this]
            rfl
          go_wp2_with (at_builtin; refine app1 _ rfl _ _ 25 3 rfl (.int .i64 0) 8 Tryz.underlying25 info_int rfl (by decide) w.heap.size k c1 A1 (ints ((kerL q).take k)) rfl (by first | exact hown | exact own_next hown (below_drewN (Below.refl _ _) _)) (.int .i64 (y : Int)) rfl rfl (by omega) (by first | exact hz | (simp; omega)) ?_; intro A2 c2 w2 hown2 hg2 hb2)
          go_roundw
          case rel => exact ⟨k + 1, A2, c2, by omega, by go_num, rfl, by rw [HS.out, ints_app]; exact hown2, by first | exact hTi.trans hb2 | exact (below_drewN hTi _).trans hb2⟩
          case measure => simp [intOf]; try omega
        · have HNQ : Hid (¬ vy = vk) := by have := HNE.out; show ¬ vy = vk; simpa using this
          have hyk : y ≠ k := fun e => by
            subst e
            have := HXY.out
            rw [HX.out] at this
            injection this with this
            exact HNQ.out this.symm
          have HB2 : Hid (∀ z, z < y + 1 → q[z]? ≠ some vk) := fun z hz => by
            by_cases e : z = y
            · subst e
              rw [HXY.out]
              intro e2
              injection e2 with e2
              exact HNQ.out e2
            · exact HB.out z (by omega)
          go_wp2_with fail
          go_roundw
          case rel => exact ⟨y + 1, by omega, by go_num, HB2, by first | exact hown | exact own_next hown (below_drewN (Below.refl _ _) _), by first | exact hTi | exact below_drewN hTi _⟩
          case measure => simp [intOf]; try omega
    · obtain rfl : k = n := by omega
      have hk1 : ¬ (k : Int) < (k : Int) := by omega
      rw [List.take_of_length_le (by rw [HLK.out]; exact Nat.le_refl _)] at hown
      go_wp2_with fail
      go_ret
      exact ⟨A1, c1, by rw [HLK.out]; rfl, by rw [HLK.out]; exact hown, hTr⟩
end Go.Proofs.YtidjocikbmkjbaaGreat
