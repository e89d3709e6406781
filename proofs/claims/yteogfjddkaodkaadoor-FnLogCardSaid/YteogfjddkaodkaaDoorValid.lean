
/- Walks: is a log valid, in the program and in the reference; the harness's size and copy of a log. -/
import Derived.Test.YteogfjddkaodkaaDoorRecov
namespace Go.Proofs.YteogfjddkaodkaaDoor
open Go.RowKit

set_option maxHeartbeats 400000 in
theorem toLog_any (d p : ByteArray) (n : Int) (w : World) :
    Calls Tryd.prog 22 #[logV d p n] w (Bl w (logV d p n)) := by
  go_enter Tryd.func22, Tryd.ntmps22
  go_wp2
  exact bodyPost_ret (v := logV d p n) (by simp [results, Tryd.results22, go_sem]) rfl ⟨rfl, below_box3 _ _ _ _⟩
set_option maxHeartbeats 400000 in
theorem szLog_any (d p : ByteArray) (n left : Int) (w : World) (hc : d.size ≤ maxLen) (hr : p.size ≤ maxLen) (h0 : 0 ≤ left) (h1 : left ≤ 1048576) :
    Calls Tryd.prog 20 #[logV d p n, .int .i64 left] w (Bl w (.int .i64 (recSize d p left))) := by
  unfold maxLen at hc hr
  by_cases h2 : left - d.size < 0
  · go_enter Tryd.func20, Tryd.ntmps20
    go_wp2
    go_ret
    exact ⟨ret_int (by unfold recSize; rw [if_pos h2]), below_box _ _⟩
  · by_cases h3 : left - d.size - p.size < 0
    all_goals
      go_enter Tryd.func20, Tryd.ntmps20
      go_wp2
      go_ret
      exact ⟨ret_int (by unfold recSize; rw [if_neg (by omega)]; first | rw [if_pos (by omega)] | rw [if_neg (by omega)]), below_box _ _⟩

/-! ## the two readings of 'valid' -/
def endsI (s : Bs) : List Int := (endsL s).map fun (x : Nat) => (x : Int)
theorem hasI_iff (x : Int) : ∀ l : List Int, hasI x l = true ↔ x ∈ l
  | [] => by simp [hasI]
  | y :: l => by
    rw [hasI, Bool.or_eq_true, hasI_iff x l, List.mem_cons, beq_iff_eq]
    constructor
    · rintro (h | h)
      · exact .inl h.symm
      · exact .inr h
    · rintro (h | h)
      · exact .inl h.symm
      · exact .inr h
def vP (s : ByteArray) (D : Nat) (n : Int) : Bool := decide ((endA s : Int) = s.size) && (hasI D (endsI (bs s)) && decide (n = cntA s))
def vS (s d : ByteArray) (n : Int) : Bool := decide (¬ (30000 < s.size)) && (decide (endA s = s.size) && (decide (endA d = d.size) && decide ((cntA s : Int) = n)))
theorem vP_iff {s d p : ByteArray} {n : Int} (hs : bs s = bs d ++ bs p) : vP s d.size n = true ↔ validP (bs d) (bs p) n := by
  have h1 : (bs s).length = s.size := rfl
  unfold vP validP endA cntA endsI
  rw [Bool.and_eq_true, Bool.and_eq_true, hasI_iff, ← hs]
  simp only [decide_eq_true_eq, List.mem_map]
  have h2 : (bs d).length = d.size := rfl
  rw [h1, h2]
  constructor
  · rintro ⟨h3, ⟨x, h4, h5⟩, h6⟩
    have : x = d.size := by omega
    subst this
    exact ⟨by omega, h4, h6⟩
  · rintro ⟨h3, h4, h6⟩
    exact ⟨by omega, ⟨_, h4, rfl⟩, h6⟩
theorem vS_iff {s d p : ByteArray} {n : Int} (hs : bs s = bs d ++ bs p) : vS s d n = true ↔ validS (bs d) (bs p) n := by
  have h1 : (bs s).length = s.size := rfl
  have h2 : (bs d).length = d.size := rfl
  have h3 := congrArg List.length hs
  rw [List.length_append, h1] at h3
  unfold vS validS endA cntA
  simp only [Bool.and_eq_true, decide_eq_true_eq]
  rw [← hs, ← h3, h2]
  constructor
  · rintro ⟨a, b, c, e⟩
    exact ⟨by omega, b, c, e⟩
  · rintro ⟨a, b, c, e⟩
    exact ⟨by omega, b, c, e⟩
theorem vP_eq {s d p : ByteArray} {n : Int} (hs : bs s = bs d ++ bs p) : vP s d.size n = vS s d n := by
  rw [Bool.eq_iff_iff, vP_iff hs, vS_iff hs, valid_iff]

theorem rd_ends {w : World} {base n d : Nat} {B : Option Addr} {l : List ((Bs × Bs) × Nat)} (h : w.ownsRow base 3 1 (.slice B n d) n (natCells (endsFrom 0 l))) (hn : n = l.length + 1) (hb : n ≤ 61) (hm : endOf l ≤ 1048576) : RdL RI w B n ((endsFrom 0 l).map fun (x : Nat) => (x : Int)) := by
  have hl := endsFrom_len l 0
  obtain ⟨A', c', e, hr⟩ := RdL.ofOwn (R := RI) (w := w) (xs := (endsFrom 0 l).map fun (x : Nat) => (x : Int)) (by unfold maxLen; omega) h (by rw [List.length_map]; omega) (fun k x hk => by
    rw [List.getElem?_map] at hk
    rcases hx : (endsFrom 0 l)[k]? with _ | y
    · rw [hx] at hk; simp at hk
    · rw [hx] at hk
      simp at hk
      subst hk
      refine ⟨.int .i64 y, by simp [natCells, hx], rfl, ?_⟩
      obtain ⟨j, hj, hy⟩ := endsFrom_mem.1 (List.mem_of_getElem? hx)
      have : endOf (l.take j) ≤ endOf l := by
        have h2 := congrArg (fun l => endOf l) (List.take_append_drop j l)
        have h3 : ∀ a b : List ((Bs × Bs) × Nat), endOf (a ++ b) = endOf a + endOf b := fun a b => by simp [endOf]
        simp only [h3] at h2
        omega
      omega)
  injection e with e1 e2 e3
  subst e1
  exact hr

theorem own_lower {w : World} {b b' e s n : Nat} {v : Value} {xs : List Value} (h : w.ownsRow b e s v n xs) (hb : b' ≤ b) : w.ownsRow b' e s v n xs := by
  refine ⟨h.1, ?_⟩
  rcases h.2 with h2 | ⟨g, cap, cur, hv, hg, rest⟩
  · exact .inl h2
  · exact .inr ⟨g, cap, cur, hv, Nat.le_trans hb hg, rest⟩
def RecsE (w : World) (s : ByteArray) (D : Nat) (n : Int) (e : Ending) (w' : World) : Prop :=
  ∃ A c, e = .returned (.tuple #[.slice A (cntA s) c, .bool (vP s D n)]) ∧ w'.ownsRow w.heap.size 27 2 (.slice A (cntA s) c) (cntA s) (recCells (recsOf (readAll (bs s)))) ∧ Below w.heap.size w w'
theorem ret_slb {A : Option Addr} {n c : Nat} {x y : Bool} (h' : x = y) : Ending.returned (.tuple #[.slice A n c, .bool x]) = .returned (.tuple #[.slice A n c, .bool y]) := by rw [h']

set_option maxHeartbeats 2000000 in
theorem recordsOf_any (d p : ByteArray) (n : Int) (w : World) (hs : d.size + p.size ≤ 1048576) (ht : Tab w) :
    Calls Tryd.prog 50 #[logV d p n] w (RecsE w (d ++ p) d.size n) := by
  have hT := below_box w (.cells #[.string d, .string p, .int .i64 n] 31)
  have BX := Blk.new w 31 #[.string d, .string p, .int .i64 n]
  have kc := cat d p (by omega)
  have hle := endA_le (d ++ p)
  have hsz : (d ++ p).size = d.size + p.size := ByteArray.size_append ..
  have hlast := endsFrom_last (readAll (bs (d ++ p))) 0
  have h60 := (readAll_split (bs (d ++ p))).2.1
  obtain ⟨W, HW⟩ : ∃ W, Hid (d ++ p = W) := ⟨_, rfl⟩
  rw [HW.out] at kc hle hsz hlast h60 ⊢
  obtain ⟨m, HM⟩ : ∃ m, Hid (endA W = m) := ⟨_, rfl⟩
  obtain ⟨k, HK⟩ : ∃ m, Hid (cntA W = m) := ⟨_, rfl⟩
  have HM' : Hid (endOf (readAll (bs W)) = m) := HM
  have HK' : Hid ((readAll (bs W)).length = k) := HK
  rw [HM.out] at hle
  rw [HM'.out, HK'.out, Nat.zero_add] at hlast
  rw [HK'.out] at h60
  have HL : Hid ((natCells (endsFrom 0 (readAll (bs W))))[k]? = some (.int .i64 m)) := by
    show _ = _
    rw [natCells, List.getElem?_map, hlast]
    rfl
  clear hlast
  go_enter Tryd.func50, Tryd.ntmps50
  go_wp2_with fail
  refine (readRecords_any W _ (by omega) (ht.next hT)).mono ?_
  rintro e w3 ⟨A, c, B, b, rfl, ho2, ho3, hb3⟩
  rw [HK'.out] at ho2 ho3 ⊢
  have hrd := rd_ends ho3 (by rw [HK'.out]) (by omega) (by rw [HM'.out]; omega)
  have HRd : Hid (RdL RI w3 B (k + 1) (endsI (bs W))) := hrd
  clear hrd
  obtain ⟨g, rfl, hcg⟩ := own_at ho3 (Nat.lt_succ_self k) HL.out
  have hT3 := below_next hT hb3 rfl
  replace BX := BX.next hb3
  have cN0 := BX.cell 0
  have cN1 := BX.cell 1
  have cN2 := BX.cell 2
  simp at cN0 cN1 cN2
  obtain ⟨hi, HI⟩ : ∃ b, Hid (hasI d.size (endsI (bs W)) = b) := ⟨_, rfl⟩
  have hv : vP W d.size n = (decide ((m : Int) = W.size) && (hi && decide (n = k))) := by rw [← HI.out, ← HM.out, ← HK.out]; rfl
  obtain ⟨v, HV⟩ : ∃ v, Hid (v = vP W d.size n) := ⟨_, rfl⟩
  rw [← HV.out] at hv
  replace ho2 := own_lower ho2 hT.size
  rcases hq1 : ((m : Int) == (d.size : Int) + (p.size : Int)) with _ | _
  · have hv' : false = v := by
      rw [hv, show decide ((m : Int) = W.size) = false by simp at hq1 ⊢; omega]
      rfl
    clear hv
    have HV' := Lib.hid (hv'.trans HV.out)
    clear hv'
    go_wp2_with fail
    go_ret2
    exact ⟨A, c, by rw [HK.out]; exact ret_slb HV'.out, by rw [HK.out]; exact ho2, hT3⟩
  · rcases hi with _ | _
    · have hv' : false = v := by rw [hv]; simp
      clear hv
      have HV' := Lib.hid (hv'.trans HV.out)
      clear hv'
      go_wp2_with (go_at_call 73; refine (hasNot_any _ _ _ _ _ _ HRd.out).mono ?_; rintro e wr ⟨rfl, rfl⟩; rw [HI.out])
      go_ret2
      exact ⟨A, c, by rw [HK.out]; exact ret_slb HV'.out, by rw [HK.out]; exact ho2, hT3⟩
    · have hv' : (n == (k : Int)) = v := by
        rw [hv, show decide ((m : Int) = W.size) = true by simp at hq1 ⊢; omega]
        simp only [Bool.true_and]
        rfl
      clear hv
      have HV' := Lib.hid (hv'.trans HV.out)
      clear hv'
      go_wp2_with (go_at_call 73; refine (hasNot_any _ _ _ _ _ _ HRd.out).mono ?_; rintro e wr ⟨rfl, rfl⟩; rw [HI.out])
      go_ret2
      exact ⟨A, c, by rw [HK.out]; exact ret_slb HV'.out, by rw [HK.out]; exact ho2, hT3⟩

set_option maxHeartbeats 1000000 in
theorem implValidLog_any (d p : ByteArray) (n : Int) (w : World) (hs : d.size + p.size ≤ 1048576) (ht : Tab w) :
    Calls Tryd.prog 23 #[logV d p n] w (Bl w (.bool (vS (d ++ p) d n))) := by
  have hT := below_box w (.cells #[.string d, .string p, .int .i64 n] 31)
  have HV := Lib.hid (vP_eq (n := n) (bs_app d p))
  go_enter Tryd.func23, Tryd.ntmps23
  go_wp2_with fail
  refine (recordsOf_any d p n _ hs (ht.next hT)).mono ?_
  rintro e w3 ⟨A, c, rfl, -, hb3⟩
  rw [HV.out]
  have hT3 := below_next hT hb3 rfl
  go_wp2_with fail
  go_ret
  exact ⟨rfl, hT3⟩

set_option maxHeartbeats 2000000 in
theorem l33Log_any (d p : ByteArray) (n : Int) (w : World) (hs : d.size + p.size ≤ 1048576) :
    Calls Tryd.prog 49 #[logV d p n] w (Bl w (.bool (vS (d ++ p) d n))) := by
  have hT := below_box w (.cells #[.string d, .string p, .int .i64 n] 31)
  have BX := Blk.new w 31 #[.string d, .string p, .int .i64 n]
  have kc := cat d p (by omega)
  have hle := endA_le (d ++ p)
  have hled := endA_le d
  have hsz : (d ++ p).size = d.size + p.size := ByteArray.size_append ..
  obtain ⟨W, HW⟩ : ∃ W, Hid (d ++ p = W) := ⟨_, rfl⟩
  rw [HW.out] at kc hle hsz ⊢
  by_cases hbig : 30000 < d.size + p.size
  · have hv : Hid (false = vS W d n) := by
      show _ = _
      unfold vS
      rw [show decide (¬ (30000 < W.size)) = false by simp; omega]
      rfl
    go_enter Tryd.func49, Tryd.ntmps49
    go_wp2_with fail
    go_ret
    exact ⟨ret_bool hv.out, hT⟩
  · have h60 := (readAll_split (bs W)).2.1
    obtain ⟨m, HM⟩ : ∃ m, Hid (endA W = m) := ⟨_, rfl⟩
    obtain ⟨m2, HM2⟩ : ∃ m, Hid (endA d = m) := ⟨_, rfl⟩
    obtain ⟨k, HK⟩ : ∃ m, Hid (cntA W = m) := ⟨_, rfl⟩
    obtain ⟨k2, HK2⟩ : ∃ m, Hid (cntA d = m) := ⟨_, rfl⟩
    have HM' : Hid (endOf (readAll (bs W)) = m) := HM
    have HK' : Hid ((readAll (bs W)).length = k) := HK
    have HM2' : Hid (endOf (readAll (bs d)) = m2) := HM2
    have HK2' : Hid ((readAll (bs d)).length = k2) := HK2
    rw [HM.out] at hle
    rw [HM2.out] at hled
    rw [HK'.out] at h60
    have hv : Hid (vS W d n = (decide (m = d.size + p.size) && (decide (m2 = d.size) && decide ((k : Int) = n)))) := by
      show _ = _
      unfold vS
      rw [HM.out, HM2.out, HK.out, show decide (¬ (30000 < W.size)) = true by simp; omega, hsz]
      rfl
    go_enter Tryd.func49, Tryd.ntmps49
    go_wp2_with fail
    refine (l33Open_any W _ (by omega)).mono ?_
    rintro e w3 ⟨A, c, rfl, -, hb3⟩
    rw [HM'.out, HK'.out]
    have hT3 := below_next hT hb3 rfl
    replace BX := BX.next hb3
    clear hb3
    have cN0 := BX.cell 0
    have cN1 := BX.cell 1
    have cN2 := BX.cell 2
    simp at cN0 cN1 cN2
    go_wp2_with fail
    refine (l33Open_any d _ (by omega)).mono ?_
    rintro e w4 ⟨A2, c2, rfl, -, hb4⟩
    rw [HM2'.out, HK2'.out]
    have hT4 := below_next hT3 hb4 rfl
    replace BX := BX.next hb4
    clear hb4 cN0 cN1 cN2
    have cN0 := BX.cell 0
    have cN1 := BX.cell 1
    have cN2 := BX.cell 2
    simp at cN0 cN1 cN2
    rcases hq1 : ((m : Int) == (d.size : Int) + (p.size : Int)) with _ | _
    · have hv' : Hid (false = vS W d n) := by
        show _ = _
        rw [hv.out, show decide (m = d.size + p.size) = false by simp at hq1 ⊢; omega]
        rfl
      go_wp2_with fail
      go_ret
      exact ⟨ret_bool hv'.out, hT4⟩
    · rcases hq2 : ((m2 : Int) == (d.size : Int)) with _ | _
      · have hv' : Hid (false = vS W d n) := by
          show _ = _
          rw [hv.out, show decide (m2 = d.size) = false by simp at hq2 ⊢; omega]
          simp
        go_wp2_with fail
        go_ret
        exact ⟨ret_bool hv'.out, hT4⟩
      · have hv' : Hid (((k : Int) == n) = vS W d n) := by
          show _ = _
          rw [hv.out, show decide (m2 = d.size) = true by simp at hq2 ⊢; omega, show decide (m = d.size + p.size) = true by simp at hq1 ⊢; omega]
          simp only [Bool.true_and]
          rfl
        go_wp2_with fail
        go_ret
        exact ⟨ret_bool hv'.out, hT4⟩

set_option maxHeartbeats 1000000 in
theorem specValidLog_any (d p : ByteArray) (n : Int) (w : World) (hs : d.size + p.size ≤ 1048576) :
    Calls Tryd.prog 21 #[logV d p n] w (Bl w (.bool (vS (d ++ p) d n))) := by
  have hT := below_box w (.cells #[.string d, .string p, .int .i64 n] 31)
  go_enter Tryd.func21, Tryd.ntmps21
  go_wp2_with fail
  refine (l33Log_any d p n _ hs).mono ?_
  rintro e w3 ⟨rfl, hb3⟩
  have hT3 := below_next hT hb3 rfl
  go_wp2_with fail
  go_ret
  exact ⟨rfl, hT3⟩
end Go.Proofs.YteogfjddkaodkaaDoor
