
/- Walks: AppendRecord, in the program and in the reference. -/
import Derived.Test.YteogfjddkaodkaaDoorSync
import Derived.Deep.RegionHeld3
import Derived.Deep.DeepCutAuto
namespace Go.Proofs.YteogfjddkaodkaaDoor
open Go.RowKit

def apC (d p : ByteArray) (n : Int) (c r : ByteArray) : Int := if vS (d ++ p) d n && goodB c r then (if n = 60 then 2 else 0) else 1
def apP (d p : ByteArray) (n : Int) (c r : ByteArray) : ByteArray := if apC d p n c r = 0 then p ++ mk (lineL n.toNat (bs c) (bs r)) else p
def apN (d p : ByteArray) (n : Int) (c r : ByteArray) : Int := if apC d p n c r = 0 then n + 1 else n
def ApE (w : World) (d p : ByteArray) (n : Int) (c r : ByteArray) (e : Ending) (w' : World) : Prop := e = .returned (.tuple #[logV d (apP d p n c r) (apN d p n c r), .int .i64 (apC d p n c r)]) ∧ Below w.heap.size w w'
theorem ret_app {d p p' : ByteArray} {n n' e e' : Int} (h : p = p') (h2 : n = n') (h3 : e = e') : Ending.returned (.tuple #[logV d p n, .int .i64 e]) = .returned (.tuple #[logV d p' n', .int .i64 e']) := by rw [h, h2, h3]
/-- A valid log: how many records, and how long. -/
theorem vS_facts {d p : ByteArray} {n : Int} (h : vS (d ++ p) d n = true) : ∃ k : Nat, n = k ∧ k ≤ 60 ∧ d.size + p.size ≤ 30000 := by
  unfold vS at h
  simp only [Bool.and_eq_true, decide_eq_true_eq] at h
  have := (readAll_split (bs (d ++ p))).2.1
  have h2 : (d ++ p).size = d.size + p.size := ByteArray.size_append ..
  exact ⟨cntA (d ++ p), h.2.2.2.symm, this, by omega⟩
theorem Blk.set3' {w : World} {g : Nat} {t : TypeId} {a b c : Value} {d p : ByteArray} {n : Int} (h : Blk w g t #[a, b, c]) : Blk (((w.setCell ⟨g, 0, none⟩ (.string d)).setCell ⟨g, 1, none⟩ (.string p)).setCell ⟨g, 2, none⟩ (.int .i64 n)) g t #[.string d, .string p, .int .i64 n] := by
  have h2 := ((h.set_ 0 (.string d)).set_ 1 (.string p)).set_ 2 (.int .i64 n)
  simpa using h2

def W3 (w : World) (d p : ByteArray) (n : Int) (c r : ByteArray) : World := ((w.alloc (.cells #[.string d, .string p, .int .i64 n] 31)).alloc (.cells #[.string c, .string r] 27)).alloc (.cells #[.string ⟨#[]⟩, .string ⟨#[]⟩, .int .i64 0] 31)
theorem W3_facts (w : World) (d p : ByteArray) (n : Int) (c r : ByteArray) : Below w.heap.size w (W3 w d p n c r) ∧ Blk (W3 w d p n c r) w.heap.size 31 #[.string d, .string p, .int .i64 n] ∧ Blk (W3 w d p n c r) (w.heap.size + 1) 27 #[.string c, .string r] ∧ Blk (W3 w d p n c r) (w.heap.size + 2) 31 #[.string ⟨#[]⟩, .string ⟨#[]⟩, .int .i64 0] := by
  refine ⟨below_box3 _ _ _ _, ((Blk.new w _ _).next (below_box _ _)).next (below_box _ _), ?_, ?_⟩
  · have := (Blk.new (w.alloc (.cells #[.string d, .string p, .int .i64 n] 31)) 27 #[.string c, .string r]).next (below_box _ (.cells #[.string ⟨#[]⟩, .string ⟨#[]⟩, .int .i64 0] 31))
    rwa [World.size_alloc] at this
  · have := Blk.new ((w.alloc (.cells #[.string d, .string p, .int .i64 n] 31)).alloc (.cells #[.string c, .string r] 27)) 31 #[.string ⟨#[]⟩, .string ⟨#[]⟩, .int .i64 0]
    rwa [World.size_alloc, World.size_alloc] at this

set_option maxRecDepth 20000 in
set_option maxHeartbeats 4000000 in
theorem implApp_any (d p : ByteArray) (n : Int) (c r : ByteArray) (w : World) (hs : d.size + p.size ≤ 1048576) (hc : c.size ≤ maxLen) (hr : r.size ≤ maxLen) (ht : Tab w) :
    Calls Tryd.prog 29 #[logV d p n, .agg #[.string c, .string r]] w (ApE w d p n c r) := by
  obtain ⟨hT, BA, BR, BX⟩ := W3_facts w d p n c r
  obtain ⟨v, HV⟩ : ∃ s, Hid (vS (d ++ p) d n = s) := ⟨_, rfl⟩
  obtain ⟨g, HG⟩ : ∃ s, Hid (goodB c r = s) := ⟨_, rfl⟩
  go_enter Tryd.func29, Tryd.ntmps29
  go_wp2_with fail
  refine (implValidLog_any d p n _ hs (ht.next hT)).mono ?_
  rintro e w3 ⟨rfl, hb3⟩
  rw [HV.out]
  have hT3 := below_next hT hb3 rfl
  replace BA := BA.next hb3
  replace BR := BR.next hb3
  replace BX := BX.next hb3
  clear hb3 hT
  have cA0 := BA.cell 0
  have cA1 := BA.cell 1
  have cA2 := BA.cell 2
  have cR0 := BR.cell 0
  have cR1 := BR.cell 1
  have cX0 := BX.cell 0
  have cX1 := BX.cell 1
  have cX2 := BX.cell 2
  have fX0 := BX.frozen 0
  have fX1 := BX.frozen 1
  have fX2 := BX.frozen 2
  simp at cA0 cA1 cA2 cR0 cR1 cX0 cX1 cX2
  rcases v with _ | _
  · have hC : Hid (apC d p n c r = 1) := by show _ = _; unfold apC; rw [HV.out]; rfl
    have hP : Hid (p = apP d p n c r) := by show _ = _; unfold apP; rw [hC.out]; rfl
    have hN : Hid (n = apN d p n c r) := by show _ = _; unfold apN; rw [hC.out]; rfl
    go_wp2_with fail
    (try simp only [Exit.inBlock, Exit.then])
    refine bodyPost_ret (v := .tuple #[logV d p n, .int .i64 1]) (res_row_tmp rfl _ _ (w.heap.size + 2) 31 #[.string d, .string p, .int .i64 n] (0, 0) _ _ (by simp) BX.set3' Tryd.underlying31 rfl (by kernel_rfl) (by simp)) rfl ?_
    exact ⟨ret_app hP.out hN.out hC.out.symm, ((hT3.setCell (Nat.le_add_right _ 2) _).setCell (Nat.le_add_right _ 2) _).setCell (Nat.le_add_right _ 2) _⟩
  · rcases g with _ | _
    · have hC : Hid (apC d p n c r = 1) := by show _ = _; unfold apC; rw [HG.out, Bool.and_false]; rfl
      have hP : Hid (p = apP d p n c r) := by show _ = _; unfold apP; rw [hC.out]; rfl
      have hN : Hid (n = apN d p n c r) := by show _ = _; unfold apN; rw [hC.out]; rfl
      go_wp2_with fail
      refine (implValid_any _ _ _ hc hr).mono ?_
      rintro e w4 ⟨rfl, hb4⟩
      rw [HG.out]
      have hT4 := below_next hT3 hb4 rfl
      replace BA := BA.next hb4
      replace BX := BX.next hb4
      clear hb4 cA0 cA1 cA2 cR0 cR1 cX0 cX1 cX2 fX0 fX1 fX2
      have cA0 := BA.cell 0
      have cA1 := BA.cell 1
      have cA2 := BA.cell 2
      have cX0 := BX.cell 0
      have cX1 := BX.cell 1
      have cX2 := BX.cell 2
      have fX0 := BX.frozen 0
      have fX1 := BX.frozen 1
      have fX2 := BX.frozen 2
      simp at cA0 cA1 cA2 cX0 cX1 cX2
      go_wp2_with fail
      (try simp only [Exit.inBlock, Exit.then])
      refine bodyPost_ret (v := .tuple #[logV d p n, .int .i64 1]) (res_row_tmp rfl _ _ (w.heap.size + 2) 31 #[.string d, .string p, .int .i64 n] (0, 0) _ _ (by simp) BX.set3' Tryd.underlying31 rfl (by kernel_rfl) (by simp)) rfl ?_
      exact ⟨ret_app hP.out hN.out hC.out.symm, ((hT4.setCell (Nat.le_add_right _ 2) _).setCell (Nat.le_add_right _ 2) _).setCell (Nat.le_add_right _ 2) _⟩
    · obtain ⟨k, rfl, hk60, hdp⟩ := vS_facts HV.out
      by_cases hk : k = 60
      · subst hk
        have HV60 : vS (d ++ p) d 60 = true := HV.out
        replace BA : Blk w3 w.heap.size 31 #[.string d, .string p, .int .i64 60] := BA
        have hC : Hid (apC d p 60 c r = 2) := by show _ = _; unfold apC; rw [HG.out, HV60]; rfl
        have hP : Hid (p = apP d p 60 c r) := by show _ = _; unfold apP; rw [hC.out]; rfl
        have hN : Hid ((60 : Int) = apN d p 60 c r) := by show _ = _; unfold apN; rw [hC.out]; rfl
        go_wp2_with fail
        refine (implValid_any _ _ _ hc hr).mono ?_
        rintro e w4 ⟨rfl, hb4⟩
        rw [HG.out]
        have hT4 := below_next hT3 hb4 rfl
        replace BA := BA.next hb4
        replace BX := BX.next hb4
        clear hb4 cA0 cA1 cA2 cR0 cR1 cX0 cX1 cX2 fX0 fX1 fX2
        have cA0 := BA.cell 0
        have cA1 := BA.cell 1
        have cA2 := BA.cell 2
        have cX0 := BX.cell 0
        have cX1 := BX.cell 1
        have cX2 := BX.cell 2
        have fX0 := BX.frozen 0
        have fX1 := BX.frozen 1
        have fX2 := BX.frozen 2
        simp at cA0 cA1 cA2 cX0 cX1 cX2
        go_wp2_with fail
        (try simp only [Exit.inBlock, Exit.then])
        refine bodyPost_ret (v := .tuple #[logV d p 60, .int .i64 2]) (res_row_tmp rfl _ _ (w.heap.size + 2) 31 #[.string d, .string p, .int .i64 60] (0, 0) _ _ (by simp) BX.set3' Tryd.underlying31 rfl (by kernel_rfl) (by simp)) rfl ?_
        exact ⟨ret_app hP.out hN.out hC.out.symm, ((hT4.setCell (Nat.le_add_right _ 2) _).setCell (Nat.le_add_right _ 2) _).setCell (Nat.le_add_right _ 2) _⟩
      · have hlt : k < 60 := by omega
        have hC : Hid (apC d p k c r = 0) := by show _ = _; unfold apC; rw [HG.out, HV.out]; show (if (k : Int) = 60 then (2 : Int) else 0) = 0; rw [if_neg (by omega)]
        have hP : Hid (p ++ mk (lineL k (bs c) (bs r)) = apP d p k c r) := by show _ = _; unfold apP; rw [hC.out, if_pos rfl, Int.toNat_natCast]
        have hN : Hid ((k : Int) + 1 = apN d p k c r) := by show _ = _; unfold apN; rw [hC.out, if_pos rfl]
        have hke : ((k : Int) == 60) = false := by simp; omega
        have hEB : Hid (encB k c r = true) := by show _ = _; unfold encB; rw [HG.out]; unfold inB; simp; omega
        have hES : Hid (encS k c r = mk (lineL k (bs c) (bs r))) := by show _ = _; rw [encS_yes hEB.out, Int.toNat_natCast]
        have hll : (mk (lineL k (bs c) (bs r))).size ≤ 372 := by rw [size_mk]; exact line_len hlt (goodL_good (by rw [← goodB_eq]; exact HG.out))
        have kc := cat p (mk (lineL k (bs c) (bs r))) (by omega)
        go_wp2_with fail
        refine (implValid_any _ _ _ hc hr).mono ?_
        rintro e w4 ⟨rfl, hb4⟩
        rw [HG.out]
        have hT4 := below_next hT3 hb4 rfl
        replace BA := BA.next hb4
        replace BR := BR.next hb4
        replace BX := BX.next hb4
        clear hb4 cA0 cA1 cA2 cR0 cR1 cX0 cX1 cX2 fX0 fX1 fX2
        have cA0 := BA.cell 0
        have cA1 := BA.cell 1
        have cA2 := BA.cell 2
        have cR0 := BR.cell 0
        have cR1 := BR.cell 1
        simp at cA0 cA1 cA2 cR0 cR1
        go_wp2_with fail
        refine (implEnc_any _ _ _ _ hc hr (ht.next hT4)).mono ?_
        rintro e w5 ⟨rfl, hb5⟩
        rw [hEB.out, hES.out]
        have hT5 := below_next hT4 hb5 rfl
        replace BA := BA.next hb5
        replace BX := BX.next hb5
        clear hb5 cA0 cA1 cA2 cR0 cR1
        have cA0 := BA.cell 0
        have cA1 := BA.cell 1
        have cA2 := BA.cell 2
        have cX0 := BX.cell 0
        have cX1 := BX.cell 1
        have cX2 := BX.cell 2
        have fX0 := BX.frozen 0
        have fX1 := BX.frozen 1
        have fX2 := BX.frozen 2
        simp at cA0 cA1 cA2 cX0 cX1 cX2
        go_wp2_with fail
        (try simp only [Exit.inBlock, Exit.then])
        refine bodyPost_ret (v := .tuple #[logV d (p ++ mk (lineL k (bs c) (bs r))) (k + 1), .int .i64 0]) (res_row_tmp rfl _ _ (w.heap.size + 2) 31 #[.string d, .string (p ++ mk (lineL k (bs c) (bs r))), .int .i64 (k + 1)] (0, 0) _ _ (by simp) BX.set3' Tryd.underlying31 rfl (by kernel_rfl) (by simp)) rfl ?_
        exact ⟨ret_app hP.out hN.out hC.out.symm, ((hT5.setCell (Nat.le_add_right _ 2) _).setCell (Nat.le_add_right _ 2) _).setCell (Nat.le_add_right _ 2) _⟩

set_option maxRecDepth 20000 in
set_option maxHeartbeats 4000000 in
theorem specApp_any (d p : ByteArray) (n : Int) (c r : ByteArray) (w : World) (hs : d.size + p.size ≤ 1048576) (hc : c.size ≤ maxLen) (hr : r.size ≤ maxLen) :
    Calls Tryd.prog 28 #[logV d p n, .agg #[.string c, .string r]] w (ApE w d p n c r) := by
  obtain ⟨hT, BA, BR, BX⟩ := W3_facts w d p n c r
  obtain ⟨v, HV⟩ : ∃ s, Hid (vS (d ++ p) d n = s) := ⟨_, rfl⟩
  obtain ⟨g, HG⟩ : ∃ s, Hid (goodB c r = s) := ⟨_, rfl⟩
  go_enter Tryd.func28, Tryd.ntmps28
  go_wp2_with fail
  refine (l33Log_any d p n _ hs).mono ?_
  rintro e w3 ⟨rfl, hb3⟩
  rw [HV.out]
  have hT3 := below_next hT hb3 rfl
  replace BA := BA.next hb3
  replace BR := BR.next hb3
  replace BX := BX.next hb3
  clear hb3 hT
  have cA0 := BA.cell 0
  have cA1 := BA.cell 1
  have cA2 := BA.cell 2
  have cR0 := BR.cell 0
  have cR1 := BR.cell 1
  have cX0 := BX.cell 0
  have cX1 := BX.cell 1
  have cX2 := BX.cell 2
  have fX0 := BX.frozen 0
  have fX1 := BX.frozen 1
  have fX2 := BX.frozen 2
  simp at cA0 cA1 cA2 cR0 cR1 cX0 cX1 cX2
  rcases v with _ | _
  · have hC : Hid (apC d p n c r = 1) := by show _ = _; unfold apC; rw [HV.out]; rfl
    have hP : Hid (p = apP d p n c r) := by show _ = _; unfold apP; rw [hC.out]; rfl
    have hN : Hid (n = apN d p n c r) := by show _ = _; unfold apN; rw [hC.out]; rfl
    go_wp2_with fail
    (try simp only [Exit.inBlock, Exit.then])
    refine bodyPost_ret (v := .tuple #[logV d p n, .int .i64 1]) (res_row_tmp rfl _ _ (w.heap.size + 2) 31 #[.string d, .string p, .int .i64 n] (0, 0) _ _ (by simp) BX.set3' Tryd.underlying31 rfl (by kernel_rfl) (by simp)) rfl ?_
    exact ⟨ret_app hP.out hN.out hC.out.symm, ((hT3.setCell (Nat.le_add_right _ 2) _).setCell (Nat.le_add_right _ 2) _).setCell (Nat.le_add_right _ 2) _⟩
  · rcases g with _ | _
    · have hC : Hid (apC d p n c r = 1) := by show _ = _; unfold apC; rw [HG.out, Bool.and_false]; rfl
      have hP : Hid (p = apP d p n c r) := by show _ = _; unfold apP; rw [hC.out]; rfl
      have hN : Hid (n = apN d p n c r) := by show _ = _; unfold apN; rw [hC.out]; rfl
      go_wp2_with fail
      refine (l33Good_any _ _ _ hc hr).mono ?_
      rintro e w4 ⟨rfl, hb4⟩
      rw [HG.out]
      have hT4 := below_next hT3 hb4 rfl
      replace BA := BA.next hb4
      replace BX := BX.next hb4
      clear hb4 cA0 cA1 cA2 cR0 cR1 cX0 cX1 cX2 fX0 fX1 fX2
      have cA0 := BA.cell 0
      have cA1 := BA.cell 1
      have cA2 := BA.cell 2
      have cX0 := BX.cell 0
      have cX1 := BX.cell 1
      have cX2 := BX.cell 2
      have fX0 := BX.frozen 0
      have fX1 := BX.frozen 1
      have fX2 := BX.frozen 2
      simp at cA0 cA1 cA2 cX0 cX1 cX2
      go_wp2_with fail
      (try simp only [Exit.inBlock, Exit.then])
      refine bodyPost_ret (v := .tuple #[logV d p n, .int .i64 1]) (res_row_tmp rfl _ _ (w.heap.size + 2) 31 #[.string d, .string p, .int .i64 n] (0, 0) _ _ (by simp) BX.set3' Tryd.underlying31 rfl (by kernel_rfl) (by simp)) rfl ?_
      exact ⟨ret_app hP.out hN.out hC.out.symm, ((hT4.setCell (Nat.le_add_right _ 2) _).setCell (Nat.le_add_right _ 2) _).setCell (Nat.le_add_right _ 2) _⟩
    · obtain ⟨k, rfl, hk60, hdp⟩ := vS_facts HV.out
      by_cases hk : k = 60
      · subst hk
        have HV60 : vS (d ++ p) d 60 = true := HV.out
        replace BA : Blk w3 w.heap.size 31 #[.string d, .string p, .int .i64 60] := BA
        have hC : Hid (apC d p 60 c r = 2) := by show _ = _; unfold apC; rw [HG.out, HV60]; rfl
        have hP : Hid (p = apP d p 60 c r) := by show _ = _; unfold apP; rw [hC.out]; rfl
        have hN : Hid ((60 : Int) = apN d p 60 c r) := by show _ = _; unfold apN; rw [hC.out]; rfl
        go_wp2_with fail
        refine (l33Good_any _ _ _ hc hr).mono ?_
        rintro e w4 ⟨rfl, hb4⟩
        rw [HG.out]
        have hT4 := below_next hT3 hb4 rfl
        replace BA := BA.next hb4
        replace BX := BX.next hb4
        clear hb4 cA0 cA1 cA2 cR0 cR1 cX0 cX1 cX2 fX0 fX1 fX2
        have cA0 := BA.cell 0
        have cA1 := BA.cell 1
        have cA2 := BA.cell 2
        have cX0 := BX.cell 0
        have cX1 := BX.cell 1
        have cX2 := BX.cell 2
        have fX0 := BX.frozen 0
        have fX1 := BX.frozen 1
        have fX2 := BX.frozen 2
        simp at cA0 cA1 cA2 cX0 cX1 cX2
        go_wp2_with fail
        (try simp only [Exit.inBlock, Exit.then])
        refine bodyPost_ret (v := .tuple #[logV d p 60, .int .i64 2]) (res_row_tmp rfl _ _ (w.heap.size + 2) 31 #[.string d, .string p, .int .i64 60] (0, 0) _ _ (by simp) BX.set3' Tryd.underlying31 rfl (by kernel_rfl) (by simp)) rfl ?_
        exact ⟨ret_app hP.out hN.out hC.out.symm, ((hT4.setCell (Nat.le_add_right _ 2) _).setCell (Nat.le_add_right _ 2) _).setCell (Nat.le_add_right _ 2) _⟩
      · have hlt : k < 60 := by omega
        have hC : Hid (apC d p k c r = 0) := by show _ = _; unfold apC; rw [HG.out, HV.out]; show (if (k : Int) = 60 then (2 : Int) else 0) = 0; rw [if_neg (by omega)]
        have hP : Hid (p ++ mk (lineL k (bs c) (bs r)) = apP d p k c r) := by show _ = _; unfold apP; rw [hC.out, if_pos rfl, Int.toNat_natCast]
        have hN : Hid ((k : Int) + 1 = apN d p k c r) := by show _ = _; unfold apN; rw [hC.out, if_pos rfl]
        have hke : ((k : Int) == 60) = false := by simp; omega
        have hll : (mk (lineL k (bs c) (bs r))).size ≤ 372 := by rw [size_mk]; exact line_len hlt (goodL_good (by rw [← goodB_eq]; exact HG.out))
        have kc := cat p (mk (lineL k (bs c) (bs r))) (by omega)
        go_wp2_with fail
        refine (l33Good_any _ _ _ hc hr).mono ?_
        rintro e w4 ⟨rfl, hb4⟩
        rw [HG.out]
        have hT4 := below_next hT3 hb4 rfl
        replace BA := BA.next hb4
        replace BR := BR.next hb4
        replace BX := BX.next hb4
        clear hb4 cA0 cA1 cA2 cR0 cR1 cX0 cX1 cX2 fX0 fX1 fX2
        have cA0 := BA.cell 0
        have cA1 := BA.cell 1
        have cA2 := BA.cell 2
        have cR0 := BR.cell 0
        have cR1 := BR.cell 1
        simp at cA0 cA1 cA2 cR0 cR1
        go_upto_region 5 with fail
        have hsz2 := good_sz HG.out
        go_cut [] (fun wx => Below w.heap.size w wx ∧ Blk wx w.heap.size 31 #[.string d, .string (p ++ mk (lineL k (bs c) (bs r))), .int .i64 k] ∧ Blk wx (w.heap.size + 2) 31 #[.string ⟨#[]⟩, .string ⟨#[]⟩, .int .i64 0])
        case first =>
          have fA1 := BA.frozen 1
          go_region_with (go_at_call 44; refine (l33Line_any k c r _ (by omega) (by omega) (by omega)).mono ?_; rintro e wn ⟨rfl, hbn'⟩; have hbn := below_next (Below.drew (Below.refl w4.heap.size w4)) hbn' rfl; have hTn := below_next hT4 hbn rfl; have BAn := BA.next hbn; have BXn := BX.next hbn; have cB0 := BAn.cell 0; have cB1 := BAn.cell 1; have cB2 := BAn.cell 2; have fB1 := BAn.frozen 1; simp at cB0 cB1 cB2)
          all_goals (go_wp2_with fail; go_meet; exact ⟨hTn.setCell (Nat.le_refl _) _, by simpa using BAn.set_ 1 (.string (p ++ mk (lineL k (bs c) (bs r)))), BXn.far (show w.heap.size + 2 ≠ w.heap.size by omega) _⟩)
        case rest =>
          obtain ⟨hT5, BA5, BX5⟩ := hcut
          clear cA0 cA1 cA2 cR0 cR1
          have cA0 := BA5.cell 0
          have cA1 := BA5.cell 1
          have cA2 := BA5.cell 2
          have fA2 := BA5.frozen 2
          have cX0 := BX5.cell 0
          have cX1 := BX5.cell 1
          have cX2 := BX5.cell 2
          have fX0 := BX5.frozen 0
          have fX1 := BX5.frozen 1
          have fX2 := BX5.frozen 2
          simp at cA0 cA1 cA2 cX0 cX1 cX2
          have BA6 : Blk (wc.setCell ⟨w.heap.size, 2, none⟩ (.int .i64 ((k : Int) + 1))) w.heap.size 31 #[.string d, .string (p ++ mk (lineL k (bs c) (bs r))), .int .i64 ((k : Int) + 1)] := by simpa using BA5.set_ 2 (.int .i64 ((k : Int) + 1))
          have BX6 : Blk (wc.setCell ⟨w.heap.size, 2, none⟩ (.int .i64 ((k : Int) + 1))) (w.heap.size + 2) 31 #[.string ⟨#[]⟩, .string ⟨#[]⟩, .int .i64 0] := BX5.far (show w.heap.size + 2 ≠ w.heap.size by omega) _
          go_wp2_with fail
          (try simp only [Exit.inBlock, Exit.then])
          refine bodyPost_ret (v := .tuple #[logV d (p ++ mk (lineL k (bs c) (bs r))) (k + 1), .int .i64 0]) (res_row_tmp rfl _ _ (w.heap.size + 2) 31 #[.string d, .string (p ++ mk (lineL k (bs c) (bs r))), .int .i64 (k + 1)] (0, 0) _ _ (by simp) BX6.set3' Tryd.underlying31 rfl (by kernel_rfl) (by simp)) rfl ?_
          exact ⟨ret_app hP.out hN.out hC.out.symm, (((hT5.setCell (Nat.le_refl _) _).setCell (Nat.le_add_right _ 2) _).setCell (Nat.le_add_right _ 2) _).setCell (Nat.le_add_right _ 2) _⟩
end Go.Proofs.YteogfjddkaodkaaDoor
