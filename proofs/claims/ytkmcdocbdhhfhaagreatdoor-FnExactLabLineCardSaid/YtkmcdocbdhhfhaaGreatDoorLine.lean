
/- Walks: the line of a lab, in the program and in the reference. -/
import Derived.Test.YtkmcdocbdhhfhaaGreatDoorNum
import Derived.Test.YtkmcdocbdhhfhaaGreatDoorLabW
import Derived.Deep.RegionHeld3
import Derived.Deep.DeepCutAuto
namespace Go.Proofs.YtkmcdocbdhhfhaaGreatDoor
open Go.RowKit
set_option linter.unusedVariables false
set_option linter.unusedSimpArgs false

def sClosed : ByteArray := ⟨#[99, 108, 111, 115, 101, 100]⟩
def sSize : ByteArray := ⟨#[115, 105, 122, 101, 32]⟩
def sOps : ByteArray := ⟨#[59, 32, 111, 112, 115, 32]⟩
def sFacts : ByteArray := ⟨#[59, 32, 102, 97, 99, 116, 115, 32]⟩
def sRef : ByteArray := ⟨#[59, 32, 114, 101, 102, 117, 115, 101, 100, 32]⟩
def headS (x : LabM) : ByteArray := if x.1 then sSize ++ numS x.2.1.1.toNat ++ sOps ++ numS x.2.1.2.length else sClosed
def lineS (x : LabM) : ByteArray := headS x ++ sFacts ++ numS x.2.2.1.length ++ sRef ++ numS x.2.2.2.toNat
theorem catx (a b : ByteArray) (n m : Nat) (ha : a.size ≤ n) (hb : b.size ≤ m) (h : n + m ≤ 1000000) : ∃ s, Hid (a ++ b = s) ∧ (∀ w, (Op.stringOp .add a b).run Tryz.prog w = .ok (.string s) w) ∧ s.size ≤ n + m :=
  ⟨a ++ b, rfl, cat a b (by omega), by rw [size_app]; omega⟩
theorem lab_parts {x : LabM} (h : labB x = true) : 0 ≤ x.2.2.2 ∧ x.2.2.2 ≤ 9999 ∧ x.2.2.1.length ≤ 12 ∧ (x.1 = true → AlgP x.2.1) := by
  have h12 : x.2.2.1.length ≤ 12 := by
    by_cases hc : x.2.2.1.length ≤ 12
    · exact hc
    · rw [labB_many hc] at h; cases h
  have h0 : 0 ≤ x.2.2.2 := by
    by_cases hc : x.2.2.2 < 0
    · rw [labB_lo hc] at h; cases h
    · omega
  have h1 : x.2.2.2 ≤ 9999 := by
    by_cases hc : 9999 < x.2.2.2
    · rw [labB_hi hc] at h; cases h
    · omega
  refine ⟨h0, h1, h12, fun ho => ?_⟩
  rw [labB_open h0 h1 ho, Bool.and_eq_true, Bool.and_eq_true] at h
  exact alg_iff.1 h.1.1
set_option maxRecDepth 20000 in
set_option maxHeartbeats 8000000 in
theorem labLine_any (cs : List Value) (x : LabM) (w : World) (h : shLab.rd w cs x) (hx : labB x = true) (tab : Tab w) :
    Calls Tryz.prog 19 #[.agg cs.toArray] w (Bl w (.string (lineS x))) := by
  obtain ⟨hr0, hr1, h12, ha⟩ := lab_parts hx
  obtain ⟨op, ⟨zi, os⟩, fs, ri⟩ := x
  obtain ⟨B, k, d, F, n, c, rfl, qz, qB, qF, qr⟩ := rdLab h
  replace hr0 : 0 ≤ ri := hr0
  replace hr1 : ri ≤ 9999 := hr1
  obtain ⟨r, rfl⟩ := Int.eq_ofNat_of_zero_le hr0
  have hn12 : n ≤ 12 := by rw [← qF.len]; exact h12
  have hr9 : r ≤ 9999 := by omega
  show Calls Tryz.prog 19 #[.agg #[.bool op, .int .i64 zi, .slice B k d, .slice F n c, .int .i64 (r : Int)]] w (Bl w (.string (lineS (op, (zi, os), fs, (r : Int)))))
  obtain ⟨w0, hw0, T0, hsz0, BP⟩ := boxes1 w #[.bool op, .int .i64 zi, .slice B k d, .slice F n c, .int .i64 (r : Int)] 36
  have HW0 := Lib.hid hw0
  have HTab := Lib.hid (tab.next T0)
  obtain ⟨N3, HN3⟩ : ∃ s, Hid (numS n = s) := ⟨_, rfl⟩
  obtain ⟨N4, HN4⟩ : ∃ s, Hid (numS r = s) := ⟨_, rfl⟩
  have z3 : N3.size ≤ 6 := by rw [← HN3.out]; exact numS_size (by omega)
  have z4 : N4.size ≤ 6 := by rw [← HN4.out]; exact numS_size (by omega)
  have HI3 : Hid (∀ wz, Below w0.heap.size w0 wz → Calls Tryz.prog 36 #[.int .i64 (n : Int)] wz (Bl wz (.string N3))) := fun wz hz => by
    have := itoa_any n (by omega) wz (HTab.out.next hz)
    rw [← HN3.out]; exact this
  have HI4 : Hid (∀ wz, Below w0.heap.size w0 wz → Calls Tryz.prog 36 #[.int .i64 (r : Int)] wz (Bl wz (.string N4))) := fun wz hz => by
    have := itoa_any r (by omega) wz (HTab.out.next hz)
    rw [← HN4.out]; exact this
  obtain ⟨HS, HH⟩ : ∃ s, Hid (headS (op, (zi, os), fs, (r : Int)) = s) := ⟨_, rfl⟩
  have zH : HS.size ≤ 40 := by
    rw [← HH.out]
    unfold headS
    rcases op with _ | _
    · exact (by decide : sClosed.size ≤ 40)
    · have a := ha rfl
      have e1 : (numS zi.toNat).size ≤ 6 := numS_size (by have hz : zi ≤ 8 := a.2.1; omega)
      have e2 : (numS os.length).size ≤ 6 := numS_size (by have ho : os.length ≤ 4 := a.2.2.1; omega)
      rw [if_pos rfl, size_app, size_app, size_app]
      have e3 : sSize.size = 5 := rfl
      have e4 : sOps.size = 6 := rfl
      show sSize.size + (numS zi.toNat).size + sOps.size + (numS os.length).size ≤ 40
      omega
  obtain ⟨S5, HS5, k5, z5⟩ := catx HS ⟨#[59, 32, 102, 97, 99, 116, 115, 32]⟩ 40 8 zH (by decide) (by decide)
  obtain ⟨S6, HS6, k6, z6⟩ := catx S5 N3 _ _ z5 z3 (by decide)
  obtain ⟨S7, HS7, k7, z7⟩ := catx S6 ⟨#[59, 32, 114, 101, 102, 117, 115, 101, 100, 32]⟩ _ 10 z6 (by decide) (by decide)
  obtain ⟨S8, HS8, k8, z8⟩ := catx S7 N4 _ _ z7 z4 (by decide)
  have HRES : Hid (S8 = lineS (op, (zi, os), fs, (r : Int))) := by
    show _ = _
    unfold lineS
    rw [HH.out]
    show S8 = HS ++ sFacts ++ numS fs.length ++ sRef ++ numS r
    rw [show fs.length = n from qF.len, HN3.out, HN4.out, ← HS8.out, ← HS7.out, ← HS6.out, ← HS5.out]
    rfl
  have cP0 := BP.cell 0
  have cP1 := BP.cell 1
  have cP2 := BP.cell 2
  have cP3 := BP.cell 3
  have cP4 := BP.cell 4
  simp at cP0 cP1 cP2 cP3 cP4
  have Tk : Below w0.heap.size w0 w0 := Below.refl _ _
  clear hw0 hsz0
  rcases op with _ | _
  · have HC : Hid (HS = ⟨#[99, 108, 111, 115, 101, 100]⟩) := HH.out.symm
    clear ha hx zH z5 z6 z7 z8 z3 z4
    go_enter Tryz.func19, Tryz.ntmps19
    go_upto_region 1 with fail
    rw [← HW0.out]
    go_upto_region 4 with fail
    rw [← HC.out]
    go_region_held3 (fun w' => w'.cell? ⟨w.heap.size, 3, none⟩ = some (.slice F n c) ∧ w'.cell? ⟨w.heap.size, 4, none⟩ = some (.int .i64 (r : Int))) (first | go_keep | exact ⟨keepc Tk cP3, keepc Tk cP4⟩) (first | (go_at_call 36; (with_reducible refine (HI3.out _ ?_).mono ?_); (first | exact Tk | exact Below.drew Tk); rintro e wn ⟨rfl, hbn⟩; replace Tk := below_next (by first | exact Tk | exact Below.drew Tk) hbn rfl) | (go_at_call 36; (with_reducible refine (HI4.out _ ?_).mono ?_); (first | exact Tk | exact Below.drew Tk); rintro e wn ⟨rfl, hbn⟩; replace Tk := below_next (by first | exact Tk | exact Below.drew Tk) hbn rfl))
    all_goals
      go_wp2_with fail
      go_ret
      exact ⟨ret_str HRES.out, below_next T0 Tk rfl⟩
  · have a := ha rfl
    obtain ⟨z, rfl⟩ : ∃ z : Nat, zi = (z : Int) := Int.eq_ofNat_of_zero_le (by have h1 : 1 ≤ zi := a.1; omega)
    have hz8 : z ≤ 8 := by have : (z : Int) ≤ 8 := a.2.1; omega
    have hk4 : k ≤ 4 := by rw [← qB.len]; exact a.2.2.1
    obtain ⟨N1, HN1⟩ : ∃ s, Hid (numS z = s) := ⟨_, rfl⟩
    obtain ⟨N2, HN2⟩ : ∃ s, Hid (numS k = s) := ⟨_, rfl⟩
    have z1 : N1.size ≤ 6 := by rw [← HN1.out]; exact numS_size (by omega)
    have z2 : N2.size ≤ 6 := by rw [← HN2.out]; exact numS_size (by omega)
    have HI1 : Hid (∀ wz, Below w0.heap.size w0 wz → Calls Tryz.prog 36 #[.int .i64 (z : Int)] wz (Bl wz (.string N1))) := fun wz hz => by
      have := itoa_any z (by omega) wz (HTab.out.next hz)
      rw [← HN1.out]; exact this
    have HI2 : Hid (∀ wz, Below w0.heap.size w0 wz → Calls Tryz.prog 36 #[.int .i64 (k : Int)] wz (Bl wz (.string N2))) := fun wz hz => by
      have := itoa_any k (by omega) wz (HTab.out.next hz)
      rw [← HN2.out]; exact this
    obtain ⟨S1, HS1, k1, y1⟩ := catx ⟨#[115, 105, 122, 101, 32]⟩ N1 5 _ (by decide) z1 (by decide)
    obtain ⟨S2, HS2, k2, y2⟩ := catx S1 ⟨#[59, 32, 111, 112, 115, 32]⟩ _ 6 y1 (by decide) (by decide)
    obtain ⟨S3, HS3, k3, y3⟩ := catx S2 N2 _ _ y2 z2 (by decide)
    have HC : Hid (S3 = HS) := by
      show _ = _
      rw [← HH.out, ← HS3.out, ← HS2.out, ← HS1.out]
      unfold headS
      show _ = sSize ++ numS z ++ sOps ++ numS os.length
      rw [show os.length = k from qB.len, HN1.out, HN2.out]
      rfl
    have hk64 := qB.le
    clear ha hx zH z5 z6 z7 z8 z3 z4 y1 y2 y3 z1 z2 a
    go_enter Tryz.func19, Tryz.ntmps19
    go_upto_region 1 with fail
    rw [← HW0.out]
    go_upto_region 3 with fail
    go_region_held3 (fun w' => w'.cell? ⟨w.heap.size, 1, none⟩ = some (.int .i64 (z : Int)) ∧ w'.cell? ⟨w.heap.size, 2, none⟩ = some (.slice B k d)) (first | go_keep | exact ⟨keepc Tk cP1, keepc Tk cP2⟩) (first | (go_at_call 36; (with_reducible refine (HI1.out _ ?_).mono ?_); (first | exact Tk | exact Below.drew Tk); rintro e wn ⟨rfl, hbn⟩; replace Tk := below_next (by first | exact Tk | exact Below.drew Tk) hbn rfl) | (go_at_call 36; (with_reducible refine (HI2.out _ ?_).mono ?_); (first | exact Tk | exact Below.drew Tk); rintro e wn ⟨rfl, hbn⟩; replace Tk := below_next (by first | exact Tk | exact Below.drew Tk) hbn rfl))
    all_goals
      have xP3 := keepc Tk cP3
      have xP4 := keepc Tk cP4
      go_upto_region 4 with fail
      rw [HC.out]
      go_region_held3 (fun w' => w'.cell? ⟨w.heap.size, 3, none⟩ = some (.slice F n c) ∧ w'.cell? ⟨w.heap.size, 4, none⟩ = some (.int .i64 (r : Int))) (first | go_keep | exact ⟨keepc Tk cP3, keepc Tk cP4⟩) (first | (go_at_call 36; (with_reducible refine (HI3.out _ ?_).mono ?_); (first | exact Tk | exact Below.drew Tk); rintro e wn2 ⟨rfl, hbn2⟩; replace Tk := below_next (by first | exact Tk | exact Below.drew Tk) hbn2 rfl) | (go_at_call 36; (with_reducible refine (HI4.out _ ?_).mono ?_); (first | exact Tk | exact Below.drew Tk); rintro e wn2 ⟨rfl, hbn2⟩; replace Tk := below_next (by first | exact Tk | exact Below.drew Tk) hbn2 rfl))
    all_goals
      go_wp2_with fail
      go_ret
      exact ⟨ret_str HRES.out, below_next T0 Tk rfl⟩
set_option maxRecDepth 20000 in
set_option maxHeartbeats 8000000 in
theorem l32Line_any (cs : List Value) (x : LabM) (w : World) (h : shLab.rd w cs x) (hx : labB x = true) :
    Calls Tryz.prog 15 #[.agg cs.toArray] w (Bl w (.string (lineS x))) := by
  obtain ⟨hr0, hr1, h12, ha⟩ := lab_parts hx
  obtain ⟨op, ⟨zi, os⟩, fs, ri⟩ := x
  obtain ⟨B, k, d, F, n, c, rfl, qz, qB, qF, qr⟩ := rdLab h
  replace hr0 : 0 ≤ ri := hr0
  replace hr1 : ri ≤ 9999 := hr1
  obtain ⟨r, rfl⟩ := Int.eq_ofNat_of_zero_le hr0
  have hn12 : n ≤ 12 := by rw [← qF.len]; exact h12
  have hr9 : r ≤ 9999 := by omega
  show Calls Tryz.prog 15 #[.agg #[.bool op, .int .i64 zi, .slice B k d, .slice F n c, .int .i64 (r : Int)]] w (Bl w (.string (lineS (op, (zi, os), fs, (r : Int)))))
  obtain ⟨w0, hw0, T0, hsz0, BP⟩ := boxes1 w #[.bool op, .int .i64 zi, .slice B k d, .slice F n c, .int .i64 (r : Int)] 36
  have HW0 := Lib.hid hw0
  obtain ⟨N3, HN3⟩ : ∃ s, Hid (numS n = s) := ⟨_, rfl⟩
  obtain ⟨N4, HN4⟩ : ∃ s, Hid (numS r = s) := ⟨_, rfl⟩
  have z3 : N3.size ≤ 6 := by rw [← HN3.out]; exact numS_size (by omega)
  have z4 : N4.size ≤ 6 := by rw [← HN4.out]; exact numS_size (by omega)
  have HI3 : Hid (∀ wz, Below w0.heap.size w0 wz → Calls Tryz.prog 30 #[.int .i64 (n : Int)] wz (Bl wz (.string N3))) := fun wz hz => by
    have := bl_of_quiet (l1Num_any n (by omega) wz)
    rw [← HN3.out]; exact this
  have HI4 : Hid (∀ wz, Below w0.heap.size w0 wz → Calls Tryz.prog 30 #[.int .i64 (r : Int)] wz (Bl wz (.string N4))) := fun wz hz => by
    have := bl_of_quiet (l1Num_any r (by omega) wz)
    rw [← HN4.out]; exact this
  obtain ⟨HS, HH⟩ : ∃ s, Hid (headS (op, (zi, os), fs, (r : Int)) = s) := ⟨_, rfl⟩
  have zH : HS.size ≤ 40 := by
    rw [← HH.out]
    unfold headS
    rcases op with _ | _
    · exact (by decide : sClosed.size ≤ 40)
    · have a := ha rfl
      have e1 : (numS zi.toNat).size ≤ 6 := numS_size (by have hz : zi ≤ 8 := a.2.1; omega)
      have e2 : (numS os.length).size ≤ 6 := numS_size (by have ho : os.length ≤ 4 := a.2.2.1; omega)
      rw [if_pos rfl, size_app, size_app, size_app]
      have e3 : sSize.size = 5 := rfl
      have e4 : sOps.size = 6 := rfl
      show sSize.size + (numS zi.toNat).size + sOps.size + (numS os.length).size ≤ 40
      omega
  obtain ⟨S5, HS5, k5, z5⟩ := catx HS ⟨#[59, 32, 102, 97, 99, 116, 115, 32]⟩ 40 8 zH (by decide) (by decide)
  obtain ⟨S6, HS6, k6, z6⟩ := catx S5 N3 _ _ z5 z3 (by decide)
  obtain ⟨S7, HS7, k7, z7⟩ := catx S6 ⟨#[59, 32, 114, 101, 102, 117, 115, 101, 100, 32]⟩ _ 10 z6 (by decide) (by decide)
  obtain ⟨S8, HS8, k8, z8⟩ := catx S7 N4 _ _ z7 z4 (by decide)
  have HRES : Hid (S8 = lineS (op, (zi, os), fs, (r : Int))) := by
    show _ = _
    unfold lineS
    rw [HH.out]
    show S8 = HS ++ sFacts ++ numS fs.length ++ sRef ++ numS r
    rw [show fs.length = n from qF.len, HN3.out, HN4.out, ← HS8.out, ← HS7.out, ← HS6.out, ← HS5.out]
    rfl
  have cP0 := BP.cell 0
  have cP1 := BP.cell 1
  have cP2 := BP.cell 2
  have cP3 := BP.cell 3
  have cP4 := BP.cell 4
  simp at cP0 cP1 cP2 cP3 cP4
  have Tk : Below w0.heap.size w0 w0 := Below.refl _ _
  clear hw0 hsz0
  rcases op with _ | _
  · have HC : Hid (HS = ⟨#[99, 108, 111, 115, 101, 100]⟩) := HH.out.symm
    clear ha hx zH z5 z6 z7 z8 z3 z4
    go_enter Tryz.func15, Tryz.ntmps15
    go_upto_region 1 with fail
    rw [← HW0.out]
    go_upto_region 4 with fail
    rw [← HC.out]
    go_region_held3 (fun w' => w'.cell? ⟨w.heap.size, 3, none⟩ = some (.slice F n c) ∧ w'.cell? ⟨w.heap.size, 4, none⟩ = some (.int .i64 (r : Int))) (first | go_keep | exact ⟨keepc Tk cP3, keepc Tk cP4⟩) (first | (go_at_call 30; (with_reducible refine (HI3.out _ ?_).mono ?_); (first | exact Tk | exact Below.drew Tk); rintro e wn ⟨rfl, hbn⟩; replace Tk := below_next (by first | exact Tk | exact Below.drew Tk) hbn rfl) | (go_at_call 30; (with_reducible refine (HI4.out _ ?_).mono ?_); (first | exact Tk | exact Below.drew Tk); rintro e wn ⟨rfl, hbn⟩; replace Tk := below_next (by first | exact Tk | exact Below.drew Tk) hbn rfl))
    all_goals
      go_wp2_with fail
      go_ret
      exact ⟨ret_str HRES.out, below_next T0 Tk rfl⟩
  · have a := ha rfl
    obtain ⟨z, rfl⟩ : ∃ z : Nat, zi = (z : Int) := Int.eq_ofNat_of_zero_le (by have h1 : 1 ≤ zi := a.1; omega)
    have hz8 : z ≤ 8 := by have : (z : Int) ≤ 8 := a.2.1; omega
    have hk4 : k ≤ 4 := by rw [← qB.len]; exact a.2.2.1
    obtain ⟨N1, HN1⟩ : ∃ s, Hid (numS z = s) := ⟨_, rfl⟩
    obtain ⟨N2, HN2⟩ : ∃ s, Hid (numS k = s) := ⟨_, rfl⟩
    have z1 : N1.size ≤ 6 := by rw [← HN1.out]; exact numS_size (by omega)
    have z2 : N2.size ≤ 6 := by rw [← HN2.out]; exact numS_size (by omega)
    have HI1 : Hid (∀ wz, Below w0.heap.size w0 wz → Calls Tryz.prog 30 #[.int .i64 (z : Int)] wz (Bl wz (.string N1))) := fun wz hz => by
      have := bl_of_quiet (l1Num_any z (by omega) wz)
      rw [← HN1.out]; exact this
    have HI2 : Hid (∀ wz, Below w0.heap.size w0 wz → Calls Tryz.prog 30 #[.int .i64 (k : Int)] wz (Bl wz (.string N2))) := fun wz hz => by
      have := bl_of_quiet (l1Num_any k (by omega) wz)
      rw [← HN2.out]; exact this
    obtain ⟨S1, HS1, k1, y1⟩ := catx ⟨#[115, 105, 122, 101, 32]⟩ N1 5 _ (by decide) z1 (by decide)
    obtain ⟨S2, HS2, k2, y2⟩ := catx S1 ⟨#[59, 32, 111, 112, 115, 32]⟩ _ 6 y1 (by decide) (by decide)
    obtain ⟨S3, HS3, k3, y3⟩ := catx S2 N2 _ _ y2 z2 (by decide)
    have HC : Hid (S3 = HS) := by
      show _ = _
      rw [← HH.out, ← HS3.out, ← HS2.out, ← HS1.out]
      unfold headS
      show _ = sSize ++ numS z ++ sOps ++ numS os.length
      rw [show os.length = k from qB.len, HN1.out, HN2.out]
      rfl
    have hk64 := qB.le
    clear ha hx zH z5 z6 z7 z8 z3 z4 y1 y2 y3 z1 z2 a
    go_enter Tryz.func15, Tryz.ntmps15
    go_upto_region 1 with fail
    rw [← HW0.out]
    go_upto_region 3 with fail
    go_region_held3 (fun w' => w'.cell? ⟨w.heap.size, 1, none⟩ = some (.int .i64 (z : Int)) ∧ w'.cell? ⟨w.heap.size, 2, none⟩ = some (.slice B k d)) (first | go_keep | exact ⟨keepc Tk cP1, keepc Tk cP2⟩) (first | (go_at_call 30; (with_reducible refine (HI1.out _ ?_).mono ?_); (first | exact Tk | exact Below.drew Tk); rintro e wn ⟨rfl, hbn⟩; replace Tk := below_next (by first | exact Tk | exact Below.drew Tk) hbn rfl) | (go_at_call 30; (with_reducible refine (HI2.out _ ?_).mono ?_); (first | exact Tk | exact Below.drew Tk); rintro e wn ⟨rfl, hbn⟩; replace Tk := below_next (by first | exact Tk | exact Below.drew Tk) hbn rfl))
    all_goals
      have xP3 := keepc Tk cP3
      have xP4 := keepc Tk cP4
      go_upto_region 4 with fail
      rw [HC.out]
      go_region_held3 (fun w' => w'.cell? ⟨w.heap.size, 3, none⟩ = some (.slice F n c) ∧ w'.cell? ⟨w.heap.size, 4, none⟩ = some (.int .i64 (r : Int))) (first | go_keep | exact ⟨keepc Tk cP3, keepc Tk cP4⟩) (first | (go_at_call 30; (with_reducible refine (HI3.out _ ?_).mono ?_); (first | exact Tk | exact Below.drew Tk); rintro e wn2 ⟨rfl, hbn2⟩; replace Tk := below_next (by first | exact Tk | exact Below.drew Tk) hbn2 rfl) | (go_at_call 30; (with_reducible refine (HI4.out _ ?_).mono ?_); (first | exact Tk | exact Below.drew Tk); rintro e wn2 ⟨rfl, hbn2⟩; replace Tk := below_next (by first | exact Tk | exact Below.drew Tk) hbn2 rfl))
    all_goals
      go_wp2_with fail
      go_ret
      exact ⟨ret_str HRES.out, below_next T0 Tk rfl⟩
noncomputable def llM (x : LabM) : ByteArray × Bool := if labB x then (lineS x, true) else (⟨#[]⟩, false)
theorem llM_no {x : LabM} (h : labB x = false) : llM x = (⟨#[]⟩, false) := by unfold llM; rw [h]; rfl
theorem llM_yes {x : LabM} (h : labB x = true) : llM x = (lineS x, true) := by unfold llM; rw [h]; rfl
set_option maxHeartbeats 2000000 in
theorem implLL_any (cs : List Value) (x : LabM) (w : World) (h : shLab.rd w cs x) (hcap : LabCap cs) (tab : Tab w) : Calls Tryz.prog 8 #[.agg cs.toArray] w (Bl w (.tuple #[.string (llM x).1, .bool (llM x).2])) := by
  have hrd := h
  obtain ⟨B, k, d, F, n, c, rfl, -, -, -, -⟩ := rdLab h
  obtain ⟨w0, hw0, T0, hsz0, BP⟩ := boxes1 w #[.bool x.1, .int .i64 x.2.1.1, .slice B k d, .slice F n c, .int .i64 x.2.2.2] 36
  have HW0 := Lib.hid hw0
  have HG := Lib.hid (implIsLabv_any _ x w0 (shLab.stab hrd T0.block) hcap)
  have HL : Hid (labB x = true → ∀ wz, Below w0.heap.size w0 wz → Calls Tryz.prog 19 #[.agg #[.bool x.1, .int .i64 x.2.1.1, .slice B k d, .slice F n c, .int .i64 x.2.2.2]] wz (Bl wz (.string (lineS x)))) := fun hx wz hz => labLine_any _ x wz (shLab.stab (shLab.stab hrd T0.block) hz.block) hx ((tab.next T0).next hz)
  obtain ⟨LS, HLS⟩ : ∃ s, Hid (lineS x = s) := ⟨_, rfl⟩
  rw [HLS.out] at HL
  obtain ⟨lb, HLB⟩ : ∃ b, Hid (labB x = b) := ⟨_, rfl⟩
  rw [HLB.out] at HG
  have cP0 := BP.cell 0
  have cP1 := BP.cell 1
  have cP2 := BP.cell 2
  have cP3 := BP.cell 3
  have cP4 := BP.cell 4
  simp at cP0 cP1 cP2 cP3 cP4
  clear hw0 hsz0 hrd h
  go_enter Tryz.func8, Tryz.ntmps8
  go_upto_region 1 with fail
  rw [← HW0.out]
  go_wp2_with fail
  refine HG.out.mono ?_
  rintro e w1 ⟨rfl, hb1⟩
  have kP0 := keepc hb1 cP0
  have kP1 := keepc hb1 cP1
  have kP2 := keepc hb1 cP2
  have kP3 := keepc hb1 cP3
  have kP4 := keepc hb1 cP4
  have T1 := below_next T0 hb1 rfl
  rcases lb with _ | _
  · have HE := Lib.hid (llM_no HLB.out)
    go_wp2_with fail
    go_ret2
    exact ⟨by rw [HE.out]; rfl, T1⟩
  · have HE := Lib.hid (llM_yes HLB.out)
    go_wp2_with fail
    refine (HL.out HLB.out _ hb1).mono ?_
    rintro e w2 ⟨rfl, hb2⟩
    go_wp2_with fail
    go_ret2
    exact ⟨by rw [HE.out, HLS.out]; rfl, below_next T1 hb2 rfl⟩
set_option maxHeartbeats 2000000 in
theorem specLL_any (cs : List Value) (x : LabM) (w : World) (h : shLab.rd w cs x) : Calls Tryz.prog 6 #[.agg cs.toArray] w (Bl w (.tuple #[.string (llM x).1, .bool (llM x).2])) := by
  have hrd := h
  obtain ⟨B, k, d, F, n, c, rfl, -, -, -, -⟩ := rdLab h
  obtain ⟨w0, hw0, T0, hsz0, BP⟩ := boxes1 w #[.bool x.1, .int .i64 x.2.1.1, .slice B k d, .slice F n c, .int .i64 x.2.2.2] 36
  have HW0 := Lib.hid hw0
  have HG := Lib.hid (l32Good_any _ x w0 (shLab.stab hrd T0.block))
  have HL : Hid (labB x = true → ∀ wz, Below w0.heap.size w0 wz → Calls Tryz.prog 15 #[.agg #[.bool x.1, .int .i64 x.2.1.1, .slice B k d, .slice F n c, .int .i64 x.2.2.2]] wz (Bl wz (.string (lineS x)))) := fun hx wz hz => l32Line_any _ x wz (shLab.stab (shLab.stab hrd T0.block) hz.block) hx
  obtain ⟨LS, HLS⟩ : ∃ s, Hid (lineS x = s) := ⟨_, rfl⟩
  rw [HLS.out] at HL
  obtain ⟨lb, HLB⟩ : ∃ b, Hid (labB x = b) := ⟨_, rfl⟩
  rw [HLB.out] at HG
  have cP0 := BP.cell 0
  have cP1 := BP.cell 1
  have cP2 := BP.cell 2
  have cP3 := BP.cell 3
  have cP4 := BP.cell 4
  simp at cP0 cP1 cP2 cP3 cP4
  clear hw0 hsz0 hrd h
  go_enter Tryz.func6, Tryz.ntmps6
  go_upto_region 1 with fail
  rw [← HW0.out]
  go_wp2_with fail
  refine HG.out.mono ?_
  rintro e w1 ⟨rfl, hb1⟩
  have kP0 := keepc hb1 cP0
  have kP1 := keepc hb1 cP1
  have kP2 := keepc hb1 cP2
  have kP3 := keepc hb1 cP3
  have kP4 := keepc hb1 cP4
  have T1 := below_next T0 hb1 rfl
  rcases lb with _ | _
  · have HE := Lib.hid (llM_no HLB.out)
    go_wp2_with fail
    go_ret2
    exact ⟨by rw [HE.out]; rfl, T1⟩
  · have HE := Lib.hid (llM_yes HLB.out)
    go_wp2_with fail
    refine (HL.out HLB.out _ hb1).mono ?_
    rintro e w2 ⟨rfl, hb2⟩
    go_wp2_with fail
    go_ret2
    exact ⟨by rw [HE.out, HLS.out]; rfl, below_next T1 hb2 rfl⟩
end Go.Proofs.YtkmcdocbdhhfhaaGreatDoor
namespace Go.Proofs.YtkmcdocbdhhfhaaGreatDoor
open Go.RowKit

set_option linter.unusedVariables false in
set_option maxRecDepth 100000 in
set_option maxHeartbeats 16000000 in
theorem lawLabLine (cs0 : List Value) (x0 : LabM) (w : World) (h0 : shLab.rd w cs0 x0) (tab : Tab w) :
    Calls Tryz.prog 3 #[.agg cs0.toArray] w (Bl w (.bool true)) := by
  have HTAB := Lib.hid tab
  clear tab
  have hh0 := h0
  obtain ⟨Aa0BaseOps, na0BaseOps, ca0BaseOps, Aa0Facts, na0Facts, ca0Facts, rfl, qa0BaseSize, qa0BaseOps, qa0Facts, qa0Refused⟩ := rdLab hh0
  clear hh0
  have T0 : Below w.heap.size w w := Below.refl _ _
  obtain ⟨w1, HW1', hb1, hsz1, P0⟩ := boxes1 w #[.bool x0.1, .int .i64 x0.2.1.1, .slice Aa0BaseOps na0BaseOps ca0BaseOps, .slice Aa0Facts na0Facts ca0Facts, .int .i64 x0.2.2.2] 27
  have HW1 := Lib.hid HW1'
  clear HW1'
  have zw1 : w.heap.size ≤ w1.heap.size := hb1.size
  replace T0 := below_next T0 hb1 rfl
  clear hb1
  have L0 : (0 : Int) ≤ 1048576 ∧ (1048576 : Int) ≤ 1048576 := by omega
  go_enter Tryz.func3, Tryz.ntmps3
  have cP0_0 := P0.cell 0
  have cP0_1 := P0.cell 1
  have cP0_2 := P0.cell 2
  have cP0_3 := P0.cell 3
  have cP0_4 := P0.cell 4
  simp only [List.getElem?_toArray, List.getElem?_cons_zero, List.getElem?_cons_succ] at cP0_0 cP0_1 cP0_2 cP0_3 cP0_4
  rw [HW1.out] at cP0_0
  rw [HW1.out] at cP0_1
  rw [HW1.out] at cP0_2
  rw [HW1.out] at cP0_3
  rw [HW1.out] at cP0_4
  go_wp2_with fail
  rw [← HW1.out]
  clear cP0_0 cP0_1 cP0_2 cP0_3 cP0_4
  refine (szLab_any [.bool x0.1, .int .i64 x0.2.1.1, .slice Aa0BaseOps na0BaseOps ca0BaseOps, .slice Aa0Facts na0Facts ca0Facts, .int .i64 x0.2.2.2] x0 1048576 _ (shLab.stab h0 T0.block) L0.1 L0.2).mono ?_
  rintro e w2 ⟨rfl, hb2⟩
  have zw2 : w1.heap.size ≤ w2.heap.size := hb2.size
  replace T0 := below_next T0 hb2 rfl
  replace P0 := P0.next hb2
  clear hb2
  obtain ⟨l0, HL0⟩ : ∃ l, Hid (szR (shLab.cnt x0) 1048576 = l) := ⟨_, rfl⟩
  have bd0 := szR_bd (shLab.cnt x0) (left := 1048576) L0.1
  rw [HL0.out] at bd0 ⊢
  by_cases z0 : l0 < 0
  · go_wp2_with fail
    go_ret
    exact ⟨rfl, T0⟩
  have hn0 : (shLab.cnt x0) ≤ 1048576 := by have := szR_ok (a := (shLab.cnt x0)) (left := 1048576) (by rw [HL0.out]; exact z0); omega
  have M0 : 0 ≤ l0 ∧ l0 ≤ 1048576 := by omega
  clear bd0
  obtain ⟨mo0, HMO0⟩ : ∃ b, Hid ((llM x0).1 = b) := ⟨_, rfl⟩
  have hbb0 : (mo0.toList == mo0.toList) = true := by simp
  have hbc0 : (mo0.toList != mo0.toList) = false := by simp
  obtain ⟨mo1, HMO1⟩ : ∃ b, Hid ((llM x0).2 = b) := ⟨_, rfl⟩
  have hbb1 := bne_self mo1
  have cP0_0 := P0.cell 0
  have cP0_1 := P0.cell 1
  have cP0_2 := P0.cell 2
  have cP0_3 := P0.cell 3
  have cP0_4 := P0.cell 4
  simp only [List.getElem?_toArray, List.getElem?_cons_zero, List.getElem?_cons_succ] at cP0_0 cP0_1 cP0_2 cP0_3 cP0_4
  go_wp2_with fail
  clear cP0_0 cP0_1 cP0_2 cP0_3 cP0_4
  refine (toLab_any [.bool x0.1, .int .i64 x0.2.1.1, .slice Aa0BaseOps na0BaseOps ca0BaseOps, .slice Aa0Facts na0Facts ca0Facts, .int .i64 x0.2.2.2] x0 _ (shLab.stab h0 T0.block) hn0).mono ?_
  rintro e w3 ⟨csn0, bln0, rfl, On0, In0, hb3⟩
  have zw3 : w2.heap.size ≤ w3.heap.size := hb3.size
  replace T0 := below_next T0 hb3 rfl
  replace P0 := P0.next hb3
  clear hb3
  obtain ⟨An0BaseOps, nn0BaseOps, cn0BaseOps, An0Facts, nn0Facts, cn0Facts, rfl, -, -, -, -⟩ := rdLab (shLab.ord On0)
  have cP0_0 := P0.cell 0
  have cP0_1 := P0.cell 1
  have cP0_2 := P0.cell 2
  have cP0_3 := P0.cell 3
  have cP0_4 := P0.cell 4
  simp only [List.getElem?_toArray, List.getElem?_cons_zero, List.getElem?_cons_succ] at cP0_0 cP0_1 cP0_2 cP0_3 cP0_4
  go_wp2_with fail
  clear cP0_0 cP0_1 cP0_2 cP0_3 cP0_4
  refine (specLL_any [.bool x0.1, .int .i64 x0.2.1.1, .slice An0BaseOps nn0BaseOps cn0BaseOps, .slice An0Facts nn0Facts cn0Facts, .int .i64 x0.2.2.2] x0 _ (shLab.ord On0)).mono ?_
  rintro e w4 ⟨rfl, hb4⟩
  rw [HMO0.out, HMO1.out]
  have zw4 : w3.heap.size ≤ w4.heap.size := hb4.size
  replace T0 := below_next T0 hb4 rfl
  replace On0 := Sh.onext On0 hb4
  replace P0 := P0.next hb4
  clear hb4
  clear On0 In0
  have cP0_0 := P0.cell 0
  have cP0_1 := P0.cell 1
  have cP0_2 := P0.cell 2
  have cP0_3 := P0.cell 3
  have cP0_4 := P0.cell 4
  simp only [List.getElem?_toArray, List.getElem?_cons_zero, List.getElem?_cons_succ] at cP0_0 cP0_1 cP0_2 cP0_3 cP0_4
  go_wp2_with fail
  clear cP0_0 cP0_1 cP0_2 cP0_3 cP0_4
  refine (toLab_any [.bool x0.1, .int .i64 x0.2.1.1, .slice Aa0BaseOps na0BaseOps ca0BaseOps, .slice Aa0Facts na0Facts ca0Facts, .int .i64 x0.2.2.2] x0 _ (shLab.stab h0 T0.block) hn0).mono ?_
  rintro e w5 ⟨csx0, blx0, rfl, Ox0, Ix0, hb5⟩
  have zw5 : w4.heap.size ≤ w5.heap.size := hb5.size
  replace T0 := below_next T0 hb5 rfl
  replace P0 := P0.next hb5
  clear hb5
  obtain ⟨Ax0BaseOps, nx0BaseOps, cx0BaseOps, Ax0Facts, nx0Facts, cx0Facts, rfl, -, -, -, -⟩ := rdLab (shLab.ord Ox0)
  obtain ⟨w6, HW6⟩ : ∃ wb, Hid (wb = w5.alloc (.cells #[.bool x0.1, .int .i64 x0.2.1.1, .slice Ax0BaseOps nx0BaseOps cx0BaseOps, .slice Ax0Facts nx0Facts cx0Facts, .int .i64 x0.2.2.2] 36)) := ⟨_, rfl⟩
  have hb6 : Below w5.heap.size w5 w6 := by rw [HW6.out]; exact below_box _ _
  have X0 : Blk w6 w5.heap.size 36 #[.bool x0.1, .int .i64 x0.2.1.1, .slice Ax0BaseOps nx0BaseOps cx0BaseOps, .slice Ax0Facts nx0Facts cx0Facts, .int .i64 x0.2.2.2] := by rw [HW6.out]; exact Blk.new _ _ _
  have yw6 : w5.heap.size < w6.heap.size := X0.lt
  have zw6 : w5.heap.size ≤ w6.heap.size := hb6.size
  replace T0 := below_next T0 hb6 rfl
  replace Ox0 := Sh.onext Ox0 hb6
  replace P0 := P0.next hb6
  clear hb6
  have cP0_0 := P0.cell 0
  have cP0_1 := P0.cell 1
  have cP0_2 := P0.cell 2
  have cP0_3 := P0.cell 3
  have cP0_4 := P0.cell 4
  have cX0_0 := X0.cell 0
  have cX0_1 := X0.cell 1
  have cX0_2 := X0.cell 2
  have cX0_3 := X0.cell 3
  have cX0_4 := X0.cell 4
  simp only [List.getElem?_toArray, List.getElem?_cons_zero, List.getElem?_cons_succ] at cP0_0 cP0_1 cP0_2 cP0_3 cP0_4 cX0_0 cX0_1 cX0_2 cX0_3 cX0_4
  rw [HW6.out] at cP0_0
  rw [HW6.out] at cP0_1
  rw [HW6.out] at cP0_2
  rw [HW6.out] at cP0_3
  rw [HW6.out] at cP0_4
  rw [HW6.out] at cX0_0
  rw [HW6.out] at cX0_1
  rw [HW6.out] at cX0_2
  rw [HW6.out] at cX0_3
  rw [HW6.out] at cX0_4
  go_wp2_with fail
  rw [← HW6.out]
  clear cP0_0 cP0_1 cP0_2 cP0_3 cP0_4 cX0_0 cX0_1 cX0_2 cX0_3 cX0_4
  refine (implLL_any [.bool x0.1, .int .i64 x0.2.1.1, .slice Ax0BaseOps nx0BaseOps cx0BaseOps, .slice Ax0Facts nx0Facts cx0Facts, .int .i64 x0.2.2.2] x0 _ (shLab.ord Ox0) (capLab Ox0) (HTAB.out.next T0)).mono ?_
  rintro e w7 ⟨rfl, hb7⟩
  rw [HMO0.out, HMO1.out]
  have zw7 : w6.heap.size ≤ w7.heap.size := hb7.size
  replace T0 := below_next T0 hb7 rfl
  replace Ox0 := Sh.onext Ox0 hb7
  replace P0 := P0.next hb7
  replace X0 := X0.next hb7
  clear hb7
  have g0 := (shLab.stab h0 T0.block)
  have Rx0 := shLab.ord Ox0
  have cP0_0 := P0.cell 0
  have cP0_1 := P0.cell 1
  have cP0_2 := P0.cell 2
  have cP0_3 := P0.cell 3
  have cP0_4 := P0.cell 4
  have cX0_0 := X0.cell 0
  have cX0_1 := X0.cell 1
  have cX0_2 := X0.cell 2
  have cX0_3 := X0.cell 3
  have cX0_4 := X0.cell 4
  simp only [List.getElem?_toArray, List.getElem?_cons_zero, List.getElem?_cons_succ] at cP0_0 cP0_1 cP0_2 cP0_3 cP0_4 cX0_0 cX0_1 cX0_2 cX0_3 cX0_4
  go_upto_region 10 with fail
  clear cP0_0 cP0_1 cP0_2 cP0_3 cP0_4 cX0_0 cX0_1 cX0_2 cX0_3 cX0_4
  have cP0_0 := P0.cell 0
  have cP0_1 := P0.cell 1
  have cP0_2 := P0.cell 2
  have cP0_3 := P0.cell 3
  have cP0_4 := P0.cell 4
  have cX0_0 := X0.cell 0
  have cX0_1 := X0.cell 1
  have cX0_2 := X0.cell 2
  have cX0_3 := X0.cell 3
  have cX0_4 := X0.cell 4
  simp only [List.getElem?_toArray, List.getElem?_cons_zero, List.getElem?_cons_succ] at cP0_0 cP0_1 cP0_2 cP0_3 cP0_4 cX0_0 cX0_1 cX0_2 cX0_3 cX0_4
  have Tk : Below w7.heap.size w7 w7 := Below.refl _ _
  go_region_held3 (fun w' => w'.cell? ⟨w.heap.size, 0, none⟩ = some (.bool x0.1) ∧ w'.cell? ⟨w.heap.size, 1, none⟩ = some (.int .i64 x0.2.1.1) ∧ w'.cell? ⟨w.heap.size, 2, none⟩ = some (.slice Aa0BaseOps na0BaseOps ca0BaseOps) ∧ w'.cell? ⟨w.heap.size, 3, none⟩ = some (.slice Aa0Facts na0Facts ca0Facts) ∧ w'.cell? ⟨w.heap.size, 4, none⟩ = some (.int .i64 x0.2.2.2) ∧ w'.cell? ⟨w5.heap.size, 0, none⟩ = some (.bool x0.1) ∧ w'.cell? ⟨w5.heap.size, 1, none⟩ = some (.int .i64 x0.2.1.1) ∧ w'.cell? ⟨w5.heap.size, 2, none⟩ = some (.slice Ax0BaseOps nx0BaseOps cx0BaseOps) ∧ w'.cell? ⟨w5.heap.size, 3, none⟩ = some (.slice Ax0Facts nx0Facts cx0Facts) ∧ w'.cell? ⟨w5.heap.size, 4, none⟩ = some (.int .i64 x0.2.2.2)) (first | go_keep | exact ⟨keepc Tk cP0_0, keepc Tk cP0_1, keepc Tk cP0_2, keepc Tk cP0_3, keepc Tk cP0_4, keepc Tk cX0_0, keepc Tk cX0_1, keepc Tk cX0_2, keepc Tk cX0_3, keepc Tk cX0_4⟩) (first | (go_at_call 7; refine (toLab_any [.bool x0.1, .int .i64 x0.2.1.1, .slice Aa0BaseOps na0BaseOps ca0BaseOps, .slice Aa0Facts na0Facts ca0Facts, .int .i64 x0.2.2.2] x0 _ (shLab.stab g0 (by first | exact Tk.block | exact (Below.drew Tk).block)) hn0).mono ?_; rintro e wn ⟨csn0, bn0, rfl, On, In, hbn⟩; have Rn0 := shLab.ord On; clear On In; replace Tk := below_next (by first | exact Tk | exact Below.drew Tk) hbn rfl) | (go_at_call 9; refine (eqLab_any [.bool x0.1, .int .i64 x0.2.1.1, .slice Ax0BaseOps nx0BaseOps cx0BaseOps, .slice Ax0Facts nx0Facts cx0Facts, .int .i64 x0.2.2.2] csn0 x0 x0 _ (shLab.stab Rx0 (by first | exact Tk.block | exact (Below.drew Tk).block)) (by first | exact Rn0 | exact shLab.stab Rn0 (below_drewN (Below.refl _ _) 1).block)).mono ?_; rintro e w8 ⟨rfl, hbn⟩; replace Tk := below_next (by first | exact Tk | exact Below.drew Tk) hbn rfl; rw [eqC_self]))
  have hb8 := Tk
  have zw8 : w7.heap.size ≤ w8.heap.size := hb8.size
  replace T0 := below_next T0 hb8 rfl
  replace Ox0 := Sh.onext Ox0 hb8
  replace P0 := P0.next hb8
  replace X0 := X0.next hb8
  clear hb8 Tk cP0_0 cP0_1 cP0_2 cP0_3 cP0_4 cX0_0 cX0_1 cX0_2 cX0_3 cX0_4
  clear g0 Rx0
  try clear Rn0 hbn
  have cP0_0 := P0.cell 0
  have cP0_1 := P0.cell 1
  have cP0_2 := P0.cell 2
  have cP0_3 := P0.cell 3
  have cP0_4 := P0.cell 4
  have cX0_0 := X0.cell 0
  have cX0_1 := X0.cell 1
  have cX0_2 := X0.cell 2
  have cX0_3 := X0.cell 3
  have cX0_4 := X0.cell 4
  simp only [List.getElem?_toArray, List.getElem?_cons_zero, List.getElem?_cons_succ] at cP0_0 cP0_1 cP0_2 cP0_3 cP0_4 cX0_0 cX0_1 cX0_2 cX0_3 cX0_4
  go_wp2_with fail
  clear cP0_0 cP0_1 cP0_2 cP0_3 cP0_4 cX0_0 cX0_1 cX0_2 cX0_3 cX0_4
  go_ret
  exact ⟨rfl, T0⟩
end Go.Proofs.YtkmcdocbdhhfhaaGreatDoor
