
/- Walks: the line of a lab, in the program and in the reference. -/
import Derived.Test.YtbonebpheimbaaaGreatDoorNum
import Derived.Test.YtbonebpheimbaaaGreatDoorLabW
import Derived.Deep.RegionHeld3
import Derived.Deep.DeepCutAuto
namespace Go.Proofs.YtbonebpheimbaaaGreatDoor
open Go.RowKit
set_option linter.unusedVariables false
set_option linter.unusedSimpArgs false

def sClosed : ByteArray := ⟨#[99, 108, 111, 115, 101, 100]⟩
def sSize : ByteArray := ⟨#[115, 105, 122, 101, 32]⟩
def sOps : ByteArray := ⟨#[59, 32, 111, 112, 115, 32]⟩
def sFacts : ByteArray := ⟨#[59, 32, 102, 97, 99, 116, 115, 32]⟩
def sRef : ByteArray := ⟨#[59, 32, 114, 101, 102, 117, 115, 101, 100, 32]⟩
def headS (x : LabM) : ByteArray := if x.1 then sSize ++ numS x.2.1.1.toNat ++ sOps ++ numS x.2.1.2.length else sClosed
def lineS (x : LabM) : ByteArray := headS x ++ sFacts ++ numS x.2.2.1.length ++ sRef ++ numS x.2.2.2.toNat
set_option maxRecDepth 20000 in
set_option maxHeartbeats 8000000 in
theorem labLine_any (cs : List Value) (x : LabM) (w : World) (h : shLab.rd w cs x) (hx : labB x = true) (tab : Tab w) :
    Calls Tryz.prog 25 #[.agg cs.toArray] w (Bl w (.string (lineS x))) := by
  obtain ⟨hr0, hr1, h12, ha⟩ := lab_parts hx
  obtain ⟨op, ⟨zi, os⟩, fs, ri⟩ := x
  obtain ⟨B, k, d, F, n, c, rfl, qz, qB, qF, qr⟩ := rdLab h
  replace hr0 : 0 ≤ ri := hr0
  replace hr1 : ri ≤ 9999 := hr1
  obtain ⟨r, rfl⟩ := Int.eq_ofNat_of_zero_le hr0
  have hn12 : n ≤ 12 := by rw [← qF.len]; exact h12
  have hr9 : r ≤ 9999 := by omega
  show Calls Tryz.prog 25 #[.agg #[.bool op, .int .i64 zi, .slice B k d, .slice F n c, .int .i64 (r : Int)]] w (Bl w (.string (lineS (op, (zi, os), fs, (r : Int)))))
  obtain ⟨w0, hw0, T0, hsz0, BP⟩ := boxes1 w #[.bool op, .int .i64 zi, .slice B k d, .slice F n c, .int .i64 (r : Int)] 39
  have HW0 := Lib.hid hw0
  have HTab := Lib.hid (tab.next T0)
  obtain ⟨N3, HN3⟩ : ∃ s, Hid (numS n = s) := ⟨_, rfl⟩
  obtain ⟨N4, HN4⟩ : ∃ s, Hid (numS r = s) := ⟨_, rfl⟩
  have z3 : N3.size ≤ 6 := by rw [← HN3.out]; exact numS_size (by omega)
  have z4 : N4.size ≤ 6 := by rw [← HN4.out]; exact numS_size (by omega)
  have HI3 : Hid (∀ wz, Below w0.heap.size w0 wz → Calls Tryz.prog 27 #[.int .i64 (n : Int)] wz (Bl wz (.string N3))) := fun wz hz => by
    have := itoa_any n (by omega) wz (HTab.out.next hz)
    rw [← HN3.out]; exact this
  have HI4 : Hid (∀ wz, Below w0.heap.size w0 wz → Calls Tryz.prog 27 #[.int .i64 (r : Int)] wz (Bl wz (.string N4))) := fun wz hz => by
    have := itoa_any r (by omega) wz (HTab.out.next hz)
    rw [← HN4.out]; exact this
  obtain ⟨HS, HH⟩ : ∃ s, Hid (headS (op, (zi, os), fs, (r : Int)) = s) := ⟨_, rfl⟩
  have zH : HS.size ≤ 40 := by
    rw [← HH.out]
    unfold headS
    rcases op with _ | _
    · exact (by decide : sClosed.size ≤ 40)
    · have a := ha rfl
      have e1 : (numS zi.toNat).size ≤ 6 := numS_size (by have hz : zi ≤ 8 := a.2.1; omega)
      have e2 : (numS os.length).size ≤ 6 := numS_size (by have ho : os.length ≤ 4 := a.2.2.1; omega)
      rw [if_pos rfl, size_app, size_app, size_app]
      have e3 : sSize.size = 5 := rfl
      have e4 : sOps.size = 6 := rfl
      show sSize.size + (numS zi.toNat).size + sOps.size + (numS os.length).size ≤ 40
      omega
  obtain ⟨S5, HS5, k5, z5⟩ := catx HS ⟨#[59, 32, 102, 97, 99, 116, 115, 32]⟩ 40 8 zH (by decide) (by decide)
  obtain ⟨S6, HS6, k6, z6⟩ := catx S5 N3 _ _ z5 z3 (by decide)
  obtain ⟨S7, HS7, k7, z7⟩ := catx S6 ⟨#[59, 32, 114, 101, 102, 117, 115, 101, 100, 32]⟩ _ 10 z6 (by decide) (by decide)
  obtain ⟨S8, HS8, k8, z8⟩ := catx S7 N4 _ _ z7 z4 (by decide)
  have HRES : Hid (S8 = lineS (op, (zi, os), fs, (r : Int))) := by
    show _ = _
    unfold lineS
    rw [HH.out]
    show S8 = HS ++ sFacts ++ numS fs.length ++ sRef ++ numS r
    rw [show fs.length = n from qF.len, HN3.out, HN4.out, ← HS8.out, ← HS7.out, ← HS6.out, ← HS5.out]
    rfl
  have cP0 := BP.cell 0
  have cP1 := BP.cell 1
  have cP2 := BP.cell 2
  have cP3 := BP.cell 3
  have cP4 := BP.cell 4
  simp at cP0 cP1 cP2 cP3 cP4
  have Tk : Below w0.heap.size w0 w0 := Below.refl _ _
  clear hw0 hsz0
  rcases op with _ | _
  · have HC : Hid (HS = ⟨#[99, 108, 111, 115, 101, 100]⟩) := HH.out.symm
    clear ha hx zH z5 z6 z7 z8 z3 z4
    go_enter Tryz.func25, Tryz.ntmps25
    go_upto_region 1 with fail
    rw [← HW0.out]
    go_upto_region 4 with fail
    rw [← HC.out]
    go_region_held3 (fun w' => w'.cell? ⟨w.heap.size, 3, none⟩ = some (.slice F n c) ∧ w'.cell? ⟨w.heap.size, 4, none⟩ = some (.int .i64 (r : Int))) (first | go_keep | exact ⟨keepc Tk cP3, keepc Tk cP4⟩) (first | (go_at_call 27; (with_reducible refine (HI3.out _ ?_).mono ?_); (first | exact Tk | exact Below.drew Tk); rintro e wn ⟨rfl, hbn⟩; replace Tk := below_next (by first | exact Tk | exact Below.drew Tk) hbn rfl) | (go_at_call 27; (with_reducible refine (HI4.out _ ?_).mono ?_); (first | exact Tk | exact Below.drew Tk); rintro e wn ⟨rfl, hbn⟩; replace Tk := below_next (by first | exact Tk | exact Below.drew Tk) hbn rfl))
    all_goals
      go_wp2_with fail
      go_ret
      exact ⟨ret_str HRES.out, below_next T0 Tk rfl⟩
  · have a := ha rfl
    obtain ⟨z, rfl⟩ : ∃ z : Nat, zi = (z : Int) := Int.eq_ofNat_of_zero_le (by have h1 : 1 ≤ zi := a.1; omega)
    have hz8 : z ≤ 8 := by have : (z : Int) ≤ 8 := a.2.1; omega
    have hk4 : k ≤ 4 := by rw [← qB.len]; exact a.2.2.1
    obtain ⟨N1, HN1⟩ : ∃ s, Hid (numS z = s) := ⟨_, rfl⟩
    obtain ⟨N2, HN2⟩ : ∃ s, Hid (numS k = s) := ⟨_, rfl⟩
    have z1 : N1.size ≤ 6 := by rw [← HN1.out]; exact numS_size (by omega)
    have z2 : N2.size ≤ 6 := by rw [← HN2.out]; exact numS_size (by omega)
    have HI1 : Hid (∀ wz, Below w0.heap.size w0 wz → Calls Tryz.prog 27 #[.int .i64 (z : Int)] wz (Bl wz (.string N1))) := fun wz hz => by
      have := itoa_any z (by omega) wz (HTab.out.next hz)
      rw [← HN1.out]; exact this
    have HI2 : Hid (∀ wz, Below w0.heap.size w0 wz → Calls Tryz.prog 27 #[.int .i64 (k : Int)] wz (Bl wz (.string N2))) := fun wz hz => by
      have := itoa_any k (by omega) wz (HTab.out.next hz)
      rw [← HN2.out]; exact this
    obtain ⟨S1, HS1, k1, y1⟩ := catx ⟨#[115, 105, 122, 101, 32]⟩ N1 5 _ (by decide) z1 (by decide)
    obtain ⟨S2, HS2, k2, y2⟩ := catx S1 ⟨#[59, 32, 111, 112, 115, 32]⟩ _ 6 y1 (by decide) (by decide)
    obtain ⟨S3, HS3, k3, y3⟩ := catx S2 N2 _ _ y2 z2 (by decide)
    have HC : Hid (S3 = HS) := by
      show _ = _
      rw [← HH.out, ← HS3.out, ← HS2.out, ← HS1.out]
      unfold headS
      show _ = sSize ++ numS z ++ sOps ++ numS os.length
      rw [show os.length = k from qB.len, HN1.out, HN2.out]
      rfl
    have hk64 := qB.le
    clear ha hx zH z5 z6 z7 z8 z3 z4 y1 y2 y3 z1 z2 a
    go_enter Tryz.func25, Tryz.ntmps25
    go_upto_region 1 with fail
    rw [← HW0.out]
    go_upto_region 3 with fail
    go_region_held3 (fun w' => w'.cell? ⟨w.heap.size, 1, none⟩ = some (.int .i64 (z : Int)) ∧ w'.cell? ⟨w.heap.size, 2, none⟩ = some (.slice B k d)) (first | go_keep | exact ⟨keepc Tk cP1, keepc Tk cP2⟩) (first | (go_at_call 27; (with_reducible refine (HI1.out _ ?_).mono ?_); (first | exact Tk | exact Below.drew Tk); rintro e wn ⟨rfl, hbn⟩; replace Tk := below_next (by first | exact Tk | exact Below.drew Tk) hbn rfl) | (go_at_call 27; (with_reducible refine (HI2.out _ ?_).mono ?_); (first | exact Tk | exact Below.drew Tk); rintro e wn ⟨rfl, hbn⟩; replace Tk := below_next (by first | exact Tk | exact Below.drew Tk) hbn rfl))
    all_goals
      have xP3 := keepc Tk cP3
      have xP4 := keepc Tk cP4
      go_upto_region 4 with fail
      rw [HC.out]
      go_region_held3 (fun w' => w'.cell? ⟨w.heap.size, 3, none⟩ = some (.slice F n c) ∧ w'.cell? ⟨w.heap.size, 4, none⟩ = some (.int .i64 (r : Int))) (first | go_keep | exact ⟨keepc Tk cP3, keepc Tk cP4⟩) (first | (go_at_call 27; (with_reducible refine (HI3.out _ ?_).mono ?_); (first | exact Tk | exact Below.drew Tk); rintro e wn2 ⟨rfl, hbn2⟩; replace Tk := below_next (by first | exact Tk | exact Below.drew Tk) hbn2 rfl) | (go_at_call 27; (with_reducible refine (HI4.out _ ?_).mono ?_); (first | exact Tk | exact Below.drew Tk); rintro e wn2 ⟨rfl, hbn2⟩; replace Tk := below_next (by first | exact Tk | exact Below.drew Tk) hbn2 rfl))
    all_goals
      go_wp2_with fail
      go_ret
      exact ⟨ret_str HRES.out, below_next T0 Tk rfl⟩
set_option maxRecDepth 20000 in
set_option maxHeartbeats 8000000 in
theorem l32Line_any (cs : List Value) (x : LabM) (w : World) (h : shLab.rd w cs x) (hx : labB x = true) :
    Calls Tryz.prog 21 #[.agg cs.toArray] w (Bl w (.string (lineS x))) := by
  obtain ⟨hr0, hr1, h12, ha⟩ := lab_parts hx
  obtain ⟨op, ⟨zi, os⟩, fs, ri⟩ := x
  obtain ⟨B, k, d, F, n, c, rfl, qz, qB, qF, qr⟩ := rdLab h
  replace hr0 : 0 ≤ ri := hr0
  replace hr1 : ri ≤ 9999 := hr1
  obtain ⟨r, rfl⟩ := Int.eq_ofNat_of_zero_le hr0
  have hn12 : n ≤ 12 := by rw [← qF.len]; exact h12
  have hr9 : r ≤ 9999 := by omega
  show Calls Tryz.prog 21 #[.agg #[.bool op, .int .i64 zi, .slice B k d, .slice F n c, .int .i64 (r : Int)]] w (Bl w (.string (lineS (op, (zi, os), fs, (r : Int)))))
  obtain ⟨w0, hw0, T0, hsz0, BP⟩ := boxes1 w #[.bool op, .int .i64 zi, .slice B k d, .slice F n c, .int .i64 (r : Int)] 39
  have HW0 := Lib.hid hw0
  obtain ⟨N3, HN3⟩ : ∃ s, Hid (numS n = s) := ⟨_, rfl⟩
  obtain ⟨N4, HN4⟩ : ∃ s, Hid (numS r = s) := ⟨_, rfl⟩
  have z3 : N3.size ≤ 6 := by rw [← HN3.out]; exact numS_size (by omega)
  have z4 : N4.size ≤ 6 := by rw [← HN4.out]; exact numS_size (by omega)
  have HI3 : Hid (∀ wz, Below w0.heap.size w0 wz → Calls Tryz.prog 23 #[.int .i64 (n : Int)] wz (Bl wz (.string N3))) := fun wz hz => by
    have := bl_of_quiet (l1Num_any n (by omega) wz)
    rw [← HN3.out]; exact this
  have HI4 : Hid (∀ wz, Below w0.heap.size w0 wz → Calls Tryz.prog 23 #[.int .i64 (r : Int)] wz (Bl wz (.string N4))) := fun wz hz => by
    have := bl_of_quiet (l1Num_any r (by omega) wz)
    rw [← HN4.out]; exact this
  obtain ⟨HS, HH⟩ : ∃ s, Hid (headS (op, (zi, os), fs, (r : Int)) = s) := ⟨_, rfl⟩
  have zH : HS.size ≤ 40 := by
    rw [← HH.out]
    unfold headS
    rcases op with _ | _
    · exact (by decide : sClosed.size ≤ 40)
    · have a := ha rfl
      have e1 : (numS zi.toNat).size ≤ 6 := numS_size (by have hz : zi ≤ 8 := a.2.1; omega)
      have e2 : (numS os.length).size ≤ 6 := numS_size (by have ho : os.length ≤ 4 := a.2.2.1; omega)
      rw [if_pos rfl, size_app, size_app, size_app]
      have e3 : sSize.size = 5 := rfl
      have e4 : sOps.size = 6 := rfl
      show sSize.size + (numS zi.toNat).size + sOps.size + (numS os.length).size ≤ 40
      omega
  obtain ⟨S5, HS5, k5, z5⟩ := catx HS ⟨#[59, 32, 102, 97, 99, 116, 115, 32]⟩ 40 8 zH (by decide) (by decide)
  obtain ⟨S6, HS6, k6, z6⟩ := catx S5 N3 _ _ z5 z3 (by decide)
  obtain ⟨S7, HS7, k7, z7⟩ := catx S6 ⟨#[59, 32, 114, 101, 102, 117, 115, 101, 100, 32]⟩ _ 10 z6 (by decide) (by decide)
  obtain ⟨S8, HS8, k8, z8⟩ := catx S7 N4 _ _ z7 z4 (by decide)
  have HRES : Hid (S8 = lineS (op, (zi, os), fs, (r : Int))) := by
    show _ = _
    unfold lineS
    rw [HH.out]
    show S8 = HS ++ sFacts ++ numS fs.length ++ sRef ++ numS r
    rw [show fs.length = n from qF.len, HN3.out, HN4.out, ← HS8.out, ← HS7.out, ← HS6.out, ← HS5.out]
    rfl
  have cP0 := BP.cell 0
  have cP1 := BP.cell 1
  have cP2 := BP.cell 2
  have cP3 := BP.cell 3
  have cP4 := BP.cell 4
  simp at cP0 cP1 cP2 cP3 cP4
  have Tk : Below w0.heap.size w0 w0 := Below.refl _ _
  clear hw0 hsz0
  rcases op with _ | _
  · have HC : Hid (HS = ⟨#[99, 108, 111, 115, 101, 100]⟩) := HH.out.symm
    clear ha hx zH z5 z6 z7 z8 z3 z4
    go_enter Tryz.func21, Tryz.ntmps21
    go_upto_region 1 with fail
    rw [← HW0.out]
    go_upto_region 4 with fail
    rw [← HC.out]
    go_region_held3 (fun w' => w'.cell? ⟨w.heap.size, 3, none⟩ = some (.slice F n c) ∧ w'.cell? ⟨w.heap.size, 4, none⟩ = some (.int .i64 (r : Int))) (first | go_keep | exact ⟨keepc Tk cP3, keepc Tk cP4⟩) (first | (go_at_call 23; (with_reducible refine (HI3.out _ ?_).mono ?_); (first | exact Tk | exact Below.drew Tk); rintro e wn ⟨rfl, hbn⟩; replace Tk := below_next (by first | exact Tk | exact Below.drew Tk) hbn rfl) | (go_at_call 23; (with_reducible refine (HI4.out _ ?_).mono ?_); (first | exact Tk | exact Below.drew Tk); rintro e wn ⟨rfl, hbn⟩; replace Tk := below_next (by first | exact Tk | exact Below.drew Tk) hbn rfl))
    all_goals
      go_wp2_with fail
      go_ret
      exact ⟨ret_str HRES.out, below_next T0 Tk rfl⟩
  · have a := ha rfl
    obtain ⟨z, rfl⟩ : ∃ z : Nat, zi = (z : Int) := Int.eq_ofNat_of_zero_le (by have h1 : 1 ≤ zi := a.1; omega)
    have hz8 : z ≤ 8 := by have : (z : Int) ≤ 8 := a.2.1; omega
    have hk4 : k ≤ 4 := by rw [← qB.len]; exact a.2.2.1
    obtain ⟨N1, HN1⟩ : ∃ s, Hid (numS z = s) := ⟨_, rfl⟩
    obtain ⟨N2, HN2⟩ : ∃ s, Hid (numS k = s) := ⟨_, rfl⟩
    have z1 : N1.size ≤ 6 := by rw [← HN1.out]; exact numS_size (by omega)
    have z2 : N2.size ≤ 6 := by rw [← HN2.out]; exact numS_size (by omega)
    have HI1 : Hid (∀ wz, Below w0.heap.size w0 wz → Calls Tryz.prog 23 #[.int .i64 (z : Int)] wz (Bl wz (.string N1))) := fun wz hz => by
      have := bl_of_quiet (l1Num_any z (by omega) wz)
      rw [← HN1.out]; exact this
    have HI2 : Hid (∀ wz, Below w0.heap.size w0 wz → Calls Tryz.prog 23 #[.int .i64 (k : Int)] wz (Bl wz (.string N2))) := fun wz hz => by
      have := bl_of_quiet (l1Num_any k (by omega) wz)
      rw [← HN2.out]; exact this
    obtain ⟨S1, HS1, k1, y1⟩ := catx ⟨#[115, 105, 122, 101, 32]⟩ N1 5 _ (by decide) z1 (by decide)
    obtain ⟨S2, HS2, k2, y2⟩ := catx S1 ⟨#[59, 32, 111, 112, 115, 32]⟩ _ 6 y1 (by decide) (by decide)
    obtain ⟨S3, HS3, k3, y3⟩ := catx S2 N2 _ _ y2 z2 (by decide)
    have HC : Hid (S3 = HS) := by
      show _ = _
      rw [← HH.out, ← HS3.out, ← HS2.out, ← HS1.out]
      unfold headS
      show _ = sSize ++ numS z ++ sOps ++ numS os.length
      rw [show os.length = k from qB.len, HN1.out, HN2.out]
      rfl
    have hk64 := qB.le
    clear ha hx zH z5 z6 z7 z8 z3 z4 y1 y2 y3 z1 z2 a
    go_enter Tryz.func21, Tryz.ntmps21
    go_upto_region 1 with fail
    rw [← HW0.out]
    go_upto_region 3 with fail
    go_region_held3 (fun w' => w'.cell? ⟨w.heap.size, 1, none⟩ = some (.int .i64 (z : Int)) ∧ w'.cell? ⟨w.heap.size, 2, none⟩ = some (.slice B k d)) (first | go_keep | exact ⟨keepc Tk cP1, keepc Tk cP2⟩) (first | (go_at_call 23; (with_reducible refine (HI1.out _ ?_).mono ?_); (first | exact Tk | exact Below.drew Tk); rintro e wn ⟨rfl, hbn⟩; replace Tk := below_next (by first | exact Tk | exact Below.drew Tk) hbn rfl) | (go_at_call 23; (with_reducible refine (HI2.out _ ?_).mono ?_); (first | exact Tk | exact Below.drew Tk); rintro e wn ⟨rfl, hbn⟩; replace Tk := below_next (by first | exact Tk | exact Below.drew Tk) hbn rfl))
    all_goals
      have xP3 := keepc Tk cP3
      have xP4 := keepc Tk cP4
      go_upto_region 4 with fail
      rw [HC.out]
      go_region_held3 (fun w' => w'.cell? ⟨w.heap.size, 3, none⟩ = some (.slice F n c) ∧ w'.cell? ⟨w.heap.size, 4, none⟩ = some (.int .i64 (r : Int))) (first | go_keep | exact ⟨keepc Tk cP3, keepc Tk cP4⟩) (first | (go_at_call 23; (with_reducible refine (HI3.out _ ?_).mono ?_); (first | exact Tk | exact Below.drew Tk); rintro e wn2 ⟨rfl, hbn2⟩; replace Tk := below_next (by first | exact Tk | exact Below.drew Tk) hbn2 rfl) | (go_at_call 23; (with_reducible refine (HI4.out _ ?_).mono ?_); (first | exact Tk | exact Below.drew Tk); rintro e wn2 ⟨rfl, hbn2⟩; replace Tk := below_next (by first | exact Tk | exact Below.drew Tk) hbn2 rfl))
    all_goals
      go_wp2_with fail
      go_ret
      exact ⟨ret_str HRES.out, below_next T0 Tk rfl⟩
noncomputable def llM (x : LabM) : ByteArray × Bool := if labB x then (lineS x, true) else (⟨#[]⟩, false)
theorem llM_no {x : LabM} (h : labB x = false) : llM x = (⟨#[]⟩, false) := by unfold llM; rw [h]; rfl
theorem llM_yes {x : LabM} (h : labB x = true) : llM x = (lineS x, true) := by unfold llM; rw [h]; rfl
end Go.Proofs.YtbonebpheimbaaaGreatDoor
namespace Go.Proofs.YtbonebpheimbaaaGreatDoor
open Go.RowKit

end Go.Proofs.YtbonebpheimbaaaGreatDoor
