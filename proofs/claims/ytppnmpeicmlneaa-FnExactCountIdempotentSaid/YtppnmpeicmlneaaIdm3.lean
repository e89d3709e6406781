
/- Walks: CountIdempotent of the program. -/
import Derived.Test.YtppnmpeicmlneaaIdm2
import Derived.Deep.RegionHeld3
import Derived.Deep.DeepCutAuto
namespace Go.Proofs.Ytppnmpeicmlneaa
open Go.RowKit

noncomputable def ciM (x : Int) : Int := if inB x 1 3 then ((famC x.toNat 2 (x.toNat ^ prs x.toNat) (idT x.toNat) : Nat) : Int) else 0
theorem ci_no {x : Int} (h : inB x 1 3 = false) : ciM x = 0 := by unfold ciM; rw [h]; rfl
theorem ci_yes {n : Nat} (h : inB (n : Int) 1 3 = true) : ciM (n : Int) = ((famC n 2 (n ^ prs n) (idT n) : Nat) : Int) := by unfold ciM; rw [h, if_pos rfl, Int.toNat_natCast]
set_option maxRecDepth 100000 in
theorem ciEnter (args : Array Value) (w : World) : (callFunc 86 args).run Try.prog w = .ok (.enter 86 args) w := rfl
theorem prs3 {n p : Nat} (h3 : n ≤ 3) (hp : prs n = p) : p ≤ 3 := by
  have key : ∀ n, n ≤ 3 → prs n ≤ 3 := by decide
  have := key n h3
  omega
theorem pow27 {n N : Nat} (h3 : n ≤ 3) (hp : n ^ prs n = N) : N ≤ 27 := by
  have key : ∀ n, n ≤ 3 → n ^ prs n ≤ 27 := by decide
  have := key n h3
  omega
set_option maxRecDepth 100000 in
set_option maxHeartbeats 4000000 in
theorem implCI_any (x : Int) (w : World) (hx : InR x) :
    Calls Try.prog 37 #[.int .i64 x] w (Bl w (.tuple #[.int .i64 (ciM x), .bool (inB x 1 3)])) := by
  have hx1 := hx.1
  have hx2 := hx.2
  rcases h1 : inB x 1 3 with _ | _
  · have HC := Lib.hid (ci_no h1)
    have hr : x < 1 ∨ 3 < x := by unfold inB at h1; simp at h1; omega
    rw [HC.out]
    clear h1
    by_cases hlo : x < 1
    · clear hr
      go_enter Try.func37, Try.ntmps37
      go_wp2_with fail
      go_ret2
      exact ⟨rfl, below_box _ _⟩
    · have hhi : 3 < x := by omega
      clear hr
      go_enter Try.func37, Try.ntmps37
      go_wp2_with fail
      go_ret2
      exact ⟨rfl, below_box _ _⟩
  · have hr : 1 ≤ x ∧ x ≤ 3 := by unfold inB at h1; simpa using h1
    obtain ⟨n, rfl⟩ := Int.eq_ofNat_of_zero_le (show 0 ≤ x by omega)
    have n1 : 1 ≤ n := by omega
    have n3 : n ≤ 3 := by omega
    have HC := Lib.hid (ci_yes h1)
    obtain ⟨N, HN⟩ : ∃ N, Hid (n ^ prs n = N) := ⟨_, rfl⟩
    have hN : N ≤ 27 := pow27 n3 HN.out
    obtain ⟨p, HP⟩ : ∃ p, Hid (prs n = p) := ⟨_, rfl⟩
    have hp3 : p ≤ 3 := prs3 n3 HP.out
    obtain ⟨L, HL⟩ : ∃ L, Hid (n * n = L) := ⟨_, rfl⟩
    have HNP : Hid (n ^ p = N) := by show _ = _; rw [← HP.out]; exact HN.out
    have HF : Hid (FamOk n 2 N (idT n)) := by show FamOk _ _ _ _; rw [← HN.out]; exact idm_ok n1 n3
    rw [HC.out, HN.out]
    obtain ⟨fc, HFC⟩ : ∃ fc, Hid (famC n 2 N (idT n) = fc) := ⟨_, rfl⟩
    rw [HFC.out]
    obtain ⟨w0, hw0⟩ : ∃ w0, w0 = w.alloc (.cells #[.int .i64 (n : Int)] 3) := ⟨_, rfl⟩
    have T0 : Below w.heap.size w w0 := by rw [hw0]; exact below_box _ _
    have BP : Blk w0 w.heap.size 3 #[.int .i64 (n : Int)] := by rw [hw0]; exact Blk.new _ _ _
    have hz0 : w0.heap.size = w.heap.size + 1 := by rw [hw0]; simp
    obtain ⟨w2, hw2⟩ : ∃ w2, w2 = w0.alloc (.cells #[.int .i64 (p : Int)] 3) := ⟨_, rfl⟩
    have hb2 : Below w0.heap.size w0 w2 := by rw [hw2]; exact below_box _ _
    have BQ : Blk w2 (w.heap.size + 1) 3 #[.int .i64 (p : Int)] := by rw [hw2, ← hz0]; exact Blk.new _ _ _
    replace T0 := below_next T0 hb2 rfl
    replace BP := BP.next hb2
    have cP := BP.cell 0
    have cQ := BQ.cell 0
    simp at cP cQ
    have HCF : ∀ wz, Below w2.heap.size w2 wz → Calls Try.prog 82 #[.int .i64 (n : Int), .int .i64 2, .int .i64 (N : Int), .func (.func 86) #[] #[.pointer (some ⟨w.heap.size + 1, 0, none⟩), .pointer (some ⟨w.heap.size, 0, none⟩)]] wz (Bl wz (.int .i64 (fc : Int))) := fun wz hz => by
      have := countForms_any (k := 2) (L := L) (caps := #[.pointer (some ⟨w.heap.size + 1, 0, none⟩), .pointer (some ⟨w.heap.size, 0, none⟩)]) HF.out wz ciEnter (fun i wy hi hy => by
        have hc := (BP.next hz).next hy
        have hc0 := hc.cell 0
        have hd := (BQ.next hz).next hy
        have hd0 := hd.cell 0
        simp at hc0 hd0
        exact idTab i n p L (w.heap.size + 1) w.heap.size wy hd0 hc0 n1 n3 HP HL (by rw [HN.out]; exact hi)) (by omega)
      rw [HFC.out] at this
      exact this
    have HW2 : Hid (w2 = (w.alloc (.cells #[.int .i64 (n : Int)] 3)).alloc (.cells #[.int .i64 (p : Int)] 3)) := by show _ = _; rw [hw2, hw0]
    have Tk : Below w2.heap.size w2 w2 := Below.refl _ _
    have HPI : Hid (wrap64 ((wrap64 ((n : Int) * ((n : Int) - 1))).tdiv 2) = (p : Int)) := by
      show _ = _
      rw [← HP.out]
      obtain rfl | rfl | rfl : n = 1 ∨ n = 2 ∨ n = 3 := by omega
      all_goals decide +kernel
    clear hw0 hw2 hz0 h1 hr hx hx1 hx2 hb2
    go_enter Try.func37, Try.ntmps37
    go_upto_region 4 with fail
    rw [HPI.out, ← HW2.out]
    go_cut [2, 3] (fun v2 v3 wx => v2 = .int .i64 (fc : Int) ∧ v3 = .bool true ∧ Below w2.heap.size w2 wx)
    case first =>
      go_region_held3 (fun w' => w'.cell? ⟨w.heap.size, 0, none⟩ = some (.int .i64 (n : Int)) ∧ w'.cell? ⟨w.heap.size + 1, 0, none⟩ = some (.int .i64 (p : Int))) (first | go_keep | exact ⟨keepc Tk cP, keepc Tk cQ⟩) (first
        | (go_at_call 83; refine (power_any n p N _ HNP.out (by omega) (by omega)).mono ?_; rintro e wn ⟨rfl, rfl⟩)
        | (go_at_call 82; (with_reducible refine (HCF _ ?_).mono ?_); (first | exact Tk | exact Below.drew Tk); rintro e wn ⟨rfl, hbn⟩; replace Tk := below_next (by first | exact Tk | exact Below.drew Tk) hbn rfl))
      all_goals
        go_wp2_with fail
        go_meet
        exact ⟨rfl, rfl, by first | exact Tk | exact Below.drew Tk⟩
    case rest =>
      obtain ⟨rfl, rfl, hb⟩ := hcut
      have T1 := below_next T0 hb rfl
      go_wp2_with fail
      go_ret2
      exact ⟨rfl, T1⟩
end Go.Proofs.Ytppnmpeicmlneaa
