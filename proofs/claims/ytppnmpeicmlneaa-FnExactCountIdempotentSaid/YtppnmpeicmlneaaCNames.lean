
/- Walks: CanonicalNames. -/
import Derived.Test.YtppnmpeicmlneaaCanon3
namespace Go.Proofs.Ytppnmpeicmlneaa
open Go.RowKit

def cnM (x : AlgebraM) : List Int := if smallB x then canN x else []
theorem cnM_R {x : AlgebraM} : ∀ y ∈ cnM x, InR y := by
  intro y hy
  unfold cnM at hy
  split at hy
  · rename_i h
    have hs := small_iff.1 h
    have := (canN_ok (x := x)).2.2.1 y hy
    have := hs.2.1
    exact ⟨by omega, by omega⟩
  · cases hy
theorem cnM_len {x : AlgebraM} : (cnM x).length ≤ 4194304 := by
  unfold cnM
  split
  · rename_i h
    have hs := small_iff.1 h
    rw [(canN_ok (x := x)).2.1]
    have := hs.2.1
    omega
  · exact Nat.zero_le _

set_option maxHeartbeats 2000000 in
theorem implCN_any (cs : List Value) (x : AlgebraM) (w : World) (h : shAlgebra.rd w cs x) :
    Calls Try.prog 41 #[.agg cs.toArray] w (OwV (Sh.il 3) w (cnM x) (smallB x)) := by
  have HCR := Lib.hid (cnM_R (x := x))
  have hrd := h
  obtain ⟨B, m, d, rfl, qs, qo⟩ := rdAlgebra h
  obtain ⟨w0, hw0, T0, hsz0, BP⟩ := boxes1 w #[.int .i64 x.1, .slice B m d] 41
  have HW0 := Lib.hid hw0
  clear hw0
  obtain ⟨r, hr⟩ : ∃ r, smallB x = r := ⟨_, rfl⟩
  have HM : Hid (cnM x = if r then canN x else []) := by show _ = _; unfold cnM; rw [hr]
  have HS := Lib.hid hr
  rw [hr]
  clear hr
  go_enter Try.func41, Try.ntmps41
  go_wp2_with fail
  rw [← HW0.out]
  refine (isNamed_any _ x _ (shAlgebra.stab hrd T0.block)).mono ?_
  rintro e w1 ⟨rfl, hb1⟩
  rw [HS.out]
  have T1 := below_next T0 hb1 rfl
  have cP0 := (BP.next hb1).cell 0
  have cP1 := (BP.next hb1).cell 1
  simp at cP0 cP1
  rcases r with _ | _
  · have hl : (w1.alloc (.cells #[] 3)).ownsRow w.heap.size 3 1 (.slice (some ⟨w1.heap.size, 0, none⟩) 0 0) 0 [] := World.ownsRow_lit _ _ _ T1.size (Nat.zero_le _) rfl
    have HL := Lib.hid hl
    clear hl
    go_wp2_with fail
    go_ret2
    exact ⟨_, _, rfl, by rw [HM.out]; exact own_shape (xs := []) HL.out (fun y hy => by simp at hy), obl_iv HL.out, below_next T1 (below_box _ _) rfl⟩
  · have hsm := small_iff.1 HS.out
    obtain ⟨n, hn⟩ : ∃ n : Nat, x.1 = (n : Int) := ⟨x.1.toNat, by have h1 := hsm.1; omega⟩
    have HNN : Hid (x.1.toNat = n) := by show _ = _; omega
    have HNL : Hid ((canN x).length = n) := by show _ = _; rw [← HNN.out]; exact (canN_ok (x := x)).2.1
    have HCAN := Lib.hid (canonical_any [.int .i64 x.1, .slice B m d] x n w1 (shAlgebra.stab hrd T1.block) hsm hn)
    have HM2 : Hid (cnM x = canN x) := HM.out
    clear hn
    go_wp2_with fail
    refine HCAN.out.mono ?_
    rintro e w2 ⟨vb, css, bls, Af, cf, rfl, hP, ho, hb2⟩
    have T2 := below_next T1 hb2 rfl
    obtain ⟨VA, vc, rfl⟩ := own_slice hP.2.1
    have hb3 := below_box w2 (.cells #[.int .i64 (n : Int), .slice VA (canA x).2.length vc] 41)
    have ho3 := own_next ho hb3
    have hO : (w2.alloc (.cells #[.int .i64 (n : Int), .slice VA (canA x).2.length vc] 41)).ownsRow w.heap.size 3 1 (.slice Af n cf) (canN x).length (ints (canN x)) := by rw [HNL.out]; exact own_mono ho3 T1.size
    have HO := Lib.hid hO
    have HT := Lib.hid (below_next T2 hb3 rfl)
    clear hO ho3 hb3 ho hP
    go_wp2_with fail
    go_ret2
    exact ⟨_, _, rfl, by rw [HM2.out]; exact own_shape HO.out (by have := HCR.out; rw [HM2.out] at this; exact this), obl_iv HO.out, HT.out⟩
set_option maxHeartbeats 2000000 in
theorem specCN_any (cs : List Value) (x : AlgebraM) (w : World) (h : shAlgebra.rd w cs x) :
    Calls Try.prog 40 #[.agg cs.toArray] w (RdV (Sh.il 3) w (cnM x) (smallB x)) := by
  have hrd := h
  obtain ⟨B, m, d, rfl, qs, qo⟩ := rdAlgebra h
  obtain ⟨w0, hw0, T0, hsz0, BP⟩ := boxes1 w #[.int .i64 x.1, .slice B m d] 41
  have HW0 := Lib.hid hw0
  clear hw0
  obtain ⟨r, hr⟩ : ∃ r, smallB x = r := ⟨_, rfl⟩
  have HM : Hid (cnM x = if r then canN x else []) := by show _ = _; unfold cnM; rw [hr]
  have HS := Lib.hid hr
  rw [hr]
  clear hr
  go_enter Try.func40, Try.ntmps40
  go_wp2_with fail
  rw [← HW0.out]
  refine (l31Takes_any _ x _ (shAlgebra.stab hrd T0.block)).mono ?_
  rintro e w1 ⟨rfl, hb1⟩
  rw [HS.out]
  have T1 := below_next T0 hb1 rfl
  have cP0 := (BP.next hb1).cell 0
  have cP1 := (BP.next hb1).cell 1
  simp at cP0 cP1
  rcases r with _ | _
  · have HN : Hid (cnM x = []) := HM.out
    go_wp2_with fail
    go_ret2
    exact ⟨_, rfl, by rw [HN.out]; exact ⟨_, rfl, _, 0, _, rfl, RdL.nil _ _ _⟩, below_next T1 (below_box _ _) rfl⟩
  · have hsm := small_iff.1 HS.out
    have HCAN := Lib.hid (l31First_any [.int .i64 x.1, .slice B m d] x w1 (shAlgebra.stab hrd T1.block) hsm)
    have HM2 : Hid (cnM x = canN x) := HM.out
    go_wp2_with fail
    refine HCAN.out.mono ?_
    rintro e w2 ⟨A, c, rfl, hR, hb2⟩
    have T2 := below_next T1 hb2 rfl
    have HR := Lib.hid hR
    clear hR
    go_wp2_with fail
    go_ret2
    exact ⟨_, rfl, by rw [HM2.out]; exact ⟨_, rfl, _, _, _, rfl, HR.out⟩, T2⟩
end Go.Proofs.Ytppnmpeicmlneaa
