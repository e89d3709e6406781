
/- Walk: a spoilt text. -/
import Derived.Test.YteogfjddkaodkaaDoorCur2
namespace Go.Proofs.YteogfjddkaodkaaDoor
open Go.RowKit

theorem size_ext (s : ByteArray) (i j : Nat) (hi : i ≤ j) (hj : j ≤ s.size) : (s.extract i j).size = j - i := by
  rw [ByteArray.size_extract]
  omega
def SpoiltE (w : World) (g t m : Nat) (e : Ending) (w' : World) : Prop := ∃ s : ByteArray, s.size ≤ m ∧ e = .returned (.string s) ∧ CurOk w' g t ∧ w.grownBy w' (some g)

set_option maxRecDepth 20000 in
set_option maxHeartbeats 4000000 in
theorem spoilt_any (g t : Nat) (T V : ByteArray) (w : World) (h : CurOk w g t) (ht : t ≤ 999999900) (hT : T.size ≤ 100000) (hV0 : 1 ≤ V.size) (hV1 : V.size ≤ 100) :
    Calls Tryd.prog 57 #[.pointer (some ⟨g, 0, none⟩), .string T, .string V] w (SpoiltE w g (t + 6) (T.size + 1)) := by
  have hv : (1 : Int) ≤ (V.size : Int) := by omega
  by_cases hz : T = ⟨#[]⟩
  · subst hz
    have e1 := size_ext V 0 1 (by omega) hV0
    go_enter Tryd.func57, Tryd.ntmps57
    go_wp2_with fail
    go_ret
    exact ⟨V.extract 0 1, by rw [e1]; decide, rfl, h.mono (by omega), grown_refl _ _⟩
  · have hTs : 0 < T.size := by
      rcases Nat.eq_zero_or_pos T.size with h0 | h0
      · exact absurd (ByteArray.ext (Array.eq_empty_of_size_eq_zero h0)) hz
      · exact h0
    have hq0 : (T.toList == (⟨#[]⟩ : ByteArray).toList) = false := by
      rw [str_eq]
      simp only [decide_eq_false_iff_not]
      intro he
      have h3 : (bs T).length = 0 := by rw [he]; rfl
      have h2 : (bs T).length = T.size := rfl
      omega
    have hq : T.toList.isEmpty = false := by
      rcases hl : T.toList with _ | ⟨a, l⟩
      · rw [hl] at hq0
        have e0 : (⟨#[]⟩ : ByteArray).toList = [] := by kernel_rfl
        rw [e0] at hq0
        exact absurd hq0 (by decide)
      · rfl
    clear hq0
    go_enter Tryd.func57, Tryd.ntmps57
    go_wp2_with fail
    refine (pick_any g t T.size _ h (by omega) (by omega)).mono ?_
    rintro e w1 ⟨x, hx, rfl, H1, g1⟩
    have hxT : x < T.size := by omega
    clear hx
    go_wp2_with fail
    refine (pick_any g (t + 2) V.size _ H1 (by omega) (by omega)).mono ?_
    rintro e w2 ⟨y, hy, rfl, H2, g2⟩
    have hyV : y < V.size := by omega
    clear hy
    have hy0 : (0 : Int) ≤ (y : Int) := by omega
    have hy1 : (y : Int) ≤ (V.size : Int) := by omega
    have e1 := size_ext V y V.size (by omega) (Nat.le_refl _)
    have hy2 : (1 : Int) ≤ ((V.extract y V.size).size : Int) := by omega
    have G2 := grown_trans g1 g2
    go_wp2_with fail
    have e2 := size_ext (V.extract y V.size) 0 1 (by omega) (by omega)
    obtain ⟨W, HW⟩ : ∃ W, Hid ((V.extract y V.size).extract 0 1 = W) := ⟨_, rfl⟩
    rw [HW.out] at e2 ⊢
    refine (pick_any g (t + 2 + 2) 3 _ H2 (by omega) (by decide)).mono ?_
    rintro e w3 ⟨z, hz3, rfl, H3, g3⟩
    have G3 := grown_trans G2 g3
    have hx0 : (0 : Int) ≤ (x : Int) := by omega
    have hx1 : (x : Int) ≤ (T.size : Int) := by omega
    have hx2 : (x : Int) + 1 ≤ (T.size : Int) := by omega
    have hx3 : (0 : Int) ≤ (x : Int) + 1 := by omega
    have hwx : IntKind.i64.wrap ((x : Int) + 1) = (x : Int) + 1 := by unfold IntKind.wrap; simp [IntKind.signed, IntKind.bits]; omega
    have htn : ((x : Int) + 1).toNat = x + 1 := by omega
    have l1 := size_ext T 0 x (by omega) (by omega)
    have l2 := size_ext T x T.size (by omega) (Nat.le_refl _)
    have l3 := size_ext T (x + 1) T.size (by omega) (Nat.le_refl _)
    obtain ⟨L1, HL1⟩ : ∃ L, Hid (T.extract 0 x = L) := ⟨_, rfl⟩
    have k1 := cat (T.extract 0 x) W (by omega)
    have k2 := cat (T.extract 0 x ++ W) (T.extract x T.size) (by rw [size_app]; omega)
    have k3 := cat (T.extract 0 x ++ W) (T.extract (x + 1) T.size) (by rw [size_app]; omega)
    have k4 := cat (T.extract 0 x) (T.extract (x + 1) T.size) (by omega)
    have H4 := H3.next_ (w' := w3.drew) (below_drewN (Below.refl _ _) 1)
    have G4 : w.grownBy w3.drew (some g) := grown_trans G3 ⟨rfl, rfl, rfl, Nat.le_refl _, fun _ _ _ => rfl⟩
    by_cases z0 : z = 0
    · subst z0
      go_wp2_with fail
      go_still (by kernel_rfl)
      show Exit.then _ _ Exit.normal _ w3.drew
      generalize w3.drew = w4 at H4 G4 ⊢
      go_wp2_with fail
      go_ret
      exact ⟨_, by rw [size_app, size_app]; omega, rfl, H4, G4⟩
    · by_cases z1 : z = 1
      · subst z1
        go_wp2_with fail
        go_still (by kernel_rfl)
        show Exit.then _ _ Exit.normal _ w3.drew
        generalize w3.drew = w4 at H4 G4 ⊢
        go_wp2_with fail
        go_ret
        exact ⟨_, by rw [size_app, size_app]; omega, rfl, H4, G4⟩
      · have hz0 : ((z : Int) == 0) = false := by simp; omega
        have hz1 : ((z : Int) == 1) = false := by simp; omega
        go_wp2_with fail
        go_still (by kernel_rfl)
        show Exit.then _ _ Exit.normal _ w3.drew
        generalize w3.drew = w4 at H4 G4 ⊢
        go_wp2_with fail
        go_ret
        exact ⟨_, by rw [size_app]; omega, rfl, H4, G4⟩
end Go.Proofs.YteogfjddkaodkaaDoor
