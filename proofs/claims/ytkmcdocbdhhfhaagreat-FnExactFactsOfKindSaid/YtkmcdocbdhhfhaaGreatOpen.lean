
/- From the reading of an argument as data to the words of our walks. -/
import Derived.Test.YtkmcdocbdhhfhaaGreatMem
import Derived.ProofKit
import Derived.OpenShut
import Derived.Lib.SmallJoins
import Derived.Deep.Slices
namespace Go.Proofs.YtkmcdocbdhhfhaaGreat
open Go.ChangeShapes Go.WideShapes Go.ChangeAt Go.RowKit Go.Joins Go.Deep
section
variable {H : Type} {enc : TypeId × Value → H} {P : Program} {w : World}
/-- Whatever reads as data of type t is something that R speaks of. -/
def Opens {α : Type} (enc : TypeId × Value → H) (P : Program) (w : World) (t : TypeId) (R : World → Value → α → Prop) : Prop :=
  ∀ (fuel : Nat) (v : Value) (y : DataW H × List MemPlace), DataW.trod enc P w 0 (fun _ => true) true fuel t [v] = some y → ∃ x, R w v x
theorem opens_int {t : TypeId} (ht : P.underlying t = some (.int .i64)) : Opens enc P w t RI := fun fuel v y h => by
  obtain ⟨n, e, -, hw⟩ := DataW.trod_int ht h
  simp at e
  subst e
  have := bounds_i64 hw
  exact ⟨n, rfl, by omega, by omega⟩
theorem opens_bool {t : TypeId} (ht : P.underlying t = some .bool) : Opens enc P w t RB := fun fuel v y h => by
  obtain ⟨n, e, -⟩ := DataW.trod_bool ht h
  simp at e
  exact ⟨n, e⟩
theorem opens_string {t : TypeId} (ht : P.underlying t = some .string) : Opens enc P w t RS := fun fuel v y h => by
  obtain ⟨s, e, -, hs⟩ := DataW.trod_string ht h
  simp at e
  exact ⟨s, e, hs⟩
/-- A slice that comes in, with its capacity. -/
def RVc {α : Type} (R : World → Value → α → Prop) (w : World) (v : Value) (xs : List α) : Prop := ∃ A n c, v = .slice A n c ∧ n ≤ c ∧ RdL R w A n xs
theorem opens_slice {α : Type} {R : World → Value → α → Prop} {t e : TypeId} (ht : P.underlying t = some (.slice e)) (hc : P.cellsOf e = 1) (he : Opens enc P w e R) : Opens enc P w t (RVc R) := fun fuel v y h => by
  rcases open_slice1 ht hc h with ⟨e, -⟩ | ⟨a, len, cap, m, n, V, D, Pl, e, -, hl, hm, hmm, -, hx⟩
  · simp at e
    exact ⟨[], none, 0, 0, e, Nat.le_refl _, RdL.nil _ _ _⟩
  · simp at e
    simp only [if_true] at hmm
    subst hmm
    have hch : ∀ k, k < len → ∃ x, R w (V k) x := fun k hk => he n (V k) _ (hx k (by omega)).2
    obtain ⟨xs, hxl, hxp⟩ : ∃ l : List α, l.length = len ∧ ∀ (k : Nat) x, l[k]? = some x → R w (V k) x := by
      clear hx hl hm e
      induction len with
      | zero => exact ⟨[], rfl, fun k x hx => by simp at hx⟩
      | succ len ih =>
        obtain ⟨l, hl, hp⟩ := ih fun k hk => hch k (by omega)
        obtain ⟨x, hx⟩ := hch len (by omega)
        refine ⟨l ++ [x], by simp [hl], fun k y hy => ?_⟩
        by_cases hk : k < len
        · rw [List.getElem?_append_left (by omega)] at hy
          exact hp k y hy
        · have hk2 := (List.getElem?_eq_some_iff.1 hy).1
          simp at hk2
          have hkn : k = len := by omega
          subst hkn
          rw [List.getElem?_append_right (by omega), hl, Nat.sub_self] at hy
          simp at hy
          subst hy
          exact hx
    refine ⟨xs, some a, len, m, e, hl, hxl, by omega, fun k x hk => ?_⟩
    have hkl : k < len := by rw [← hxl]; exact (List.getElem?_eq_some_iff.1 hk).1
    have hc0 := (hx k (by omega)).1
    have hspot : a.spot = none := by
      have h0 := (hx 0 (by omega)).1
      have := World.cell?_spot h0
      simpa [Addr.add] using this
    obtain ⟨b, o, spot⟩ := a
    simp only at hspot
    subst hspot
    refine ⟨b, o, V k, rfl, ?_, hxp k x hk⟩
    have ea : (⟨b, o, none⟩ : Addr).add k = ⟨b, o + k, none⟩ := by
      unfold Addr.add
      split
      · rename_i h0; subst h0; rfl
      · rfl
    rw [← ea]
    exact hc0
/-- A slice without its capacity. -/
theorem Opens.bare {α : Type} {R : World → Value → α → Prop} {t : TypeId} (h : Opens enc P w t (RVc R)) : Opens enc P w t (RV R) := fun fuel v y hh => by
  obtain ⟨xs, A, n, c, e, -, hr⟩ := h fuel v y hh
  exact ⟨xs, A, n, c, e, hr⟩
end
theorem array1 {α : Type} {cs : Array α} (h : cs.size = 1) : ∃ c0, cs = #[c0] := by
  obtain ⟨l⟩ := cs
  match l, h with
  | [c0], _ => exact ⟨c0, rfl⟩
/-- A struct of one field of one cell, by value, opened. -/
theorem open_agg1 {H : Type} {enc : TypeId × Value → H} {P : Program} {w : World} {base : Nat} {spare : Nat → Bool} {held : Bool} {r : Reach} {b0 : Nat} {t : TypeId} {f0 : Field} {v : Value} {d : DataW H} {p : List MemPlace} (hs : P.underlying t = some (.struct #[f0])) (hone : oneCellFields P #[f0] = true) (hC : P.cellsOf t = 1)
    (hv : Value.okWide P w r b0 t v) (h : DataW.Trod enc P w base spare held t v d p) :
    ∃ (v0 : Value) (y0 : DataW H × List MemPlace) (n : Nat), v = .agg #[v0] ∧ d = .agg [y0.1] ∧ p = y0.2 ∧ DataW.trod enc P w base spare held n f0.type [v0] = some y0 := by
  obtain ⟨cs, rfl, hsz⟩ := okWide_struct hs hv
  obtain ⟨c0, rfl⟩ := array1 (hsz.trans hC)
  obtain ⟨fuel, hf⟩ := h
  obtain ⟨y0, n, hx, _, h0⟩ := trod_struct1 hs hf
  obtain ⟨o0, k0⟩ := hone_of hone 0 f0 rfl
  simp only [Prod.mk.injEq] at hx
  exact ⟨c0, y0, n, rfl, hx.1, hx.2, by simpa [Value.cells, o0, k0] using h0⟩
end Go.Proofs.YtkmcdocbdhhfhaaGreat
