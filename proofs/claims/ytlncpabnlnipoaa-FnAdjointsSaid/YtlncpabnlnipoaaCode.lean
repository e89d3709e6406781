
/- What every law that takes a code begins with: its reading, rBig. -/
import Derived.Test.YtlncpabnlnipoaaCurB
namespace Go.Proofs.Ytlncpabnlnipoaa
open Go.RowKit

def RU8 (_ : World) (v : Value) (x : Int) : Prop := v = .int .u8 x ∧ 0 ≤ x ∧ x < 256
theorem code_inB {w : World} {A : Option Addr} {n : Nat} {xs : List Int} (h : RdL RU8 w A n xs) (hn : n ≤ 65536) : CodeB w A n := by
  refine ⟨hn, fun h0 => ?_⟩
  obtain ⟨b, o, v, x, e, -⟩ := h.at h0
  subst e
  refine ⟨b, o, rfl, fun i hi => ?_⟩
  obtain ⟨v, x, hc, ⟨rfl, h1, h2⟩, -, -⟩ := h.at' hi
  exact ⟨x.toNat, by omega, by rw [hc, Int.toNat_of_nonneg h1]⟩
set_option maxHeartbeats 400000 in
theorem rBig_any (A : Option Addr) (n c : Nat) (w : World) (hn : n ≤ 9223372036854775807) : Calls Try.prog 4 #[.slice A n c] w fun e w' => e = .returned (.bool (decide (65536 < n))) ∧ w = w' := by
  go_enter Try.func4, Try.ntmps4
  go_wp2
  go_ret
  exact ⟨ret_bool (decide_eq_decide.2 (by omega)), rfl⟩
end Go.Proofs.Ytlncpabnlnipoaa
