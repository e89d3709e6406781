
/- Walks of the reference's closure systems. -/
import Derived.Test.YtcihgkdaogfabaaSort
import Derived.StillTailTactics
namespace Go.Proofs.Ytcihgkdaogfabaa
open Go.RowKit

def putL (p : List Int) (xss : List (List Int)) : List (List Int) := if 0 ≤ place xss p then xss else insT p xss
set_option maxHeartbeats 400000 in
theorem l30Put_any (b o n c : Nat) (B : Option Addr) (m d : Nat) (xss : List (List Int)) (p : List Int) (w : World) (h : RdL (RV RI) w (some ⟨b, o, none⟩) n xss) (hp : RdL RI w B m p) (hc : n ≤ c) (hn : n ≤ 1048576) :
    Calls Try.prog 47 #[.slice (some ⟨b, o, none⟩) n c, .slice B m d] w fun e w' => ∃ b' o' n' c', e = .returned (.slice (some ⟨b', o', none⟩) n' c') ∧ n' ≤ c' ∧ RdL (RV RI) w' (some ⟨b', o', none⟩) n' (putL p xss) ∧ Below w.heap.size w w' := by
  by_cases hpl : 0 ≤ place xss p
  · have HP : Hid (putL p xss = xss) := by show _ = _; unfold putL; rw [if_pos hpl]
    go_enter Try.func47, Try.ntmps47
    go_wp2_with (go_at_call 88; refine (l12Place_any _ _ _ _ _ _ _ _ _ h hp).mono ?_; rintro e w' ⟨rfl, z, rfl⟩)
    go_ret
    exact ⟨b, o, n, c, rfl, hc, by rw [HP.out]; exact h.drewN stab_RVI _, below_drewN (Below.refl _ _) _⟩
  · have HP : Hid (putL p xss = insT p xss) := by show _ = _; unfold putL; rw [if_neg hpl]
    go_enter Try.func47, Try.ntmps47
    go_wp2_with (go_at_call 88; refine (l12Place_any _ _ _ _ _ _ _ _ _ h hp).mono ?_; rintro e w' ⟨rfl, z, rfl⟩)
    refine (l5Sort_any _ _ _ _ _ _ _ _ _ _ (h.drewN stab_RVI _) (hp.drewN stab_RI _) hc hn).mono ?_
    rintro e w2 ⟨g, c', rfl, hc', hr, hb⟩
    go_wp2_with fail
    go_ret
    exact ⟨g, 0, n + 1, c', rfl, hc', by rw [HP.out]; exact hr, (below_drewN (Below.refl _ _) _).trans hb⟩

/-- One set more: its meets with all sets so far. -/
def addTo (s : List Int) : List (List Int) → List (List Int) → List (List Int)
  | [], out => out
  | t :: l, out => addTo s l (putL (meetL s t) out)
def systemTo : List (List Int) → List (List Int) → List (List Int)
  | [], out => out
  | s :: l, out => systemTo l (addTo s out out)
def systemL (n : Nat) (xss : List (List Int)) : List (List Int) := systemTo xss [upTo n]
end Go.Proofs.Ytcihgkdaogfabaa
