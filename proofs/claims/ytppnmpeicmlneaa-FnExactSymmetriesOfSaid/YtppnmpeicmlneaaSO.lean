
/- What the law of SymmetriesOf asks of its result. -/
import Derived.Test.YtppnmpeicmlneaaSym4
namespace Go.Proofs.Ytppnmpeicmlneaa
open Go.RowKit

theorem bl_of_same2 {P : Program} {f : FuncId} {args : Array Value} {w : World} {v : Value} (h : Calls P f args w fun e w' => e = .returned v ∧ w = w') : Calls P f args w (Bl w v) := bl_of_quiet (quiet_same h)
theorem numss_bounds2 : ∀ {xss : List (List Int)} {k : Int}, 0 ≤ k → k + total xss ≤ 4611686018427387904 → ∀ {w : World}, ∀ xs ∈ numss k xss, ∀ x ∈ xs, RI w (.int .i64 x) x
  | [], _, _, _, _, xs, hx => by simp [numss] at hx
  | y :: l, k, h0, h1, w, xs, hx => by
    rw [total] at h1
    rw [numss] at hx
    rcases List.mem_cons.1 hx with rfl | hx
    · intro x hxx
      exact ⟨rfl, nums_bounds h0 (by omega) x hxx⟩
    · exact numss_bounds2 (xss := l) (by omega) (by omega) xs hx
theorem soM_perm {x : AlgebraM} : ∀ p ∈ soM x, PermL x.1.toNat p ∧ SmallP x := by
  intro p hp
  unfold soM at hp
  split at hp
  · rename_i h
    exact ⟨all_perm p ((List.mem_filter.1 hp).1), small_iff.1 h⟩
  · cases hp
theorem soM_R {x : AlgebraM} : ∀ p ∈ soM x, ∀ y ∈ p, ∀ wz : World, RI wz (.int .i64 y) y := by
  intro p hp y hy wz
  obtain ⟨h1, h2⟩ := soM_perm p hp
  have h3 := h1.2.1 y hy
  have h4 := h2.2.1
  exact ⟨rfl, by omega, by omega⟩
theorem soM_len {x : AlgebraM} : (soM x).length ≤ 3125 := by
  unfold soM
  split
  · rename_i h
    have hs := small_iff.1 h
    have h5 : x.1.toNat ≤ 5 := by have := hs.2.1; omega
    exact Nat.le_trans (List.length_filter_le _ _) (Nat.le_trans (ords_len _ _) (pow5 h5 h5))
  · exact Nat.zero_le _
theorem total_le5 : ∀ {l : List (List Int)}, (∀ p ∈ l, p.length ≤ 5) → total l ≤ l.length * 5
  | [], _ => by simp [total]
  | x :: l, h => by
    have h1 := h x (List.mem_cons_self ..)
    have h2 := total_le5 (l := l) fun p hp => h p (List.mem_cons_of_mem _ hp)
    rw [total, List.length_cons]
    omega
theorem soM_total {x : AlgebraM} : total (soM x) ≤ 4194304 := by
  have h1 := total_le5 (l := soM x) fun p hp => by
    obtain ⟨h1, h2⟩ := soM_perm p hp
    have := h1.1
    have := h2.2.1
    omega
  have h2 := soM_len (x := x)
  omega
end Go.Proofs.Ytppnmpeicmlneaa
