
/- Plain laws: tables of idempotent commutative operations. -/
import Derived.Test.YtppnmpeicmlneaaCntU
namespace Go.Proofs.Ytppnmpeicmlneaa
open Go.RowKit

def putP (n : Nat) (vs : List Int) (x y : Nat) (s : List Int × Nat) : List Int × Nat := ((s.1.set (x * n + y) (vs.getD s.2 0)).set (y * n + x) (vs.getD s.2 0), s.2 + 1)
def inP (n : Nat) (vs : List Int) (x : Nat) : Nat → List Int × Nat → List Int × Nat
  | 0, s => s
  | m + 1, s => putP n vs x (x + 1 + m) (inP n vs x m s)
def outP (n : Nat) (vs : List Int) : Nat → List Int × Nat → List Int × Nat
  | 0, s => s
  | x + 1, s => inP n vs x (n - 1 - x) (outP n vs x s)
def dgP (n x : Nat) (s : List Int × Nat) : List Int × Nat := (s.1.set (x * n + x) (x : Int), s.2)
def outS (n : Nat) (vs : List Int) : Nat → List Int × Nat → List Int × Nat
  | 0, s => s
  | x + 1, s => inP n vs x (n - 1 - x) (dgP n x (outS n vs x s))
def idmT (n : Nat) : Nat → List Int → List Int
  | 0, l => l
  | x + 1, l => (idmT n x l).set (x * n + x) (x : Int)
def prs (n : Nat) : Nat := n * (n - 1) / 2
def idV (n i : Nat) : List Int := nats (digs n (prs n) i)
def idT (n i : Nat) : List Int := (outP n (idV n i) n (idmT n n (List.replicate (n * n) (-1)), 0)).1
def atO (n : Nat) : Nat → Nat
  | 0 => 0
  | x + 1 => atO n x + (n - 1 - x)
theorem inP_at (n : Nat) (vs : List Int) (x : Nat) : ∀ m s, (inP n vs x m s).2 = s.2 + m
  | 0, _ => rfl
  | m + 1, s => by show (inP n vs x m s).2 + 1 = _; rw [inP_at n vs x m s]; omega
theorem inP_len (n : Nat) (vs : List Int) (x : Nat) : ∀ m s, (inP n vs x m s).1.length = s.1.length
  | 0, _ => rfl
  | m + 1, s => by
    show (((inP n vs x m s).1.set _ _).set _ _).length = _
    rw [List.length_set, List.length_set, inP_len n vs x m s]
theorem outP_at (n : Nat) (vs : List Int) : ∀ x s, (outP n vs x s).2 = s.2 + atO n x
  | 0, _ => rfl
  | x + 1, s => by
    show (inP n vs x (n - 1 - x) (outP n vs x s)).2 = _
    rw [inP_at, outP_at n vs x s, atO]
    omega
theorem outP_len (n : Nat) (vs : List Int) : ∀ x s, (outP n vs x s).1.length = s.1.length
  | 0, _ => rfl
  | x + 1, s => by
    show (inP n vs x (n - 1 - x) (outP n vs x s)).1.length = _
    rw [inP_len, outP_len n vs x s]
theorem outS_at (n : Nat) (vs : List Int) : ∀ x s, (outS n vs x s).2 = s.2 + atO n x
  | 0, _ => rfl
  | x + 1, s => by
    show (inP n vs x (n - 1 - x) (dgP n x (outS n vs x s))).2 = _
    rw [inP_at]
    show (outS n vs x s).2 + _ = _
    rw [outS_at n vs x s, atO]
    omega
theorem outS_len (n : Nat) (vs : List Int) : ∀ x s, (outS n vs x s).1.length = s.1.length
  | 0, _ => rfl
  | x + 1, s => by
    show (inP n vs x (n - 1 - x) (dgP n x (outS n vs x s))).1.length = _
    rw [inP_len]
    show ((outS n vs x s).1.set _ _).length = _
    rw [List.length_set, outS_len n vs x s]
theorem idmT_len (n : Nat) : ∀ x l, (idmT n x l).length = l.length
  | 0, _ => rfl
  | x + 1, l => by rw [idmT, List.length_set, idmT_len n x l]
theorem at_lt : ∀ n, n ≤ 3 → ∀ x, x < n → ∀ m, m < n - 1 - x → atO n x + m < prs n := by decide
theorem idV_len (n i : Nat) : (idV n i).length = prs n := by unfold idV; rw [nats_len, digs_len]
theorem idT_len (n i : Nat) : (idT n i).length = n * n := by unfold idT; rw [outP_len, idmT_len, List.length_replicate]
/-- The reference's table is the same. -/
theorem outS_1 : ∀ i, i < 1 → (outS 1 (idV 1 i) 1 (List.replicate 1 0, 0)).1 = idT 1 i := by decide +kernel
theorem outS_2 : ∀ i, i < 2 → (outS 2 (idV 2 i) 2 (List.replicate 4 0, 0)).1 = idT 2 i := by decide +kernel
theorem outS_3 : ∀ i, i < 27 → (outS 3 (idV 3 i) 3 (List.replicate 9 0, 0)).1 = idT 3 i := by decide +kernel
theorem can_1 : ∀ p ∈ ords 1 1 [], ∀ i, i < 1 → ∃ j, j < 1 ∧ renOp 1 p ((2 : Int), idT 1 i) = ((2 : Int), idT 1 j) := by decide +kernel
theorem can_2 : ∀ p ∈ ords 2 2 [], ∀ i, i < 2 → ∃ j, j < 2 ∧ renOp 2 p ((2 : Int), idT 2 i) = ((2 : Int), idT 2 j) := by decide +kernel
theorem can_3 : ∀ p ∈ ords 3 3 [], ∀ i, i < 27 → ∃ j, j < 27 ∧ renOp 3 p ((2 : Int), idT 3 i) = ((2 : Int), idT 3 j) := by decide +kernel
theorem bd_1 : ∀ i, i < 1 → ∀ v ∈ idT 1 i, 0 ≤ v ∧ v ≤ 0 := by decide +kernel
theorem bd_2 : ∀ i, i < 2 → ∀ v ∈ idT 2 i, 0 ≤ v ∧ v ≤ 1 := by decide +kernel
theorem bd_3 : ∀ i, i < 27 → ∀ v ∈ idT 3 i, 0 ≤ v ∧ v ≤ 2 := by decide +kernel
theorem inj_1 : ∀ i, i < 1 → ∀ j, j < 1 → idT 1 i = idT 1 j → i = j := by decide +kernel
theorem inj_2 : ∀ i, i < 2 → ∀ j, j < 2 → idT 2 i = idT 2 j → i = j := by decide +kernel
theorem inj_3 : ∀ i, i < 27 → ∀ j, j < 27 → idT 3 i = idT 3 j → i = j := by decide +kernel
theorem idm_ok_of {n N : Nat} (h1 : 1 ≤ n) (h3 : n ≤ 3) (hb : ∀ i, i < N → ∀ v ∈ idT n i, 0 ≤ v ∧ v ≤ (n : Int) - 1) (hj : ∀ i, i < N → ∀ j, j < N → idT n i = idT n j → i = j)
    (hc : ∀ p ∈ ords n n [], ∀ i, i < N → ∃ j, j < N ∧ renOp n p ((2 : Int), idT n i) = ((2 : Int), idT n j)) : FamOk n 2 N (idT n) := by
  refine ⟨h1, by omega, by omega, fun i _ => by rw [idT_len, Nat.pow_two], hb, fun i j hi hj' e => hj i hi j hj' e, fun i hi => ?_⟩
  have hp : canN (famA n 2 (idT n) i) ∈ ords n n [] := by
    have := (canN_ok (x := famA n 2 (idT n) i)).2
    exact ords_mem.2 (by rwa [show (famA n 2 (idT n) i).1.toNat = n from Int.toNat_natCast n] at this)
  obtain ⟨j, hjN, e⟩ := hc _ hp i hi
  refine ⟨j, hjN, ?_⟩
  show ((n : Int), [renOp ((n : Int).toNat) (canN (famA n 2 (idT n) i)) ((2 : Int), idT n i)]) = _
  rw [Int.toNat_natCast, e]
  rfl
theorem idm_ok {n : Nat} (h1 : 1 ≤ n) (h3 : n ≤ 3) : FamOk n 2 (n ^ prs n) (idT n) := by
  obtain rfl | rfl | rfl : n = 1 ∨ n = 2 ∨ n = 3 := by omega
  · exact idm_ok_of h1 h3 bd_1 inj_1 can_1
  · exact idm_ok_of h1 h3 bd_2 inj_2 can_2
  · exact idm_ok_of h1 h3 bd_3 inj_3 can_3
theorem outS_ok {n i : Nat} (h1 : 1 ≤ n) (h3 : n ≤ 3) (hi : i < n ^ prs n) : (outS n (idV n i) n (List.replicate (n * n) 0, 0)).1 = idT n i := by
  obtain rfl | rfl | rfl : n = 1 ∨ n = 2 ∨ n = 3 := by omega
  · exact outS_1 i hi
  · exact outS_2 i hi
  · exact outS_3 i hi
end Go.Proofs.Ytppnmpeicmlneaa
