
/- Plain laws: the values that are tried for an identity. -/
import Derived.Test.YtkmcdocbdhhfhaaTermP
import Derived.Test.YtkmcdocbdhhfhaaPutQ
namespace Go.Proofs.Ytkmcdocbdhhfhaa
open Go.RowKit
set_option linter.unusedVariables false

/-- The variables vars get the digits ds, one after the other. -/
def setV (vars : List Int) (ds : List Nat) : Nat → List Int → List Int
  | 0, V => V
  | k + 1, V => (setV vars ds k V).set (vars.getD k 0).toNat ((ds.getD k 0 : Nat) : Int)
theorem setV_len (vars : List Int) (ds : List Nat) (V : List Int) : ∀ k, (setV vars ds k V).length = V.length
  | 0 => rfl
  | k + 1 => by rw [setV, List.length_set, setV_len vars ds V k]
theorem setV_in {n : Nat} {vars : List Int} {ds : List Nat} {V : List Int} (hd : ∀ d ∈ ds, d < n) (hn : 0 < n) (hV : ∀ x ∈ V, 0 ≤ x ∧ x ≤ (n : Int) - 1) : ∀ k, ∀ x ∈ setV vars ds k V, 0 ≤ x ∧ x ≤ (n : Int) - 1
  | 0, x, hx => hV x hx
  | k + 1, x, hx => by
    rw [setV] at hx
    rcases List.mem_or_eq_of_mem_set hx with h | h
    · exact setV_in hd hn hV k x h
    · subst h
      have : ds.getD k 0 < n := by
        rw [List.getD_eq_getElem?_getD]
        rcases e : ds[k]? with _ | d
        · exact hn
        · exact hd d (List.mem_of_getElem? e)
      omega
def mxV (vars : List Int) : Nat := (vars.getLast?.getD (-1) + 1).toNat
/-- The values ahead of the i-th try. -/
def Wb (n : Nat) (vars : List Int) : Nat → List Int
  | 0 => List.replicate (mxV vars) 0
  | i + 1 => setV vars (digs n vars.length i) vars.length (Wb n vars i)
theorem Wb_len (n : Nat) (vars : List Int) : ∀ i, (Wb n vars i).length = mxV vars
  | 0 => by simp [Wb]
  | i + 1 => by rw [Wb, setV_len, Wb_len n vars i]
theorem Wb_in {n : Nat} (hn : 0 < n) (vars : List Int) : ∀ i, ∀ x ∈ Wb n vars i, 0 ≤ x ∧ x ≤ (n : Int) - 1
  | 0, x, hx => by
    rw [Wb] at hx
    have := (List.mem_replicate.1 hx).2
    omega
  | i + 1, x, hx => by
    rw [Wb] at hx
    exact setV_in (fun d hd => digs_lt hn hd) hn (Wb_in hn vars i) _ x hx
/-- The i-th try shows the two sides alike. -/
def TryP (n : Nat) (ops : List OpM) (L R : List Int) (i : Nat) : Prop := evT n ops (Wb n (varsL L R) (i + 1)) L = evT n ops (Wb n (varsL L R) (i + 1)) R
def HoldP (n : Nat) (ops : List OpM) (L R : List Int) : Prop := ∀ i, i < n ^ (varsL L R).length → TryP n ops L R i
def askB (n : Nat) (ops : List OpM) (L R : List Int) : Bool := (termB ops L && termB ops R) && decide (n ^ (varsL L R).length ≤ 5000)
noncomputable def holdB (n : Nat) (ops : List OpM) (L R : List Int) : Bool := askB n ops L R && tt (HoldP n ops L R)
/-- The values refute the identity. -/
def failB (n : Nat) (ops : List OpM) (L R V : List Int) : Bool := allIn 0 ((n : Int) - 1) V && (decide (V.length = mxV (varsL L R)) && decide (evT n ops V L ≠ evT n ops V R))
theorem good_mem {ops : List OpM} : ∀ {l : List Int} {m : Nat}, GoodS ops l m → ∀ v ∈ l, badV ops v = false
  | [], _, _, v, hv => by cases hv
  | x :: l, m, h, v, hv => by
    obtain ⟨-, h1, h2⟩ := h.cons
    rcases List.mem_cons.1 hv with rfl | hv
    · exact h1
    · exact good_mem h2 v hv
theorem term_mem {ops : List OpM} {t : List Int} (h : termB ops t = true) : ∀ v ∈ t, badV ops v = false := good_mem (show GoodS ops t 1 from (term_end h).2)
theorem asc_last : ∀ {l : List Int}, l.Pairwise (· < ·) → ∀ v ∈ l, v ≤ l.getLast?.getD (-1)
  | [], _, v, hv => by cases hv
  | [a], _, v, hv => by rw [List.mem_singleton] at hv; subst hv; simp
  | a :: b :: l, h, v, hv => by
    rw [List.pairwise_cons] at h
    have ih := asc_last h.2
    rw [List.getLast?_cons_cons]
    rcases List.mem_cons.1 hv with rfl | hv
    · have h1 := h.1 b List.mem_cons_self
      have h2 := ih b List.mem_cons_self
      omega
    · exact ih v hv
theorem vars_le (L R : List Int) : (varsL L R).length ≤ 6 := markL_le _ _
theorem vars_in (L R : List Int) : ∀ v ∈ varsL L R, 0 ≤ v ∧ v ≤ 5 := fun v hv => by
  have := markL_in (n := 6) v hv
  omega
theorem mx_le (L R : List Int) : mxV (varsL L R) ≤ 6 := by
  unfold mxV
  rcases e : (varsL L R).getLast? with _ | v
  · simp
  · have := vars_in L R v (List.mem_of_getLast? e)
    show (v + 1).toNat ≤ 6
    omega
theorem var_lt {ops : List OpM} {L R : List Int} (h1 : termB ops L = true) (h2 : termB ops R = true) {v : Int} (hv : v ∈ L ∨ v ∈ R) : v < (mxV (varsL L R) : Int) := by
  by_cases h0 : 0 ≤ v
  · have h6 : v < 6 := by
      rcases hv with hv | hv
      · exact (badV_parts (term_mem h1 v hv)).1
      · exact (badV_parts (term_mem h2 v hv)).1
    obtain ⟨y, rfl⟩ := Int.eq_ofNat_of_zero_le h0
    have hm : (y : Int) ∈ varsL L R := by
      refine markL_mem.2 ⟨y, by omega, ?_, rfl⟩
      rw [Bool.or_eq_true]
      exact hv.imp hasI_m.2 hasI_m.2
    have := asc_last (markL_asc _ _) _ hm
    unfold mxV
    show (y : Int) < (((markL 6 _).getLast?.getD (-1) + 1).toNat : Int)
    omega
  · omega
theorem vars_mx {L R : List Int} {v : Int} (hv : v ∈ varsL L R) : v < (mxV (varsL L R) : Int) := by
  have h1 := asc_last (markL_asc 6 _) v hv
  have h2 := (vars_in L R v hv).1
  unfold mxV
  show v < (((markL 6 _).getLast?.getD (-1) + 1).toNat : Int)
  omega
theorem mx_last {vars : List Int} {v : Int} (h : vars.getLast? = some v) (h0 : 0 ≤ v) : (mxV vars : Int) = v + 1 := by
  unfold mxV
  rw [h]
  show ((v + 1).toNat : Int) = v + 1
  omega
end Go.Proofs.Ytkmcdocbdhhfhaa
