
/- Plain laws: the least set that is closed under operations. -/
import Derived.Test.YtkmcdocbdhhfhaaRenP
import Derived.Test.YtkmcdocbdhhfhaaTt
namespace Go.Proofs.Ytkmcdocbdhhfhaa
open Go.RowKit
set_option linter.unusedVariables false

/-- Closed under the operations. -/
def ClosedM (n : Nat) (ops : List OpM) (M : Nat → Bool) : Prop := ∀ o ∈ ops, ∀ i, i < o.2.length → (∀ d ∈ digs n o.1.toNat i, M d = true) → M (nmAt o.2 i) = true
def LeM (n : Nat) (B M : Nat → Bool) : Prop := ∀ y, y < n → B y = true → M y = true
/-- In every closed set that has the set B. -/
def InCl (n : Nat) (ops : List OpM) (B : Nat → Bool) (y : Nat) : Prop := ∀ M, ClosedM n ops M → LeM n B M → M y = true
noncomputable def clB (n : Nat) (ops : List OpM) (B : Nat → Bool) (y : Nat) : Bool := tt (InCl n ops B y)
theorem LeM.refl (n : Nat) (B : Nat → Bool) : LeM n B B := fun _ _ h => h
theorem LeM.trans {n : Nat} {A B C : Nat → Bool} (h : LeM n A B) (k : LeM n B C) : LeM n A C := fun y hy ha => k y hy (h y hy ha)
theorem clB_closed (n : Nat) (ops : List OpM) (B : Nat → Bool) : ClosedM n ops (clB n ops B) := fun o ho i hi hd => tt_iff.2 fun M hM hB => hM o ho i hi fun d hd' => tt_iff.1 (hd d hd') M hM hB
theorem clB_sup (n : Nat) (ops : List OpM) (B : Nat → Bool) : LeM n B (clB n ops B) := fun y hy h => tt_iff.2 fun _ _ hB => hB y hy h
theorem clB_least {n : Nat} {ops : List OpM} {B M : Nat → Bool} (hc : ClosedM n ops M) (hs : LeM n B M) : LeM n (clB n ops B) M := fun _ _ h => tt_iff.1 h M hc hs
theorem cl_eq {n : Nat} {ops : List OpM} {B H : Nat → Bool} (hs : LeM n B H) (hc : ClosedM n ops H) (hl : LeM n H (clB n ops B)) {y : Nat} (hy : y < n) : H y = clB n ops B y := by
  rcases e : H y with _ | _
  · rcases e2 : clB n ops B y with _ | _
    · rfl
    · have := clB_least hc hs y hy e2
      rw [e] at this
      cases this
  · exact (hl y hy e).symm
/-- The marked numbers in ascending order. -/
def markL (n : Nat) (M : Nat → Bool) : List Int := ((List.range n).filter M).map fun (y : Nat) => (y : Int)
theorem markL_congr {n : Nat} {M H : Nat → Bool} (h : ∀ y, y < n → M y = H y) : markL n M = markL n H := by
  unfold markL
  congr 1
  exact List.filter_congr fun y hy => h y (List.mem_range.1 hy)
theorem markL_succ (n : Nat) (M : Nat → Bool) : markL (n + 1) M = markL n M ++ if M n then [(n : Int)] else [] := by
  unfold markL
  rw [List.range_succ, List.filter_append, List.map_append]
  congr 1
  rcases e : M n with _ | _ <;> simp [e]
theorem markL_mem {n : Nat} {M : Nat → Bool} {v : Int} : v ∈ markL n M ↔ ∃ y : Nat, y < n ∧ M y = true ∧ v = (y : Int) := by
  unfold markL
  rw [List.mem_map]
  constructor
  · rintro ⟨y, hy, rfl⟩
    rw [List.mem_filter, List.mem_range] at hy
    exact ⟨y, hy.1, hy.2, rfl⟩
  · rintro ⟨y, h1, h2, rfl⟩
    exact ⟨y, List.mem_filter.2 ⟨List.mem_range.2 h1, h2⟩, rfl⟩
theorem markL_le (n : Nat) (M : Nat → Bool) : (markL n M).length ≤ n := by
  unfold markL
  rw [List.length_map]
  exact Nat.le_trans (List.length_filter_le _ _) (by simp)
theorem markL_in {n : Nat} {M : Nat → Bool} : ∀ v ∈ markL n M, 0 ≤ v ∧ v ≤ (n : Int) - 1 := fun v hv => by
  obtain ⟨y, hy, -, rfl⟩ := markL_mem.1 hv
  omega
/-! ## Marks as a list of truth values -/
def gB (L : List Bool) (y : Nat) : Bool := L.getD y false
theorem gB_get {L : List Bool} {y : Nat} {b : Bool} (h : L[y]? = some b) : gB L y = b := by unfold gB; rw [List.getD_eq_getElem?_getD, h]; rfl
theorem gB_at {L : List Bool} {y : Nat} (h : y < L.length) : L[y]? = some (gB L y) := by unfold gB; rw [List.getD_eq_getElem?_getD, List.getElem?_eq_getElem h]; rfl
theorem gB_set {L : List Bool} {x y : Nat} (hx : x < L.length) (b : Bool) : gB (L.set x b) y = if y = x then b else gB L y := by
  unfold gB
  rw [List.getD_eq_getElem?_getD, List.getElem?_set]
  by_cases h : x = y
  · subst h
    rw [if_pos rfl, if_pos hx, if_pos rfl]
    rfl
  · rw [if_neg h, if_neg (fun e => h e.symm), List.getD_eq_getElem?_getD]
/-- What is not marked. -/
def offs (L : List Bool) : Nat := L.countP fun b => !b
theorem offs_set : ∀ {L : List Bool} {x : Nat}, L[x]? = some false → offs (L.set x true) + 1 = offs L
  | [], x, h => by simp at h
  | b :: L, 0, h => by
    simp only [List.getElem?_cons_zero, Option.some.injEq] at h
    subst h
    simp [offs]
  | b :: L, x + 1, h => by
    simp only [List.getElem?_cons_succ] at h
    have ih := offs_set h
    unfold offs at ih ⊢
    simp only [List.set_cons_succ, List.countP_cons]
    omega
theorem offs_le (L : List Bool) : offs L ≤ L.length := List.countP_le_length
/-- The rounds of the program: L is what is marked, L0 what was marked at first. -/
structure ClI (n : Nat) (ops : List OpM) (L0 L : List Bool) : Prop where
  len : L.length = n
  sup : LeM n (gB L0) (gB L)
  least : LeM n (gB L) (clB n ops (gB L0))
theorem ClI.start {n : Nat} {ops : List OpM} {L0 : List Bool} (h : L0.length = n) : ClI n ops L0 L0 := ⟨h, LeM.refl _ _, clB_sup _ _ _⟩
def AllM (n k i : Nat) (L : List Bool) : Bool := (digs n k i).all (gB L)
theorem ClI.mark {n : Nat} {ops : List OpM} {L0 L : List Bool} (h : ClI n ops L0 L) (hn : 0 < n) {o : OpM} (ho : o ∈ ops) {i v : Nat} (hv : o.2[i]? = some (v : Int)) (hvn : v < n) (hA : AllM n o.1.toNat i L = true) : ClI n ops L0 (L.set v true) := by
  have hl := h.len
  refine ⟨by rw [List.length_set]; exact hl, fun y hy hb => ?_, fun y hy hb => ?_⟩
  · rw [gB_set (by omega)]
    split
    · rfl
    · exact h.sup y hy hb
  · rw [gB_set (by omega)] at hb
    split at hb
    · rename_i e
      subst e
      have hi := (List.getElem?_eq_some_iff.1 hv).1
      have := clB_closed n ops (gB L0) o ho i hi fun d hd => h.least d (digs_lt hn hd) (List.all_eq_true.1 hA d hd)
      rwa [nmAt_get hv] at this
    · exact h.least y hy hb
/-- Nothing is to be marked at an entry of a table. -/
def OkE (n : Nat) (L : List Bool) (o : OpM) (i : Nat) : Prop := AllM n o.1.toNat i L = true → gB L (nmAt o.2 i) = true
theorem ClI.done {n : Nat} {ops : List OpM} {L0 L : List Bool} (h : ClI n ops L0 L) (hk : ∀ o ∈ ops, ∀ i, i < o.2.length → OkE n L o i) {y : Nat} (hy : y < n) : gB L y = clB n ops (gB L0) y :=
  cl_eq h.sup (fun o ho i hi hd => hk o ho i hi (List.all_eq_true.2 hd)) h.least hy
/-! ## The reference steps all at once -/
/-- One step: everything that an operation gives of what is marked. -/
def StP (n : Nat) (ops : List OpM) (L : List Bool) (y : Nat) : Prop := ∃ o ∈ ops, ∃ i, i < o.2.length ∧ AllM n o.1.toNat i L = true ∧ nmAt o.2 i = y
noncomputable def stL (n : Nat) (ops : List OpM) (L : List Bool) : List Bool := (List.range n).map fun y => gB L y || tt (StP n ops L y)
theorem stL_len (n : Nat) (ops : List OpM) (L : List Bool) : (stL n ops L).length = n := by simp [stL]
theorem stL_get {n : Nat} {ops : List OpM} {L : List Bool} {y : Nat} (hy : y < n) : gB (stL n ops L) y = (gB L y || tt (StP n ops L y)) := by
  refine gB_get ?_
  unfold stL
  rw [List.getElem?_map, List.getElem?_range hy]
  rfl
noncomputable def stN (n : Nat) (ops : List OpM) : Nat → List Bool → List Bool
  | 0, L => L
  | k + 1, L => stL n ops (stN n ops k L)
theorem stN_len {n : Nat} {ops : List OpM} {L : List Bool} (h : L.length = n) : ∀ k, (stN n ops k L).length = n
  | 0 => h
  | k + 1 => stL_len _ _ _
theorem gB_ext {L M : List Bool} {n : Nat} (hl : L.length = n) (hm : M.length = n) (h : ∀ y, y < n → gB L y = gB M y) : L = M := by
  apply List.ext_getElem?
  intro y
  by_cases hy : y < n
  · rw [gB_at (by omega), gB_at (by omega), h y hy]
  · rw [List.getElem?_eq_none (by omega), List.getElem?_eq_none (by omega)]
theorem offs_lt : ∀ {L M : List Bool}, L.length = M.length → (∀ y, gB L y = true → gB M y = true) → L ≠ M → offs M < offs L
  | [], [], _, _, h => absurd rfl h
  | [], _ :: _, h, _, _ => by simp at h
  | _ :: _, [], h, _, _ => by simp at h
  | a :: L, b :: M, hl, hle, hne => by
    have h0 := hle 0
    have hs : ∀ y, gB L y = true → gB M y = true := fun y => by
      have := hle (y + 1)
      simpa [gB] using this
    have hl' : L.length = M.length := by simpa using hl
    have hge : offs M ≤ offs L := by
      by_cases e : L = M
      · rw [e]; exact Nat.le_refl _
      · exact Nat.le_of_lt (offs_lt hl' hs e)
    by_cases e : L = M
    · subst e
      have hab : a ≠ b := fun e => hne (by rw [e])
      have h1 : a = false ∧ b = true := by
        rcases a with _ | _ <;> rcases b with _ | _
        · exact absurd rfl hab
        · exact ⟨rfl, rfl⟩
        · have := h0 (by simp [gB]); simp [gB] at this
        · exact absurd rfl hab
      obtain ⟨rfl, rfl⟩ := h1
      simp [offs]
    · have := offs_lt hl' hs e
      have hab : a = true → b = true := fun e => by have := h0 (by simp [gB, e]); simpa [gB] using this
      unfold offs at this hge ⊢
      simp only [List.countP_cons]
      rcases a with _ | _ <;> rcases b with _ | _ <;> simp_all <;> omega
theorem stL_up {n : Nat} {ops : List OpM} {L : List Bool} (hl : L.length = n) (y : Nat) (h : gB L y = true) : gB (stL n ops L) y = true := by
  have hy : y < n := by
    rcases Nat.lt_or_ge y n with h1 | h1
    · exact h1
    · unfold gB at h
      rw [List.getD_eq_getElem?_getD, List.getElem?_eq_none (by omega)] at h
      cases h
  rw [stL_get hy, h]
  rfl
theorem stN_cnt {n : Nat} {ops : List OpM} {L : List Bool} (hl : L.length = n) : ∀ k, stL n ops (stN n ops k L) = stN n ops k L ∨ k + offs (stN n ops k L) ≤ n
  | 0 => .inr (by have := offs_le L; show 0 + offs L ≤ n; omega)
  | k + 1 => by
    by_cases e : stL n ops (stN n ops k L) = stN n ops k L
    · left
      show stL n ops (stL n ops (stN n ops k L)) = stL n ops (stN n ops k L)
      rw [e, e]
    · right
      have h1 : k + offs (stN n ops k L) ≤ n := (stN_cnt hl k).resolve_left e
      have h2 := offs_lt (L := stN n ops k L) (M := stL n ops (stN n ops k L)) (by rw [stN_len hl, stL_len]) (fun y => stL_up (stN_len hl k) y) (Ne.symm e)
      show k + 1 + offs (stL n ops (stN n ops k L)) ≤ n
      omega
theorem stN_fix {n : Nat} {ops : List OpM} {L : List Bool} (hl : L.length = n) : stL n ops (stN n ops (n + 1) L) = stN n ops (n + 1) L := by
  rcases stN_cnt (ops := ops) hl (n + 1) with h | h
  · exact h
  · omega
theorem stN_inv {n : Nat} {ops : List OpM} {L : List Bool} (hn : 0 < n) (hl : L.length = n) : ∀ k, LeM n (gB L) (gB (stN n ops k L)) ∧ LeM n (gB (stN n ops k L)) (clB n ops (gB L))
  | 0 => ⟨LeM.refl _ _, clB_sup _ _ _⟩
  | k + 1 => by
    obtain ⟨h1, h2⟩ := stN_inv hn hl k
    refine ⟨fun y hy h => stL_up (stN_len hl k) y (h1 y hy h), fun y hy h => ?_⟩
    have h3 : gB (stL n ops (stN n ops k L)) y = true := h
    rw [stL_get hy, Bool.or_eq_true] at h3
    rcases h3 with h3 | h3
    · exact h2 y hy h3
    · obtain ⟨o, ho, i, hi, hA, rfl⟩ := tt_iff.1 h3
      exact clB_closed n ops (gB L) o ho i hi fun d hd => h2 d (digs_lt hn hd) (List.all_eq_true.1 hA d hd)
theorem stN_cl {n : Nat} {ops : List OpM} {L : List Bool} (hn : 0 < n) (hl : L.length = n) (hops : ∀ o ∈ ops, ∀ v ∈ o.2, 0 ≤ v ∧ v ≤ (n : Int) - 1) {y : Nat} (hy : y < n) : gB (stN n ops (n + 1) L) y = clB n ops (gB L) y := by
  obtain ⟨h1, h2⟩ := stN_inv (ops := ops) hn hl (n + 1)
  refine cl_eq h1 (fun o ho i hi hd => ?_) h2 hy
  have hv := hops o ho _ (List.getElem_mem hi)
  have hvn : nmAt o.2 i < n := by
    rw [nmAt_get (List.getElem?_eq_getElem hi)]
    omega
  rw [← stN_fix hl, stL_get hvn, ← tt_true (show StP n ops (stN n ops (n + 1) L) (nmAt o.2 i) from ⟨o, ho, i, hi, List.all_eq_true.2 hd, rfl⟩), Bool.or_true]
/-- What some elements generate. -/
def inL (n : Nat) (S : List Int) : List Bool := (List.range n).map fun (y : Nat) => hasI (y : Int) S
theorem inL_len (n : Nat) (S : List Int) : (inL n S).length = n := by simp [inL]
noncomputable def genL (n : Nat) (ops : List OpM) (S : List Int) : List Int := markL n (clB n ops (gB (inL n S)))
end Go.Proofs.Ytkmcdocbdhhfhaa
