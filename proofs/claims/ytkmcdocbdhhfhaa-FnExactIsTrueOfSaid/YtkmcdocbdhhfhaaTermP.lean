
/- Plain laws of terms: where one ends, its value by a stack, its variables; the values that are tried. -/
import Derived.Test.YtkmcdocbdhhfhaaArgs
import Derived.Test.YtkmcdocbdhhfhaaAlg
import Derived.Test.YtkmcdocbdhhfhaaTt
namespace Go.Proofs.Ytkmcdocbdhhfhaa
open Go.RowKit
set_option linter.unusedVariables false

/-- The arity of the operation that a negative number names. -/
def arF (ops : List OpM) (v : Int) : Nat := (ops.getD (-1 - v).toNat (0, [])).1.toNat
def tbF (ops : List OpM) (v : Int) : List Int := (ops.getD (-1 - v).toNat (0, [])).2
def badV (ops : List OpM) (v : Int) : Bool := decide (6 ≤ v) || decide (v < -(ops.length : Int))
def adV (ops : List OpM) (v : Int) : Nat := if 0 ≤ v then 0 else arF ops v
/-- How many numbers m terms take from the beginning of a list. -/
def endT (ops : List OpM) : List Int → Nat → Option Nat
  | [], m => if m = 0 then some 0 else none
  | v :: l, m => if m = 0 then some 0 else if badV ops v then none else (endT ops l (m - 1 + adV ops v)).map (· + 1)
theorem endT_zero (ops : List OpM) (l : List Int) : endT ops l 0 = some 0 := by cases l <;> rfl
theorem endT_nil (ops : List OpM) {m : Nat} (h : 0 < m) : endT ops [] m = none := by unfold endT; rw [if_neg (by omega)]
theorem endT_cons {ops : List OpM} {v : Int} {l : List Int} {m : Nat} (h : 0 < m) : endT ops (v :: l) m = if badV ops v then none else (endT ops l (m - 1 + adV ops v)).map (· + 1) := by
  rw [endT, if_neg (by omega)]
theorem endT_le {ops : List OpM} : ∀ {l : List Int} {m q : Nat}, endT ops l m = some q → q ≤ l.length
  | [], m, q, h => by
    unfold endT at h
    split at h
    · injection h with h; omega
    · cases h
  | v :: l, m, q, h => by
    unfold endT at h
    split at h
    · injection h with h; omega
    · split at h
      · cases h
      · rcases e : endT ops l (m - 1 + adV ops v) with _ | q'
        · rw [e] at h; cases h
        · rw [e] at h
          have h : q' + 1 = q := by simpa using h
          have := endT_le e
          simp only [List.length_cons]
          omega
/-- The place behind the subterm that begins at a place; -1: there is none. -/
def endI (ops : List OpM) (t : List Int) (at_ : Nat) : Int := match endT ops (t.drop at_) 1 with | some q => ((at_ + q : Nat) : Int) | none => -1
/-- The scan at place k, as many terms still wanted. -/
def EnI (ops : List OpM) (t : List Int) (a0 k need : Nat) : Prop := endT ops (t.drop a0) 1 = (endT ops (t.drop k) need).map (· + (k - a0)) ∧ a0 ≤ k ∧ need ≤ 1 + 3 * (k - a0)
theorem EnI.start (ops : List OpM) (t : List Int) (a0 : Nat) : EnI ops t a0 a0 1 := ⟨by cases endT ops (t.drop a0) 1 <;> simp, Nat.le_refl _, by omega⟩
theorem EnI.done {ops : List OpM} {t : List Int} {a0 k : Nat} (h : EnI ops t a0 k 0) : endI ops t a0 = (k : Int) := by
  unfold endI
  rw [h.1, endT_zero]
  have := h.2.1
  show ((a0 + (0 + (k - a0)) : Nat) : Int) = (k : Int)
  omega
theorem EnI.over {ops : List OpM} {t : List Int} {a0 k need : Nat} (h : EnI ops t a0 k need) (hn : 0 < need) (hk : ¬ k < t.length) : endI ops t a0 = -1 := by
  unfold endI
  rw [h.1, List.drop_eq_nil_of_le (by omega), endT_nil ops hn]
  rfl
theorem EnI.bad {ops : List OpM} {t : List Int} {a0 k need : Nat} {v : Int} (h : EnI ops t a0 k need) (hn : 0 < need) (hv : t[k]? = some v) (hb : badV ops v = true) : endI ops t a0 = -1 := by
  have hk := (List.getElem?_eq_some_iff.1 hv).1
  have e : t.drop k = v :: t.drop (k + 1) := by rw [List.drop_eq_getElem_cons hk, (List.getElem?_eq_some_iff.1 hv).2]
  unfold endI
  rw [h.1, e, endT_cons hn, hb]
  rfl
theorem EnI.next {ops : List OpM} {t : List Int} {a0 k need : Nat} {v : Int} (h : EnI ops t a0 k need) (hn : 0 < need) (hv : t[k]? = some v) (hb : badV ops v = false) (h3 : adV ops v ≤ 3) : EnI ops t a0 (k + 1) (need - 1 + adV ops v) := by
  have hk := (List.getElem?_eq_some_iff.1 hv).1
  have e : t.drop k = v :: t.drop (k + 1) := by rw [List.drop_eq_getElem_cons hk, (List.getElem?_eq_some_iff.1 hv).2]
  obtain ⟨h1, h2, h4⟩ := h
  refine ⟨?_, by omega, by omega⟩
  rw [h1, e, endT_cons hn, hb]
  rcases endT ops (t.drop (k + 1)) (need - 1 + adV ops v) with _ | q
  · rfl
  · show some (q + 1 + (k - a0)) = some (q + (k + 1 - a0))
    congr 1
    omega
def termB (ops : List OpM) (t : List Int) : Bool := decide (t.length ≤ 60) && decide (endI ops t 0 = (t.length : Int))
theorem term_end {ops : List OpM} {t : List Int} (h : termB ops t = true) : t.length ≤ 60 ∧ endT ops t 1 = some t.length := by
  unfold termB at h
  rw [Bool.and_eq_true, decide_eq_true_iff, decide_eq_true_iff] at h
  refine ⟨h.1, ?_⟩
  have h2 := h.2
  unfold endI at h2
  rw [List.drop_zero] at h2
  rcases e : endT ops t 1 with _ | q
  · rw [e] at h2
    simp only at h2
    omega
  · rw [e] at h2
    simp only at h2
    congr 1
    omega
theorem term_pos {ops : List OpM} {t : List Int} (h : termB ops t = true) : 0 < t.length := by
  obtain ⟨-, h2⟩ := term_end h
  rcases t with _ | ⟨v, l⟩
  · rw [endT_nil ops (by decide)] at h2
    cases h2
  · simp

/-! ## The value -/
/-- The stack behind a list that was read from its end: its top is the head. -/
def evS (n : Nat) (ops : List OpM) (vals : List Int) : List Int → List Nat
  | [] => []
  | v :: l => if 0 ≤ v then (vals.getD v.toNat 0).toNat :: evS n ops vals l
    else ((tbF ops v).getD (idx n ((evS n ops vals l).take (arF ops v))) 0).toNat :: (evS n ops vals l).drop (arF ops v)
def evT (n : Nat) (ops : List OpM) (vals t : List Int) : Nat := (evS n ops vals t).headD 0
/-- Some terms, one behind the other. -/
def GoodS (ops : List OpM) (l : List Int) (m : Nat) : Prop := endT ops l m = some l.length
theorem GoodS.nil {ops : List OpM} {m : Nat} (h : GoodS ops [] m) : m = 0 := by
  unfold GoodS at h
  rcases Nat.eq_zero_or_pos m with h0 | h0
  · exact h0
  · rw [endT_nil ops h0] at h; cases h
theorem GoodS.cons {ops : List OpM} {v : Int} {l : List Int} {m : Nat} (h : GoodS ops (v :: l) m) : 0 < m ∧ badV ops v = false ∧ GoodS ops l (m - 1 + adV ops v) := by
  unfold GoodS at h ⊢
  rcases Nat.eq_zero_or_pos m with h0 | h0
  · subst h0
    rw [endT_zero] at h
    injection h with h
    simp at h
  · rw [endT_cons h0] at h
    split at h
    · cases h
    · rename_i hb
      refine ⟨h0, by simpa using hb, ?_⟩
      rcases e : endT ops l (m - 1 + adV ops v) with _ | q
      · rw [e] at h; cases h
      · rw [e] at h
        injection h with h
        simp only [List.length_cons] at h
        congr 1
        omega
theorem GoodS.drop {ops : List OpM} : ∀ {l : List Int} {m : Nat} (k : Nat), GoodS ops l m → ∃ m', GoodS ops (l.drop k) m'
  | l, m, 0, h => ⟨m, by simpa using h⟩
  | [], m, k + 1, h => ⟨m, by simpa using h⟩
  | v :: l, m, k + 1, h => by
    obtain ⟨-, -, h1⟩ := h.cons
    simpa using GoodS.drop k h1
theorem evS_len {n : Nat} {ops : List OpM} {vals : List Int} : ∀ {l : List Int} {m : Nat}, GoodS ops l m → (evS n ops vals l).length = m
  | [], m, h => by rw [h.nil]; rfl
  | v :: l, m, h => by
    obtain ⟨h0, -, h1⟩ := h.cons
    have ih := evS_len (n := n) (vals := vals) h1
    unfold evS
    unfold adV at ih h1
    split
    · rename_i hv
      rw [if_pos hv] at ih
      rw [List.length_cons, ih]
      omega
    · rename_i hv
      rw [if_neg hv] at ih
      rw [List.length_cons, List.length_drop, ih]
      omega
/-- At a number of a term: it is a variable, or an operation whose arguments lie on the stack. -/
theorem GoodS.room {n : Nat} {ops : List OpM} {vals : List Int} {v : Int} {l : List Int} {m : Nat} (h : GoodS ops (v :: l) m) : badV ops v = false ∧ (¬ 0 ≤ v → arF ops v ≤ (evS n ops vals l).length) := by
  obtain ⟨h0, h1, h2⟩ := h.cons
  refine ⟨h1, fun hv => ?_⟩
  rw [evS_len h2]
  unfold adV
  rw [if_neg hv]
  omega
theorem badV_parts {ops : List OpM} {v : Int} (h : badV ops v = false) : v < 6 ∧ -(ops.length : Int) ≤ v := by
  unfold badV at h
  rw [Bool.or_eq_false_iff, decide_eq_false_iff_not, decide_eq_false_iff_not] at h
  omega
/-- The operation that a negative number of a term names. -/
theorem op_at {n : Nat} {ops : List OpM} {v : Int} (hops : ∀ o ∈ ops, OpP n o) (h : badV ops v = false) (hv : ¬ 0 ≤ v) : ∃ o, ops[(-1 - v).toNat]? = some o ∧ OpP n o ∧ arF ops v = o.1.toNat ∧ tbF ops v = o.2 ∧ (-1 - v).toNat < ops.length := by
  obtain ⟨h1, h2⟩ := badV_parts h
  have hl : (-1 - v).toNat < ops.length := by omega
  refine ⟨ops[(-1 - v).toNat], List.getElem?_eq_getElem hl, hops _ (List.getElem_mem hl), ?_, ?_, hl⟩
  · unfold arF; rw [List.getD_eq_getElem?_getD, List.getElem?_eq_getElem hl]; rfl
  · unfold tbF; rw [List.getD_eq_getElem?_getD, List.getElem?_eq_getElem hl]; rfl
theorem adV_le {n : Nat} {ops : List OpM} {v : Int} (hops : ∀ o ∈ ops, OpP n o) (h : badV ops v = false) : adV ops v ≤ 3 := by
  unfold adV
  split
  · omega
  · rename_i hv
    obtain ⟨o, -, ho, e, -⟩ := op_at hops h hv
    rw [e]
    have := ho.2.1
    omega
theorem tab_lt {n : Nat} {o : OpM} (hn : 0 < n) (ho : OpP n o) {l : List Nat} (hl : l.length = o.1.toNat) (hd : ∀ d ∈ l, d < n) : ∃ v : Nat, o.2[idx n l]? = some (v : Int) ∧ v < n := by
  have h1 := idx_lt _ l hl hd
  rw [← ho.2.2.1] at h1
  have h2 := ho.2.2.2 _ (List.getElem_mem h1)
  obtain ⟨v, hv⟩ := Int.eq_ofNat_of_zero_le h2.1
  exact ⟨v, by rw [List.getElem?_eq_getElem h1, hv], by omega⟩
/-- The values of a stack are elements. -/
theorem evS_lt {n : Nat} {ops : List OpM} {vals : List Int} (hn : 0 < n) (hops : ∀ o ∈ ops, OpP n o) (hv : ∀ x ∈ vals, 0 ≤ x ∧ x ≤ (n : Int) - 1) : ∀ {l : List Int} {m : Nat}, GoodS ops l m → (∀ v ∈ l, v < (vals.length : Int)) → ∀ d ∈ evS n ops vals l, d < n
  | [], _, _, _, d, hd => by cases hd
  | v :: l, m, h, hl, d, hd => by
    obtain ⟨h0, hb, h1⟩ := h.cons
    have ih := evS_lt hn hops hv h1 fun x hx => hl x (List.mem_cons_of_mem _ hx)
    have hr := (h.room (n := n) (vals := vals)).2
    unfold evS at hd
    split at hd
    · rename_i h0v
      rcases List.mem_cons.1 hd with rfl | hd
      · have hlt : v.toNat < vals.length := by have := hl v List.mem_cons_self; omega
        rw [List.getD_eq_getElem?_getD, List.getElem?_eq_getElem hlt]
        have := hv _ (List.getElem_mem hlt)
        show (vals[v.toNat]).toNat < n
        omega
      · exact ih d hd
    · rename_i h0v
      rcases List.mem_cons.1 hd with rfl | hd
      · obtain ⟨o, -, ho, e1, e2, -⟩ := op_at hops hb h0v
        obtain ⟨w, hw, hwn⟩ := tab_lt hn ho (l := (evS n ops vals l).take (arF ops v)) (by rw [List.length_take, ← e1]; have := hr h0v; omega) fun d hd => ih d (List.mem_of_mem_take hd)
        rw [e2, List.getD_eq_getElem?_getD, hw]
        show ((w : Int)).toNat < n
        omega
      · exact ih d (List.mem_of_mem_drop hd)
theorem evT_lt {n : Nat} {ops : List OpM} {vals t : List Int} (hn : 0 < n) (hops : ∀ o ∈ ops, OpP n o) (hv : ∀ x ∈ vals, 0 ≤ x ∧ x ≤ (n : Int) - 1) (ht : termB ops t = true) (hl : ∀ v ∈ t, v < (vals.length : Int)) : evT n ops vals t < n := by
  have h := evS_lt hn hops hv (show GoodS ops t 1 from (term_end ht).2) hl
  unfold evT
  rcases e : evS n ops vals t with _ | ⟨d, l⟩
  · exact hn
  · exact h d (by rw [e]; exact List.mem_cons_self)
/-- One number more. -/
theorem evS_var {n : Nat} {ops : List OpM} {vals l : List Int} {v : Int} {x : Nat} (h0 : 0 ≤ v) (hx : vals[v.toNat]? = some (x : Int)) : evS n ops vals (v :: l) = x :: evS n ops vals l := by
  rw [evS, if_pos h0, List.getD_eq_getElem?_getD, hx]
  rfl
theorem evS_op {n : Nat} {ops : List OpM} {vals l : List Int} {v : Int} {o : OpM} {x : Nat} (h0 : ¬ 0 ≤ v) (ha : arF ops v = o.1.toNat) (hb : tbF ops v = o.2) (hx : o.2[idx n ((evS n ops vals l).take o.1.toNat)]? = some (x : Int)) : evS n ops vals (v :: l) = x :: (evS n ops vals l).drop o.1.toNat := by
  rw [evS, if_neg h0, ha, hb, List.getD_eq_getElem?_getD, hx]
  rfl
end Go.Proofs.Ytkmcdocbdhhfhaa
