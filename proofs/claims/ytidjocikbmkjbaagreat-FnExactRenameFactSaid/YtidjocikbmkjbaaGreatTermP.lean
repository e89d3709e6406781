
/- Plain laws of terms: where one ends, its value by a stack, its variables; the values that are tried. -/
import Derived.Test.YtidjocikbmkjbaaGreatRenP
import Derived.Test.YtidjocikbmkjbaaGreatAlg
import Derived.Test.YtidjocikbmkjbaaGreatTt
import Derived.Test.YtidjocikbmkjbaaGreatPutX
import Derived.Test.YtidjocikbmkjbaaGreatSystem
import Derived.Test.YtidjocikbmkjbaaGreatStep
namespace Go.Proofs.YtidjocikbmkjbaaGreat
open Go.RowKit
set_option linter.unusedVariables false

/-- The arity of the operation that a negative number names. -/
def arF (ops : List OpM) (v : Int) : Nat := (ops.getD (-1 - v).toNat (0, [])).1.toNat
def tbF (ops : List OpM) (v : Int) : List Int := (ops.getD (-1 - v).toNat (0, [])).2
def badV (ops : List OpM) (v : Int) : Bool := decide (6 ≤ v) || decide (v < -(ops.length : Int))
def adV (ops : List OpM) (v : Int) : Nat := if 0 ≤ v then 0 else arF ops v
/-- How many numbers m terms take from the beginning of a list. -/
def endT (ops : List OpM) : List Int → Nat → Option Nat
  | [], m => if m = 0 then some 0 else none
  | v :: l, m => if m = 0 then some 0 else if badV ops v then none else (endT ops l (m - 1 + adV ops v)).map (· + 1)
theorem endT_zero (ops : List OpM) (l : List Int) : endT ops l 0 = some 0 := by cases l <;> rfl
theorem endT_nil (ops : List OpM) {m : Nat} (h : 0 < m) : endT ops [] m = none := by unfold endT; rw [if_neg (by omega)]
theorem endT_cons {ops : List OpM} {v : Int} {l : List Int} {m : Nat} (h : 0 < m) : endT ops (v :: l) m = if badV ops v then none else (endT ops l (m - 1 + adV ops v)).map (· + 1) := by
  rw [endT, if_neg (by omega)]
theorem endT_le {ops : List OpM} : ∀ {l : List Int} {m q : Nat}, endT ops l m = some q → q ≤ l.length
  | [], m, q, h => by
    unfold endT at h
    split at h
    · injection h with h; omega
    · cases h
  | v :: l, m, q, h => by
    unfold endT at h
    split at h
    · injection h with h; omega
    · split at h
      · cases h
      · rcases e : endT ops l (m - 1 + adV ops v) with _ | q'
        · rw [e] at h; cases h
        · rw [e] at h
          have h : q' + 1 = q := by simpa using h
          have := endT_le e
          simp only [List.length_cons]
          omega
/-- The place behind the subterm that begins at a place; -1: there is none. -/
def endI (ops : List OpM) (t : List Int) (at_ : Nat) : Int := match endT ops (t.drop at_) 1 with | some q => ((at_ + q : Nat) : Int) | none => -1
/-- The scan at place k, as many terms still wanted. -/
def EnI (ops : List OpM) (t : List Int) (a0 k need : Nat) : Prop := endT ops (t.drop a0) 1 = (endT ops (t.drop k) need).map (· + (k - a0)) ∧ a0 ≤ k ∧ need ≤ 1 + 3 * (k - a0)
theorem EnI.start (ops : List OpM) (t : List Int) (a0 : Nat) : EnI ops t a0 a0 1 := ⟨by cases endT ops (t.drop a0) 1 <;> simp, Nat.le_refl _, by omega⟩
theorem EnI.done {ops : List OpM} {t : List Int} {a0 k : Nat} (h : EnI ops t a0 k 0) : endI ops t a0 = (k : Int) := by
  unfold endI
  rw [h.1, endT_zero]
  have := h.2.1
  show ((a0 + (0 + (k - a0)) : Nat) : Int) = (k : Int)
  omega
theorem EnI.over {ops : List OpM} {t : List Int} {a0 k need : Nat} (h : EnI ops t a0 k need) (hn : 0 < need) (hk : ¬ k < t.length) : endI ops t a0 = -1 := by
  unfold endI
  rw [h.1, List.drop_eq_nil_of_le (by omega), endT_nil ops hn]
  rfl
theorem EnI.bad {ops : List OpM} {t : List Int} {a0 k need : Nat} {v : Int} (h : EnI ops t a0 k need) (hn : 0 < need) (hv : t[k]? = some v) (hb : badV ops v = true) : endI ops t a0 = -1 := by
  have hk := (List.getElem?_eq_some_iff.1 hv).1
  have e : t.drop k = v :: t.drop (k + 1) := by rw [List.drop_eq_getElem_cons hk, (List.getElem?_eq_some_iff.1 hv).2]
  unfold endI
  rw [h.1, e, endT_cons hn, hb]
  rfl
theorem EnI.next {ops : List OpM} {t : List Int} {a0 k need : Nat} {v : Int} (h : EnI ops t a0 k need) (hn : 0 < need) (hv : t[k]? = some v) (hb : badV ops v = false) (h3 : adV ops v ≤ 3) : EnI ops t a0 (k + 1) (need - 1 + adV ops v) := by
  have hk := (List.getElem?_eq_some_iff.1 hv).1
  have e : t.drop k = v :: t.drop (k + 1) := by rw [List.drop_eq_getElem_cons hk, (List.getElem?_eq_some_iff.1 hv).2]
  obtain ⟨h1, h2, h4⟩ := h
  refine ⟨?_, by omega, by omega⟩
  rw [h1, e, endT_cons hn, hb]
  rcases endT ops (t.drop (k + 1)) (need - 1 + adV ops v) with _ | q
  · rfl
  · show some (q + 1 + (k - a0)) = some (q + (k + 1 - a0))
    congr 1
    omega
def termB (ops : List OpM) (t : List Int) : Bool := decide (t.length ≤ 60) && decide (endI ops t 0 = (t.length : Int))
theorem term_end {ops : List OpM} {t : List Int} (h : termB ops t = true) : t.length ≤ 60 ∧ endT ops t 1 = some t.length := by
  unfold termB at h
  rw [Bool.and_eq_true, decide_eq_true_iff, decide_eq_true_iff] at h
  refine ⟨h.1, ?_⟩
  have h2 := h.2
  unfold endI at h2
  rw [List.drop_zero] at h2
  rcases e : endT ops t 1 with _ | q
  · rw [e] at h2
    simp only at h2
    omega
  · rw [e] at h2
    simp only at h2
    congr 1
    omega
theorem term_pos {ops : List OpM} {t : List Int} (h : termB ops t = true) : 0 < t.length := by
  obtain ⟨-, h2⟩ := term_end h
  rcases t with _ | ⟨v, l⟩
  · rw [endT_nil ops (by decide)] at h2
    cases h2
  · simp

/-! ## The value -/
/-- The stack behind a list that was read from its end: its top is the head. -/
def evS (n : Nat) (ops : List OpM) (vals : List Int) : List Int → List Nat
  | [] => []
  | v :: l => if 0 ≤ v then (vals.getD v.toNat 0).toNat :: evS n ops vals l
    else ((tbF ops v).getD (idx n ((evS n ops vals l).take (arF ops v))) 0).toNat :: (evS n ops vals l).drop (arF ops v)
def evT (n : Nat) (ops : List OpM) (vals t : List Int) : Nat := (evS n ops vals t).headD 0
/-- Some terms, one behind the other. -/
def GoodS (ops : List OpM) (l : List Int) (m : Nat) : Prop := endT ops l m = some l.length
theorem GoodS.nil {ops : List OpM} {m : Nat} (h : GoodS ops [] m) : m = 0 := by
  unfold GoodS at h
  rcases Nat.eq_zero_or_pos m with h0 | h0
  · exact h0
  · rw [endT_nil ops h0] at h; cases h
theorem GoodS.cons {ops : List OpM} {v : Int} {l : List Int} {m : Nat} (h : GoodS ops (v :: l) m) : 0 < m ∧ badV ops v = false ∧ GoodS ops l (m - 1 + adV ops v) := by
  unfold GoodS at h ⊢
  rcases Nat.eq_zero_or_pos m with h0 | h0
  · subst h0
    rw [endT_zero] at h
    injection h with h
    simp at h
  · rw [endT_cons h0] at h
    split at h
    · cases h
    · rename_i hb
      refine ⟨h0, by simpa using hb, ?_⟩
      rcases e : endT ops l (m - 1 + adV ops v) with _ | q
      · rw [e] at h; cases h
      · rw [e] at h
        injection h with h
        simp only [List.length_cons] at h
        congr 1
        omega
theorem GoodS.drop {ops : List OpM} : ∀ {l : List Int} {m : Nat} (k : Nat), GoodS ops l m → ∃ m', GoodS ops (l.drop k) m'
  | l, m, 0, h => ⟨m, by simpa using h⟩
  | [], m, k + 1, h => ⟨m, by simpa using h⟩
  | v :: l, m, k + 1, h => by
    obtain ⟨-, -, h1⟩ := h.cons
    simpa using GoodS.drop k h1
theorem evS_len {n : Nat} {ops : List OpM} {vals : List Int} : ∀ {l : List Int} {m : Nat}, GoodS ops l m → (evS n ops vals l).length = m
  | [], m, h => by rw [h.nil]; rfl
  | v :: l, m, h => by
    obtain ⟨h0, -, h1⟩ := h.cons
    have ih := evS_len (n := n) (vals := vals) h1
    unfold evS
    unfold adV at ih h1
    split
    · rename_i hv
      rw [if_pos hv] at ih
      rw [List.length_cons, ih]
      omega
    · rename_i hv
      rw [if_neg hv] at ih
      rw [List.length_cons, List.length_drop, ih]
      omega
/-- At a number of a term: it is a variable, or an operation whose arguments lie on the stack. -/
theorem GoodS.room {n : Nat} {ops : List OpM} {vals : List Int} {v : Int} {l : List Int} {m : Nat} (h : GoodS ops (v :: l) m) : badV ops v = false ∧ (¬ 0 ≤ v → arF ops v ≤ (evS n ops vals l).length) := by
  obtain ⟨h0, h1, h2⟩ := h.cons
  refine ⟨h1, fun hv => ?_⟩
  rw [evS_len h2]
  unfold adV
  rw [if_neg hv]
  omega
theorem badV_parts {ops : List OpM} {v : Int} (h : badV ops v = false) : v < 6 ∧ -(ops.length : Int) ≤ v := by
  unfold badV at h
  rw [Bool.or_eq_false_iff, decide_eq_false_iff_not, decide_eq_false_iff_not] at h
  omega
/-- The operation that a negative number of a term names. -/
theorem op_at {n : Nat} {ops : List OpM} {v : Int} (hops : ∀ o ∈ ops, OpP n o) (h : badV ops v = false) (hv : ¬ 0 ≤ v) : ∃ o, ops[(-1 - v).toNat]? = some o ∧ OpP n o ∧ arF ops v = o.1.toNat ∧ tbF ops v = o.2 ∧ (-1 - v).toNat < ops.length := by
  obtain ⟨h1, h2⟩ := badV_parts h
  have hl : (-1 - v).toNat < ops.length := by omega
  refine ⟨ops[(-1 - v).toNat], List.getElem?_eq_getElem hl, hops _ (List.getElem_mem hl), ?_, ?_, hl⟩
  · unfold arF; rw [List.getD_eq_getElem?_getD, List.getElem?_eq_getElem hl]; rfl
  · unfold tbF; rw [List.getD_eq_getElem?_getD, List.getElem?_eq_getElem hl]; rfl
theorem adV_le {n : Nat} {ops : List OpM} {v : Int} (hops : ∀ o ∈ ops, OpP n o) (h : badV ops v = false) : adV ops v ≤ 3 := by
  unfold adV
  split
  · omega
  · rename_i hv
    obtain ⟨o, -, ho, e, -⟩ := op_at hops h hv
    rw [e]
    have := ho.2.1
    omega
theorem tab_lt {n : Nat} {o : OpM} (hn : 0 < n) (ho : OpP n o) {l : List Nat} (hl : l.length = o.1.toNat) (hd : ∀ d ∈ l, d < n) : ∃ v : Nat, o.2[idx n l]? = some (v : Int) ∧ v < n := by
  have h1 := idx_lt _ l hl hd
  rw [← ho.2.2.1] at h1
  have h2 := ho.2.2.2 _ (List.getElem_mem h1)
  obtain ⟨v, hv⟩ := Int.eq_ofNat_of_zero_le h2.1
  exact ⟨v, by rw [List.getElem?_eq_getElem h1, hv], by omega⟩
/-- The values of a stack are elements. -/
theorem evS_lt {n : Nat} {ops : List OpM} {vals : List Int} (hn : 0 < n) (hops : ∀ o ∈ ops, OpP n o) (hv : ∀ x ∈ vals, 0 ≤ x ∧ x ≤ (n : Int) - 1) : ∀ {l : List Int} {m : Nat}, GoodS ops l m → (∀ v ∈ l, v < (vals.length : Int)) → ∀ d ∈ evS n ops vals l, d < n
  | [], _, _, _, d, hd => by cases hd
  | v :: l, m, h, hl, d, hd => by
    obtain ⟨h0, hb, h1⟩ := h.cons
    have ih := evS_lt hn hops hv h1 fun x hx => hl x (List.mem_cons_of_mem _ hx)
    have hr := (h.room (n := n) (vals := vals)).2
    unfold evS at hd
    split at hd
    · rename_i h0v
      rcases List.mem_cons.1 hd with rfl | hd
      · have hlt : v.toNat < vals.length := by have := hl v List.mem_cons_self; omega
        rw [List.getD_eq_getElem?_getD, List.getElem?_eq_getElem hlt]
        have := hv _ (List.getElem_mem hlt)
        show (vals[v.toNat]).toNat < n
        omega
      · exact ih d hd
    · rename_i h0v
      rcases List.mem_cons.1 hd with rfl | hd
      · obtain ⟨o, -, ho, e1, e2, -⟩ := op_at hops hb h0v
        obtain ⟨w, hw, hwn⟩ := tab_lt hn ho (l := (evS n ops vals l).take (arF ops v)) (by rw [List.length_take, ← e1]; have := hr h0v; omega) fun d hd => ih d (List.mem_of_mem_take hd)
        rw [e2, List.getD_eq_getElem?_getD, hw]
        show ((w : Int)).toNat < n
        omega
      · exact ih d (List.mem_of_mem_drop hd)
theorem evT_lt {n : Nat} {ops : List OpM} {vals t : List Int} (hn : 0 < n) (hops : ∀ o ∈ ops, OpP n o) (hv : ∀ x ∈ vals, 0 ≤ x ∧ x ≤ (n : Int) - 1) (ht : termB ops t = true) (hl : ∀ v ∈ t, v < (vals.length : Int)) : evT n ops vals t < n := by
  have h := evS_lt hn hops hv (show GoodS ops t 1 from (term_end ht).2) hl
  unfold evT
  rcases e : evS n ops vals t with _ | ⟨d, l⟩
  · exact hn
  · exact h d (by rw [e]; exact List.mem_cons_self)
/-- One number more. -/
theorem evS_var {n : Nat} {ops : List OpM} {vals l : List Int} {v : Int} {x : Nat} (h0 : 0 ≤ v) (hx : vals[v.toNat]? = some (x : Int)) : evS n ops vals (v :: l) = x :: evS n ops vals l := by
  rw [evS, if_pos h0, List.getD_eq_getElem?_getD, hx]
  rfl
theorem evS_op {n : Nat} {ops : List OpM} {vals l : List Int} {v : Int} {o : OpM} {x : Nat} (h0 : ¬ 0 ≤ v) (ha : arF ops v = o.1.toNat) (hb : tbF ops v = o.2) (hx : o.2[idx n ((evS n ops vals l).take o.1.toNat)]? = some (x : Int)) : evS n ops vals (v :: l) = x :: (evS n ops vals l).drop o.1.toNat := by
  rw [evS, if_neg h0, ha, hb, List.getD_eq_getElem?_getD, hx]
  rfl
end Go.Proofs.YtidjocikbmkjbaaGreat
namespace Go.Proofs.YtidjocikbmkjbaaGreat
open Go.RowKit
set_option linter.unusedVariables false

/-- Closed under the operations. -/
def ClosedM (n : Nat) (ops : List OpM) (M : Nat → Bool) : Prop := ∀ o ∈ ops, ∀ i, i < o.2.length → (∀ d ∈ digs n o.1.toNat i, M d = true) → M (nmAt o.2 i) = true
def LeM (n : Nat) (B M : Nat → Bool) : Prop := ∀ y, y < n → B y = true → M y = true
/-- In every closed set that has the set B. -/
def InCl (n : Nat) (ops : List OpM) (B : Nat → Bool) (y : Nat) : Prop := ∀ M, ClosedM n ops M → LeM n B M → M y = true
noncomputable def clB (n : Nat) (ops : List OpM) (B : Nat → Bool) (y : Nat) : Bool := tt (InCl n ops B y)
theorem LeM.refl (n : Nat) (B : Nat → Bool) : LeM n B B := fun _ _ h => h
theorem LeM.trans {n : Nat} {A B C : Nat → Bool} (h : LeM n A B) (k : LeM n B C) : LeM n A C := fun y hy ha => k y hy (h y hy ha)
theorem clB_closed (n : Nat) (ops : List OpM) (B : Nat → Bool) : ClosedM n ops (clB n ops B) := fun o ho i hi hd => tt_iff.2 fun M hM hB => hM o ho i hi fun d hd' => tt_iff.1 (hd d hd') M hM hB
theorem clB_sup (n : Nat) (ops : List OpM) (B : Nat → Bool) : LeM n B (clB n ops B) := fun y hy h => tt_iff.2 fun _ _ hB => hB y hy h
theorem clB_least {n : Nat} {ops : List OpM} {B M : Nat → Bool} (hc : ClosedM n ops M) (hs : LeM n B M) : LeM n (clB n ops B) M := fun _ _ h => tt_iff.1 h M hc hs
theorem cl_eq {n : Nat} {ops : List OpM} {B H : Nat → Bool} (hs : LeM n B H) (hc : ClosedM n ops H) (hl : LeM n H (clB n ops B)) {y : Nat} (hy : y < n) : H y = clB n ops B y := by
  rcases e : H y with _ | _
  · rcases e2 : clB n ops B y with _ | _
    · rfl
    · have := clB_least hc hs y hy e2
      rw [e] at this
      cases this
  · exact (hl y hy e).symm
/-- The marked numbers in ascending order. -/
def markL (n : Nat) (M : Nat → Bool) : List Int := ((List.range n).filter M).map fun (y : Nat) => (y : Int)
theorem markL_congr {n : Nat} {M H : Nat → Bool} (h : ∀ y, y < n → M y = H y) : markL n M = markL n H := by
  unfold markL
  congr 1
  exact List.filter_congr fun y hy => h y (List.mem_range.1 hy)
theorem markL_succ (n : Nat) (M : Nat → Bool) : markL (n + 1) M = markL n M ++ if M n then [(n : Int)] else [] := by
  unfold markL
  rw [List.range_succ, List.filter_append, List.map_append]
  congr 1
  rcases e : M n with _ | _ <;> simp [e]
theorem markL_mem {n : Nat} {M : Nat → Bool} {v : Int} : v ∈ markL n M ↔ ∃ y : Nat, y < n ∧ M y = true ∧ v = (y : Int) := by
  unfold markL
  rw [List.mem_map]
  constructor
  · rintro ⟨y, hy, rfl⟩
    rw [List.mem_filter, List.mem_range] at hy
    exact ⟨y, hy.1, hy.2, rfl⟩
  · rintro ⟨y, h1, h2, rfl⟩
    exact ⟨y, List.mem_filter.2 ⟨List.mem_range.2 h1, h2⟩, rfl⟩
theorem markL_le (n : Nat) (M : Nat → Bool) : (markL n M).length ≤ n := by
  unfold markL
  rw [List.length_map]
  exact Nat.le_trans (List.length_filter_le _ _) (by simp)
theorem markL_in {n : Nat} {M : Nat → Bool} : ∀ v ∈ markL n M, 0 ≤ v ∧ v ≤ (n : Int) - 1 := fun v hv => by
  obtain ⟨y, hy, -, rfl⟩ := markL_mem.1 hv
  omega
/-! ## Marks as a list of truth values -/
def gB (L : List Bool) (y : Nat) : Bool := L.getD y false
theorem gB_get {L : List Bool} {y : Nat} {b : Bool} (h : L[y]? = some b) : gB L y = b := by unfold gB; rw [List.getD_eq_getElem?_getD, h]; rfl
theorem gB_at {L : List Bool} {y : Nat} (h : y < L.length) : L[y]? = some (gB L y) := by unfold gB; rw [List.getD_eq_getElem?_getD, List.getElem?_eq_getElem h]; rfl
theorem gB_set {L : List Bool} {x y : Nat} (hx : x < L.length) (b : Bool) : gB (L.set x b) y = if y = x then b else gB L y := by
  unfold gB
  rw [List.getD_eq_getElem?_getD, List.getElem?_set]
  by_cases h : x = y
  · subst h
    rw [if_pos rfl, if_pos hx, if_pos rfl]
    rfl
  · rw [if_neg h, if_neg (fun e => h e.symm), List.getD_eq_getElem?_getD]
/-- What is not marked. -/
def offs (L : List Bool) : Nat := L.countP fun b => !b
theorem offs_set : ∀ {L : List Bool} {x : Nat}, L[x]? = some false → offs (L.set x true) + 1 = offs L
  | [], x, h => by simp at h
  | b :: L, 0, h => by
    simp only [List.getElem?_cons_zero, Option.some.injEq] at h
    subst h
    simp [offs]
  | b :: L, x + 1, h => by
    simp only [List.getElem?_cons_succ] at h
    have ih := offs_set h
    unfold offs at ih ⊢
    simp only [List.set_cons_succ, List.countP_cons]
    omega
theorem offs_le (L : List Bool) : offs L ≤ L.length := List.countP_le_length
/-- The rounds of the program: L is what is marked, L0 what was marked at first. -/
structure ClI (n : Nat) (ops : List OpM) (L0 L : List Bool) : Prop where
  len : L.length = n
  sup : LeM n (gB L0) (gB L)
  least : LeM n (gB L) (clB n ops (gB L0))
theorem ClI.start {n : Nat} {ops : List OpM} {L0 : List Bool} (h : L0.length = n) : ClI n ops L0 L0 := ⟨h, LeM.refl _ _, clB_sup _ _ _⟩
def AllM (n k i : Nat) (L : List Bool) : Bool := (digs n k i).all (gB L)
theorem ClI.mark {n : Nat} {ops : List OpM} {L0 L : List Bool} (h : ClI n ops L0 L) (hn : 0 < n) {o : OpM} (ho : o ∈ ops) {i v : Nat} (hv : o.2[i]? = some (v : Int)) (hvn : v < n) (hA : AllM n o.1.toNat i L = true) : ClI n ops L0 (L.set v true) := by
  have hl := h.len
  refine ⟨by rw [List.length_set]; exact hl, fun y hy hb => ?_, fun y hy hb => ?_⟩
  · rw [gB_set (by omega)]
    split
    · rfl
    · exact h.sup y hy hb
  · rw [gB_set (by omega)] at hb
    split at hb
    · rename_i e
      subst e
      have hi := (List.getElem?_eq_some_iff.1 hv).1
      have := clB_closed n ops (gB L0) o ho i hi fun d hd => h.least d (digs_lt hn hd) (List.all_eq_true.1 hA d hd)
      rwa [nmAt_get hv] at this
    · exact h.least y hy hb
/-- Nothing is to be marked at an entry of a table. -/
def OkE (n : Nat) (L : List Bool) (o : OpM) (i : Nat) : Prop := AllM n o.1.toNat i L = true → gB L (nmAt o.2 i) = true
theorem ClI.done {n : Nat} {ops : List OpM} {L0 L : List Bool} (h : ClI n ops L0 L) (hk : ∀ o ∈ ops, ∀ i, i < o.2.length → OkE n L o i) {y : Nat} (hy : y < n) : gB L y = clB n ops (gB L0) y :=
  cl_eq h.sup (fun o ho i hi hd => hk o ho i hi (List.all_eq_true.2 hd)) h.least hy
/-! ## The reference steps all at once -/
/-- One step: everything that an operation gives of what is marked. -/
def StP (n : Nat) (ops : List OpM) (L : List Bool) (y : Nat) : Prop := ∃ o ∈ ops, ∃ i, i < o.2.length ∧ AllM n o.1.toNat i L = true ∧ nmAt o.2 i = y
noncomputable def stL (n : Nat) (ops : List OpM) (L : List Bool) : List Bool := (List.range n).map fun y => gB L y || tt (StP n ops L y)
theorem stL_len (n : Nat) (ops : List OpM) (L : List Bool) : (stL n ops L).length = n := by simp [stL]
theorem stL_get {n : Nat} {ops : List OpM} {L : List Bool} {y : Nat} (hy : y < n) : gB (stL n ops L) y = (gB L y || tt (StP n ops L y)) := by
  refine gB_get ?_
  unfold stL
  rw [List.getElem?_map, List.getElem?_range hy]
  rfl
noncomputable def stN (n : Nat) (ops : List OpM) : Nat → List Bool → List Bool
  | 0, L => L
  | k + 1, L => stL n ops (stN n ops k L)
theorem stN_len {n : Nat} {ops : List OpM} {L : List Bool} (h : L.length = n) : ∀ k, (stN n ops k L).length = n
  | 0 => h
  | k + 1 => stL_len _ _ _
theorem gB_ext {L M : List Bool} {n : Nat} (hl : L.length = n) (hm : M.length = n) (h : ∀ y, y < n → gB L y = gB M y) : L = M := by
  apply List.ext_getElem?
  intro y
  by_cases hy : y < n
  · rw [gB_at (by omega), gB_at (by omega), h y hy]
  · rw [List.getElem?_eq_none (by omega), List.getElem?_eq_none (by omega)]
theorem offs_lt : ∀ {L M : List Bool}, L.length = M.length → (∀ y, gB L y = true → gB M y = true) → L ≠ M → offs M < offs L
  | [], [], _, _, h => absurd rfl h
  | [], _ :: _, h, _, _ => by simp at h
  | _ :: _, [], h, _, _ => by simp at h
  | a :: L, b :: M, hl, hle, hne => by
    have h0 := hle 0
    have hs : ∀ y, gB L y = true → gB M y = true := fun y => by
      have := hle (y + 1)
      simpa [gB] using this
    have hl' : L.length = M.length := by simpa using hl
    have hge : offs M ≤ offs L := by
      by_cases e : L = M
      · rw [e]; exact Nat.le_refl _
      · exact Nat.le_of_lt (offs_lt hl' hs e)
    by_cases e : L = M
    · subst e
      have hab : a ≠ b := fun e => hne (by rw [e])
      have h1 : a = false ∧ b = true := by
        rcases a with _ | _ <;> rcases b with _ | _
        · exact absurd rfl hab
        · exact ⟨rfl, rfl⟩
        · have := h0 (by simp [gB]); simp [gB] at this
        · exact absurd rfl hab
      obtain ⟨rfl, rfl⟩ := h1
      simp [offs]
    · have := offs_lt hl' hs e
      have hab : a = true → b = true := fun e => by have := h0 (by simp [gB, e]); simpa [gB] using this
      unfold offs at this hge ⊢
      simp only [List.countP_cons]
      rcases a with _ | _ <;> rcases b with _ | _ <;> simp_all <;> omega
theorem stL_up {n : Nat} {ops : List OpM} {L : List Bool} (hl : L.length = n) (y : Nat) (h : gB L y = true) : gB (stL n ops L) y = true := by
  have hy : y < n := by
    rcases Nat.lt_or_ge y n with h1 | h1
    · exact h1
    · unfold gB at h
      rw [List.getD_eq_getElem?_getD, List.getElem?_eq_none (by omega)] at h
      cases h
  rw [stL_get hy, h]
  rfl
theorem stN_cnt {n : Nat} {ops : List OpM} {L : List Bool} (hl : L.length = n) : ∀ k, stL n ops (stN n ops k L) = stN n ops k L ∨ k + offs (stN n ops k L) ≤ n
  | 0 => .inr (by have := offs_le L; show 0 + offs L ≤ n; omega)
  | k + 1 => by
    by_cases e : stL n ops (stN n ops k L) = stN n ops k L
    · left
      show stL n ops (stL n ops (stN n ops k L)) = stL n ops (stN n ops k L)
      rw [e, e]
    · right
      have h1 : k + offs (stN n ops k L) ≤ n := (stN_cnt hl k).resolve_left e
      have h2 := offs_lt (L := stN n ops k L) (M := stL n ops (stN n ops k L)) (by rw [stN_len hl, stL_len]) (fun y => stL_up (stN_len hl k) y) (Ne.symm e)
      show k + 1 + offs (stL n ops (stN n ops k L)) ≤ n
      omega
theorem stN_fix {n : Nat} {ops : List OpM} {L : List Bool} (hl : L.length = n) : stL n ops (stN n ops (n + 1) L) = stN n ops (n + 1) L := by
  rcases stN_cnt (ops := ops) hl (n + 1) with h | h
  · exact h
  · omega
theorem stN_inv {n : Nat} {ops : List OpM} {L : List Bool} (hn : 0 < n) (hl : L.length = n) : ∀ k, LeM n (gB L) (gB (stN n ops k L)) ∧ LeM n (gB (stN n ops k L)) (clB n ops (gB L))
  | 0 => ⟨LeM.refl _ _, clB_sup _ _ _⟩
  | k + 1 => by
    obtain ⟨h1, h2⟩ := stN_inv hn hl k
    refine ⟨fun y hy h => stL_up (stN_len hl k) y (h1 y hy h), fun y hy h => ?_⟩
    have h3 : gB (stL n ops (stN n ops k L)) y = true := h
    rw [stL_get hy, Bool.or_eq_true] at h3
    rcases h3 with h3 | h3
    · exact h2 y hy h3
    · obtain ⟨o, ho, i, hi, hA, rfl⟩ := tt_iff.1 h3
      exact clB_closed n ops (gB L) o ho i hi fun d hd => h2 d (digs_lt hn hd) (List.all_eq_true.1 hA d hd)
theorem stN_cl {n : Nat} {ops : List OpM} {L : List Bool} (hn : 0 < n) (hl : L.length = n) (hops : ∀ o ∈ ops, ∀ v ∈ o.2, 0 ≤ v ∧ v ≤ (n : Int) - 1) {y : Nat} (hy : y < n) : gB (stN n ops (n + 1) L) y = clB n ops (gB L) y := by
  obtain ⟨h1, h2⟩ := stN_inv (ops := ops) hn hl (n + 1)
  refine cl_eq h1 (fun o ho i hi hd => ?_) h2 hy
  have hv := hops o ho _ (List.getElem_mem hi)
  have hvn : nmAt o.2 i < n := by
    rw [nmAt_get (List.getElem?_eq_getElem hi)]
    omega
  rw [← stN_fix hl, stL_get hvn, ← tt_true (show StP n ops (stN n ops (n + 1) L) (nmAt o.2 i) from ⟨o, ho, i, hi, List.all_eq_true.2 hd, rfl⟩), Bool.or_true]
/-- What some elements generate. -/
def inL (n : Nat) (S : List Int) : List Bool := (List.range n).map fun (y : Nat) => hasI (y : Int) S
theorem inL_len (n : Nat) (S : List Int) : (inL n S).length = n := by simp [inL]
noncomputable def genL (n : Nat) (ops : List OpM) (S : List Int) : List Int := markL n (clB n ops (gB (inL n S)))
end Go.Proofs.YtidjocikbmkjbaaGreat
namespace Go.Proofs.YtidjocikbmkjbaaGreat
open Go.RowKit
set_option linter.unusedVariables false

/-- A partition of n elements: each is told by the least element of its block. -/
def ParI (p : List Int) (i : Nat) : Prop := 0 ≤ p.getD i 0 ∧ nmAt p i ≤ i ∧ nmAt p (nmAt p i) = nmAt p i
def ParP (n : Nat) (p : List Int) : Prop := p.length = n ∧ ∀ i, i < n → ParI p i
theorem ParP.at {n : Nat} {p : List Int} (h : ParP n p) {i : Nat} (hi : i < n) : p[i]? = some (nmAt p i : Int) ∧ nmAt p i ≤ i ∧ nmAt p (nmAt p i) = nmAt p i := by
  obtain ⟨h1, h2, h3⟩ := h.2 i hi
  refine ⟨?_, h2, h3⟩
  have hl : i < p.length := by rw [h.1]; exact hi
  unfold nmAt
  rw [List.getD_eq_getElem?_getD, List.getElem?_eq_getElem hl] at h1 ⊢
  simp only [Option.getD_some] at h1 ⊢
  congr 1
  omega
def uniV (a b v : Int) : Int := if v = (if a ≤ b then b else a) then (if a ≤ b then a else b) else v
/-- The blocks of two elements in one. -/
def uniL (p : List Int) (x y : Nat) : List Int := p.map (uniV (nmAt p x) (nmAt p y))
theorem uniL_len (p : List Int) (x y : Nat) : (uniL p x y).length = p.length := by simp [uniL]
theorem uni_same {p : List Int} {x y : Nat} (h : nmAt p x = nmAt p y) : uniL p x y = p := by
  unfold uniL
  rw [h]
  refine (List.map_congr_left (g := id) fun v _ => ?_).trans (List.map_id p)
  unfold uniV
  simp only [Int.le_refl, if_true]
  split
  · rename_i e; exact e.symm
  · rfl
section
variable {n : Nat} {p : List Int} (hp : ParP n p)
include hp
theorem uni_at {x y i : Nat} (hi : i < n) : nmAt (uniL p x y) i = if nmAt p i = max (nmAt p x) (nmAt p y) then min (nmAt p x) (nmAt p y) else nmAt p i := by
  have h1 : (uniL p x y)[i]? = some (uniV (nmAt p x) (nmAt p y) (nmAt p i)) := by
    unfold uniL
    rw [List.getElem?_map, (hp.at hi).1]
    rfl
  rw [nmAt_get h1]
  unfold uniV
  by_cases hxy : nmAt p x ≤ nmAt p y
  · have h2 : ((nmAt p x : Nat) : Int) ≤ ((nmAt p y : Nat) : Int) := by omega
    rw [if_pos h2, if_pos h2, Nat.max_eq_right hxy, Nat.min_eq_left hxy]
    by_cases e : nmAt p i = nmAt p y
    · rw [if_pos e, if_pos (by rw [e])]; omega
    · rw [if_neg e, if_neg (by omega)]; omega
  · have h2 : ¬ ((nmAt p x : Nat) : Int) ≤ ((nmAt p y : Nat) : Int) := by omega
    rw [if_neg h2, if_neg h2, Nat.max_eq_left (by omega), Nat.min_eq_right (by omega)]
    by_cases e : nmAt p i = nmAt p x
    · rw [if_pos e, if_pos (by rw [e])]; omega
    · rw [if_neg e, if_neg (by omega)]; omega
theorem par_lt {i : Nat} (hi : i < n) : nmAt p i < n := by have := (hp.at hi).2.1; omega
theorem uni_par {x y : Nat} (hx : x < n) (hy : y < n) : ParP n (uniL p x y) := by
  have hxl := par_lt hp hx
  have hyl := par_lt hp hy
  have hmin : min (nmAt p x) (nmAt p y) < n := by omega
  have hmm : nmAt p (min (nmAt p x) (nmAt p y)) = min (nmAt p x) (nmAt p y) := by
    rcases Nat.le_total (nmAt p x) (nmAt p y) with h | h
    · rw [Nat.min_eq_left h]; exact (hp.at hx).2.2
    · rw [Nat.min_eq_right h]; exact (hp.at hy).2.2
  refine ⟨by rw [uniL_len]; exact hp.1, fun i hi => ?_⟩
  have e := uni_at hp (x := x) (y := y) hi
  have h1 := hp.at hi
  refine ⟨?_, ?_, ?_⟩
  · unfold uniL
    rw [List.getD_eq_getElem?_getD, List.getElem?_map, h1.1]
    show 0 ≤ uniV _ _ _
    unfold uniV
    split
    · split <;> omega
    · omega
  · rw [e]
    split
    · omega
    · exact h1.2.1
  · rw [e]
    by_cases h2 : nmAt p i = max (nmAt p x) (nmAt p y)
    · rw [if_pos h2, uni_at hp hmin, hmm]
      split <;> rfl
    · rw [if_neg h2, uni_at hp (par_lt hp hi), h1.2.2, if_neg h2]
/-- Coarser. -/
theorem uni_keep {x y i j : Nat} (hi : i < n) (hj : j < n) (h : nmAt p i = nmAt p j) : nmAt (uniL p x y) i = nmAt (uniL p x y) j := by rw [uni_at hp hi, uni_at hp hj, h]
theorem uni_joins {x y : Nat} (hx : x < n) (hy : y < n) : nmAt (uniL p x y) x = nmAt (uniL p x y) y := by
  rw [uni_at hp hx, uni_at hp hy]
  rcases Nat.le_total (nmAt p x) (nmAt p y) with h | h
  · rw [Nat.max_eq_right h, Nat.min_eq_left h, if_pos rfl]
    split <;> omega
  · rw [Nat.max_eq_left h, Nat.min_eq_right h, if_pos rfl]
    split <;> omega
omit hp in
/-- The elements that tell blocks. -/
def fixs (n : Nat) (p : List Int) : Nat := ((List.range n).filter fun i => nmAt p i == i).length
omit hp in
theorem filter_lt {α : Type} {P Q : α → Bool} : ∀ {l : List α}, (∀ a ∈ l, P a = true → Q a = true) → (∃ a ∈ l, Q a = true ∧ P a = false) → (l.filter P).length < (l.filter Q).length
  | [], _, ⟨a, ha, _⟩ => by cases ha
  | b :: l, h, ⟨a, ha, h1, h2⟩ => by
    have hle : (l.filter P).length ≤ (l.filter Q).length := by
      rw [← List.countP_eq_length_filter, ← List.countP_eq_length_filter]
      exact List.countP_mono_left fun x hx => h x (List.mem_cons_of_mem _ hx)
    rcases List.mem_cons.1 ha with rfl | ha
    · rw [List.filter_cons_of_neg (by rw [h2]; decide), List.filter_cons_of_pos h1]
      simp only [List.length_cons]
      omega
    · have ih := filter_lt (fun x hx => h x (List.mem_cons_of_mem _ hx)) ⟨a, ha, h1, h2⟩
      have hb := h b List.mem_cons_self
      rcases e1 : P b with _ | _
      · rw [List.filter_cons_of_neg (by rw [e1]; decide)]
        rcases e2 : Q b with _ | _
        · rw [List.filter_cons_of_neg (by rw [e2]; decide)]; exact ih
        · rw [List.filter_cons_of_pos e2]; simp only [List.length_cons]; omega
      · rw [List.filter_cons_of_pos e1, List.filter_cons_of_pos (hb e1)]
        simp only [List.length_cons]
        omega
theorem uni_fixs {x y : Nat} (hx : x < n) (hy : y < n) (h : nmAt p x ≠ nmAt p y) : fixs n (uniL p x y) < fixs n p := by
  have hm : max (nmAt p x) (nmAt p y) < n := by have := par_lt hp hx; have := par_lt hp hy; omega
  have hmm : nmAt p (max (nmAt p x) (nmAt p y)) = max (nmAt p x) (nmAt p y) := by
    rcases Nat.le_total (nmAt p x) (nmAt p y) with h | h
    · rw [Nat.max_eq_right h]; exact (hp.at hy).2.2
    · rw [Nat.max_eq_left h]; exact (hp.at hx).2.2
  refine filter_lt (fun i hi h1 => ?_) ⟨max (nmAt p x) (nmAt p y), List.mem_range.2 hm, by simpa using hmm, ?_⟩
  · rw [List.mem_range] at hi
    rw [beq_iff_eq, uni_at hp hi] at h1
    rw [beq_iff_eq]
    split at h1
    · rename_i e
      have := (hp.at hi).2.1
      omega
    · exact h1
  · rw [beq_eq_false_iff_ne, uni_at hp hm, hmm, if_pos rfl]
    omega
end
/-! ## Pairs that a congruence must hold together -/
/-- The index with another digit. -/
def repI (n k : Nat) (p : List Int) (i j : Nat) : Nat := idx n ((digs n k i).set j (nmAt p ((digs n k i).getD j 0)))
def PrE (n : Nat) (p : List Int) (o : OpM) (i j : Nat) : Prop := nmAt p (nmAt o.2 i) = nmAt p (nmAt o.2 (repI n o.1.toNat p i j))
def CompP (n : Nat) (ops : List OpM) (p : List Int) : Prop := ∀ o ∈ ops, ∀ j, j < o.1.toNat → ∀ i, i < o.2.length → PrE n p o i j
theorem repI_lt {n k : Nat} {p : List Int} (hn : 0 < n) (hp : ParP n p) {i j : Nat} : repI n k p i j < n ^ k := by
  refine idx_lt k _ (by rw [List.length_set, digs_len]) fun d hd => ?_
  rcases List.mem_or_eq_of_mem_set hd with h | h
  · exact digs_lt hn h
  · subst h
    refine par_lt hp ?_
    rw [List.getD_eq_getElem?_getD]
    rcases e : (digs n k i)[j]? with _ | d
    · exact hn
    · exact digs_lt hn (List.mem_of_getElem? e)
/-- A digit, and the index with another one in its place. -/
theorem rep_step {n : Nat} : ∀ (k q i d : Nat), q < k → (digs n k i).getD (k - 1 - q) 0 = i / n ^ q % n ∧ idx n (digs n k i) + d * n ^ q = idx n ((digs n k i).set (k - 1 - q) d) + (i / n ^ q % n) * n ^ q
  | 0, q, i, d, h => by omega
  | k + 1, 0, i, d, h => by
    have hl : (digs n k (i / n)).length = k := digs_len n k _
    rw [digs]
    simp only [Nat.add_sub_cancel, Nat.sub_zero, Nat.pow_zero, Nat.div_one, Nat.mul_one]
    refine ⟨?_, ?_⟩
    · rw [List.getD_eq_getElem?_getD, List.getElem?_append_right (by omega), hl]
      simp
    · rw [List.set_append_right _ _ (by omega), hl]
      simp only [Nat.sub_self, List.set_cons_zero, idx_snoc]
      omega
  | k + 1, q + 1, i, d, h => by
    have hl : (digs n k (i / n)).length = k := digs_len n k _
    obtain ⟨h1, h2⟩ := rep_step (n := n) k q (i / n) d (by omega)
    have e1 : k + 1 - 1 - (q + 1) = k - 1 - q := by omega
    have e2 : i / n ^ (q + 1) = i / n / n ^ q := by rw [Nat.pow_succ, Nat.mul_comm, Nat.div_div_eq_div_mul]
    rw [digs, e1, e2]
    refine ⟨?_, ?_⟩
    · rw [List.getD_eq_getElem?_getD, List.getElem?_append_left (by omega), ← List.getD_eq_getElem?_getD]
      exact h1
    · rw [List.set_append_left _ _ (by omega), idx_snoc, idx_snoc]
      have h3 := congrArg (· * n) h2
      simp only [Nat.add_mul] at h3
      rw [Nat.pow_succ, ← Nat.mul_assoc, ← Nat.mul_assoc]
      omega
/-- As the program reckons it. -/
theorem rep_prog {n k q i : Nat} {p : List Int} (hn : 0 < n) (hq : q < k) (hi : i < n ^ k) : (repI n k p i (k - 1 - q) : Int) = (i : Int) + ((nmAt p (i / n ^ q % n) : Int) - ((i / n ^ q % n : Nat) : Int)) * ((n ^ q : Nat) : Int) := by
  obtain ⟨h1, h2⟩ := rep_step (n := n) k q i (nmAt p (i / n ^ q % n)) hq
  unfold repI
  rw [h1]
  rw [idx_digs hn hi] at h2
  have h3 : ((i + nmAt p (i / n ^ q % n) * n ^ q : Nat) : Int) = ((idx n ((digs n k i).set (k - 1 - q) (nmAt p (i / n ^ q % n))) + (i / n ^ q % n) * n ^ q : Nat) : Int) := by rw [h2]
  rw [Int.natCast_add, Int.natCast_mul, Int.natCast_add, Int.natCast_mul] at h3
  rw [Int.sub_mul]
  omega
/-! ## The reference's push -/
/-- out is what the partition p became: coarser; as p, where nothing was to be put together. -/
structure PuI (n : Nat) (p out : List Int) (all : Prop) : Prop where
  par : ParP n out
  keep : ∀ i j, i < n → j < n → nmAt p i = nmAt p j → nmAt out i = nmAt out j
  same : all → out = p
  back : out = p → all
theorem PuI.start {n : Nat} {p : List Int} (h : ParP n p) : PuI n p p True := ⟨h, fun _ _ _ _ h => h, fun _ => rfl, fun _ => trivial⟩
theorem PuI.congr {n : Nat} {p out : List Int} {a b : Prop} (h : PuI n p out a) (e : a ↔ b) : PuI n p out b := ⟨h.par, h.keep, fun hb => h.same (e.2 hb), fun hb => e.1 (h.back hb)⟩
theorem par_ext {n : Nat} {p q : List Int} (hp : ParP n p) (hq : ParP n q) (h : ∀ i, i < n → nmAt p i = nmAt q i) : p = q := by
  apply List.ext_getElem?
  intro i
  by_cases hi : i < n
  · rw [(hp.at hi).1, (hq.at hi).1, h i hi]
  · rw [List.getElem?_eq_none (by rw [hp.1]; omega), List.getElem?_eq_none (by rw [hq.1]; omega)]
/-- A strictly coarser one has fewer blocks: once they are put together, the partition is another one. -/
theorem fixs_keep {n : Nat} {p q : List Int} (hp : ParP n p) (hq : ParP n q) (hk : ∀ i j, i < n → j < n → nmAt p i = nmAt p j → nmAt q i = nmAt q j) {i : Nat} (hi : i < n) (h : nmAt q i = i) : nmAt p i = i := by
  have h1 := hp.at hi
  have h2 := hk (nmAt p i) i (by omega) hi h1.2.2
  have h3 := (hq.at (show nmAt p i < n by omega)).2.1
  omega
theorem PuI.next {n : Nat} {p out : List Int} {all : Prop} (hp : ParP n p) (h : PuI n p out all) {x y : Nat} (hx : x < n) (hy : y < n) : PuI n p (uniL out x y) (all ∧ nmAt p x = nmAt p y) := by
  refine ⟨uni_par h.par hx hy, fun i j hi hj e => uni_keep h.par hi hj (h.keep i j hi hj e), fun ⟨ha, hxy⟩ => ?_, fun e => ?_⟩
  · have := h.same ha
    subst this
    exact uni_same hxy
  · have h1 : nmAt p x = nmAt p y := by rw [← e]; exact uni_joins h.par hx hy
    refine ⟨h.back ?_, h1⟩
    -- out is between p and uniL out = p
    refine par_ext h.par hp fun i hi => ?_
    have h2 : ∀ i j, i < n → j < n → nmAt out i = nmAt out j → nmAt p i = nmAt p j := fun i j hi hj e2 => by
      rw [← e]; exact uni_keep h.par hi hj e2
    -- both tell the block of i by its least element
    have ho := h.par.at hi
    have hq := hp.at hi
    have k1 := h.keep (nmAt p i) i (by omega) hi hq.2.2
    have k2 := h2 (nmAt out i) i (by omega) hi ho.2.2
    have k3 := (h.par.at (show nmAt p i < n by omega)).2.1
    have k4 := (hp.at (show nmAt out i < n by omega)).2.1
    omega
end Go.Proofs.YtidjocikbmkjbaaGreat
namespace Go.Proofs.YtidjocikbmkjbaaGreat
open Go.RowKit
set_option linter.unusedVariables false

theorem asc_ext : ∀ {l m : List Int}, l.Pairwise (· < ·) → m.Pairwise (· < ·) → (∀ x, x ∈ l ↔ x ∈ m) → l = m
  | [], [], _, _, _ => rfl
  | [], b :: m, _, _, h => by have := (h b).2 List.mem_cons_self; cases this
  | a :: l, [], _, _, h => by have := (h a).1 List.mem_cons_self; cases this
  | a :: l, b :: m, hl, hm, h => by
    rw [List.pairwise_cons] at hl hm
    have e : a = b := by
      rcases List.mem_cons.1 ((h a).1 List.mem_cons_self) with e | e
      · exact e
      · rcases List.mem_cons.1 ((h b).2 List.mem_cons_self) with e2 | e2
        · exact e2.symm
        · have h1 := hm.1 a e
          have h2 := hl.1 b e2
          omega
    subst e
    congr 1
    refine asc_ext hl.2 hm.2 fun x => ⟨fun hx => ?_, fun hx => ?_⟩
    · rcases List.mem_cons.1 ((h x).1 (List.mem_cons_of_mem _ hx)) with e | e
      · subst e; have := hl.1 x hx; omega
      · exact e
    · rcases List.mem_cons.1 ((h x).2 (List.mem_cons_of_mem _ hx)) with e | e
      · subst e; have := hm.1 x hx; omega
      · exact e
theorem put_asc {xs L : List Int} {y : Int} (h : xs.Pairwise (· < ·)) (hp : PutP xs y L) : L.Pairwise (· < ·) ∧ ∀ z, z ∈ L ↔ z ∈ xs ∨ z = y := by
  obtain ⟨k, hk, hlt, ⟨h1, rfl⟩ | ⟨h1, rfl⟩⟩ := hp
  · refine ⟨h, fun z => ⟨.inl, fun hz => ?_⟩⟩
    rcases hz with hz | rfl
    · exact hz
    · exact List.mem_of_getElem? h1
  · have h0 := h
    rw [← List.take_append_drop k xs, List.pairwise_append] at h0
    obtain ⟨p1, p2, p3⟩ := h0
    have hgt : ∀ z ∈ xs.drop k, y < z := fun z hz => by
      rcases e : xs.drop k with _ | ⟨c, l⟩
      · rw [e] at hz; cases hz
      · have hc : xs[k]? = some c := by
          have := congrArg (fun q => q[0]?) e
          simpa [List.getElem?_drop] using this
        have h2 := h1 c hc
        rw [e] at hz p2
        rcases List.mem_cons.1 hz with rfl | hz
        · exact h2
        · have := (List.pairwise_cons.1 p2).1 z hz
          omega
    have hle : ∀ z ∈ xs.take k, z < y := fun z hz => by
      obtain ⟨i, hi⟩ := List.getElem?_of_mem hz
      rw [List.getElem?_take] at hi
      split at hi
      · rename_i hik
        exact hlt i hik z hi
      · cases hi
    refine ⟨List.pairwise_append.2 ⟨p1, List.pairwise_cons.2 ⟨hgt, p2⟩, fun a ha b hb => ?_⟩, fun z => ?_⟩
    · rcases List.mem_cons.1 hb with rfl | hb
      · exact hle a ha
      · exact p3 a ha b hb
    · rw [List.mem_append, List.mem_cons]
      have e : z ∈ xs ↔ z ∈ xs.take k ∨ z ∈ xs.drop k := by rw [← List.mem_append, List.take_append_drop]
      rw [e]
      constructor
      · rintro (h | h | h)
        · exact .inl (.inl h)
        · exact .inr h
        · exact .inl (.inr h)
      · rintro ((h | h) | h)
        · exact .inl h
        · exact .inr (.inr h)
        · exact .inr (.inl h)
theorem markL_asc (n : Nat) (M : Nat → Bool) : (markL n M).Pairwise (· < ·) := by
  unfold markL
  rw [List.pairwise_map]
  exact ((List.pairwise_lt_range (n := n)).filter _).imp fun h => by omega
theorem put_mark {n : Nat} {M : Nat → Bool} {y : Nat} {L : List Int} (hy : y < n) (h : PutP (markL n M) (y : Int) L) : L = markL n (fun z => M z || z == y) := by
  obtain ⟨h1, h2⟩ := put_asc (markL_asc n M) h
  refine asc_ext h1 (markL_asc _ _) fun z => ?_
  rw [h2, markL_mem, markL_mem]
  constructor
  · rintro (⟨x, hx, hm, rfl⟩ | rfl)
    · exact ⟨x, hx, by rw [hm]; rfl, rfl⟩
    · exact ⟨y, hy, by simp, rfl⟩
  · rintro ⟨x, hx, hm, rfl⟩
    rw [Bool.or_eq_true, beq_iff_eq] at hm
    rcases hm with hm | rfl
    · exact .inl ⟨x, hx, hm, rfl⟩
    · exact .inr rfl
/-- The variables of two terms. -/
def varM (t : List Int) (y : Nat) : Bool := hasI (y : Int) t
def varsL (L R : List Int) : List Int := markL 6 fun y => varM L y || varM R y
/-- Marked so far: the variables of the first k numbers. -/
def varTo (t : List Int) (k : Nat) (y : Nat) : Bool := hasI (y : Int) (t.take k)
theorem varTo_zero (t : List Int) (y : Nat) : varTo t 0 y = false := rfl
theorem varTo_next {t : List Int} {k : Nat} {v : Int} (h : t[k]? = some v) (y : Nat) : varTo t (k + 1) y = (varTo t k y || decide (v = (y : Int))) := by
  unfold varTo
  rw [List.take_add_one, h, Bool.eq_iff_iff, Bool.or_eq_true, hasI_m, hasI_m, List.mem_append, decide_eq_true_iff]
  simp only [Option.toList_some, List.mem_singleton]
  exact ⟨fun h => h.imp id Eq.symm, fun h => h.imp id Eq.symm⟩
theorem varTo_all {t : List Int} {k : Nat} (h : t.length ≤ k) (y : Nat) : varTo t k y = varM t y := by unfold varTo varM; rw [List.take_of_length_le h]
theorem varM_app (L R : List Int) (y : Nat) : varM (L ++ R) y = (varM L y || varM R y) := by
  unfold varM
  rw [Bool.eq_iff_iff, Bool.or_eq_true, hasI_m, hasI_m, hasI_m, List.mem_append]
end Go.Proofs.YtidjocikbmkjbaaGreat
namespace Go.Proofs.YtidjocikbmkjbaaGreat
open Go.RowKit
set_option linter.unusedVariables false

/-- The variables vars get the digits ds, one after the other. -/
def setV (vars : List Int) (ds : List Nat) : Nat → List Int → List Int
  | 0, V => V
  | k + 1, V => (setV vars ds k V).set (vars.getD k 0).toNat ((ds.getD k 0 : Nat) : Int)
theorem setV_len (vars : List Int) (ds : List Nat) (V : List Int) : ∀ k, (setV vars ds k V).length = V.length
  | 0 => rfl
  | k + 1 => by rw [setV, List.length_set, setV_len vars ds V k]
theorem setV_in {n : Nat} {vars : List Int} {ds : List Nat} {V : List Int} (hd : ∀ d ∈ ds, d < n) (hn : 0 < n) (hV : ∀ x ∈ V, 0 ≤ x ∧ x ≤ (n : Int) - 1) : ∀ k, ∀ x ∈ setV vars ds k V, 0 ≤ x ∧ x ≤ (n : Int) - 1
  | 0, x, hx => hV x hx
  | k + 1, x, hx => by
    rw [setV] at hx
    rcases List.mem_or_eq_of_mem_set hx with h | h
    · exact setV_in hd hn hV k x h
    · subst h
      have : ds.getD k 0 < n := by
        rw [List.getD_eq_getElem?_getD]
        rcases e : ds[k]? with _ | d
        · exact hn
        · exact hd d (List.mem_of_getElem? e)
      omega
def mxV (vars : List Int) : Nat := (vars.getLast?.getD (-1) + 1).toNat
/-- The values ahead of the i-th try. -/
def Wb (n : Nat) (vars : List Int) : Nat → List Int
  | 0 => List.replicate (mxV vars) 0
  | i + 1 => setV vars (digs n vars.length i) vars.length (Wb n vars i)
theorem Wb_len (n : Nat) (vars : List Int) : ∀ i, (Wb n vars i).length = mxV vars
  | 0 => by simp [Wb]
  | i + 1 => by rw [Wb, setV_len, Wb_len n vars i]
theorem Wb_in {n : Nat} (hn : 0 < n) (vars : List Int) : ∀ i, ∀ x ∈ Wb n vars i, 0 ≤ x ∧ x ≤ (n : Int) - 1
  | 0, x, hx => by
    rw [Wb] at hx
    have := (List.mem_replicate.1 hx).2
    omega
  | i + 1, x, hx => by
    rw [Wb] at hx
    exact setV_in (fun d hd => digs_lt hn hd) hn (Wb_in hn vars i) _ x hx
/-- The i-th try shows the two sides alike. -/
def TryP (n : Nat) (ops : List OpM) (L R : List Int) (i : Nat) : Prop := evT n ops (Wb n (varsL L R) (i + 1)) L = evT n ops (Wb n (varsL L R) (i + 1)) R
def HoldP (n : Nat) (ops : List OpM) (L R : List Int) : Prop := ∀ i, i < n ^ (varsL L R).length → TryP n ops L R i
def askB (n : Nat) (ops : List OpM) (L R : List Int) : Bool := (termB ops L && termB ops R) && decide (n ^ (varsL L R).length ≤ 5000)
noncomputable def holdB (n : Nat) (ops : List OpM) (L R : List Int) : Bool := askB n ops L R && tt (HoldP n ops L R)
/-- The values refute the identity. -/
def failB (n : Nat) (ops : List OpM) (L R V : List Int) : Bool := allIn 0 ((n : Int) - 1) V && (decide (V.length = mxV (varsL L R)) && decide (evT n ops V L ≠ evT n ops V R))
theorem good_mem {ops : List OpM} : ∀ {l : List Int} {m : Nat}, GoodS ops l m → ∀ v ∈ l, badV ops v = false
  | [], _, _, v, hv => by cases hv
  | x :: l, m, h, v, hv => by
    obtain ⟨-, h1, h2⟩ := h.cons
    rcases List.mem_cons.1 hv with rfl | hv
    · exact h1
    · exact good_mem h2 v hv
theorem term_mem {ops : List OpM} {t : List Int} (h : termB ops t = true) : ∀ v ∈ t, badV ops v = false := good_mem (show GoodS ops t 1 from (term_end h).2)
theorem asc_last : ∀ {l : List Int}, l.Pairwise (· < ·) → ∀ v ∈ l, v ≤ l.getLast?.getD (-1)
  | [], _, v, hv => by cases hv
  | [a], _, v, hv => by rw [List.mem_singleton] at hv; subst hv; simp
  | a :: b :: l, h, v, hv => by
    rw [List.pairwise_cons] at h
    have ih := asc_last h.2
    rw [List.getLast?_cons_cons]
    rcases List.mem_cons.1 hv with rfl | hv
    · have h1 := h.1 b List.mem_cons_self
      have h2 := ih b List.mem_cons_self
      omega
    · exact ih v hv
theorem vars_le (L R : List Int) : (varsL L R).length ≤ 6 := markL_le _ _
theorem vars_in (L R : List Int) : ∀ v ∈ varsL L R, 0 ≤ v ∧ v ≤ 5 := fun v hv => by
  have := markL_in (n := 6) v hv
  omega
theorem mx_le (L R : List Int) : mxV (varsL L R) ≤ 6 := by
  unfold mxV
  rcases e : (varsL L R).getLast? with _ | v
  · simp
  · have := vars_in L R v (List.mem_of_getLast? e)
    show (v + 1).toNat ≤ 6
    omega
theorem var_lt {ops : List OpM} {L R : List Int} (h1 : termB ops L = true) (h2 : termB ops R = true) {v : Int} (hv : v ∈ L ∨ v ∈ R) : v < (mxV (varsL L R) : Int) := by
  by_cases h0 : 0 ≤ v
  · have h6 : v < 6 := by
      rcases hv with hv | hv
      · exact (badV_parts (term_mem h1 v hv)).1
      · exact (badV_parts (term_mem h2 v hv)).1
    obtain ⟨y, rfl⟩ := Int.eq_ofNat_of_zero_le h0
    have hm : (y : Int) ∈ varsL L R := by
      refine markL_mem.2 ⟨y, by omega, ?_, rfl⟩
      rw [Bool.or_eq_true]
      exact hv.imp hasI_m.2 hasI_m.2
    have := asc_last (markL_asc _ _) _ hm
    unfold mxV
    show (y : Int) < (((markL 6 _).getLast?.getD (-1) + 1).toNat : Int)
    omega
  · omega
theorem vars_mx {L R : List Int} {v : Int} (hv : v ∈ varsL L R) : v < (mxV (varsL L R) : Int) := by
  have h1 := asc_last (markL_asc 6 _) v hv
  have h2 := (vars_in L R v hv).1
  unfold mxV
  show v < (((markL 6 _).getLast?.getD (-1) + 1).toNat : Int)
  omega
theorem mx_last {vars : List Int} {v : Int} (h : vars.getLast? = some v) (h0 : 0 ≤ v) : (mxV vars : Int) = v + 1 := by
  unfold mxV
  rw [h]
  show ((v + 1).toNat : Int) = v + 1
  omega
end Go.Proofs.YtidjocikbmkjbaaGreat
namespace Go.Proofs.YtidjocikbmkjbaaGreat
open Go.RowKit

/-- A valid algebra. -/
def AlgP (x : AlgebraM) : Prop := 1 ≤ x.1 ∧ x.1 ≤ 8 ∧ x.2.length ≤ 4 ∧ ∀ o ∈ x.2, OpP x.1.toNat o
/-- A map that keeps the operations. -/
def HomP (n : Nat) (ops : List OpM) (f : List Int) : Prop := ∀ o ∈ ops, ∀ i, i < o.2.length → nmAt f (nmAt o.2 i) = nmAt o.2 (toI n o.1.toNat f i)
noncomputable def congB (n : Nat) (ops : List OpM) (p : List Int) : Bool := tt (ParP n p) && tt (CompP n ops p)
noncomputable def homB (n : Nat) (ops : List OpM) (f : List Int) : Bool := (decide (f.length = n) && allIn 0 ((n : Int) - 1) f) && tt (HomP n ops f)
noncomputable def subB (n : Nat) (ops : List OpM) (V : List Int) : Bool := (allIn 0 ((n : Int) - 1) V && risesL V) && decide ((genL n ops V).length = V.length)
noncomputable def genB (n : Nat) (ops : List OpM) (V : List Int) : Bool := (allIn 0 ((n : Int) - 1) V && risesL V) && decide ((genL n ops V).length = n)
theorem in_gen {n : Nat} {ops : List OpM} {V : List Int} (h : ∀ v ∈ V, 0 ≤ v ∧ v ≤ (n : Int) - 1) : ∀ v ∈ V, v ∈ genL n ops V := fun v hv => by
  obtain ⟨y, rfl⟩ := Int.eq_ofNat_of_zero_le (h v hv).1
  have hy : y < n := by have := (h _ hv).2; omega
  refine markL_mem.2 ⟨y, hy, clB_sup n ops _ y hy ?_, rfl⟩
  refine gB_get ?_
  unfold inL
  rw [List.getElem?_map, List.getElem?_range hy]
  show some (hasI (y : Int) V) = some true
  rw [hasI_m.2 hv]
/-- As many as generated: the list itself. -/
theorem gen_eq {n : Nat} {ops : List OpM} {V : List Int} (h : ∀ v ∈ V, 0 ≤ v ∧ v ≤ (n : Int) - 1) (hr : risesL V = true) : (genL n ops V).length = V.length ↔ genL n ops V = V := by
  constructor
  · intro hl
    have hp := rises_iff.1 hr
    refine asc_ext (markL_asc _ _) hp fun x => ⟨fun hx => ?_, in_gen h x⟩
    have hnd : V.Nodup := hp.imp fun h => by omega
    by_cases hxV : x ∈ V
    · exact hxV
    · have := nodup_sub (l := x :: V) (m := genL n ops V) (List.nodup_cons.2 ⟨hxV, hnd⟩) fun y hy => by
        rcases List.mem_cons.1 hy with rfl | hy
        · exact hx
        · exact in_gen h y hy
      simp only [List.length_cons] at this
      omega
  · intro e
    rw [e]
/-- Is the fact true of the algebra? -/
noncomputable def trueB (x : AlgebraM) (f : FactM) : Bool :=
  if f.1 = 1 then holdB x.1.toNat x.2 f.2.1.1 f.2.1.2 && decide (f.2.2.length = 0)
  else if f.1 = 2 then askB x.1.toNat x.2 f.2.1.1 f.2.1.2 && failB x.1.toNat x.2 f.2.1.1 f.2.1.2 f.2.2
  else noEq f.2.1 && (if f.1 = 3 then subB x.1.toNat x.2 f.2.2 else if f.1 = 4 then congB x.1.toNat x.2 f.2.2 else if f.1 = 5 then genB x.1.toNat x.2 f.2.2 else if f.1 = 6 then homB x.1.toNat x.2 f.2.2 else false)
end Go.Proofs.YtidjocikbmkjbaaGreat
namespace Go.Proofs.YtidjocikbmkjbaaGreat
open Go.RowKit
theorem eq0_nat {n : Nat} {b : Bool} (h : decide (n = 0) = b) : ((n : Int) == 0) = b := by rw [← h, Bool.eq_iff_iff, beq_iff_eq, decide_eq_true_iff]; omega
end Go.Proofs.YtidjocikbmkjbaaGreat
