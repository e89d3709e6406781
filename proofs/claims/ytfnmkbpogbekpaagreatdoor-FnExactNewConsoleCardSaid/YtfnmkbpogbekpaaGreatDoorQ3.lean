/- Parts of the proof: TermP, Grp, Bl, Mk, Term, Eval, VarS, Hold, Gen, PermB, RfW, HLab, KFact, RfC. -/
import Derived.Test.YtfnmkbpogbekpaaGreatDoorQ2
import Derived.Test.YtfnmkbpogbekpaaGreatDoorQ1
import Derived.IntWalk
import Derived.Deep.RegionHeld3
import Derived.Deep.DeepCutAuto
namespace Go.Proofs.YtfnmkbpogbekpaaGreatDoor
open Go.RowKit
set_option linter.unusedVariables false

/-- The arity of the operation that a negative number names. -/
def arF (ops : List OpM) (v : Int) : Nat := (ops.getD (-1 - v).toNat (0, [])).1.toNat
def tbF (ops : List OpM) (v : Int) : List Int := (ops.getD (-1 - v).toNat (0, [])).2
def badV (ops : List OpM) (v : Int) : Bool := decide (6 ≤ v) || decide (v < -(ops.length : Int))
def adV (ops : List OpM) (v : Int) : Nat := if 0 ≤ v then 0 else arF ops v
/-- How many numbers m terms take from the beginning of a list. -/
def endT (ops : List OpM) : List Int → Nat → Option Nat
  | [], m => if m = 0 then some 0 else none
  | v :: l, m => if m = 0 then some 0 else if badV ops v then none else (endT ops l (m - 1 + adV ops v)).map (· + 1)
theorem endT_zero (ops : List OpM) (l : List Int) : endT ops l 0 = some 0 := by cases l <;> rfl
theorem endT_nil (ops : List OpM) {m : Nat} (h : 0 < m) : endT ops [] m = none := by unfold endT; rw [if_neg (by omega)]
theorem endT_cons {ops : List OpM} {v : Int} {l : List Int} {m : Nat} (h : 0 < m) : endT ops (v :: l) m = if badV ops v then none else (endT ops l (m - 1 + adV ops v)).map (· + 1) := by
  rw [endT, if_neg (by omega)]
/-- The place behind the subterm that begins at a place; -1: there is none. -/
def endI (ops : List OpM) (t : List Int) (at_ : Nat) : Int := match endT ops (t.drop at_) 1 with | some q => ((at_ + q : Nat) : Int) | none => -1
/-- The scan at place k, as many terms still wanted. -/
def EnI (ops : List OpM) (t : List Int) (a0 k need : Nat) : Prop := endT ops (t.drop a0) 1 = (endT ops (t.drop k) need).map (· + (k - a0)) ∧ a0 ≤ k ∧ need ≤ 1 + 3 * (k - a0)
theorem EnI.start (ops : List OpM) (t : List Int) (a0 : Nat) : EnI ops t a0 a0 1 := ⟨by cases endT ops (t.drop a0) 1 <;> simp, Nat.le_refl _, by omega⟩
theorem EnI.done {ops : List OpM} {t : List Int} {a0 k : Nat} (h : EnI ops t a0 k 0) : endI ops t a0 = (k : Int) := by
  unfold endI
  rw [h.1, endT_zero]
  have := h.2.1
  show ((a0 + (0 + (k - a0)) : Nat) : Int) = (k : Int)
  omega
theorem EnI.over {ops : List OpM} {t : List Int} {a0 k need : Nat} (h : EnI ops t a0 k need) (hn : 0 < need) (hk : ¬ k < t.length) : endI ops t a0 = -1 := by
  unfold endI
  rw [h.1, List.drop_eq_nil_of_le (by omega), endT_nil ops hn]
  rfl
theorem EnI.bad {ops : List OpM} {t : List Int} {a0 k need : Nat} {v : Int} (h : EnI ops t a0 k need) (hn : 0 < need) (hv : t[k]? = some v) (hb : badV ops v = true) : endI ops t a0 = -1 := by
  have hk := (List.getElem?_eq_some_iff.1 hv).1
  have e : t.drop k = v :: t.drop (k + 1) := by rw [List.drop_eq_getElem_cons hk, (List.getElem?_eq_some_iff.1 hv).2]
  unfold endI
  rw [h.1, e, endT_cons hn, hb]
  rfl
theorem EnI.next {ops : List OpM} {t : List Int} {a0 k need : Nat} {v : Int} (h : EnI ops t a0 k need) (hn : 0 < need) (hv : t[k]? = some v) (hb : badV ops v = false) (h3 : adV ops v ≤ 3) : EnI ops t a0 (k + 1) (need - 1 + adV ops v) := by
  have hk := (List.getElem?_eq_some_iff.1 hv).1
  have e : t.drop k = v :: t.drop (k + 1) := by rw [List.drop_eq_getElem_cons hk, (List.getElem?_eq_some_iff.1 hv).2]
  obtain ⟨h1, h2, h4⟩ := h
  refine ⟨?_, by omega, by omega⟩
  rw [h1, e, endT_cons hn, hb]
  rcases endT ops (t.drop (k + 1)) (need - 1 + adV ops v) with _ | q
  · rfl
  · show some (q + 1 + (k - a0)) = some (q + (k + 1 - a0))
    congr 1
    omega
def termB (ops : List OpM) (t : List Int) : Bool := decide (t.length ≤ 60) && decide (endI ops t 0 = (t.length : Int))
theorem term_end {ops : List OpM} {t : List Int} (h : termB ops t = true) : t.length ≤ 60 ∧ endT ops t 1 = some t.length := by
  unfold termB at h
  rw [Bool.and_eq_true, decide_eq_true_iff, decide_eq_true_iff] at h
  refine ⟨h.1, ?_⟩
  have h2 := h.2
  unfold endI at h2
  rw [List.drop_zero] at h2
  rcases e : endT ops t 1 with _ | q
  · rw [e] at h2
    simp only at h2
    omega
  · rw [e] at h2
    simp only at h2
    congr 1
    omega
theorem term_pos {ops : List OpM} {t : List Int} (h : termB ops t = true) : 0 < t.length := by
  obtain ⟨-, h2⟩ := term_end h
  rcases t with _ | ⟨v, l⟩
  · rw [endT_nil ops (by decide)] at h2
    cases h2
  · simp

/-! ## The value -/
/-- The stack behind a list that was read from its end: its top is the head. -/
def evS (n : Nat) (ops : List OpM) (vals : List Int) : List Int → List Nat
  | [] => []
  | v :: l => if 0 ≤ v then (vals.getD v.toNat 0).toNat :: evS n ops vals l
    else ((tbF ops v).getD (idx n ((evS n ops vals l).take (arF ops v))) 0).toNat :: (evS n ops vals l).drop (arF ops v)
def evT (n : Nat) (ops : List OpM) (vals t : List Int) : Nat := (evS n ops vals t).headD 0
/-- Some terms, one behind the other. -/
def GoodS (ops : List OpM) (l : List Int) (m : Nat) : Prop := endT ops l m = some l.length
theorem GoodS.nil {ops : List OpM} {m : Nat} (h : GoodS ops [] m) : m = 0 := by
  unfold GoodS at h
  rcases Nat.eq_zero_or_pos m with h0 | h0
  · exact h0
  · rw [endT_nil ops h0] at h; cases h
theorem GoodS.cons {ops : List OpM} {v : Int} {l : List Int} {m : Nat} (h : GoodS ops (v :: l) m) : 0 < m ∧ badV ops v = false ∧ GoodS ops l (m - 1 + adV ops v) := by
  unfold GoodS at h ⊢
  rcases Nat.eq_zero_or_pos m with h0 | h0
  · subst h0
    rw [endT_zero] at h
    injection h with h
    simp at h
  · rw [endT_cons h0] at h
    split at h
    · cases h
    · rename_i hb
      refine ⟨h0, by simpa using hb, ?_⟩
      rcases e : endT ops l (m - 1 + adV ops v) with _ | q
      · rw [e] at h; cases h
      · rw [e] at h
        injection h with h
        simp only [List.length_cons] at h
        congr 1
        omega
theorem GoodS.drop {ops : List OpM} : ∀ {l : List Int} {m : Nat} (k : Nat), GoodS ops l m → ∃ m', GoodS ops (l.drop k) m'
  | l, m, 0, h => ⟨m, by simpa using h⟩
  | [], m, k + 1, h => ⟨m, by simpa using h⟩
  | v :: l, m, k + 1, h => by
    obtain ⟨-, -, h1⟩ := h.cons
    simpa using GoodS.drop k h1
theorem evS_len {n : Nat} {ops : List OpM} {vals : List Int} : ∀ {l : List Int} {m : Nat}, GoodS ops l m → (evS n ops vals l).length = m
  | [], m, h => by rw [h.nil]; rfl
  | v :: l, m, h => by
    obtain ⟨h0, -, h1⟩ := h.cons
    have ih := evS_len (n := n) (vals := vals) h1
    unfold evS
    unfold adV at ih h1
    split
    · rename_i hv
      rw [if_pos hv] at ih
      rw [List.length_cons, ih]
      omega
    · rename_i hv
      rw [if_neg hv] at ih
      rw [List.length_cons, List.length_drop, ih]
      omega
/-- At a number of a term: it is a variable, or an operation whose arguments lie on the stack. -/
theorem GoodS.room {n : Nat} {ops : List OpM} {vals : List Int} {v : Int} {l : List Int} {m : Nat} (h : GoodS ops (v :: l) m) : badV ops v = false ∧ (¬ 0 ≤ v → arF ops v ≤ (evS n ops vals l).length) := by
  obtain ⟨h0, h1, h2⟩ := h.cons
  refine ⟨h1, fun hv => ?_⟩
  rw [evS_len h2]
  unfold adV
  rw [if_neg hv]
  omega
theorem badV_parts {ops : List OpM} {v : Int} (h : badV ops v = false) : v < 6 ∧ -(ops.length : Int) ≤ v := by
  unfold badV at h
  rw [Bool.or_eq_false_iff, decide_eq_false_iff_not, decide_eq_false_iff_not] at h
  omega
/-- The operation that a negative number of a term names. -/
theorem op_at {n : Nat} {ops : List OpM} {v : Int} (hops : ∀ o ∈ ops, OpP n o) (h : badV ops v = false) (hv : ¬ 0 ≤ v) : ∃ o, ops[(-1 - v).toNat]? = some o ∧ OpP n o ∧ arF ops v = o.1.toNat ∧ tbF ops v = o.2 ∧ (-1 - v).toNat < ops.length := by
  obtain ⟨h1, h2⟩ := badV_parts h
  have hl : (-1 - v).toNat < ops.length := by omega
  refine ⟨ops[(-1 - v).toNat], List.getElem?_eq_getElem hl, hops _ (List.getElem_mem hl), ?_, ?_, hl⟩
  · unfold arF; rw [List.getD_eq_getElem?_getD, List.getElem?_eq_getElem hl]; rfl
  · unfold tbF; rw [List.getD_eq_getElem?_getD, List.getElem?_eq_getElem hl]; rfl
theorem adV_le {n : Nat} {ops : List OpM} {v : Int} (hops : ∀ o ∈ ops, OpP n o) (h : badV ops v = false) : adV ops v ≤ 3 := by
  unfold adV
  split
  · omega
  · rename_i hv
    obtain ⟨o, -, ho, e, -⟩ := op_at hops h hv
    rw [e]
    have := ho.2.1
    omega
theorem tab_lt {n : Nat} {o : OpM} (hn : 0 < n) (ho : OpP n o) {l : List Nat} (hl : l.length = o.1.toNat) (hd : ∀ d ∈ l, d < n) : ∃ v : Nat, o.2[idx n l]? = some (v : Int) ∧ v < n := by
  have h1 := idx_lt _ l hl hd
  rw [← ho.2.2.1] at h1
  have h2 := ho.2.2.2 _ (List.getElem_mem h1)
  obtain ⟨v, hv⟩ := Int.eq_ofNat_of_zero_le h2.1
  exact ⟨v, by rw [List.getElem?_eq_getElem h1, hv], by omega⟩
/-- The values of a stack are elements. -/
theorem evS_lt {n : Nat} {ops : List OpM} {vals : List Int} (hn : 0 < n) (hops : ∀ o ∈ ops, OpP n o) (hv : ∀ x ∈ vals, 0 ≤ x ∧ x ≤ (n : Int) - 1) : ∀ {l : List Int} {m : Nat}, GoodS ops l m → (∀ v ∈ l, v < (vals.length : Int)) → ∀ d ∈ evS n ops vals l, d < n
  | [], _, _, _, d, hd => by cases hd
  | v :: l, m, h, hl, d, hd => by
    obtain ⟨h0, hb, h1⟩ := h.cons
    have ih := evS_lt hn hops hv h1 fun x hx => hl x (List.mem_cons_of_mem _ hx)
    have hr := (h.room (n := n) (vals := vals)).2
    unfold evS at hd
    split at hd
    · rename_i h0v
      rcases List.mem_cons.1 hd with rfl | hd
      · have hlt : v.toNat < vals.length := by have := hl v List.mem_cons_self; omega
        rw [List.getD_eq_getElem?_getD, List.getElem?_eq_getElem hlt]
        have := hv _ (List.getElem_mem hlt)
        show (vals[v.toNat]).toNat < n
        omega
      · exact ih d hd
    · rename_i h0v
      rcases List.mem_cons.1 hd with rfl | hd
      · obtain ⟨o, -, ho, e1, e2, -⟩ := op_at hops hb h0v
        obtain ⟨w, hw, hwn⟩ := tab_lt hn ho (l := (evS n ops vals l).take (arF ops v)) (by rw [List.length_take, ← e1]; have := hr h0v; omega) fun d hd => ih d (List.mem_of_mem_take hd)
        rw [e2, List.getD_eq_getElem?_getD, hw]
        show ((w : Int)).toNat < n
        omega
      · exact ih d (List.mem_of_mem_drop hd)
/-- One number more. -/
theorem evS_var {n : Nat} {ops : List OpM} {vals l : List Int} {v : Int} {x : Nat} (h0 : 0 ≤ v) (hx : vals[v.toNat]? = some (x : Int)) : evS n ops vals (v :: l) = x :: evS n ops vals l := by
  rw [evS, if_pos h0, List.getD_eq_getElem?_getD, hx]
  rfl
theorem evS_op {n : Nat} {ops : List OpM} {vals l : List Int} {v : Int} {o : OpM} {x : Nat} (h0 : ¬ 0 ≤ v) (ha : arF ops v = o.1.toNat) (hb : tbF ops v = o.2) (hx : o.2[idx n ((evS n ops vals l).take o.1.toNat)]? = some (x : Int)) : evS n ops vals (v :: l) = x :: (evS n ops vals l).drop o.1.toNat := by
  rw [evS, if_neg h0, ha, hb, List.getD_eq_getElem?_getD, hx]
  rfl
end Go.Proofs.YtfnmkbpogbekpaaGreatDoor
namespace Go.Proofs.YtfnmkbpogbekpaaGreatDoor
open Go.RowKit
set_option linter.unusedVariables false

/-- Closed under the operations. -/
def ClosedM (n : Nat) (ops : List OpM) (M : Nat → Bool) : Prop := ∀ o ∈ ops, ∀ i, i < o.2.length → (∀ d ∈ digs n o.1.toNat i, M d = true) → M (nmAt o.2 i) = true
def LeM (n : Nat) (B M : Nat → Bool) : Prop := ∀ y, y < n → B y = true → M y = true
/-- In every closed set that has the set B. -/
def InCl (n : Nat) (ops : List OpM) (B : Nat → Bool) (y : Nat) : Prop := ∀ M, ClosedM n ops M → LeM n B M → M y = true
noncomputable def clB (n : Nat) (ops : List OpM) (B : Nat → Bool) (y : Nat) : Bool := tt (InCl n ops B y)
theorem LeM.refl (n : Nat) (B : Nat → Bool) : LeM n B B := fun _ _ h => h
theorem LeM.trans {n : Nat} {A B C : Nat → Bool} (h : LeM n A B) (k : LeM n B C) : LeM n A C := fun y hy ha => k y hy (h y hy ha)
theorem clB_closed (n : Nat) (ops : List OpM) (B : Nat → Bool) : ClosedM n ops (clB n ops B) := fun o ho i hi hd => tt_iff.2 fun M hM hB => hM o ho i hi fun d hd' => tt_iff.1 (hd d hd') M hM hB
theorem clB_sup (n : Nat) (ops : List OpM) (B : Nat → Bool) : LeM n B (clB n ops B) := fun y hy h => tt_iff.2 fun _ _ hB => hB y hy h
theorem clB_least {n : Nat} {ops : List OpM} {B M : Nat → Bool} (hc : ClosedM n ops M) (hs : LeM n B M) : LeM n (clB n ops B) M := fun _ _ h => tt_iff.1 h M hc hs
theorem cl_eq {n : Nat} {ops : List OpM} {B H : Nat → Bool} (hs : LeM n B H) (hc : ClosedM n ops H) (hl : LeM n H (clB n ops B)) {y : Nat} (hy : y < n) : H y = clB n ops B y := by
  rcases e : H y with _ | _
  · rcases e2 : clB n ops B y with _ | _
    · rfl
    · have := clB_least hc hs y hy e2
      rw [e] at this
      cases this
  · exact (hl y hy e).symm
/-- What is not marked. -/
def offs (L : List Bool) : Nat := L.countP fun b => !b
theorem offs_set : ∀ {L : List Bool} {x : Nat}, L[x]? = some false → offs (L.set x true) + 1 = offs L
  | [], x, h => by simp at h
  | b :: L, 0, h => by
    simp only [List.getElem?_cons_zero, Option.some.injEq] at h
    subst h
    simp [offs]
  | b :: L, x + 1, h => by
    simp only [List.getElem?_cons_succ] at h
    have ih := offs_set h
    unfold offs at ih ⊢
    simp only [List.set_cons_succ, List.countP_cons]
    omega
/-- The rounds of the program: L is what is marked, L0 what was marked at first. -/
structure ClI (n : Nat) (ops : List OpM) (L0 L : List Bool) : Prop where
  len : L.length = n
  sup : LeM n (gB L0) (gB L)
  least : LeM n (gB L) (clB n ops (gB L0))
theorem ClI.start {n : Nat} {ops : List OpM} {L0 : List Bool} (h : L0.length = n) : ClI n ops L0 L0 := ⟨h, LeM.refl _ _, clB_sup _ _ _⟩
def AllM (n k i : Nat) (L : List Bool) : Bool := (digs n k i).all (gB L)
theorem ClI.mark {n : Nat} {ops : List OpM} {L0 L : List Bool} (h : ClI n ops L0 L) (hn : 0 < n) {o : OpM} (ho : o ∈ ops) {i v : Nat} (hv : o.2[i]? = some (v : Int)) (hvn : v < n) (hA : AllM n o.1.toNat i L = true) : ClI n ops L0 (L.set v true) := by
  have hl := h.len
  refine ⟨by rw [List.length_set]; exact hl, fun y hy hb => ?_, fun y hy hb => ?_⟩
  · rw [gB_set (by omega)]
    split
    · rfl
    · exact h.sup y hy hb
  · rw [gB_set (by omega)] at hb
    split at hb
    · rename_i e
      subst e
      have hi := (List.getElem?_eq_some_iff.1 hv).1
      have := clB_closed n ops (gB L0) o ho i hi fun d hd => h.least d (digs_lt hn hd) (List.all_eq_true.1 hA d hd)
      rwa [nmAt_get hv] at this
    · exact h.least y hy hb
/-- Nothing is to be marked at an entry of a table. -/
def OkE (n : Nat) (L : List Bool) (o : OpM) (i : Nat) : Prop := AllM n o.1.toNat i L = true → gB L (nmAt o.2 i) = true
theorem ClI.done {n : Nat} {ops : List OpM} {L0 L : List Bool} (h : ClI n ops L0 L) (hk : ∀ o ∈ ops, ∀ i, i < o.2.length → OkE n L o i) {y : Nat} (hy : y < n) : gB L y = clB n ops (gB L0) y :=
  cl_eq h.sup (fun o ho i hi hd => hk o ho i hi (List.all_eq_true.2 hd)) h.least hy
/-! ## The reference steps all at once -/
/-- One step: everything that an operation gives of what is marked. -/
def StP (n : Nat) (ops : List OpM) (L : List Bool) (y : Nat) : Prop := ∃ o ∈ ops, ∃ i, i < o.2.length ∧ AllM n o.1.toNat i L = true ∧ nmAt o.2 i = y
noncomputable def stL (n : Nat) (ops : List OpM) (L : List Bool) : List Bool := (List.range n).map fun y => gB L y || tt (StP n ops L y)
theorem stL_len (n : Nat) (ops : List OpM) (L : List Bool) : (stL n ops L).length = n := by simp [stL]
theorem stL_get {n : Nat} {ops : List OpM} {L : List Bool} {y : Nat} (hy : y < n) : gB (stL n ops L) y = (gB L y || tt (StP n ops L y)) := by
  refine gB_get ?_
  unfold stL
  rw [List.getElem?_map, List.getElem?_range hy]
  rfl
/-- What some elements generate. -/
noncomputable def genL (n : Nat) (ops : List OpM) (S : List Int) : List Int := markL n (clB n ops (gB (inL n S)))
end Go.Proofs.YtfnmkbpogbekpaaGreatDoor
namespace Go.Proofs.YtfnmkbpogbekpaaGreatDoor
open Go.RowKit
set_option linter.unusedVariables false

/-- A partition of n elements: each is told by the least element of its block. -/
def ParI (p : List Int) (i : Nat) : Prop := 0 ≤ p.getD i 0 ∧ nmAt p i ≤ i ∧ nmAt p (nmAt p i) = nmAt p i
def ParP (n : Nat) (p : List Int) : Prop := p.length = n ∧ ∀ i, i < n → ParI p i
theorem ParP.at {n : Nat} {p : List Int} (h : ParP n p) {i : Nat} (hi : i < n) : p[i]? = some (nmAt p i : Int) ∧ nmAt p i ≤ i ∧ nmAt p (nmAt p i) = nmAt p i := by
  obtain ⟨h1, h2, h3⟩ := h.2 i hi
  refine ⟨?_, h2, h3⟩
  have hl : i < p.length := by rw [h.1]; exact hi
  unfold nmAt
  rw [List.getD_eq_getElem?_getD, List.getElem?_eq_getElem hl] at h1 ⊢
  simp only [Option.getD_some] at h1 ⊢
  congr 1
  omega
def uniV (a b v : Int) : Int := if v = (if a ≤ b then b else a) then (if a ≤ b then a else b) else v
/-- The blocks of two elements in one. -/
def uniL (p : List Int) (x y : Nat) : List Int := p.map (uniV (nmAt p x) (nmAt p y))
theorem uniL_len (p : List Int) (x y : Nat) : (uniL p x y).length = p.length := by simp [uniL]
theorem uni_same {p : List Int} {x y : Nat} (h : nmAt p x = nmAt p y) : uniL p x y = p := by
  unfold uniL
  rw [h]
  refine (List.map_congr_left (g := id) fun v _ => ?_).trans (List.map_id p)
  unfold uniV
  simp only [Int.le_refl, if_true]
  split
  · rename_i e; exact e.symm
  · rfl
section
variable {n : Nat} {p : List Int} (hp : ParP n p)
include hp
theorem uni_at {x y i : Nat} (hi : i < n) : nmAt (uniL p x y) i = if nmAt p i = max (nmAt p x) (nmAt p y) then min (nmAt p x) (nmAt p y) else nmAt p i := by
  have h1 : (uniL p x y)[i]? = some (uniV (nmAt p x) (nmAt p y) (nmAt p i)) := by
    unfold uniL
    rw [List.getElem?_map, (hp.at hi).1]
    rfl
  rw [nmAt_get h1]
  unfold uniV
  by_cases hxy : nmAt p x ≤ nmAt p y
  · have h2 : ((nmAt p x : Nat) : Int) ≤ ((nmAt p y : Nat) : Int) := by omega
    rw [if_pos h2, if_pos h2, Nat.max_eq_right hxy, Nat.min_eq_left hxy]
    by_cases e : nmAt p i = nmAt p y
    · rw [if_pos e, if_pos (by rw [e])]; omega
    · rw [if_neg e, if_neg (by omega)]; omega
  · have h2 : ¬ ((nmAt p x : Nat) : Int) ≤ ((nmAt p y : Nat) : Int) := by omega
    rw [if_neg h2, if_neg h2, Nat.max_eq_left (by omega), Nat.min_eq_right (by omega)]
    by_cases e : nmAt p i = nmAt p x
    · rw [if_pos e, if_pos (by rw [e])]; omega
    · rw [if_neg e, if_neg (by omega)]; omega
theorem par_lt {i : Nat} (hi : i < n) : nmAt p i < n := by have := (hp.at hi).2.1; omega
theorem uni_par {x y : Nat} (hx : x < n) (hy : y < n) : ParP n (uniL p x y) := by
  have hxl := par_lt hp hx
  have hyl := par_lt hp hy
  have hmin : min (nmAt p x) (nmAt p y) < n := by omega
  have hmm : nmAt p (min (nmAt p x) (nmAt p y)) = min (nmAt p x) (nmAt p y) := by
    rcases Nat.le_total (nmAt p x) (nmAt p y) with h | h
    · rw [Nat.min_eq_left h]; exact (hp.at hx).2.2
    · rw [Nat.min_eq_right h]; exact (hp.at hy).2.2
  refine ⟨by rw [uniL_len]; exact hp.1, fun i hi => ?_⟩
  have e := uni_at hp (x := x) (y := y) hi
  have h1 := hp.at hi
  refine ⟨?_, ?_, ?_⟩
  · unfold uniL
    rw [List.getD_eq_getElem?_getD, List.getElem?_map, h1.1]
    show 0 ≤ uniV _ _ _
    unfold uniV
    split
    · split <;> omega
    · omega
  · rw [e]
    split
    · omega
    · exact h1.2.1
  · rw [e]
    by_cases h2 : nmAt p i = max (nmAt p x) (nmAt p y)
    · rw [if_pos h2, uni_at hp hmin, hmm]
      split <;> rfl
    · rw [if_neg h2, uni_at hp (par_lt hp hi), h1.2.2, if_neg h2]
/-- Coarser. -/
theorem uni_keep {x y i j : Nat} (hi : i < n) (hj : j < n) (h : nmAt p i = nmAt p j) : nmAt (uniL p x y) i = nmAt (uniL p x y) j := by rw [uni_at hp hi, uni_at hp hj, h]
theorem uni_joins {x y : Nat} (hx : x < n) (hy : y < n) : nmAt (uniL p x y) x = nmAt (uniL p x y) y := by
  rw [uni_at hp hx, uni_at hp hy]
  rcases Nat.le_total (nmAt p x) (nmAt p y) with h | h
  · rw [Nat.max_eq_right h, Nat.min_eq_left h, if_pos rfl]
    split <;> omega
  · rw [Nat.max_eq_left h, Nat.min_eq_right h, if_pos rfl]
    split <;> omega
omit hp in
/-- The elements that tell blocks. -/
def fixs (n : Nat) (p : List Int) : Nat := ((List.range n).filter fun i => nmAt p i == i).length
omit hp in
theorem filter_lt {α : Type} {P Q : α → Bool} : ∀ {l : List α}, (∀ a ∈ l, P a = true → Q a = true) → (∃ a ∈ l, Q a = true ∧ P a = false) → (l.filter P).length < (l.filter Q).length
  | [], _, ⟨a, ha, _⟩ => by cases ha
  | b :: l, h, ⟨a, ha, h1, h2⟩ => by
    have hle : (l.filter P).length ≤ (l.filter Q).length := by
      rw [← List.countP_eq_length_filter, ← List.countP_eq_length_filter]
      exact List.countP_mono_left fun x hx => h x (List.mem_cons_of_mem _ hx)
    rcases List.mem_cons.1 ha with rfl | ha
    · rw [List.filter_cons_of_neg (by rw [h2]; decide), List.filter_cons_of_pos h1]
      simp only [List.length_cons]
      omega
    · have ih := filter_lt (fun x hx => h x (List.mem_cons_of_mem _ hx)) ⟨a, ha, h1, h2⟩
      have hb := h b List.mem_cons_self
      rcases e1 : P b with _ | _
      · rw [List.filter_cons_of_neg (by rw [e1]; decide)]
        rcases e2 : Q b with _ | _
        · rw [List.filter_cons_of_neg (by rw [e2]; decide)]; exact ih
        · rw [List.filter_cons_of_pos e2]; simp only [List.length_cons]; omega
      · rw [List.filter_cons_of_pos e1, List.filter_cons_of_pos (hb e1)]
        simp only [List.length_cons]
        omega
theorem uni_fixs {x y : Nat} (hx : x < n) (hy : y < n) (h : nmAt p x ≠ nmAt p y) : fixs n (uniL p x y) < fixs n p := by
  have hm : max (nmAt p x) (nmAt p y) < n := by have := par_lt hp hx; have := par_lt hp hy; omega
  have hmm : nmAt p (max (nmAt p x) (nmAt p y)) = max (nmAt p x) (nmAt p y) := by
    rcases Nat.le_total (nmAt p x) (nmAt p y) with h | h
    · rw [Nat.max_eq_right h]; exact (hp.at hy).2.2
    · rw [Nat.max_eq_left h]; exact (hp.at hx).2.2
  refine filter_lt (fun i hi h1 => ?_) ⟨max (nmAt p x) (nmAt p y), List.mem_range.2 hm, by simpa using hmm, ?_⟩
  · rw [List.mem_range] at hi
    rw [beq_iff_eq, uni_at hp hi] at h1
    rw [beq_iff_eq]
    split at h1
    · rename_i e
      have := (hp.at hi).2.1
      omega
    · exact h1
  · rw [beq_eq_false_iff_ne, uni_at hp hm, hmm, if_pos rfl]
    omega
end
/-! ## Pairs that a congruence must hold together -/
/-- The index with another digit. -/
def repI (n k : Nat) (p : List Int) (i j : Nat) : Nat := idx n ((digs n k i).set j (nmAt p ((digs n k i).getD j 0)))
def PrE (n : Nat) (p : List Int) (o : OpM) (i j : Nat) : Prop := nmAt p (nmAt o.2 i) = nmAt p (nmAt o.2 (repI n o.1.toNat p i j))
def CompP (n : Nat) (ops : List OpM) (p : List Int) : Prop := ∀ o ∈ ops, ∀ j, j < o.1.toNat → ∀ i, i < o.2.length → PrE n p o i j
theorem repI_lt {n k : Nat} {p : List Int} (hn : 0 < n) (hp : ParP n p) {i j : Nat} : repI n k p i j < n ^ k := by
  refine idx_lt k _ (by rw [List.length_set, digs_len]) fun d hd => ?_
  rcases List.mem_or_eq_of_mem_set hd with h | h
  · exact digs_lt hn h
  · subst h
    refine par_lt hp ?_
    rw [List.getD_eq_getElem?_getD]
    rcases e : (digs n k i)[j]? with _ | d
    · exact hn
    · exact digs_lt hn (List.mem_of_getElem? e)
/-- A digit, and the index with another one in its place. -/
theorem rep_step {n : Nat} : ∀ (k q i d : Nat), q < k → (digs n k i).getD (k - 1 - q) 0 = i / n ^ q % n ∧ idx n (digs n k i) + d * n ^ q = idx n ((digs n k i).set (k - 1 - q) d) + (i / n ^ q % n) * n ^ q
  | 0, q, i, d, h => by omega
  | k + 1, 0, i, d, h => by
    have hl : (digs n k (i / n)).length = k := digs_len n k _
    rw [digs]
    simp only [Nat.add_sub_cancel, Nat.sub_zero, Nat.pow_zero, Nat.div_one, Nat.mul_one]
    refine ⟨?_, ?_⟩
    · rw [List.getD_eq_getElem?_getD, List.getElem?_append_right (by omega), hl]
      simp
    · rw [List.set_append_right _ _ (by omega), hl]
      simp only [Nat.sub_self, List.set_cons_zero, idx_snoc]
      omega
  | k + 1, q + 1, i, d, h => by
    have hl : (digs n k (i / n)).length = k := digs_len n k _
    obtain ⟨h1, h2⟩ := rep_step (n := n) k q (i / n) d (by omega)
    have e1 : k + 1 - 1 - (q + 1) = k - 1 - q := by omega
    have e2 : i / n ^ (q + 1) = i / n / n ^ q := by rw [Nat.pow_succ, Nat.mul_comm, Nat.div_div_eq_div_mul]
    rw [digs, e1, e2]
    refine ⟨?_, ?_⟩
    · rw [List.getD_eq_getElem?_getD, List.getElem?_append_left (by omega), ← List.getD_eq_getElem?_getD]
      exact h1
    · rw [List.set_append_left _ _ (by omega), idx_snoc, idx_snoc]
      have h3 := congrArg (· * n) h2
      simp only [Nat.add_mul] at h3
      rw [Nat.pow_succ, ← Nat.mul_assoc, ← Nat.mul_assoc]
      omega
/-- As the program reckons it. -/
theorem rep_prog {n k q i : Nat} {p : List Int} (hn : 0 < n) (hq : q < k) (hi : i < n ^ k) : (repI n k p i (k - 1 - q) : Int) = (i : Int) + ((nmAt p (i / n ^ q % n) : Int) - ((i / n ^ q % n : Nat) : Int)) * ((n ^ q : Nat) : Int) := by
  obtain ⟨h1, h2⟩ := rep_step (n := n) k q i (nmAt p (i / n ^ q % n)) hq
  unfold repI
  rw [h1]
  rw [idx_digs hn hi] at h2
  have h3 : ((i + nmAt p (i / n ^ q % n) * n ^ q : Nat) : Int) = ((idx n ((digs n k i).set (k - 1 - q) (nmAt p (i / n ^ q % n))) + (i / n ^ q % n) * n ^ q : Nat) : Int) := by rw [h2]
  rw [Int.natCast_add, Int.natCast_mul, Int.natCast_add, Int.natCast_mul] at h3
  rw [Int.sub_mul]
  omega
/-! ## The reference's push -/
/-- out is what the partition p became: coarser; as p, where nothing was to be put together. -/
structure PuI (n : Nat) (p out : List Int) (all : Prop) : Prop where
  par : ParP n out
  keep : ∀ i j, i < n → j < n → nmAt p i = nmAt p j → nmAt out i = nmAt out j
  same : all → out = p
  back : out = p → all
theorem PuI.start {n : Nat} {p : List Int} (h : ParP n p) : PuI n p p True := ⟨h, fun _ _ _ _ h => h, fun _ => rfl, fun _ => trivial⟩
theorem PuI.congr {n : Nat} {p out : List Int} {a b : Prop} (h : PuI n p out a) (e : a ↔ b) : PuI n p out b := ⟨h.par, h.keep, fun hb => h.same (e.2 hb), fun hb => e.1 (h.back hb)⟩
theorem par_ext {n : Nat} {p q : List Int} (hp : ParP n p) (hq : ParP n q) (h : ∀ i, i < n → nmAt p i = nmAt q i) : p = q := by
  apply List.ext_getElem?
  intro i
  by_cases hi : i < n
  · rw [(hp.at hi).1, (hq.at hi).1, h i hi]
  · rw [List.getElem?_eq_none (by rw [hp.1]; omega), List.getElem?_eq_none (by rw [hq.1]; omega)]
theorem PuI.next {n : Nat} {p out : List Int} {all : Prop} (hp : ParP n p) (h : PuI n p out all) {x y : Nat} (hx : x < n) (hy : y < n) : PuI n p (uniL out x y) (all ∧ nmAt p x = nmAt p y) := by
  refine ⟨uni_par h.par hx hy, fun i j hi hj e => uni_keep h.par hi hj (h.keep i j hi hj e), fun ⟨ha, hxy⟩ => ?_, fun e => ?_⟩
  · have := h.same ha
    subst this
    exact uni_same hxy
  · have h1 : nmAt p x = nmAt p y := by rw [← e]; exact uni_joins h.par hx hy
    refine ⟨h.back ?_, h1⟩
    -- out is between p and uniL out = p
    refine par_ext h.par hp fun i hi => ?_
    have h2 : ∀ i j, i < n → j < n → nmAt out i = nmAt out j → nmAt p i = nmAt p j := fun i j hi hj e2 => by
      rw [← e]; exact uni_keep h.par hi hj e2
    -- both tell the block of i by its least element
    have ho := h.par.at hi
    have hq := hp.at hi
    have k1 := h.keep (nmAt p i) i (by omega) hi hq.2.2
    have k2 := h2 (nmAt out i) i (by omega) hi ho.2.2
    have k3 := (h.par.at (show nmAt p i < n by omega)).2.1
    have k4 := (hp.at (show nmAt out i < n by omega)).2.1
    omega
end Go.Proofs.YtfnmkbpogbekpaaGreatDoor
namespace Go.Proofs.YtfnmkbpogbekpaaGreatDoor
open Go.RowKit
set_option linter.unusedVariables false

/-- The variables of two terms. -/
def varM (t : List Int) (y : Nat) : Bool := hasI (y : Int) t
def varsL (L R : List Int) : List Int := markL 6 fun y => varM L y || varM R y
/-- Marked so far: the variables of the first k numbers. -/
def varTo (t : List Int) (k : Nat) (y : Nat) : Bool := hasI (y : Int) (t.take k)
theorem varTo_zero (t : List Int) (y : Nat) : varTo t 0 y = false := rfl
theorem varTo_next {t : List Int} {k : Nat} {v : Int} (h : t[k]? = some v) (y : Nat) : varTo t (k + 1) y = (varTo t k y || decide (v = (y : Int))) := by
  unfold varTo
  rw [List.take_add_one, h, Bool.eq_iff_iff, Bool.or_eq_true, hasI_m, hasI_m, List.mem_append, decide_eq_true_iff]
  simp only [Option.toList_some, List.mem_singleton]
  exact ⟨fun h => h.imp id Eq.symm, fun h => h.imp id Eq.symm⟩
theorem varTo_all {t : List Int} {k : Nat} (h : t.length ≤ k) (y : Nat) : varTo t k y = varM t y := by unfold varTo varM; rw [List.take_of_length_le h]
end Go.Proofs.YtfnmkbpogbekpaaGreatDoor
namespace Go.Proofs.YtfnmkbpogbekpaaGreatDoor
open Go.RowKit
set_option linter.unusedVariables false

/-- The variables vars get the digits ds, one after the other. -/
def setV (vars : List Int) (ds : List Nat) : Nat → List Int → List Int
  | 0, V => V
  | k + 1, V => (setV vars ds k V).set (vars.getD k 0).toNat ((ds.getD k 0 : Nat) : Int)
theorem setV_len (vars : List Int) (ds : List Nat) (V : List Int) : ∀ k, (setV vars ds k V).length = V.length
  | 0 => rfl
  | k + 1 => by rw [setV, List.length_set, setV_len vars ds V k]
theorem setV_in {n : Nat} {vars : List Int} {ds : List Nat} {V : List Int} (hd : ∀ d ∈ ds, d < n) (hn : 0 < n) (hV : ∀ x ∈ V, 0 ≤ x ∧ x ≤ (n : Int) - 1) : ∀ k, ∀ x ∈ setV vars ds k V, 0 ≤ x ∧ x ≤ (n : Int) - 1
  | 0, x, hx => hV x hx
  | k + 1, x, hx => by
    rw [setV] at hx
    rcases List.mem_or_eq_of_mem_set hx with h | h
    · exact setV_in hd hn hV k x h
    · subst h
      have : ds.getD k 0 < n := by
        rw [List.getD_eq_getElem?_getD]
        rcases e : ds[k]? with _ | d
        · exact hn
        · exact hd d (List.mem_of_getElem? e)
      omega
def mxV (vars : List Int) : Nat := (vars.getLast?.getD (-1) + 1).toNat
/-- The values ahead of the i-th try. -/
def Wb (n : Nat) (vars : List Int) : Nat → List Int
  | 0 => List.replicate (mxV vars) 0
  | i + 1 => setV vars (digs n vars.length i) vars.length (Wb n vars i)
theorem Wb_len (n : Nat) (vars : List Int) : ∀ i, (Wb n vars i).length = mxV vars
  | 0 => by simp [Wb]
  | i + 1 => by rw [Wb, setV_len, Wb_len n vars i]
theorem Wb_in {n : Nat} (hn : 0 < n) (vars : List Int) : ∀ i, ∀ x ∈ Wb n vars i, 0 ≤ x ∧ x ≤ (n : Int) - 1
  | 0, x, hx => by
    rw [Wb] at hx
    have := (List.mem_replicate.1 hx).2
    omega
  | i + 1, x, hx => by
    rw [Wb] at hx
    exact setV_in (fun d hd => digs_lt hn hd) hn (Wb_in hn vars i) _ x hx
/-- The i-th try shows the two sides alike. -/
def TryP (n : Nat) (ops : List OpM) (L R : List Int) (i : Nat) : Prop := evT n ops (Wb n (varsL L R) (i + 1)) L = evT n ops (Wb n (varsL L R) (i + 1)) R
def HoldP (n : Nat) (ops : List OpM) (L R : List Int) : Prop := ∀ i, i < n ^ (varsL L R).length → TryP n ops L R i
def askB (n : Nat) (ops : List OpM) (L R : List Int) : Bool := (termB ops L && termB ops R) && decide (n ^ (varsL L R).length ≤ 5000)
noncomputable def holdB (n : Nat) (ops : List OpM) (L R : List Int) : Bool := askB n ops L R && tt (HoldP n ops L R)
/-- The values refute the identity. -/
def failB (n : Nat) (ops : List OpM) (L R V : List Int) : Bool := allIn 0 ((n : Int) - 1) V && (decide (V.length = mxV (varsL L R)) && decide (evT n ops V L ≠ evT n ops V R))
theorem good_mem {ops : List OpM} : ∀ {l : List Int} {m : Nat}, GoodS ops l m → ∀ v ∈ l, badV ops v = false
  | [], _, _, v, hv => by cases hv
  | x :: l, m, h, v, hv => by
    obtain ⟨-, h1, h2⟩ := h.cons
    rcases List.mem_cons.1 hv with rfl | hv
    · exact h1
    · exact good_mem h2 v hv
theorem term_mem {ops : List OpM} {t : List Int} (h : termB ops t = true) : ∀ v ∈ t, badV ops v = false := good_mem (show GoodS ops t 1 from (term_end h).2)
theorem asc_last : ∀ {l : List Int}, l.Pairwise (· < ·) → ∀ v ∈ l, v ≤ l.getLast?.getD (-1)
  | [], _, v, hv => by cases hv
  | [a], _, v, hv => by rw [List.mem_singleton] at hv; subst hv; simp
  | a :: b :: l, h, v, hv => by
    rw [List.pairwise_cons] at h
    have ih := asc_last h.2
    rw [List.getLast?_cons_cons]
    rcases List.mem_cons.1 hv with rfl | hv
    · have h1 := h.1 b List.mem_cons_self
      have h2 := ih b List.mem_cons_self
      omega
    · exact ih v hv
theorem vars_le (L R : List Int) : (varsL L R).length ≤ 6 := markL_le _ _
theorem vars_in (L R : List Int) : ∀ v ∈ varsL L R, 0 ≤ v ∧ v ≤ 5 := fun v hv => by
  have := markL_in (n := 6) v hv
  omega
theorem mx_le (L R : List Int) : mxV (varsL L R) ≤ 6 := by
  unfold mxV
  rcases e : (varsL L R).getLast? with _ | v
  · simp
  · have := vars_in L R v (List.mem_of_getLast? e)
    show (v + 1).toNat ≤ 6
    omega
theorem var_lt {ops : List OpM} {L R : List Int} (h1 : termB ops L = true) (h2 : termB ops R = true) {v : Int} (hv : v ∈ L ∨ v ∈ R) : v < (mxV (varsL L R) : Int) := by
  by_cases h0 : 0 ≤ v
  · have h6 : v < 6 := by
      rcases hv with hv | hv
      · exact (badV_parts (term_mem h1 v hv)).1
      · exact (badV_parts (term_mem h2 v hv)).1
    obtain ⟨y, rfl⟩ := Int.eq_ofNat_of_zero_le h0
    have hm : (y : Int) ∈ varsL L R := by
      refine markL_mem.2 ⟨y, by omega, ?_, rfl⟩
      rw [Bool.or_eq_true]
      exact hv.imp hasI_m.2 hasI_m.2
    have := asc_last (markL_asc _ _) _ hm
    unfold mxV
    show (y : Int) < (((markL 6 _).getLast?.getD (-1) + 1).toNat : Int)
    omega
  · omega
theorem vars_mx {L R : List Int} {v : Int} (hv : v ∈ varsL L R) : v < (mxV (varsL L R) : Int) := by
  have h1 := asc_last (markL_asc 6 _) v hv
  have h2 := (vars_in L R v hv).1
  unfold mxV
  show v < (((markL 6 _).getLast?.getD (-1) + 1).toNat : Int)
  omega
theorem mx_last {vars : List Int} {v : Int} (h : vars.getLast? = some v) (h0 : 0 ≤ v) : (mxV vars : Int) = v + 1 := by
  unfold mxV
  rw [h]
  show ((v + 1).toNat : Int) = v + 1
  omega
end Go.Proofs.YtfnmkbpogbekpaaGreatDoor
namespace Go.Proofs.YtfnmkbpogbekpaaGreatDoor
open Go.RowKit

/-- A map that keeps the operations. -/
def HomP (n : Nat) (ops : List OpM) (f : List Int) : Prop := ∀ o ∈ ops, ∀ i, i < o.2.length → nmAt f (nmAt o.2 i) = nmAt o.2 (toI n o.1.toNat f i)
noncomputable def congB (n : Nat) (ops : List OpM) (p : List Int) : Bool := tt (ParP n p) && tt (CompP n ops p)
noncomputable def homB (n : Nat) (ops : List OpM) (f : List Int) : Bool := (decide (f.length = n) && allIn 0 ((n : Int) - 1) f) && tt (HomP n ops f)
noncomputable def subB (n : Nat) (ops : List OpM) (V : List Int) : Bool := (allIn 0 ((n : Int) - 1) V && risesL V) && decide ((genL n ops V).length = V.length)
noncomputable def genB (n : Nat) (ops : List OpM) (V : List Int) : Bool := (allIn 0 ((n : Int) - 1) V && risesL V) && decide ((genL n ops V).length = n)
/-- Is the fact true of the algebra? -/
noncomputable def trueB (x : AlgebraM) (f : FactM) : Bool :=
  if f.1 = 1 then holdB x.1.toNat x.2 f.2.1.1 f.2.1.2 && decide (f.2.2.length = 0)
  else if f.1 = 2 then askB x.1.toNat x.2 f.2.1.1 f.2.1.2 && failB x.1.toNat x.2 f.2.1.1 f.2.1.2 f.2.2
  else noEq f.2.1 && (if f.1 = 3 then subB x.1.toNat x.2 f.2.2 else if f.1 = 4 then congB x.1.toNat x.2 f.2.2 else if f.1 = 5 then genB x.1.toNat x.2 f.2.2 else if f.1 = 6 then homB x.1.toNat x.2 f.2.2 else false)
end Go.Proofs.YtfnmkbpogbekpaaGreatDoor
namespace Go.Proofs.YtfnmkbpogbekpaaGreatDoor
open Go.RowKit
theorem eq0_nat {n : Nat} {b : Bool} (h : decide (n = 0) = b) : ((n : Int) == 0) = b := by rw [← h, Bool.eq_iff_iff, beq_iff_eq, decide_eq_true_iff]; omega
end Go.Proofs.YtfnmkbpogbekpaaGreatDoor
namespace Go.Proofs.YtfnmkbpogbekpaaGreatDoor
open Go.RowKit

/-! ## Names one after the other -/
def comp (s t : List Int) : List Int := s.map (nmI t)
theorem PermL.atI {n : Nat} {s : List Int} (h : PermL n s) {v : Int} (h0 : 0 ≤ v) (h1 : v ≤ (n : Int) - 1) : ∃ hl : v.toNat < s.length, nmI s v = s[v.toNat] ∧ s[v.toNat]? = some (nmI s v) := by
  have hl : v.toNat < s.length := by rw [h.1]; omega
  have e : s[v.toNat]? = some s[v.toNat] := List.getElem?_eq_getElem hl
  have e2 : nmI s v = s[v.toNat] := by unfold nmI; rw [List.getD_eq_getElem?_getD, e]; rfl
  exact ⟨hl, e2, by rw [e2]; exact e⟩
theorem nmI_in {n : Nat} {s : List Int} (h : PermL n s) {v : Int} (h0 : 0 ≤ v) (h1 : v ≤ (n : Int) - 1) : 0 ≤ nmI s v ∧ nmI s v ≤ (n : Int) - 1 := by
  obtain ⟨hl, e, -⟩ := h.atI h0 h1
  rw [e]
  exact h.2.1 _ (List.getElem_mem hl)
theorem nodup_at {α : Type} : ∀ {l : List α}, l.Nodup → ∀ {i j : Nat} {v : α}, l[i]? = some v → l[j]? = some v → i = j
  | [], _, i, j, v, hi, _ => by simp at hi
  | x :: l, h, 0, 0, v, _, _ => rfl
  | x :: l, h, 0, j + 1, v, hi, hj => by
    rw [List.nodup_cons] at h
    simp at hi hj
    subst hi
    exact absurd (List.mem_of_getElem? hj) h.1
  | x :: l, h, i + 1, 0, v, hi, hj => by
    rw [List.nodup_cons] at h
    simp at hi hj
    subst hj
    exact absurd (List.mem_of_getElem? hi) h.1
  | x :: l, h, i + 1, j + 1, v, hi, hj => by
    rw [List.nodup_cons] at h
    simp at hi hj
    rw [nodup_at h.2 hi hj]
theorem nmI_inj {n : Nat} {s : List Int} (h : PermL n s) {a b : Int} (a0 : 0 ≤ a) (a1 : a ≤ (n : Int) - 1) (b0 : 0 ≤ b) (b1 : b ≤ (n : Int) - 1) (e : nmI s a = nmI s b) : a = b := by
  obtain ⟨-, -, ea⟩ := h.atI a0 a1
  obtain ⟨-, -, eb⟩ := h.atI b0 b1
  rw [e] at ea
  have := nodup_at h.2.2 ea eb
  omega
theorem nodup_map {α β : Type} {f : α → β} {l : List α} (h : l.Nodup) (hf : ∀ a ∈ l, ∀ b ∈ l, f a = f b → a = b) : (l.map f).Nodup := by
  induction l with
  | nil => simp
  | cons x l ih =>
    rw [List.nodup_cons] at h
    rw [List.map_cons, List.nodup_cons]
    refine ⟨fun hm => ?_, ih h.2 fun a ha b hb => hf a (by simp [ha]) b (by simp [hb])⟩
    obtain ⟨y, hy, e⟩ := List.mem_map.1 hm
    have := hf y (by simp [hy]) x (by simp) e
    subst this
    exact h.1 hy
theorem comp_perm {n : Nat} {s t : List Int} (hs : PermL n s) (ht : PermL n t) : PermL n (comp s t) := by
  refine ⟨by unfold comp; rw [List.length_map]; exact hs.1, fun v hv => ?_, nodup_map hs.2.2 fun a ha b hb e => ?_⟩
  · obtain ⟨y, hy, rfl⟩ := List.mem_map.1 hv
    have := hs.2.1 y hy
    exact nmI_in ht this.1 this.2
  · have h1 := hs.2.1 a ha
    have h2 := hs.2.1 b hb
    exact nmI_inj ht h1.1 h1.2 h2.1 h2.2 e
theorem comp_nmI {n : Nat} {s t : List Int} (hs : PermL n s) {v : Int} (h0 : 0 ≤ v) (h1 : v ≤ (n : Int) - 1) : nmI (comp s t) v = nmI t (nmI s v) := by
  obtain ⟨hl, e, e2⟩ := hs.atI h0 h1
  unfold comp
  have : (s.map (nmI t))[v.toNat]? = some (nmI t (nmI s v)) := by rw [List.getElem?_map, e2]; rfl
  exact nmI_get this
theorem nmAt_nmI {n : Nat} {s : List Int} (hs : PermL n s) {x : Nat} (hx : x < n) : (nmAt s x : Int) = nmI s (x : Int) := by
  obtain ⟨v, h1, h2, h3⟩ := hs.at hx
  rw [h3]
  have := nmI_get h1
  unfold nmI at this ⊢
  simp only [Int.toNat_natCast]
  exact this.symm
theorem nmAt_lt {n : Nat} {s : List Int} (hs : PermL n s) {x : Nat} (hx : x < n) : nmAt s x < n := by
  obtain ⟨v, h1, h2, h3⟩ := hs.at hx
  omega
theorem comp_nmAt {n : Nat} {s t : List Int} (hs : PermL n s) (ht : PermL n t) {x : Nat} (hx : x < n) : nmAt (comp s t) x = nmAt t (nmAt s x) := by
  have h1 := nmAt_nmI (comp_perm hs ht) hx
  have h2 := nmAt_nmI ht (nmAt_lt hs hx)
  have h3 := nmAt_nmI hs hx
  rw [comp_nmI hs (by omega) (by omega), ← h3, ← h2] at h1
  omega
theorem perm_ext {n : Nat} {s t : List Int} (hs : s.length = n) (ht : t.length = n) (h : ∀ x, x < n → nmI s (x : Int) = nmI t (x : Int)) : s = t := by
  apply List.ext_getElem?
  intro i
  by_cases hi : i < n
  · have := h i hi
    unfold nmI at this
    simp only [Int.toNat_natCast, List.getD_eq_getElem?_getD] at this
    rw [List.getElem?_eq_getElem (by omega), List.getElem?_eq_getElem (by omega)] at this ⊢
    simpa using this
  · rw [List.getElem?_eq_none (by omega), List.getElem?_eq_none (by omega)]
theorem upTo_nmI {n : Nat} {v : Int} (h0 : 0 ≤ v) (h1 : v ≤ (n : Int) - 1) : nmI (upTo n) v = v := by
  have := nmI_get (upTo_get (n := n) (k := v.toNat) (by omega))
  rw [Int.toNat_of_nonneg h0] at this
  exact this
theorem comp_len (s t : List Int) : (comp s t).length = s.length := by simp [comp]
theorem comp_up {n : Nat} {s : List Int} (hs : PermL n s) : comp s (upTo n) = s := by
  refine perm_ext (n := n) (by rw [comp_len]; exact hs.1) hs.1 fun x hx => ?_
  have := nmI_in hs (v := (x : Int)) (by omega) (by omega)
  rw [comp_nmI hs (by omega) (by omega), upTo_nmI this.1 this.2]
theorem comp_assoc {n : Nat} {a b c : List Int} (ha : PermL n a) (hb : PermL n b) : comp (comp a b) c = comp a (comp b c) := by
  refine perm_ext (n := n) (by rw [comp_len, comp_len]; exact ha.1) (by rw [comp_len]; exact ha.1) fun x hx => ?_
  have := nmI_in ha (v := (x : Int)) (by omega) (by omega)
  rw [comp_nmI (comp_perm ha hb) (by omega) (by omega), comp_nmI ha (by omega) (by omega), comp_nmI ha (by omega) (by omega), comp_nmI hb this.1 this.2]
/-- The place of a number in a list. -/
def posN : List Int → Int → Nat
  | [], _ => 0
  | x :: l, v => if x = v then 0 else posN l v + 1
theorem posN_get : ∀ {l : List Int} {v : Int}, v ∈ l → l[posN l v]? = some v
  | [], v, h => by simp at h
  | x :: l, v, h => by
    unfold posN
    by_cases e : x = v
    · rw [if_pos e, e]; rfl
    · rw [if_neg e, List.getElem?_cons_succ]
      refine posN_get ?_
      rcases List.mem_cons.1 h with h | h
      · exact absurd h.symm e
      · exact h
def inv (n : Nat) (s : List Int) : List Int := (List.range n).map fun (y : Nat) => (posN s (y : Int) : Int)
theorem PermL.mem {n : Nat} {s : List Int} (h : PermL n s) {y : Nat} (hy : y < n) : (y : Int) ∈ s := by
  obtain ⟨x, hx, e⟩ := h.surj hy
  obtain ⟨v, h1, h2, h3⟩ := h.at hx
  rw [← e, h3]
  exact List.mem_of_getElem? h1
theorem inv_nmI {n : Nat} {s : List Int} {y : Nat} (hy : y < n) : nmI (inv n s) (y : Int) = (posN s (y : Int) : Int) := by
  have : (inv n s)[y]? = some (posN s (y : Int) : Int) := by unfold inv; rw [List.getElem?_map, List.getElem?_range hy]; rfl
  have := nmI_get this
  unfold nmI at this ⊢
  simpa using this
theorem inv_perm {n : Nat} {s : List Int} (h : PermL n s) : PermL n (inv n s) := by
  refine ⟨by simp [inv], fun v hv => ?_, nodup_map List.nodup_range fun a ha b hb e => ?_⟩
  · obtain ⟨y, hy, rfl⟩ := List.mem_map.1 hv
    have := (List.getElem?_eq_some_iff.1 (posN_get (h.mem (List.mem_range.1 hy)))).1
    have := h.1
    omega
  · have h1 := posN_get (h.mem (List.mem_range.1 ha))
    have h2 := posN_get (h.mem (List.mem_range.1 hb))
    have e' : posN s (a : Int) = posN s (b : Int) := by omega
    rw [e', h2] at h1
    injection h1 with h1
    omega
theorem comp_inv {n : Nat} {s : List Int} (h : PermL n s) : comp s (inv n s) = upTo n := by
  refine perm_ext (n := n) (by rw [comp_len]; exact h.1) (upTo_len n) fun x hx => ?_
  rw [comp_nmI h (by omega) (by omega), upTo_nmI (by omega) (by omega)]
  obtain ⟨v, h1, h2, h3⟩ := h.at hx
  have e : nmI s (x : Int) = v := by have := nmI_get h1; unfold nmI at this ⊢; simpa using this
  rw [e, inv_nmI h2]
  have := nodup_at h.2.2 (posN_get (h.mem h2)) h1
  omega
theorem inv_comp {n : Nat} {s : List Int} (h : PermL n s) : comp (inv n s) s = upTo n := by
  refine perm_ext (n := n) (by rw [comp_len]; exact (inv_perm h).1) (upTo_len n) fun x hx => ?_
  rw [comp_nmI (inv_perm h) (by omega) (by omega), upTo_nmI (by omega) (by omega), inv_nmI hx]
  have := posN_get (h.mem hx)
  have := nmI_get this
  unfold nmI at this ⊢
  simpa using this

/-! ## Renaming by names one after the other -/
theorem toI_comp {n k : Nat} {s t : List Int} (hn : 0 < n) (hs : PermL n s) (ht : PermL n t) (i : Nat) : toI n k t (toI n k s i) = toI n k (comp s t) i := by
  unfold toI
  have h1 : ∀ d ∈ (digs n k i).map (nmAt s), d < n := fun d hd => by
    obtain ⟨y, hy, rfl⟩ := List.mem_map.1 hd
    exact nmAt_lt hs (digs_lt hn hy)
  rw [digs_idx hn k _ (by rw [List.length_map, digs_len]) h1, List.map_map]
  congr 1
  apply List.map_congr_left
  intro d hd
  rw [comp_nmAt hs ht (digs_lt hn hd)]
  rfl
theorem toI_inj {n k : Nat} {s : List Int} (hn : 0 < n) (hs : PermL n s) {i j : Nat} (hi : i < n ^ k) (hj : j < n ^ k) (e : toI n k s i = toI n k s j) : i = j := by
  have h1 := toI_comp (k := k) hn hs (inv_perm hs) i
  have h2 := toI_comp (k := k) hn hs (inv_perm hs) j
  rw [comp_inv hs, toI_up hn hi] at h1
  rw [comp_inv hs, toI_up hn hj] at h2
  rw [← h1, ← h2, e]
theorem renTo_get {n k : Nat} {s t T : List Int} (hn : 0 < n) (hs : PermL n s) (hT : T.length = n ^ k) : ∀ m, m ≤ n ^ k → ∀ i, i < m → (renTo n k s t T m)[toI n k s i]? = some (nmI s (t.getD i 0))
  | 0, _, i, hi => absurd hi (by omega)
  | m + 1, hm, i, hi => by
    rw [renTo, List.getElem?_set]
    by_cases h : toI n k s m = toI n k s i
    · obtain rfl : m = i := toI_inj hn hs (by omega) (by omega) h
      have := toI_lt (k := k) hn hs m
      rw [if_pos rfl, if_pos (by rw [renTo_len, hT]; exact this)]
    · rw [if_neg h]
      refine renTo_get hn hs hT m (by omega) i ?_
      rcases Nat.lt_or_ge i m with h2 | h2
      · exact h2
      · obtain rfl : i = m := by omega
        exact absurd rfl h
theorem renOp_get {n : Nat} {s : List Int} {x : OpM} (hn : 0 < n) (hs : PermL n s) (h : OpP n x) {i : Nat} (hi : i < n ^ x.1.toNat) : (renOp n s x).2[toI n x.1.toNat s i]? = some (nmI s (x.2.getD i 0)) :=
  renTo_get hn hs h.2.2.1 _ (Nat.le_of_eq h.2.2.1) i (by rw [h.2.2.1]; exact hi)
theorem renOp_comp {n : Nat} {s t : List Int} {x : OpM} (hn : 0 < n) (hs : PermL n s) (ht : PermL n t) (h : OpP n x) : renOp n t (renOp n s x) = renOp n (comp s t) x := by
  have h1 := renOp_small hs h
  have h2 := renOp_small ht h1
  have h3 := renOp_small (comp_perm hs ht) h
  refine Prod.ext rfl ?_
  apply List.ext_getElem?
  intro j
  by_cases hj : j < n ^ x.1.toNat
  · obtain ⟨i, hi, rfl⟩ := toI_surj hn (comp_perm hs ht) hj
    rw [renOp_get hn (comp_perm hs ht) h hi, ← toI_comp hn hs ht i]
    have e := renOp_get (x := renOp n s x) hn ht h1 (i := toI n x.1.toNat s i) (toI_lt hn hs i)
    have e1 : (renOp n s x).1 = x.1 := rfl
    rw [e1] at e
    rw [e, List.getD_eq_getElem?_getD, renOp_get hn hs h hi]
    have hx : 0 ≤ x.2.getD i 0 ∧ x.2.getD i 0 ≤ (n : Int) - 1 := by
      rw [List.getD_eq_getElem?_getD, List.getElem?_eq_getElem (by rw [h.2.2.1]; exact hi)]
      exact h.2.2.2 _ (List.getElem_mem _)
    rw [comp_nmI hs hx.1 hx.2]
    rfl
  · have e2 : (renOp n t (renOp n s x)).2.length = n ^ x.1.toNat := h2.2.2.1
    have e3 : (renOp n (comp s t) x).2.length = n ^ x.1.toNat := h3.2.2.1
    rw [List.getElem?_eq_none (by omega), List.getElem?_eq_none (by omega)]
theorem ren_comp {x : AlgebraM} {s t : List Int} (h : SmallP x) (hs : PermL x.1.toNat s) (ht : PermL x.1.toNat t) : ren (ren x s) t = ren x (comp s t) := by
  obtain ⟨a, ops⟩ := x
  have hn : 0 < a.toNat := by have h0 : 1 ≤ a := h.1; omega
  show (a, (ops.map (renOp a.toNat s)).map (renOp a.toNat t)) = (a, ops.map (renOp a.toNat (comp s t)))
  congr 1
  rw [List.map_map]
  apply List.map_congr_left
  intro o ho
  exact renOp_comp hn hs ht (h.2.2.2 o ho)
theorem ren_inv {x : AlgebraM} {s : List Int} (h : SmallP x) (hs : PermL x.1.toNat s) : ren (ren x s) (inv x.1.toNat s) = x := by
  rw [ren_comp h hs (inv_perm hs), comp_inv hs, ren_up h]

/-! ## All lists of names -/
theorem ords_all {n : Nat} : ∀ (r : Nat) {s q : List Int}, q.length = r → (s ++ q).Nodup → (∀ v ∈ q, 0 ≤ v ∧ v ≤ (n : Int) - 1) → s ++ q ∈ ords n r s
  | 0, s, q, hq, _, _ => by
    obtain rfl : q = [] := List.eq_nil_of_length_eq_zero hq
    simp [ords]
  | r + 1, s, q, hq, hn, hb => by
    rcases q with _ | ⟨v, q⟩
    · simp at hq
    · have hv := hb v (by simp)
      rw [ords, List.mem_flatMap]
      refine ⟨v.toNat, List.mem_range.2 (by omega), ?_⟩
      rw [Int.toNat_of_nonneg hv.1]
      have hno : hasI v s = false := by
        rcases e : hasI v s with _ | _
        · rfl
        · rw [List.nodup_append] at hn
          exact absurd rfl (hn.2.2 v (hasI_m.1 e) v (by simp))
      rw [hno, if_neg (by simp)]
      have := ords_all (n := n) r (s := s ++ [v]) (q := q) (by simpa using hq) (by simpa using hn) fun u hu => hb u (by simp [hu])
      simpa using this
theorem ords_mem {n : Nat} {p : List Int} : p ∈ ords n n [] ↔ PermL n p :=
  ⟨fun h => ords_perm n (by simp) (fun v hv => by cases hv) List.nodup_nil p h, fun h => ords_all n (s := []) h.1 (by simpa using h.2.2) h.2.1⟩
theorem ords_pre {n : Nat} : ∀ (r : Nat) {s p : List Int}, p ∈ ords n r s → ∃ q, p = s ++ q ∧ q.length = r
  | 0, s, p, h => ⟨[], by simpa [ords] using h, rfl⟩
  | r + 1, s, p, h => by
    rw [ords, List.mem_flatMap] at h
    obtain ⟨x, hx, h⟩ := h
    split at h
    · cases h
    · obtain ⟨q, e, hq⟩ := ords_pre r h
      exact ⟨(x : Int) :: q, by simpa using e, by simp [hq]⟩
theorem ords_nodup {n : Nat} : ∀ (r : Nat) (s : List Int), (ords n r s).Nodup
  | 0, s => by simp [ords]
  | r + 1, s => by
    rw [ords, List.nodup_iff_pairwise_ne, List.pairwise_flatMap]
    refine ⟨fun x hx => ?_, ?_⟩
    · split
      · simp
      · exact List.nodup_iff_pairwise_ne.1 (ords_nodup r _)
    · refine (List.nodup_iff_pairwise_ne.1 List.nodup_range).imp fun {a b} hab => ?_
      intro p hp q hq e
      subst e
      split at hp
      · cases hp
      · split at hq
        · cases hq
        · obtain ⟨u, e1, -⟩ := ords_pre r hp
          obtain ⟨v, e2, -⟩ := ords_pre r hq
          rw [e1] at e2
          simp at e2
          omega
/-! ## The first form -/
theorem ren_eq {x : AlgebraM} (hx : SmallP x) {s t : List Int} (hs : PermL x.1.toNat s) (ht : PermL x.1.toNat t) (h : codeL (ren x s).2 = codeL (ren x t).2) : ren x s = ren x t :=
  Prod.ext rfl (code_eq (n := x.1.toNat) (ren_small hs hx).2.2.2 (ren_small ht hx).2.2.2 (by rw [ren_type, ren_type]) h)
/-! ## Counting -/
theorem nodup_sub' {α : Type} : ∀ {l m : List α}, l.Nodup → (∀ x ∈ l, x ∈ m) → l.length ≤ m.length
  | [], _, _, _ => Nat.zero_le _
  | a :: l, m, hn, hs => by
    rw [List.nodup_cons] at hn
    obtain ⟨u, v, rfl⟩ := List.append_of_mem (hs a (by simp))
    have ih := nodup_sub' (m := u ++ v) hn.2 fun x hx => by
      have := hs x (by simp [hx])
      have hne : x ≠ a := fun e => hn.1 (by rw [← e]; exact hx)
      simpa [hne] using this
    simp at ih ⊢
    omega
theorem length_by {α β : Type} (f : α → β) (m : Nat) (P : α → β → Bool) (hP : ∀ a b, P a b = true ↔ f a = b) : ∀ {cs : List β} {L : List α}, cs.Nodup → (∀ p ∈ L, f p ∈ cs) → (∀ c ∈ cs, (L.filter fun p => P p c).length = m) → L.length = cs.length * m
  | [], [], _, _, _ => by simp
  | [], p :: L, _, h, _ => by have := h p (by simp); cases this
  | c :: cs, L, hn, h, hm => by
    rw [List.nodup_cons] at hn
    have h1 := hm c (by simp)
    have h2 : (L.filter fun p => !P p c).length = cs.length * m := by
      refine length_by f m P hP hn.2 (fun p hp => ?_) fun d hd => ?_
      · rw [List.mem_filter] at hp
        rcases List.mem_cons.1 (h p hp.1) with e | e
        · have := (hP p c).2 e
          rw [this] at hp
          simp at hp
        · exact e
      · rw [List.filter_filter, ← hm d (by simp [hd])]
        congr 1
        apply List.filter_congr
        intro p _
        rcases e : P p d with _ | _
        · rfl
        · have h3 := (hP p d).1 e
          have h4 : P p c = false := by
            rcases e2 : P p c with _ | _
            · rfl
            · have := (hP p c).1 e2
              rw [← this, h3] at hn
              exact absurd hd hn.1
          rw [h4]
          rfl
    have h3 : L.length = (L.filter fun p => P p c).length + (L.filter fun p => !P p c).length := by
      clear h h1 h2 hm
      induction L with
      | nil => rfl
      | cons p L ih =>
        rw [List.filter_cons, List.filter_cons]
        rcases P p c with _ | _ <;> simp <;> omega
    rw [h3, h1, h2, List.length_cons, Nat.succ_mul]
    omega
theorem orbit_len {x : AlgebraM} (hx : SmallP x) {cs : List (List Int)} (hn : cs.Nodup) (h : ∀ c, c ∈ cs ↔ ∃ p ∈ ords x.1.toNat x.1.toNat [], codeL (ren x p).2 = c) :
    (ords x.1.toNat x.1.toNat []).length = cs.length * ((ords x.1.toNat x.1.toNat []).filter fun p => eqC (ren x p) x).length := by
  refine length_by (fun p => codeL (ren x p).2) _ (fun p c => eqC (codeL (ren x p).2) c) (fun a b => eqC_iff) hn (fun p hp => (h _).2 ⟨p, hp, rfl⟩) fun c hc => ?_
  obtain ⟨p, hp, rfl⟩ := (h c).1 hc
  have hp' := ords_mem.1 hp
  have hL := ords_nodup (n := x.1.toNat) x.1.toNat []
  apply Nat.le_antisymm
  · rw [← List.length_map (f := fun q => comp q (inv x.1.toNat p))]
    refine nodup_sub' (nodup_map (List.Nodup.sublist List.filter_sublist hL) fun a ha b hb e => ?_) fun q hq => ?_
    · have ha' := ords_mem.1 (List.mem_filter.1 ha).1
      have hb' := ords_mem.1 (List.mem_filter.1 hb).1
      have : comp (comp a (inv x.1.toNat p)) p = comp (comp b (inv x.1.toNat p)) p := congrArg (fun z => comp z p) e
      rwa [comp_assoc ha' (inv_perm hp'), comp_assoc hb' (inv_perm hp'), inv_comp hp', comp_up ha', comp_up hb'] at this
    · obtain ⟨q', hq', rfl⟩ := List.mem_map.1 hq
      rw [List.mem_filter] at hq' ⊢
      have h1 := ords_mem.1 hq'.1
      refine ⟨ords_mem.2 (comp_perm h1 (inv_perm hp')), eqC_iff.2 ?_⟩
      have h2 := ren_eq hx h1 hp' (eqC_iff.1 hq'.2)
      rw [← ren_comp hx h1 (inv_perm hp'), h2, ren_inv hx hp']
  · rw [← List.length_map (f := fun q => comp q p)]
    refine nodup_sub' (nodup_map (List.Nodup.sublist List.filter_sublist hL) fun a ha b hb e => ?_) fun q hq => ?_
    · have ha' := ords_mem.1 (List.mem_filter.1 ha).1
      have hb' := ords_mem.1 (List.mem_filter.1 hb).1
      have : comp (comp a p) (inv x.1.toNat p) = comp (comp b p) (inv x.1.toNat p) := congrArg (fun z => comp z (inv x.1.toNat p)) e
      rwa [comp_assoc ha' hp', comp_assoc hb' hp', comp_inv hp', comp_up ha', comp_up hb'] at this
    · obtain ⟨q', hq', rfl⟩ := List.mem_map.1 hq
      rw [List.mem_filter] at hq' ⊢
      have h1 := ords_mem.1 hq'.1
      refine ⟨ords_mem.2 (comp_perm h1 hp'), eqC_iff.2 ?_⟩
      rw [← ren_comp hx h1 hp', eqC_iff.1 hq'.2]
/-- The list of what f gives, each once, in the order of the first ones. -/
noncomputable def once {α β : Type} (f : α → β) (l : List α) : List β := l.foldl (fun acc p => if (acc.any fun c => eqC c (f p)) then acc else acc ++ [f p]) []
theorem once_snoc {α β : Type} (f : α → β) (l : List α) (p : α) : once f (l ++ [p]) = if ((once f l).any fun c => eqC c (f p)) then once f l else once f l ++ [f p] := by
  unfold once
  rw [List.foldl_append]
  rfl
theorem any_eqC {β : Type} {l : List β} {b : β} : (l.any fun c => eqC c b) = true ↔ b ∈ l := by
  rw [List.any_eq_true]
  exact ⟨fun ⟨c, h, e⟩ => by rw [← eqC_iff.1 e]; exact h, fun h => ⟨b, h, eqC_self b⟩⟩
theorem once_iff {α β : Type} (f : α → β) (l : List α) : (once f l).Nodup ∧ ∀ c, c ∈ once f l ↔ ∃ p ∈ l, f p = c := by
  have key : ∀ k, k ≤ l.length → (once f (l.take k)).Nodup ∧ ∀ c, c ∈ once f (l.take k) ↔ ∃ p ∈ l.take k, f p = c := by
    intro k
    induction k with
    | zero => intro _; simp [once]
    | succ k ih =>
      intro hk
      obtain ⟨h1, h2⟩ := ih (by omega)
      rw [List.take_succ_eq_append_getElem (by omega), once_snoc]
      rcases e : ((once f (l.take k)).any fun c => eqC c (f l[k])) with _ | _
      · have hno : f l[k] ∉ once f (l.take k) := fun h => by rw [any_eqC.2 h] at e; cases e
        rw [if_neg (by simp)]
        refine ⟨?_, fun c => ?_⟩
        · rw [List.nodup_append]
          refine ⟨h1, by simp, fun a ha b hb e => ?_⟩
          rw [List.mem_singleton] at hb
          subst hb
          subst e
          exact hno ha
        · rw [List.mem_append, h2, List.mem_singleton]
          constructor
          · rintro (⟨p, hp, e⟩ | e)
            · exact ⟨p, List.mem_append_left _ hp, e⟩
            · exact ⟨l[k], List.mem_append_right _ (List.mem_singleton.2 rfl), e.symm⟩
          · rintro ⟨p, hp, e⟩
            rw [List.mem_append, List.mem_singleton] at hp
            rcases hp with hp | rfl
            · exact .inl ⟨p, hp, e⟩
            · exact .inr e.symm
      · have hm := any_eqC.1 e
        rw [if_pos rfl]
        refine ⟨h1, fun c => ?_⟩
        rw [h2]
        constructor
        · rintro ⟨p, hp, e⟩
          exact ⟨p, List.mem_append_left _ hp, e⟩
        · rintro ⟨p, hp, e⟩
          rw [List.mem_append, List.mem_singleton] at hp
          rcases hp with hp | rfl
          · exact ⟨p, hp, e⟩
          · rw [← e]
            exact (h2 _).1 hm
  have := key l.length (Nat.le_refl _)
  rwa [List.take_length] at this
theorem copies {x : AlgebraM} (hx : SmallP x) : (ords x.1.toNat x.1.toNat []).length = (once (fun p => codeL (ren x p).2) (ords x.1.toNat x.1.toNat [])).length * ((ords x.1.toNat x.1.toNat []).filter fun p => eqC (ren x p) x).length :=
  orbit_len hx (once_iff _ _).1 (once_iff _ _).2
end Go.Proofs.YtfnmkbpogbekpaaGreatDoor
namespace Go.Proofs.YtfnmkbpogbekpaaGreatDoor
open Go.RowKit
set_option linter.unusedVariables false

/-- The kernel of a map: each element's first mate. -/
def kerL (q : List Int) : List Int := q.map fun v => (posN q v : Int)
/-- The list of a renamed fact. -/
def rfL (k : Int) (V s : List Int) : List Int :=
  if k = 2 then comp V s
  else if k = 3 ∨ k = 5 then markL s.length fun y => hasI (y : Int) (comp V s)
  else if k = 4 then kerL (comp (inv s.length s) V)
  else if k = 6 then comp (comp (inv s.length s) V) s
  else V
/-! ## Sorted images -/
/-! ## Filled by the names -/
/-! ## Lists told by their numbers -/
end Go.Proofs.YtfnmkbpogbekpaaGreatDoor
namespace Go.Proofs.YtfnmkbpogbekpaaGreatDoor
open Go.RowKit

def bls (L : List Bool) : List Value := L.map fun b => .bool b
theorem bls_get {L : List Bool} {y : Nat} (h : y < L.length) : (bls L)[y]? = some (.bool (gB L y)) := by unfold bls; rw [List.getElem?_map, gB_at h]; rfl
theorem bls_set (L : List Bool) (y : Nat) (b : Bool) : (bls L).set y (.bool b) = bls (L.set y b) := by simp [bls, List.map_set]
theorem bls_rep (n : Nat) : bls (List.replicate n false) = List.replicate n (.bool false) := by simp [bls]
theorem info_bl : (Tryz.prog.info? 4).map (fun i => (i.zero, i.size, i.bytes)) = some (some (.bool false), 1, 1) := by kernel_rfl
theorem make_bl (w : World) {ops : Array Oper} {rest : List Oper} {o : Oper} {a : Act} {Q : Exit → Act → World → Prop} (hg : o.guard = none) (l c : Operand) (hop : o.op = Op.makeSlice 146 l c)
    (n : Nat) (hl : a.eval l = .int .i64 n) (hc : a.eval c = .int .i64 n) (b : n ≤ 17592186044416)
    (hK : ∀ w', w'.ownsRow w.heap.size 4 1 (.slice (some ⟨w.heap.size, 0, none⟩) n n) n (bls (List.replicate n false)) → w.grownBy w' none → wpList Tryz.prog ops Q rest (a.put o.dst (.slice (some ⟨w.heap.size, 0, none⟩) n n)) w') :
    wpList Tryz.prog ops Q (o :: rest) a w := by
  obtain ⟨i0, hi, hz0, hz1, hz2⟩ := info_parts info_bl
  refine wpList_make_full w hg l c 146 hop w.heap.size 4 i0 (.bool false) 1 Tryz.underlying146 hi hz0 hz1 .i64 .i64 n n n hl hc rfl rfl (by rw [hz2]; omega) (by unfold maxLen; omega) (Nat.le_refl _) ?_
  intro w' h1 h2
  refine hK w' ?_ h2
  have e : (madeCells (Value.bool false).cells (n * 1)).toList = List.replicate n (.bool false) := by rw [Nat.mul_one]; exact toList_madeCells_one (.bool false) n
  rw [bls_rep, ← e]
  exact h1
/-- The first k of a row of the call's own. -/
theorem own_take {w : World} {base : Nat} {e : TypeId} {A : Option Addr} {n c k : Nat} {xs : List Value} (h : w.ownsRow base e 1 (.slice A n c) n xs) (hk : k ≤ n) : w.ownsRow base e 1 (.slice A k c) k (xs.take k) := by
  obtain ⟨h1, h2⟩ := h
  refine ⟨by rw [List.length_take]; omega, ?_⟩
  rcases h2 with ⟨h2, h3⟩ | ⟨g, cap, cur, hv, hb, hg, hnc, hcm, hcs, ht⟩
  · left
    injection h2 with e1 e2 e3
    subst e1
    subst e3
    obtain rfl : k = 0 := by omega
    exact ⟨rfl, rfl⟩
  · right
    injection hv with e1 e2 e3
    subst e1
    subst e3
    refine ⟨g, _, cur, rfl, hb, hg, by omega, hcm, hcs, ?_⟩
    rw [← ht, List.take_take]
    congr 1
    omega
end Go.Proofs.YtfnmkbpogbekpaaGreatDoor
namespace Go.Proofs.YtfnmkbpogbekpaaGreatDoor
open Go.RowKit
set_option linter.unusedVariables false

/-- The marked numbers as a list of the call's own. -/
def OwI (w : World) (L : List Int) (e : Ending) (w' : World) : Prop := ∃ A c, e = .returned (.slice A L.length c) ∧ w'.ownsRow w.heap.size 3 1 (.slice A L.length c) L.length (ints L) ∧ Below w.heap.size w w'
theorem OwI.rd {w w' : World} {L : List Int} {e : Ending} (h : OwI w L e w') (hb : ∀ v ∈ L, -9223372036854775808 ≤ v ∧ v ≤ 9223372036854775807) : ∃ A c, e = .returned (.slice A L.length c) ∧ RdL RI w' A L.length L ∧ Below w.heap.size w w' := by
  obtain ⟨A, c, h1, h2, h3⟩ := h
  exact ⟨A, c, h1, rd_of_own (R := RI) h2 (RI_ints hb), h3⟩
set_option maxHeartbeats 1000000 in
theorem marked_any (A : Option Addr) (n c : Nat) (L : List Bool) (w : World) (h : RdL RB w A n L) (hn : n ≤ 1000) :
    Calls Tryz.prog 178 #[.slice A n c] w (OwI w (markL n (gB L))) := by
  have hT := below_box w (.cells #[] 3)
  have hlen := Lib.hid h.len
  go_enter Tryz.func178, Tryz.ntmps178
  go_wp2_with fail
  go_loopw [3, 4, 5, 9] (fun s _ _ i wr => ∃ (k m : Nat) (A1 : Option Addr) (c1 : Nat), k ≤ n ∧ i = .int .i64 k ∧ s = .slice A1 m c1 ∧ m = (markL k (gB L)).length ∧ wr.ownsRow w.heap.size 3 1 (.slice A1 m c1) m (ints (markL k (gB L))) ∧ Below w.heap.size w wr) (fun _ _ _ i _ => n - (intOf i).toNat)
  case atStart => exact ⟨0, 0, some ⟨w.heap.size, 0, none⟩, 0, Nat.zero_le _, rfl, rfl, rfl, World.ownsRow_lit w #[] 0 (Nat.le_refl _) (Nat.zero_le _) rfl, hT⟩
  case round =>
    obtain ⟨k, m, A1, c1, hk, rfl, rfl, hm, hown, hTr⟩ := hrel
    have hmk : m ≤ k := by rw [hm]; exact markL_le k (gB L)
    by_cases hlt : k < n
    · have hk0 : (0 : Int) ≤ (k : Int) := by omega
      have hk1 : (k : Int) < (n : Int) := by omega
      obtain ⟨b, o, u, v, rfl, hc, rfl, -, hx⟩ := (h.next stab_RB hTr).at hlt
      have HG := Lib.hid (gB_get hx)
      have HS := Lib.hid (markL_succ k (gB L))
      rw [HG.out] at HS
      have HMM := Lib.hid hm
      clear hx hm
      rcases v with _ | _
      · go_wp2_with fail
        go_roundw
        case rel => exact ⟨k + 1, m, A1, c1, by omega, by go_num, rfl, by rw [HS.out]; simpa using HMM.out, by rw [HS.out]; simpa using hown, hTr⟩
        case measure => simp [intOf]; omega
      · have hsz := hTr.size
        go_wp2_with (at_builtin; refine app1 wr rfl _ _ 43 3 rfl (.int .i64 0) 8 Tryz.underlying43 info_int rfl (by decide) w.heap.size m c1 A1 (ints (markL k (gB L))) rfl hown (.int .i64 (k : Int)) rfl rfl (by omega) (by omega) ?_; intro A2 c2 w2 hown2 hg2 hb2)
        go_roundw
        case rel => exact ⟨k + 1, m + 1, A2, c2, by omega, by go_num, rfl, by rw [HS.out]; simpa using HMM.out, by rw [HS.out]; simpa [ints] using hown2, hTr.trans hb2⟩
        case measure => simp [intOf]; omega
    · have hk1 : ¬ (k : Int) < (n : Int) := by omega
      obtain rfl : k = n := by omega
      have HMM := Lib.hid hm
      clear hm
      go_wp2_with fail
      go_ret
      exact ⟨A1, c1, by rw [HMM.out]; rfl, by rw [← HMM.out]; exact hown, hTr⟩
theorem inL_get {n y : Nat} {S : List Int} (h : y < n) : gB (inL n S) y = hasI (y : Int) S := by
  refine gB_get ?_
  unfold inL
  rw [List.getElem?_map, List.getElem?_range h]
  rfl
theorem inL_set {n k x : Nat} {S : List Int} (hx : S[k]? = some (x : Int)) (hxn : x < n) : (inL n (S.take k)).set x true = inL n (S.take (k + 1)) := by
  refine gB_ext (n := n) (by rw [List.length_set, inL_len]) (inL_len _ _) fun y hy => ?_
  rw [gB_set (by rw [inL_len]; exact hxn), inL_get hy, inL_get hy, List.take_add_one, hx]
  rw [Bool.eq_iff_iff]
  by_cases e : y = x
  · subst e; simp [hasI_m]
  · rw [if_neg e, hasI_m, hasI_m, List.mem_append]
    constructor
    · exact .inl
    · rintro (h | h)
      · exact h
      · simp at h; omega
end Go.Proofs.YtfnmkbpogbekpaaGreatDoor
namespace Go.Proofs.YtfnmkbpogbekpaaGreatDoor
open Go.RowKit
set_option linter.unusedVariables false

theorem keepM {w w' : World} {p : Addr} {v : Value} (hb : Below w.heap.size w w') (h : w.cell? p = some v) : w'.cell? p = some v := (hb.cell (cell_lt h)).trans h
theorem gk_set {w w' : World} {g : Nat} (h : w.grownBy w' (some g)) {p : Addr} (hp : p.block = g) (v : Value) : w.grownBy (w'.setCell p v) (some g) :=
  ⟨h.os, h.tape, h.output, by simpa using h.size, fun k hk hne => (Below.heap_setCell w' p v k (by intro he; rw [he, hp] at hne; exact hne rfl)).trans (h.block k hk hne)⟩
theorem gk_refl (w : World) (r : Option Nat) : w.grownBy w r := ⟨rfl, rfl, rfl, Nat.le_refl _, fun _ _ _ => rfl⟩
theorem gk_trans {w w1 w2 : World} {r : Option Nat} (h : w.grownBy w1 r) (k : w1.grownBy w2 r) : w.grownBy w2 r :=
  ⟨k.os.trans h.os, k.tape.trans h.tape, k.output.trans h.output, Nat.le_trans h.size k.size, fun b hb hne => (k.block b (Nat.lt_of_lt_of_le hb h.size) hne).trans (h.block b hb hne)⟩
theorem gk_of {w w' : World} {r : Option Nat} (h : Below w.heap.size w w') : w.grownBy w' r := ⟨h.os, h.tape, h.output, h.size, fun b hb _ => h.block b hb⟩
theorem gk_drewN {w w' : World} {r : Option Nat} (h : w.grownBy w' r) (z : Nat) : w.grownBy (w'.drewN z) r := ⟨h.os, h.tape, h.output, h.size, fun b hb hne => h.block b hb hne⟩
set_option maxHeartbeats 2000000 in
theorem marks_any (A : Option Addr) (m c n : Nat) (S : List Int) (w : World) (h : RdL RI w A m S) (hS : ∀ v ∈ S, 0 ≤ v ∧ v ≤ (n : Int) - 1) (hn : n ≤ 1000) :
    Calls Tryz.prog 180 #[.slice A m c, .int .i64 n] w fun e w' => e = .returned (.slice (some ⟨w.heap.size, 0, none⟩) n n) ∧ w'.ownsRow w.heap.size 4 1 (.slice (some ⟨w.heap.size, 0, none⟩) n n) n (bls (inL n S)) ∧ Below w.heap.size w w' := by
  have HS := Lib.hid hS
  have HL := Lib.hid h.len
  have hle := h.le
  clear hS
  go_enter Tryz.func180, Tryz.ntmps180
  go_wp2_with (at_make; refine make_bl w rfl _ _ rfl n rfl rfl (by omega) ?_; intro w1 hown1 hg1)
  have hb1 := (Below.refl w.heap.size w).grown hg1 (Nat.le_refl _) (by simp)
  clear hg1
  go_loopw [12] (fun i wr => ∃ k : Nat, k ≤ m ∧ i = .int .i64 k ∧ wr.ownsRow w.heap.size 4 1 (.slice (some ⟨w.heap.size, 0, none⟩) n n) n (bls (inL n (S.take k))) ∧ Below w.heap.size w wr) (fun i _ => m - (intOf i).toNat)
  case atStart =>
    refine ⟨0, Nat.zero_le _, rfl, ?_, hb1⟩
    have e : inL n (S.take 0) = List.replicate n false := by
      unfold inL
      rw [List.take_zero]
      exact List.eq_replicate_iff.2 ⟨by simp, fun b hb => by obtain ⟨y, -, rfl⟩ := List.mem_map.1 hb; rfl⟩
    rw [e]
    exact hown1
  case round =>
    clear hown1 hb1
    obtain ⟨k, hk, rfl, hown, hTr⟩ := hrel
    by_cases hlt : k < m
    · have hk0 : (0 : Int) ≤ (k : Int) := by omega
      have hk1 : (k : Int) < (m : Int) := by omega
      obtain ⟨b, o, u, v, rfl, hc, ⟨rfl, hv0, hv1⟩, -, hx⟩ := h.at hlt
      have hvi := HS.out v (List.mem_of_getElem? hx)
      obtain ⟨x, rfl⟩ := Int.eq_ofNat_of_zero_le hvi.1
      have hxn : x < n := by omega
      have HSET := Lib.hid (inL_set hx hxn)
      replace hc := keepM hTr hc
      have hcell : wr.cell? ⟨w.heap.size, x, none⟩ = some (.bool (gB (inL n (S.take k)) x)) := by rw [hown.cellAt x (by omega), bls_get (by rw [inL_len]; exact hxn)]
      have hfz := hown.frozenAt x
      have hst := (hown.stored x (.bool true)).1
      rw [bls_set, HSET.out] at hst
      have hx0 : (0 : Int) ≤ (x : Int) := by omega
      have hx1 : (x : Int) < (n : Int) := by omega
      clear hx hown
      go_wp2_with fail
      go_roundw
      case rel => exact ⟨k + 1, by omega, by go_num, hst, hTr.setCell (Nat.le_refl _) _⟩
      case measure => simp [intOf]; try omega
    · have hk1 : ¬ (k : Int) < (m : Int) := by omega
      rw [List.take_of_length_le (by rw [HL.out]; omega)] at hown
      go_wp2_with fail
      go_ret
      exact ⟨rfl, hown, hTr⟩
end Go.Proofs.YtfnmkbpogbekpaaGreatDoor
namespace Go.Proofs.YtfnmkbpogbekpaaGreatDoor
open Go.RowKit
set_option linter.unusedVariables false

theorem op_nat {n : Nat} {o : OpM} (h : OpP n o) : ∃ (a : Nat) (tb : List Int), o = ((a : Int), tb) ∧ a ≤ 3 := by
  obtain ⟨k, tb⟩ := o
  obtain ⟨a, ha⟩ := Int.eq_ofNat_of_zero_le h.1
  have h2 := h.2.1
  simp only at ha h2
  exact ⟨a, tb, by rw [ha], by omega⟩
set_option maxRecDepth 20000 in
set_option maxHeartbeats 4000000 in
theorem endOf_any (cs : List Value) (x : AlgebraM) (A : Option Addr) (n c : Nat) (t : List Int) (a0 : Nat) (w : World) (h : shAlgebra.rd w cs x) (ht : RdL RI w A n t) (N : Nat) (hops : ∀ o ∈ x.2, OpP N o) (hl : x.2.length ≤ 4) (hn : n ≤ 60) (ha : a0 ≤ n) :
    Calls Tryz.prog 215 #[.agg cs.toArray, .slice A n c, .int .i64 a0] w (Bl w (.int .i64 (endI x.2 t a0))) := by
  obtain ⟨a, ops⟩ := x
  obtain ⟨B, m, d, rfl, -, qo⟩ := rdAlgebra h
  have hml := qo.len
  have hm4 : m ≤ 4 := by simp only at hl hml; omega
  have HLN := Lib.hid ht.len
  obtain ⟨w0, hw0, T0, hsz0, BP⟩ := boxes1 w #[.int .i64 a, .slice B m d] 24
  have HW0 := Lib.hid hw0
  replace qo := qo.next T0
  replace ht := ht.next stab_RI T0
  have HM := Lib.hid hml
  have HOPS := Lib.hid hops
  clear hw0 hops hml hl h
  go_enter Tryz.func215, Tryz.ntmps215
  go_wp2_with fail
  rw [← HW0.out]
  go_loopw [2, 7, 8] (fun p q _ wr => ∃ k need : Nat, k ≤ n ∧ p = .int .i64 k ∧ q = .int .i64 need ∧ Hid (EnI ops t a0 k need) ∧ Below w0.heap.size w0 wr) (fun p _ _ _ => n - (intOf p).toNat)
  case atStart => exact ⟨a0, 1, ha, rfl, rfl, EnI.start _ _ _, Below.refl _ _⟩
  case round =>
    obtain ⟨k, need, hk, rfl, rfl, HE, hT⟩ := hrel
    have q' := qo.next hT
    have hneed : need ≤ 1000 := by have := HE.out.2.2; omega
    have cP := (BP.next hT).cell 1
    simp at cP
    rcases Nat.eq_zero_or_pos need with rfl | h0
    · have hn0 : ¬ (0 : Int) < ((0 : Nat) : Int) := by omega
      go_wp2_with fail
      go_ret
      exact ⟨ret_int HE.out.done.symm, below_next T0 hT rfl⟩
    · have hn0 : (0 : Int) < (need : Int) := by omega
      by_cases hlt : k < n
      · have hk0 : (0 : Int) ≤ (k : Int) := by omega
        have hk1 : (k : Int) < (n : Int) := by omega
        have hk2 : ¬ (n : Int) ≤ (k : Int) := by omega
        obtain ⟨b, o, u, v, rfl, hc, ⟨rfl, hv0, hv1⟩, -, hx⟩ := (ht.next stab_RI hT).at hlt
        have HX := Lib.hid hx
        clear hx
        by_cases h6 : 6 ≤ v
        · have HB : Hid (badV ops v = true) := by show _ = _; unfold badV; rw [decide_eq_true h6]; rfl
          go_wp2_with fail
          go_ret
          exact ⟨ret_int (HE.out.bad h0 HX.out HB.out).symm, below_next T0 hT rfl⟩
        · by_cases hlo : v < -(m : Int)
          · have HB : Hid (badV ops v = true) := by show _ = _; unfold badV; rw [HM.out, decide_eq_true hlo, Bool.or_true]
            go_wp2_with fail
            go_ret
            exact ⟨ret_int (HE.out.bad h0 HX.out HB.out).symm, below_next T0 hT rfl⟩
          · have HB : Hid (badV ops v = false) := by show _ = _; unfold badV; rw [HM.out, decide_eq_false hlo, decide_eq_false h6]; rfl
            by_cases hv : 0 ≤ v
            · have HN : Hid (EnI ops t a0 (k + 1) (need - 1)) := by
                have e : adV ops v = 0 := by unfold adV; rw [if_pos hv]
                have := HE.out.next h0 HX.out HB.out (by omega)
                rw [e] at this
                exact this
              go_wp2_with fail
              go_roundw
              case rel => exact ⟨k + 1, need - 1, by omega, by go_num, by go_num, HN, hT⟩
              case measure => simp [intOf]; omega
            · obtain ⟨ob, hob, hobP, ha1, -, hjl⟩ := op_at HOPS.out HB.out hv
              have h3 := adV_le HOPS.out HB.out
              have e : adV ops v = arF ops v := by unfold adV; rw [if_neg hv]
              rw [e] at h3
              have HN := Lib.hid (HE.out.next h0 HX.out HB.out (by omega))
              rw [e] at HN
              obtain ⟨ar, tb, rfl, har⟩ := op_nat hobP
              have ha2 : arF ops v = ar := by rw [ha1]; simp
              rw [ha2] at HN
              obtain ⟨j, hj⟩ : ∃ j, j = (-1 - v).toNat := ⟨_, rfl⟩
              rw [← hj] at hob hjl
              have hjm : j < m := by rw [← HM.out]; exact hjl
              obtain ⟨b2, o2, vs, y, rfl, -, hc2, hr2, -, hy⟩ := q'.at hjm
              rw [hob] at hy
              injection hy with hy
              subst hy
              obtain ⟨B', m', d', rfl, -, qt⟩ := rdOp hr2
              have cc0 : wr.cell? ⟨b2, o2 + j * 2, none⟩ = some (.int .i64 (ar : Int)) := hc2 0 _ rfl
              have ej : (-1 : Int) - v = (j : Int) := by omega
              have hj0 : (0 : Int) ≤ (j : Int) := by omega
              have hj1 : (j : Int) < (m : Int) := by omega
              clear hc2 hr2 hob hjl hj e ha1 ha2 hobP qt q'
              go_wp2_with fail
              go_roundw
              case rel => exact ⟨k + 1, need - 1 + ar, by omega, by go_num, by go_num, HN, hT⟩
              case measure => simp [intOf]; omega
      · have hk2 : (n : Int) ≤ (k : Int) := by omega
        go_wp2_with fail
        go_ret
        exact ⟨ret_int (HE.out.over h0 (by rw [HLN.out]; exact hlt)).symm, below_next T0 hT rfl⟩
set_option maxHeartbeats 1000000 in
theorem isTerm_any (cs : List Value) (x : AlgebraM) (A : Option Addr) (n c : Nat) (t : List Int) (w : World) (h : shAlgebra.rd w cs x) (ht : RdL RI w A n t) (N : Nat) (hops : ∀ o ∈ x.2, OpP N o) (hl : x.2.length ≤ 4) :
    Calls Tryz.prog 199 #[.agg cs.toArray, .slice A n c] w (Bl w (.bool (termB x.2 t))) := by
  have hle := ht.le
  have HLN := Lib.hid ht.len
  have hrd := h
  obtain ⟨B, m, d, rfl, -, qo⟩ := rdAlgebra h
  obtain ⟨w0, hw0, T0, hsz0, BP⟩ := boxes1 w #[.int .i64 x.1, .slice B m d] 24
  have HW0 := Lib.hid hw0
  replace hrd := shAlgebra.stab hrd T0.block
  replace ht := ht.next stab_RI T0
  have cP0 := BP.cell 0
  have cP1 := BP.cell 1
  simp at cP0 cP1
  rw [HW0.out] at cP0 cP1
  clear hw0 qo
  by_cases h60 : n ≤ 60
  · have h6 : (n : Int) ≤ 60 := by omega
    have HC := Lib.hid (endOf_any _ x A n c t 0 w0 hrd ht N hops hl h60 (by omega))
    have HR : Hid (termB x.2 t = decide (endI x.2 t 0 = (n : Int))) := by
      show _ = _
      unfold termB
      rw [HLN.out, decide_eq_true h60]
      rfl
    clear hops hl
    go_enter Tryz.func199, Tryz.ntmps199
    go_wp2_with fail
    rw [← HW0.out]
    refine HC.out.mono ?_
    rintro e w1 ⟨rfl, hb⟩
    go_wp2_with fail
    go_ret
    exact ⟨ret_bool (by rw [HR.out, Bool.eq_iff_iff]; simp), below_next T0 hb rfl⟩
  · have h6 : ¬ (n : Int) ≤ 60 := by omega
    have HR : Hid (termB x.2 t = false) := by show _ = _; unfold termB; rw [HLN.out, decide_eq_false h60]; rfl
    clear hops hl
    go_enter Tryz.func199, Tryz.ntmps199
    go_wp2_with fail
    go_ret
    exact ⟨ret_bool HR.out.symm, by first | exact below_box _ _ | (rw [← HW0.out]; exact T0)⟩
end Go.Proofs.YtfnmkbpogbekpaaGreatDoor
namespace Go.Proofs.YtfnmkbpogbekpaaGreatDoor
open Go.RowKit
set_option linter.unusedVariables false

end Go.Proofs.YtfnmkbpogbekpaaGreatDoor
namespace Go.Proofs.YtfnmkbpogbekpaaGreatDoor
open Go.RowKit
set_option linter.unusedVariables false

theorem evS_le {N : Nat} {ops : List OpM} {vals : List Int} : ∀ l : List Int, (evS N ops vals l).length ≤ l.length
  | [] => Nat.le_refl _
  | v :: l => by
    have ih := evS_le (N := N) (ops := ops) (vals := vals) l
    unfold evS
    split
    · simp only [List.length_cons]; omega
    · simp only [List.length_cons, List.length_drop]; omega
theorem ev_at {N : Nat} {ops : List OpM} {vals t : List Int} (hN : 0 < N) (hops : ∀ o ∈ ops, OpP N o) (hin : ∀ y ∈ vals, 0 ≤ y ∧ y ≤ (N : Int) - 1) (hT : termB ops t = true) (hvars : ∀ v ∈ t, v < (vals.length : Int)) {k : Nat} {v : Int} (hv : t[k]? = some v) :
    (0 ≤ v → ∃ y : Nat, vals[v.toNat]? = some (y : Int) ∧ y < N ∧ evS N ops vals (t.drop k) = y :: evS N ops vals (t.drop (k + 1))) ∧
    (¬ 0 ≤ v → ∃ (ar : Nat) (tb : List Int) (u : Nat), ops[(-1 - v).toNat]? = some ((ar : Int), tb) ∧ (-1 - v).toNat < ops.length ∧ ar ≤ 3 ∧ ar ≤ (evS N ops vals (t.drop (k + 1))).length ∧ (∀ d ∈ evS N ops vals (t.drop (k + 1)), d < N) ∧ tb[idx N ((evS N ops vals (t.drop (k + 1))).take ar)]? = some (u : Int) ∧ u < N ∧ evS N ops vals (t.drop k) = u :: (evS N ops vals (t.drop (k + 1))).drop ar) := by
  have hk := (List.getElem?_eq_some_iff.1 hv).1
  have e : t.drop k = v :: t.drop (k + 1) := by rw [List.drop_eq_getElem_cons hk, (List.getElem?_eq_some_iff.1 hv).2]
  obtain ⟨m, hg⟩ := GoodS.drop k (show GoodS ops t 1 from (term_end hT).2)
  rw [e] at hg ⊢
  obtain ⟨h0, hb, h1⟩ := hg.cons
  have hlt := evS_lt hN hops hin h1 fun x hx => hvars x (List.mem_of_mem_drop hx)
  refine ⟨fun h => ?_, fun h => ?_⟩
  · have hl : v.toNat < vals.length := by have := hvars v (List.mem_of_getElem? hv); omega
    have hy := hin _ (List.getElem_mem hl)
    obtain ⟨y, hy'⟩ := Int.eq_ofNat_of_zero_le hy.1
    have hy2 : vals[v.toNat]? = some (y : Int) := by rw [List.getElem?_eq_getElem hl, hy']
    exact ⟨y, hy2, by omega, evS_var h hy2⟩
  · obtain ⟨o, ho, hoP, ha, htb, hl⟩ := op_at hops hb h
    obtain ⟨ar, tb, rfl, h3⟩ := op_nat hoP
    have har : arF ops v = ar := by rw [ha]; simp
    have hroom := (hg.room (n := N) (vals := vals)).2 h
    rw [har] at hroom
    obtain ⟨u, hu, hun⟩ := tab_lt hN hoP (l := (evS N ops vals (t.drop (k + 1))).take ar) (by rw [List.length_take]; simp; omega) fun d hd => hlt d (List.mem_of_mem_take hd)
    refine ⟨ar, tb, u, ho, hl, h3, hroom, hlt, hu, hun, ?_⟩
    have := evS_op (n := N) (vals := vals) (l := t.drop (k + 1)) (o := ((ar : Int), tb)) (x := u) h ha htb (by simpa using hu)
    simpa using this
theorem take_rev {α : Type} (S : List α) (a : Nat) : S.reverse.take (S.length - a) = (S.drop a).reverse := by
  rw [List.take_reverse]
  congr 1
  by_cases h : a ≤ S.length
  · congr 1; omega
  · rw [List.drop_eq_nil_of_le (show S.length ≤ a by omega), List.drop_eq_nil_of_le (by omega)]
theorem rev_get {S : List Nat} {q d : Nat} (h : S[q]? = some d) : (ints (nats S.reverse))[S.length - 1 - q]? = some (.int .i64 (d : Int)) := by
  have hq := (List.getElem?_eq_some_iff.1 h).1
  unfold ints nats
  rw [List.getElem?_map, List.getElem?_map, List.getElem?_reverse (by omega), show S.length - 1 - (S.length - 1 - q) = q by omega, h]
  rfl
theorem nats_app (a b : List Nat) : nats (a ++ b) = nats a ++ nats b := by simp [nats]
theorem ints_app (a b : List Int) : ints (a ++ b) = ints a ++ ints b := by simp [ints]
theorem ints_take (a : List Int) (k : Nat) : (ints a).take k = ints (a.take k) := by simp [ints, List.map_take]
theorem nats_take (a : List Nat) (k : Nat) : (nats a).take k = nats (a.take k) := by simp [nats, List.map_take]
theorem idx_bd {N : Nat} (hN : N ≤ 8) {l : List Nat} (hl : l.length ≤ 3) (hd : ∀ d ∈ l, d < N) : idx N l ≤ 4096 := by
  have := idx_small hN (l := l) (by omega) hd
  omega
set_option maxRecDepth 20000 in
set_option maxHeartbeats 8000000 in
theorem eval_any (cs : List Value) (x : AlgebraM) (A B0 : Option Addr) (n c m0 c0 : Nat) (t vals : List Int) (w : World) (h : shAlgebra.rd w cs x) (hx : AlgP x) (ht : RdL RI w A n t) (hv : RdL RI w B0 m0 vals) (hT : termB x.2 t = true) (hvars : ∀ v ∈ t, v < (vals.length : Int)) (hin : ∀ y ∈ vals, 0 ≤ y ∧ y ≤ x.1 - 1) :
    Calls Tryz.prog 175 #[.agg cs.toArray, .slice A n c, .slice B0 m0 c0] w (Bl w (.int .i64 ((evT x.1.toNat x.2 vals t : Nat) : Int))) := by
  obtain ⟨a, ops⟩ := x
  obtain ⟨hx1, hx2, hx3, hx4⟩ := hx
  simp only at hx1 hx2 hx3 hx4 hT hin
  obtain ⟨N, rfl⟩ := Int.eq_ofNat_of_zero_le (show 0 ≤ a by omega)
  rw [Int.toNat_natCast] at hx4
  show Calls Tryz.prog 175 _ w (Bl w (.int .i64 ((evT (Int.toNat (N : Int)) ops vals t : Nat) : Int)))
  rw [Int.toNat_natCast]
  have hN0 : 0 < N := by omega
  have hN8 : N ≤ 8 := by omega
  obtain ⟨B, m, d, rfl, -, qo⟩ := rdAlgebra h
  have hml := qo.len
  simp only at hml
  have hm4 : m ≤ 4 := by omega
  have hn60 : n ≤ 60 := by have := (term_end hT).1; have := ht.len; omega
  have hn0 : 0 < n := by have := term_pos hT; have := ht.len; omega
  have HAT : Hid (∀ k v, t[k]? = some v → _) := fun k v hv => ev_at hN0 hx4 hin hT hvars hv
  have HE1 : Hid (∀ k, (evS N ops vals (t.drop k)).length ≤ 60) := fun k => by have := evS_le (N := N) (ops := ops) (vals := vals) (t.drop k); rw [List.length_drop] at this; have := ht.len; omega
  have HEN : Hid (evS N ops vals (t.drop n) = []) := by show _ = _; rw [List.drop_eq_nil_of_le (by rw [ht.len]; exact Nat.le_refl _)]; rfl
  have HE0 : Hid ((evS N ops vals (t.drop 0)).length = 1) := evS_len (show GoodS ops t 1 from (term_end hT).2)
  have HRES : Hid (evT N ops vals t = (evS N ops vals (t.drop 0)).headD 0) := rfl
  obtain ⟨E, hE⟩ : ∃ E : Nat → List Nat, (fun k => evS N ops vals (t.drop k)) = E := ⟨_, rfl⟩
  have hE' : ∀ k, evS N ops vals (t.drop k) = E k := fun k => congrFun hE k
  simp only [hE'] at HAT HE1 HEN HE0 HRES
  have HML := Lib.hid hml
  clear hE hE' hx4 hin hT hvars hx3 hml h
  obtain ⟨w0, hw0, T0, hsz0, BP⟩ := boxes1 w #[.int .i64 (N : Int), .slice B m d] 24
  have HW0 := Lib.hid hw0
  replace qo := qo.next T0
  replace ht := ht.next stab_RI T0
  replace hv := hv.next stab_RI T0
  clear hw0 hsz0
  go_enter Tryz.func175, Tryz.ntmps175
  obtain ⟨ii, hi, hz0, hz1, hz2⟩ := info_parts info_int
  go_upto_region 1 with fail
  rw [← HW0.out]
  go_wp2_with (at_make; refine wpList_make_own w0 rfl _ _ 43 rfl w0.heap.size 3 ii (.int .i64 0) 1 Tryz.underlying43 hi hz0 hz1 .i64 .i64 n n rfl rfl rfl (by rw [hz2]; omega) (by unfold maxLen; omega) (Nat.le_refl _) ?_; intro w1 hown1 hg1)
  have hb1 := (Below.refl w0.heap.size w0).grown hg1 (Nat.le_refl _) (by simp)
  clear hg1 hi hz0 hz1 hz2
  go_loopw [7, 8] (fun s i wr => ∃ (k q : Nat) (A1 : Option Addr) (c1 : Nat), k ≤ n ∧ i = .int .i64 ((k : Int) - 1) ∧ s = .slice A1 q c1 ∧ q = (E k).length ∧ wr.ownsRow w0.heap.size 3 1 (.slice A1 q c1) q (ints (nats (E k).reverse)) ∧ Below w0.heap.size w0 wr) (fun _ i _ => (intOf i + 1).toNat)
  case atStart =>
    refine ⟨n, 0, _, _, Nat.le_refl _, rfl, rfl, ?_, ?_, hb1⟩
    · rw [HEN.out]; rfl
    · rw [HEN.out]; exact hown1
  case round =>
    clear hown1 hb1
    obtain ⟨k, q, A1, c1, hk, rfl, rfl, hq, hown, hTr⟩ := hrel
    have hq60 : q ≤ 60 := by rw [hq]; exact HE1.out k
    have HQ := Lib.hid hq
    clear hq
    have cP0 := (BP.next hTr).cell 0
    have cP1 := (BP.next hTr).cell 1
    simp at cP0 cP1
    have hzr := hTr.size
    rcases k with _ | k
    · have h0 : ¬ (0 : Int) ≤ ((0 : Nat) : Int) - 1 := by omega
      obtain ⟨u, hu⟩ : ∃ u, E 0 = [u] := by
        have := HE0.out
        rcases e : E 0 with _ | ⟨u, _ | ⟨_, _⟩⟩
        · rw [e] at this; simp at this
        · exact ⟨u, rfl⟩
        · rw [e] at this; simp at this
      have hq1 : q = 1 := by rw [HQ.out, hu]; rfl
      subst hq1
      obtain ⟨g, rfl, -, -⟩ := own_form hown (by omega)
      have hc0 : wr.cell? ⟨g, 0, none⟩ = some (.int .i64 (u : Int)) := by
        rw [hown.cellAt 0 (by omega), hu]
        rfl
      have HR2 : Hid (evT N ops vals t = u) := by show _ = _; rw [HRES.out, hu]; rfl
      clear hown hu
      go_wp2_with fail
      go_ret
      exact ⟨ret_int (by rw [HR2.out]), below_next T0 hTr rfl⟩
    · have h0 : (0 : Int) ≤ ((k + 1 : Nat) : Int) - 1 := by omega
      have e1 : ((k + 1 : Nat) : Int) - 1 = (k : Int) := by omega
      rw [e1]
      clear h0 e1
      have hk0 : (0 : Int) ≤ (k : Int) := by omega
      have hk1 : (k : Int) < (n : Int) := by omega
      obtain ⟨b, o, uu, v, rfl, hc, ⟨rfl, hv0, hv1⟩, -, hxv⟩ := (ht.next stab_RI hTr).at (k := k) (by omega)
      obtain ⟨hA, hB⟩ := HAT.out k v hxv
      clear hxv
      by_cases h0v : 0 ≤ v
      · obtain ⟨y, hy, hyN, he⟩ := hA h0v
        obtain ⟨j, rfl⟩ := Int.eq_ofNat_of_zero_le h0v
        rw [Int.toNat_natCast] at hy
        have hjm : j < m0 := by rw [← hv.len]; exact (List.getElem?_eq_some_iff.1 hy).1
        obtain ⟨b2, o2, u2, y2, rfl, hc2, ⟨rfl, -, -⟩, -, hy2⟩ := (hv.next stab_RI hTr).at hjm
        rw [hy] at hy2
        injection hy2 with hy2
        subst hy2
        have hj1 : (j : Int) < (m0 : Int) := by omega
        have hj0 : (0 : Int) ≤ (j : Int) := by omega
        have HEK : Hid (E k = y :: E (k + 1)) := he
        clear he hA hB hy
        go_wp2_with (at_builtin; refine app1 wr rfl _ _ 43 3 rfl (.int .i64 0) 8 Tryz.underlying43 info_int rfl (by decide) w0.heap.size q c1 A1 _ rfl hown (.int .i64 (y : Int)) rfl rfl (by omega) (by omega) ?_; intro A2 c2 w2 hown2 hg2 hb2)
        go_roundw
        case rel => exact ⟨k, q + 1, A2, c2, by omega, by go_num, rfl, by rw [HEK.out, List.length_cons, ← HQ.out], by rw [HEK.out, List.reverse_cons, nats_app, ints_app]; exact hown2, hTr.trans hb2⟩
        case measure => simp [intOf]; try omega
      · obtain ⟨ar, tb, u, hob, hjl, h3, hroom, hdl, htu, huN, he⟩ := hB (by omega)
        clear hA hB
        obtain ⟨j, hj⟩ : ∃ j, j = (-1 - v).toNat := ⟨_, rfl⟩
        rw [← hj] at hob hjl
        have hjm : j < m := by rw [← HML.out]; exact hjl
        obtain ⟨b2, o2, vs, y, rfl, -, hc2, hr2, -, hy⟩ := (qo.next hTr).at hjm
        rw [hob] at hy
        injection hy with hy
        subst hy
        obtain ⟨B', m', d', rfl, -, qt⟩ := rdOp hr2
        have cc0 : wr.cell? ⟨b2, o2 + j * 2, none⟩ = some (.int .i64 (ar : Int)) := hc2 0 _ rfl
        have cc1 : wr.cell? ⟨b2, o2 + j * 2 + 1, none⟩ = some (.slice B' m' d') := hc2 1 _ rfl
        have ej : (-1 : Int) - v = (j : Int) := by omega
        have hj0 : (0 : Int) ≤ (j : Int) := by omega
        have hj1 : (j : Int) < (m : Int) := by omega
        have hvn : ¬ (0 : Int) ≤ v := h0v
        obtain ⟨S, HS⟩ : ∃ S, Hid (E (k + 1) = S) := ⟨_, rfl⟩
        rw [HS.out] at hroom hdl htu he hown
        have HEK := Lib.hid he
        have HQS : Hid (q = S.length) := by show _ = _; rw [HQ.out, HS.out]
        have har : ar ≤ q := by rw [HQS.out]; exact hroom
        have HDL := Lib.hid hdl
        have HTU := Lib.hid htu
        obtain ⟨w1, hw1, T1, hsz1, BX⟩ := boxes1 wr #[.int .i64 (ar : Int), .slice B' m' d'] 122
        have HW1 := Lib.hid hw1
        have hown1 := own_next hown T1
        have cP0 := ((BP.next hTr).next T1).cell 0
        have BX0 := BX.cell 0
        have BX1 := BX.cell 1
        simp at cP0 BX0 BX1
        have qt1 := qt.next stab_RI T1
        have hT1 := below_next hTr T1 rfl
        have hz1 : wr.heap.size < w1.heap.size := by omega
        have hz2 : wr.heap.size ≠ w1.heap.size := by omega
        clear hob hjl hj hr2 hc2 qt hroom hdl htu he hw1 hown HQ hsz1
        go_wp2_with fail
        rw [← HW1.out]
        go_loopw [11, 12] (fun at_ kk wi => ∃ p : Nat, p ≤ ar ∧ kk = .int .i64 p ∧ at_ = .int .i64 ((idx N (S.take p) : Nat) : Int) ∧ Drawn w1 wi) (fun _ kk _ => ar - (intOf kk).toNat)
        case atStart => exact ⟨0, Nat.zero_le _, rfl, rfl, Drawn.zero _⟩
        case round =>
          obtain ⟨p, hp, rfl, rfl, z, rfl⟩ := hrel
          obtain ⟨P, HP⟩ : ∃ P, Hid (idx N (S.take p) = P) := ⟨_, rfl⟩
          have hP : P ≤ 4096 := by rw [← HP.out]; exact idx_bd hN8 (by rw [List.length_take]; omega) fun d hd => HDL.out d (List.mem_of_mem_take hd)
          rw [HP.out]
          by_cases hlt : p < ar
          · have hpl : p < S.length := by have := HQS.out; omega
            have hSp : S[p]? = some S[p] := List.getElem?_eq_getElem hpl
            have hdN := HDL.out _ (List.getElem_mem hpl)
            generalize S[p] = d at hSp hdN
            have HT : Hid (idx N (S.take (p + 1)) = P * N + d) := by show _ = _; rw [idx_take hSp, HP.out]
            have hM : P * N ≤ 4096 * 8 := Nat.mul_le_mul hP hN8
            have hm0 : (0 : Int) ≤ (P : Int) * (N : Int) := by rw [← Int.natCast_mul]; omega
            have hm1 : (P : Int) * (N : Int) ≤ 32768 := by rw [← Int.natCast_mul]; omega
            have HEE : Hid ((P : Int) * (N : Int) = ((P * N : Nat) : Int)) := (Int.natCast_mul _ _).symm
            obtain ⟨g, rfl, -, -⟩ := own_form hown1 (by omega)
            obtain ⟨r, hr⟩ : ∃ r, r = q - 1 - p := ⟨_, rfl⟩
            have hcr : w1.cell? ⟨g, r, none⟩ = some (.int .i64 (d : Int)) := by
              rw [hown1.cellAt r (by omega), hr, HQS.out]
              exact rev_get hSp
            have er : (q : Int) - 1 - (p : Int) = (r : Int) := by omega
            have hr0 : (0 : Int) ≤ (r : Int) := by omega
            have hr1 : (r : Int) < (q : Int) := by omega
            have hp1 : (p : Int) < (ar : Int) := by omega
            have hp0 : (0 : Int) ≤ (p : Int) := by omega
            have hw1 : IntKind.i64.wrap ((P : Int) * (N : Int)) = (P : Int) * (N : Int) := by rw [IntKind.wrap_i64]; omega
            have hw2 : IntKind.i64.wrap ((P : Int) * (N : Int) + (d : Int)) = (P : Int) * (N : Int) + (d : Int) := by rw [IntKind.wrap_i64]; omega
            have hws1 : IntKind.i64.wrap ((q : Int) - 1) = (q : Int) - 1 := by rw [IntKind.wrap_i64]; omega
            have hws2 : IntKind.i64.wrap (r : Int) = (r : Int) := by rw [IntKind.wrap_i64]; omega
            clear hM hSp hr
            go_wp2_with fail
            go_quiet (fail)
            go_wp2_with fail
            go_roundw
            case rel => exact ⟨p + 1, by omega, by go_num, by rw [HT.out, HEE.out]; simp, (by first | exact Drawn.zero _ | exact Drawn.at_ _ _ | exact (Drawn.at_ _ _).more _ | exact ((Drawn.at_ _ _).more _).more _)⟩
            case measure => simp [intOf]; try omega
          · obtain rfl : p = ar := by omega
            have hp1 : ¬ (p : Int) < (p : Int) := by omega
            have htu := HTU.out
            rw [HP.out] at htu
            have hPm : P < m' := by rw [← qt1.len]; exact (List.getElem?_eq_some_iff.1 htu).1
            obtain ⟨b3, o3, u3, y3, rfl, hc3, ⟨rfl, -, -⟩, -, hy3⟩ := qt1.at hPm
            rw [htu] at hy3
            injection hy3 with hy3
            subst hy3
            have hP0 : (0 : Int) ≤ (P : Int) := by omega
            have hP1 : (P : Int) < (m' : Int) := by omega
            obtain ⟨s, hs⟩ : ∃ s, s = q - p := ⟨_, rfl⟩
            have hown3 := own_take hown1 (k := s) (by omega)
            rw [ints_take, nats_take, show s = S.length - p by rw [hs, HQS.out], take_rev, ← show s = S.length - p by rw [hs, HQS.out]] at hown3
            have hqc := sort_cap hown1
            have es : (q : Int) - (p : Int) = (s : Int) := by omega
            have hs0 : (0 : Int) ≤ (s : Int) := by omega
            have hs1 : (s : Int) ≤ (c1 : Int) := by omega
            have hs2 : (s : Int) ≤ (q : Int) := by omega
            have hs60 : s ≤ 60 := by omega
            have HSL : Hid (s + 1 = (E k).length) := by show _ = _; rw [HEK.out, List.length_cons, List.length_drop, hs, HQS.out]
            have hownd : ((w1.drewN z).drew).ownsRow w0.heap.size 3 1 (.slice A1 s c1) s (ints (nats (S.drop p).reverse)) := hown3
            have hzz : w0.heap.size ≤ ((w1.drewN z).drew).heap.size := hT1.size
            have hws2 : IntKind.i64.wrap (s : Int) = (s : Int) := by rw [IntKind.wrap_i64]; omega
            have cA : ((w1.drewN (z + 1)).alloc (.cells #[.int .i64 (u : Int)] 3)).cell? ⟨wr.heap.size, 0, none⟩ = some (.int .i64 (p : Int)) := keepc (w := w1.drewN (z + 1)) (below_box _ _) BX0
            clear hs hown3 htu HP
            go_wp2_with fail
            go_region_law (first
              | (refine step_app1 ((w1.drewN z).drew) rfl (.tmp 67) (.tmp 73) 43 3 rfl (.int .i64 0) 8 Tryz.underlying43 info_int rfl (by decide) w0.heap.size s c1 A1 (ints (nats (S.drop p).reverse)) (by rfl) hownd (.int .i64 (u : Int)) rfl (by rfl) (by omega) (by exact hzz) ?_; intro A5 c5 w5 hown5 hg5 hb5; have T5 : Below w0.heap.size w0 w5 := (hT1.trans (below_drewN (Below.refl _ _) z)).trans ((Below.drew (Below.refl _ _)).trans hb5)))
            all_goals
              go_wp2_with fail
              go_roundw
              case rel => exact ⟨k, s + 1, A5, c5, by omega, by go_num, rfl, HSL.out, by rw [HEK.out, List.reverse_cons, nats_app, ints_app]; exact hown5, T5⟩
              case measure => simp [intOf]; try omega
end Go.Proofs.YtfnmkbpogbekpaaGreatDoor
namespace Go.Proofs.YtfnmkbpogbekpaaGreatDoor
open Go.RowKit
set_option linter.unusedVariables false

end Go.Proofs.YtfnmkbpogbekpaaGreatDoor
namespace Go.Proofs.YtfnmkbpogbekpaaGreatDoor
open Go.RowKit
set_option linter.unusedVariables false

/-- Marked by the first k terms. -/
def vmTo (xss : List (List Int)) (k y : Nat) : Bool := (xss.take k).any fun t => hasI (y : Int) t
theorem vmTo_next {xss : List (List Int)} {k : Nat} {t : List Int} (h : xss[k]? = some t) (y : Nat) : vmTo xss (k + 1) y = (vmTo xss k y || varM t y) := by
  unfold vmTo varM
  rw [List.take_add_one, h]
  simp
theorem vmTo_two (L R : List Int) (y : Nat) : vmTo [L, R] 2 y = (varM L y || varM R y) := by
  unfold vmTo varM
  simp
set_option maxRecDepth 20000 in
set_option maxHeartbeats 4000000 in
theorem varsOf_any (A : Option Addr) (n c : Nat) (xss : List (List Int)) (w : World) (h : RdL (RV RI) w A n xss) (h6 : ∀ t ∈ xss, ∀ v ∈ t, v < 6) (hn : n ≤ 1000) :
    Calls Tryz.prog 174 #[.slice A n c] w (OwI w (markL 6 (vmTo xss n))) := by
  have H6 := Lib.hid h6
  clear h6
  go_enter Tryz.func174, Tryz.ntmps174
  go_wp2_with (at_make; refine make_bl w rfl _ _ rfl 6 rfl rfl (by omega) ?_; intro w1 hown1 hg1)
  have hb1 := (Below.refl w.heap.size w).grown hg1 (Nat.le_refl _) (by simp)
  clear hg1
  go_loopw [11] (fun i wr => ∃ (k : Nat) (H : List Bool), k ≤ n ∧ i = .int .i64 k ∧ H.length = 6 ∧ Hid (∀ y, y < 6 → gB H y = vmTo xss k y) ∧ wr.ownsRow w.heap.size 4 1 (.slice (some ⟨w.heap.size, 0, none⟩) 6 6) 6 (bls H) ∧ Below w.heap.size w wr) (fun i _ => n - (intOf i).toNat)
  case atStart => exact ⟨0, List.replicate 6 false, Nat.zero_le _, rfl, rfl, (fun y hy => gB_get (List.getElem?_replicate.trans (if_pos hy))), hown1, hb1⟩
  case round =>
    clear hown1 hb1
    obtain ⟨k, H, hk, rfl, hH6, HM, hown, hTr⟩ := hrel
    have hle := h.le
    by_cases hlt : k < n
    · have hk0 : (0 : Int) ≤ (k : Int) := by omega
      have hk1 : (k : Int) < (n : Int) := by omega
      obtain ⟨b, o, v, t, rfl, hc, ⟨B, m, d, rfl, ht⟩, -, hx⟩ := h.at hlt
      have HX := Lib.hid hx
      have HT6 := Lib.hid (H6.out t (List.mem_of_getElem? hx))
      have htl := ht.le
      have HTL := Lib.hid ht.len
      have hc1 := keepc hTr hc
      clear hx hc
      go_wp2_with fail
      go_loopw [17] (fun i wi => ∃ (q : Nat) (H : List Bool), q ≤ m ∧ i = .int .i64 q ∧ H.length = 6 ∧ Hid (∀ y, y < 6 → gB H y = (vmTo xss k y || varTo t q y)) ∧ wi.ownsRow w.heap.size 4 1 (.slice (some ⟨w.heap.size, 0, none⟩) 6 6) 6 (bls H) ∧ Below w.heap.size w wi) (fun i _ => m - (intOf i).toNat)
      case atStart => exact ⟨0, H, Nat.zero_le _, rfl, hH6, (fun y hy => by rw [HM.out y hy, varTo_zero, Bool.or_false]), hown, hTr⟩
      case round =>
        clear hown hH6 HM hTr hc1
        obtain ⟨q, H, hq, rfl, hH6, HM, hown, hTi⟩ := hrel
        by_cases hlq : q < m
        · have hq0 : (0 : Int) ≤ (q : Int) := by omega
          have hq1 : (q : Int) < (m : Int) := by omega
          obtain ⟨b2, o2, u, v, rfl, hc2, ⟨rfl, hv0, hv1⟩, -, hxv⟩ := ht.at hlq
          have hv6 := HT6.out v (List.mem_of_getElem? hxv)
          have HN := Lib.hid (varTo_next hxv)
          replace hc2 := keepc hTi hc2
          clear hxv
          by_cases h0 : 0 ≤ v
          · obtain ⟨x, rfl⟩ := Int.eq_ofNat_of_zero_le h0
            have hx6 : x < 6 := by omega
            have hcell : wr.cell? ⟨w.heap.size, x, none⟩ = some (.bool (gB H x)) := by rw [hown.cellAt x (by omega), bls_get (by omega)]
            have hfz : wr.frozen? ⟨w.heap.size, x, none⟩ = false := hown.frozenAt x
            have hst := (hown.stored x (.bool true)).1
            rw [bls_set] at hst
            have HM2 : Hid (∀ y, y < 6 → gB (H.set x true) y = (vmTo xss k y || varTo t (q + 1) y)) := fun y hy => by
              rw [gB_set (by omega), HN.out y]
              by_cases e : y = x
              · subst e; simp
              · rw [if_neg e, HM.out y hy, decide_eq_false (by omega)]; simp
            clear hown
            go_wp2_with fail
            go_roundw
            case rel => exact ⟨q + 1, H.set x true, by omega, by go_num, by rw [List.length_set]; exact hH6, HM2, hst, hTi.setCell (Nat.le_refl _) _⟩
            case measure => simp [intOf]; try omega
          · have HM2 : Hid (∀ y, y < 6 → gB H y = (vmTo xss k y || varTo t (q + 1) y)) := fun y hy => by
              rw [HN.out y, HM.out y hy, decide_eq_false (by omega)]; simp
            go_wp2_with fail
            go_roundw
            case rel => exact ⟨q + 1, H, by omega, by go_num, hH6, HM2, hown, hTi⟩
            case measure => simp [intOf]; try omega
        · have hq1 : ¬ (q : Int) < (m : Int) := by omega
          have HM2 : Hid (∀ y, y < 6 → gB H y = vmTo xss (k + 1) y) := fun y hy => by
            rw [HM.out y hy, vmTo_next HX.out, varTo_all (by rw [HTL.out]; omega)]
          go_wp2_with fail
          go_roundw
          case rel => exact ⟨k + 1, H, by omega, by go_num, hH6, HM2, hown, hTi⟩
          case measure => simp [intOf]; try omega
    · have hk1 : ¬ (k : Int) < (n : Int) := by omega
      obtain rfl : k = n := by omega
      have hrd := rd_of_own (R := RB) hown (fun x _ => rfl)
      have HR := Lib.hid (marked_any (some ⟨w.heap.size, 0, none⟩) 6 6 H wr hrd (by omega))
      have HE : Hid (markL 6 (gB H) = markL 6 (vmTo xss k)) := markL_congr HM.out
      rw [HE.out] at HR
      clear hown hrd
      go_wp2_with fail
      refine HR.out.mono ?_
      rintro e w2 ⟨A2, c2, rfl, ho2, hb2⟩
      go_wp2_with fail
      go_ret
      exact ⟨A2, c2, rfl, own_mono ho2 hTr.size, hTr.trans (hb2.mono hTr.size)⟩
end Go.Proofs.YtfnmkbpogbekpaaGreatDoor
namespace Go.Proofs.YtfnmkbpogbekpaaGreatDoor
open Go.RowKit
set_option linter.unusedVariables false

theorem pow6_bd {n k : Nat} (hn : n ≤ 8) (hk : k ≤ 6) : n ^ k ≤ 262144 := by
  have h1 : n ^ k ≤ 8 ^ k := Nat.pow_le_pow_left hn k
  have h2 : 8 ^ k ≤ 8 ^ 6 := Nat.pow_le_pow_right (by decide) hk
  exact Nat.le_trans h1 h2
set_option maxHeartbeats 400000 in
theorem power6_any (n k r : Nat) (w : World) (hr : n ^ k = r) (hn : n ≤ 8) (hk : k ≤ 6) :
    Calls Tryz.prog 141 #[.int .i64 n, .int .i64 k] w fun e w' => e = .returned (.int .i64 r) ∧ w = w' := by
  have HR := Lib.hid hr
  clear hr
  go_enter Tryz.func141, Tryz.ntmps141
  go_wp2
  go_loop [1, 5] (fun k' p => ∃ (j P : Nat), j ≤ k ∧ k' = .int .i64 j ∧ p = .int .i64 P ∧ Hid (P = n ^ (k - j))) (fun k' _ => (intOf k').toNat)
  case atStart => exact ⟨k, 1, Nat.le_refl _, rfl, rfl, by show _ = _; rw [Nat.sub_self, Nat.pow_zero]⟩
  case round =>
    obtain ⟨j, P, hj, rfl, rfl, HP⟩ := hrel
    by_cases hlt : 0 < j
    · have hP : P ≤ 262144 := by rw [HP.out]; exact pow6_bd hn (by omega)
      have hM : P * n ≤ 262144 * 8 := Nat.mul_le_mul hP hn
      have hm0 : (0 : Int) ≤ (P : Int) * (n : Int) := by rw [← Int.natCast_mul]; omega
      have hm1 : (P : Int) * (n : Int) ≤ 2097152 := by rw [← Int.natCast_mul]; omega
      have HE : Hid ((P : Int) * (n : Int) = ((P * n : Nat) : Int)) := (Int.natCast_mul _ _).symm
      have HF : Hid (P * n = n ^ (k - (j - 1))) := by show _ = _; rw [HP.out]; exact pow_step hlt hj
      have hj' : (0 : Int) < (j : Int) := by omega
      clear hM
      go_wp2
      go_round
      case rel => exact ⟨j - 1, P * n, by omega, by rw [show ((j - 1 : Nat) : Int) = (j : Int) - 1 by omega], by rw [HE.out], HF⟩
      case measure => simp [intOf]; try omega
    · have hj' : ¬ (0 : Int) < (j : Int) := by omega
      have hj0 : (j : Int) ≤ 0 := by omega
      go_wp2
      go_ret
      exact ⟨ret_int (by rw [HP.out, show k - j = k by omega, HR.out]), rfl⟩
theorem AlgP.ops {x : AlgebraM} (h : AlgP x) : ∀ o ∈ x.2, OpP x.1.toNat o := h.2.2.2
set_option maxHeartbeats 2000000 in
theorem isIdentity_any (cs ds : List Value) (x : AlgebraM) (e : IdentityM) (w : World) (h : shAlgebra.rd w cs x) (h' : shIdentity.rd w ds e) (hx : AlgP x) :
    Calls Tryz.prog 172 #[.agg cs.toArray, .agg ds.toArray] w (Bl w (.bool (termB x.2 e.1 && termB x.2 e.2))) := by
  have hrd := h
  obtain ⟨B, m, d, rfl, -, qo⟩ := rdAlgebra h
  obtain ⟨AL, nL, cL, AR, nR, cR, rfl, rL, rR⟩ := rdIdentity h'
  obtain ⟨w0, hw0, T0, hsz0, BP, BQ⟩ := boxes2 w #[.int .i64 x.1, .slice B m d] #[.slice AL nL cL, .slice AR nR cR] 24 55
  have HW0 := Lib.hid hw0
  have cP0 := BP.cell 0
  have cP1 := BP.cell 1
  have cQ0 := BQ.cell 0
  have cQ1 := BQ.cell 1
  simp at cP0 cP1 cQ0 cQ1
  rw [HW0.out] at cP0 cP1 cQ0 cQ1
  have HC1 := Lib.hid (isTerm_any _ x AL nL cL e.1 w0 (shAlgebra.stab hrd T0.block) (rL.next stab_RI T0) _ hx.ops hx.2.2.1)
  have HC2 := Lib.hid fun (wz : World) (hz : Below w0.heap.size w0 wz) => isTerm_any _ x AR nR cR e.2 wz (shAlgebra.stab (shAlgebra.stab hrd T0.block) hz.block) ((rR.next stab_RI T0).next stab_RI hz) _ hx.ops hx.2.2.1
  obtain ⟨b1, HB1⟩ : ∃ b, Hid (termB x.2 e.1 = b) := ⟨_, rfl⟩
  obtain ⟨b2, HB2⟩ : ∃ b, Hid (termB x.2 e.2 = b) := ⟨_, rfl⟩
  rw [HB1.out] at HC1
  rw [HB2.out] at HC2
  rw [HB1.out, HB2.out]
  clear hw0 hsz0 qo rL rR hrd
  go_enter Tryz.func172, Tryz.ntmps172
  go_wp2_with fail
  rw [← HW0.out]
  refine HC1.out.mono ?_
  rintro e w1 ⟨rfl, hb1⟩
  rw [← HW0.out] at cP0 cP1 cQ0 cQ1
  replace cP0 := keepc hb1 cP0
  replace cP1 := keepc hb1 cP1
  replace cQ1 := keepc hb1 cQ1
  clear cQ0
  rcases b1 with _ | _
  · go_wp2_with fail
    go_ret
    exact ⟨rfl, below_next T0 hb1 rfl⟩
  · go_wp2_with fail
    refine (HC2.out _ hb1).mono ?_
    rintro e w2 ⟨rfl, hb2⟩
    go_wp2_with fail
    go_ret
    exact ⟨rfl, below_next (below_next T0 hb1 rfl) hb2 rfl⟩
theorem rd_two (AL AR : Option Addr) (nL nR cL cR : Nat) (L R : List Int) (w0 : World) (t : TypeId) (rL : RdL RI w0 AL nL L) (rR : RdL RI w0 AR nR R) : RdL (RV RI) (w0.alloc (.cells #[.slice AL nL cL, .slice AR nR cR] t)) (some ⟨w0.heap.size, 0, none⟩) 2 [L, R] := by
  have hb := below_box w0 (.cells #[.slice AL nL cL, .slice AR nR cR] t)
  refine ⟨rfl, by unfold maxLen; omega, fun k s hk => ?_⟩
  rcases k with _ | _ | k
  · simp only [List.getElem?_cons_zero, Option.some.injEq] at hk
    subst hk
    exact ⟨w0.heap.size, 0, .slice AL nL cL, rfl, by simp, AL, nL, cL, rfl, rL.next stab_RI hb⟩
  · simp only [List.getElem?_cons_succ, List.getElem?_cons_zero, Option.some.injEq] at hk
    subst hk
    exact ⟨w0.heap.size, 0, .slice AR nR cR, rfl, by simp, AR, nR, cR, rfl, rR.next stab_RI hb⟩
  · simp at hk
/-- What counterOf answers. -/
def CtE (w : World) (ask : Bool) (hold : Prop) (e : Ending) (w' : World) : Prop := ∃ A n c, e = .returned (.tuple #[.slice A n c, .bool ask]) ∧ (ask = true → (hold ∧ A = none ∧ n = 0 ∧ c = 0) ∨ (¬ hold ∧ ∃ p, A = some p)) ∧ Below w.heap.size w w'
theorem Wb_zero (N : Nat) (vars : List Int) : ints (Wb N vars 0) = List.replicate (mxV vars) (.int .i64 0) := by rw [Wb, ints_rep]
set_option maxRecDepth 20000 in
set_option maxHeartbeats 8000000 in
theorem counterOf_any (cs ds : List Value) (x : AlgebraM) (e : IdentityM) (w : World) (h : shAlgebra.rd w cs x) (h' : shIdentity.rd w ds e) (hx : AlgP x) (hT1 : termB x.2 e.1 = true) (hT2 : termB x.2 e.2 = true) :
    Calls Tryz.prog 173 #[.agg cs.toArray, .agg ds.toArray] w (CtE w (askB x.1.toNat x.2 e.1 e.2) (HoldP x.1.toNat x.2 e.1 e.2)) := by
  have hrd := h
  have hx0 := hx
  obtain ⟨a, ops⟩ := x
  obtain ⟨L, R⟩ := e
  obtain ⟨hx1, hx2, hx3, hx4⟩ := hx
  simp only at hx1 hx2 hx3 hx4 hT1 hT2
  obtain ⟨N, rfl⟩ := Int.eq_ofNat_of_zero_le (show 0 ≤ a by omega)
  show Calls Tryz.prog 173 _ w (CtE w (askB (Int.toNat (N : Int)) ops L R) (HoldP (Int.toNat (N : Int)) ops L R))
  rw [Int.toNat_natCast]
  have hN0 : 0 < N := by omega
  have hN8 : N ≤ 8 := by omega
  obtain ⟨B, m, d, rfl, -, qo⟩ := rdAlgebra h
  obtain ⟨AL, nL, cL, AR, nR, cR, rfl, rL, rR⟩ := rdIdentity h'
  simp only at rL rR
  obtain ⟨vars, HVS⟩ : ∃ l, Hid (varsL L R = l) := ⟨_, rfl⟩
  obtain ⟨r, HPW⟩ : ∃ r, Hid (N ^ vars.length = r) := ⟨_, rfl⟩
  have HV6 : Hid (vars.length ≤ 6) := by show _ ≤ 6; rw [← HVS.out]; exact vars_le L R
  have HVI : Hid (∀ v ∈ vars, 0 ≤ v ∧ v ≤ 5) := by rw [← HVS.out]; exact vars_in L R
  have HVM : Hid (∀ v ∈ vars, v < (mxV vars : Int)) := by rw [← HVS.out]; exact fun v hv => vars_mx hv
  have HM6 : Hid (mxV vars ≤ 6) := by show _ ≤ 6; rw [← HVS.out]; exact mx_le L R
  have HVL : Hid (∀ v ∈ L, v < (mxV vars : Int)) := by rw [← HVS.out]; exact fun v hv => var_lt hT1 hT2 (.inl hv)
  have HVR : Hid (∀ v ∈ R, v < (mxV vars : Int)) := by rw [← HVS.out]; exact fun v hv => var_lt hT1 hT2 (.inr hv)
  have HASK : Hid (askB N ops L R = decide (r ≤ 5000)) := by
    show _ = _
    unfold askB
    rw [hT1, hT2, HVS.out, HPW.out]
    rfl
  have HHOLD : Hid (HoldP N ops L R ↔ ∀ i, i < r → evT N ops (Wb N vars (i + 1)) L = evT N ops (Wb N vars (i + 1)) R) := by
    show _ ↔ _
    unfold HoldP TryP
    rw [HVS.out, HPW.out]
  rw [HASK.out]
  obtain ⟨w0, hw0, T0, hsz0, BP, BQ⟩ := boxes2 w #[.int .i64 (N : Int), .slice B m d] #[.slice AL nL cL, .slice AR nR cR] 24 55
  have HW0 := Lib.hid hw0
  have HRD : Hid (∀ wz, Below w0.heap.size w0 wz → shAlgebra.rd wz [.int .i64 (N : Int), .slice B m d] ((N : Int), ops)) := fun wz hz => shAlgebra.stab (shAlgebra.stab hrd T0.block) hz.block
  have HL := Lib.hid (rL.next stab_RI T0)
  have HR := Lib.hid (rR.next stab_RI T0)
  have HX0 := Lib.hid hx0
  have HT1 := Lib.hid hT1
  have HT2 := Lib.hid hT2
  -- the two lists handed to varsOf
  have T1 := below_box w0 (.cells #[.slice AL nL cL, .slice AR nR cR] 43)
  have HV := Lib.hid (varsOf_any (some ⟨w0.heap.size, 0, none⟩) 2 2 [L, R] _ (rd_two AL AR nL nR cL cR L R w0 43 HL.out HR.out) (fun t ht v hv => by
    rcases List.mem_cons.1 ht with rfl | ht
    · exact (badV_parts (term_mem hT1 v hv)).1
    · rw [List.mem_singleton] at ht
      subst ht
      exact (badV_parts (term_mem hT2 v hv)).1) (by omega))
  have HVE : Hid (markL 6 (vmTo [L, R] 2) = vars) := by show _ = _; rw [← HVS.out]; exact markL_congr fun y hy => vmTo_two L R y
  rw [HVE.out] at HV
  have cP0 := BP.cell 0
  have cP1 := BP.cell 1
  have cQ0 := BQ.cell 0
  have cQ1 := BQ.cell 1
  simp at cP0 cP1 cQ0 cQ1
  clear hw0 hsz0 hrd hx0 hx4 hT1 hT2 hx3 rL rR qo h h'
  go_enter Tryz.func173, Tryz.ntmps173
  go_upto_region 1 with fail
  rw [← HW0.out]
  go_wp2_with fail
  refine HV.out.mono ?_
  rintro e w2 ⟨A6, c6, rfl, ho6, hb2⟩
  have r6 := rd_of_own (R := RI) ho6 (RI_ints fun v hv => by have := HVI.out v hv; omega)
  have T2 := below_next T1 hb2 rfl
  replace cP0 := keepc T2 cP0
  replace cP1 := keepc T2 cP1
  replace cQ0 := keepc T2 cQ0
  replace cQ1 := keepc T2 cQ1
  obtain ⟨q, HQ⟩ : ∃ q, Hid (vars.length = q) := ⟨_, rfl⟩
  rw [HQ.out] at r6 HPW HV6 ⊢
  have hq6 := HV6.out
  clear ho6
  go_wp2_with fail
  refine (power6_any N q r w2 HPW.out hN8 HV6.out).mono ?_
  rintro e w3 ⟨rfl, rfl⟩
  by_cases h5 : 5000 < r
  · have hr5 : (5000 : Int) < (r : Int) := by omega
    go_wp2_with fail
    go_ret2
    exact ⟨none, 0, 0, by rw [decide_eq_false (show ¬ r ≤ 5000 by omega)]; rfl, (fun h => by rw [decide_eq_false (show ¬ r ≤ 5000 by omega)] at h; cases h), below_next T0 T2 rfl⟩
  have hr5 : ¬ (5000 : Int) < (r : Int) := by omega
  obtain ⟨mx, HMX⟩ : ∃ mx, Hid (mxV vars = mx) := ⟨_, rfl⟩
  rw [HMX.out] at HM6 HVM HVL HVR
  have hm6 := HM6.out
  have HWL : Hid (∀ i, (Wb N vars i).length = mx) := fun i => by rw [Wb_len, HMX.out]
  have T3 := below_box w2 (.cells #[] 3)
  have hz2 := T3.size
  go_upto_if 28 with fail
  go_cut [8, 28] from 29 to 36 (fun u8 _ wx => ∃ gV cV, u8 = .slice (some ⟨gV, 0, none⟩) mx cV ∧ wx.ownsRow w2.heap.size 3 1 (.slice (some ⟨gV, 0, none⟩) mx cV) mx (ints (Wb N vars 0)) ∧ Below w2.heap.size w2 wx)
  case first =>
    rcases Nat.eq_zero_or_pos q with h0 | h0
    · have hv0 : vars = [] := List.eq_nil_of_length_eq_zero (by rw [HQ.out]; exact h0)
      have hm0 : mx = 0 := by rw [← HMX.out, hv0]; rfl
      subst h0
      subst hm0
      have HO : Hid ((w2.alloc (.cells #[] 3)).ownsRow w2.heap.size 3 1 (.slice (some ⟨w2.heap.size, 0, none⟩) 0 0) 0 (ints (Wb N vars 0))) := by
        have e : Wb N vars 0 = [] := List.eq_nil_of_length_eq_zero (HWL.out 0)
        show World.ownsRow _ _ _ _ _ _ _
        rw [e]
        exact World.ownsRow_lit w2 #[] 0 (Nat.le_refl _) (Nat.zero_le _) rfl
      go_wp2_with fail
      go_meet
      exact ⟨_, _, rfl, HO.out, T3⟩
    · have hq0 : (0 : Int) < (q : Int) := by omega
      have hlast : vars[q - 1]? = vars.getLast? := by rw [List.getLast?_eq_getElem?, HQ.out]
      obtain ⟨b, o, vv, v, rfl, hc, ⟨rfl, hv0, hv1⟩, -, hxv⟩ := r6.at (k := q - 1) (by omega)
      have hvi := HVI.out v (List.mem_of_getElem? hxv)
      have hmx : (mx : Int) = v + 1 := by rw [← HMX.out]; exact mx_last (hlast ▸ hxv) hvi.1
      obtain ⟨p, hp⟩ : ∃ p, p = q - 1 := ⟨_, rfl⟩
      rw [← hp] at hc
      have ep : (q : Int) - 1 = (p : Int) := by omega
      have hp0 : (0 : Int) ≤ (p : Int) := by omega
      have hp1 : (p : Int) < (q : Int) := by omega
      have em : v + 1 = (mx : Int) := by omega
      have hc3 := keepc T3 hc
      clear hc hlast hxv hp hmx
      go_wp2_with (at_make; refine make_ints _ rfl _ _ rfl mx rfl rfl (by omega) ?_; intro w4 hown4 hg4)
      go_meet
      have hT4 : Below w2.heap.size w2 w4 := T3.trans ((Below.refl _ _).grown hg4 hz2 (by simp))
      exact ⟨_, _, rfl, by rw [Wb_zero, HMX.out]; have h4 := hown4; rw [World.size_alloc] at h4; exact own_mono h4 (by omega), hT4⟩
  case rest =>
    obtain ⟨gV, cV, rfl, hV, hT3⟩ := hcut
    obtain ⟨w3, HWC⟩ : ∃ wq : World, wq = wc := ⟨_, rfl⟩
    subst HWC
    clear T3 hz2
    go_wp2_with fail
    go_loopw [9] (fun i wr => ∃ k : Nat, k ≤ r ∧ i = .int .i64 k ∧ Hid (∀ i, i < k → evT N ops (Wb N vars (i + 1)) L = evT N ops (Wb N vars (i + 1)) R) ∧ wr.ownsRow w2.heap.size 3 1 (.slice (some ⟨gV, 0, none⟩) mx cV) mx (ints (Wb N vars k)) ∧ Below w2.heap.size w2 wr) (fun i _ => r - (intOf i).toNat)
    case atStart => exact ⟨0, Nat.zero_le _, rfl, (fun i hi => absurd hi (by omega)), hV, hT3⟩
    case round =>
      clear hV hT3
      obtain ⟨k, hk, rfl, HALL, hV, hTr⟩ := hrel
      have kP0 := keepc hTr cP0
      by_cases hlt : k < r
      · have hk0 : (0 : Int) ≤ (k : Int) := by omega
        have hk1 : (k : Int) < (r : Int) := by omega
        have HA := Lib.hid (argsAt_any k q N wr hN0 (by omega) (by omega) (by omega))
        have hgV := (hV.lt gV rfl)
        go_wp2_with fail
        refine HA.out.mono ?_
        rintro e w4 ⟨g, rfl, hoA, hb4⟩
        have hgA := hoA.lt g rfl
        have hV4 := own_next hV hb4
        have hT4 : Below w2.heap.size w2 w4 := hTr.trans (hb4.mono hTr.size)
        obtain ⟨ds, HDS⟩ : ∃ ds, Hid (digs N q k = ds) := ⟨_, rfl⟩
        have HDL : Hid (ds.length = q) := by show _ = _; rw [← HDS.out, digs_len]
        have HDN : Hid (∀ dd ∈ ds, dd < N) := fun dd hdd => by rw [← HDS.out] at hdd; exact digs_lt hN0 hdd
        rw [HDS.out] at hoA
        have hgg : g ≠ gV := by omega
        clear hV kP0 HA
        go_wp2_with fail
        go_loopw [49] (fun j wi => ∃ p : Nat, p ≤ q ∧ j = .int .i64 p ∧ wi.ownsRow wr.heap.size 3 1 (.slice (some ⟨g, 0, none⟩) q q) q (ints (nats ds)) ∧ wi.ownsRow w2.heap.size 3 1 (.slice (some ⟨gV, 0, none⟩) mx cV) mx (ints (setV vars ds p (Wb N vars k))) ∧ Below w2.heap.size w2 wi) (fun j _ => q - (intOf j).toNat)
        case atStart => exact ⟨0, Nat.zero_le _, rfl, hoA, hV4, hT4⟩
        case round =>
          clear hoA hV4 hT4 hTr hb4
          obtain ⟨p, hp, rfl, hoA, hV, hTi⟩ := hrel
          by_cases hlp : p < q
          · have hp0 : (0 : Int) ≤ (p : Int) := by omega
            have hp1 : (p : Int) < (q : Int) := by omega
            obtain ⟨b, o, vv, v, rfl, hc, ⟨rfl, hv0, hv1⟩, -, hxv⟩ := r6.at hlp
            have hvi := HVI.out v (List.mem_of_getElem? hxv)
            have hvm := HVM.out v (List.mem_of_getElem? hxv)
            obtain ⟨y, rfl⟩ := Int.eq_ofNat_of_zero_le hvi.1
            have hym : y < mx := by omega
            have hpl : p < ds.length := by rw [HDL.out]; exact hlp
            have hdp : ds[p]? = some ds[p] := List.getElem?_eq_getElem hpl
            have hdn := HDN.out _ (List.getElem_mem hpl)
            generalize ds[p] = dd at hdp hdn
            have hcd : wr.cell? ⟨g, p, none⟩ = some (.int .i64 (dd : Int)) := by
              rw [hoA.cellAt p (by omega)]
              unfold ints nats
              rw [List.getElem?_map, List.getElem?_map, hdp]
              rfl
            have hSL : (setV vars ds p (Wb N vars k)).length = mx := by rw [setV_len, HWL.out]
            have hcell : ∃ u, wr.cell? ⟨gV, y, none⟩ = some u := ⟨_, (hV.cellAt y (by omega)).trans (List.getElem?_eq_getElem (by rw [ints_len]; omega))⟩
            obtain ⟨u, hcell⟩ := hcell
            have hfz := hV.frozenAt y
            have hst := (hV.stored y (.int .i64 (dd : Int))).1
            rw [ints_set] at hst
            have HSET : Hid (setV vars ds (p + 1) (Wb N vars k) = (setV vars ds p (Wb N vars k)).set y (dd : Int)) := by
              show _ = _
              rw [setV, List.getD_eq_getElem?_getD, hxv, List.getD_eq_getElem?_getD, hdp]
              simp
            replace hc := keepc hTi hc
            have hoA2 := own_set hoA (p := ⟨gV, y, none⟩) (by simp [Value.ownBlock]; exact hgg) (.int .i64 (dd : Int))
            have hy0 : (0 : Int) ≤ (y : Int) := by omega
            have hy1 : (y : Int) < (mx : Int) := by omega
            clear hxv hdp hoA hV hvm
            go_wp2_with fail
            go_roundw
            case rel => exact ⟨p + 1, by omega, by go_num, hoA2, by rw [HSET.out]; exact hst, hTi.setCell hgV.1 _⟩
            case measure => simp [intOf]; try omega
          · obtain rfl : p = q := by omega
            have hp1 : ¬ (p : Int) < (p : Int) := by omega
            have HW1 : Hid (setV vars ds p (Wb N vars k) = Wb N vars (k + 1)) := by show _ = _; rw [Wb, HQ.out, HDS.out]
            rw [HW1.out] at hV
            have rV := rd_of_own (R := RI) hV (RI_ints fun v hv => by have := Wb_in hN0 vars (k + 1) v hv; omega)
            have TT := below_next T2 hTi rfl
            obtain ⟨eL, HEL⟩ : ∃ e, Hid (evT N ops (Wb N vars (k + 1)) L = e) := ⟨_, rfl⟩
            obtain ⟨eR, HER⟩ : ∃ e, Hid (evT N ops (Wb N vars (k + 1)) R = e) := ⟨_, rfl⟩
            have HC1 : Hid (∀ wz, Below wr.heap.size wr wz → Calls Tryz.prog 175 #[.agg #[.int .i64 (N : Int), .slice B m d], .slice AL nL cL, .slice (some ⟨gV, 0, none⟩) mx cV] wz (Bl wz (.int .i64 (eL : Int)))) := fun wz hz => by
              have := eval_any _ _ AL (some ⟨gV, 0, none⟩) nL cL mx cV L (Wb N vars (k + 1)) wz (HRD.out wz (below_next TT hz rfl)) HX0.out ((HL.out.next stab_RI TT).next stab_RI hz) (rV.next stab_RI hz) HT1.out (fun v hv => by rw [HWL.out]; exact HVL.out v hv) (fun y hy => Wb_in hN0 vars (k + 1) y hy)
              simp only [Int.toNat_natCast] at this
              rwa [HEL.out] at this
            have HC2 : Hid (∀ wz, Below wr.heap.size wr wz → Calls Tryz.prog 175 #[.agg #[.int .i64 (N : Int), .slice B m d], .slice AR nR cR, .slice (some ⟨gV, 0, none⟩) mx cV] wz (Bl wz (.int .i64 (eR : Int)))) := fun wz hz => by
              have := eval_any _ _ AR (some ⟨gV, 0, none⟩) nR cR mx cV R (Wb N vars (k + 1)) wz (HRD.out wz (below_next TT hz rfl)) HX0.out ((HR.out.next stab_RI TT).next stab_RI hz) (rV.next stab_RI hz) HT2.out (fun v hv => by rw [HWL.out]; exact HVR.out v hv) (fun y hy => Wb_in hN0 vars (k + 1) y hy)
              simp only [Int.toNat_natCast] at this
              rwa [HER.out] at this
            have dP0 := keepc hTi cP0
            have dP1 := keepc hTi cP1
            have dQ0 := keepc hTi cQ0
            have dQ1 := keepc hTi cQ1
            obtain ⟨bb, HBB⟩ : ∃ b, Hid (((eL : Int) != (eR : Int)) = b) := ⟨_, rfl⟩
            have Tk : Below wr.heap.size wr wr := Below.refl _ _
            clear rV hoA
            go_upto_region 16 with fail
            go_cut [72] from 62 to 73 (fun u72 wx => u72 = .bool bb ∧ Below wr.heap.size wr wx)
            case first =>
              go_region_held3 (fun w' => w'.cell? ⟨w.heap.size, 0, none⟩ = some (.int .i64 (N : Int)) ∧ w'.cell? ⟨w.heap.size, 1, none⟩ = some (.slice B m d) ∧ w'.cell? ⟨w.heap.size + 1, 0, none⟩ = some (.slice AL nL cL) ∧ w'.cell? ⟨w.heap.size + 1, 1, none⟩ = some (.slice AR nR cR)) (first | go_keep | exact ⟨keepc Tk dP0, keepc Tk dP1, keepc Tk dQ0, keepc Tk dQ1⟩) (first
                | (go_at_call 175; (with_reducible refine (HC1.out _ ?_).mono ?_); (first | exact Tk | exact Below.drew Tk); rintro e wn ⟨rfl, hbn⟩; replace Tk := below_next (by first | exact Tk | exact Below.drew Tk) hbn rfl)
                | (go_at_call 175; (with_reducible refine (HC2.out _ ?_).mono ?_); (first | exact Tk | exact Below.drew Tk); rintro e wn ⟨rfl, hbn⟩; replace Tk := below_next (by first | exact Tk | exact Below.drew Tk) hbn rfl))
              all_goals
                go_wp2_with fail
                go_meet
                exact ⟨by rw [← HBB.out], by first | exact Tk | exact Below.drew Tk⟩
            case rest =>
              obtain ⟨rfl, hTc⟩ := hcut
              have hTn := below_next hTi hTc rfl
              have hVc := own_next hV hTc
              obtain ⟨w9, HWC⟩ : ∃ wq : World, wq = wc := ⟨_, rfl⟩
              subst HWC
              rcases bb with _ | _
              · have HEQ : Hid (evT N ops (Wb N vars (k + 1)) L = evT N ops (Wb N vars (k + 1)) R) := by
                  show _ = _
                  have := HBB.out
                  rw [HEL.out, HER.out]
                  have h2 : (eL : Int) = (eR : Int) := by simpa using this
                  omega
                have HALL2 : Hid (∀ i, i < k + 1 → evT N ops (Wb N vars (i + 1)) L = evT N ops (Wb N vars (i + 1)) R) := fun i hi => by
                  by_cases e : i = k
                  · subst e; exact HEQ.out
                  · exact HALL.out i (by omega)
                go_wp2_with fail
                go_roundw
                case rel => exact ⟨k + 1, by omega, by go_num, HALL2, hVc, hTn⟩
                case measure => simp [intOf]; try omega
              · have HNE : Hid (¬ HoldP N ops L R) := fun hh => by
                  have h1 := HHOLD.out.1 hh k hlt
                  have := HBB.out
                  rw [HEL.out, HER.out] at h1
                  rw [h1] at this
                  simp at this
                go_wp2_with fail
                go_ret2
                exact ⟨_, _, _, by rw [decide_eq_true (show r ≤ 5000 by omega)]; rfl, fun _ => .inr ⟨HNE.out, _, rfl⟩, below_next T0 (below_next T2 hTn rfl) rfl⟩
      · have hk1 : ¬ (k : Int) < (r : Int) := by omega
        have HYES : Hid (HoldP N ops L R) := HHOLD.out.2 fun i hi => HALL.out i (by omega)
        go_wp2_with fail
        go_ret2
        exact ⟨_, _, _, by rw [decide_eq_true (show r ≤ 5000 by omega)]; rfl, fun _ => .inl ⟨HYES.out, rfl, rfl, rfl⟩, below_next T0 (below_next T2 hTr rfl) rfl⟩
end Go.Proofs.YtfnmkbpogbekpaaGreatDoor
namespace Go.Proofs.YtfnmkbpogbekpaaGreatDoor
open Go.RowKit
set_option linter.unusedVariables false

set_option maxRecDepth 20000 in
theorem nil_eq (w : World) : (binOp BinOp.eql 43 (Value.slice none 0 0) (Value.slice none 0 0)).run Tryz.prog w = .ok (.bool true) w := by rfl
set_option maxRecDepth 20000 in
theorem nil_ne (w : World) (p : Addr) (n c : Nat) : (binOp BinOp.eql 43 (Value.slice (some p) n c) (Value.slice none 0 0)).run Tryz.prog w = .ok (.bool false) w := by rfl
theorem ret_b2 {a b c d : Bool} (h : a = c) (h' : b = d) : Ending.returned (.tuple #[.bool a, .bool b]) = .returned (.tuple #[.bool c, .bool d]) := by rw [h, h']
theorem ask_terms {n : Nat} {ops : List OpM} {L R : List Int} (h : askB n ops L R = true) : termB ops L = true ∧ termB ops R = true := by
  unfold askB at h
  rw [Bool.and_eq_true, Bool.and_eq_true] at h
  exact h.1
set_option maxRecDepth 20000 in
set_option maxHeartbeats 4000000 in
theorem doesHold_any (cs ds : List Value) (x : AlgebraM) (e : IdentityM) (w : World) (h : shAlgebra.rd w cs x) (h' : shIdentity.rd w ds e) (hx : AlgP x) :
    Calls Tryz.prog 126 #[.agg cs.toArray, .agg ds.toArray] w (Bl w (.tuple #[.bool (holdB x.1.toNat x.2 e.1 e.2), .bool (askB x.1.toNat x.2 e.1 e.2)])) := by
  have hrd := h
  have hrd' := h'
  obtain ⟨B, m, d, rfl, -, qo⟩ := rdAlgebra h
  obtain ⟨AL, nL, cL, AR, nR, cR, rfl, rL, rR⟩ := rdIdentity h'
  obtain ⟨w0, hw0, T0, hsz0, BP, BQ⟩ := boxes2 w #[.int .i64 x.1, .slice B m d] #[.slice AL nL cL, .slice AR nR cR] 24 55
  have HW0 := Lib.hid hw0
  have H1 : Hid (∀ wz, Below w0.heap.size w0 wz → shAlgebra.rd wz [.int .i64 x.1, .slice B m d] x) := fun wz hz => shAlgebra.stab (shAlgebra.stab hrd T0.block) hz.block
  have H2 : Hid (∀ wz, Below w0.heap.size w0 wz → shIdentity.rd wz [.slice AL nL cL, .slice AR nR cR] e) := fun wz hz => shIdentity.stab (shIdentity.stab hrd' T0.block) hz.block
  have HX := Lib.hid hx
  have HA := Lib.hid (isAlgebra_any _ x w0 (H1.out _ (Below.refl _ _)))
  rw [alg_iff.2 hx] at HA
  have cP0 := BP.cell 0
  have cP1 := BP.cell 1
  have cQ0 := BQ.cell 0
  have cQ1 := BQ.cell 1
  simp at cP0 cP1 cQ0 cQ1
  obtain ⟨ok, HOK⟩ : ∃ b, Hid ((termB x.2 e.1 && termB x.2 e.2) = b) := ⟨_, rfl⟩
  obtain ⟨ask, HASK⟩ : ∃ b, Hid (askB x.1.toNat x.2 e.1 e.2 = b) := ⟨_, rfl⟩
  have HHB : Hid (holdB x.1.toNat x.2 e.1 e.2 = (ask && tt (HoldP x.1.toNat x.2 e.1 e.2))) := by show _ = _; unfold holdB; rw [HASK.out]
  rw [HASK.out, HHB.out]
  clear hw0 hsz0 hrd hrd' rL rR qo hx h h'
  go_enter Tryz.func126, Tryz.ntmps126
  go_upto_region 1 with fail
  rw [← HW0.out]
  go_wp2_with fail
  refine HA.out.mono ?_
  rintro e1 w1 ⟨rfl, hb1⟩
  replace cP0 := keepc hb1 cP0
  replace cP1 := keepc hb1 cP1
  replace cQ0 := keepc hb1 cQ0
  replace cQ1 := keepc hb1 cQ1
  have HC := Lib.hid (isIdentity_any _ _ x e w1 (H1.out _ hb1) (H2.out _ hb1) HX.out)
  rw [HOK.out] at HC
  go_wp2_with fail
  refine HC.out.mono ?_
  rintro e2 w2 ⟨rfl, hb2⟩
  have T2 := below_next hb1 hb2 rfl
  replace cP0 := keepc hb2 cP0
  replace cP1 := keepc hb2 cP1
  replace cQ0 := keepc hb2 cQ0
  replace cQ1 := keepc hb2 cQ1
  rcases ok with _ | _
  · have h0 : ask = false := by
      rcases ask with _ | _
      · rfl
      · have := ask_terms HASK.out
        rw [this.1, this.2] at HOK
        exact absurd HOK.out (by decide)
    subst h0
    go_wp2_with fail
    go_ret2
    exact ⟨rfl, below_next T0 T2 rfl⟩
  · have hok := HOK.out
    rw [Bool.and_eq_true] at hok
    have HK := Lib.hid (counterOf_any _ _ x e w2 (H1.out _ T2) (H2.out _ T2) HX.out hok.1 hok.2)
    rw [HASK.out] at HK
    obtain ⟨t, HT⟩ : ∃ t, Hid (tt (HoldP x.1.toNat x.2 e.1 e.2) = t) := ⟨_, rfl⟩
    clear hok
    go_wp2_with fail
    refine HK.out.mono ?_
    rintro e3 w3 ⟨A3, n3, c3, rfl, hA, hb3⟩
    have T3 := below_next T2 hb3 rfl
    rcases ask with _ | _
    · clear hA
      go_wp2_with fail
      go_ret2
      exact ⟨rfl, below_next T0 T3 rfl⟩
    · rcases hA rfl with ⟨hh, rfl, rfl, rfl⟩ | ⟨hh, p, rfl⟩
      · have ht : t = true := by rw [← HT.out]; exact tt_iff.2 hh
        subst ht
        have hE := nil_eq w3
        clear hA hh
        go_wp2_with fail
        go_ret2
        exact ⟨ret_b2 (by rw [HT.out]; rfl) rfl, below_next T0 T3 rfl⟩
      · have ht : t = false := by rw [← HT.out]; exact (tt_false hh).symm
        subst ht
        have hE := nil_ne w3 p n3 c3
        clear hA hh
        go_wp2_with fail
        go_ret2
        exact ⟨ret_b2 (by rw [HT.out]; rfl) rfl, below_next T0 T3 rfl⟩
set_option maxRecDepth 20000 in
set_option maxHeartbeats 8000000 in
theorem isCounter_any (cs ds : List Value) (x : AlgebraM) (e : IdentityM) (A0 : Option Addr) (n0 c0 : Nat) (V : List Int) (w : World) (h : shAlgebra.rd w cs x) (h' : shIdentity.rd w ds e) (hv : RdL RI w A0 n0 V) (hx : AlgP x) :
    Calls Tryz.prog 127 #[.agg cs.toArray, .agg ds.toArray, .slice A0 n0 c0] w (Bl w (.bool (askB x.1.toNat x.2 e.1 e.2 && failB x.1.toNat x.2 e.1 e.2 V))) := by
  have hrd := h
  have hrd' := h'
  obtain ⟨B, m, d, rfl, -, qo⟩ := rdAlgebra h
  obtain ⟨AL, nL, cL, AR, nR, cR, rfl, rL, rR⟩ := rdIdentity h'
  obtain ⟨w0, hw0, T0, hsz0, BP, BQ⟩ := boxes2 w #[.int .i64 x.1, .slice B m d] #[.slice AL nL cL, .slice AR nR cR] 24 55
  have HW0 := Lib.hid hw0
  have H1 : Hid (∀ wz, Below w0.heap.size w0 wz → shAlgebra.rd wz [.int .i64 x.1, .slice B m d] x) := fun wz hz => shAlgebra.stab (shAlgebra.stab hrd T0.block) hz.block
  have H2 : Hid (∀ wz, Below w0.heap.size w0 wz → shIdentity.rd wz [.slice AL nL cL, .slice AR nR cR] e) := fun wz hz => shIdentity.stab (shIdentity.stab hrd' T0.block) hz.block
  have HL : Hid (∀ wz, Below w0.heap.size w0 wz → RdL RI wz AL nL e.1) := fun wz hz => (rL.next stab_RI T0).next stab_RI hz
  have HR : Hid (∀ wz, Below w0.heap.size w0 wz → RdL RI wz AR nR e.2) := fun wz hz => (rR.next stab_RI T0).next stab_RI hz
  have HV : Hid (∀ wz, Below w0.heap.size w0 wz → RdL RI wz A0 n0 V) := fun wz hz => (hv.next stab_RI T0).next stab_RI hz
  have HVL := Lib.hid hv.len
  have HX := Lib.hid hx
  have hnle := hv.le
  have HA := Lib.hid (doesHold_any _ _ x e w0 (H1.out _ (Below.refl _ _)) (H2.out _ (Below.refl _ _)) hx)
  have cP0 := BP.cell 0
  have cP1 := BP.cell 1
  have cQ0 := BQ.cell 0
  have cQ1 := BQ.cell 1
  simp at cP0 cP1 cQ0 cQ1
  obtain ⟨ask, HASK⟩ : ∃ b, Hid (askB x.1.toNat x.2 e.1 e.2 = b) := ⟨_, rfl⟩
  obtain ⟨hb, HHB⟩ : ∃ b, Hid (holdB x.1.toNat x.2 e.1 e.2 = b) := ⟨_, rfl⟩
  rw [HASK.out, HHB.out] at HA
  rw [HASK.out]
  clear hw0 hsz0 hrd hrd' rL rR qo hx h h' hv
  go_enter Tryz.func127, Tryz.ntmps127
  go_upto_region 1 with fail
  rw [← HW0.out]
  go_wp2_with fail
  refine HA.out.mono ?_
  rintro e1 w1 ⟨rfl, hb1⟩
  replace cP0 := keepc hb1 cP0
  replace cP1 := keepc hb1 cP1
  replace cQ0 := keepc hb1 cQ0
  replace cQ1 := keepc hb1 cQ1
  rcases ask with _ | _
  · go_wp2_with fail
    go_ret
    exact ⟨rfl, below_next T0 hb1 rfl⟩
  obtain ⟨N, hN⟩ : ∃ N : Nat, x.1 = (N : Int) := ⟨x.1.toNat, by have := HX.out.1; omega⟩
  have HNN := Lib.hid hN
  have hN8 : N ≤ 8 := by have := HX.out.2.1; omega
  have hN1 : 1 ≤ N := by have := HX.out.1; omega
  have HNT : Hid (x.1.toNat = N) := by show _ = _; omega
  rw [hN] at cP0
  obtain ⟨ins, HIN⟩ : ∃ b, Hid (allIn 0 ((N : Int) - 1) V = b) := ⟨_, rfl⟩
  have HC := Lib.hid (inSize_any A0 n0 c0 V (N : Int) w1 (HV.out _ hb1))
  rw [HIN.out] at HC
  clear hN
  go_wp2_with fail
  refine HC.out.mono ?_
  rintro e2 w2 ⟨rfl, rfl⟩
  rcases ins with _ | _
  · have HRES : Hid (failB N x.2 e.1 e.2 V = false) := by show _ = _; unfold failB; rw [HIN.out]; rfl
    go_wp2_with fail
    go_ret
    exact ⟨ret_bool (by rw [HNT.out, HRES.out]; rfl), below_next T0 hb1 rfl⟩
  have ht := ask_terms HASK.out
  have HT1 := Lib.hid ht.1
  have HT2 := Lib.hid ht.2
  obtain ⟨vars, HVS⟩ : ∃ l, Hid (varsL e.1 e.2 = l) := ⟨_, rfl⟩
  have HV6 : Hid (vars.length ≤ 6) := by show _ ≤ 6; rw [← HVS.out]; exact vars_le _ _
  have HVI : Hid (∀ v ∈ vars, 0 ≤ v ∧ v ≤ 5) := by rw [← HVS.out]; exact vars_in _ _
  have HVL1 : Hid (∀ v ∈ e.1, v < (mxV vars : Int)) := by rw [← HVS.out]; exact fun v hv => var_lt ht.1 ht.2 (.inl hv)
  have HVR1 : Hid (∀ v ∈ e.2, v < (mxV vars : Int)) := by rw [← HVS.out]; exact fun v hv => var_lt ht.1 ht.2 (.inr hv)
  have T1 := below_box w1 (.cells #[.slice AL nL cL, .slice AR nR cR] 43)
  have HVV := Lib.hid (varsOf_any (some ⟨w1.heap.size, 0, none⟩) 2 2 [e.1, e.2] _ (rd_two AL AR nL nR cL cR e.1 e.2 w1 43 (HL.out _ hb1) (HR.out _ hb1)) (fun t ht v hv => by
    rcases List.mem_cons.1 ht with rfl | ht
    · exact (badV_parts (term_mem HT1.out v hv)).1
    · rw [List.mem_singleton] at ht
      subst ht
      exact (badV_parts (term_mem HT2.out v hv)).1) (by omega))
  have HVE : Hid (markL 6 (vmTo [e.1, e.2] 2) = vars) := by show _ = _; rw [← HVS.out]; exact markL_congr fun y hy => vmTo_two _ _ y
  rw [HVE.out] at HVV
  clear ht
  go_wp2_with fail
  refine HVV.out.mono ?_
  rintro e w3 ⟨A6, c6, rfl, ho6, hb3⟩
  have r6 := rd_of_own (R := RI) ho6 (RI_ints fun v hv => by have := HVI.out v hv; omega)
  have T3 := below_next T1 hb3 rfl
  have T13 := below_next hb1 T3 rfl
  replace cP0 := keepc T3 cP0
  replace cP1 := keepc T3 cP1
  replace cQ0 := keepc T3 cQ0
  replace cQ1 := keepc T3 cQ1
  obtain ⟨q, HQ⟩ : ∃ q, Hid (vars.length = q) := ⟨_, rfl⟩
  rw [HQ.out] at r6 HV6 ⊢
  have hq6 := HV6.out
  clear ho6
  go_wp2_with fail
  go_loop [9, 34] (fun mm i => ∃ (k mx : Nat), k ≤ q ∧ i = .int .i64 k ∧ mm = .int .i64 mx ∧ Hid (mx = mxV (vars.take k)) ∧ mx ≤ 6) (fun _ i => q - (intOf i).toNat)
  case atStart => exact ⟨0, 0, Nat.zero_le _, rfl, rfl, rfl, Nat.zero_le _⟩
  case round =>
    obtain ⟨k, mx, hk, rfl, rfl, HMX, hm6⟩ := hrel
    by_cases hlt : k < q
    · have hk0 : (0 : Int) ≤ (k : Int) := by omega
      have hk1 : (k : Int) < (q : Int) := by omega
      obtain ⟨b, o, vv, v, rfl, hc, ⟨rfl, hv0, hv1⟩, -, hxv⟩ := r6.at hlt
      have hvi := HVI.out v (List.mem_of_getElem? hxv)
      have HM2 : Hid ((mxV (vars.take (k + 1)) : Int) = v + 1) := mx_last (by rw [List.take_add_one, hxv]; simp) hvi.1
      obtain ⟨y, rfl⟩ := Int.eq_ofNat_of_zero_le hvi.1
      clear hxv
      go_wp2_with fail
      go_round
      case rel => exact ⟨k + 1, y + 1, by omega, by go_num, by go_num, (by show _ = _; have := HM2.out; omega), by omega⟩
      case measure => simp [intOf]; try omega
    · obtain rfl : k = q := by omega
      have hk1 : ¬ (k : Int) < (k : Int) := by omega
      have HM2 : Hid (mxV vars = mx) := by
        show _ = _
        rw [HMX.out, List.take_of_length_le (by rw [HQ.out]; exact Nat.le_refl _)]
      obtain ⟨eL, HEL⟩ : ∃ z, Hid (evT N x.2 V e.1 = z) := ⟨_, rfl⟩
      obtain ⟨eR, HER⟩ : ∃ z, Hid (evT N x.2 V e.2 = z) := ⟨_, rfl⟩
      obtain ⟨bb, HBB⟩ : ∃ b, Hid (((eL : Int) != (eR : Int)) = b) := ⟨_, rfl⟩
      have HIV := Lib.hid (allIn_m.1 HIN.out)
      have HF : Hid (failB N x.2 e.1 e.2 V = (decide (n0 = mx) && bb)) := by
        show _ = _
        unfold failB
        rw [HIN.out, HVS.out, HM2.out, HVL.out, HEL.out, HER.out, ← HBB.out, Bool.true_and]
        congr 1
        rw [Bool.eq_iff_iff, decide_eq_true_iff, bne_iff_ne]
        exact ⟨fun h hh => h (by omega), fun h hh => h (by omega)⟩
      by_cases hnm : n0 = mx
      · subst hnm
        have hvl : ∀ v, v < (mxV vars : Int) → v < (V.length : Int) := fun v hv => by rw [HVL.out]; rw [HM2.out] at hv; exact hv
        have HC1 : Hid (∀ wz, Below w3.heap.size w3 wz → Calls Tryz.prog 175 #[.agg #[.int .i64 x.1, .slice B m d], .slice AL nL cL, .slice A0 n0 c0] wz (Bl wz (.int .i64 (eL : Int)))) := fun wz hz => by
          have := eval_any _ x AL A0 nL cL n0 c0 e.1 V wz (H1.out wz (below_next T13 hz rfl)) HX.out (HL.out wz (below_next T13 hz rfl)) (HV.out wz (below_next T13 hz rfl)) HT1.out (fun v hv => hvl v (HVL1.out v hv)) (fun y hy => by have := HIV.out y hy; rw [HNN.out]; exact this)
          rw [HNT.out, HEL.out] at this
          exact this
        have HC2 : Hid (∀ wz, Below w3.heap.size w3 wz → Calls Tryz.prog 175 #[.agg #[.int .i64 x.1, .slice B m d], .slice AR nR cR, .slice A0 n0 c0] wz (Bl wz (.int .i64 (eR : Int)))) := fun wz hz => by
          have := eval_any _ x AR A0 nR cR n0 c0 e.2 V wz (H1.out wz (below_next T13 hz rfl)) HX.out (HR.out wz (below_next T13 hz rfl)) (HV.out wz (below_next T13 hz rfl)) HT2.out (fun v hv => hvl v (HVR1.out v hv)) (fun y hy => by have := HIV.out y hy; rw [HNN.out]; exact this)
          rw [HNT.out, HER.out] at this
          exact this
        rw [HNN.out] at HC1 HC2
        have hd1 : ((n0 : Int) == (n0 : Int)) = true := by rw [beq_iff_eq]
        have Tk : Below w3.heap.size w3 w3 := Below.refl _ _
        have HRES : Hid (failB N x.2 e.1 e.2 V = bb) := by show _ = _; rw [HF.out, decide_eq_true rfl]; rfl
        clear hvl r6
        go_upto_region 10 with fail
        go_region_held3 (fun w' => w'.cell? ⟨w.heap.size, 0, none⟩ = some (.int .i64 (N : Int)) ∧ w'.cell? ⟨w.heap.size, 1, none⟩ = some (.slice B m d) ∧ w'.cell? ⟨w.heap.size + 1, 0, none⟩ = some (.slice AL nL cL) ∧ w'.cell? ⟨w.heap.size + 1, 1, none⟩ = some (.slice AR nR cR)) (first | go_keep | exact ⟨keepc Tk cP0, keepc Tk cP1, keepc Tk cQ0, keepc Tk cQ1⟩) (first
          | (go_at_call 175; (with_reducible refine (HC1.out _ ?_).mono ?_); (first | exact Tk | exact Below.drew Tk); rintro e wn ⟨rfl, hbn⟩; replace Tk := below_next (by first | exact Tk | exact Below.drew Tk) hbn rfl)
          | (go_at_call 175; (with_reducible refine (HC2.out _ ?_).mono ?_); (first | exact Tk | exact Below.drew Tk); rintro e wn ⟨rfl, hbn⟩; replace Tk := below_next (by first | exact Tk | exact Below.drew Tk) hbn rfl))
        all_goals
          go_wp2_with fail
          go_ret
          exact ⟨ret_bool (by rw [HNT.out, HRES.out, ← HBB.out]; rfl), below_next T0 (below_next T13 (by first | exact Tk | exact Below.drew Tk) rfl) rfl⟩
      · have hd1 : ((n0 : Int) == (mx : Int)) = false := by rw [beq_eq_false_iff_ne]; omega
        have HRES : Hid (failB N x.2 e.1 e.2 V = false) := by show _ = _; rw [HF.out, decide_eq_false hnm]; rfl
        clear r6
        go_upto_region 10 with fail
        go_quiet (fail)
        go_wp2_with fail
        go_ret
        exact ⟨ret_bool (by rw [HNT.out, HRES.out]), (by first | exact below_next T0 T13 rfl | exact below_drewN (below_next T0 T13 rfl) _ | exact below_drewN (below_drewN (below_next T0 T13 rfl) _) _ | exact below_drewN (below_drewN (below_drewN (below_next T0 T13 rfl) _) _) _)⟩
end Go.Proofs.YtfnmkbpogbekpaaGreatDoor
namespace Go.Proofs.YtfnmkbpogbekpaaGreatDoor
open Go.RowKit
set_option linter.unusedVariables false

set_option maxHeartbeats 2000000 in
theorem allIn_any (A : Option Addr) (n c ar i : Nat) (L : List Bool) (w : World) (h : RdL RB w A n L) (hn0 : 0 < n) (hn : n ≤ 1000) (ha : ar ≤ 1000) (hi : i ≤ 1048576) :
    Calls Tryz.prog 200 #[.int .i64 i, .int .i64 ar, .int .i64 n, .slice A n c] w fun e w' => e = .returned (.bool (AllM n ar i L)) ∧ w = w' := by
  have hle := h.le
  go_enter Tryz.func200, Tryz.ntmps200
  go_wp2
  go_loop [0, 1] (fun ci ck => ∃ k cur : Nat, k ≤ ar ∧ ck = .int .i64 k ∧ ci = .int .i64 cur ∧ cur ≤ 1048576 ∧ Hid (AllM n k cur L = AllM n ar i L)) (fun _ ck => (intOf ck).toNat)
  case atStart => exact ⟨ar, i, Nat.le_refl _, rfl, rfl, hi, rfl⟩
  case round =>
    obtain ⟨k, cur, hk, rfl, rfl, hc, HA⟩ := hrel
    rcases k with _ | k
    · have h0 : ¬ (0 : Int) < ((0 : Nat) : Int) := by omega
      have HR : Hid (AllM n ar i L = true) := by show _ = _; rw [← HA.out]; rfl
      go_wp2
      go_ret
      exact ⟨ret_bool HR.out.symm, rfl⟩
    · have h0 : (0 : Int) < ((k + 1 : Nat) : Int) := by omega
      have hr : cur % n < n := Nat.mod_lt _ hn0
      obtain ⟨b, o, u, v, rfl, hcc, rfl, -, hx⟩ := h.at hr
      have HE : Hid (AllM n (k + 1) cur L = (AllM n k (cur / n) L && v)) := by
        show _ = _
        unfold AllM
        rw [digs, List.all_append, ← gB_get hx]
        simp
      have hnz : ¬ (n : Int) = 0 := by omega
      have hcd : cur / n ≤ 1048576 := Nat.le_trans (Nat.div_le_self _ _) hc
      have HQ : Hid (wrap64 ((cur : Int) / (n : Int)) = ((cur / n : Nat) : Int)) := by
        show _ = _
        have e : (cur : Int) / (n : Int) = ((cur / n : Nat) : Int) := by simp
        rw [e]
        exact w64 hcd
      have hr0 : (0 : Int) ≤ ((cur % n : Nat) : Int) := by omega
      have hr1 : ((cur % n : Nat) : Int) < (n : Int) := by omega
      clear hx
      rcases v with _ | _
      · go_wp2
        go_ret
        exact ⟨ret_bool (by rw [← HA.out, HE.out, Bool.and_false]), rfl⟩
      · go_wp2
        go_round
        case rel => exact ⟨k, cur / n, by omega, by go_num, by rw [HQ.out], hcd, by show _ = _; rw [← HA.out, HE.out, Bool.and_true]⟩
        case measure => simp [intOf]; try omega
end Go.Proofs.YtfnmkbpogbekpaaGreatDoor
namespace Go.Proofs.YtfnmkbpogbekpaaGreatDoor
open Go.RowKit
set_option linter.unusedVariables false

/-- What is not marked in the world. -/
noncomputable def offW (w : World) (g n : Nat) : Nat := (List.range n).countP fun y => !(tt (w.cell? ⟨g, y, none⟩ = some (.bool true)))
def flagV : Value → Nat | .bool true => 1 | _ => 0
theorem offW_row {w : World} {base g n c : Nat} {L : List Bool} (h : w.ownsRow base 4 1 (.slice (some ⟨g, 0, none⟩) n c) n (bls L)) (hl : L.length = n) : offW w g n = offs L := by
  have e : L = (List.range n).map (gB L) := gB_ext (n := n) hl (by simp) fun y hy => by
    refine (gB_get ?_).symm
    rw [List.getElem?_map, List.getElem?_range hy]
    rfl
  unfold offW offs
  rw [e, List.countP_map]
  refine List.countP_congr fun y hy => ?_
  have hyn := List.mem_range.1 hy
  have hc : w.cell? ⟨g, y, none⟩ = some (.bool (gB L y)) := by rw [h.cellAt y (by omega), bls_get (by omega)]
  rw [hc]
  simp only [Function.comp_apply]
  rcases gB L y with _ | _ <;> simp [tt]
/-- What a round has done so far: k operations, q entries of the next one. -/
def ChM (n : Nat) (ops : List OpM) (L M : List Bool) (ch : Bool) (k : Nat) : Prop := (ch = true → offs M < offs L) ∧ (ch = false → M = L ∧ ∀ j, j < k → ∀ o, ops[j]? = some o → ∀ i, i < o.2.length → OkE n M o i)
def ChN (n : Nat) (ops : List OpM) (L M : List Bool) (ch : Bool) (k q : Nat) (op : OpM) : Prop := (ch = true → offs M < offs L) ∧ (ch = false → M = L ∧ (∀ j, j < k → ∀ o, ops[j]? = some o → ∀ i, i < o.2.length → OkE n M o i) ∧ ∀ i, i < q → OkE n M op i)
set_option maxRecDepth 20000 in
set_option maxHeartbeats 8000000 in
theorem closeUnder_any (cs : List Value) (x : AlgebraM) (g n c base : Nat) (L0 : List Bool) (wa w : World) (h : shAlgebra.rd wa cs x) (hx : AlgP x) (hn : x.1 = (n : Int)) (hT : Below wa.heap.size wa w) (hba : wa.heap.size ≤ base) (hown : w.ownsRow base 4 1 (.slice (some ⟨g, 0, none⟩) n c) n (bls L0)) (hl0 : L0.length = n) :
    Calls Tryz.prog 179 #[.agg cs.toArray, .slice (some ⟨g, 0, none⟩) n c] w fun e w' => ∃ L, e = .returned (.slice (some ⟨g, 0, none⟩) n c) ∧ w'.ownsRow base 4 1 (.slice (some ⟨g, 0, none⟩) n c) n (bls L) ∧ L.length = n ∧ (∀ y, y < n → gB L y = clB n x.2 (gB L0) y) ∧ w.grownBy w' (some g) := by
  obtain ⟨a, ops⟩ := x
  obtain ⟨hx1, hx2, hx3, hx4⟩ := hx
  simp only at hx1 hx2 hx3 hx4 hn
  subst hn
  rw [Int.toNat_natCast] at hx4
  have hn0 : 0 < n := by omega
  have hn8 : n ≤ 8 := by omega
  obtain ⟨B, m, d, rfl, -, qo⟩ := rdAlgebra h
  have HML := Lib.hid qo.len
  have HOPS := Lib.hid hx4
  have hm4 : m ≤ 4 := by rw [← qo.len]; exact hx3
  have hgl := hown.lt g rfl
  obtain ⟨w0, hw0, T0, hsz0, BP⟩ := boxes1 w #[.int .i64 (n : Int), .slice B m d] 24
  have HW0 := Lib.hid hw0
  have hown0 := own_next hown T0
  have HB := Lib.hid hba
  have hgw : (some w.heap.size) ≠ some g := fun e => by injection e with e; omega
  have HT0 : Hid (w.grownBy w0 (some g)) := gk_of T0
  have HTA : Hid (∀ wz, w0.grownBy wz (some g) → Below wa.heap.size wa wz) := fun wz hz => (below_next hT T0 rfl).grown hz (Nat.le_trans hT.size T0.size) fun k hk => by injection hk with hk; subst hk; exact Nat.le_trans hba hgl.1
  have HBP : Hid (∀ wz, w0.grownBy wz (some g) → wz.cell? ⟨w.heap.size, 0, none⟩ = some (.int .i64 (n : Int)) ∧ wz.cell? ⟨w.heap.size, 1, none⟩ = some (.slice B m d)) := fun wz hz => by
    have := BP.grown hz hgw
    have h0 := this.cell 0
    have h1 := this.cell 1
    simp at h0 h1
    exact ⟨h0, h1⟩
  clear hw0 hsz0 hown hx3 hx4 h hT hba
  go_enter Tryz.func179, Tryz.ntmps179
  go_upto_region 1 with fail
  rw [← HW0.out]
  go_wp2_with fail
  go_loopw [5] (fun s wr => ∃ (L : List Bool) (ch : Bool), s = .bool ch ∧ Hid (ClI n ops L0 L) ∧ wr.ownsRow base 4 1 (.slice (some ⟨g, 0, none⟩) n c) n (bls L) ∧ w0.grownBy wr (some g) ∧ Hid (ch = false → ∀ o ∈ ops, ∀ i, i < o.2.length → OkE n L o i)) (fun s wr => 2 * offW wr g n + flagV s)
  case atStart => exact ⟨L0, true, rfl, ClI.start hl0, hown0, gk_refl _ _, fun h => by cases h⟩
  case round =>
    clear hown0
    obtain ⟨L, ch, rfl, HI, hown, hG, HCH⟩ := hrel
    have HMS : Hid (offW wr g n = offs L) := offW_row hown HI.out.len
    rcases ch with _ | _
    · have HD : Hid (∀ y, y < n → gB L y = clB n ops (gB L0) y) := fun y hy => HI.out.done (HCH.out rfl) hy
      go_wp2_with fail
      go_ret
      exact ⟨rfl, L, hown, HI.out.len, HD.out, gk_trans HT0.out hG⟩
    · have kP1 := (HBP.out _ hG).2
      obtain ⟨ws, HWS⟩ : ∃ ws : World, ws = wr := ⟨_, rfl⟩
      subst HWS
      have HS0 : Hid (ChM n ops L L false 0) := id (And.intro (fun h => by cases h) fun _ => And.intro rfl fun j hj => absurd hj (by omega))
      go_wp2_with fail
      clear kP1
      go_loopw [5, 14] (fun s i wr => ∃ (k : Nat) (M : List Bool) (ch : Bool), k ≤ m ∧ i = .int .i64 k ∧ s = .bool ch ∧ Hid (ClI n ops L0 M) ∧ wr.ownsRow base 4 1 (.slice (some ⟨g, 0, none⟩) n c) n (bls M) ∧ w0.grownBy wr (some g) ∧ Hid (ChM n ops L M ch k)) (fun _ i _ => m - (intOf i).toNat)
      case atStart => exact ⟨0, L, false, Nat.zero_le _, rfl, rfl, HI, hown, hG, HS0⟩
      case round =>
        clear hown hG HI
        obtain ⟨k, M, ch, hk, rfl, rfl, HI, hown, hG, HM⟩ := hrel
        by_cases hlt : k < m
        · have hk0 : (0 : Int) ≤ (k : Int) := by omega
          have hk1 : (k : Int) < (m : Int) := by omega
          obtain ⟨b, o, vs, op, rfl, -, hc, hr, -, hxo⟩ := qo.at hlt
          obtain ⟨B', m', d', rfl, -, qt⟩ := rdOp hr
          have hoP := HOPS.out op (List.mem_of_getElem? hxo)
          obtain ⟨ar, tb, rfl, har⟩ := op_nat hoP
          have HXO := Lib.hid hxo
          have HTL : Hid (m' = n ^ ar) := by show _ = _; rw [← qt.len]; have := hoP.2.2.1; simpa using this
          have HTB : Hid (tb.length = m') := qt.len
          have HTV := Lib.hid hoP.2.2.2
          have cc0 := keepc (HTA.out _ hG) (hc 0 _ rfl)
          have cc1 := keepc (HTA.out _ hG) (hc 1 _ rfl)
          have hm512 : m' ≤ 4096 := by rw [HTL.out]; exact pow_bd hn8 (by omega)
          obtain ⟨w1, hw1, T1, hsz1, BX⟩ := boxes1 wr #[.int .i64 (ar : Int), .slice B' m' d'] 122
          have HW1 := Lib.hid hw1
          have hg1 := (hown.lt g rfl)
          have hG1 : w0.grownBy w1 (some g) := gk_trans hG (gk_of T1)
          have hown1 := own_next hown T1
          have hgx : (some wr.heap.size) ≠ some g := fun e => by injection e with e; omega
          have HBX : Hid (∀ wz, w1.grownBy wz (some g) → wz.cell? ⟨wr.heap.size, 0, none⟩ = some (.int .i64 (ar : Int)) ∧ wz.cell? ⟨wr.heap.size, 1, none⟩ = some (.slice B' m' d')) := fun wz hz => by
            have := BX.grown hz hgx
            have h0 := this.cell 0
            have h1 := this.cell 1
            simp at h0 h1
            exact ⟨h0, h1⟩
          have kX1 := (HBX.out _ (gk_refl _ _)).2
          clear hc hr hw1 hsz1 hxo hown hoP
          have cc0' : wr.cell? ⟨b, o + k * 2, none⟩ = some (.int .i64 (ar : Int)) := cc0
          have cc1' : wr.cell? ⟨b, o + k * 2 + 1, none⟩ = some (.slice B' m' d') := cc1
          clear cc0 cc1
          go_wp2_with fail
          rw [← HW1.out]
          go_wp2_with fail
          clear kX1 cc0' cc1'
          have HS1 : Hid (ChN n ops L M ch k 0 ((ar : Int), tb)) := id (And.intro HM.out.1 fun h => And.intro (HM.out.2 h).1 (And.intro (HM.out.2 h).2 fun i hi => absurd hi (by omega)))
          go_loopw [5, 21] (fun s i wi => ∃ (q : Nat) (M2 : List Bool) (ch2 : Bool), q ≤ m' ∧ i = .int .i64 q ∧ s = .bool ch2 ∧ Hid (ClI n ops L0 M2) ∧ wi.ownsRow base 4 1 (.slice (some ⟨g, 0, none⟩) n c) n (bls M2) ∧ w1.grownBy wi (some g) ∧ Hid (ChN n ops L M2 ch2 k q ((ar : Int), tb))) (fun _ i _ => m' - (intOf i).toNat)
          case atStart => exact ⟨0, M, ch, Nat.zero_le _, rfl, rfl, HI, hown1, gk_refl _ _, HS1⟩
          case round =>
            clear hown1 HI HM
            obtain ⟨q, M2, ch2, hq, rfl, rfl, HI, hown, hG2, HM⟩ := hrel
            have hG3 : w0.grownBy wr (some g) := gk_trans hG1 hG2
            by_cases hlq : q < m'
            · have hq0 : (0 : Int) ≤ (q : Int) := by omega
              have hq1 : (q : Int) < (m' : Int) := by omega
              obtain ⟨b3, o3, u3, v, rfl, hc3, ⟨rfl, -, -⟩, -, hxv⟩ := (qt.next stab_RI (HTA.out _ hG3)).at hlq
              have hvi := HTV.out v (List.mem_of_getElem? hxv)
              obtain ⟨y, rfl⟩ := Int.eq_ofNat_of_zero_le hvi.1
              have hyn : y < n := by omega
              have HXV := Lib.hid hxv
              have HNM : Hid (nmAt tb q = y) := by show _ = _; rw [nmAt_get hxv]; simp
              have hll := HI.out.len
              have hcell : wr.cell? ⟨g, y, none⟩ = some (.bool (gB M2 y)) := by rw [hown.cellAt y (by omega), bls_get (by omega)]
              have hy0 : (0 : Int) ≤ (y : Int) := by omega
              have hy1 : (y : Int) < (n : Int) := by omega
              have kP0 := (HBP.out _ hG3).1
              have kX0 := (HBX.out _ hG2).1
              obtain ⟨bv, HBV⟩ : ∃ b, Hid (gB M2 y = b) := ⟨_, rfl⟩
              rw [HBV.out] at hcell
              clear hxv hvi
              rcases bv with _ | _
              · have HC := Lib.hid (allIn_any (some ⟨g, 0, none⟩) n c ar q M2 wr (rd_of_own (R := RB) hown (fun z _ => rfl)) hn0 (by omega) (by omega) (by omega))
                obtain ⟨al, HAL⟩ : ∃ b, Hid (AllM n ar q M2 = b) := ⟨_, rfl⟩
                rw [HAL.out] at HC
                have hfz := hown.frozenAt y
                have hst := (hown.stored y (.bool true)).1
                rw [bls_set] at hst
                have HST := Lib.hid hst
                have HOW := Lib.hid hown
                clear hst hown
                go_wp2_with fail
                refine HC.out.mono ?_
                rintro e w3 ⟨rfl, rfl⟩
                rcases al with _ | _
                · have HM2 : Hid (ChN n ops L M2 ch2 k (q + 1) ((ar : Int), tb)) := id ⟨HM.out.1, fun h => ⟨(HM.out.2 h).1, (HM.out.2 h).2.1, fun i hi => by
                    by_cases e : i = q
                    · subst e
                      intro hA
                      have := HAL.out
                      simp only [Int.toNat_natCast] at hA
                      rw [hA] at this
                      cases this
                    · exact (HM.out.2 h).2.2 i (by omega)⟩⟩
                  go_wp2_with fail
                  go_roundw
                  case rel => exact ⟨q + 1, M2, ch2, by omega, by go_num, rfl, HI, HOW.out, hG2, HM2⟩
                  case measure => simp [intOf]; try omega
                · have HI2 : Hid (ClI n ops L0 (M2.set y true)) := HI.out.mark hn0 (List.mem_of_getElem? HXO.out) HXV.out hyn (by simpa using HAL.out)
                  have HM2 : Hid (ChN n ops L (M2.set y true) true k (q + 1) ((ar : Int), tb)) := id ⟨fun _ => by
                    have h1 := offs_set (L := M2) (x := y) (by rw [gB_at (by omega), HBV.out])
                    rcases ch2 with _ | _
                    · rw [(HM.out.2 rfl).1] at h1 ⊢; omega
                    · have := HM.out.1 rfl; omega, fun h => by cases h⟩
                  go_wp2_with fail
                  go_roundw
                  case rel => exact ⟨q + 1, M2.set y true, true, by omega, by go_num, rfl, HI2, HST.out, gk_set hG2 rfl _, HM2⟩
                  case measure => simp [intOf]; try omega
              · have HM2 : Hid (ChN n ops L M2 ch2 k (q + 1) ((ar : Int), tb)) := id ⟨HM.out.1, fun h => ⟨(HM.out.2 h).1, (HM.out.2 h).2.1, fun i hi => by
                  by_cases e : i = q
                  · subst e
                    intro _
                    show gB M2 (nmAt tb i) = true
                    rw [HNM.out, HBV.out]
                  · exact (HM.out.2 h).2.2 i (by omega)⟩⟩
                go_wp2_with fail
                go_roundw
                case rel => exact ⟨q + 1, M2, ch2, by omega, by go_num, rfl, HI, hown, hG2, HM2⟩
                case measure => simp [intOf]; try omega
            · have hq1 : ¬ (q : Int) < (m' : Int) := by omega
              have HM2 : Hid (ChM n ops L M2 ch2 (k + 1)) := id ⟨HM.out.1, fun h => ⟨(HM.out.2 h).1, fun j hj o ho i hi => by
                by_cases e : j = k
                · subst e
                  rw [HXO.out] at ho
                  injection ho with ho
                  subst ho
                  exact (HM.out.2 h).2.2 i (by have := HTB.out; simp only at hi; omega)
                · exact (HM.out.2 h).2.1 j (by omega) o ho i hi⟩⟩
              go_wp2_with fail
              go_roundw
              case rel => exact ⟨k + 1, M2, ch2, by omega, by go_num, rfl, HI, hown, hG3, HM2⟩
              case measure => simp [intOf]; try omega
        · have hk1 : ¬ (k : Int) < (m : Int) := by omega
          have HI2 := HI
          have HFIN : Hid (ch = false → ∀ o ∈ ops, ∀ i, i < o.2.length → OkE n M o i) := fun h o ho i hi => by
            obtain ⟨j, hj⟩ := List.getElem?_of_mem ho
            have hjl := (List.getElem?_eq_some_iff.1 hj).1
            exact (HM.out.2 h).2 j (by rw [HML.out] at hjl; omega) o hj i hi
          have HMS2 : Hid (offW wr g n = offs M) := offW_row hown HI.out.len
          go_wp2_with fail
          go_roundw
          case rel => exact ⟨M, ch, rfl, HI2, hown, hG, HFIN⟩
          case measure =>
            show 2 * offW wr g n + flagV (.bool ch) < 2 * offW _ g n + flagV (.bool true)
            rw [HMS2.out, HMS.out]
            rcases ch with _ | _
            · have := (HM.out.2 rfl).1
              subst this
              show 2 * offs M + 0 < 2 * offs M + 1
              omega
            · have := HM.out.1 rfl
              show 2 * offs M + 1 < 2 * offs L + 1
              omega
end Go.Proofs.YtfnmkbpogbekpaaGreatDoor
namespace Go.Proofs.YtfnmkbpogbekpaaGreatDoor
open Go.RowKit
set_option linter.unusedVariables false

set_option maxRecDepth 20000 in
set_option maxHeartbeats 4000000 in
theorem generate_any (cs : List Value) (x : AlgebraM) (A : Option Addr) (m c : Nat) (S : List Int) (w : World) (h : shAlgebra.rd w cs x) (hx : AlgP x) (hr : RdL RI w A m S) (hS : ∀ v ∈ S, 0 ≤ v ∧ v ≤ x.1 - 1) :
    Calls Tryz.prog 132 #[.agg cs.toArray, .slice A m c] w (OwI w (genL x.1.toNat x.2 S)) := by
  have hrd := h
  obtain ⟨B, k, d, rfl, -, qo⟩ := rdAlgebra h
  obtain ⟨n, hN⟩ : ∃ n : Nat, x.1 = (n : Int) := ⟨x.1.toNat, by have := hx.1; omega⟩
  have HNN := Lib.hid hN
  have hn8 : n ≤ 8 := by have := hx.2.1; omega
  have hn0 : 0 < n := by have := hx.1; omega
  have HNT : Hid (x.1.toNat = n) := by show _ = _; omega
  obtain ⟨w0, hw0, T0, hsz0, BP⟩ := boxes1 w #[.int .i64 x.1, .slice B k d] 24
  have HW0 := Lib.hid hw0
  rw [hN] at HW0 BP hS
  have cP0 := BP.cell 0
  have cP1 := BP.cell 1
  simp at cP0 cP1
  have HX := Lib.hid hx
  have HRD := Lib.hid (shAlgebra.stab hrd T0.block)
  have HS := Lib.hid hS
  have r0 := hr.next stab_RI T0
  have HM : Hid (∀ wz, Below w0.heap.size w0 wz → Calls Tryz.prog 180 #[.slice A m c, .int .i64 (n : Int)] wz fun e w' => e = .returned (.slice (some ⟨wz.heap.size, 0, none⟩) n n) ∧ w'.ownsRow wz.heap.size 4 1 (.slice (some ⟨wz.heap.size, 0, none⟩) n n) n (bls (inL n S)) ∧ Below wz.heap.size wz w') := fun wz hz => marks_any A m c n S wz (r0.next stab_RI hz) HS.out (by omega)
  have HC : Hid (∀ (g base : Nat) (wz : World), Below w0.heap.size w0 wz → w0.heap.size ≤ base → wz.ownsRow base 4 1 (.slice (some ⟨g, 0, none⟩) n n) n (bls (inL n S)) → Calls Tryz.prog 179 #[.agg #[.int .i64 (n : Int), .slice B k d], .slice (some ⟨g, 0, none⟩) n n] wz fun e w' => ∃ L, e = .returned (.slice (some ⟨g, 0, none⟩) n n) ∧ w'.ownsRow base 4 1 (.slice (some ⟨g, 0, none⟩) n n) n (bls L) ∧ L.length = n ∧ (∀ y, y < n → gB L y = clB n x.2 (gB (inL n S)) y) ∧ wz.grownBy w' (some g)) := fun g base wz hz hb ho => by
    have := closeUnder_any _ x g n n base (inL n S) w0 wz HRD.out HX.out HNN.out hz hb ho (inL_len _ _)
    rw [HNN.out] at this
    exact this
  rw [HNT.out]
  rw [hN]
  have Tk : Below w0.heap.size w0 w0 := Below.refl _ _
  clear hw0 hsz0 hrd qo h hx hr hS hN r0
  go_enter Tryz.func132, Tryz.ntmps132
  go_upto_region 1 with fail
  rw [← HW0.out]
  go_region_held3 (fun w' => w'.cell? ⟨w.heap.size, 0, none⟩ = some (.int .i64 (n : Int)) ∧ w'.cell? ⟨w.heap.size, 1, none⟩ = some (.slice B k d)) (first | go_keep | exact ⟨keepc Tk cP0, keepc Tk cP1⟩) (first
    | (go_at_call 180; (refine (HM.out _ ?_).mono ?_); (first | exact Tk | exact Below.drew Tk); rintro e wm ⟨rfl, hom, hbm⟩; replace hom := own_mono (base' := w0.heap.size) hom (by exact Tk.size); replace Tk := below_next (by first | exact Tk | exact Below.drew Tk) hbm rfl)
    | (go_at_call 179; (refine (HC.out _ w0.heap.size _ ?_ (Nat.le_refl _) ?_).mono ?_); (first | exact Tk | exact Below.drew Tk); (exact hom); rintro e wc ⟨L, rfl, hoc, hlc, hcl, hgc⟩; replace Tk := Below.grown (by first | exact Tk | exact Below.drew Tk) hgc (by exact Tk.size) (fun r hr => by injection hr with hr; have := hom.lt _ rfl; omega); have hE : markL n (gB L) = genL n x.2 S := markL_congr hcl)
    | (go_at_call 178; (refine (marked_any _ n n L _ (by exact rd_of_own (R := RB) hoc (fun z _ => rfl)) (by omega)).mono ?_); rintro e wd ⟨A5, c5, rfl, ho5, hb5⟩; replace ho5 := own_mono (base' := w0.heap.size) ho5 (by exact Tk.size); replace Tk := below_next (by first | exact Tk | exact Below.drew Tk) hb5 rfl))
  all_goals
    rw [hE] at ho5
    have HE := Lib.hid hE
    have HO := Lib.hid ho5
    clear ho5 hE hoc hom hgc hcl
    go_wp2_with fail
    go_ret
    exact ⟨A5, c5, rfl, own_mono HO.out T0.size, below_next T0 (by first | exact Tk | exact Below.drew Tk) rfl⟩
set_option maxHeartbeats 4000000 in
theorem isSub_any (cs : List Value) (x : AlgebraM) (A : Option Addr) (m c : Nat) (S : List Int) (w : World) (h : shAlgebra.rd w cs x) (hx : AlgP x) (hr : RdL RI w A m S) :
    Calls Tryz.prog 128 #[.agg cs.toArray, .slice A m c] w (Bl w (.bool (subB x.1.toNat x.2 S))) := by
  have hrd := h
  obtain ⟨B, k, d, rfl, -, qo⟩ := rdAlgebra h
  obtain ⟨n, hN⟩ : ∃ n : Nat, x.1 = (n : Int) := ⟨x.1.toNat, by have := hx.1; omega⟩
  have HNN := Lib.hid hN
  have hn8 : n ≤ 8 := by have := hx.2.1; omega
  have hn0 : 0 < n := by have := hx.1; omega
  have HNT : Hid (x.1.toNat = n) := by show _ = _; omega
  have hmle := hr.le
  have HL := Lib.hid hr.len
  obtain ⟨w0, hw0, T0, hsz0, BP⟩ := boxes1 w #[.int .i64 x.1, .slice B k d] 24
  have HW0 := Lib.hid hw0
  have HRD : Hid (∀ wz, Below w0.heap.size w0 wz → shAlgebra.rd wz [.int .i64 x.1, .slice B k d] x) := fun wz hz => shAlgebra.stab (shAlgebra.stab hrd T0.block) hz.block
  rw [hN] at HW0 BP HRD
  have cP0 := BP.cell 0
  have cP1 := BP.cell 1
  simp at cP0 cP1
  have HX := Lib.hid hx
  have r0 := hr.next stab_RI T0
  have HI := Lib.hid (inSize_any A m c S (n : Int) w0 r0)
  have HS := Lib.hid (rises_any A m c S w0 r0)
  obtain ⟨b1, HB1⟩ : ∃ b, Hid (allIn 0 ((n : Int) - 1) S = b) := ⟨_, rfl⟩
  obtain ⟨b2, HB2⟩ : ∃ b, Hid (risesL S = b) := ⟨_, rfl⟩
  rw [HB1.out] at HI
  rw [HB2.out] at HS
  have HR : Hid (subB n x.2 S = ((b1 && b2) && decide ((genL n x.2 S).length = m))) := by show _ = _; unfold subB; rw [HB1.out, HB2.out, HL.out]
  rw [HNT.out]
  rw [hN]
  clear hw0 hsz0 hrd qo h hx hr hN
  go_enter Tryz.func128, Tryz.ntmps128
  go_upto_region 1 with fail
  rw [← HW0.out]
  go_wp2_with fail
  refine HI.out.mono ?_
  rintro e w1 ⟨rfl, rfl⟩
  rcases b1 with _ | _
  · go_wp2_with fail
    go_ret
    exact ⟨ret_bool (by rw [HR.out]; rfl), T0⟩
  go_wp2_with fail
  refine HS.out.mono ?_
  rintro e w1 ⟨rfl, z, rfl⟩
  rcases b2 with _ | _
  · go_wp2_with fail
    go_ret
    exact ⟨ret_bool (by rw [HR.out]; rfl), below_drewN T0 z⟩
  have hin : ∀ v ∈ S, 0 ≤ v ∧ v ≤ x.1 - 1 := fun v hv => by rw [HNN.out]; exact allIn_m.1 HB1.out v hv
  have HG := Lib.hid (generate_any _ x A m c S (w0.drewN z) (HRD.out _ (below_drewN (Below.refl _ _) z)) HX.out (r0.drewN stab_RI z) hin)
  rw [HNT.out] at HG
  obtain ⟨gl, HGL⟩ : ∃ l, Hid (genL n x.2 S = l) := ⟨_, rfl⟩
  have HGB : Hid (gl.length ≤ 8) := by show _ ≤ 8; rw [← HGL.out]; exact Nat.le_trans (markL_le _ _) hn8
  rw [HGL.out] at HG HR
  have hgb := HGB.out
  clear hin
  go_wp2_with fail
  refine HG.out.mono ?_
  rintro e w2 ⟨A2, c2, rfl, ho2, hb2⟩
  clear ho2
  go_wp2_with fail
  go_ret
  exact ⟨ret_bool (by rw [HR.out, Bool.true_and, Bool.true_and, Bool.eq_iff_iff]; simp; try omega), below_next T0 ((below_drewN (Below.refl _ _) z).trans hb2) rfl⟩
end Go.Proofs.YtfnmkbpogbekpaaGreatDoor
namespace Go.Proofs.YtfnmkbpogbekpaaGreatDoor
open Go.RowKit
set_option linter.unusedVariables false

/-! ## Is a list an order of names? -/
noncomputable def permB (n : Nat) (L : List Int) : Bool := tt (PermL n L)
end Go.Proofs.YtfnmkbpogbekpaaGreatDoor
namespace Go.Proofs.YtfnmkbpogbekpaaGreatDoor
open Go.RowKit
set_option linter.unusedVariables false

/-! ## inverse, compose -/
/-! ## kernels -/
end Go.Proofs.YtfnmkbpogbekpaaGreatDoor
namespace Go.Proofs.YtfnmkbpogbekpaaGreatDoor
open Go.RowKit

abbrev LabM : Type := (Bool × AlgebraM × List FactM × Int)
def shLab : Sh LabM := (Sh.pair Sh.bool (Sh.pair shAlgebra (Sh.pair (Sh.rows shFact 57) Sh.int)))
theorem rdLab {w : World} {cs : List Value} {x : LabM} (h : shLab.rd w cs x) : ∃ (ABaseOps : Option Addr) (nBaseOps cBaseOps : Nat) (AFacts : Option Addr) (nFacts cFacts : Nat), cs = [.bool x.1, .int .i64 x.2.1.1, .slice ABaseOps nBaseOps cBaseOps, .slice AFacts nFacts cFacts, .int .i64 x.2.2.2] ∧ InR x.2.1.1 ∧ RdN shOp.m shOp.rd w ABaseOps nBaseOps x.2.1.2 ∧ RdN shFact.m shFact.rd w AFacts nFacts x.2.2.1 ∧ InR x.2.2.2 := by
  obtain ⟨_, _, rfl, ⟨_, rfl, rfl⟩, ⟨_, _, rfl, ⟨_, _, rfl, ⟨_, rfl, rfl, loBaseSize, hiBaseSize⟩, ⟨ABaseOps, nBaseOps, cBaseOps, rfl, rBaseOps⟩⟩, ⟨_, _, rfl, ⟨AFacts, nFacts, cFacts, rfl, rFacts⟩, ⟨_, rfl, rfl, loRefused, hiRefused⟩⟩⟩⟩ := h
  exact ⟨ABaseOps, nBaseOps, cBaseOps, AFacts, nFacts, cFacts, rfl, ⟨loBaseSize, hiBaseSize⟩, rBaseOps, rFacts, ⟨loRefused, hiRefused⟩⟩
theorem mkLab {w : World} {x : LabM} {ABaseOps AFacts : Option Addr} {nBaseOps cBaseOps nFacts cFacts : Nat} (hBaseSize : InR x.2.1.1) (hBaseOps : RdN shOp.m shOp.rd w ABaseOps nBaseOps x.2.1.2) (hFacts : RdN shFact.m shFact.rd w AFacts nFacts x.2.2.1) (hRefused : InR x.2.2.2) : shLab.rd w [.bool x.1, .int .i64 x.2.1.1, .slice ABaseOps nBaseOps cBaseOps, .slice AFacts nFacts cFacts, .int .i64 x.2.2.2] x :=
  ⟨[.bool x.1], [.int .i64 x.2.1.1, .slice ABaseOps nBaseOps cBaseOps, .slice AFacts nFacts cFacts, .int .i64 x.2.2.2], rfl, ⟨_, rfl, rfl⟩, ⟨[.int .i64 x.2.1.1, .slice ABaseOps nBaseOps cBaseOps], [.slice AFacts nFacts cFacts, .int .i64 x.2.2.2], rfl, ⟨[.int .i64 x.2.1.1], [.slice ABaseOps nBaseOps cBaseOps], rfl, ⟨_, rfl, rfl, hBaseSize.1, hBaseSize.2⟩, ⟨_, _, _, rfl, hBaseOps⟩⟩, ⟨[.slice AFacts nFacts cFacts], [.int .i64 x.2.2.2], rfl, ⟨_, _, _, rfl, hFacts⟩, ⟨_, rfl, rfl, hRefused.1, hRefused.2⟩⟩⟩⟩
theorem eqPLab (x y : LabM) : eqC x y = (eqC (x.1) (y.1) && (eqC (x.2.1) (y.2.1) && (eqC (x.2.2.1) (y.2.2.1) && eqC (x.2.2.2) (y.2.2.2)))) := by
  obtain ⟨x0, x1, x2, x3⟩ := x
  obtain ⟨y0, y1, y2, y3⟩ := y
  simp only [dec_pair]
set_option linter.unusedVariables false in
set_option maxHeartbeats 4000000 in
theorem eqLab_any (cs ds : List Value) (x y : LabM) (w : World) (h : shLab.rd w cs x) (h' : shLab.rd w ds y) :
    Calls Tryz.prog 17 #[.agg cs.toArray, .agg ds.toArray] w (Bl w (.bool (eqC x y))) := by
  obtain ⟨ABaseOps, nBaseOps, cBaseOps, AFacts, nFacts, cFacts, rfl, qBaseSize, qBaseOps, qFacts, qRefused⟩ := rdLab h
  obtain ⟨AyBaseOps, nyBaseOps, cyBaseOps, AyFacts, nyFacts, cyFacts, rfl, qyBaseSize, qyBaseOps, qyFacts, qyRefused⟩ := rdLab h'
  obtain ⟨w0, hw0, T0, hsz0, BP, BQ⟩ := boxes2 w #[.bool x.1, .int .i64 x.2.1.1, .slice ABaseOps nBaseOps cBaseOps, .slice AFacts nFacts cFacts, .int .i64 x.2.2.2] #[.bool y.1, .int .i64 y.2.1.1, .slice AyBaseOps nyBaseOps cyBaseOps, .slice AyFacts nyFacts cyFacts, .int .i64 y.2.2.2] 27 27
  replace qBaseOps := qBaseOps.next T0
  replace qyBaseOps := qyBaseOps.next T0
  replace qFacts := qFacts.next T0
  replace qyFacts := qyFacts.next T0
  have HD := Lib.hid (eqPLab x y)
  go_enter Tryz.func17, Tryz.ntmps17
  rcases hd0 : eqC (x.1) (y.1) with _ | _
  · have ht : (x.1 == y.1) = false := eqq_bool hd0
    have HH0 := Lib.hid hd0
    clear hd0
    have cP0 := BP.cell 0
    have cQ0 := BQ.cell 0
    simp at cP0 cQ0
    rw [hw0] at cP0 cQ0
    go_wp2_with fail
    go_ret
    exact ⟨ret_bool (by rw [HD.out, HH0.out]; first | rfl | simp), by first | exact T0 | (rw [← hw0]; exact T0)⟩
  have ht0 : (x.1 == y.1) = true := eqq_bool hd0
  have HH0 := Lib.hid hd0
  clear hd0
  have cP0 := BP.cell 0
  have cQ0 := BQ.cell 0
  simp at cP0 cQ0
  rw [hw0] at cP0 cQ0
  rcases hd1 : eqC (x.2.1) (y.2.1) with _ | _
  · have HH1 := Lib.hid hd1
    clear hd1
    have cP1 := BP.cell 1
    have cQ1 := BQ.cell 1
    have cP2 := BP.cell 2
    have cQ2 := BQ.cell 2
    simp at cP1 cQ1 cP2 cQ2
    rw [hw0] at cP1 cQ1 cP2 cQ2
    go_wp2_with fail
    rw [← hw0]
    refine (eqAlgebra_any [.int .i64 x.2.1.1, .slice ABaseOps nBaseOps cBaseOps] [.int .i64 y.2.1.1, .slice AyBaseOps nyBaseOps cyBaseOps] x.2.1 y.2.1 _ (mkAlgebra qBaseSize qBaseOps) (mkAlgebra qyBaseSize qyBaseOps)).mono ?_
    rintro e w1 ⟨rfl, hb1⟩
    rw [HH1.out]
    have T1 := below_next T0 hb1 rfl
    go_wp2_with fail
    go_ret
    exact ⟨ret_bool (by rw [HD.out, HH0.out, HH1.out]; first | rfl | simp), T1⟩
  have HH1 := Lib.hid hd1
  clear hd1
  have cP1 := BP.cell 1
  have cQ1 := BQ.cell 1
  have cP2 := BP.cell 2
  have cQ2 := BQ.cell 2
  simp at cP1 cQ1 cP2 cQ2
  rw [hw0] at cP1 cQ1 cP2 cQ2
  go_wp2_with fail
  rw [← hw0]
  refine (eqAlgebra_any [.int .i64 x.2.1.1, .slice ABaseOps nBaseOps cBaseOps] [.int .i64 y.2.1.1, .slice AyBaseOps nyBaseOps cyBaseOps] x.2.1 y.2.1 _ (mkAlgebra qBaseSize qBaseOps) (mkAlgebra qyBaseSize qyBaseOps)).mono ?_
  rintro e w1 ⟨rfl, hb1⟩
  rw [HH1.out]
  have T1 := below_next T0 hb1 rfl
  clear cP1 cQ1 cP2 cQ2 cP0 cQ0 ht0
  replace BP := BP.next hb1
  replace BQ := BQ.next hb1
  replace qBaseOps := qBaseOps.next hb1
  replace qyBaseOps := qyBaseOps.next hb1
  replace qFacts := qFacts.next hb1
  replace qyFacts := qyFacts.next hb1
  rcases hd2 : eqC (x.2.2.1) (y.2.2.1) with _ | _
  · have HH2 := Lib.hid hd2
    clear hd2
    have cP3 := BP.cell 3
    have cQ3 := BQ.cell 3
    simp at cP3 cQ3
    go_wp2_with fail
    refine (eqFactS_any _ _ _ _ _ _ _ _ _ qFacts qyFacts).mono ?_
    rintro e w2 ⟨rfl, hb2⟩
    rw [HH2.out]
    have T2 := below_next T1 hb2 rfl
    go_wp2_with fail
    go_ret
    exact ⟨ret_bool (by rw [HD.out, HH0.out, HH1.out, HH2.out]; first | rfl | simp), T2⟩
  have HH2 := Lib.hid hd2
  clear hd2
  have cP3 := BP.cell 3
  have cQ3 := BQ.cell 3
  simp at cP3 cQ3
  go_wp2_with fail
  refine (eqFactS_any _ _ _ _ _ _ _ _ _ qFacts qyFacts).mono ?_
  rintro e w2 ⟨rfl, hb2⟩
  rw [HH2.out]
  have T2 := below_next T1 hb2 rfl
  clear cP3 cQ3
  replace BP := BP.next hb2
  replace BQ := BQ.next hb2
  replace qBaseOps := qBaseOps.next hb2
  replace qyBaseOps := qyBaseOps.next hb2
  replace qFacts := qFacts.next hb2
  replace qyFacts := qyFacts.next hb2
  rcases hd3 : eqC (x.2.2.2) (y.2.2.2) with _ | _
  · have ht : (x.2.2.2 != y.2.2.2) = true := neq_int hd3
    have HH3 := Lib.hid hd3
    clear hd3
    have cP4 := BP.cell 4
    have cQ4 := BQ.cell 4
    simp at cP4 cQ4
    go_wp2_with fail
    go_ret
    exact ⟨ret_bool (by rw [HD.out, HH0.out, HH1.out, HH2.out, HH3.out]; first | rfl | simp), by first | exact T2 | (rw [← hw0]; exact T2)⟩
  have ht3 : (x.2.2.2 != y.2.2.2) = false := neq_int hd3
  have HH3 := Lib.hid hd3
  clear hd3
  have cP4 := BP.cell 4
  have cQ4 := BQ.cell 4
  simp at cP4 cQ4
  go_wp2_with fail
  go_ret
  exact ⟨ret_bool (by rw [HD.out, HH0.out, HH1.out, HH2.out, HH3.out]; first | rfl | simp), T2⟩
end Go.Proofs.YtfnmkbpogbekpaaGreatDoor
namespace Go.Proofs.YtfnmkbpogbekpaaGreatDoor
open Go.RowKit

def mcFact (x : FactM) : Nat := 1 + x.2.1.1.length + x.2.1.2.length + x.2.2.length
def mqFact (k : Int) (x : FactM) : FactM := (k, (nums (k + 1) x.2.1.1.length, nums (k + 1 + x.2.1.1.length) x.2.1.2.length), nums (k + 1 + x.2.1.1.length + x.2.1.2.length) x.2.2.length)
def msLab (x : LabM) : Nat := msAlgebra x.2.1 + cntS mcFact x.2.2.1
def mqLab (k : Int) (x : LabM) : LabM := (x.1, mqAlgebra k x.2.1, mkL mqFact mcFact (k + msAlgebra x.2.1) x.2.2.1, x.2.2.2)

set_option linter.unusedVariables false in
set_option maxHeartbeats 8000000 in
theorem heldFactS_any (A : Option Addr) (n c : Nat) (xs : List FactM) (k0 : Int) (w : World) (h : RdN shFact.m shFact.rd w A n (mkL mqFact mcFact k0 xs)) (h0 : 0 ≤ k0) (h1 : k0 + cntS mcFact xs ≤ 4611686018427387904) :
    Calls Tryz.prog 55 #[.slice A n c, .int .i64 k0] w (Bl w (.int .i64 (k0 + cntS mcFact xs))) := by
  have hle := h.le
  have hxl : xs.length = n := by rw [← mkL_len mqFact mcFact k0 xs]; exact h.len
  have HXL := Lib.hid hxl
  clear hxl
  go_enter Tryz.func55, Tryz.ntmps55
  go_wp2
  go_loopw [1, 5] (fun q i wr => ∃ (j : Nat) (k : Int), j ≤ n ∧ i = .int .i64 j ∧ q = .int .i64 k ∧ HkAt mqFact mcFact k0 xs j k ∧ Below w.heap.size w wr) (fun _ i _ => n - (intOf i).toNat)
  case atStart => exact ⟨0, k0, Nat.zero_le _, rfl, rfl, HkAt.start _ _, Below.refl _ _⟩
  case round =>
    obtain ⟨j, k, hj, rfl, rfl, HM, hT⟩ := hrel
    have h' := h.next hT
    by_cases hlt : j < n
    · have hjx : j < xs.length := by rw [HXL.out]; exact hlt
      have hd : xs.drop j = xs[j] :: xs.drop (j + 1) := List.drop_eq_getElem_cons hjx
      generalize xs[j] = x at hd
      obtain ⟨hxj, hk0, hk1⟩ := HM.left hd
      have HS := Lib.hid (HM.step hd)
      obtain ⟨b, o, vs, y, rfl, -, hc, hr, -, hy⟩ := h'.at hlt
      rw [hxj] at hy
      injection hy with hy
      subst hy
      obtain ⟨BL, mL, dL, BR, mR, dR, BS, mS, dS, rfl, q0, qL, qR, qS⟩ := rdFact hr
      have cc0 : wr.cell? ⟨b, o + j * 4, none⟩ = some (.int .i64 k) := hc 0 _ rfl
      have cc1 : wr.cell? ⟨b, o + j * 4 + 1, none⟩ = some (.slice BL mL dL) := hc 1 _ rfl
      have cc2 : wr.cell? ⟨b, o + j * 4 + 2, none⟩ = some (.slice BR mR dR) := hc 2 _ rfl
      have cc3 : wr.cell? ⟨b, o + j * 4 + 3, none⟩ = some (.slice BS mS dS) := hc 3 _ rfl
      have hmc : mcFact x = 1 + x.2.1.1.length + x.2.1.2.length + x.2.2.length := rfl
      have hne : (k != k) = false := by simp
      have hj0 : (0 : Int) ≤ (j : Int) := by omega
      have hj1 : (j : Int) < (n : Int) := by omega
      clear hc hd hxj hr
      go_wp2_with fail
      refine (heldIl_any BL mL dL x.2.1.1 (k + 1) wr qL (by omega) (by omega)).mono ?_
      rintro e w1 ⟨rfl, hb1⟩
      have n1 : ¬ k + 1 + (x.2.1.1.length : Int) < 0 := by omega
      replace cc2 := keepc hb1 cc2
      replace cc3 := keepc hb1 cc3
      have hT1 := below_next hT hb1 rfl
      replace qR := qR.next stab_RI hb1
      replace qS := qS.next stab_RI hb1
      clear cc0 cc1 hb1
      go_wp2_with fail
      refine (heldIl_any BR mR dR x.2.1.2 (k + 1 + x.2.1.1.length) w1 qR (by omega) (by omega)).mono ?_
      rintro e w2 ⟨rfl, hb2⟩
      have n2 : ¬ k + 1 + (x.2.1.1.length : Int) + (x.2.1.2.length : Int) < 0 := by omega
      replace cc3 := keepc hb2 cc3
      have hT2 := below_next hT1 hb2 rfl
      replace qS := qS.next stab_RI hb2
      clear cc2 hb2
      go_wp2_with fail
      refine (heldIl_any BS mS dS x.2.2 (k + 1 + x.2.1.1.length + x.2.1.2.length) w2 qS (by omega) (by omega)).mono ?_
      rintro e w3 ⟨rfl, hb3⟩
      have n3 : ¬ k + 1 + (x.2.1.1.length : Int) + (x.2.1.2.length : Int) + (x.2.2.length : Int) < 0 := by omega
      have hT3 := below_next hT2 hb3 rfl
      clear cc3 hb3
      go_wp2_with fail
      go_roundw
      case rel => exact ⟨j + 1, _, by omega, by go_num, rfl, by rw [show k + 1 + ((x.2.1.1.length : Nat) : Int) + ((x.2.1.2.length : Nat) : Int) + ((x.2.2.length : Nat) : Int) = k + mcFact x from by rw [hmc]; omega]; exact HS.out, hT3⟩
      case measure => simp [intOf]; omega
    · have HK := Lib.hid (HM.done (List.drop_eq_nil_of_le (by rw [HXL.out]; omega)))
      have hlt' : ¬ (j : Int) < (n : Int) := by omega
      go_wp2_with fail
      go_ret
      exact ⟨ret_int HK.out, hT⟩
set_option linter.unusedVariables false in
set_option maxHeartbeats 4000000 in
theorem heldLab_any (cs : List Value) (x : LabM) (k0 : Int) (w : World) (h : shLab.rd w cs (mqLab k0 x)) (h0 : 0 ≤ k0) (h1 : k0 + msLab x ≤ 4611686018427387904) :
    Calls Tryz.prog 21 #[.agg cs.toArray, .int .i64 k0] w (Bl w (.int .i64 (k0 + msLab x))) := by
  obtain ⟨BA, mA, dA, B2, mF, dF, rfl, qS, qA, qF, qR⟩ := rdLab h
  have hms : msLab x = msAlgebra x.2.1 + cntS mcFact x.2.2.1 := rfl
  obtain ⟨w0, hw0, T0, hsz0, BP⟩ := boxes1 w #[.bool x.1, .int .i64 x.2.1.1, .slice BA mA dA, .slice B2 mF dF, .int .i64 x.2.2.2] 27
  have rA := mkAlgebra (x := mqAlgebra k0 x.2.1) (cOps := dA) qS (qA.next T0)
  go_enter Tryz.func21, Tryz.ntmps21
  go_wp2_with fail
  have hw0' : w.alloc (.cells #[.bool (mqLab k0 x).1, .int .i64 (mqLab k0 x).2.1.1, .slice BA mA dA, .slice B2 mF dF, .int .i64 (mqLab k0 x).2.2.2] 27) = w0 := hw0.symm
  rw [hw0']
  clear hw0' hw0
  refine (heldAlgebra_any _ x.2.1 k0 w0 rA h0 (by omega)).mono ?_
  rintro e w1 ⟨rfl, hb1⟩
  have T1 := below_next T0 hb1 rfl
  have cP := (BP.next hb1).cell 3
  simp at cP
  have n1 : ¬ k0 + (msAlgebra x.2.1 : Int) < 0 := by omega
  go_wp2_with fail
  clear cP
  refine (heldFactS_any _ _ _ x.2.2.1 (k0 + msAlgebra x.2.1) w1 (qF.next T1) (by omega) (by omega)).mono ?_
  rintro e w2 ⟨rfl, hb2⟩
  have T2 := below_next T1 hb2 rfl
  have n2 : ¬ k0 + (msAlgebra x.2.1 : Int) + (cntS mcFact x.2.2.1 : Int) < 0 := by omega
  go_wp2_with fail
  go_ret
  exact ⟨ret_int (by omega), T2⟩
end Go.Proofs.YtfnmkbpogbekpaaGreatDoor
namespace Go.Proofs.YtfnmkbpogbekpaaGreatDoor
open Go.RowKit
set_option linter.unusedVariables false
set_option linter.unusedSimpArgs false

/-- Two rows of a call's own lie apart. -/
def Apart (v u : Value) : Prop := ∀ b, v.ownBlock = some b → u.ownBlock ≠ some b
theorem Apart.symm {v u : Value} (h : Apart v u) : Apart u v := fun b h1 h2 => h b h2 h1
theorem apart_new {w w' : World} {b1 b2 e1 e2 s1 s2 n1 n2 : Nat} {v u : Value} {xs ys : List Value} (h : w.ownsRow b1 e1 s1 v n1 xs) (h' : w'.ownsRow b2 e2 s2 u n2 ys) (hb : w.heap.size ≤ b2) : Apart v u := fun b h1 h2 => by
  have := (h.lt b h1).2
  have := (h'.lt b h2).1
  omega
theorem own_setF {w : World} {base e size n : Nat} {v : Value} {xs : List Value} {p : Addr} {u : Value} (h : w.ownsRow base e size v n xs) (hp : p.block < base) : (w.setCell p u).ownsRow base e size v n xs :=
  own_same h fun b hb => Below.heap_setCell w p u b (by have := (h.lt b hb).1; omega)
/-- A copy of an identity. -/
def CeE (w : World) (L R : List Int) (e : Ending) (w' : World) : Prop := ∃ A1 c1 A2 c2, e = .returned (.agg #[.slice A1 L.length c1, .slice A2 R.length c2]) ∧ w'.ownsRow w.heap.size 3 1 (.slice A1 L.length c1) L.length (ints L) ∧ w'.ownsRow w.heap.size 3 1 (.slice A2 R.length c2) R.length (ints R) ∧ Apart (.slice A1 L.length c1) (.slice A2 R.length c2) ∧ Below w.heap.size w w'
set_option maxRecDepth 20000 in
set_option maxHeartbeats 8000000 in
theorem cloneEq_any (AL : Option Addr) (nL cL : Nat) (AR : Option Addr) (nR cR : Nat) (L R : List Int) (w : World) (hL : RdL RI w AL nL L) (hR : RdL RI w AR nR R) (h1 : nL ≤ 1048576) (h2 : nR ≤ 1048576) :
    Calls Tryz.prog 136 #[.agg #[.slice AL nL cL, .slice AR nR cR]] w (CeE w L R) := by
  obtain rfl : L.length = nL := hL.len
  obtain rfl : R.length = nR := hR.len
  obtain ⟨nL, HNL⟩ : ∃ n, Hid (L.length = n) := ⟨_, rfl⟩
  obtain ⟨nR, HNR⟩ : ∃ n, Hid (R.length = n) := ⟨_, rfl⟩
  unfold CeE
  rw [HNL.out] at hL h1 ⊢
  rw [HNR.out] at hR h2 ⊢
  obtain ⟨w0, hw0, T0, hsz0, BP, BQ⟩ := boxes2 w #[.slice AL nL cL, .slice AR nR cR] #[.slice none 0 0, .slice none 0 0] 55 55
  have HW0 := Lib.hid hw0
  have HC1 : Hid (∀ wz, Below w0.heap.size w0 wz → Calls Tryz.prog 137 #[.slice AL nL cL] wz fun e w' => ∃ A' c', e = .returned (.slice A' nL c') ∧ w'.ownsRow wz.heap.size 3 1 (.slice A' nL c') nL (ints L) ∧ Below wz.heap.size wz w') := fun wz hz => clone_any AL nL cL L wz ((hL.next stab_RI T0).next stab_RI hz) h1
  have HC2 : Hid (∀ wz, Below w0.heap.size w0 wz → Calls Tryz.prog 137 #[.slice AR nR cR] wz fun e w' => ∃ A' c', e = .returned (.slice A' nR c') ∧ w'.ownsRow wz.heap.size 3 1 (.slice A' nR c') nR (ints R) ∧ Below wz.heap.size wz w') := fun wz hz => clone_any AR nR cR R wz ((hR.next stab_RI T0).next stab_RI hz) h2
  have cP0 := BP.cell 0
  have cP1 := BP.cell 1
  simp at cP0 cP1
  have cR0 := BQ.cell 0
  have cR1 := BQ.cell 1
  simp at cR0 cR1
  have hne : w.heap.size + 1 ≠ w.heap.size := by omega
  have Tk : Below w0.heap.size w0 w0 := Below.refl _ _
  have hs0 : w.heap.size + 1 < w0.heap.size := by omega
  have HT0 := Lib.hid T0
  clear hw0 hsz0 hL hR
  go_enter Tryz.func136, Tryz.ntmps136
  go_upto_region 1 with fail
  rw [← HW0.out]
  first | (go_region_law (first | (go_simp; go_at_call 137; (with_reducible refine (HC1.out _ ?_).mono ?_); (first | exact Tk | exact Below.drew Tk | exact below_drewN (Below.refl _ _) _ | exact below_drewN Tk _); rintro e wn ⟨A1, c1, rfl, ho1, hbn⟩; (try (have hap := (apart_new ho2 ho1 (by first | exact Nat.le_refl _ | (simp; omega))).symm)); (try replace ho2 := own_next ho2 (by first | exact hbn | exact (below_drewN (Below.refl _ _) _).trans hbn)); replace ho1 := own_mono (base' := w0.heap.size) ho1 (by exact Tk.size); replace Tk := below_next (by first | exact Tk | exact Below.drew Tk | exact below_drewN (Below.refl _ _) _ | exact below_drewN Tk _) hbn rfl; have xP0 := keepc Tk cP0; have xP1 := keepc Tk cP1; have xR0 := keepc Tk cR0; have xR1 := keepc Tk cR1; have fR0 := (BQ.next Tk).frozen 0; have fR1 := (BQ.next Tk).frozen 1) | (go_simp; go_at_call 137; (with_reducible refine (HC2.out _ ?_).mono ?_); (first | exact Tk | exact Below.drew Tk | exact below_drewN (Below.refl _ _) _ | exact below_drewN Tk _); rintro e wn ⟨A2, c2, rfl, ho2, hbn⟩; (try (have hap := apart_new ho1 ho2 (by first | exact Nat.le_refl _ | (simp; omega)))); (try replace ho1 := own_next ho1 (by first | exact hbn | exact (below_drewN (Below.refl _ _) _).trans hbn)); replace ho2 := own_mono (base' := w0.heap.size) ho2 (by exact Tk.size); replace Tk := below_next (by first | exact Tk | exact Below.drew Tk | exact below_drewN (Below.refl _ _) _ | exact below_drewN Tk _) hbn rfl; have xP0 := keepc Tk cP0; have xP1 := keepc Tk cP1; have xR0 := keepc Tk cR0; have xR1 := keepc Tk cR1; have fR0 := (BQ.next Tk).frozen 0; have fR1 := (BQ.next Tk).frozen 1))) | fail
  all_goals
    have BR := BQ.next Tk
    have BRR : Blk ((wn.setCell ⟨w.heap.size + 1, 0, none⟩ (.slice A1 nL c1)).setCell ⟨w.heap.size + 1, 1, none⟩ (.slice A2 nR c2)) (w.heap.size + 1) 55 #[.slice A1 nL c1, .slice A2 nR c2] := by simpa using (BR.set_ 0 (.slice A1 nL c1)).set_ 1 (.slice A2 nR c2)
    have HO1 := Lib.hid (own_setF (own_setF (p := ⟨w.heap.size + 1, 0, none⟩) (u := .slice A1 nL c1) ho1 hs0) (p := ⟨w.heap.size + 1, 1, none⟩) (u := .slice A2 nR c2) hs0)
    have HO2 := Lib.hid (own_setF (own_setF (p := ⟨w.heap.size + 1, 0, none⟩) (u := .slice A1 nL c1) ho2 hs0) (p := ⟨w.heap.size + 1, 1, none⟩) (u := .slice A2 nR c2) hs0)
    have hTT := ((below_next HT0.out Tk rfl).setCell (p := ⟨w.heap.size + 1, 0, none⟩) (show w.heap.size ≤ w.heap.size + 1 by omega) (.slice A1 nL c1)).setCell (p := ⟨w.heap.size + 1, 1, none⟩) (show w.heap.size ≤ w.heap.size + 1 by omega) (.slice A2 nR c2)
    have HTT := Lib.hid hTT
    have HAP := Lib.hid hap
    clear hTT hap ho1 ho2 BR
    go_wp2_with fail
    (try simp only [Exit.inBlock, Exit.then])
    refine bodyPost_ret (v := .agg #[.slice A1 nL c1, .slice A2 nR c2]) (results_cell_row rfl _ _ (w.heap.size + 1) 55 #[.slice A1 nL c1, .slice A2 nR c2] (0, 0) _ (by simp) BRR Tryz.underlying55 rfl (by kernel_rfl)) rfl ?_
    exact ⟨A1, c1, A2, c2, rfl, own_mono HO1.out HT0.out.size, own_mono HO2.out HT0.out.size, HAP.out, HTT.out⟩
/- (printed) -/
/-- A copy of a fact, or what it has become: three rows of the call's own, apart from one another. -/
def CfE (w : World) (f : FactM) (e : Ending) (w' : World) : Prop := ∃ A1 c1 A2 c2 A3 c3, e = .returned (.agg #[.int .i64 f.1, .slice A1 f.2.1.1.length c1, .slice A2 f.2.1.2.length c2, .slice A3 f.2.2.length c3]) ∧ w'.ownsRow w.heap.size 3 1 (.slice A1 f.2.1.1.length c1) f.2.1.1.length (ints f.2.1.1) ∧ w'.ownsRow w.heap.size 3 1 (.slice A2 f.2.1.2.length c2) f.2.1.2.length (ints f.2.1.2) ∧ w'.ownsRow w.heap.size 3 1 (.slice A3 f.2.2.length c3) f.2.2.length (ints f.2.2) ∧
  Apart (.slice A1 f.2.1.1.length c1) (.slice A2 f.2.1.2.length c2) ∧ Apart (.slice A1 f.2.1.1.length c1) (.slice A3 f.2.2.length c3) ∧ Apart (.slice A2 f.2.1.2.length c2) (.slice A3 f.2.2.length c3) ∧ Below w.heap.size w w'
set_option maxRecDepth 20000 in
set_option maxHeartbeats 8000000 in
theorem cloneFact_any (k : Int) (AL : Option Addr) (nL cL : Nat) (AR : Option Addr) (nR cR : Nat) (AV : Option Addr) (nV cV : Nat) (L R V : List Int) (w : World) (hL : RdL RI w AL nL L) (hR : RdL RI w AR nR R) (hV : RdL RI w AV nV V) (h1 : nL ≤ 1048576) (h2 : nR ≤ 1048576) (h3 : nV ≤ 1048576) :
    Calls Tryz.prog 79 #[.agg #[.int .i64 k, .slice AL nL cL, .slice AR nR cR, .slice AV nV cV]] w (CfE w (k, (L, R), V)) := by
  obtain rfl : L.length = nL := hL.len
  obtain rfl : R.length = nR := hR.len
  obtain rfl : V.length = nV := hV.len
  obtain ⟨nL, HNL⟩ : ∃ n, Hid (L.length = n) := ⟨_, rfl⟩
  obtain ⟨nR, HNR⟩ : ∃ n, Hid (R.length = n) := ⟨_, rfl⟩
  obtain ⟨nV, HNV⟩ : ∃ n, Hid (V.length = n) := ⟨_, rfl⟩
  unfold CfE
  simp only
  rw [HNL.out] at hL h1 ⊢
  rw [HNR.out] at hR h2 ⊢
  rw [HNV.out] at hV h3 ⊢
  obtain ⟨w0, hw0, T0, hsz0, BP, BQ⟩ := boxes2 w #[.int .i64 k, .slice AL nL cL, .slice AR nR cR, .slice AV nV cV] #[.int .i64 0, .slice none 0 0, .slice none 0 0, .slice none 0 0] 57 57
  have HW0 := Lib.hid hw0
  have HC1 : Hid (∀ wz, Below w0.heap.size w0 wz → Calls Tryz.prog 136 #[.agg #[.slice AL nL cL, .slice AR nR cR]] wz fun e w' => ∃ A1 c1 A2 c2, e = .returned (.agg #[.slice A1 nL c1, .slice A2 nR c2]) ∧ w'.ownsRow wz.heap.size 3 1 (.slice A1 nL c1) nL (ints L) ∧ w'.ownsRow wz.heap.size 3 1 (.slice A2 nR c2) nR (ints R) ∧ Apart (.slice A1 nL c1) (.slice A2 nR c2) ∧ Below wz.heap.size wz w') := fun wz hz => by
    have := cloneEq_any AL nL cL AR nR cR L R wz ((hL.next stab_RI T0).next stab_RI hz) ((hR.next stab_RI T0).next stab_RI hz) h1 h2
    unfold CeE at this
    rw [HNL.out, HNR.out] at this
    exact this
  have HC2 : Hid (∀ wz, Below w0.heap.size w0 wz → Calls Tryz.prog 137 #[.slice AV nV cV] wz fun e w' => ∃ A' c', e = .returned (.slice A' nV c') ∧ w'.ownsRow wz.heap.size 3 1 (.slice A' nV c') nV (ints V) ∧ Below wz.heap.size wz w') := fun wz hz => clone_any AV nV cV V wz ((hV.next stab_RI T0).next stab_RI hz) h3
  have cP0 := BP.cell 0
  have cP1 := BP.cell 1
  have cP2 := BP.cell 2
  have cP3 := BP.cell 3
  have cR0 := BQ.cell 0
  have cR1 := BQ.cell 1
  have cR2 := BQ.cell 2
  have cR3 := BQ.cell 3
  simp at cP0 cP1 cP2 cP3 cR0 cR1 cR2 cR3
  have hne : w.heap.size + 1 ≠ w.heap.size := by omega
  have Tk : Below w0.heap.size w0 w0 := Below.refl _ _
  have hs0 : w.heap.size + 1 < w0.heap.size := by omega
  have HT0 := Lib.hid T0
  clear hw0 hsz0 hL hR hV
  go_enter Tryz.func79, Tryz.ntmps79
  go_upto_region 1 with fail
  rw [← HW0.out]
  first | (go_region_law (first | (go_simp; go_at_call 136; (with_reducible refine (HC1.out _ ?_).mono ?_); (first | exact Tk | exact Below.drew Tk | exact below_drewN (Below.refl _ _) _ | exact below_drewN Tk _); rintro e wn ⟨A1, c1, A2, c2, rfl, ho1, ho2, ha12, hbn⟩; (try (have ha13 := (apart_new ho3 ho1 (by first | exact Nat.le_refl _ | (simp; omega))).symm)); (try (have ha23 := (apart_new ho3 ho2 (by first | exact Nat.le_refl _ | (simp; omega))).symm)); (try replace ho3 := own_next ho3 (by first | exact hbn | exact (below_drewN (Below.refl _ _) _).trans hbn)); replace ho1 := own_mono (base' := w0.heap.size) ho1 (by exact Tk.size); replace ho2 := own_mono (base' := w0.heap.size) ho2 (by exact Tk.size); replace Tk := below_next (by first | exact Tk | exact Below.drew Tk | exact below_drewN (Below.refl _ _) _ | exact below_drewN Tk _) hbn rfl; have xP0 := keepc Tk cP0; have xP1 := keepc Tk cP1; have xP2 := keepc Tk cP2; have xP3 := keepc Tk cP3; have xR0 := keepc Tk cR0; have xR1 := keepc Tk cR1; have xR2 := keepc Tk cR2; have xR3 := keepc Tk cR3; have fR0 := (BQ.next Tk).frozen 0; have fR1 := (BQ.next Tk).frozen 1; have fR2 := (BQ.next Tk).frozen 2; have fR3 := (BQ.next Tk).frozen 3) | (go_simp; go_at_call 137; (with_reducible refine (HC2.out _ ?_).mono ?_); (first | exact Tk | exact Below.drew Tk | exact below_drewN (Below.refl _ _) _ | exact below_drewN Tk _); rintro e wn ⟨A3, c3, rfl, ho3, hbn⟩; (try (have ha13 := apart_new ho1 ho3 (by first | exact Nat.le_refl _ | (simp; omega)))); (try (have ha23 := apart_new ho2 ho3 (by first | exact Nat.le_refl _ | (simp; omega)))); (try replace ho1 := own_next ho1 (by first | exact hbn | exact (below_drewN (Below.refl _ _) _).trans hbn)); (try replace ho2 := own_next ho2 (by first | exact hbn | exact (below_drewN (Below.refl _ _) _).trans hbn)); replace ho3 := own_mono (base' := w0.heap.size) ho3 (by exact Tk.size); replace Tk := below_next (by first | exact Tk | exact Below.drew Tk | exact below_drewN (Below.refl _ _) _ | exact below_drewN Tk _) hbn rfl; have xP0 := keepc Tk cP0; have xP1 := keepc Tk cP1; have xP2 := keepc Tk cP2; have xP3 := keepc Tk cP3; have xR0 := keepc Tk cR0; have xR1 := keepc Tk cR1; have xR2 := keepc Tk cR2; have xR3 := keepc Tk cR3; have fR0 := (BQ.next Tk).frozen 0; have fR1 := (BQ.next Tk).frozen 1; have fR2 := (BQ.next Tk).frozen 2; have fR3 := (BQ.next Tk).frozen 3))) | fail
  all_goals
    have BR := BQ.next Tk
    obtain ⟨wf, HWF⟩ : ∃ wf, Hid (wf = (((wn.setCell ⟨w.heap.size + 1, 0, none⟩ (.int .i64 k)).setCell ⟨w.heap.size + 1, 1, none⟩ (.slice A1 nL c1)).setCell ⟨w.heap.size + 1, 2, none⟩ (.slice A2 nR c2)).setCell ⟨w.heap.size + 1, 3, none⟩ (.slice A3 nV c3)) := ⟨_, rfl⟩
    have BRR : Blk wf (w.heap.size + 1) 57 #[.int .i64 k, .slice A1 nL c1, .slice A2 nR c2, .slice A3 nV c3] := by rw [HWF.out]; simpa using (((BR.set_ 0 (.int .i64 k)).set_ 1 (.slice A1 nL c1)).set_ 2 (.slice A2 nR c2)).set_ 3 (.slice A3 nV c3)
    have far : ∀ {v : Value} {n : Nat} {xs : List Value}, wn.ownsRow w0.heap.size 3 1 v n xs → wf.ownsRow w0.heap.size 3 1 v n xs := fun h => by
      rw [HWF.out]
      exact own_setF (own_setF (own_setF (own_setF h (by exact hs0)) (by exact hs0)) (by exact hs0)) (by exact hs0)
    have HO1 := Lib.hid (far ho1)
    have HO2 := Lib.hid (far ho2)
    have HO3 := Lib.hid (far ho3)
    have HTT : Hid (Below w.heap.size w wf) := by
      show Below _ _ _
      rw [HWF.out]
      exact ((((below_next HT0.out Tk rfl).setCell (p := ⟨w.heap.size + 1, 0, none⟩) (show w.heap.size ≤ w.heap.size + 1 by omega) _).setCell (p := ⟨w.heap.size + 1, 1, none⟩) (show w.heap.size ≤ w.heap.size + 1 by omega) _).setCell (p := ⟨w.heap.size + 1, 2, none⟩) (show w.heap.size ≤ w.heap.size + 1 by omega) _).setCell (p := ⟨w.heap.size + 1, 3, none⟩) (show w.heap.size ≤ w.heap.size + 1 by omega) _
    have HAP := Lib.hid (And.intro ha12 (And.intro ha13 ha23))
    clear ho1 ho2 ho3 BR ha12 ha13 ha23 far
    go_wp2_with fail
    rw [← HWF.out]
    (try simp only [Exit.inBlock, Exit.then])
    refine bodyPost_ret (v := .agg #[.int .i64 k, .slice A1 nL c1, .slice A2 nR c2, .slice A3 nV c3]) (results_cell_row rfl _ _ (w.heap.size + 1) 57 #[.int .i64 k, .slice A1 nL c1, .slice A2 nR c2, .slice A3 nV c3] (0, 0) _ (by simp) BRR Tryz.underlying57 rfl (by kernel_rfl)) rfl ?_
    exact ⟨A1, c1, A2, c2, A3, c3, rfl, own_mono HO1.out HT0.out.size, own_mono HO2.out HT0.out.size, own_mono HO3.out HT0.out.size, HAP.out.1, HAP.out.2.1, HAP.out.2.2, HTT.out⟩
end Go.Proofs.YtfnmkbpogbekpaaGreatDoor
