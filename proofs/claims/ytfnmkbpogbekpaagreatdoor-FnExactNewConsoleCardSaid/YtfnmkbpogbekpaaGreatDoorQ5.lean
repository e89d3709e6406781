/- Parts of the proof: LabW, LabM, StI, PaS, Lg1, Lg2, Lg3, HLog, KW, NC. -/
import Derived.Test.YtfnmkbpogbekpaaGreatDoorQ4
import Derived.Test.YtfnmkbpogbekpaaGreatDoorQ2
import Derived.Test.YtfnmkbpogbekpaaGreatDoorQ1
import Derived.Test.YtfnmkbpogbekpaaGreatDoorProg
import Derived.Test.YtfnmkbpogbekpaaGreatDoorShelf
import Derived.Lib.ItoaNum
import Derived.Lib.ItoaMem
import Derived.Lib.IndexMore
import Derived.Lib.Strings
import Derived.Lib.AppendIntMem
import Derived.Sort.Grow
import Derived.Deep.RegionHeld3
import Derived.IntWalk
import Derived.Laws.Concat
import Derived.Deep.RegionWith
import Derived.Deep.DeepFit
import Derived.StillTailTactics
import Derived.Lib.IndexLaws
import Derived.RegionTactic
import Derived.ChangeAlike
import Derived.Deep.DeepCutAuto
import Derived.Test.YtfnmkbpogbekpaaGreatDoorQ3
namespace Go.Proofs.YtfnmkbpogbekpaaGreatDoor
open Go.RowKit
set_option linter.unusedVariables false

def LabCap (cs : List Value) : Prop := ∀ F n c, cs[3]? = some (.slice F n c) → n ≤ c
theorem implIsLabv_any (cs : List Value) (x : LabM) (w : World) (h : shLab.rd w cs x) (hcap : LabCap cs) : Calls Tryz.prog 41 #[.agg cs.toArray] w (Bl w (.bool (labB x))) :=
  implIsLab_any (fun cs ds x f w h h' ha => isTrueOf_any cs ds x f w h h' (alg_iff.1 ha)) cs x w h hcap
end Go.Proofs.YtfnmkbpogbekpaaGreatDoor
namespace Go.Proofs.YtfnmkbpogbekpaaGreatDoor
open Go.RowKit

theorem lab_parts {x : LabM} (h : labB x = true) : 0 ≤ x.2.2.2 ∧ x.2.2.2 ≤ 9999 ∧ x.2.2.1.length ≤ 12 ∧ (x.1 = true → AlgP x.2.1) := by
  have h12 : x.2.2.1.length ≤ 12 := by
    by_cases hc : x.2.2.1.length ≤ 12
    · exact hc
    · rw [labB_many hc] at h; cases h
  have h0 : 0 ≤ x.2.2.2 := by
    by_cases hc : x.2.2.2 < 0
    · rw [labB_lo hc] at h; cases h
    · omega
  have h1 : x.2.2.2 ≤ 9999 := by
    by_cases hc : 9999 < x.2.2.2
    · rw [labB_hi hc] at h; cases h
    · omega
  refine ⟨h0, h1, h12, fun ho => ?_⟩
  rw [labB_open h0 h1 ho, Bool.and_eq_true, Bool.and_eq_true] at h
  exact alg_iff.1 h.1.1
end Go.Proofs.YtfnmkbpogbekpaaGreatDoor
namespace Go.Proofs.YtfnmkbpogbekpaaGreatDoor
open Go.RowKit
set_option linter.unusedVariables false

def zLab : LabM := (false, (0, []), [], 0)
def joinTo (p q : List Int) : Nat → List Int
  | 0 => p
  | k + 1 => uniL (joinTo p q k) k (nmAt q k)
def joinP (p q : List Int) : List Int := joinTo p q q.length
def pairL (n : Nat) (p q : List Int) : List Int := (List.range n).map fun i => ((nmAt p i * n + nmAt q i : Nat) : Int)
def meetP (p q : List Int) : List Int := kerL (pairL p.length p q)
/-- The fact of two facts. -/
noncomputable def twoF (x : LabM) (kind a b : Int) : Option FactM :=
  match x.2.2.1[a.toNat]?, x.2.2.1[b.toNat]? with
  | some f, some g =>
    if a = b ∨ f.1 ≠ g.1 then none
    else if f.1 = 3 then some (3, ([], []), if kind = 3 then meetL g.2.2 f.2.2 else genL x.2.1.1.toNat x.2.1.2 (f.2.2 ++ g.2.2))
    else if f.1 = 4 then some (4, ([], []), if kind = 3 then meetP f.2.2 g.2.2 else joinP f.2.2 g.2.2)
    else none
  | _, _ => none
noncomputable def addF (x : LabM) (f : FactM) : LabM := if posF x.2.2.1 f < 0 then (x.1, x.2.1, x.2.2.1 ++ [f], x.2.2.2) else x
noncomputable def makM (x : LabM) (s : LabStepM) : Option LabM :=
  if s.1 = 2 then some (if trueB x.2.1 s.2.2.1 = true ∧ posF x.2.2.1 s.2.2.1 < 0 then (x.1, x.2.1, x.2.2.1 ++ [s.2.2.1], x.2.2.2) else (x.1, x.2.1, x.2.2.1, x.2.2.2 + 1))
  else if s.1 = 3 ∨ s.1 = 4 then (twoF x s.1 s.2.2.2.2.1 s.2.2.2.2.2).map (addF x)
  else if s.1 = 5 then (if s.2.2.2.2.1 < (x.2.2.1.length : Int) then some (x.1, x.2.1, x.2.2.1.take s.2.2.2.2.1.toNat ++ x.2.2.1.drop (s.2.2.2.2.1.toNat + 1), x.2.2.2) else none)
  else if s.1 = 6 then (if permB x.2.1.1.toNat s.2.2.2.1 = true then some (x.1, ren x.2.1 s.2.2.2.1, x.2.2.1.map fun f => (f.1, f.2.1, rfL f.1 f.2.2 s.2.2.2.1), x.2.2.2) else none)
  else some (false, (0, []), [], x.2.2.2)
noncomputable def stepO (x : LabM) (s : LabStepM) : Option LabM :=
  if labB x = true ∧ stepB s = true ∧ (x.1 = true ↔ s.1 ≠ 1) then
    (if s.1 = 1 then (parA s.2.1).map fun a => (true, a, x.2.2.1, x.2.2.2)
     else (makM x s).bind fun y => if y.2.2.1.length ≤ 12 ∧ y.2.2.2 ≤ 9999 then some y else none)
  else none
noncomputable def slR (x : LabM) (s : LabStepM) : LabM := (stepO x s).getD zLab
noncomputable def slOk (x : LabM) (s : LabStepM) : Bool := (stepO x s).isSome
theorem sl_none {x : LabM} {s : LabStepM} (h : stepO x s = none) : slR x s = zLab ∧ slOk x s = false := by unfold slR slOk; rw [h]; exact ⟨rfl, rfl⟩
theorem sl_some {x : LabM} {s : LabStepM} {y : LabM} (h : stepO x s = some y) : slR x s = y ∧ slOk x s = true := by unfold slR slOk; rw [h]; exact ⟨rfl, rfl⟩
theorem stepO_bad {x : LabM} {s : LabStepM} (h : ¬ (labB x = true ∧ stepB s = true ∧ (x.1 = true ↔ s.1 ≠ 1))) : stepO x s = none := by unfold stepO; rw [if_neg h]
theorem stepO_load {x : LabM} {s : LabStepM} (h : labB x = true ∧ stepB s = true ∧ (x.1 = true ↔ s.1 ≠ 1)) (h1 : s.1 = 1) : stepO x s = (parA s.2.1).map fun a => (true, a, x.2.2.1, x.2.2.2) := by unfold stepO; rw [if_pos h, if_pos h1]
theorem stepO_make {x : LabM} {s : LabStepM} (h : labB x = true ∧ stepB s = true ∧ (x.1 = true ↔ s.1 ≠ 1)) (h1 : s.1 ≠ 1) : stepO x s = (makM x s).bind fun y => if y.2.2.1.length ≤ 12 ∧ y.2.2.2 ≤ 9999 then some y else none := by unfold stepO; rw [if_pos h, if_neg h1]

/-! ## Labs whose facts' room may be told smaller -/
def shLabW : Sh LabM := (Sh.pair Sh.bool (Sh.pair shAlgebra (Sh.pair (Sh.rowsW shFact 57) Sh.int)))
/-- A lab of the call's own, its parts by name. -/
def LabD (lo : Nat) (w : World) (x : LabM) (v u : Value) : Prop := ∃ css bls dss cls, PO lo w v x.2.1.2 css bls ∧ PG shFact 4 57 lo w u x.2.2.1 dss cls ∧ ∀ b ∈ obl v ++ bls.flatten, b ∉ obl u ++ cls.flatten
def LabPW (lo : Nat) (w : World) (x : LabM) (v u : Value) : Prop := ∃ css bls dss cls A n c d, u = .slice A n d ∧ n ≤ d ∧ PO lo w v x.2.1.2 css bls ∧ PG shFact 4 57 lo w (.slice A n c) x.2.2.1 dss cls ∧ ∀ b ∈ obl v ++ bls.flatten, b ∉ obl (.slice A n c) ++ cls.flatten
theorem own_cap_le {w : World} {base size n c m : Nat} {e : TypeId} {A : Option Addr} {xs : List Value} (h : w.ownsRow base e size (.slice A n c) m xs) : n ≤ c := by
  rcases h.2 with ⟨h1, -⟩ | ⟨g, cap, cur, h1, -, -, h2, -⟩
  · injection h1 with _ e2 e3
    omega
  · injection h1 with _ e2 e3
    omega
theorem LabP.d {lo : Nat} {w : World} {x : LabM} {v u : Value} (h : LabP lo w x v u) : LabD lo w x v u := by
  obtain ⟨css, bls, dss, cls, mid, h1, h2, h3, h4⟩ := h
  exact ⟨css, bls, dss, cls, h1, h4.mono h3, fun b hb hb' => by
    have := h2.2 b hb
    have := h4.2.2.2 b hb'
    omega⟩
theorem LabD.w {lo : Nat} {w : World} {x : LabM} {v u : Value} (h : LabD lo w x v u) : LabPW lo w x v u := by
  obtain ⟨css, bls, dss, cls, h1, h4, h5⟩ := h
  obtain ⟨A, c, rfl⟩ := own_slice h4.2.1
  exact ⟨css, bls, dss, cls, A, _, c, c, rfl, own_cap_le h4.2.1, h1, h4, h5⟩
theorem LabD.next {lo : Nat} {w w' : World} {x : LabM} {v u : Value} (h : LabD lo w x v u) (hb : Below w.heap.size w w') : LabD lo w' x v u := by
  obtain ⟨css, bls, dss, cls, h1, h4, h5⟩ := h
  exact ⟨css, bls, dss, cls, h1.next hb, h4.next hb, h5⟩
theorem LabD.setB {lo : Nat} {w : World} {x : LabM} {v u : Value} (h : LabD lo w x v u) {g k : Nat} {cs : Array Value} (hB : Blk w g 27 cs) (q : Value) : LabD lo (w.setCell ⟨g, k, none⟩ q) x v u := by
  obtain ⟨css, bls, dss, cls, h1, h4, h5⟩ := h
  exact ⟨css, bls, dss, cls, h1.setB hB (by decide) (by decide) q, PGf.setB h4 hB (by decide) (by decide) q, h5⟩
theorem LabPW.next {lo : Nat} {w w' : World} {x : LabM} {v u : Value} (h : LabPW lo w x v u) (hb : Below w.heap.size w w') : LabPW lo w' x v u := by
  obtain ⟨css, bls, dss, cls, A, n, c, d, h0, h00, h1, h4, h5⟩ := h
  exact ⟨css, bls, dss, cls, A, n, c, d, h0, h00, h1.next hb, h4.next hb, h5⟩
theorem LabPW.far {lo : Nat} {w : World} {x : LabM} {v u : Value} (h : LabPW lo w x v u) {p : Addr} (hp : p.block < lo) (q : Value) : LabPW lo (w.setCell p q) x v u := by
  obtain ⟨css, bls, dss, cls, A, n, c, d, h0, h00, h1, h4, h5⟩ := h
  exact ⟨css, bls, dss, cls, A, n, c, d, h0, h00, h1.far hp q, h4.far hp q, h5⟩
theorem LabPW.setB {lo : Nat} {w : World} {x : LabM} {v u : Value} (h : LabPW lo w x v u) {g k : Nat} {cs : Array Value} (hB : Blk w g 27 cs) (q : Value) : LabPW lo (w.setCell ⟨g, k, none⟩ q) x v u := by
  obtain ⟨css, bls, dss, cls, A, n, c, d, h0, h00, h1, h4, h5⟩ := h
  exact ⟨css, bls, dss, cls, A, n, c, d, h0, h00, h1.setB hB (by decide) (by decide) q, PGf.setB h4 hB (by decide) (by decide) q, h5⟩
theorem LabPW.mono {lo lo' : Nat} {w : World} {x : LabM} {v u : Value} (h : LabPW lo w x v u) (hl : lo' ≤ lo) : LabPW lo' w x v u := by
  obtain ⟨css, bls, dss, cls, A, n, c, d, h0, h00, h1, h4, h5⟩ := h
  exact ⟨css, bls, dss, cls, A, n, c, d, h0, h00, h1.mono hl, h4.mono hl, h5⟩
theorem LabPW.slices {lo : Nat} {w : World} {x : LabM} {v u : Value} (h : LabPW lo w x v u) : ∃ A1 c1 A2 c2, v = .slice A1 x.2.1.2.length c1 ∧ u = .slice A2 x.2.2.1.length c2 ∧ x.2.2.1.length ≤ c2 := by
  obtain ⟨css, bls, dss, cls, A, n, c, d, rfl, h00, h1, h4, h5⟩ := h
  obtain ⟨A1, c1, e⟩ := own_slice h1.2.1
  obtain ⟨A2, c2, e2⟩ := own_slice h4.2.1
  injection e2 with a1 a2 a3
  subst a1
  subst a2
  exact ⟨A1, c1, _, d, e, rfl, h00⟩
theorem LabPW.own {lo : Nat} {w : World} {x : LabM} {v u : Value} (h : LabPW lo w x v u) (h1 : InR x.2.1.1) (h2 : InR x.2.2.2) : ∃ bl, shLabW.own w [.bool x.1, .int .i64 x.2.1.1, v, u, .int .i64 x.2.2.2] x bl ∧ Iv lo w.heap.size bl := by
  obtain ⟨css, bls, dss, cls, A, n, c, d, rfl, h00, p1, p4, p5⟩ := h
  refine ⟨[] ++ ((obl v ++ bls.flatten) ++ ((obl (.slice A n c) ++ cls.flatten) ++ [])), ⟨[_], [_, _, _, _], [], _, rfl, rfl, ⟨_, rfl, rfl, rfl⟩, ⟨[_, _], [_, _], _, _, rfl, rfl, p1.algO h1, ⟨[_], [_], _, [], rfl, rfl, ⟨A, n, c, d, dss, cls, rfl, h00, p4.1, rfl⟩, ⟨_, rfl, ⟨rfl, h2.1, h2.2⟩, rfl⟩⟩⟩⟩, ?_⟩
  rw [List.nil_append, List.append_nil]
  exact iv_apart p1.2.2 p4.2.2 p5
theorem labW_zero (lo : Nat) (w : World) : LabPW lo w zLab (.slice none 0 0) (.slice none 0 0) :=
  ⟨[], [], [], [], none, 0, 0, 0, rfl, Nat.le_refl _, PO.nil _ _, PG.nil _ _ _ _ _, fun b hb => by simp [obl, Value.ownBlock] at hb⟩
theorem LabD.mono {lo lo' : Nat} {w : World} {x : LabM} {v u : Value} (h : LabD lo w x v u) (hl : lo' ≤ lo) : LabD lo' w x v u := by
  obtain ⟨css, bls, dss, cls, h1, h4, h5⟩ := h
  exact ⟨css, bls, dss, cls, h1.mono hl, h4.mono hl, h5⟩
theorem own_base {w : World} {size n lo : Nat} {e : TypeId} {v : Value} {xs : List Value} (h : w.ownsRow 0 e size v n xs) (hb : ∀ b, v.ownBlock = some b → lo ≤ b) : w.ownsRow lo e size v n xs := by
  refine ⟨h.1, ?_⟩
  rcases h.2 with h1 | ⟨g, cap, cur, rfl, -, h3⟩
  · exact .inl h1
  · exact .inr ⟨g, cap, cur, rfl, hb g rfl, h3⟩
theorem PO.of_own {w : World} {cs : List Value} {a : AlgebraM} {bl : List Nat} {lo hi : Nat} (h : shAlgebra.own w cs a bl) (hiv : Iv lo hi bl) (hh : hi ≤ w.heap.size) : ∃ A c css bls, cs = [.int .i64 a.1, .slice A a.2.length c] ∧ PO lo w (.slice A a.2.length c) a.2 css bls ∧ bl = obl (.slice A a.2.length c) ++ bls.flatten ∧ InR a.1 := by
  obtain ⟨c1, c2, b1, b2, rfl, rfl, ⟨_, rfl, ⟨rfl, h1, h2⟩, rfl⟩, ⟨v, css, bls, rfl, P, rfl⟩⟩ := h
  obtain ⟨A, c, rfl⟩ := own_slice P.row
  refine ⟨A, c, css, bls, rfl, ⟨P, own_base P.row fun b hb => (hiv.2 b (by rw [List.nil_append]; exact List.mem_append_left _ (mem_obl.2 hb))).1, ?_⟩, rfl, ⟨h1, h2⟩⟩
  exact (by simpa using hiv : Iv lo hi _).mono (Nat.le_refl _) hh
theorem OwA_lab {w w' : World} {x : LabM} {v u : Value} {r : LabM} {ok b : Bool} (h : LabPW w.heap.size w' x v u) (h1 : InR x.2.1.1) (h2 : InR x.2.2.2) (hb : Below w.heap.size w w') (e : r = x ∧ ok = b) :
    OwA shLabW w r ok (.returned (.tuple #[.agg #[.bool x.1, .int .i64 x.2.1.1, v, u, .int .i64 x.2.2.2], .bool b])) w' := by
  obtain ⟨rfl, rfl⟩ := e
  obtain ⟨bl, ho, hiv⟩ := h.own h1 h2
  exact ⟨_, bl, rfl, ho, hiv, hb⟩
theorem OwA_zlab {w w' : World} {r : LabM} {ok : Bool} (hb : Below w.heap.size w w') (e : r = zLab ∧ ok = false) :
    OwA shLabW w r ok (.returned (.tuple #[.agg #[.bool false, .int .i64 0, .slice none 0 0, .slice none 0 0, .int .i64 0], .bool false])) w' :=
  OwA_lab (x := zLab) (labW_zero _ _) ⟨by decide, by decide⟩ ⟨by decide, by decide⟩ hb e
/-- What a step leaves in the box of a lab. -/
def MkO (Bd g : Nat) (x : LabM) (s : LabStepM) (w : World) (e : Ending) (w' : World) : Prop := Below Bd w w' ∧ ((makM x s = none ∧ e = .returned (.bool false)) ∨ ∃ y v u, makM x s = some y ∧ e = .returned (.bool true) ∧ Blk w' g 27 #[.bool y.1, .int .i64 y.2.1.1, v, u, .int .i64 y.2.2.2] ∧ LabPW Bd w' y v u ∧ InR y.2.1.1 ∧ InR y.2.2.2)
theorem blk_set5 {w : World} {g : Nat} {a0 a1 a2 a3 a4 : Value} (h : Blk w g 27 #[a0, a1, a2, a3, a4]) (a b c d e : Value) : Blk (((((w.setCell ⟨g, 0, none⟩ a).setCell ⟨g, 1, none⟩ b).setCell ⟨g, 2, none⟩ c).setCell ⟨g, 3, none⟩ d).setCell ⟨g, 4, none⟩ e) g 27 #[a, b, c, d, e] := by
  simpa using ((((h.set_ 0 a).set_ 1 b).set_ 2 c).set_ 3 d).set_ 4 e
theorem below_set5 {B g : Nat} {w w' : World} (h : Below B w w') (hg : B ≤ g) (a b c d e : Value) : Below B w (((((w'.setCell ⟨g, 0, none⟩ a).setCell ⟨g, 1, none⟩ b).setCell ⟨g, 2, none⟩ c).setCell ⟨g, 3, none⟩ d).setCell ⟨g, 4, none⟩ e) :=
  ((((h.setCell (p := ⟨g, 0, none⟩) hg a).setCell (p := ⟨g, 1, none⟩) hg b).setCell (p := ⟨g, 2, none⟩) hg c).setCell (p := ⟨g, 3, none⟩) hg d).setCell (p := ⟨g, 4, none⟩) hg e
theorem LabPW.set5 {lo : Nat} {w : World} {x : LabM} {v u : Value} (h : LabPW lo w x v u) {g : Nat} {cs : Array Value} (hB : Blk w g 27 cs) (a b c d e : Value) : LabPW lo (((((w.setCell ⟨g, 0, none⟩ a).setCell ⟨g, 1, none⟩ b).setCell ⟨g, 2, none⟩ c).setCell ⟨g, 3, none⟩ d).setCell ⟨g, 4, none⟩ e) x v u := by
  have h0 := hB.set_ 0 a
  have h1 := h0.set_ 1 b
  have h2 := h1.set_ 2 c
  have h3 := h2.set_ 3 d
  exact ((((h.setB hB a).setB h0 b).setB h1 c).setB h2 d).setB h3 e
end Go.Proofs.YtfnmkbpogbekpaaGreatDoor
namespace Go.Proofs.YtfnmkbpogbekpaaGreatDoor
open Go.RowKit
set_option linter.unusedVariables false
set_option linter.unusedSimpArgs false

theorem pa_opt (s : ByteArray) : (parA s = none ∧ paA s = (0, []) ∧ paB s = false) ∨ ∃ a, parA s = some a ∧ paA s = a ∧ paB s = true := by
  cases h : parA s with
  | none => exact .inl ⟨rfl, (pa_none h).1, (pa_none h).2⟩
  | some a => exact .inr ⟨a, rfl, (pa_some h).1, (pa_some h).2⟩
theorem lab_shut {x : LabM} (h : labB x = true) (ho : x.1 = false) : x.2.1 = (0, []) ∧ x.2.2.1 = [] := by
  obtain ⟨h0, h1, -, -⟩ := lab_parts h
  rw [labB_shut h0 h1 ho, Bool.and_eq_true, Bool.and_eq_true, decide_eq_true_iff, decide_eq_true_iff, decide_eq_true_iff] at h
  exact ⟨Prod.ext h.1.1 (List.length_eq_zero_iff.1 h.1.2), List.length_eq_zero_iff.1 h.2⟩
set_option maxRecDepth 100000 in
set_option maxHeartbeats 16000000 in
theorem implStep_of (cs ds : List Value) (x : LabM) (s : LabStepM) (w : World) (h : shLab.rd w cs x) (hcap : LabCap cs) (h' : shLabStep.rd w ds s) (hn : shLab.cnt x ≤ 1048576) (hn' : s.2.1.size ≤ 1048576) (ht : TabP w)
    (hms : s.1 ≠ 1 → labB x = true → stepB s = true → x.1 = true → ∀ (B : Nat) (wz : World) (g : Nat) (v u : Value), Below w.heap.size w wz → w.heap.size ≤ B → B ≤ g → Blk wz g 27 #[.bool x.1, .int .i64 x.2.1.1, v, u, .int .i64 x.2.2.2] → LabD B wz x v u → Calls Tryz.prog 45 #[.pointer (some ⟨g, 0, none⟩), .agg ds.toArray] wz (MkO B g x s wz)) :
    Calls Tryz.prog 16 #[.agg cs.toArray, .agg ds.toArray] w (OwA shLabW w (slR x s) (slOk x s)) := by
  have hrd := h
  have hrd' := h'
  obtain ⟨Bo, k, d, F, n, c, rfl, qZ, qO, qF, qR⟩ := rdLab h
  obtain ⟨AL, nL, cL, AR, nR, cR, AV, nV, cV, AS, nS, cS, rfl, pK, pT, pF, pL, pR, pV, pS, pA, pB⟩ := rdLabStep h'
  obtain ⟨w0, hw0, T0, hsz0, BP, BQ, BZ⟩ := boxes3' w #[.bool x.1, .int .i64 x.2.1.1, .slice Bo k d, .slice F n c, .int .i64 x.2.2.2] #[.int .i64 s.1, .string s.2.1, .int .i64 s.2.2.1.1, .slice AL nL cL, .slice AR nR cR, .slice AV nV cV, .slice AS nS cS, .int .i64 s.2.2.2.2.1, .int .i64 s.2.2.2.2.2] #[.bool false, .int .i64 0, .slice none 0 0, .slice none 0 0, .int .i64 0] 27 59 27
  have HW0 := Lib.hid hw0
  have hs0 : w.heap.size + 2 < w0.heap.size := by omega
  have HIL := Lib.hid (implIsLabv_any _ x w0 (shLab.stab hrd T0.block) hcap)
  have HIS : Hid (∀ wz, Below w0.heap.size w0 wz → Calls Tryz.prog 42 #[.agg #[.int .i64 s.1, .string s.2.1, .int .i64 s.2.2.1.1, .slice AL nL cL, .slice AR nR cR, .slice AV nV cV, .slice AS nS cS, .int .i64 s.2.2.2.2.1, .int .i64 s.2.2.2.2.2]] wz (Bl wz (.bool (stepB s)))) := fun wz hz => implIsLabStep_any _ s wz (shLabStep.stab (shLabStep.stab hrd' T0.block) hz.block)
  have HCL : Hid (∀ wz, Below w0.heap.size w0 wz → Calls Tryz.prog 43 #[.agg #[.bool x.1, .int .i64 x.2.1.1, .slice Bo k d, .slice F n c, .int .i64 x.2.2.2]] wz (LabE wz x)) := fun wz hz => cloneLab_any _ x wz (shLab.stab (shLab.stab hrd T0.block) hz.block) hn
  have HPA : Hid (∀ wz, Below w0.heap.size w0 wz → Calls Tryz.prog 44 #[.string s.2.1] wz (OwA shAlgebra wz (paA s.2.1) (paB s.2.1))) := fun wz hz => parseAlgebra_any s.2.1 wz hn' ((ht.next T0).next hz)
  have HMS := Lib.hid hms
  have HQZ := Lib.hid qZ
  have HQR := Lib.hid qR
  have hkr : -9223372036854775808 ≤ s.1 ∧ s.1 ≤ 9223372036854775807 := pK
  have HT0 := Lib.hid T0
  have cP0 := BP.cell 0
  have cP1 := BP.cell 1
  have cP2 := BP.cell 2
  have cP3 := BP.cell 3
  have cP4 := BP.cell 4
  have cQ0 := BQ.cell 0
  have cQ1 := BQ.cell 1
  have cQ2 := BQ.cell 2
  have cQ3 := BQ.cell 3
  have cQ4 := BQ.cell 4
  have cQ5 := BQ.cell 5
  have cQ6 := BQ.cell 6
  have cQ7 := BQ.cell 7
  have cQ8 := BQ.cell 8
  simp at cP0 cP1 cP2 cP3 cP4 cQ0 cQ1 cQ2 cQ3 cQ4 cQ5 cQ6 cQ7 cQ8
  obtain ⟨lb, HLB⟩ : ∃ b, Hid (labB x = b) := ⟨_, Lib.hid rfl⟩
  obtain ⟨sb, HSB⟩ : ∃ b, Hid (stepB s = b) := ⟨_, Lib.hid rfl⟩
  obtain ⟨xo, HXO⟩ : ∃ b, Hid (x.1 = b) := ⟨_, Lib.hid rfl⟩
  rw [HLB.out] at HIL
  rw [HSB.out] at HIS
  clear hw0 hsz0 h h' hrd hrd' hms qO qF qZ qR pK pT pF pL pR pV pS pA pB hcap hn ht T0
  go_enter Tryz.func16, Tryz.ntmps16
  go_upto_region 1 with fail
  rw [← HW0.out]
  go_wp2_with fail
  refine HIL.out.mono ?_
  rintro e w1 ⟨rfl, hb1⟩
  have BZ1 := BZ.next hb1
  have T1 := below_next HT0.out hb1 rfl
  have cZ0 := BZ1.cell 0
  have cZ1 := BZ1.cell 1
  have cZ2 := BZ1.cell 2
  have cZ3 := BZ1.cell 3
  have cZ4 := BZ1.cell 4
  have fZ0 := BZ1.frozen 0
  have fZ1 := BZ1.frozen 1
  have fZ2 := BZ1.frozen 2
  have fZ3 := BZ1.frozen 3
  have fZ4 := BZ1.frozen 4
  simp at cZ0 cZ1 cZ2 cZ3 cZ4
  have HBZ := Lib.hid (blk_set5 BZ1 (.bool false) (.int .i64 0) (.slice none 0 0) (.slice none 0 0) (.int .i64 0))
  have HTZ := Lib.hid (below_set5 T1 (g := w.heap.size + 1 + 1) (by omega) (.bool false) (.int .i64 0) (.slice none 0 0) (.slice none 0 0) (.int .i64 0))
  rcases lb with _ | _
  · have HE := Lib.hid (sl_none (stepO_bad (x := x) (s := s) (fun h => by rw [HLB.out] at h; exact absurd h.1 (by decide))))
    go_wp2_with fail
    (try simp only [Exit.inBlock, Exit.then])
    refine bodyPost_ret (v := .tuple #[.agg #[.bool false, .int .i64 0, .slice none 0 0, .slice none 0 0, .int .i64 0], .bool false]) (res_row_tmpF rfl _ _ (w.heap.size + 1 + 1) 27 #[.bool false, .int .i64 0, .slice none 0 0, .slice none 0 0, .int .i64 0] (0, 0) _ _ (by simp) HBZ.out Tryz.underlying27 rfl (by kernel_rfl) (by simp)) rfl ?_
    exact OwA_zlab HTZ.out HE.out
  · clear cZ0 cZ1 cZ2 cZ3 cZ4 fZ0 fZ1 fZ2 fZ3 fZ4 HBZ HTZ
    replace cP0 := keepc hb1 cP0
    replace cP1 := keepc hb1 cP1
    replace cP2 := keepc hb1 cP2
    replace cP3 := keepc hb1 cP3
    replace cP4 := keepc hb1 cP4
    replace cQ0 := keepc hb1 cQ0
    replace cQ1 := keepc hb1 cQ1
    replace cQ2 := keepc hb1 cQ2
    replace cQ3 := keepc hb1 cQ3
    replace cQ4 := keepc hb1 cQ4
    replace cQ5 := keepc hb1 cQ5
    replace cQ6 := keepc hb1 cQ6
    replace cQ7 := keepc hb1 cQ7
    replace cQ8 := keepc hb1 cQ8
    go_wp2_with fail
    refine (HIS.out w1 hb1).mono ?_
    rintro e w2 ⟨rfl, hb2⟩
    have T2 := below_next T1 hb2 rfl
    have hb12 := below_next hb1 hb2 rfl
    have BZ2 := BZ1.next hb2
    replace cP0 := keepc hb2 cP0
    replace cP1 := keepc hb2 cP1
    replace cP2 := keepc hb2 cP2
    replace cP3 := keepc hb2 cP3
    replace cP4 := keepc hb2 cP4
    replace cQ0 := keepc hb2 cQ0
    replace cQ1 := keepc hb2 cQ1
    replace cQ2 := keepc hb2 cQ2
    replace cQ3 := keepc hb2 cQ3
    replace cQ4 := keepc hb2 cQ4
    replace cQ5 := keepc hb2 cQ5
    replace cQ6 := keepc hb2 cQ6
    replace cQ7 := keepc hb2 cQ7
    replace cQ8 := keepc hb2 cQ8
    clear BZ1 BZ BP BQ
    rcases sb with _ | _
    · have HE := Lib.hid (sl_none (stepO_bad (x := x) (s := s) (fun h => by rw [HSB.out] at h; exact absurd h.2.1 (by decide))))
      have BZq := BZ2
      have cZ0 := BZq.cell 0
      have cZ1 := BZq.cell 1
      have cZ2 := BZq.cell 2
      have cZ3 := BZq.cell 3
      have cZ4 := BZq.cell 4
      have fZ0 := BZq.frozen 0
      have fZ1 := BZq.frozen 1
      have fZ2 := BZq.frozen 2
      have fZ3 := BZq.frozen 3
      have fZ4 := BZq.frozen 4
      simp at cZ0 cZ1 cZ2 cZ3 cZ4
      have HBZ := Lib.hid (blk_set5 BZq (.bool false) (.int .i64 0) (.slice none 0 0) (.slice none 0 0) (.int .i64 0))
      have HTZ := Lib.hid (below_set5 T2 (g := w.heap.size + 1 + 1) (by omega) (.bool false) (.int .i64 0) (.slice none 0 0) (.slice none 0 0) (.int .i64 0))
      clear BZq
      go_wp2_with fail
      (try simp only [Exit.inBlock, Exit.then])
      refine bodyPost_ret (v := .tuple #[.agg #[.bool false, .int .i64 0, .slice none 0 0, .slice none 0 0, .int .i64 0], .bool false]) (res_row_tmpF rfl _ _ (w.heap.size + 1 + 1) 27 #[.bool false, .int .i64 0, .slice none 0 0, .slice none 0 0, .int .i64 0] (0, 0) _ _ (by simp) HBZ.out Tryz.underlying27 rfl (by kernel_rfl) (by simp)) rfl ?_
      exact OwA_zlab HTZ.out HE.out
    · rw [HXO.out] at cP0 HCL
      have HKQ := Lib.hid hkr
      obtain ⟨kk, HKK⟩ : ∃ k, Hid (s.1 = k) := ⟨_, Lib.hid rfl⟩
      have HCQ := Lib.hid (And.intro cQ0 (And.intro cQ1 (And.intro cQ2 (And.intro cQ3 (And.intro cQ4 (And.intro cQ5 (And.intro cQ6 (And.intro cQ7 cQ8))))))))
      have cK0 := cQ0
      by_cases hbad : (xo = true ↔ s.1 ≠ 1)
      rotate_left
      · have HE := Lib.hid (sl_none (stepO_bad (x := x) (s := s) (fun h => by rw [HXO.out] at h; exact hbad h.2.2)))
        have hdec : (xo == (s.1 != 1)) = false := by
          rcases xo with _ | _
          · by_cases h1 : s.1 = 1
            · exact absurd (by simp [h1]) hbad
            · simp [h1]
          · by_cases h1 : s.1 = 1
            · simp [h1]
            · exact absurd (by simp [h1]) hbad
        clear hbad
        have BZq := BZ2
        have cZ0 := BZq.cell 0
        have cZ1 := BZq.cell 1
        have cZ2 := BZq.cell 2
        have cZ3 := BZq.cell 3
        have cZ4 := BZq.cell 4
        have fZ0 := BZq.frozen 0
        have fZ1 := BZq.frozen 1
        have fZ2 := BZq.frozen 2
        have fZ3 := BZq.frozen 3
        have fZ4 := BZq.frozen 4
        simp at cZ0 cZ1 cZ2 cZ3 cZ4
        have HBZ := Lib.hid (blk_set5 BZq (.bool false) (.int .i64 0) (.slice none 0 0) (.slice none 0 0) (.int .i64 0))
        have HTZ := Lib.hid (below_set5 T2 (g := w.heap.size + 1 + 1) (by omega) (.bool false) (.int .i64 0) (.slice none 0 0) (.slice none 0 0) (.int .i64 0))
        clear BZq
        go_wp2_with fail
        (try simp only [Exit.inBlock, Exit.then])
        refine bodyPost_ret (v := .tuple #[.agg #[.bool false, .int .i64 0, .slice none 0 0, .slice none 0 0, .int .i64 0], .bool false]) (res_row_tmpF rfl _ _ (w.heap.size + 1 + 1) 27 #[.bool false, .int .i64 0, .slice none 0 0, .slice none 0 0, .int .i64 0] (0, 0) _ _ (by simp) HBZ.out Tryz.underlying27 rfl (by kernel_rfl) (by simp)) rfl ?_
        exact OwA_zlab HTZ.out HE.out
      · have hdec : (xo == (s.1 != 1)) = true := by
          rcases xo with _ | _
          · by_cases h1 : s.1 = 1
            · simp [h1]
            · exact absurd (hbad.2 h1) (by decide)
          · by_cases h1 : s.1 = 1
            · exact absurd h1 (hbad.1 rfl)
            · simp [h1]
        have HBD := Lib.hid hbad
        clear hbad
        go_wp2_with fail
        refine (HCL.out w2 hb12).mono ?_
        rintro e w3 ⟨v, u, rfl, hLP, hb3⟩
        have T3 := below_next T2 hb3 rfl
        obtain ⟨A1, c1, A2, c2, rfl, rfl, hc2⟩ := hLP.d.w.slices
        have hLD := hLP.d.mono (lo' := w0.heap.size) hb12.size
        replace cQ0 := keepc hb3 cQ0
        replace cQ1 := keepc hb3 cQ1
        replace cQ2 := keepc hb3 cQ2
        replace cQ3 := keepc hb3 cQ3
        replace cQ4 := keepc hb3 cQ4
        replace cQ5 := keepc hb3 cQ5
        replace cQ6 := keepc hb3 cQ6
        replace cQ7 := keepc hb3 cQ7
        replace cQ8 := keepc hb3 cQ8
        obtain ⟨w4, HW4⟩ : ∃ wb, Hid (wb = w3.alloc (.cells #[.bool x.1, .int .i64 x.2.1.1, .slice A1 x.2.1.2.length c1, .slice A2 x.2.2.1.length c2, .int .i64 x.2.2.2] 27)) := ⟨_, Lib.hid rfl⟩
        have hb4 : Below w3.heap.size w3 w4 := by rw [HW4.out]; exact below_box _ _
        have BG4 : Blk w4 w3.heap.size 27 #[.bool x.1, .int .i64 x.2.1.1, .slice A1 x.2.1.2.length c1, .slice A2 x.2.2.1.length c2, .int .i64 x.2.2.2] := by rw [HW4.out]; exact Blk.new _ _ _
        have T4 := below_next T3 hb4 rfl
        have hb24 := below_next hb3 hb4 rfl
        have BZ4 := BZ2.next hb24
        have hLD4 := hLD.next hb4
        have hz34 : w3.heap.size < w4.heap.size := BG4.lt
        have hz3 : w.heap.size + 1 + 1 < w3.heap.size := by have := BZ2.lt; have := hb3.size; omega
        have hl3 : w.heap.size ≤ w3.heap.size := by omega
        replace cQ0 := keepc hb4 cQ0
        replace cQ1 := keepc hb4 cQ1
        replace cQ2 := keepc hb4 cQ2
        replace cQ3 := keepc hb4 cQ3
        replace cQ4 := keepc hb4 cQ4
        replace cQ5 := keepc hb4 cQ5
        replace cQ6 := keepc hb4 cQ6
        replace cQ7 := keepc hb4 cQ7
        replace cQ8 := keepc hb4 cQ8
        clear cP0 cP1 cP2 cP3 cP4 hLP hLD HCL HIL HIS BZ2
        go_upto_region 4 with fail
        rw [← HW4.out]
        by_cases hk1 : s.1 = 1
        · have hko : xo = false := by
            rcases xo with _ | _
            · rfl
            · exact absurd hk1 (HBD.out.1 rfl)
          have HSH := Lib.hid (lab_shut HLB.out (HXO.out.trans hko))
          have HAL : Hid (labB x = true ∧ stepB s = true ∧ (x.1 = true ↔ s.1 ≠ 1)) := ⟨HLB.out, HSB.out, by rw [HXO.out]; exact HBD.out⟩
          have hkt : (s.1 == 1) = true := by rw [hk1]; rfl
          have HSL := Lib.hid (stepO_load HAL.out hk1)
          have HP4 := Lib.hid (HPA.out w4 (below_next hb12 hb24 rfl))
          clear hk1 hko hdec
          go_wp2_with fail
          refine HP4.out.mono ?_
          rintro e w5 ⟨csA, blA, rfl, hOA, hIA, hb5⟩
          have T5 := below_next T4 hb5 rfl
          rcases pa_opt s.2.1 with ⟨q1, q2, q3⟩ | ⟨a, q1, q2, q3⟩
          · have HE := Lib.hid (sl_none (HSL.out.trans (by rw [q1]; rfl)))
            rw [q2] at hOA
            obtain ⟨Aa, ca, cssA, blsA, rfl, hPOA, hblA, -⟩ := PO.of_own hOA hIA (Nat.le_refl _)
            rw [q3]
            have hbx := below_box w5 (.cells #[.int .i64 0, .slice Aa 0 ca] 24)
            have T6 := below_next T5 hbx rfl
            have BZ6 := (BZ4.next hb5).next hbx
            obtain ⟨w6, HW6⟩ : ∃ wb, Hid (wb = w5.alloc (.cells #[.int .i64 0, .slice Aa 0 ca] 24)) := ⟨_, Lib.hid rfl⟩
            rw [← HW6.out] at T6 BZ6
            clear q1 q2 q3 hbx
            go_upto_region 6 with fail
            (try simp only [List.length_nil])
            rw [← HW6.out]
            have BZq := BZ6
            have cZ0 := BZq.cell 0
            have cZ1 := BZq.cell 1
            have cZ2 := BZq.cell 2
            have cZ3 := BZq.cell 3
            have cZ4 := BZq.cell 4
            have fZ0 := BZq.frozen 0
            have fZ1 := BZq.frozen 1
            have fZ2 := BZq.frozen 2
            have fZ3 := BZq.frozen 3
            have fZ4 := BZq.frozen 4
            simp at cZ0 cZ1 cZ2 cZ3 cZ4
            have HBZ := Lib.hid (blk_set5 BZq (.bool false) (.int .i64 0) (.slice none 0 0) (.slice none 0 0) (.int .i64 0))
            have HTZ := Lib.hid (below_set5 T6 (g := w.heap.size + 1 + 1) (by omega) (.bool false) (.int .i64 0) (.slice none 0 0) (.slice none 0 0) (.int .i64 0))
            clear BZq
            go_wp2_with fail
            (try simp only [Exit.inBlock, Exit.then])
            refine bodyPost_ret (v := .tuple #[.agg #[.bool false, .int .i64 0, .slice none 0 0, .slice none 0 0, .int .i64 0], .bool false]) (res_row_tmpF rfl _ _ (w.heap.size + 1 + 1) 27 #[.bool false, .int .i64 0, .slice none 0 0, .slice none 0 0, .int .i64 0] (0, 0) _ _ (by simp) HBZ.out Tryz.underlying27 rfl (by kernel_rfl) (by simp)) rfl ?_
            exact OwA_zlab HTZ.out HE.out
          · have HE := Lib.hid (sl_some (HSL.out.trans (by rw [q1]; rfl)))
            rw [q2] at hOA
            obtain ⟨Aa, ca, cssA, blsA, rfl, hPOA, hblA, hInA⟩ := PO.of_own hOA hIA (Nat.le_refl _)
            rw [q3]
            have HIA := Lib.hid hInA
            have hbx := below_box w5 (.cells #[.int .i64 a.1, .slice Aa a.2.length ca] 24)
            obtain ⟨w6, HW6⟩ : ∃ wb, Hid (wb = w5.alloc (.cells #[.int .i64 a.1, .slice Aa a.2.length ca] 24)) := ⟨_, Lib.hid rfl⟩
            rw [← HW6.out] at hbx
            have BXA : Blk w6 w5.heap.size 24 #[.int .i64 a.1, .slice Aa a.2.length ca] := by rw [HW6.out]; exact Blk.new _ _ _
            have T6 := below_next T5 hbx rfl
            have BZ6 := (BZ4.next hb5).next hbx
            have BG6 := (BG4.next hb5).next hbx
            have HLW : Hid (LabPW w.heap.size w6 (true, a, x.2.2.1, x.2.2.2) (.slice Aa a.2.length ca) (.slice A2 x.2.2.1.length c2)) := by
              obtain ⟨css, bls, dss, cls, h1, h4, h5⟩ := hLD4
              refine ⟨cssA, blsA, dss, cls, A2, _, c2, c2, rfl, hc2, (hPOA.mono T4.size).next hbx, ((h4.mono (by omega)).next hb5).next hbx, fun b hb hb' => ?_⟩
              have e1 := hPOA.2.2.2 b hb
              have e2 := h4.2.2.2 b hb'
              omega
            have cA0 := BXA.cell 0
            have cA1 := BXA.cell 1
            have cG0 := BG6.cell 0
            have cG1 := BG6.cell 1
            have cG2 := BG6.cell 2
            have fG0 := BG6.frozen 0
            have fG1 := BG6.frozen 1
            have fG2 := BG6.frozen 2
            simp at cA0 cA1 cG0 cG1 cG2
            have hneg : w3.heap.size ≠ w5.heap.size := by have := hb5.size; omega
            have HBG := Lib.hid BG6
            have HBX := Lib.hid BZ6
            have HTX := Lib.hid T6
            clear q1 q2 q3 hOA hPOA hLD4 BG6 BZ6 T6 hbx hInA
            go_upto_region 8 with fail
            rw [← HW6.out]
            go_cut [] from 40 to 42 (fun wx => Blk wx w3.heap.size 27 #[.bool true, .int .i64 a.1, .slice Aa a.2.length ca, .slice A2 x.2.2.1.length c2, .int .i64 x.2.2.2] ∧ LabPW w.heap.size wx (true, a, x.2.2.1, x.2.2.2) (.slice Aa a.2.length ca) (.slice A2 x.2.2.1.length c2) ∧ Below w.heap.size w wx ∧ Blk wx (w.heap.size + 1 + 1) 27 #[.bool false, .int .i64 0, .slice none 0 0, .slice none 0 0, .int .i64 0])
            case first =>
              go_region
              all_goals
                go_wp2_with fail
                go_meet
                have B0 := HBG.out.set_ 0 (.bool true)
                have B1 := B0.set_ 1 (.int .i64 a.1)
                have B2 := B1.set_ 2 (.slice Aa a.2.length ca)
                have L3 := ((HLW.out.setB HBG.out (k := 0) (.bool true)).setB B0 (k := 1) (.int .i64 a.1)).setB B1 (k := 2) (.slice Aa a.2.length ca)
                have T3' := ((HTX.out.setCell (p := ⟨w3.heap.size, 0, none⟩) hl3 (.bool true)).setCell (p := ⟨w3.heap.size, 1, none⟩) hl3 (.int .i64 a.1)).setCell (p := ⟨w3.heap.size, 2, none⟩) hl3 (.slice Aa a.2.length ca)
                have Z3 := ((HBX.out.far (p := ⟨w3.heap.size, 0, none⟩) (by show _ ≠ w3.heap.size; omega) (.bool true)).far (p := ⟨w3.heap.size, 1, none⟩) (by show _ ≠ w3.heap.size; omega) (.int .i64 a.1)).far (p := ⟨w3.heap.size, 2, none⟩) (by show _ ≠ w3.heap.size; omega) (.slice Aa a.2.length ca)
                have hd : ∀ wq : World, Below wq.heap.size wq wq.drew := fun wq => Below.drew (Below.refl _ _)
                exact ⟨Blk.next (by simpa using B2) (hd _), LabPW.next L3 (hd _), below_next T3' (hd _) rfl, Blk.next Z3 (hd _)⟩
            case rest =>
              obtain ⟨BG7, HL7, T7, BZ7⟩ := hcut
              obtain ⟨w7, HWC⟩ : ∃ wq : World, wq = wc := ⟨_, rfl⟩
              subst HWC
              have HLZ := Lib.hid (LabPW.set5 HL7 BZ7 (.bool true) (.int .i64 a.1) (.slice Aa a.2.length ca) (.slice A2 x.2.2.1.length c2) (.int .i64 x.2.2.2))
              clear cG0 cG1 cG2 fG0 fG1 fG2
              have cG0 := BG7.cell 0
              have cG1 := BG7.cell 1
              have cG2 := BG7.cell 2
              have cG3 := BG7.cell 3
              have cG4 := BG7.cell 4
              simp at cG0 cG1 cG2 cG3 cG4
              have BZq := BZ7
              have cZ0 := BZq.cell 0
              have cZ1 := BZq.cell 1
              have cZ2 := BZq.cell 2
              have cZ3 := BZq.cell 3
              have cZ4 := BZq.cell 4
              have fZ0 := BZq.frozen 0
              have fZ1 := BZq.frozen 1
              have fZ2 := BZq.frozen 2
              have fZ3 := BZq.frozen 3
              have fZ4 := BZq.frozen 4
              simp at cZ0 cZ1 cZ2 cZ3 cZ4
              have HBZ := Lib.hid (blk_set5 BZq (.bool true) (.int .i64 a.1) (.slice Aa a.2.length ca) (.slice A2 x.2.2.1.length c2) (.int .i64 x.2.2.2))
              have HTZ := Lib.hid (below_set5 T7 (g := w.heap.size + 1 + 1) (by omega) (.bool true) (.int .i64 a.1) (.slice Aa a.2.length ca) (.slice A2 x.2.2.1.length c2) (.int .i64 x.2.2.2))
              have hne7 : w3.heap.size ≠ w.heap.size + 1 + 1 := by omega
              clear BZq BG7 HL7 BZ7
              go_wp2_with fail
              (try simp only [Exit.inBlock, Exit.then])
              refine bodyPost_ret (v := .tuple #[.agg #[.bool true, .int .i64 a.1, .slice Aa a.2.length ca, .slice A2 x.2.2.1.length c2, .int .i64 x.2.2.2], .bool true]) (res_row_tmpF rfl _ _ (w.heap.size + 1 + 1) 27 #[.bool true, .int .i64 a.1, .slice Aa a.2.length ca, .slice A2 x.2.2.1.length c2, .int .i64 x.2.2.2] (0, 0) _ _ (by simp) HBZ.out Tryz.underlying27 rfl (by kernel_rfl) (by simp)) rfl ?_
              exact OwA_lab (x := (true, a, x.2.2.1, x.2.2.2)) HLZ.out HIA.out HQR.out HTZ.out HE.out
        · have hko : xo = true := HBD.out.2 hk1
          have hkt : (s.1 == 1) = false := by rw [beq_eq_false_iff_ne]; exact hk1
          have HAL : Hid (labB x = true ∧ stepB s = true ∧ (x.1 = true ↔ s.1 ≠ 1)) := ⟨HLB.out, HSB.out, by rw [HXO.out]; exact HBD.out⟩
          have HSM := Lib.hid (stepO_make HAL.out hk1)
          have hl0 : w0.heap.size ≤ w3.heap.size := by have := hb12.size; have := hb3.size; omega
          have HM4 := Lib.hid (HMS.out hk1 HLB.out HSB.out (HXO.out.trans hko) w0.heap.size w4 w3.heap.size _ _ T4 (by omega) hl0 BG4 hLD4)
          have hzw : w.heap.size + 1 + 1 < w0.heap.size := by omega
          have HZ4 := Lib.hid BZ4
          clear hk1 hko hdec BG4 hLD4 BZ4
          go_wp2_with fail
          refine HM4.out.mono ?_
          rintro e w5 ⟨hT5, hcase⟩
          have T5 : Below w.heap.size w w5 := T4.trans (hT5.mono (by omega))
          have hne7 : w3.heap.size ≠ w.heap.size + 1 + 1 := by omega
          have hB0 : w.heap.size ≤ w0.heap.size := by omega
          have BZ5 := HZ4.out.below hT5 hzw
          clear cQ0 cQ1 cQ2 cQ3 cQ4 cQ5 cQ6 cQ7 cQ8 cK0 hb1 hb2 hb12 hb3 hb4 hb24 T1 T2 T3 T4 hT5 hz34 hkt hkr hc2 HM4 HW4 HW0 hs0 hz3 hzw hl0 hl3 hn'
          rcases hcase with ⟨hno, rfl⟩ | ⟨y, v, u, hyes, rfl, BG5, hL5, hI1, hI2⟩
          · have HE := Lib.hid (sl_none (by rw [HSM.out, hno, Option.bind_none]))
            clear hno
            have BZq := BZ5
            have cZ0 := BZq.cell 0
            have cZ1 := BZq.cell 1
            have cZ2 := BZq.cell 2
            have cZ3 := BZq.cell 3
            have cZ4 := BZq.cell 4
            have fZ0 := BZq.frozen 0
            have fZ1 := BZq.frozen 1
            have fZ2 := BZq.frozen 2
            have fZ3 := BZq.frozen 3
            have fZ4 := BZq.frozen 4
            simp at cZ0 cZ1 cZ2 cZ3 cZ4
            have HBZ := Lib.hid (blk_set5 BZq (.bool false) (.int .i64 0) (.slice none 0 0) (.slice none 0 0) (.int .i64 0))
            have HTZ := Lib.hid (below_set5 T5 (g := w.heap.size + 1 + 1) (by omega) (.bool false) (.int .i64 0) (.slice none 0 0) (.slice none 0 0) (.int .i64 0))
            clear BZq
            go_wp2_with fail
            (try simp only [Exit.inBlock, Exit.then])
            refine bodyPost_ret (v := .tuple #[.agg #[.bool false, .int .i64 0, .slice none 0 0, .slice none 0 0, .int .i64 0], .bool false]) (res_row_tmpF rfl _ _ (w.heap.size + 1 + 1) 27 #[.bool false, .int .i64 0, .slice none 0 0, .slice none 0 0, .int .i64 0] (0, 0) _ _ (by simp) HBZ.out Tryz.underlying27 rfl (by kernel_rfl) (by simp)) rfl ?_
            exact OwA_zlab HTZ.out HE.out
          · obtain ⟨Av, cv, Au, cu, rfl, rfl, hcu⟩ := hL5.slices
            have HSM2 := Lib.hid (HSM.out.trans (by rw [hyes]))
            obtain ⟨yo, ⟨ya, yops⟩, yfs, yr⟩ := y
            simp only at BG5 hL5 HSM2 hI1 hI2 hcu ⊢
            obtain ⟨nf, HNF⟩ : ∃ q, Hid (yfs.length = q) := ⟨_, Lib.hid rfl⟩
            obtain ⟨no, HNO⟩ : ∃ q, Hid (yops.length = q) := ⟨_, Lib.hid rfl⟩
            rw [HNF.out, HNO.out] at BG5 hL5
            clear hcu hyes
            have HI1 := Lib.hid hI1
            have HI2 := Lib.hid hI2
            have cG0 := BG5.cell 0
            have cG1 := BG5.cell 1
            have cG2 := BG5.cell 2
            have cG3 := BG5.cell 3
            have cG4 := BG5.cell 4
            simp at cG0 cG1 cG2 cG3 cG4
            by_cases h12 : (12 : Int) < (nf : Int)
            · have HE := Lib.hid (sl_none (HSM2.out.trans (if_neg (fun h => by have := h.1; have := HNF.out; simp only at *; omega))))
              clear BG5 hL5 hI1 hI2
              have BZq := BZ5
              have cZ0 := BZq.cell 0
              have cZ1 := BZq.cell 1
              have cZ2 := BZq.cell 2
              have cZ3 := BZq.cell 3
              have cZ4 := BZq.cell 4
              have fZ0 := BZq.frozen 0
              have fZ1 := BZq.frozen 1
              have fZ2 := BZq.frozen 2
              have fZ3 := BZq.frozen 3
              have fZ4 := BZq.frozen 4
              simp at cZ0 cZ1 cZ2 cZ3 cZ4
              have HBZ := Lib.hid (blk_set5 BZq (.bool false) (.int .i64 0) (.slice none 0 0) (.slice none 0 0) (.int .i64 0))
              have HTZ := Lib.hid (below_set5 T5 (g := w.heap.size + 1 + 1) (by omega) (.bool false) (.int .i64 0) (.slice none 0 0) (.slice none 0 0) (.int .i64 0))
              clear BZq
              go_wp2_with fail
              (try simp only [Exit.inBlock, Exit.then])
              refine bodyPost_ret (v := .tuple #[.agg #[.bool false, .int .i64 0, .slice none 0 0, .slice none 0 0, .int .i64 0], .bool false]) (res_row_tmpF rfl _ _ (w.heap.size + 1 + 1) 27 #[.bool false, .int .i64 0, .slice none 0 0, .slice none 0 0, .int .i64 0] (0, 0) _ _ (by simp) HBZ.out Tryz.underlying27 rfl (by kernel_rfl) (by simp)) rfl ?_
              exact OwA_zlab HTZ.out HE.out
            · by_cases h99 : (9999 : Int) < yr
              · have HE := Lib.hid (sl_none (HSM2.out.trans (if_neg (fun h => by have := h.2; simp only at *; omega))))
                clear BG5 hL5 hI1 hI2
                have BZq := BZ5
                have cZ0 := BZq.cell 0
                have cZ1 := BZq.cell 1
                have cZ2 := BZq.cell 2
                have cZ3 := BZq.cell 3
                have cZ4 := BZq.cell 4
                have fZ0 := BZq.frozen 0
                have fZ1 := BZq.frozen 1
                have fZ2 := BZq.frozen 2
                have fZ3 := BZq.frozen 3
                have fZ4 := BZq.frozen 4
                simp at cZ0 cZ1 cZ2 cZ3 cZ4
                have HBZ := Lib.hid (blk_set5 BZq (.bool false) (.int .i64 0) (.slice none 0 0) (.slice none 0 0) (.int .i64 0))
                have HTZ := Lib.hid (below_set5 T5 (g := w.heap.size + 1 + 1) (by omega) (.bool false) (.int .i64 0) (.slice none 0 0) (.slice none 0 0) (.int .i64 0))
                clear BZq
                go_wp2_with fail
                (try simp only [Exit.inBlock, Exit.then])
                refine bodyPost_ret (v := .tuple #[.agg #[.bool false, .int .i64 0, .slice none 0 0, .slice none 0 0, .int .i64 0], .bool false]) (res_row_tmpF rfl _ _ (w.heap.size + 1 + 1) 27 #[.bool false, .int .i64 0, .slice none 0 0, .slice none 0 0, .int .i64 0] (0, 0) _ _ (by simp) HBZ.out Tryz.underlying27 rfl (by kernel_rfl) (by simp)) rfl ?_
                exact OwA_zlab HTZ.out HE.out
              · have HE := Lib.hid (sl_some (HSM2.out.trans (if_pos ⟨by have := HNF.out; show yfs.length ≤ 12; omega, by show yr ≤ 9999; omega⟩)))
                have HLZ := Lib.hid (LabPW.set5 (hL5.mono hB0) BZ5 (.bool yo) (.int .i64 ya) (.slice Av no cv) (.slice Au nf cu) (.int .i64 yr) : LabPW w.heap.size _ _ _ _)
                clear hL5 hI1 hI2
                have BZq := BZ5
                have cZ0 := BZq.cell 0
                have cZ1 := BZq.cell 1
                have cZ2 := BZq.cell 2
                have cZ3 := BZq.cell 3
                have cZ4 := BZq.cell 4
                have fZ0 := BZq.frozen 0
                have fZ1 := BZq.frozen 1
                have fZ2 := BZq.frozen 2
                have fZ3 := BZq.frozen 3
                have fZ4 := BZq.frozen 4
                simp at cZ0 cZ1 cZ2 cZ3 cZ4
                have HBZ := Lib.hid (blk_set5 BZq (.bool yo) (.int .i64 ya) (.slice Av no cv) (.slice Au nf cu) (.int .i64 yr))
                have HTZ := Lib.hid (below_set5 T5 (g := w.heap.size + 1 + 1) (by omega) (.bool yo) (.int .i64 ya) (.slice Av no cv) (.slice Au nf cu) (.int .i64 yr))
                clear BZq BG5
                go_upto_region 12 with fail
                clear h12 h99
                go_wp2_with fail
                (try simp only [Exit.inBlock, Exit.then])
                refine bodyPost_ret (v := .tuple #[.agg #[.bool yo, .int .i64 ya, .slice Av no cv, .slice Au nf cu, .int .i64 yr], .bool true]) ?hr rfl ?_
                case hr => exact res_row_tmpF rfl _ _ (w.heap.size + 1 + 1) 27 #[.bool yo, .int .i64 ya, .slice Av no cv, .slice Au nf cu, .int .i64 yr] (0, 0) _ _ rfl HBZ.out Tryz.underlying27 rfl (by kernel_rfl) rfl
                exact OwA_lab (x := (yo, (ya, yops), yfs, yr)) HLZ.out HI1.out HI2.out HTZ.out HE.out
end Go.Proofs.YtfnmkbpogbekpaaGreatDoor
namespace Go.Proofs.YtfnmkbpogbekpaaGreatDoor
open Go.RowKit
set_option linter.unusedVariables false
set_option linter.unusedSimpArgs false

theorem good_bsR {s : ByteArray} {x : AlgebraM} (h : GoodA x) (e : s = mk (txA x)) : splL 59 (bs s) = Lib.itoa x.1 :: (x.2.map fun o => sepB [32] (wsT o.2)) ∧ InD x.1 ∧ OpsIsR x.1.toNat (x.2.map fun o => sepB [32] (wsT o.2)) x.2 := by
  rw [e, bs_of]
  exact good_partsR h
theorem splL_pos (b : UInt8) : ∀ l : Bs, 0 < (splL b l).length
  | [] => by simp [splL]
  | x :: l => by
    have ih := splL_pos b l
    rw [splL]
    split
    · simp
    · cases splL b l with
      | nil => simp
      | cons p ps => simp
theorem splL_le (b : UInt8) : ∀ l : Bs, (splL b l).length ≤ l.length + 1
  | [] => by simp [splL]
  | x :: l => by
    have ih := splL_le b l
    have hp := splL_pos b l
    rw [splL]
    split
    · rw [List.length_cons, List.length_cons]; omega
    · cases e : splL b l with
      | nil => simp
      | cons p ps =>
        rw [e] at ih
        simp only [List.length_cons] at ih ⊢
        omega
theorem splL_piece (b : UInt8) : ∀ (l : Bs), ∀ p ∈ splL b l, p.length ≤ l.length
  | [], p, h => by
    rw [splL, List.mem_singleton] at h
    rw [h]
    exact Nat.le_refl _
  | x :: l, p, h => by
    have ih := splL_piece b l
    rw [splL] at h
    split at h
    · rcases List.mem_cons.1 h with rfl | h
      · exact Nat.zero_le _
      · have := ih p h
        rw [List.length_cons]; omega
    · cases e : splL b l with
      | nil =>
        rw [e] at h
        simp only [List.mem_singleton] at h
        rw [h]
        simp
      | cons q qs =>
        rw [e] at h ih
        simp only at h
        rcases List.mem_cons.1 h with rfl | h
        · have := ih q (List.mem_cons_self ..)
          simp only [List.length_cons]; omega
        · have := ih p (List.mem_cons_of_mem _ h)
          rw [List.length_cons]; omega
def OpsW (n : Nat) (ps : List Bs) (ops : List OpM) : Prop := ps.length = ops.length ∧ ∀ (k : Nat) (p : Bs) (o : OpM), ps[k]? = some p → ops[k]? = some o → (∃ h ws, splL 32 p = h :: ws ∧ WsIs ws o.2) ∧ o.1 = arL n o.2.length
theorem OpsIsR.w {n : Nat} {ps : List Bs} {ops : List OpM} (h : OpsIsR n ps ops) : OpsW n ps ops := ⟨h.1, fun k p o h1 h2 => by
  obtain ⟨⟨ws, e, hw⟩, ha⟩ := h.2 k p o h1 h2
  exact ⟨⟨[], ws, e, hw⟩, ha⟩⟩
theorem OpsW.nil (n : Nat) : OpsW n [] [] := ⟨rfl, fun k p o h => by simp at h⟩
theorem OpsW.snoc {n : Nat} {ps : List Bs} {ops : List OpM} (h : OpsW n ps ops) {p : Bs} {T : List Int} (hw : ∃ h ws, splL 32 p = h :: ws ∧ WsIs ws T) : OpsW n (ps ++ [p]) (ops ++ [(arL n T.length, T)]) := by
  refine ⟨by simp [h.1], fun k q o h1 h2 => ?_⟩
  by_cases hk : k < ps.length
  · rw [List.getElem?_append_left hk] at h1
    rw [List.getElem?_append_left (by rw [← h.1]; exact hk)] at h2
    exact h.2 k q o h1 h2
  · have hl := (List.getElem?_eq_some_iff.1 h1).1
    rw [List.length_append, List.length_singleton] at hl
    have e : k = ps.length := by omega
    subst e
    rw [List.getElem?_append_right (Nat.le_refl _), Nat.sub_self] at h1
    rw [h.1, List.getElem?_append_right (Nat.le_refl _), Nat.sub_self] at h2
    simp at h1 h2
    subst h1
    subst h2
    exact ⟨hw, rfl⟩
theorem OpsW.unique {n : Nat} {ps : List Bs} {a b : List OpM} (h : OpsW n ps a) (h' : OpsW n ps b) : a = b := by
  apply List.ext_getElem?
  intro k
  by_cases hk : k < ps.length
  · have ea : a[k]? = some (a[k]'(by rw [← h.1]; exact hk)) := List.getElem?_eq_getElem _
    have eb : b[k]? = some (b[k]'(by rw [← h'.1]; exact hk)) := List.getElem?_eq_getElem _
    obtain ⟨⟨h1, w1, a0, a1, -⟩, a2⟩ := h.2 k _ _ (List.getElem?_eq_getElem hk) ea
    obtain ⟨⟨h2, w2, b0, b1, -⟩, b2⟩ := h'.2 k _ _ (List.getElem?_eq_getElem hk) eb
    rw [a0] at b0
    injection b0 with _ e0
    have e := wsT_inj (a1.symm.trans (e0.trans b1))
    rw [ea, eb]
    congr 1
    refine Prod.ext ?_ e
    rw [a2, b2, e]
  · rw [List.getElem?_eq_none (by rw [← h.1]; omega), List.getElem?_eq_none (by rw [← h'.1]; omega)]
def arM (g : Nat) (w : World) : Nat := 3 - (intOf ((w.cell? ⟨g, 0, none⟩).getD undef)).toNat
theorem arM_at {g : Nat} {w : World} {k : Nat} (h : w.cell? ⟨g, 0, none⟩ = some (.int .i64 k)) : arM g w = 3 - k := by unfold arM; rw [h]; simp [intOf]
theorem arL_hit {n m k : Nat} (h : ∀ j, j < k → n ^ j ≠ m) (hk : k ≤ 3) (e : n ^ k = m) : arL n m = k := by
  unfold arL
  obtain rfl | rfl | rfl | rfl : k = 0 ∨ k = 1 ∨ k = 2 ∨ k = 3 := by omega
  · rw [if_pos e]; rfl
  · rw [if_neg (h 0 (by omega)), if_pos e]; rfl
  · rw [if_neg (h 0 (by omega)), if_neg (h 1 (by omega)), if_pos e]; rfl
  · rw [if_neg (h 0 (by omega)), if_neg (h 1 (by omega)), if_neg (h 2 (by omega)), if_pos e]; rfl
theorem arL_miss {n m : Nat} (h : ∀ j, j < 4 → n ^ j ≠ m) : arL n m = -1 := by
  unfold arL
  rw [if_neg (h 0 (by omega)), if_neg (h 1 (by omega)), if_neg (h 2 (by omega)), if_neg (h 3 (by omega))]
set_option maxRecDepth 100000 in
set_option maxHeartbeats 16000000 in
theorem specParse_any (s : ByteArray) (w : World) (hs : s.size ≤ 1048576) :
    Calls Tryz.prog 57 #[.string s] w (OwA shAlgebra w (paA s) (paB s)) := by
  obtain ⟨w0, hw0, T0, hsz0, BR⟩ := boxes1 w #[.int .i64 0, .slice none 0 0] 24
  have HW0 := Lib.hid hw0
  obtain ⟨P, HP⟩ : ∃ P, Hid (splL 59 (bs s) = P) := ⟨_, Lib.hid rfl⟩
  have hp0 : 0 < P.length := by rw [← HP.out]; exact splL_pos _ _
  have HSP : Hid (Calls Tryz.prog 94 #[.string s, .int .u8 59] w0 (SplitR w0 P)) := by
    have := l1Split_any s 59 59 rfl w0 (by omega)
    rw [HP.out] at this
    exact this
  have HT0 := Lib.hid T0
  have hz0 : w.heap.size < w0.heap.size := by omega
  obtain ⟨p0, ps, rfl⟩ : ∃ p ps, P = p :: ps := by
    rcases P with _ | ⟨p, ps⟩
    · simp at hp0
    · exact ⟨p, ps, rfl⟩
  unfold SplitR at HSP
  rw [List.length_cons] at HSP
  have hpl : ps.length + 1 ≤ 1048578 := by
    have h1 := congrArg List.length HP.out
    rw [List.length_cons] at h1
    have h2 := splL_le 59 (bs s)
    have h3 : (bs s).length = s.size := rfl
    omega
  have HPS : Hid (∀ p ∈ p0 :: ps, p.length ≤ 1048576) := fun p hp => by
    rw [← HP.out] at hp
    have h1 := splL_piece 59 (bs s) p hp
    have h2 : (bs s).length = s.size := rfl
    omega
  have HG : Hid (∀ x, GoodA x → s = mk (txA x) → p0 = Lib.itoa x.1 ∧ ps.length = x.2.length ∧ InD x.1 ∧ OpsIsR x.1.toNat ps x.2) := fun x h1 h2 => by
    obtain ⟨h3, h4, h5⟩ := good_bsR h1 h2
    rw [HP.out] at h3
    injection h3 with h3 h6
    exact ⟨h3, by rw [h6]; simp, h4, by rw [h6]; exact h5⟩
  clear hw0 hsz0 T0 hp0
  go_enter Tryz.func57, Tryz.ntmps57
  go_upto_region 1 with fail
  rw [← HW0.out]
  go_wp2_with fail
  refine HSP.out.mono ?_
  rintro e w1 ⟨AP, cP, rfl, hRP, hb1⟩
  have BR1 := BR.next hb1
  obtain ⟨gP, oP, vP, rfl, hcP, hvP⟩ := hRP.2.2 0 p0 rfl
  have hvP' : vP = .string (mk p0) := hvP
  subst hvP'
  rw [Nat.add_zero] at hcP
  have hRPl : (0 : Int) < ((ps.length + 1 : Nat) : Int) := by omega
  have HPI := Lib.hid (l1Read_any (mk p0) w1 (by have := HPS.out p0 (List.mem_cons_self ..); rw [size_mk]; omega))
  go_wp2_with fail
  refine HPI.out.mono ?_
  rintro e w2 ⟨rfl, hd2⟩
  have hb2 : Below w1.heap.size w1 w2 := by obtain ⟨z, rfl⟩ := hd2; exact below_drewN (Below.refl _ _) _
  have hb12 := below_next hb1 hb2 rfl
  have BR2 := BR1.next hb2
  have T2 := below_next HT0.out hb12 rfl
  have hwz : w.heap.size < w2.heap.size := BR2.lt
  have HBR := Lib.hid BR2
  have HT2 := Lib.hid T2
  have HRA := Lib.hid (hRP.next stab_RSb hb2)
  have hB22 : Below w2.heap.size w2 w2 := Below.refl _ _
  have BRz := HBR.out.below hB22 hwz
  have cR0 := BRz.cell 0
  have cR1 := BRz.cell 1
  have fR0 := BRz.frozen 0
  have fR1 := BRz.frozen 1
  simp at cR0 cR1
  have BRZ : Blk ((w2.setCell ⟨w.heap.size, 0, none⟩ (.int .i64 0)).setCell ⟨w.heap.size, 1, none⟩ (.slice none 0 0)) w.heap.size 24 #[.int .i64 0, .slice none 0 0] := by simpa using (BRz.set_ 0 (.int .i64 0)).set_ 1 (.slice none 0 0)
  have HBZ := Lib.hid BRZ
  have HTZ : Hid (Below w.heap.size w ((w2.setCell ⟨w.heap.size, 0, none⟩ (.int .i64 0)).setCell ⟨w.heap.size, 1, none⟩ (.slice none 0 0))) := ((below_next HT2.out hB22 rfl).setCell (p := ⟨w.heap.size, 0, none⟩) (Nat.le_refl _) _).setCell (p := ⟨w.heap.size, 1, none⟩) (Nat.le_refl _) _
  clear BRZ BRz
  clear hRP hd2 hcP hvP
  cases hr : readI (mk p0) with
  | none =>
    have HR := Lib.hid (rd_none hr)
    have HX : Hid (paA s = (0, []) ∧ paB s = false) := pa_no fun x h1 h2 => by
      obtain ⟨h3, -, h4, -⟩ := HG.out x h1 h2
      have := readI_some h4 (show mk p0 = mk (Lib.itoa x.1) by rw [h3])
      rw [hr] at this
      cases this
    rw [HR.out.1, HR.out.2]
    clear hr
    go_wp2_with fail
    (try simp only [Exit.inBlock, Exit.then])
    refine bodyPost_ret (v := .tuple #[.agg #[.int .i64 0, .slice none 0 0], .bool false]) (res_row_tmpF rfl _ _ w.heap.size 24 #[.int .i64 0, .slice none 0 0] (0, 0) _ _ (by simp) HBZ.out Tryz.underlying24 rfl (by kernel_rfl) (by simp)) rfl ?_
    exact OwA_no HX.out HTZ.out
  | some z =>
    have HR := Lib.hid (rd_some hr)
    have hz := readI_iff.1 hr
    have hpz : p0 = Lib.itoa z := mk_inj hz.2
    have HZ : Hid (∀ x, GoodA x → s = mk (txA x) → x.1 = z ∧ ps.length = x.2.length ∧ OpsIsR z.toNat ps x.2 ∧ AlgP x) := fun x h1 h2 => by
      obtain ⟨h3, h4, -, h5⟩ := HG.out x h1 h2
      rw [hpz] at h3
      have e := itoa_inj h3
      subst e
      exact ⟨rfl, h4, h5, h1.1⟩
    have hzb := hz.1
    unfold InD at hzb
    rw [HR.out.1, HR.out.2]
    clear hr hz hpz
    by_cases hin : 1 ≤ z ∧ z ≤ 8
    rotate_left
    · have HX : Hid (paA s = (0, []) ∧ paB s = false) := pa_no fun x h1 h2 => by
        obtain ⟨h3, -, -, h5⟩ := HZ.out x h1 h2
        exact hin ⟨by have := h5.1; omega, by have := h5.2.1; omega⟩
      have HI : Hid (inB z 1 8 = false) := by
        show _ = _
        unfold inB
        rw [Bool.and_eq_false_iff, decide_eq_false_iff_not, decide_eq_false_iff_not]
        omega
      go_wp2_with fail
      refine (l1In_any _ _ _ _).mono ?_
      rintro e w' ⟨rfl, rfl⟩
      rw [HI.out]
      go_wp2_with fail
      (try simp only [Exit.inBlock, Exit.then])
      refine bodyPost_ret (v := .tuple #[.agg #[.int .i64 0, .slice none 0 0], .bool false]) (res_row_tmpF rfl _ _ w.heap.size 24 #[.int .i64 0, .slice none 0 0] (0, 0) _ _ (by simp) HBZ.out Tryz.underlying24 rfl (by kernel_rfl) (by simp)) rfl ?_
      exact OwA_no HX.out HTZ.out
    have HI : Hid (inB z 1 8 = true) := by show _ = _; unfold inB; simp; omega
    by_cases hl5 : (5 : Int) < ((ps.length + 1 : Nat) : Int)
    · have HX : Hid (paA s = (0, []) ∧ paB s = false) := pa_no fun x h1 h2 => by
        obtain ⟨h3, h4, -, h5⟩ := HZ.out x h1 h2
        have := h5.2.2.1
        omega
      go_wp2_with fail
      refine (l1In_any _ _ _ _).mono ?_
      rintro e w' ⟨rfl, rfl⟩
      rw [HI.out]
      go_wp2_with fail
      (try simp only [Exit.inBlock, Exit.then])
      refine bodyPost_ret (v := .tuple #[.agg #[.int .i64 0, .slice none 0 0], .bool false]) (res_row_tmpF rfl _ _ w.heap.size 24 #[.int .i64 0, .slice none 0 0] (0, 0) _ _ (by simp) HBZ.out Tryz.underlying24 rfl (by kernel_rfl) (by simp)) rfl ?_
      exact OwA_no HX.out HTZ.out
    obtain ⟨n, rfl⟩ : ∃ n : Nat, z = (n : Int) := ⟨z.toNat, by omega⟩
    have hn1' : 1 ≤ n := by omega
    have hn8' : n ≤ 8 := by omega
    go_wp2_with fail
    refine (l1In_any _ _ _ _).mono ?_
    rintro e w' ⟨rfl, rfl⟩
    rw [HI.out]
    go_upto_region 6 with fail
    obtain ⟨w3, HW3⟩ : ∃ x, Hid (x = w2.alloc (.cells #[.int .i64 n, .slice none 0 0] 24)) := ⟨_, Lib.hid rfl⟩
    rw [← HW3.out]
    have hb3 : Below w2.heap.size w2 w3 := by rw [HW3.out]; exact below_box _ _
    have BA3 : Blk w3 w2.heap.size 24 #[.int .i64 n, .slice none 0 0] := by rw [HW3.out]; exact Blk.new _ _ _
    have HPB : Hid (∀ p ∈ ps, p.length ≤ 1048576) := fun p hp => HPS.out p (List.mem_cons_of_mem _ hp)
    have hlL : ps.length ≤ 4 := by omega
    clear hb2 hb12 hb1 BR1 BR2 cR0 cR1 fR0 fR1 HBZ HPI HSP hl5 T2 hRPl HTZ hin
    go_wp2_with fail
    go_loopw [8] (fun i wr => ∃ (k : Nat) (ops : List OpM) (v : Value) (css : List (List Value)) (bls : List (List Nat)), k ≤ ps.length ∧ i = .int .i64 ((k : Int) + 1) ∧ Blk wr w2.heap.size 24 #[.int .i64 n, v] ∧ PO (w2.heap.size + 1) wr v ops css bls ∧ Hid (OpsW n (ps.take k) ops) ∧ Below w2.heap.size w2 wr) (fun i _ => ps.length + 1 - (intOf i).toNat)
    case atStart => exact ⟨0, [], _, [], [], Nat.zero_le _, rfl, BA3, PO.nil _ _, Lib.hid (by rw [List.take_zero]; exact OpsW.nil _), hb3⟩
    case round =>
      clear BA3 hb3 HW3
      obtain ⟨k, ops, v, css, bls, hk, rfl, BA, hPO, HOI, hB2⟩ := hrel
      obtain ⟨wo, rfl⟩ : ∃ x : World, x = wr := ⟨_, rfl⟩
      have hlo : w2.heap.size + 1 ≤ wo.heap.size := BA.lt
      by_cases hlt : k < ps.length
      · have hk0 : (0 : Int) ≤ (k : Int) + 1 := by omega
        have hk1 : (k : Int) + 1 < ((ps.length + 1 : Nat) : Int) := by omega
        have hkw : IntKind.i64.wrap ((k : Int) + 1) = (k : Int) + 1 := IntWalk.i64_in _ (by omega)
        obtain ⟨bp, op, vp, p, e0, hcp, hvp, -, hxp⟩ := (HRA.out.next stab_RSb hB2).at (k := k + 1) (by omega)
        injection e0 with e0
        injection e0 with e1 e2
        subst e1
        subst e2
        have hvp' : vp = .string (mk p) := hvp
        subst hvp'
        rw [List.getElem?_cons_succ] at hxp
        have hpz := HPB.out p (List.mem_of_getElem? hxp)
        have HXP := Lib.hid hxp
        obtain ⟨W, HW⟩ : ∃ W, Hid (splL 32 p = W) := ⟨_, Lib.hid rfl⟩
        have hW0 : 0 < W.length := by rw [← HW.out]; exact splL_pos _ _
        have hWl : W.length ≤ 1048578 := by rw [← HW.out]; have := splL_le 32 p; omega
        have HWP : Hid (∀ t ∈ W, t.length ≤ 1048576) := fun t ht => by
          rw [← HW.out] at ht
          have := splL_piece 32 p t ht
          omega
        obtain ⟨h, ws, rfl⟩ : ∃ h ws, W = h :: ws := by
          rcases W with _ | ⟨h, ws⟩
          · simp at hW0
          · exact ⟨h, ws, rfl⟩
        rw [List.length_cons] at hWl
        have HSW : Hid (Calls Tryz.prog 94 #[.string (mk p), .int .u8 32] wo (fun e w' => ∃ A c, e = .returned (.slice A (ws.length + 1) c) ∧ w'.ownsRow wo.heap.size 9 1 (.slice A (ws.length + 1) c) (ws.length + 1) (strs (h :: ws)) ∧ Below wo.heap.size wo w')) := by
          have := l1Split_own (mk p) 32 32 rfl wo (by rw [size_mk]; omega)
          rw [bs_of, HW.out] at this
          exact this.mono fun e w' ⟨A, c, h1, h2, h3, _⟩ => ⟨A, c, h1, h2, h3⟩
        have hcp' : wo.cell? ⟨gP, oP + (k + 1), none⟩ = some (.string (mk p)) := hcp
        clear hxp hvp hcp hW0
        go_wp2_with fail
        refine HSW.out.mono ?_
        rintro e w5 ⟨Aw, cw, rfl, how5, hb5⟩
        have hz5 := hb5.size
        obtain ⟨w6, hw6, T6, hsz6, BX6⟩ := boxes1 w5 #[.int .i64 0, .slice none 0 0] 122
        have HW6 := Lib.hid hw6
        have how6 := own_next how5 T6
        have hT6 := below_next hb5 T6 rfl
        have hmz : ∀ m : Nat, m ≤ 1048578 → IntKind.i64.wrap (((m + 1 : Nat) : Int) - 1) = (m : Int) := fun m hm => by
          rw [IntWalk.i64_in _ (by omega)]
          omega
        have hmw := hmz ws.length (by omega)
        have hmw2 : IntKind.i64.wrap (((ws.length : Nat) : Int) + 1 - 1) = (ws.length : Int) := by
          rw [IntWalk.i64_in _ (by omega)]
          omega
        clear hw6 hsz6 how5 HSW hmz
        go_upto_region 11 with fail
        rw [← HW6.out]
        go_wp2_with fail
        go_loopw [65] (fun u wr => ∃ q : Nat, q ≤ 3 ∧ Blk wr w5.heap.size 122 #[.int .i64 (q : Int), .slice none 0 0] ∧ wr.ownsRow wo.heap.size 9 1 (.slice Aw (ws.length + 1) cw) (ws.length + 1) (strs (h :: ws)) ∧ Hid (∀ j, j < q → n ^ j ≠ ws.length) ∧ Below wo.heap.size wo wr ∧ w6.heap.size ≤ wr.heap.size) (fun _ wr => arM w5.heap.size wr)
        case atStart => exact ⟨0, Nat.zero_le _, BX6, how6, Lib.hid (fun j hj => absurd hj (Nat.not_lt_zero _)), hT6, Nat.le_refl _⟩
        case round =>
          clear BX6 how6 hT6
          obtain ⟨q, hq, BX, how, HQ, hT, hz6⟩ := hrel
          have cX0 := BX.cell 0
          have cX1 := BX.cell 1
          have fX0 := BX.frozen 0
          simp at cX0 cX1
          obtain ⟨r, HR2⟩ : ∃ r, Hid (n ^ q = r) := ⟨_, Lib.hid rfl⟩
          have HPW : Hid (∀ wz, Calls Tryz.prog 96 #[.int .i64 n, .int .i64 q] wz fun e w' => e = .returned (.int .i64 r) ∧ wz = w') := fun wz => l2Pow_any n q r wz HR2.out hn8' (by omega)
          by_cases hc : q < 3 ∧ r ≠ ws.length
          · obtain ⟨hq3, hrm⟩ := hc
            have hq3' : (q : Int) < 3 := by omega
            have hne : ((r : Int) != (ws.length : Int)) = true := by rw [bne_iff_ne]; omega
            have HQN : Hid (∀ j, j < q + 1 → n ^ j ≠ ws.length) := fun j hj => by
              rcases Nat.lt_or_ge j q with h' | h'
              · exact HQ.out j h'
              · obtain rfl : j = q := by omega
                rw [HR2.out]
                exact hrm
            clear hrm
            go_wp2_with fail
            refine (HPW.out _).mono ?_
            rintro e w' ⟨rfl, rfl⟩
            have BXN : Blk (wr.setCell ⟨w5.heap.size, 0, none⟩ (.int .i64 ((q + 1 : Nat) : Int))) w5.heap.size 122 #[.int .i64 ((q + 1 : Nat) : Int), .slice none 0 0] := by simpa using BX.set_ 0 (.int .i64 ((q + 1 : Nat) : Int))
            have howN := own_set how (p := ⟨w5.heap.size, 0, none⟩) (own_off how BX (by decide)) (.int .i64 ((q + 1 : Nat) : Int))
            have hTN : Below wo.heap.size wo (wr.setCell ⟨w5.heap.size, 0, none⟩ (.int .i64 ((q + 1 : Nat) : Int))) := hT.setCell (p := ⟨w5.heap.size, 0, none⟩) (by show _ ≤ w5.heap.size; omega) _
            have hqw : IntKind.i64.wrap ((q : Int) + 1) = ((q + 1 : Nat) : Int) := by rw [IntWalk.i64_in _ (by omega)]; push_cast; rfl
            have hzN : w6.heap.size ≤ (wr.setCell ⟨w5.heap.size, 0, none⟩ (.int .i64 ((q + 1 : Nat) : Int))).heap.size := by simp; exact hz6
            have HM : Hid (arM w5.heap.size (wr.setCell ⟨w5.heap.size, 0, none⟩ (.int .i64 ((q + 1 : Nat) : Int))) < arM w5.heap.size wr) := by
              show _ < _
              rw [arM_at (k := q + 1) (by have := BXN.cell 0; simpa using this), arM_at cX0]
              omega
            have HFIN := Lib.hid (And.intro BXN (And.intro howN (And.intro hTN hzN)))
            clear BXN howN hTN hzN BX how hT
            go_wp2_with fail
            (try rw [hqw])
            go_roundw
            case rel => exact ⟨q + 1, by omega, HFIN.out.1, HFIN.out.2.1, HQN, HFIN.out.2.2.1, HFIN.out.2.2.2⟩
            case measure => exact HM.out
          · have hcase : (q < 3 ∧ r = ws.length) ∨ (q = 3 ∧ r = ws.length) ∨ (q = 3 ∧ r ≠ ws.length) := by omega
            have hq0 : (0 : Int) ≤ (q : Int) := by omega
            clear hc
            rcases hcase with ⟨hq3, hrm⟩ | ⟨hq3, hrm⟩ | ⟨hq3, hrm⟩
            rotate_right
            · have hq3' : ¬ (q : Int) < 3 := by omega
              have hne : ((r : Int) != (ws.length : Int)) = true := by rw [bne_iff_ne]; omega
              have HX : Hid (paA s = (0, []) ∧ paB s = false) := pa_no fun x h1 h2 => by
                obtain ⟨h3, h4, h5, h8⟩ := HZ.out x h1 h2
                obtain ⟨o, ho⟩ : ∃ o, x.2[k]? = some o := ⟨x.2[k]'(by rw [← h5.1]; exact hlt), List.getElem?_eq_getElem _⟩
                obtain ⟨⟨ws', h6, h7⟩, h9⟩ := h5.2 k p o HXP.out ho
                rw [HW.out] at h6
                injection h6 with _ h6
                have hl : o.2.length = ws.length := by
                  rw [← h6] at h7
                  have := congrArg List.length h7.1
                  rw [wsT_len] at this
                  exact this.symm
                rw [hl, Int.toNat_natCast, arL_miss (fun j hj => by
                  rcases Nat.lt_or_ge j q with h' | h'
                  · exact HQ.out j h'
                  · obtain rfl : j = q := by omega
                    rw [HR2.out]
                    exact hrm)] at h9
                have := (h8.2.2.2 o (List.mem_of_getElem? ho)).1
                omega
              have hT28 : Below w2.heap.size w2 wr := hB2.trans (hT.mono (by omega))
              have BRz := HBR.out.below hT28 hwz
              have cR0 := BRz.cell 0
              have cR1 := BRz.cell 1
              have fR0 := BRz.frozen 0
              have fR1 := BRz.frozen 1
              simp at cR0 cR1
              have BRZ : Blk ((wr.setCell ⟨w.heap.size, 0, none⟩ (.int .i64 0)).setCell ⟨w.heap.size, 1, none⟩ (.slice none 0 0)) w.heap.size 24 #[.int .i64 0, .slice none 0 0] := by simpa using (BRz.set_ 0 (.int .i64 0)).set_ 1 (.slice none 0 0)
              have HBZ := Lib.hid BRZ
              have HTZ : Hid (Below w.heap.size w ((wr.setCell ⟨w.heap.size, 0, none⟩ (.int .i64 0)).setCell ⟨w.heap.size, 1, none⟩ (.slice none 0 0))) := ((below_next HT2.out hT28 rfl).setCell (p := ⟨w.heap.size, 0, none⟩) (Nat.le_refl _) _).setCell (p := ⟨w.heap.size, 1, none⟩) (Nat.le_refl _) _
              clear BRZ BRz
              clear hrm hq3
              go_wp2_with fail
              refine (HPW.out _).mono ?_
              rintro e w' ⟨rfl, rfl⟩
              go_wp2_with fail
              (try simp only [Exit.inBlock, Exit.then])
              refine bodyPost_ret (v := .tuple #[.agg #[.int .i64 0, .slice none 0 0], .bool false]) (res_row_tmpF rfl _ _ w.heap.size 24 #[.int .i64 0, .slice none 0 0] (0, 0) _ _ (by simp) HBZ.out Tryz.underlying24 rfl (by kernel_rfl) (by simp)) rfl ?_
              exact OwA_no HX.out HTZ.out
            · have hq3' : (q : Int) < 3 := by omega
              have hne : ((r : Int) != (ws.length : Int)) = false := by rw [bne_eq_false_iff_eq]; omega
              clear hq3
              go_wp2_with fail
              refine (HPW.out _).mono ?_
              rintro e w' ⟨rfl, rfl⟩
              have HAR : Hid (arL n ws.length = (q : Int)) := arL_hit HQ.out hq (HR2.out.trans hrm)
              clear hrm
              go_wp2_with fail
              refine (HPW.out _).mono ?_
              rintro e w' ⟨rfl, rfl⟩
              obtain ⟨w7, rfl⟩ : ∃ x : World, x = wr := ⟨_, rfl⟩
              clear cX0 cX1 fX0
              go_wp2_with fail
              go_loopw [11] (fun i wr => ∃ (j : Nat) (T : List Int) (A : Option Addr) (c : Nat), j ≤ ws.length ∧ i = .int .i64 ((j : Int) + 1) ∧ Blk wr w5.heap.size 122 #[.int .i64 (q : Int), .slice A j c] ∧ wr.ownsRow w7.heap.size 3 1 (.slice A j c) j (ints T) ∧ Hid (WsIs (ws.take j) T) ∧ wr.ownsRow wo.heap.size 9 1 (.slice Aw (ws.length + 1) cw) (ws.length + 1) (strs (h :: ws)) ∧ Below wo.heap.size wo wr ∧ w7.heap.size ≤ wr.heap.size) (fun i _ => ws.length + 1 - (intOf i).toNat)
              case atStart => exact ⟨0, [], none, 0, Nat.zero_le _, rfl, BX, World.ownsRow_nil _ _ _ _, Lib.hid ⟨by rw [List.take_zero]; rfl, fun v hv => by cases hv⟩, how, hT, Nat.le_refl _⟩
              case round =>
                have hgx : w5.heap.size < w7.heap.size := BX.lt
                clear BX how hT HPW
                obtain ⟨j, T, At, ct, hj, rfl, BX, hown, HWT, how, hT, hz7⟩ := hrel
                have hrw := rd_strs (by unfold maxLen; omega) how (by rw [List.length_cons])
                by_cases hjl : j < ws.length
                · have hj0 : (0 : Int) ≤ (j : Int) + 1 := by omega
                  have hj1 : (j : Int) + 1 < ((ws.length + 1 : Nat) : Int) := by omega
                  have hjw : IntKind.i64.wrap ((j : Int) + 1) = (j : Int) + 1 := IntWalk.i64_in _ (by omega)
                  obtain ⟨bq, oq, vq, y, rfl, hcq, hvq, -, hxq⟩ := hrw.at (k := j + 1) (by omega)
                  have hvq' : vq = .string (mk y) := hvq
                  subst hvq'
                  rw [List.getElem?_cons_succ] at hxq
                  have hyz := HWP.out y (List.mem_cons_of_mem _ (List.mem_of_getElem? hxq))
                  have HXQ := Lib.hid hxq
                  have HPI2 := Lib.hid (l1Read_any (mk y) wr (by rw [size_mk]; omega))
                  have hcq' : wr.cell? ⟨bq, oq + (j + 1), none⟩ = some (.string (mk y)) := hcq
                  clear hxq hvq hcq hrw
                  go_wp2_with fail
                  refine HPI2.out.mono ?_
                  rintro e w8 ⟨rfl, hd8⟩
                  have hb8 : Below wr.heap.size wr w8 := by obtain ⟨z, rfl⟩ := hd8; exact below_drewN (Below.refl _ _) _
                  have BX8 := BX.next hb8
                  have hT8 := below_next hT hb8 rfl
                  have hown8 := own_next hown hb8
                  have how8 := own_next how hb8
                  have hz88 := hb8.size
                  clear hd8
                  cases hr : readI (mk y) with
                  | none =>
                    have HR3 := Lib.hid (rd_none hr)
                    have HX : Hid (paA s = (0, []) ∧ paB s = false) := pa_no fun x h1 h2 => by
                      obtain ⟨h3, h4, h5, -⟩ := HZ.out x h1 h2
                      obtain ⟨o, ho⟩ : ∃ o, x.2[k]? = some o := ⟨x.2[k]'(by rw [← h5.1]; exact hlt), List.getElem?_eq_getElem _⟩
                      obtain ⟨⟨ws', h6, h7⟩, -⟩ := h5.2 k p o HXP.out ho
                      rw [HW.out] at h6
                      injection h6 with _ h6
                      rw [← h6] at h7
                      exact WsIs.bad HXQ.out hr _ h7
                    have hT28 : Below w2.heap.size w2 w8 := hB2.trans (hT8.mono (by omega))
                    have BRz := HBR.out.below hT28 hwz
                    have cR0 := BRz.cell 0
                    have cR1 := BRz.cell 1
                    have fR0 := BRz.frozen 0
                    have fR1 := BRz.frozen 1
                    simp at cR0 cR1
                    have BRZ : Blk ((w8.setCell ⟨w.heap.size, 0, none⟩ (.int .i64 0)).setCell ⟨w.heap.size, 1, none⟩ (.slice none 0 0)) w.heap.size 24 #[.int .i64 0, .slice none 0 0] := by simpa using (BRz.set_ 0 (.int .i64 0)).set_ 1 (.slice none 0 0)
                    have HBZ := Lib.hid BRZ
                    have HTZ : Hid (Below w.heap.size w ((w8.setCell ⟨w.heap.size, 0, none⟩ (.int .i64 0)).setCell ⟨w.heap.size, 1, none⟩ (.slice none 0 0))) := ((below_next HT2.out hT28 rfl).setCell (p := ⟨w.heap.size, 0, none⟩) (Nat.le_refl _) _).setCell (p := ⟨w.heap.size, 1, none⟩) (Nat.le_refl _) _
                    clear BRZ BRz
                    rw [HR3.out.1, HR3.out.2]
                    clear hr
                    go_wp2_with fail
                    (try simp only [Exit.inBlock, Exit.then])
                    refine bodyPost_ret (v := .tuple #[.agg #[.int .i64 0, .slice none 0 0], .bool false]) (res_row_tmpF rfl _ _ w.heap.size 24 #[.int .i64 0, .slice none 0 0] (0, 0) _ _ (by simp) HBZ.out Tryz.underlying24 rfl (by kernel_rfl) (by simp)) rfl ?_
                    exact OwA_no HX.out HTZ.out
                  | some z =>
                    have HR3 := Lib.hid (rd_some hr)
                    have hz := readI_iff.1 hr
                    have hqz2 : y = Lib.itoa z := mk_inj hz.2
                    have hzb := hz.1
                    unfold InD at hzb
                    have HWN : Hid (WsIs (ws.take (j + 1)) (T ++ [z])) := by
                      refine ⟨?_, fun u hu => ?_⟩
                      · rw [List.take_add_one, HXQ.out, HWT.out.1, hqz2]
                        simp [wsT]
                      · rcases List.mem_append.1 hu with hu | hu
                        · exact HWT.out.2 u hu
                        · rw [List.mem_singleton.1 hu]; exact hz.1
                    rw [HR3.out.1, HR3.out.2]
                    have cX0 := BX8.cell 0
                    have cX1 := BX8.cell 1
                    simp at cX0 cX1
                    have hbase : w7.heap.size ≤ w8.heap.size := by omega
                    clear hr hz hqz2 BX hown hT hb8
                    go_wp2_with (at_builtin; refine app1 w8 rfl _ _ 43 3 rfl (.int .i64 0) 8 Tryz.underlying43 info_int rfl (by decide) w7.heap.size j ct At (ints T) rfl hown8 (.int .i64 z) rfl rfl (by omega) hbase ?_; intro A8 c8 w9 hown9 hg9 hb9; have BX9 := BX8.grown hg9 (fun e => own_off hown8 BX8 (by decide) e.symm); have cX91 := BX9.cell 1; have fX91 := BX9.frozen 1; simp at cX91)
                    have how9 := own_otherS how8 hown8 (by decide) hg9
                    have how10 := own_set how9 (p := ⟨w5.heap.size, 1, none⟩) (own_off how9 BX9 (by decide)) (.slice A8 (j + 1) c8)
                    have hT10 : Below wo.heap.size wo (w9.setCell ⟨w5.heap.size, 1, none⟩ (.slice A8 (j + 1) c8)) := (hT8.trans (hb9.mono (by omega))).setCell (p := ⟨w5.heap.size, 1, none⟩) (by show _ ≤ w5.heap.size; omega) _
                    have BX10 : Blk (w9.setCell ⟨w5.heap.size, 1, none⟩ (.slice A8 (j + 1) c8)) w5.heap.size 122 #[.int .i64 (q : Int), .slice A8 (j + 1) c8] := by simpa using BX9.set_ 1 (.slice A8 (j + 1) c8)
                    have hown10 := own_setF (p := ⟨w5.heap.size, 1, none⟩) (u := .slice A8 (j + 1) c8) hown9 (by show w5.heap.size < w7.heap.size; omega)
                    have hz10 : w7.heap.size ≤ (w9.setCell ⟨w5.heap.size, 1, none⟩ (.slice A8 (j + 1) c8)).heap.size := by simp; have := hb9.size; omega
                    go_roundw
                    case rel => exact ⟨j + 1, T ++ [z], A8, c8, by omega, by push_cast; rfl, BX10, by simpa [ints] using hown10, HWN, how10, hT10, hz10⟩
                    case measure => simp [intOf]; omega
                · obtain rfl : j = ws.length := by omega
                  have hj1 : ¬ ((ws.length : Int) + 1 < ((ws.length + 1 : Nat) : Int)) := by omega
                  have HWF : Hid (∃ h ws, splL 32 p = h :: ws ∧ WsIs ws T) := by
                    refine ⟨h, ws, HW.out, ?_⟩
                    have := HWT.out
                    rwa [List.take_of_length_le (Nat.le_refl _)] at this
                  have htl : T.length = ws.length := by
                    have := congrArg List.length HWT.out.1
                    rw [List.take_of_length_le (Nat.le_refl _), wsT_len] at this
                    exact this.symm
                  have HTD : Hid (∀ v ∈ T, InD v) := HWT.out.2
                  obtain ⟨Ao, co, rfl⟩ := own_slice hPO.2.1
                  have BA8 := BA.next hT
                  have cA1 := BA8.cell 1
                  have cX0 := BX.cell 0
                  have cX1 := BX.cell 1
                  simp at cA1 cX0 cX1
                  have hO8 : shOp.own wr [.int .i64 (q : Int), .slice At ws.length ct] ((q : Int), T) (obl (.slice At ws.length ct)) := by
                    refine ⟨[.int .i64 (q : Int)], [.slice At ws.length ct], [], obl (.slice At ws.length ct), rfl, rfl, ⟨_, rfl, ⟨rfl, by omega, by omega⟩, rfl⟩, ⟨_, rfl, ?_, ?_, rfl⟩⟩
                    · show wr.ownsRow 0 3 1 _ T.length _
                      rw [htl]
                      exact own_mono hown (Nat.zero_le _)
                    · intro u hu
                      have := HTD.out u hu
                      unfold InD at this
                      exact ⟨by omega, by omega⟩
                  have hiv8 : Iv wo.heap.size wr.heap.size (obl (.slice At ws.length ct)) := (obl_iv hown).mono (by omega) (Nat.le_refl _)
                  obtain ⟨hvs, HPU⟩ := hPO.push hT hlo hO8 hiv8
                  have hol : ops.length ≤ 4 := by
                    have := HOI.out.1
                    rw [List.length_take] at this
                    omega
                  have hl8 : w2.heap.size + 1 ≤ wr.heap.size := by have := hT.size; omega
                  have HON : Hid (OpsW n (ps.take (k + 1)) (ops ++ [((q : Int), T)])) := by
                    show OpsW _ _ _
                    rw [List.take_add_one, HXP.out, ← HAR.out, ← htl]
                    exact HOI.out.snoc HWF.out
                  have hB28 : Below w2.heap.size w2 wr := hB2.trans (hT.mono (by omega))
                  clear hown hPO BA hO8 hiv8 how hrw
                  go_wp2_with (at_builtin; refine app2 wr rfl _ _ 22 122 rfl (.agg #[.int .i64 0, .slice none 0 0]) 32 Tryz.underlying22 info_op2 rfl (by decide) (w2.heap.size + 1) ops.length co Ao css.flatten rfl hvs (.int .i64 (q : Int)) (.slice At ws.length ct) rfl rfl rfl (by omega) hl8 ?_; intro A9 c9 w9 hown9 hg9 hb9; have BA9 := BA8.grown hg9 (fun e => own_off hvs BA8 (by decide) e.symm); have cA91 := BA9.cell 1; have fA91 := BA9.frozen 1; simp at cA91)
                  have PN := (HPU hown9 hg9).far (p := ⟨w2.heap.size, 1, none⟩) (by show w2.heap.size < w2.heap.size + 1; omega) (.slice A9 (ops.length + 1) c9)
                  have BA10 : Blk (w9.setCell ⟨w2.heap.size, 1, none⟩ (.slice A9 (ops.length + 1) c9)) w2.heap.size 24 #[.int .i64 n, .slice A9 (ops.length + 1) c9] := by simpa using BA9.set_ 1 (.slice A9 (ops.length + 1) c9)
                  have hB10 : Below w2.heap.size w2 (w9.setCell ⟨w2.heap.size, 1, none⟩ (.slice A9 (ops.length + 1) c9)) := (hB28.trans (hb9.mono (by omega))).setCell (p := ⟨w2.heap.size, 1, none⟩) (Nat.le_refl _) _
                  go_roundw
                  case rel => exact ⟨k + 1, _, _, _, _, by omega, by push_cast; rfl, BA10, PN, HON, hB10⟩
                  case measure => simp [intOf]; omega
            · have hq3' : ¬ (q : Int) < 3 := by omega
              have hne : ((r : Int) != (ws.length : Int)) = false := by rw [bne_eq_false_iff_eq]; omega
              clear hq3
              have HAR : Hid (arL n ws.length = (q : Int)) := arL_hit HQ.out hq (HR2.out.trans hrm)
              clear hrm
              go_wp2_with fail
              refine (HPW.out _).mono ?_
              rintro e w' ⟨rfl, rfl⟩
              obtain ⟨w7, rfl⟩ : ∃ x : World, x = wr := ⟨_, rfl⟩
              clear cX0 cX1 fX0
              go_wp2_with fail
              go_loopw [11] (fun i wr => ∃ (j : Nat) (T : List Int) (A : Option Addr) (c : Nat), j ≤ ws.length ∧ i = .int .i64 ((j : Int) + 1) ∧ Blk wr w5.heap.size 122 #[.int .i64 (q : Int), .slice A j c] ∧ wr.ownsRow w7.heap.size 3 1 (.slice A j c) j (ints T) ∧ Hid (WsIs (ws.take j) T) ∧ wr.ownsRow wo.heap.size 9 1 (.slice Aw (ws.length + 1) cw) (ws.length + 1) (strs (h :: ws)) ∧ Below wo.heap.size wo wr ∧ w7.heap.size ≤ wr.heap.size) (fun i _ => ws.length + 1 - (intOf i).toNat)
              case atStart => exact ⟨0, [], none, 0, Nat.zero_le _, rfl, BX, World.ownsRow_nil _ _ _ _, Lib.hid ⟨by rw [List.take_zero]; rfl, fun v hv => by cases hv⟩, how, hT, Nat.le_refl _⟩
              case round =>
                have hgx : w5.heap.size < w7.heap.size := BX.lt
                clear BX how hT HPW
                obtain ⟨j, T, At, ct, hj, rfl, BX, hown, HWT, how, hT, hz7⟩ := hrel
                have hrw := rd_strs (by unfold maxLen; omega) how (by rw [List.length_cons])
                by_cases hjl : j < ws.length
                · have hj0 : (0 : Int) ≤ (j : Int) + 1 := by omega
                  have hj1 : (j : Int) + 1 < ((ws.length + 1 : Nat) : Int) := by omega
                  have hjw : IntKind.i64.wrap ((j : Int) + 1) = (j : Int) + 1 := IntWalk.i64_in _ (by omega)
                  obtain ⟨bq, oq, vq, y, rfl, hcq, hvq, -, hxq⟩ := hrw.at (k := j + 1) (by omega)
                  have hvq' : vq = .string (mk y) := hvq
                  subst hvq'
                  rw [List.getElem?_cons_succ] at hxq
                  have hyz := HWP.out y (List.mem_cons_of_mem _ (List.mem_of_getElem? hxq))
                  have HXQ := Lib.hid hxq
                  have HPI2 := Lib.hid (l1Read_any (mk y) wr (by rw [size_mk]; omega))
                  have hcq' : wr.cell? ⟨bq, oq + (j + 1), none⟩ = some (.string (mk y)) := hcq
                  clear hxq hvq hcq hrw
                  go_wp2_with fail
                  refine HPI2.out.mono ?_
                  rintro e w8 ⟨rfl, hd8⟩
                  have hb8 : Below wr.heap.size wr w8 := by obtain ⟨z, rfl⟩ := hd8; exact below_drewN (Below.refl _ _) _
                  have BX8 := BX.next hb8
                  have hT8 := below_next hT hb8 rfl
                  have hown8 := own_next hown hb8
                  have how8 := own_next how hb8
                  have hz88 := hb8.size
                  clear hd8
                  cases hr : readI (mk y) with
                  | none =>
                    have HR3 := Lib.hid (rd_none hr)
                    have HX : Hid (paA s = (0, []) ∧ paB s = false) := pa_no fun x h1 h2 => by
                      obtain ⟨h3, h4, h5, -⟩ := HZ.out x h1 h2
                      obtain ⟨o, ho⟩ : ∃ o, x.2[k]? = some o := ⟨x.2[k]'(by rw [← h5.1]; exact hlt), List.getElem?_eq_getElem _⟩
                      obtain ⟨⟨ws', h6, h7⟩, -⟩ := h5.2 k p o HXP.out ho
                      rw [HW.out] at h6
                      injection h6 with _ h6
                      rw [← h6] at h7
                      exact WsIs.bad HXQ.out hr _ h7
                    have hT28 : Below w2.heap.size w2 w8 := hB2.trans (hT8.mono (by omega))
                    have BRz := HBR.out.below hT28 hwz
                    have cR0 := BRz.cell 0
                    have cR1 := BRz.cell 1
                    have fR0 := BRz.frozen 0
                    have fR1 := BRz.frozen 1
                    simp at cR0 cR1
                    have BRZ : Blk ((w8.setCell ⟨w.heap.size, 0, none⟩ (.int .i64 0)).setCell ⟨w.heap.size, 1, none⟩ (.slice none 0 0)) w.heap.size 24 #[.int .i64 0, .slice none 0 0] := by simpa using (BRz.set_ 0 (.int .i64 0)).set_ 1 (.slice none 0 0)
                    have HBZ := Lib.hid BRZ
                    have HTZ : Hid (Below w.heap.size w ((w8.setCell ⟨w.heap.size, 0, none⟩ (.int .i64 0)).setCell ⟨w.heap.size, 1, none⟩ (.slice none 0 0))) := ((below_next HT2.out hT28 rfl).setCell (p := ⟨w.heap.size, 0, none⟩) (Nat.le_refl _) _).setCell (p := ⟨w.heap.size, 1, none⟩) (Nat.le_refl _) _
                    clear BRZ BRz
                    rw [HR3.out.1, HR3.out.2]
                    clear hr
                    go_wp2_with fail
                    (try simp only [Exit.inBlock, Exit.then])
                    refine bodyPost_ret (v := .tuple #[.agg #[.int .i64 0, .slice none 0 0], .bool false]) (res_row_tmpF rfl _ _ w.heap.size 24 #[.int .i64 0, .slice none 0 0] (0, 0) _ _ (by simp) HBZ.out Tryz.underlying24 rfl (by kernel_rfl) (by simp)) rfl ?_
                    exact OwA_no HX.out HTZ.out
                  | some z =>
                    have HR3 := Lib.hid (rd_some hr)
                    have hz := readI_iff.1 hr
                    have hqz2 : y = Lib.itoa z := mk_inj hz.2
                    have hzb := hz.1
                    unfold InD at hzb
                    have HWN : Hid (WsIs (ws.take (j + 1)) (T ++ [z])) := by
                      refine ⟨?_, fun u hu => ?_⟩
                      · rw [List.take_add_one, HXQ.out, HWT.out.1, hqz2]
                        simp [wsT]
                      · rcases List.mem_append.1 hu with hu | hu
                        · exact HWT.out.2 u hu
                        · rw [List.mem_singleton.1 hu]; exact hz.1
                    rw [HR3.out.1, HR3.out.2]
                    have cX0 := BX8.cell 0
                    have cX1 := BX8.cell 1
                    simp at cX0 cX1
                    have hbase : w7.heap.size ≤ w8.heap.size := by omega
                    clear hr hz hqz2 BX hown hT hb8
                    go_wp2_with (at_builtin; refine app1 w8 rfl _ _ 43 3 rfl (.int .i64 0) 8 Tryz.underlying43 info_int rfl (by decide) w7.heap.size j ct At (ints T) rfl hown8 (.int .i64 z) rfl rfl (by omega) hbase ?_; intro A8 c8 w9 hown9 hg9 hb9; have BX9 := BX8.grown hg9 (fun e => own_off hown8 BX8 (by decide) e.symm); have cX91 := BX9.cell 1; have fX91 := BX9.frozen 1; simp at cX91)
                    have how9 := own_otherS how8 hown8 (by decide) hg9
                    have how10 := own_set how9 (p := ⟨w5.heap.size, 1, none⟩) (own_off how9 BX9 (by decide)) (.slice A8 (j + 1) c8)
                    have hT10 : Below wo.heap.size wo (w9.setCell ⟨w5.heap.size, 1, none⟩ (.slice A8 (j + 1) c8)) := (hT8.trans (hb9.mono (by omega))).setCell (p := ⟨w5.heap.size, 1, none⟩) (by show _ ≤ w5.heap.size; omega) _
                    have BX10 : Blk (w9.setCell ⟨w5.heap.size, 1, none⟩ (.slice A8 (j + 1) c8)) w5.heap.size 122 #[.int .i64 (q : Int), .slice A8 (j + 1) c8] := by simpa using BX9.set_ 1 (.slice A8 (j + 1) c8)
                    have hown10 := own_setF (p := ⟨w5.heap.size, 1, none⟩) (u := .slice A8 (j + 1) c8) hown9 (by show w5.heap.size < w7.heap.size; omega)
                    have hz10 : w7.heap.size ≤ (w9.setCell ⟨w5.heap.size, 1, none⟩ (.slice A8 (j + 1) c8)).heap.size := by simp; have := hb9.size; omega
                    go_roundw
                    case rel => exact ⟨j + 1, T ++ [z], A8, c8, by omega, by push_cast; rfl, BX10, by simpa [ints] using hown10, HWN, how10, hT10, hz10⟩
                    case measure => simp [intOf]; omega
                · obtain rfl : j = ws.length := by omega
                  have hj1 : ¬ ((ws.length : Int) + 1 < ((ws.length + 1 : Nat) : Int)) := by omega
                  have HWF : Hid (∃ h ws, splL 32 p = h :: ws ∧ WsIs ws T) := by
                    refine ⟨h, ws, HW.out, ?_⟩
                    have := HWT.out
                    rwa [List.take_of_length_le (Nat.le_refl _)] at this
                  have htl : T.length = ws.length := by
                    have := congrArg List.length HWT.out.1
                    rw [List.take_of_length_le (Nat.le_refl _), wsT_len] at this
                    exact this.symm
                  have HTD : Hid (∀ v ∈ T, InD v) := HWT.out.2
                  obtain ⟨Ao, co, rfl⟩ := own_slice hPO.2.1
                  have BA8 := BA.next hT
                  have cA1 := BA8.cell 1
                  have cX0 := BX.cell 0
                  have cX1 := BX.cell 1
                  simp at cA1 cX0 cX1
                  have hO8 : shOp.own wr [.int .i64 (q : Int), .slice At ws.length ct] ((q : Int), T) (obl (.slice At ws.length ct)) := by
                    refine ⟨[.int .i64 (q : Int)], [.slice At ws.length ct], [], obl (.slice At ws.length ct), rfl, rfl, ⟨_, rfl, ⟨rfl, by omega, by omega⟩, rfl⟩, ⟨_, rfl, ?_, ?_, rfl⟩⟩
                    · show wr.ownsRow 0 3 1 _ T.length _
                      rw [htl]
                      exact own_mono hown (Nat.zero_le _)
                    · intro u hu
                      have := HTD.out u hu
                      unfold InD at this
                      exact ⟨by omega, by omega⟩
                  have hiv8 : Iv wo.heap.size wr.heap.size (obl (.slice At ws.length ct)) := (obl_iv hown).mono (by omega) (Nat.le_refl _)
                  obtain ⟨hvs, HPU⟩ := hPO.push hT hlo hO8 hiv8
                  have hol : ops.length ≤ 4 := by
                    have := HOI.out.1
                    rw [List.length_take] at this
                    omega
                  have hl8 : w2.heap.size + 1 ≤ wr.heap.size := by have := hT.size; omega
                  have HON : Hid (OpsW n (ps.take (k + 1)) (ops ++ [((q : Int), T)])) := by
                    show OpsW _ _ _
                    rw [List.take_add_one, HXP.out, ← HAR.out, ← htl]
                    exact HOI.out.snoc HWF.out
                  have hB28 : Below w2.heap.size w2 wr := hB2.trans (hT.mono (by omega))
                  clear hown hPO BA hO8 hiv8 how hrw
                  go_wp2_with (at_builtin; refine app2 wr rfl _ _ 22 122 rfl (.agg #[.int .i64 0, .slice none 0 0]) 32 Tryz.underlying22 info_op2 rfl (by decide) (w2.heap.size + 1) ops.length co Ao css.flatten rfl hvs (.int .i64 (q : Int)) (.slice At ws.length ct) rfl rfl rfl (by omega) hl8 ?_; intro A9 c9 w9 hown9 hg9 hb9; have BA9 := BA8.grown hg9 (fun e => own_off hvs BA8 (by decide) e.symm); have cA91 := BA9.cell 1; have fA91 := BA9.frozen 1; simp at cA91)
                  have PN := (HPU hown9 hg9).far (p := ⟨w2.heap.size, 1, none⟩) (by show w2.heap.size < w2.heap.size + 1; omega) (.slice A9 (ops.length + 1) c9)
                  have BA10 : Blk (w9.setCell ⟨w2.heap.size, 1, none⟩ (.slice A9 (ops.length + 1) c9)) w2.heap.size 24 #[.int .i64 n, .slice A9 (ops.length + 1) c9] := by simpa using BA9.set_ 1 (.slice A9 (ops.length + 1) c9)
                  have hB10 : Below w2.heap.size w2 (w9.setCell ⟨w2.heap.size, 1, none⟩ (.slice A9 (ops.length + 1) c9)) := (hB28.trans (hb9.mono (by omega))).setCell (p := ⟨w2.heap.size, 1, none⟩) (Nat.le_refl _) _
                  go_roundw
                  case rel => exact ⟨k + 1, _, _, _, _, by omega, by push_cast; rfl, BA10, PN, HON, hB10⟩
                  case measure => simp [intOf]; omega
      · obtain rfl : k = ps.length := by omega
        have hk1 : ¬ ((ps.length : Int) + 1 < ((ps.length + 1 : Nat) : Int)) := by omega
        have HOF : Hid (OpsW n ps ops) := by
          have := HOI.out
          rwa [List.take_of_length_le (Nat.le_refl _)] at this
        have cA0 := BA.cell 0
        have cA1 := BA.cell 1
        simp at cA0 cA1
        obtain ⟨Ao, co, rfl⟩ := own_slice hPO.2.1
        have hral : shAlgebra.rd wo [.int .i64 (n : Int), .slice Ao ops.length co] ((n : Int), ops) := shAlgebra.ord (hPO.algO (a := (n : Int)) ⟨by omega, by omega⟩)
        have HIA := Lib.hid (l2Good_any _ _ wo hral)
        obtain ⟨ab, HAB⟩ : ∃ b, Hid (algB ((n : Int), ops) = b) := ⟨_, Lib.hid rfl⟩
        rw [HAB.out] at HIA
        have HUX : Hid (∀ x, GoodA x → s = mk (txA x) → x = ((n : Int), ops)) := fun x h1 h2 => by
          obtain ⟨h3, -, h5, -⟩ := HZ.out x h1 h2
          exact Prod.ext h3 ((OpsW.unique HOF.out h5.w).symm)
        have HARP : Hid (ArP ((n : Int), ops)) := fun o ho => by
          obtain ⟨i, hi⟩ := List.getElem?_of_mem ho
          have hil := (List.getElem?_eq_some_iff.1 hi).1
          have := HOF.out.2 i _ o (List.getElem?_eq_getElem (by rw [HOF.out.1]; exact hil)) hi
          exact this.2
        rcases ab with _ | _
        · have HX : Hid (paA s = (0, []) ∧ paB s = false) := pa_no fun x h1 h2 => by
            have e := HUX.out x h1 h2
            have := alg_iff.2 h1.1
            rw [e, HAB.out] at this
            cases this
          go_wp2_with fail
          refine HIA.out.mono ?_
          rintro e w7 ⟨rfl, hb7⟩
          have hT27 := hB2.trans (hb7.mono (by omega))
          have BRz := HBR.out.below hT27 hwz
          have cR0 := BRz.cell 0
          have cR1 := BRz.cell 1
          have fR0 := BRz.frozen 0
          have fR1 := BRz.frozen 1
          simp at cR0 cR1
          have BRZ : Blk ((w7.setCell ⟨w.heap.size, 0, none⟩ (.int .i64 0)).setCell ⟨w.heap.size, 1, none⟩ (.slice none 0 0)) w.heap.size 24 #[.int .i64 0, .slice none 0 0] := by simpa using (BRz.set_ 0 (.int .i64 0)).set_ 1 (.slice none 0 0)
          have HBZ := Lib.hid BRZ
          have HTZ : Hid (Below w.heap.size w ((w7.setCell ⟨w.heap.size, 0, none⟩ (.int .i64 0)).setCell ⟨w.heap.size, 1, none⟩ (.slice none 0 0))) := ((below_next HT2.out hT27 rfl).setCell (p := ⟨w.heap.size, 0, none⟩) (Nat.le_refl _) _).setCell (p := ⟨w.heap.size, 1, none⟩) (Nat.le_refl _) _
          clear BRZ BRz
          go_wp2_with fail
          (try simp only [Exit.inBlock, Exit.then])
          refine bodyPost_ret (v := .tuple #[.agg #[.int .i64 0, .slice none 0 0], .bool false]) (res_row_tmpF rfl _ _ w.heap.size 24 #[.int .i64 0, .slice none 0 0] (0, 0) _ _ (by simp) HBZ.out Tryz.underlying24 rfl (by kernel_rfl) (by simp)) rfl ?_
          exact OwA_no HX.out HTZ.out
        · have hAP := alg_iff.1 HAB.out
          have HAP := Lib.hid hAP
          have HRAL := Lib.hid hral
          obtain ⟨X, HXT⟩ : ∃ X, Hid (mk (txA ((n : Int), ops)) = X) := ⟨_, Lib.hid rfl⟩
          have HAT : Hid (∀ wz, Below wo.heap.size wo wz → Calls Tryz.prog 97 #[.agg #[.int .i64 (n : Int), .slice Ao ops.length co]] wz (Bl wz (.string X))) := fun wz hz => by
            have := l2Text_any [.int .i64 (n : Int), .slice Ao ops.length co] ((n : Int), ops) wz (shAlgebra.stab HRAL.out hz.block) HAP.out
            rwa [HXT.out] at this
          clear hAP hral
          go_wp2_with fail
          refine HIA.out.mono ?_
          rintro e w7 ⟨rfl, hb7⟩
          have hT27 := hB2.trans (hb7.mono (by omega))
          have dA0 := keepc hb7 cA0
          have dA1 := keepc hb7 cA1
          go_wp2_with fail
          refine (HAT.out w7 hb7).mono ?_
          rintro e w8 ⟨rfl, hb8⟩
          have hb78 := below_next hb7 hb8 rfl
          have hT28 : Below w2.heap.size w2 w8 := hB2.trans (hb78.mono (by omega))
          have BRz := HBR.out.below hT28 hwz
          have cR0 := BRz.cell 0
          have cR1 := BRz.cell 1
          have fR0 := BRz.frozen 0
          have fR1 := BRz.frozen 1
          simp at cR0 cR1
          by_cases he : X = s
          · have hd : (X.toList == s.toList) = true := eqq_str (eqC_iff.2 he)
            have HGO : Hid (paA s = ((n : Int), ops) ∧ paB s = true) := pa_some (parA_some ⟨HAP.out, HARP.out⟩ (by rw [HXT.out]; exact he.symm))
            have eA0 := keepc hb8 dA0
            have eA1 := keepc hb8 dA1
            have hneA : w2.heap.size ≠ w.heap.size := by omega
            have BRZ : Blk ((w8.setCell ⟨w.heap.size, 0, none⟩ (.int .i64 n)).setCell ⟨w.heap.size, 1, none⟩ (.slice Ao ops.length co)) w.heap.size 24 #[.int .i64 n, .slice Ao ops.length co] := by simpa using (BRz.set_ 0 (.int .i64 n)).set_ 1 (.slice Ao ops.length co)
            have HBZ := Lib.hid BRZ
            have HTZ : Hid (Below w.heap.size w ((w8.setCell ⟨w.heap.size, 0, none⟩ (.int .i64 n)).setCell ⟨w.heap.size, 1, none⟩ (.slice Ao ops.length co))) := ((below_next HT2.out hT28 rfl).setCell (p := ⟨w.heap.size, 0, none⟩) (Nat.le_refl _) _).setCell (p := ⟨w.heap.size, 1, none⟩) (Nat.le_refl _) _
            have HPO := Lib.hid (((hPO.next hb78).far (p := ⟨w.heap.size, 0, none⟩) (by show w.heap.size < w2.heap.size + 1; omega) (.int .i64 n)).far (p := ⟨w.heap.size, 1, none⟩) (by show w.heap.size < w2.heap.size + 1; omega) (.slice Ao ops.length co))
            clear he BRZ BRz hPO
            go_wp2_with fail
            (try simp only [Exit.inBlock, Exit.then])
            refine bodyPost_ret (v := .tuple #[.agg #[.int .i64 n, .slice Ao ops.length co], .bool true]) (res_row_tmpF rfl _ _ w.heap.size 24 #[.int .i64 n, .slice Ao ops.length co] (0, 0) _ _ (by simp) HBZ.out Tryz.underlying24 rfl (by kernel_rfl) (by simp)) rfl ?_
            rw [HGO.out.1, HGO.out.2]
            exact ⟨_, _, rfl, HPO.out.algO ⟨by omega, by omega⟩, HPO.out.2.2.mono (by omega) (Nat.le_refl _), HTZ.out⟩
          · have hd : (X.toList == s.toList) = false := eqq_str (eqC_no.2 he)
            have HX : Hid (paA s = (0, []) ∧ paB s = false) := pa_no fun x h1 h2 => by
              have e := HUX.out x h1 h2
              rw [e, HXT.out] at h2
              exact he h2.symm
            have BRZ : Blk ((w8.setCell ⟨w.heap.size, 0, none⟩ (.int .i64 0)).setCell ⟨w.heap.size, 1, none⟩ (.slice none 0 0)) w.heap.size 24 #[.int .i64 0, .slice none 0 0] := by simpa using (BRz.set_ 0 (.int .i64 0)).set_ 1 (.slice none 0 0)
            have HBZ := Lib.hid BRZ
            have HTZ : Hid (Below w.heap.size w ((w8.setCell ⟨w.heap.size, 0, none⟩ (.int .i64 0)).setCell ⟨w.heap.size, 1, none⟩ (.slice none 0 0))) := ((below_next HT2.out hT28 rfl).setCell (p := ⟨w.heap.size, 0, none⟩) (Nat.le_refl _) _).setCell (p := ⟨w.heap.size, 1, none⟩) (Nat.le_refl _) _
            clear he BRZ BRz
            go_wp2_with fail
            (try simp only [Exit.inBlock, Exit.then])
            refine bodyPost_ret (v := .tuple #[.agg #[.int .i64 0, .slice none 0 0], .bool false]) (res_row_tmpF rfl _ _ w.heap.size 24 #[.int .i64 0, .slice none 0 0] (0, 0) _ _ (by simp) HBZ.out Tryz.underlying24 rfl (by kernel_rfl) (by simp)) rfl ?_
            exact OwA_no HX.out HTZ.out
end Go.Proofs.YtfnmkbpogbekpaaGreatDoor
namespace Go.Proofs.YtfnmkbpogbekpaaGreatDoor.Lg
open Go.RowKit

def okB (c : Int) : Bool := decide (32 ≤ c) && decide (c ≤ 126) && !(c == 35)
def allOk : List UInt8 → Bool
  | [] => true
  | c :: l => okB c.toNat && allOk l
def plainB (s : ByteArray) (m : Int) : Bool := allOk (bs s) && decide ((s.size : Int) ≤ m)
def inB (x a b : Int) : Bool := decide (a ≤ x) && decide (x ≤ b)

def AllAt (s : ByteArray) (k : Nat) : Prop := allOk ((bs s).drop k) = allOk (bs s)
theorem AllAt.start (s : ByteArray) : AllAt s 0 := rfl
theorem AllAt.step {s : ByteArray} {k : Nat} (h : AllAt s k) (hk : k < s.size) (ho : okB s[k].toNat = true) : AllAt s (k + 1) := by
  unfold AllAt at *; rw [drop_cons s k hk] at h; rw [← h]; simp [allOk, ho]
theorem AllAt.stop {s : ByteArray} {k : Nat} {m : Int} (h : AllAt s k) (hk : k < s.size) (ho : okB s[k].toNat = false) : false = plainB s m := by
  unfold AllAt at *; rw [drop_cons s k hk] at h; unfold plainB; rw [← h]; simp [allOk, ho]
theorem AllAt.done {s : ByteArray} {k : Nat} {m : Int} (h : AllAt s k) (hk : ¬ k < s.size) : decide ((s.size : Int) ≤ m) = plainB s m := by
  unfold AllAt at *; rw [drop_end s k hk] at h; unfold plainB; rw [← h]; rfl
def HasAt (c : Int) (s : ByteArray) (k : Nat) : Prop := has c ((bs s).drop k) = has c (bs s)
theorem HasAt.start (c : Int) (s : ByteArray) : HasAt c s 0 := rfl
theorem HasAt.step {c : Int} {s : ByteArray} {k : Nat} (h : HasAt c s k) (hk : k < s.size) (ho : ((s[k].toNat : Int) == c) = false) : HasAt c s (k + 1) := by
  unfold HasAt at *; rw [drop_cons s k hk] at h; rw [← h]; simp [has, ho]
theorem HasAt.stop {c : Int} {s : ByteArray} {k : Nat} (h : HasAt c s k) (hk : k < s.size) (ho : ((s[k].toNat : Int) == c) = true) : true = has c (bs s) := by
  unfold HasAt at *; rw [drop_cons s k hk] at h; rw [← h]; simp [has, ho]
theorem HasAt.done {c : Int} {s : ByteArray} {k : Nat} (h : HasAt c s k) (hk : ¬ k < s.size) : false = has c (bs s) := by
  unfold HasAt at *; rw [drop_end s k hk] at h; rw [← h]; rfl

set_option maxHeartbeats 400000 in
theorem l1In_any (x a b : Int) (w : World) :
    Calls Tryz.prog 68 #[.int .i64 x, .int .i64 a, .int .i64 b] w fun e w' => e = .returned (.bool (inB x a b)) ∧ w = w' := by
  unfold inB
  by_cases h : a ≤ x
  all_goals
    go_enter Tryz.func68, Tryz.ntmps68
    go_wp2
    go_ret
    exact ⟨ret_bool (by simp; omega), rfl⟩

end Go.Proofs.YtfnmkbpogbekpaaGreatDoor.Lg
namespace Go.Proofs.YtfnmkbpogbekpaaGreatDoor.Lg

abbrev Bs := List UInt8
theorem u8_toNat {n : Nat} (h : n < 256) : (UInt8.ofNat n).toNat = n := by
  rw [UInt8.toNat_ofNat']
  exact Nat.mod_eq_of_lt h
theorem dec_digit (u : Nat) : ∀ c ∈ Lib.decDigits u, 48 ≤ c.toNat ∧ c.toNat ≤ 57 := by
  induction u using Nat.strongRecOn with
  | _ u ih =>
    intro c hc
    rw [Lib.decDigits] at hc
    split at hc
    · rw [List.mem_singleton] at hc
      subst hc
      rw [u8_toNat (by omega)]
      omega
    · rcases List.mem_append.1 hc with h | h
      · exact ih (u / 10) (by omega) c h
      · rw [List.mem_singleton] at h
        subst h
        rw [u8_toNat (by omega)]
        omega
def goodL (c r : Bs) : Bool := !c.isEmpty && (allOk c && decide ((c.length : Int) ≤ 160)) && !(has 64 c) && (allOk r && decide ((r.length : Int) ≤ 200))
theorem allOk_mem : ∀ {l : Bs}, allOk l = true → ∀ c ∈ l, 32 ≤ c.toNat ∧ c.toNat ≤ 126 ∧ c.toNat ≠ 35
  | [], _, c, h => by simp at h
  | x :: l, h, c, hc => by
    rw [allOk, Bool.and_eq_true] at h
    rcases List.mem_cons.1 hc with rfl | hc
    · have := h.1
      simp [okB] at this
      omega
    · exact allOk_mem h.2 c hc
theorem has_mem {c : UInt8} : ∀ {l : Bs}, has c.toNat l = true ↔ c ∈ l
  | [] => by simp [has]
  | x :: l => by
    rw [has, Bool.or_eq_true, has_mem (l := l), List.mem_cons, beq_iff_eq]
    constructor
    · rintro (h | h)
      · exact .inl (UInt8.toNat_inj.1 (by omega))
      · exact .inr h
    · rintro (h | h)
      · exact .inl (by rw [h])
      · exact .inr h
theorem has64 {l : Bs} : has 64 l = true ↔ (64 : UInt8) ∈ l := has_mem (c := 64)
structure Good (c r : Bs) : Prop where
  ne : c ≠ []
  lc : c.length ≤ 160
  lr : r.length ≤ 200
  oc : ∀ x ∈ c, 32 ≤ x.toNat ∧ x.toNat ≤ 126 ∧ x.toNat ≠ 35
  orr : ∀ x ∈ r, 32 ≤ x.toNat ∧ x.toNat ≤ 126 ∧ x.toNat ≠ 35
  at_ : (64 : UInt8) ∉ c
theorem goodL_good {c r : Bs} (h : goodL c r = true) : Good c r := by
  unfold goodL at h
  simp only [Bool.and_eq_true, Bool.not_eq_true', decide_eq_true_eq] at h
  obtain ⟨⟨⟨h1, h2, h3⟩, h4⟩, h5, h6⟩ := h
  refine ⟨fun e => by simp [e] at h1, by omega, by omega, allOk_mem h2, allOk_mem h5, fun hm => ?_⟩
  rw [has64.2 hm] at h4
  exact absurd h4 (by decide)

def bodyL (k : Nat) (c r : Bs) : Bs := Lib.decDigits k ++ 32 :: (c ++ 64 :: r)
def sumF (h : Nat) (c : UInt8) : Nat := (41 * h + c.toNat + 1) % 999979
def sumL (l : Bs) : Nat := l.foldl sumF 7
def sealL (l : Bs) : Bs := l ++ 35 :: Lib.decDigits (sumL l)
def lineL (k : Nat) (c r : Bs) : Bs := sealL (bodyL k c r) ++ [10]

theorem ndig_le {u : Nat} (h : u < 1000000) : Lib.nDigits u ≤ 6 := by
  rcases Nat.lt_or_ge u 10 with h1 | h1
  · rw [Lib.nDigits_small h1]; omega
  rw [Lib.nDigits_big (by omega)]
  rcases Nat.lt_or_ge (u / 10) 10 with h2 | h2
  · rw [Lib.nDigits_small h2]; omega
  rw [Lib.nDigits_big (by omega)]
  rcases Nat.lt_or_ge (u / 10 / 10) 10 with h3 | h3
  · rw [Lib.nDigits_small h3]; omega
  rw [Lib.nDigits_big (by omega)]
  rcases Nat.lt_or_ge (u / 10 / 10 / 10) 10 with h4 | h4
  · rw [Lib.nDigits_small h4]; omega
  rw [Lib.nDigits_big (by omega)]
  rcases Nat.lt_or_ge (u / 10 / 10 / 10 / 10) 10 with h5 | h5
  · rw [Lib.nDigits_small h5]; omega
  rw [Lib.nDigits_big (by omega), Lib.nDigits_small (by omega)]
  omega
theorem dec_len {u : Nat} (h : u < 1000000) : (Lib.decDigits u).length ≤ 6 := by rw [Lib.decDigits_length]; exact ndig_le h
theorem nd {c : UInt8} {u : Nat} (hc : ¬ (48 ≤ c.toNat ∧ c.toNat ≤ 57)) : c ∉ Lib.decDigits u := fun hm => hc (dec_digit u c hm)
theorem nk {c : UInt8} {l : Bs} (h : ∀ x ∈ l, 32 ≤ x.toNat ∧ x.toNat ≤ 126 ∧ x.toNat ≠ 35) (hc : ¬ (32 ≤ c.toNat ∧ c.toNat ≤ 126 ∧ c.toNat ≠ 35)) : c ∉ l := fun hm => hc (h c hm)
theorem body_no {k : Nat} {c r : Bs} (hg : Good c r) : (35 : UInt8) ∉ bodyL k c r ∧ (10 : UInt8) ∉ bodyL k c r := by
  unfold bodyL
  simp only [List.mem_append, List.mem_cons, not_or]
  refine ⟨⟨nd (by decide), by decide, nk hg.oc (by decide), by decide, nk hg.orr (by decide)⟩, ⟨nd (by decide), by decide, nk hg.oc (by decide), by decide, nk hg.orr (by decide)⟩⟩
theorem seal_no {l : Bs} (h : (10 : UInt8) ∉ l) : (10 : UInt8) ∉ sealL l := by
  unfold sealL
  simp only [List.mem_append, List.mem_cons, not_or]
  exact ⟨h, by decide, nd (by decide)⟩

theorem line_eq (k : Nat) (c r : Bs) : lineL k c r = Lib.decDigits k ++ 32 :: (c ++ 64 :: (r ++ 35 :: (Lib.decDigits (sumL (bodyL k c r)) ++ [10]))) := by
  simp [lineL, sealL, bodyL]
/-! ## decoding -/
/-- What stands before the first c, and behind it. -/
def cutAt (c : UInt8) : Bs → Bs × Bs
  | [] => ([], [])
  | x :: l => if x = c then ([], l) else (x :: (cutAt c l).1, (cutAt c l).2)
theorem cutAt_app {c : UInt8} : ∀ {a x : Bs}, c ∉ a → cutAt c (a ++ c :: x) = (a, x)
  | [], x, _ => by simp [cutAt]
  | d :: a, x, h => by
    rw [List.cons_append, cutAt, if_neg (fun e => h (by rw [e]; simp)), cutAt_app (fun hm => h (List.mem_cons_of_mem _ hm))]
def decL (k : Nat) (line : Bs) : Option (Bs × Bs) :=
  let b := cutAt 64 (cutAt 32 line).2
  let d := cutAt 35 b.2
  if goodL b.1 d.1 = true ∧ k < 60 ∧ lineL k b.1 d.1 = line then some (b.1, d.1) else none
theorem decL_iff {k : Nat} {line c r : Bs} : decL k line = some (c, r) ↔ goodL c r = true ∧ k < 60 ∧ lineL k c r = line := by
  constructor
  · intro h
    unfold decL at h
    simp only at h
    split at h
    · rename_i h1
      injection h with h
      injection h with e1 e2
      rw [e1, e2] at h1
      exact h1
    · cases h
  · rintro ⟨h1, h2, h3⟩
    have hg := goodL_good h1
    unfold decL
    simp only
    have e1 : (cutAt 32 line).2 = c ++ 64 :: (r ++ 35 :: (Lib.decDigits (sumL (bodyL k c r)) ++ [10])) := by
      rw [← h3, line_eq, cutAt_app (nd (by decide))]
    have e2 : cutAt 64 (cutAt 32 line).2 = (c, r ++ 35 :: (Lib.decDigits (sumL (bodyL k c r)) ++ [10])) := by
      rw [e1, cutAt_app hg.at_]
    have e3 : (cutAt 35 (cutAt 64 (cutAt 32 line).2).2).1 = r := by
      rw [e2]
      simp only
      rw [cutAt_app (nk hg.orr (by decide))]
    rw [e3, e2, if_pos ⟨h1, h2, h3⟩]
theorem decL_none {k : Nat} {line : Bs} (h : ∀ c r, goodL c r = true → k < 60 → lineL k c r ≠ line) : decL k line = none := by
  cases e : decL k line with
  | none => rfl
  | some p =>
    obtain ⟨c, r⟩ := p
    obtain ⟨h1, h2, h3⟩ := decL_iff.1 e
    exact absurd h3 (h c r h1 h2)

/-! ## reading -/
def stepL (k : Nat) (s : Bs) : Option ((Bs × Bs) × Nat) :=
  if Lib.indexByte s 10 < 0 then none else (decL k (s.take ((Lib.indexByte s 10).toNat + 1))).map fun e => (e, (Lib.indexByte s 10).toNat + 1)
def readL : Nat → Nat → Bs → List ((Bs × Bs) × Nat)
  | 0, _, _ => []
  | f + 1, k, s => match stepL k s with
    | none => []
    | some p => p :: readL f (k + 1) (s.drop p.2)
theorem indexByte_lt : ∀ (s : Bs) (c : UInt8), Lib.indexByte s c < s.length ∨ Lib.indexByte s c = -1
  | [], c => .inr rfl
  | x :: l, c => by
    have ih := indexByte_lt l c
    unfold Lib.indexByte
    simp only [List.length_cons]
    split
    · left; omega
    · split
      · right; rfl
      · left; rcases ih with h | h
        · omega
        · rename_i h1; simp [h] at h1
theorem indexByte_app {c : UInt8} : ∀ {a x : Bs}, c ∉ a → Lib.indexByte (a ++ c :: x) c = a.length
  | [], x, _ => by simp [Lib.indexByte]
  | d :: a, x, h => by
    have hd : (d == c) = false := by
      rw [beq_eq_false_iff_ne]
      exact fun e => h (by rw [e]; simp)
    rw [List.cons_append, Lib.indexByte, hd, indexByte_app (fun hm => h (List.mem_cons_of_mem _ hm))]
    have : ((a.length : Int) == -1) = false := by rw [beq_eq_false_iff_ne]; omega
    simp [this]
theorem step_some {k : Nat} {s c r : Bs} {m : Nat} : stepL k s = some ((c, r), m) ↔ goodL c r = true ∧ k < 60 ∧ m = (lineL k c r).length ∧ ∃ t, s = lineL k c r ++ t := by
  constructor
  · intro h
    unfold stepL at h
    split at h
    · cases h
    · rename_i h0
      cases e : decL k (s.take ((Lib.indexByte s 10).toNat + 1)) with
      | none => rw [e] at h; cases h
      | some p =>
        rw [e] at h
        simp only [Option.map_some, Option.some.injEq, Prod.mk.injEq] at h
        obtain ⟨rfl, rfl⟩ := h
        obtain ⟨h1, h2, h3⟩ := decL_iff.1 e
        refine ⟨h1, h2, ?_, s.drop ((Lib.indexByte s 10).toNat + 1), ?_⟩
        · have hl := congrArg List.length h3
          rw [List.length_take] at hl
          have hlt := indexByte_lt s 10
          omega
        · rw [h3, List.take_append_drop]
  · rintro ⟨h1, h2, rfl, t, rfl⟩
    have hg := goodL_good h1
    have hno := seal_no (body_no (k := k) hg).2
    have hi : Lib.indexByte (lineL k c r ++ t) 10 = ((sealL (bodyL k c r)).length : Int) := by
      have : lineL k c r ++ t = sealL (bodyL k c r) ++ 10 :: t := by simp [lineL]
      rw [this]
      exact indexByte_app hno
    unfold stepL
    have hll : (sealL (bodyL k c r)).length + 1 = (lineL k c r).length := by simp [lineL]
    rw [hi, if_neg (by omega), Int.toNat_natCast, hll, List.take_append_of_le_length (Nat.le_refl _), List.take_length, decL_iff.2 ⟨h1, h2, rfl⟩]
    rfl

def endOf (l : List ((Bs × Bs) × Nat)) : Nat := (l.map (·.2)).sum
/-- All that is read of a text. -/
def readAll (s : Bs) : List ((Bs × Bs) × Nat) := readL 60 0 s
/-- The places behind the records. -/
def endsFrom : Nat → List ((Bs × Bs) × Nat) → List Nat
  | at_, [] => [at_]
  | at_, e :: l => at_ :: endsFrom (at_ + e.2) l
def endsL (s : Bs) : List Nat := endsFrom 0 (readAll s)
end Go.Proofs.YtfnmkbpogbekpaaGreatDoor.Lg
namespace Go.Proofs.YtfnmkbpogbekpaaGreatDoor.Lg
open Go.RowKit

def mk (l : Bs) : ByteArray := ⟨l.toArray⟩
theorem bs_of (l : Bs) : bs (mk l) = l := rfl
theorem mk_of (s : ByteArray) : mk (bs s) = s := bs_inj rfl
theorem mk_eq {s : ByteArray} {l : Bs} (h : bs s = l) : s = mk l := bs_inj h
theorem bs_app (a b : ByteArray) : bs (a ++ b) = bs a ++ bs b := by
  unfold bs
  rw [ByteArray.data_append, Array.toList_append]
theorem bs_ext (s : ByteArray) (i j : Nat) : bs (s.extract i j) = ((bs s).drop i).take (j - i) := Lib.extract_data s i j
theorem size_bs (s : ByteArray) : s.size = (bs s).length := rfl
theorem size_mk (l : Bs) : (mk l).size = l.length := rfl
/-- A concatenation, as the walk meets it. -/
theorem cat (a b : ByteArray) (h : a.size + b.size ≤ 1099511627776) : ∀ w, (Op.stringOp .add a b).run Tryz.prog w = .ok (.string (a ++ b)) w := fun w => run_string_add_sum w a b (by omega)
theorem size_app (a b : ByteArray) : (a ++ b).size = a.size + b.size := by rw [size_bs, bs_app, List.length_append]; rfl
theorem keepc {w w' : World} {p : Addr} {v : Value} (hb : Below w.heap.size w w') (h : w.cell? p = some v) : w'.cell? p = some v := (hb.cell (cell_lt h)).trans h

/-- The library's table of powers of ten reads as its initialiser lays it. -/
def Tab (w : World) : Prop := Lib.TabIs Tryz.prog w "internal/strconv.uint64pow10" .u64 Lib.pow10Tab
theorem Tab.next {w w' : World} (h : Tab w) (hb : Below w.heap.size w w') : Tab w' := (Lib.tabBelow_of_tabIs h) w' hb
theorem Tab.drewN {w : World} (h : Tab w) (n : Nat) : Tab (w.drewN n) := h.next (below_drewN (Below.refl _ _) _)
theorem below_grow (w : World) (os : Array Obj) (k : Nat) : Below w.heap.size w (Sort.grow (w.drewN k) os) := by
  refine ⟨rfl, rfl, rfl, ?_, fun i hi => ?_⟩
  · show w.heap.size ≤ (w.heap ++ os).size
    rw [Array.size_append]; omega
  · show (w.heap ++ os)[i]? = w.heap[i]?
    rw [Array.getElem?_append_left hi]

/-! ## the reference's numeral -/
theorem digit_piece {i : Nat} (h : i < 10) : ((([48, 49, 50, 51, 52, 53, 54, 55, 56, 57] : Bs).drop i).take (i + 1 - i)) = [UInt8.ofNat (48 + i)] := by
  have : ∀ i : Fin 10, ((([48, 49, 50, 51, 52, 53, 54, 55, 56, 57] : Bs).drop i.val).take (i.val + 1 - i.val)) = [UInt8.ofNat (48 + i.val)] := by decide
  exact this ⟨i, h⟩
theorem num_small {n : Nat} (h : n < 10) : (⟨#[48, 49, 50, 51, 52, 53, 54, 55, 56, 57]⟩ : ByteArray).extract n (n + 1) = mk (Lib.decDigits n) := by
  apply mk_eq
  rw [bs_ext, Lib.decDigits_one h]
  exact digit_piece h
theorem num_big {n : Nat} (h : ¬ n < 10) : mk (Lib.decDigits (n / 10)) ++ (⟨#[48, 49, 50, 51, 52, 53, 54, 55, 56, 57]⟩ : ByteArray).extract (n % 10) (n % 10 + 1) = mk (Lib.decDigits n) := by
  apply mk_eq
  rw [bs_app, bs_ext, bs_of, Lib.decDigits.eq_def n, dif_neg h]
  congr 1
  exact digit_piece (Nat.mod_lt _ (by decide))

set_option maxHeartbeats 1000000 in
theorem l1Num_any (n : Nat) : ∀ (_hn : n < 1000000) (w : World), Calls Tryz.prog 156 #[.int .i64 n] w (Qt w (.string (mk (Lib.decDigits n)))) := by
  induction n using Nat.strongRecOn with
  | _ n ih =>
    intro hn w
    by_cases h10 : n < 10
    · have HD := Lib.hid (num_small h10)
      have hi0 : (0 : Int) ≤ (n : Int) := by omega
      have hi1 : (n : Int) < 10 := by omega
      clear ih
      go_enter Tryz.func156, Tryz.ntmps156
      go_wp2
      go_ret
      exact ⟨ret_str HD.out, 0, rfl⟩
    · have HD := Lib.hid (num_big h10)
      have hr := ih (n / 10) (by omega) (by omega)
      have hi0 : (10 : Int) ≤ (n : Int) := by omega
      have f1 : IntKind.i64.wrap ((n : Int) / 10) = (n : Int) / 10 := IntWalk.i64_in _ (by omega)
      have f2 : (n : Int).tmod 10 = (n : Int) % 10 := rfl
      have f3 : IntKind.i64.wrap ((n : Int) % 10 + 1) = (n : Int) % 10 + 1 := IntWalk.i64_in _ (by omega)
      have b0 : (0 : Int) ≤ (n : Int) % 10 := by omega
      have b1 : (n : Int) % 10 + 1 ≤ 10 := by omega
      have b2 : (n : Int) % 10 ≤ 9 := by omega
      have b3 : (n : Int) % 10 < 10 := by omega
      have b4 : (0 : Int) ≤ (n : Int) % 10 + 1 := by omega
      have b5 : (n : Int) % 10 + 1 ≤ ((⟨#[48, 49, 50, 51, 52, 53, 54, 55, 56, 57]⟩ : ByteArray).size : Int) := b1
      have hsl : ∀ w, (Instr.slice 9 (.string ⟨#[48, 49, 50, 51, 52, 53, 54, 55, 56, 57]⟩) (some (.int .i64 ((n : Int) % 10))) (some (.int .i64 ((n : Int) % 10 + 1))) none).run Tryz.prog w = .ok (.string ((⟨#[48, 49, 50, 51, 52, 53, 54, 55, 56, 57]⟩ : ByteArray).extract (n % 10) (n % 10 + 1))) w := fun w => by
        have := run_slice_string (P := Tryz.prog) (w := w) 9 ⟨#[48, 49, 50, 51, 52, 53, 54, 55, 56, 57]⟩ .i64 .i64 ((n : Int) % 10) ((n : Int) % 10 + 1) Tryz.underlying9 b0 (by omega) b1
        rw [this]
        have e1 : ((n : Int) % 10).toNat = n % 10 := by omega
        have e2 : ((n : Int) % 10 + 1).toNat = n % 10 + 1 := by omega
        rw [e1, e2]
      have hr' : ∀ w, Calls Tryz.prog 156 #[.int .i64 ((n : Int) / 10)] w (Qt w (.string (mk (Lib.decDigits (n / 10))))) := hr
      have kc := cat (mk (Lib.decDigits (n / 10))) ((⟨#[48, 49, 50, 51, 52, 53, 54, 55, 56, 57]⟩ : ByteArray).extract (n % 10) (n % 10 + 1)) (by
        have h1 := dec_len (u := n / 10) (by omega)
        rw [size_mk, size_bs, bs_ext, List.length_take]
        omega)
      clear ih h10
      go_enter Tryz.func156, Tryz.ntmps156
      go_wp2
      go_quiet ((go_at_call 156; (first | exact quiet_one (hr' _) | exact quiet_add (hr' _))))
      go_wp2
      go_ret
      exact ⟨ret_str HD.out, (by first | exact Drawn.zero _ | exact Drawn.at_ _ _ | exact (Drawn.at_ _ _).more _ | exact ((Drawn.at_ _ _).more _).more _)⟩

/-! ## checksums -/
def SumAt (s : ByteArray) (k h : Nat) : Prop := ((bs s).drop k).foldl sumF h = sumL (bs s)
theorem SumAt.step {s : ByteArray} {k h : Nat} (H : SumAt s k h) (hk : k < s.size) : SumAt s (k + 1) (sumF h s[k]) := by
  unfold SumAt at *; rw [drop_cons s k hk] at H; rw [← H]; rfl
theorem SumAt.done {s : ByteArray} {k h : Nat} (H : SumAt s k h) (hk : ¬ k < s.size) : h = sumL (bs s) := by
  unfold SumAt at *; rw [drop_end s k hk] at H; rw [← H]; rfl
end Go.Proofs.YtfnmkbpogbekpaaGreatDoor.Lg
namespace Go.Proofs.YtfnmkbpogbekpaaGreatDoor.Lg
open Go.RowKit

/-! ## a record's line -/
end Go.Proofs.YtfnmkbpogbekpaaGreatDoor.Lg
namespace Go.Proofs.YtfnmkbpogbekpaaGreatDoor.Lg
open Go.RowKit

end Go.Proofs.YtfnmkbpogbekpaaGreatDoor.Lg
namespace Go.Proofs.YtfnmkbpogbekpaaGreatDoor.Lg

def splitL (b : UInt8) : Bs → List Bs
  | [] => [[]]
  | x :: l => if x = b then [] :: splitL b l else match splitL b l with
    | [] => [[x]]
    | p :: ps => (x :: p) :: ps
theorem splitL_no {b : UInt8} : ∀ {l : Bs}, b ∉ l → splitL b l = [l]
  | [], _ => rfl
  | x :: l, h => by
    rw [splitL, if_neg (fun e => h (by rw [e]; simp)), splitL_no (fun hm => h (List.mem_cons_of_mem _ hm))]
theorem splitL_app {b : UInt8} : ∀ {a x : Bs}, b ∉ a → splitL b (a ++ b :: x) = a :: splitL b x
  | [], x, _ => by rw [List.nil_append, splitL, if_pos rfl]
  | d :: a, x, h => by
    rw [List.cons_append, splitL, if_neg (fun e => h (by rw [e]; simp)), splitL_app (fun hm => h (List.mem_cons_of_mem _ hm))]
theorem split_at {b : UInt8} : ∀ (l : Bs), b ∈ l → ∃ a x, l = a ++ b :: x ∧ b ∉ a
  | [], h => by simp at h
  | d :: l, h => by
    by_cases hd : d = b
    · exact ⟨[], l, by rw [hd]; rfl, by simp⟩
    · rcases List.mem_cons.1 h with rfl | h
      · exact absurd rfl hd
      · obtain ⟨a, x, e, hn⟩ := split_at l h
        exact ⟨d :: a, x, by rw [e]; rfl, fun hm => by
          rcases List.mem_cons.1 hm with e | hm
          · exact hd e.symm
          · exact hn hm⟩
theorem split_pos (b : UInt8) (l : Bs) : 0 < (splitL b l).length := by
  by_cases h : b ∈ l
  · obtain ⟨a, x, rfl, hn⟩ := split_at l h
    rw [splitL_app hn]; simp
  · rw [splitL_no h]; simp
/-- What the reference's reading of a line says, and what the program's says. -/
def DecR (k : Nat) (line c r : Bs) (ok : Bool) : Prop := match decL k line with
  | some (c', r') => ok = true ∧ c = c' ∧ r = r'
  | none => ok = false
theorem DecR.yes {k : Nat} {line c r : Bs} (h1 : goodL c r = true) (h2 : k < 60) (h3 : lineL k c r = line) : DecR k line c r true := by
  unfold DecR; rw [decL_iff.2 ⟨h1, h2, h3⟩]; exact ⟨rfl, rfl, rfl⟩
theorem DecR.no {k : Nat} {line c r : Bs} (h : ∀ c r, goodL c r = true → k < 60 → lineL k c r ≠ line) : DecR k line c r false := by
  unfold DecR; rw [decL_none h]
/-! ## the program's decoding -/
end Go.Proofs.YtfnmkbpogbekpaaGreatDoor.Lg
namespace Go.Proofs.YtfnmkbpogbekpaaGreatDoor.Lg
open Go.RowKit

theorem info_string : (Tryz.prog.info? 9).map (fun i => (i.zero, i.size, i.bytes)) = some (some (.string ⟨#[]⟩), 1, 16) := by kernel_rfl
def strs (l : List Bs) : List Value := l.map fun s => .string (mk s)
theorem strs_snoc (l : List Bs) (s : Bs) : strs (l ++ [s]) = strs l ++ [.string (mk s)] := by simp [strs]
def RSb (_ : World) (v : Value) (x : Bs) : Prop := v = .string (mk x)
theorem stab_RSb : Stab RSb := fun _ _ _ _ _ h => h

def SplAt (b : UInt8) (l : Bs) (out : List Bs) (q i : Nat) : Prop := out ++ splitL b (l.drop q) = splitL b l ∧ ∀ j, q ≤ j → j < i → l[j]? ≠ some b
theorem SplAt.start (b : UInt8) (l : Bs) : SplAt b l [] 0 0 := ⟨by simp, fun j _ h => by omega⟩
theorem SplAt.skip {b : UInt8} {l : Bs} {out : List Bs} {q i : Nat} (h : SplAt b l out q i) (hi : l[i]? ≠ some b) : SplAt b l out q (i + 1) := by
  refine ⟨h.1, fun j h1 h2 => ?_⟩
  rcases Nat.lt_or_ge j i with h3 | h3
  · exact h.2 j h1 h3
  · have : j = i := by omega
    subst this
    exact hi
theorem not_mem_piece {b : UInt8} {l : Bs} {q i : Nat} (h : ∀ j, q ≤ j → j < i → l[j]? ≠ some b) : b ∉ (l.drop q).take (i - q) := fun hm => by
  obtain ⟨j, hj⟩ := List.getElem?_of_mem hm
  rw [List.getElem?_take] at hj
  split at hj
  · rw [List.getElem?_drop] at hj
    exact h (q + j) (by omega) (by omega) hj
  · cases hj
theorem SplAt.cut {b : UInt8} {l : Bs} {out : List Bs} {q i : Nat} (h : SplAt b l out q i) (hq : q ≤ i) (hi : l[i]? = some b) : SplAt b l (out ++ [(l.drop q).take (i - q)]) (i + 1) (i + 1) := by
  refine ⟨?_, fun j h1 h2 => by omega⟩
  have hlt := (List.getElem?_eq_some_iff.1 hi).1
  have e : l.drop q = (l.drop q).take (i - q) ++ b :: l.drop (i + 1) := by
    have h1 := List.take_append_drop (i - q) (l.drop q)
    rw [List.drop_drop, show q + (i - q) = i by omega, List.drop_eq_getElem_cons hlt] at h1
    have h2 : l[i] = b := (List.getElem?_eq_some_iff.1 hi).2
    rw [h2] at h1
    exact h1.symm
  have hn := not_mem_piece h.2
  obtain ⟨X, hX⟩ : ∃ X, X = (l.drop q).take (i - q) := ⟨_, rfl⟩
  rw [← hX] at e hn ⊢
  rw [← h.1, e, splitL_app hn]
  simp
theorem SplAt.done {b : UInt8} {l : Bs} {out : List Bs} {q i : Nat} (h : SplAt b l out q i) (hi : l.length ≤ i) : splitL b l = out ++ [l.drop q] := by
  rw [← h.1, splitL_no]
  intro hm
  obtain ⟨j, hj⟩ := List.getElem?_of_mem hm
  rw [List.getElem?_drop] at hj
  have := (List.getElem?_eq_some_iff.1 hj).1
  exact h.2 (q + j) (by omega) (by omega) hj

theorem ret_sl {A : Option Addr} {n m c : Nat} (h : n = m) : Ending.returned (.slice A n c) = .returned (.slice A m c) := by rw [h]
def SplitR (w : World) (l : List Bs) (e : Ending) (w' : World) : Prop := ∃ A c, e = .returned (.slice A l.length c) ∧ RdL RSb w' A l.length l ∧ Below w.heap.size w w'
def SplitO (w : World) (l : List Bs) (e : Ending) (w' : World) : Prop := ∃ A c, e = .returned (.slice A l.length c) ∧ w'.ownsRow w.heap.size 9 1 (.slice A l.length c) l.length (strs l) ∧ Below w.heap.size w w' ∧ l.length ≤ maxLen
theorem rd_strs {w : World} {base n c : Nat} {A : Option Addr} {l : List Bs} (hn : n ≤ maxLen) (h : w.ownsRow base 9 1 (.slice A n c) n (strs l)) (hl : l.length = n) : RdL RSb w A n l := by
  obtain ⟨A', c', e, hr⟩ := RdL.ofOwn (R := RSb) hn h hl (fun k x hk => ⟨.string (mk x), by simp [strs, hk], rfl⟩)
  injection e with e1 e2 e3
  subst e1
  exact hr

set_option maxHeartbeats 1000000 in
theorem l1Split_own (s : ByteArray) (b : UInt8) (c : Int) (hbc : (b.toNat : Int) = c) (w : World) (hs : s.size ≤ 1073741824) :
    Calls Tryz.prog 94 #[.string s, .int .u8 c] w (SplitO w (splitL b (bs s))) := by
  subst hbc
  go_enter Tryz.func94, Tryz.ntmps94
  go_wp2
  go_loopw [5, 6, 7] (fun v f i wr => ∃ (k q m : Nat) (out : List Bs) (A : Option Addr) (c : Nat), k ≤ s.size ∧ q ≤ k ∧ m ≤ k ∧ i = .int .i64 k ∧ f = .int .i64 q ∧ v = .slice A m c ∧ out.length = m ∧ wr.ownsRow w.heap.size 9 1 (.slice A m c) m (strs out) ∧ SplAt b (bs s) out q k ∧ Below w.heap.size w wr) (fun _ _ i _ => s.size - (intOf i).toNat)
  case atStart => exact ⟨0, 0, 0, [], _, _, Nat.zero_le _, Nat.le_refl _, Nat.le_refl _, rfl, rfl, rfl, rfl, World.ownsRow_lit _ _ _ (Nat.le_refl _) (Nat.zero_le _) rfl, SplAt.start _ _, below_box _ _⟩
  case round =>
    obtain ⟨k, q, m, out, A, c, hk, hqk, hmk, rfl, rfl, rfl, hml, hown, H, hT⟩ := hrel
    have HML := Lib.hid hml
    clear hml
    have hbase := hT.size
    by_cases hlt : k < s.size
    · have HG : Hid ((bs s)[k]? = some s[k]) := by
        show (s.data.toList)[k]? = _
        rw [List.getElem?_eq_getElem (by exact hlt)]
        rfl
      rcases hb : ((s[k].toNat : Int) == (b.toNat : Int)) with _ | _
      · have HN : Hid ((bs s)[k]? ≠ some b) := by
          show ¬ _
          rw [HG.out]
          rintro h
          injection h with h
          rw [h] at hb
          simp at hb
        go_wp2
        go_roundw
        case rel => exact ⟨k + 1, q, m, out, A, c, by omega, by omega, by omega, by go_num, rfl, rfl, HML.out, hown, H.skip HN.out, hT⟩
        case measure => simp [intOf]; omega
      · have HY : Hid ((bs s)[k]? = some b) := by
          show _ = _
          rw [HG.out]
          have : s[k].toNat = b.toNat := by have := beq_iff_eq.1 hb; omega
          rw [UInt8.toNat_inj.1 this]
        have HP : Hid (s.extract q k = mk (((bs s).drop q).take (k - q))) := by
          show _ = _
          apply mk_eq
          rw [bs_ext]
        have hq0 : (0 : Int) ≤ (q : Int) := by omega
        have hqk' : (q : Int) ≤ (k : Int) := by omega
        have hk0 : (0 : Int) ≤ (k : Int) := by omega
        have hks : (k : Int) ≤ (s.size : Int) := by omega
        go_wp2_with (at_builtin; refine app1 wr rfl _ _ 117 9 rfl (.string ⟨#[]⟩) 16 Tryz.underlying117 info_string rfl (by decide) w.heap.size m c A (strs out) rfl hown (.string (s.extract q k)) rfl rfl (by omega) hbase ?_; intro A3 c3 w3 hown3 hg3 hb3)
        go_roundw
        case rel => exact ⟨k + 1, k + 1, m + 1, out ++ [((bs s).drop q).take (k - q)], A3, c3, by omega, by omega, by omega, by go_num, by go_num, rfl, by rw [List.length_append, HML.out]; rfl, by rw [strs_snoc, ← HP.out]; exact hown3, H.cut hqk HY.out, hT.trans hb3⟩
        case measure => simp [intOf]; omega
    · obtain rfl : k = s.size := by omega
      have HP : Hid (s.extract q s.size = mk ((bs s).drop q)) := by
        show _ = _
        apply mk_eq
        rw [bs_ext, List.take_of_length_le (by rw [List.length_drop, size_bs]; omega)]
      have HD := Lib.hid (H.done (Nat.le_refl _))
      have hq0 : (0 : Int) ≤ (q : Int) := by omega
      have hqk' : (q : Int) ≤ (s.size : Int) := by omega
      go_wp2_with (at_builtin; refine app1 wr rfl _ _ 117 9 rfl (.string ⟨#[]⟩) 16 Tryz.underlying117 info_string rfl (by decide) w.heap.size m c A (strs out) rfl hown (.string (s.extract q s.size)) rfl rfl (by omega) hbase ?_; intro A3 c3 w3 hown3 hg3 hb3)
      go_ret
      have hl : (splitL b (bs s)).length = m + 1 := by rw [HD.out, List.length_append, HML.out]; rfl
      refine ⟨A3, c3, ret_sl hl.symm, ?_, hT.trans hb3, by unfold maxLen; omega⟩
      rw [hl]
      rw [HD.out, strs_snoc, ← HP.out]
      exact hown3
theorem l1Split_any (s : ByteArray) (b : UInt8) (c : Int) (hbc : (b.toNat : Int) = c) (w : World) (hs : s.size ≤ 1073741824) :
    Calls Tryz.prog 94 #[.string s, .int .u8 c] w (SplitR w (splitL b (bs s))) := by
  refine (l1Split_own s b c hbc w hs).mono ?_
  rintro e w' ⟨A, c, rfl, ho, hb, hm⟩
  exact ⟨A, c, rfl, rd_strs hm ho rfl, hb⟩
end Go.Proofs.YtfnmkbpogbekpaaGreatDoor.Lg
namespace Go.Proofs.YtfnmkbpogbekpaaGreatDoor.Lg
open Go.RowKit

/-! ## VerifyChecksum -/
end Go.Proofs.YtfnmkbpogbekpaaGreatDoor.Lg
namespace Go.Proofs.YtfnmkbpogbekpaaGreatDoor.Lg
open Go.RowKit

end Go.Proofs.YtfnmkbpogbekpaaGreatDoor.Lg
namespace Go.Proofs.YtfnmkbpogbekpaaGreatDoor.Lg
open Go.RowKit

end Go.Proofs.YtfnmkbpogbekpaaGreatDoor.Lg
namespace Go.Proofs.YtfnmkbpogbekpaaGreatDoor.Lg
open Go.RowKit

/-- append of one element of two cells to a row of the call's own. -/
theorem app2 {P : Program} (w0 : World) {ops : Array Oper} {rest : List Oper} {o : Oper} {a : Act} {Q : Exit → Act → World → Prop} (hgd : o.guard = none) (s x : Operand) (t e : TypeId)
    (ho : o.op = .call { callee := .builtin .append, args := #[s, x], argTypes := #[t, t] }) (z : Value) (bytes : Nat)
    (ht : P.underlying t = some (.slice e)) (hi : (P.info? e).map (fun i => (i.zero, i.size, i.bytes)) = some (some z, 2, bytes)) (hzs : z.cells.size = 2) (hbb : bytes ≤ 64)
    (base n c : Nat) (A : Option Addr) (xs : List Value) (hs : a.eval s = .slice A n c) (hown : w0.ownsRow base e 2 (.slice A n c) n xs) (u v : Value) (h1 : u.oneCell' = true) (h2 : v.oneCell' = true) (hx : a.eval x = .slice (some ⟨w0.heap.size, 0, none⟩) 1 1)
    (hn : n ≤ 1099511627776) (hbase : base ≤ w0.heap.size)
    (hK : ∀ A' c' w', w'.ownsRow base e 2 (.slice A' (n + 1) c') (n + 1) (xs ++ [u, v]) → w0.grownBy w' (Value.slice A n c).ownBlock → Below base w0 w' → wpList P ops Q rest (a.put o.dst (.slice A' (n + 1) c')) w') :
    wpList P ops Q (o :: rest) a (w0.alloc (.cells #[u, v] e)) := by
  obtain ⟨i, hi, hz, hsize, hby⟩ := info_parts hi
  have hbound : (n + 1) * bytes ≤ 140737488355328 := Nat.le_trans (Nat.mul_le_mul_left (n + 1) hbb) (by omega)
  refine wpList_plain hgd fun _ hK' => ?_
  refine wp_append_own (w0.alloc (.cells #[u, v] e)) s x t ho base e i z 2 bytes ht hi hz hsize hby hzs (by omega) (.slice A n c) n xs hs (hown.alloc _) ⟨w0.heap.size, 0, none⟩ 1 1 [u, v] hx rfl ?_ ?_ (by unfold maxLen; omega) hbound (by simp; omega) ?_
  · intro j y hj
    match j, hj with
    | 0, hj => simp at hj; subst hj; simp [Addr.add]
    | 1, hj => simp at hj; subst hj; simp [Addr.add]
  · intro y hy
    simp at hy
    rcases hy with rfl | rfl
    · exact h1
    · exact h2
  · intro v' w' hown' hgrow _
    obtain ⟨A', c', rfl⟩ := own_slice hown'
    have hg : w0.grownBy w' (Value.slice A n c).ownBlock :=
      ⟨hgrow.os, hgrow.tape, hgrow.output, Nat.le_trans (by simp) hgrow.size, fun k hk hne => (hgrow.block k (by simp; omega) hne).trans (Below.heap_alloc w0 _ k hk)⟩
    exact hK' _ _ (hK A' c' w' hown' hg ((Below.refl base w0).grown hg hbase (fun k hk => (hown.lt k hk).1)))

/-! ## one step of reading -/
/-- How far the reading has come: k records, the bytes up to p. -/
def ReadAt (s : Bs) (l : List ((Bs × Bs) × Nat)) (p : Nat) : Prop := readAll s = l ++ readL (60 - l.length) l.length (s.drop p) ∧ endOf l = p ∧ l.length ≤ 60 ∧ p ≤ s.length
theorem ReadAt.start (s : Bs) : ReadAt s [] 0 := ⟨rfl, rfl, by simp, Nat.zero_le _⟩
theorem endOf_snoc (l : List ((Bs × Bs) × Nat)) (e : (Bs × Bs) × Nat) : endOf (l ++ [e]) = endOf l + e.2 := by simp [endOf]
theorem ReadAt.stop {s : Bs} {l : List ((Bs × Bs) × Nat)} {p : Nat} (h : ReadAt s l p) (hs : stepL l.length (s.drop p) = none) : readAll s = l := by
  have h1 := h.1
  cases hf : 60 - l.length with
  | zero => rw [hf] at h1; simpa [readL] using h1
  | succ f => rw [hf, readL, hs] at h1; simpa using h1
theorem ReadAt.step {s : Bs} {l : List ((Bs × Bs) × Nat)} {p m : Nat} {e : Bs × Bs} (h : ReadAt s l p) (hl : l.length < 60) (hs : stepL l.length (s.drop p) = some (e, m)) : ReadAt s (l ++ [(e, m)]) (p + m) := by
  have h1 := h.1
  obtain ⟨f, hf⟩ : ∃ f, 60 - l.length = f + 1 := ⟨59 - l.length, by omega⟩
  obtain ⟨c, r⟩ := e
  obtain ⟨-, -, hm, t, ht⟩ := step_some.1 hs
  have hlen : p + m ≤ s.length := by
    have := congrArg List.length ht
    rw [List.length_drop, List.length_append] at this
    have := h.2.2.2
    omega
  refine ⟨?_, by rw [endOf_snoc, h.2.1], by rw [List.length_append]; simp; omega, hlen⟩
  rw [hf, readL, hs] at h1
  simp only [List.drop_drop] at h1
  rw [h1, List.append_assoc, List.length_append]
  simp only [List.singleton_append, List.length_singleton]
  rw [show 60 - (l.length + 1) = f by omega]

end Go.Proofs.YtfnmkbpogbekpaaGreatDoor.Lg
namespace Go.Proofs.YtfnmkbpogbekpaaGreatDoor.Lg
open Go.RowKit

theorem info_int : (Tryz.prog.info? 3).map (fun i => (i.zero, i.size, i.bytes)) = some (some (.int .i64 0), 1, 8) := by kernel_rfl
/-- Does x stand in the list? -/
def hasI (x : Int) : List Int → Bool
  | [] => false
  | y :: l => y == x || hasI x l
end Go.Proofs.YtfnmkbpogbekpaaGreatDoor.Lg
namespace Go.Proofs.YtfnmkbpogbekpaaGreatDoor.Lg
open Go.RowKit

@[reducible] def logV (d p : ByteArray) (n : Int) : Value := .agg #[.string d, .string p, .int .i64 n]
def endA (s : ByteArray) : Nat := endOf (readAll (bs s))
def cntA (s : ByteArray) : Nat := (readAll (bs s)).length
end Go.Proofs.YtfnmkbpogbekpaaGreatDoor.Lg
namespace Go.Proofs.YtfnmkbpogbekpaaGreatDoor.Lg
open Go.RowKit

/-! ## the two readings of 'valid' -/
def endsI (s : Bs) : List Int := (endsL s).map fun (x : Nat) => (x : Int)
theorem hasI_iff (x : Int) : ∀ l : List Int, hasI x l = true ↔ x ∈ l
  | [] => by simp [hasI]
  | y :: l => by
    rw [hasI, Bool.or_eq_true, hasI_iff x l, List.mem_cons, beq_iff_eq]
    constructor
    · rintro (h | h)
      · exact .inl h.symm
      · exact .inr h
    · rintro (h | h)
      · exact .inl h.symm
      · exact .inr h
def vP (s : ByteArray) (D : Nat) (n : Int) : Bool := decide ((endA s : Int) = s.size) && (hasI D (endsI (bs s)) && decide (n = cntA s))
end Go.Proofs.YtfnmkbpogbekpaaGreatDoor.Lg
namespace Go.Proofs.YtfnmkbpogbekpaaGreatDoor
open Go.RowKit

abbrev LogM : Type := (ByteArray × ByteArray × Int)
def shLog : Sh LogM := (Sh.pair Sh.str (Sh.pair Sh.str Sh.int))
theorem rdLog {w : World} {cs : List Value} {x : LogM} (h : shLog.rd w cs x) : cs = [.string x.1, .string x.2.1, .int .i64 x.2.2] ∧ x.1.size ≤ maxLen ∧ x.2.1.size ≤ maxLen ∧ InR x.2.2 := by
  obtain ⟨_, _, rfl, ⟨_, rfl, rfl, hsDurable⟩, ⟨_, _, rfl, ⟨_, rfl, rfl, hsPending⟩, ⟨_, rfl, rfl, loCount, hiCount⟩⟩⟩ := h
  exact ⟨rfl, hsDurable, hsPending, ⟨loCount, hiCount⟩⟩
theorem mkLog {w : World} {x : LogM} (hDurable : x.1.size ≤ maxLen) (hPending : x.2.1.size ≤ maxLen) (hCount : InR x.2.2) : shLog.rd w [.string x.1, .string x.2.1, .int .i64 x.2.2] x :=
  ⟨[.string x.1], [.string x.2.1, .int .i64 x.2.2], rfl, ⟨_, rfl, rfl, hDurable⟩, ⟨[.string x.2.1], [.int .i64 x.2.2], rfl, ⟨_, rfl, rfl, hPending⟩, ⟨_, rfl, rfl, hCount.1, hCount.2⟩⟩⟩
theorem eqPLog (x y : LogM) : eqC x y = (eqC (x.1) (y.1) && (eqC (x.2.1) (y.2.1) && eqC (x.2.2) (y.2.2))) := by
  obtain ⟨x0, x1, x2⟩ := x
  obtain ⟨y0, y1, y2⟩ := y
  simp only [dec_pair]
set_option linter.unusedVariables false in
set_option maxHeartbeats 4000000 in
theorem eqLog_any (cs ds : List Value) (x y : LogM) (w : World) (h : shLog.rd w cs x) (h' : shLog.rd w ds y) :
    Calls Tryz.prog 29 #[.agg cs.toArray, .agg ds.toArray] w (Bl w (.bool (eqC x y))) := by
  obtain ⟨rfl, qDurable, qPending, qCount⟩ := rdLog h
  obtain ⟨rfl, qyDurable, qyPending, qyCount⟩ := rdLog h'
  obtain ⟨w0, hw0, T0, hsz0, BP, BQ⟩ := boxes2 w #[.string x.1, .string x.2.1, .int .i64 x.2.2] #[.string y.1, .string y.2.1, .int .i64 y.2.2] 29 29
  have HD := Lib.hid (eqPLog x y)
  go_enter Tryz.func29, Tryz.ntmps29
  rcases hd0 : eqC (x.1) (y.1) with _ | _
  · have ht : (x.1.toList == y.1.toList) = false := eqq_str hd0
    have HH0 := Lib.hid hd0
    clear hd0
    have cP0 := BP.cell 0
    have cQ0 := BQ.cell 0
    simp at cP0 cQ0
    rw [hw0] at cP0 cQ0
    go_wp2_with fail
    go_ret
    exact ⟨ret_bool (by rw [HD.out, HH0.out]; first | rfl | simp), by first | exact T0 | (rw [← hw0]; exact T0)⟩
  have ht0 : (x.1.toList == y.1.toList) = true := eqq_str hd0
  have HH0 := Lib.hid hd0
  clear hd0
  have cP0 := BP.cell 0
  have cQ0 := BQ.cell 0
  simp at cP0 cQ0
  rw [hw0] at cP0 cQ0
  rcases hd1 : eqC (x.2.1) (y.2.1) with _ | _
  · have ht : (x.2.1.toList == y.2.1.toList) = false := eqq_str hd1
    have HH1 := Lib.hid hd1
    clear hd1
    have cP1 := BP.cell 1
    have cQ1 := BQ.cell 1
    simp at cP1 cQ1
    rw [hw0] at cP1 cQ1
    go_wp2_with fail
    go_ret
    exact ⟨ret_bool (by rw [HD.out, HH0.out, HH1.out]; first | rfl | simp), by first | exact T0 | (rw [← hw0]; exact T0)⟩
  have ht1 : (x.2.1.toList == y.2.1.toList) = true := eqq_str hd1
  have HH1 := Lib.hid hd1
  clear hd1
  have cP1 := BP.cell 1
  have cQ1 := BQ.cell 1
  simp at cP1 cQ1
  rw [hw0] at cP1 cQ1
  rcases hd2 : eqC (x.2.2) (y.2.2) with _ | _
  · have ht : (x.2.2 != y.2.2) = true := neq_int hd2
    have HH2 := Lib.hid hd2
    clear hd2
    have cP2 := BP.cell 2
    have cQ2 := BQ.cell 2
    simp at cP2 cQ2
    rw [hw0] at cP2 cQ2
    go_wp2_with fail
    go_ret
    exact ⟨ret_bool (by rw [HD.out, HH0.out, HH1.out, HH2.out]; first | rfl | simp), by first | exact T0 | (rw [← hw0]; exact T0)⟩
  have ht2 : (x.2.2 != y.2.2) = false := neq_int hd2
  have HH2 := Lib.hid hd2
  clear hd2
  have cP2 := BP.cell 2
  have cQ2 := BQ.cell 2
  simp at cP2 cQ2
  rw [hw0] at cP2 cQ2
  go_wp2_with fail
  go_ret
  exact ⟨ret_bool (by rw [HD.out, HH0.out, HH1.out, HH2.out]; first | rfl | simp), by rw [← hw0]; exact T0⟩
end Go.Proofs.YtfnmkbpogbekpaaGreatDoor
namespace Go.Proofs.YtfnmkbpogbekpaaGreatDoor
open Go.RowKit

abbrev ConsoleM : Type := (LabM × LogM)
def shConsole : Sh ConsoleM := (Sh.pair shLab shLog)
theorem rdConsole {w : World} {cs : List Value} {x : ConsoleM} (h : shConsole.rd w cs x) : ∃ (ALabBaseOps : Option Addr) (nLabBaseOps cLabBaseOps : Nat) (ALabFacts : Option Addr) (nLabFacts cLabFacts : Nat), cs = [.bool x.1.1, .int .i64 x.1.2.1.1, .slice ALabBaseOps nLabBaseOps cLabBaseOps, .slice ALabFacts nLabFacts cLabFacts, .int .i64 x.1.2.2.2, .string x.2.1, .string x.2.2.1, .int .i64 x.2.2.2] ∧ InR x.1.2.1.1 ∧ RdN shOp.m shOp.rd w ALabBaseOps nLabBaseOps x.1.2.1.2 ∧ RdN shFact.m shFact.rd w ALabFacts nLabFacts x.1.2.2.1 ∧ InR x.1.2.2.2 ∧ x.2.1.size ≤ maxLen ∧ x.2.2.1.size ≤ maxLen ∧ InR x.2.2.2 := by
  obtain ⟨_, _, rfl, ⟨_, _, rfl, ⟨_, rfl, rfl⟩, ⟨_, _, rfl, ⟨_, _, rfl, ⟨_, rfl, rfl, loLabBaseSize, hiLabBaseSize⟩, ⟨ALabBaseOps, nLabBaseOps, cLabBaseOps, rfl, rLabBaseOps⟩⟩, ⟨_, _, rfl, ⟨ALabFacts, nLabFacts, cLabFacts, rfl, rLabFacts⟩, ⟨_, rfl, rfl, loLabRefused, hiLabRefused⟩⟩⟩⟩, ⟨_, _, rfl, ⟨_, rfl, rfl, hsLogDurable⟩, ⟨_, _, rfl, ⟨_, rfl, rfl, hsLogPending⟩, ⟨_, rfl, rfl, loLogCount, hiLogCount⟩⟩⟩⟩ := h
  exact ⟨ALabBaseOps, nLabBaseOps, cLabBaseOps, ALabFacts, nLabFacts, cLabFacts, rfl, ⟨loLabBaseSize, hiLabBaseSize⟩, rLabBaseOps, rLabFacts, ⟨loLabRefused, hiLabRefused⟩, hsLogDurable, hsLogPending, ⟨loLogCount, hiLogCount⟩⟩
theorem eqPConsole (x y : ConsoleM) : eqC x y = (eqC (x.1) (y.1) && eqC (x.2) (y.2)) := by
  obtain ⟨x0, x1⟩ := x
  obtain ⟨y0, y1⟩ := y
  simp only [dec_pair]
set_option linter.unusedVariables false in
set_option maxHeartbeats 4000000 in
theorem eqConsole_any (cs ds : List Value) (x y : ConsoleM) (w : World) (h : shConsole.rd w cs x) (h' : shConsole.rd w ds y) :
    Calls Tryz.prog 8 #[.agg cs.toArray, .agg ds.toArray] w (Bl w (.bool (eqC x y))) := by
  obtain ⟨ALabBaseOps, nLabBaseOps, cLabBaseOps, ALabFacts, nLabFacts, cLabFacts, rfl, qLabBaseSize, qLabBaseOps, qLabFacts, qLabRefused, qLogDurable, qLogPending, qLogCount⟩ := rdConsole h
  obtain ⟨AyLabBaseOps, nyLabBaseOps, cyLabBaseOps, AyLabFacts, nyLabFacts, cyLabFacts, rfl, qyLabBaseSize, qyLabBaseOps, qyLabFacts, qyLabRefused, qyLogDurable, qyLogPending, qyLogCount⟩ := rdConsole h'
  obtain ⟨w0, hw0, T0, hsz0, BP, BQ⟩ := boxes2 w #[.bool x.1.1, .int .i64 x.1.2.1.1, .slice ALabBaseOps nLabBaseOps cLabBaseOps, .slice ALabFacts nLabFacts cLabFacts, .int .i64 x.1.2.2.2, .string x.2.1, .string x.2.2.1, .int .i64 x.2.2.2] #[.bool y.1.1, .int .i64 y.1.2.1.1, .slice AyLabBaseOps nyLabBaseOps cyLabBaseOps, .slice AyLabFacts nyLabFacts cyLabFacts, .int .i64 y.1.2.2.2, .string y.2.1, .string y.2.2.1, .int .i64 y.2.2.2] 31 31
  replace qLabBaseOps := qLabBaseOps.next T0
  replace qyLabBaseOps := qyLabBaseOps.next T0
  replace qLabFacts := qLabFacts.next T0
  replace qyLabFacts := qyLabFacts.next T0
  have HD := Lib.hid (eqPConsole x y)
  go_enter Tryz.func8, Tryz.ntmps8
  rcases hd0 : eqC (x.1) (y.1) with _ | _
  · have HH0 := Lib.hid hd0
    clear hd0
    have cP0 := BP.cell 0
    have cQ0 := BQ.cell 0
    have cP1 := BP.cell 1
    have cQ1 := BQ.cell 1
    have cP2 := BP.cell 2
    have cQ2 := BQ.cell 2
    have cP3 := BP.cell 3
    have cQ3 := BQ.cell 3
    have cP4 := BP.cell 4
    have cQ4 := BQ.cell 4
    simp at cP0 cQ0 cP1 cQ1 cP2 cQ2 cP3 cQ3 cP4 cQ4
    rw [hw0] at cP0 cQ0 cP1 cQ1 cP2 cQ2 cP3 cQ3 cP4 cQ4
    go_wp2_with fail
    rw [← hw0]
    refine (eqLab_any [.bool x.1.1, .int .i64 x.1.2.1.1, .slice ALabBaseOps nLabBaseOps cLabBaseOps, .slice ALabFacts nLabFacts cLabFacts, .int .i64 x.1.2.2.2] [.bool y.1.1, .int .i64 y.1.2.1.1, .slice AyLabBaseOps nyLabBaseOps cyLabBaseOps, .slice AyLabFacts nyLabFacts cyLabFacts, .int .i64 y.1.2.2.2] x.1 y.1 _ (mkLab qLabBaseSize qLabBaseOps qLabFacts qLabRefused) (mkLab qyLabBaseSize qyLabBaseOps qyLabFacts qyLabRefused)).mono ?_
    rintro e w1 ⟨rfl, hb1⟩
    rw [HH0.out]
    have T1 := below_next T0 hb1 rfl
    go_wp2_with fail
    go_ret
    exact ⟨ret_bool (by rw [HD.out, HH0.out]; first | rfl | simp), T1⟩
  have HH0 := Lib.hid hd0
  clear hd0
  have cP0 := BP.cell 0
  have cQ0 := BQ.cell 0
  have cP1 := BP.cell 1
  have cQ1 := BQ.cell 1
  have cP2 := BP.cell 2
  have cQ2 := BQ.cell 2
  have cP3 := BP.cell 3
  have cQ3 := BQ.cell 3
  have cP4 := BP.cell 4
  have cQ4 := BQ.cell 4
  simp at cP0 cQ0 cP1 cQ1 cP2 cQ2 cP3 cQ3 cP4 cQ4
  rw [hw0] at cP0 cQ0 cP1 cQ1 cP2 cQ2 cP3 cQ3 cP4 cQ4
  go_wp2_with fail
  rw [← hw0]
  refine (eqLab_any [.bool x.1.1, .int .i64 x.1.2.1.1, .slice ALabBaseOps nLabBaseOps cLabBaseOps, .slice ALabFacts nLabFacts cLabFacts, .int .i64 x.1.2.2.2] [.bool y.1.1, .int .i64 y.1.2.1.1, .slice AyLabBaseOps nyLabBaseOps cyLabBaseOps, .slice AyLabFacts nyLabFacts cyLabFacts, .int .i64 y.1.2.2.2] x.1 y.1 _ (mkLab qLabBaseSize qLabBaseOps qLabFacts qLabRefused) (mkLab qyLabBaseSize qyLabBaseOps qyLabFacts qyLabRefused)).mono ?_
  rintro e w1 ⟨rfl, hb1⟩
  rw [HH0.out]
  have T1 := below_next T0 hb1 rfl
  clear cP0 cQ0 cP1 cQ1 cP2 cQ2 cP3 cQ3 cP4 cQ4
  replace BP := BP.next hb1
  replace BQ := BQ.next hb1
  replace qLabBaseOps := qLabBaseOps.next hb1
  replace qyLabBaseOps := qyLabBaseOps.next hb1
  replace qLabFacts := qLabFacts.next hb1
  replace qyLabFacts := qyLabFacts.next hb1
  rcases hd1 : eqC (x.2) (y.2) with _ | _
  · have HH1 := Lib.hid hd1
    clear hd1
    have cP5 := BP.cell 5
    have cQ5 := BQ.cell 5
    have cP6 := BP.cell 6
    have cQ6 := BQ.cell 6
    have cP7 := BP.cell 7
    have cQ7 := BQ.cell 7
    simp at cP5 cQ5 cP6 cQ6 cP7 cQ7
    go_wp2_with fail
    refine (eqLog_any [.string x.2.1, .string x.2.2.1, .int .i64 x.2.2.2] [.string y.2.1, .string y.2.2.1, .int .i64 y.2.2.2] x.2 y.2 _ (mkLog qLogDurable qLogPending qLogCount) (mkLog qyLogDurable qyLogPending qyLogCount)).mono ?_
    rintro e w2 ⟨rfl, hb2⟩
    rw [HH1.out]
    have T2 := below_next T1 hb2 rfl
    go_wp2_with fail
    go_ret
    exact ⟨ret_bool (by rw [HD.out, HH0.out, HH1.out]; first | rfl | simp), T2⟩
  have HH1 := Lib.hid hd1
  clear hd1
  have cP5 := BP.cell 5
  have cQ5 := BQ.cell 5
  have cP6 := BP.cell 6
  have cQ6 := BQ.cell 6
  have cP7 := BP.cell 7
  have cQ7 := BQ.cell 7
  simp at cP5 cQ5 cP6 cQ6 cP7 cQ7
  go_wp2_with fail
  refine (eqLog_any [.string x.2.1, .string x.2.2.1, .int .i64 x.2.2.2] [.string y.2.1, .string y.2.2.1, .int .i64 y.2.2.2] x.2 y.2 _ (mkLog qLogDurable qLogPending qLogCount) (mkLog qyLogDurable qyLogPending qyLogCount)).mono ?_
  rintro e w2 ⟨rfl, hb2⟩
  rw [HH1.out]
  have T2 := below_next T1 hb2 rfl
  clear cP5 cQ5 cP6 cQ6 cP7 cQ7
  replace BP := BP.next hb2
  replace BQ := BQ.next hb2
  replace qLabBaseOps := qLabBaseOps.next hb2
  replace qyLabBaseOps := qyLabBaseOps.next hb2
  replace qLabFacts := qLabFacts.next hb2
  replace qyLabFacts := qyLabFacts.next hb2
  go_wp2_with fail
  go_ret
  exact ⟨ret_bool (by rw [HD.out, HH0.out, HH1.out]; first | rfl | simp), T2⟩
end Go.Proofs.YtfnmkbpogbekpaaGreatDoor
namespace Go.Proofs.YtfnmkbpogbekpaaGreatDoor
open Go.RowKit

set_option linter.unusedVariables false in
set_option maxHeartbeats 16000000 in
theorem markFactSW_any (v : Value) (xs : List FactM) (bl : List Nat) (k0 : Int) (w : World) (h : (Sh.rowsW shFact 57).own w [v] xs bl) (hnd : bl.Nodup) (h0 : 0 ≤ k0) (h1 : k0 + cntS mcFact xs ≤ 4611686018427387904) :
    Calls Tryz.prog 51 #[v, .int .i64 k0] w (MkE (Sh.rowsW shFact 57) w [v] (mkL mqFact mcFact k0 xs) bl (k0 + cntS mcFact xs)) := by
  obtain ⟨A, n', c, dd, css0, bls, e, hdd, hP0, rfl⟩ := h
  injection e with e _
  subst e
  obtain ⟨A', c', e'⟩ := own_slice hP0.row
  injection e' with e1 e2 e3
  subst e1
  subst e2
  have HDD := Lib.hid hdd
  clear e3 hdd
  have hnl := own_len_le hP0.row
  unfold maxLen at hnl
  have HND := Lib.hid hnd
  clear hnd
  go_enter Tryz.func51, Tryz.ntmps51
  go_wp2
  go_loopw [1, 5] (fun q i wr => ∃ (j : Nat) (k : Int) (ys : List FactM) (css : List (List Value)), j ≤ xs.length ∧ i = .int .i64 j ∧ q = .int .i64 k ∧ MkAt mqFact mcFact k0 xs ys j k ∧ Parts shFact 57 wr (.slice A xs.length c) ys css bls ∧ ChgB (obl (.slice A xs.length c) ++ bls.flatten) w wr) (fun _ i _ => xs.length - (intOf i).toNat)
  case atStart => exact ⟨0, k0, xs, css0, Nat.zero_le _, rfl, rfl, MkAt.start _ _, hP0, ChgB.refl _ _⟩
  case round =>
    clear hP0
    obtain ⟨j, k, ys, css, hj, rfl, rfl, HM, hP, CH⟩ := hrel
    have hyl : ys.length = xs.length := HM.2.2.1
    by_cases hlt : j < xs.length
    · have hd : xs.drop j = xs[j] :: xs.drop (j + 1) := List.drop_eq_getElem_cons hlt
      generalize xs[j] = x at hd
      obtain ⟨hyj, hk0, hk1⟩ := HM.left hd
      have HS := Lib.hid (HM.step hd)
      obtain ⟨g, cap, hv⟩ := hP.slice (by omega : j < ys.length)
      injection hv with hA hn2 hc2
      subst hA
      clear hn2 hc2
      have hl1 := hP.l1
      have hl2 := hP.l2
      have hcj : css[j]? = some (css[j]'(by omega)) := List.getElem?_eq_getElem (by omega)
      have hbj : bls[j]? = some (bls[j]'(by omega)) := List.getElem?_eq_getElem (by omega)
      generalize css[j]'(by omega) = cj at hcj
      generalize bls[j]'(by omega) = bk at hbj
      have ho := hP.el j cj x bk hcj hyj hbj
      obtain ⟨c0, c1, b0, b1, rfl, rfl, O0, ⟨cE, cS, bE, bS, rfl, rfl, ⟨cL, cR, bL, bR, rfl, rfl, OL, OR⟩, OS⟩⟩ := ho
      obtain ⟨_, rfl, ⟨rfl, lo0, hi0⟩, rfl⟩ := O0
      obtain ⟨_, rfl, BL, mL, dL, rfl, -⟩ := (Sh.il 3).ord OL
      obtain ⟨_, rfl, BR, mR, dR, rfl, -⟩ := (Sh.il 3).ord OR
      obtain ⟨_, rfl, BS, mS, dS, rfl, -⟩ := (Sh.il 3).ord OS
      have hgb := nd_head HND.out (g := g) rfl
      have hbk : ∀ b ∈ (bL ++ bR) ++ bS, b ∈ bls.flatten := fun b hb => List.mem_flatten.2 ⟨_, List.mem_of_getElem? hbj, by simpa using hb⟩
      have hndk := nd_el HND.out hbj
      have ndk : ((bL ++ bR) ++ bS).Nodup := by simpa using hndk
      have gL : g ∉ bL := fun hh => hgb (hbk g (by simp [hh]))
      have gR : g ∉ bR := fun hh => hgb (hbk g (by simp [hh]))
      have gS : g ∉ bS := fun hh => hgb (hbk g (by simp [hh]))
      have dLR := nd_x (nd_l ndk)
      have dRL := nd_y (nd_l ndk)
      have dLS : ∀ z ∈ bL, z ∉ bS := fun z hz => nd_x ndk z (List.mem_append_left _ hz)
      have dRS : ∀ z ∈ bR, z ∉ bS := fun z hz => nd_x ndk z (List.mem_append_right _ hz)
      have dSL : ∀ z ∈ bS, z ∉ bL := fun z hz hh => dLS z hh hz
      have dSR : ∀ z ∈ bS, z ∉ bR := fun z hz hh => dRS z hh hz
      have hmb : j * 4 + 4 ≤ xs.length * 4 := by omega
      have ROW := hP.row
      rw [hyl] at ROW
      have hall := hP.all
      have q0 : j * 4 < xs.length * shFact.m := by show _ < _ * 4; omega
      have q1 : j * 4 + 1 < xs.length * shFact.m := by show _ < _ * 4; omega
      have q2 : j * 4 + 2 < xs.length * shFact.m := by show _ < _ * 4; omega
      have q3 : j * 4 + 3 < xs.length * shFact.m := by show _ < _ * 4; omega
      have F0 : css.flatten[j * 4]? = some (.int .i64 x.1) := by have := flat_get hall j 0 (by decide); rw [hcj] at this; exact this
      have F1 : css.flatten[j * 4 + 1]? = some (.slice BL mL dL) := by have := flat_get hall j 1 (by decide); rw [hcj] at this; exact this
      have F2 : css.flatten[j * 4 + 2]? = some (.slice BR mR dR) := by have := flat_get hall j 2 (by decide); rw [hcj] at this; exact this
      have F3 : css.flatten[j * 4 + 3]? = some (.slice BS mS dS) := by have := flat_get hall j 3 (by decide); rw [hcj] at this; exact this
      have cc0 : wr.cell? ⟨g, j * 4, none⟩ = some (.int .i64 x.1) := (ROW.cellAt _ q0).trans F0
      have cc1 : wr.cell? ⟨g, j * 4 + 1, none⟩ = some (.slice BL mL dL) := (ROW.cellAt _ q1).trans F1
      have ff0 : wr.frozen? ⟨g, j * 4, none⟩ = false := ROW.frozenAt _
      obtain ⟨w1, hw1⟩ : ∃ wb, wb = wr.setCell ⟨g, j * 4, none⟩ (.int .i64 k) := ⟨_, rfl⟩
      have ROW1 : w1.ownsRow 0 57 shFact.m (.slice (some ⟨g, 0, none⟩) xs.length c) xs.length (css.flatten.set (j * 4) (.int .i64 k)) := by rw [hw1]; exact (ROW.stored (j * 4) (.int .i64 k)).1
      replace OL : (Sh.il 3).own w1 [.slice BL mL dL] x.2.1.1 bL := by rw [hw1]; exact Sh.oset' (p := ⟨g, j * 4, none⟩) OL gL _
      replace OR : (Sh.il 3).own w1 [.slice BR mR dR] x.2.1.2 bR := by rw [hw1]; exact Sh.oset' (p := ⟨g, j * 4, none⟩) OR gR _
      replace OS : (Sh.il 3).own w1 [.slice BS mS dS] x.2.2 bS := by rw [hw1]; exact Sh.oset' (p := ⟨g, j * 4, none⟩) OS gS _
      have C1 : ChgB (g :: ((bL ++ bR) ++ bS)) wr w1 := by rw [hw1]; exact ChgB.set (p := ⟨g, j * 4, none⟩) (List.mem_cons_self ..) _
      have E1 : (css.flatten.set (j * 4) (.int .i64 k))[j * 4 + 1]? = some (.slice BL mL dL) := set_get_ne F1 (by omega)
      have E2 : (css.flatten.set (j * 4) (.int .i64 k))[j * 4 + 2]? = some (.slice BR mR dR) := set_get_ne F2 (by omega)
      have E3 : (css.flatten.set (j * 4) (.int .i64 k))[j * 4 + 3]? = some (.slice BS mS dS) := set_get_ne F3 (by omega)
      obtain ⟨fl, HFL⟩ : ∃ fl, Hid (css.flatten.set (j * 4) (.int .i64 k) = fl) := ⟨_, rfl⟩
      rw [HFL.out] at ROW1 E1 E2 E3
      have HE1 := Lib.hid E1
      have HE2 := Lib.hid E2
      have HE3 := Lib.hid E3
      have HBJ := Lib.hid hbj
      have HP := Lib.hid hP
      have HYL := Lib.hid hyl
      have hj0 : (0 : Int) ≤ (j : Int) := by omega
      have hj1 : (j : Int) < (xs.length : Int) := by omega
      have hmc : mcFact x = 1 + x.2.1.1.length + x.2.1.2.length + x.2.2.length := rfl
      clear hd HM hP hyl hcj hbj hyj ROW F0 F1 F2 F3 E1 E2 E3 hndk
      go_wp2_with fail
      rw [← hw1]
      clear hw1 cc0 cc1 ff0
      refine (markIl_any _ x.2.1.1 bL (k + 1) w1 OL (by omega) (by omega)).mono ?_
      rintro e w2 ⟨rfl, PL, hc2⟩
      replace ROW1 := row_chg ROW1 hc2 (fun b hb => by injection hb with hb; subst hb; exact gL)
      replace C1 := C1.trans (hc2.mono fun b hb => List.mem_cons_of_mem _ (by simp [hb]))
      replace OR := Sh.ochg OR hc2 dRL
      replace OS := Sh.ochg OS hc2 dSL
      have cc2 : w2.cell? ⟨g, j * 4 + 2, none⟩ = some (.slice BR mR dR) := (ROW1.cellAt _ q2).trans HE2.out
      clear hc2
      go_wp2_with fail
      clear cc2
      refine (markIl_any _ x.2.1.2 bR (k + 1 + x.2.1.1.length) w2 OR (by omega) (by omega)).mono ?_
      rintro e w3 ⟨rfl, PR, hc3⟩
      replace ROW1 := row_chg ROW1 hc3 (fun b hb => by injection hb with hb; subst hb; exact gR)
      replace C1 := C1.trans (hc3.mono fun b hb => List.mem_cons_of_mem _ (by simp [hb]))
      replace PL := Sh.ochg PL hc3 dLR
      replace OS := Sh.ochg OS hc3 dSR
      have cc3 : w3.cell? ⟨g, j * 4 + 3, none⟩ = some (.slice BS mS dS) := (ROW1.cellAt _ q3).trans HE3.out
      clear hc3
      go_wp2_with fail
      clear cc3
      refine (markIl_any _ x.2.2 bS (k + 1 + x.2.1.1.length + x.2.1.2.length) w3 OS (by omega) (by omega)).mono ?_
      rintro e w4 ⟨rfl, PS, hc4⟩
      replace ROW1 := row_chg ROW1 hc4 (fun b hb => by injection hb with hb; subst hb; exact gS)
      replace C1 := C1.trans (hc4.mono fun b hb => List.mem_cons_of_mem _ (by simp [hb]))
      replace PL := Sh.ochg PL hc4 dLS
      replace PR := Sh.ochg PR hc4 dRS
      clear hc4
      have hset : fl = setAll css.flatten (j * shFact.m) [.int .i64 k, .slice BL mL dL, .slice BR mR dR, .slice BS mS dS] := by
        show _ = (((css.flatten.set (j * 4) (.int .i64 k)).set (j * 4 + 1) (.slice BL mL dL)).set (j * 4 + 1 + 1) (.slice BR mR dR)).set (j * 4 + 1 + 1 + 1) (.slice BS mS dS)
        rw [HFL.out, set_same HE1.out, set_same HE2.out, set_same HE3.out]
      rw [hset] at ROW1
      have ROW3 : w4.ownsRow 0 57 shFact.m (.slice (some ⟨g, 0, none⟩) xs.length c) ys.length (setAll css.flatten (j * shFact.m) [.int .i64 k, .slice BL mL dL, .slice BR mR dR, .slice BS mS dS]) := by rw [HYL.out]; exact ROW1
      have hkr : InR k := ⟨by omega, by omega⟩
      have HPP := HP.out.put HND.out HBJ.out (c' := [.int .i64 k, .slice BL mL dL, .slice BR mR dR, .slice BS mS dS]) (x' := mqFact k x) ROW3 ⟨[.int .i64 k], [.slice BL mL dL, .slice BR mR dR, .slice BS mS dS], [], (bL ++ bR) ++ bS, rfl, rfl, ⟨_, rfl, ⟨rfl, hkr.1, hkr.2⟩, rfl⟩, ⟨[.slice BL mL dL, .slice BR mR dR], [.slice BS mS dS], bL ++ bR, bS, rfl, rfl, ⟨[.slice BL mL dL], [.slice BR mR dR], bL, bR, rfl, rfl, PL, PR⟩, PS⟩⟩
        (fun b hb hn => C1.block b (HP.out.lt b (List.mem_append_right _ hb)) (fun hh => by
          rcases List.mem_cons.1 hh with rfl | hh
          · exact hgb hb
          · exact hn (by simpa using hh)))
      have CH2 := CH.trans (C1.mono fun b hb => by
        rcases List.mem_cons.1 hb with rfl | hb
        · exact List.mem_append_left _ (mem_obl.2 rfl)
        · exact List.mem_append_right _ (hbk b hb))
      clear hset ROW1 ROW3 C1 PL PR PS
      have HPP' := Lib.hid HPP
      clear HPP
      go_wp2_with fail
      go_roundw
      case rel => exact ⟨j + 1, _, _, _, by omega, by go_num, rfl, by rw [show k + 1 + ((x.2.1.1.length : Nat) : Int) + ((x.2.1.2.length : Nat) : Int) + ((x.2.2.length : Nat) : Int) = k + mcFact x from by rw [hmc]; omega]; exact HS.out, HPP'.out, CH2⟩
      case measure => simp [intOf]; omega
    · have hj' : j = xs.length := by omega
      obtain ⟨rfl, hk⟩ := HM.done (List.drop_eq_nil_of_le (by omega))
      have HK := Lib.hid hk
      have HPP := Lib.hid hP
      clear hP hk hyl
      have hlt' : ¬ (j : Int) < (xs.length : Int) := by omega
      clear hj'
      go_wp2_with fail
      go_ret
      exact ⟨ret_int HK.out, ⟨A, _, c, dd, css, bls, rfl, HDD.out, HPP.out, rfl⟩, CH⟩
set_option linter.unusedVariables false in
set_option maxHeartbeats 4000000 in
theorem markLabW_any (cs : List Value) (x : LabM) (bl : List Nat) (k0 : Int) (w : World) (h : shLabW.own w cs x bl) (hnd : bl.Nodup) (h0 : 0 ≤ k0) (h1 : k0 + msLab x ≤ 4611686018427387904) :
    Calls Tryz.prog 19 #[.agg cs.toArray, .int .i64 k0] w (MkE shLabW w cs (mqLab k0 x) bl (k0 + msLab x)) := by
  obtain ⟨c0, c1, b0, b1, rfl, rfl, O0, ⟨cA, c2, bA, b2, rfl, rfl, OA, ⟨cF, cR, bF, bR, rfl, rfl, OF, OR⟩⟩⟩ := h
  obtain ⟨_, rfl, rfl, rfl⟩ := O0
  obtain ⟨_, rfl, ⟨rfl, lo0, hi0⟩, rfl⟩ := OR
  obtain ⟨B2, mF, dF, rfl, -⟩ := (Sh.rowsW shFact 57).ord OF
  obtain ⟨BA, mA, dA, rfl, -⟩ := rdAlgebra (shAlgebra.ord OA)
  have hms : msLab x = msAlgebra x.2.1 + cntS mcFact x.2.2.1 := rfl
  have hnd' : (bA ++ bF).Nodup := by simpa using hnd
  obtain ⟨w0, hw0, T0, hsz0, BP⟩ := boxes1 w #[.bool x.1, .int .i64 x.2.1.1, .slice BA mA dA, .slice B2 mF dF, .int .i64 x.2.2.2] 27
  have hA0 : ∀ b ∈ bA, b < w.heap.size := shAlgebra.olt OA
  replace OA := Sh.onext OA T0
  replace OF := Sh.onext OF T0
  go_enter Tryz.func19, Tryz.ntmps19
  go_wp2_with fail
  rw [← hw0]
  clear hw0
  refine (markAlgebra_any _ x.2.1 bA k0 w0 OA (nd_l hnd') h0 (by omega)).mono ?_
  rintro e w1 ⟨rfl, PA, hc⟩
  replace OF := Sh.ochg OF hc (nd_y hnd')
  have cP : w1.cell? ⟨w.heap.size, 3, none⟩ = some (.slice B2 mF dF) := by
    rw [World.cell?_of_block (hc.block w.heap.size (by omega) (fun hh => by have := hA0 _ hh; omega))]
    exact BP.cell 3
  go_wp2_with fail
  clear cP
  refine (markFactSW_any _ x.2.2.1 bF (k0 + msAlgebra x.2.1) w1 OF (nd_r hnd') (by omega) (by omega)).mono ?_
  rintro e w2 ⟨rfl, PF, hc2⟩
  replace PA := Sh.ochg PA hc2 (nd_x hnd')
  go_wp2_with fail
  go_ret
  refine ⟨ret_int (by omega), ⟨[.bool x.1], [.int .i64 x.2.1.1, .slice BA mA dA, .slice B2 mF dF, .int .i64 x.2.2.2], [], bA ++ (bF ++ []), rfl, rfl, ⟨_, rfl, rfl, rfl⟩, ⟨[.int .i64 x.2.1.1, .slice BA mA dA], [.slice B2 mF dF, .int .i64 x.2.2.2], bA, bF ++ [], rfl, rfl, PA, ⟨[.slice B2 mF dF], [.int .i64 x.2.2.2], bF, [], rfl, rfl, PF, ⟨_, rfl, ⟨rfl, lo0, hi0⟩, rfl⟩⟩⟩⟩, ((ChgB.ofBelow T0).trans (hc.mono fun b hb => by simp [hb])).trans (hc2.mono fun b hb => by simp [hb])⟩

def shConsoleW : Sh ConsoleM := (Sh.pair shLabW shLog)
def msConsole (x : ConsoleM) : Nat := msLab x.1
def mqConsole (k : Int) (x : ConsoleM) : ConsoleM := (mqLab k x.1, x.2)
set_option linter.unusedVariables false in
set_option maxHeartbeats 4000000 in
theorem markConsoleW_any (cs : List Value) (x : ConsoleM) (bl : List Nat) (k0 : Int) (w : World) (h : shConsoleW.own w cs x bl) (hnd : bl.Nodup) (h0 : 0 ≤ k0) (h1 : k0 + msConsole x ≤ 4611686018427387904) :
    Calls Tryz.prog 9 #[.agg cs.toArray, .int .i64 k0] w (MkE shConsoleW w cs (mqConsole k0 x) bl (k0 + msConsole x)) := by
  obtain ⟨cA, cB, bA, bB, rfl, rfl, OA, OB⟩ := h
  obtain ⟨B1, m1, d1, B2, m2, d2, rfl, -, -, -, -⟩ := rdLab (shLabW.ord OA)
  obtain ⟨_, _, _, _, rfl, rfl, ⟨_, rfl, ⟨rfl, hz1⟩, rfl⟩, ⟨_, _, _, _, rfl, rfl, ⟨_, rfl, ⟨rfl, hz2⟩, rfl⟩, ⟨_, rfl, ⟨rfl, hz3⟩, rfl⟩⟩⟩ := OB
  obtain ⟨w0, hw0, T0, hsz0, BP⟩ := boxes1 w #[.bool x.1.1, .int .i64 x.1.2.1.1, .slice B1 m1 d1, .slice B2 m2 d2, .int .i64 x.1.2.2.2, .string x.2.1, .string x.2.2.1, .int .i64 x.2.2.2] 31
  have hn0 : (bA ++ ([] ++ ([] ++ []))).Nodup := hnd
  have hnA : bA.Nodup := by simpa using hn0
  have OA0 := Sh.onext OA T0
  have HW0 := Lib.hid hw0
  clear hw0
  go_enter Tryz.func9, Tryz.ntmps9
  go_wp2_with fail
  rw [← HW0.out]
  refine (markLabW_any _ x.1 bA k0 w0 OA0 hnA h0 h1).mono ?_
  rintro e w1 ⟨rfl, PA, hc⟩
  go_wp2_with fail
  go_ret
  refine ⟨rfl, ⟨_, _, bA, [] ++ ([] ++ []), rfl, rfl, PA, ⟨[_], [_, _], [], _, rfl, rfl, ⟨_, rfl, ⟨rfl, hz1⟩, rfl⟩, ⟨[_], [_], [], _, rfl, rfl, ⟨_, rfl, ⟨rfl, hz2⟩, rfl⟩, ⟨_, rfl, ⟨rfl, hz3⟩, rfl⟩⟩⟩⟩, ?_⟩
  exact (ChgB.ofBelow T0).trans (hc.mono fun b hb => List.mem_append_left _ hb)
set_option linter.unusedVariables false in
set_option maxHeartbeats 4000000 in
theorem heldConsole_any (cs : List Value) (x : ConsoleM) (k0 : Int) (w : World) (h : shConsole.rd w cs (mqConsole k0 x)) (h0 : 0 ≤ k0) (h1 : k0 + msConsole x ≤ 4611686018427387904) :
    Calls Tryz.prog 10 #[.agg cs.toArray, .int .i64 k0] w (Bl w (.int .i64 (k0 + msConsole x))) := by
  obtain ⟨c1, c2, rfl, R1, R2⟩ := h
  have R1' := R1
  obtain ⟨B1, m1, d1, B2, m2, d2, rfl, -, -, -, -⟩ := rdLab R1
  obtain ⟨rfl, -, -, -⟩ := rdLog R2
  obtain ⟨w0, hw0, T0, hsz0, BP⟩ := boxes1 w #[.bool (mqConsole k0 x).1.1, .int .i64 (mqConsole k0 x).1.2.1.1, .slice B1 m1 d1, .slice B2 m2 d2, .int .i64 (mqConsole k0 x).1.2.2.2, .string (mqConsole k0 x).2.1, .string (mqConsole k0 x).2.2.1, .int .i64 (mqConsole k0 x).2.2.2] 31
  have HH := Lib.hid (heldLab_any _ x.1 k0 w0 (shLab.stab R1' T0.block) h0 h1)
  have HW0 := Lib.hid hw0
  have hms : msConsole x = msLab x.1 := rfl
  have n1 : ¬ k0 + (msLab x.1 : Int) < 0 := by omega
  clear hw0
  go_enter Tryz.func10, Tryz.ntmps10
  go_wp2_with fail
  rw [← HW0.out]
  refine HH.out.mono ?_
  rintro e w1 ⟨rfl, hb⟩
  go_wp2_with fail
  go_ret
  exact ⟨rfl, below_next T0 hb rfl⟩
end Go.Proofs.YtfnmkbpogbekpaaGreatDoor
namespace Go.Proofs.YtfnmkbpogbekpaaGreatDoor
open Go.RowKit
set_option linter.unusedVariables false
set_option linter.unusedSimpArgs false

noncomputable def ldO (x : LabM) (s : LabStepM) : Option LabM := if x.1 = true then none else (parA s.2.1).map fun a => (true, a, x.2.2.1, x.2.2.2)
noncomputable def ldR (x : LabM) (s : LabStepM) : LabM := (ldO x s).getD zLab
noncomputable def ldB (x : LabM) (s : LabStepM) : Bool := (ldO x s).isSome
theorem ld_none {x : LabM} {s : LabStepM} (h : ldO x s = none) : ldR x s = zLab ∧ ldB x s = false := by unfold ldR ldB; rw [h]; exact ⟨rfl, rfl⟩
theorem ld_some {x : LabM} {s : LabStepM} {y : LabM} (h : ldO x s = some y) : ldR x s = y ∧ ldB x s = true := by unfold ldR ldB; rw [h]; exact ⟨rfl, rfl⟩
theorem rd_zlab (w : World) : shLab.rd w [.bool false, .int .i64 0, .slice none 0 0, .slice none 0 0, .int .i64 0] zLab :=
  mkLab (x := zLab) ⟨by decide, by decide⟩ (RdN.nil _ _ _ _) (RdN.nil _ _ _ _) ⟨by decide, by decide⟩
/-- What is answered reads in each world that has the call's own blocks and where P holds. -/
def RdK {α : Type} (S : Sh α) (P : World → Prop) (w : World) (x : α) (ok : Bool) (e : Ending) (w2 : World) : Prop :=
  ∃ cs, e = .returned (.tuple #[.agg cs.toArray, .bool ok]) ∧ (∀ w3, P w3 → (∀ b, w.heap.size ≤ b → b < w2.heap.size → w3.heap[b]? = w2.heap[b]?) → S.rd w3 cs x) ∧ Below w.heap.size w w2
theorem RdA_zlab {w w' : World} {P : World → Prop} {r : LabM} {ok : Bool} (hb : Below w.heap.size w w') (e : r = zLab ∧ ok = false) :
    RdK shLab P w r ok (.returned (.tuple #[.agg #[.bool false, .int .i64 0, .slice none 0 0, .slice none 0 0, .int .i64 0], .bool false])) w' := by
  obtain ⟨rfl, rfl⟩ := e
  exact ⟨_, rfl, fun w3 _ _ => rd_zlab w3, hb⟩
set_option maxRecDepth 100000 in
set_option maxHeartbeats 16000000 in
theorem specLoad_any (cs ds : List Value) (x : LabM) (s : LabStepM) (w : World) (h : shLab.rd w cs x) (h' : shLabStep.rd w ds s) (hk : s.1 = 1) (hn' : s.2.1.size ≤ 1048576) :
    Calls Tryz.prog 28 #[.agg cs.toArray, .agg ds.toArray] w (RdK shLab (fun w3 => shLab.rd w3 cs x) w (ldR x s) (ldB x s)) := by
  obtain ⟨Bo, k, d, F, n, c, rfl, qZ, qO, qF, qR⟩ := rdLab h
  obtain ⟨AL, nL, cL, AR, nR, cR, AV, nV, cV, AS, nS, cS, rfl, pK, pT, pF, pL, pR, pV, pS, pA, pB⟩ := rdLabStep h'
  obtain ⟨w0, hw0, T0, hsz0, BP, BQ, BZ⟩ := boxes3' w #[.bool x.1, .int .i64 x.2.1.1, .slice Bo k d, .slice F n c, .int .i64 x.2.2.2] #[.int .i64 s.1, .string s.2.1, .int .i64 s.2.2.1.1, .slice AL nL cL, .slice AR nR cR, .slice AV nV cV, .slice AS nS cS, .int .i64 s.2.2.2.2.1, .int .i64 s.2.2.2.2.2] #[.bool false, .int .i64 0, .slice none 0 0, .slice none 0 0, .int .i64 0] 27 59 27
  have HW0 := Lib.hid hw0
  have HPA := Lib.hid (specParse_any s.2.1 w0 hn')
  have HT0 := Lib.hid T0
  have HQF := Lib.hid qF
  have HQR := Lib.hid qR
  have cP0 := BP.cell 0
  have cQ0 := BQ.cell 0
  have cQ1 := BQ.cell 1
  simp at cP0 cQ0 cQ1
  have hs0 : w0.heap.size = w.heap.size + 3 := hsz0
  have hkt : (s.1 == 1) = true := by rw [hk]; rfl
  obtain ⟨xo, HXO⟩ : ∃ b, Hid (x.1 = b) := ⟨_, Lib.hid rfl⟩
  rw [HXO.out] at cP0
  have HBP := Lib.hid BP
  clear hw0 hsz0 h h' qO qF qZ qR pK pT pF pL pR pV pS pA pB T0 hk BP
  go_enter Tryz.func28, Tryz.ntmps28
  go_upto_region 1 with fail
  rw [← HW0.out]
  go_wp2_with fail
  refine HPA.out.mono ?_
  rintro e w5 ⟨csA, blA, rfl, hOA, hIA, hb5⟩
  obtain ⟨Aa, ca, cssA, blsA, rfl, hPOA, hblA, hInA⟩ := PO.of_own hOA hIA (Nat.le_refl _)
  obtain ⟨w6, HW6⟩ : ∃ wb, Hid (wb = w5.alloc (.cells #[.int .i64 (paA s.2.1).1, .slice Aa (paA s.2.1).2.length ca] 24)) := ⟨_, Lib.hid rfl⟩
  have hbx : Below w5.heap.size w5 w6 := by rw [HW6.out]; exact below_box _ _
  have BXA : Blk w6 w5.heap.size 24 #[.int .i64 (paA s.2.1).1, .slice Aa (paA s.2.1).2.length ca] := by rw [HW6.out]; exact Blk.new _ _ _
  have hb6 := below_next hb5 hbx rfl
  have T6 := below_next HT0.out hb6 rfl
  have BZ6 := BZ.next hb6
  have cP6 := keepc hb6 cP0
  have hPO6 := hPOA.next hbx
  have HIA := Lib.hid hInA
  have hz56 := hb5.size
  obtain ⟨pb, HPB⟩ : ∃ b, Hid (paB s.2.1 = b) := ⟨_, Lib.hid rfl⟩
  rw [HPB.out]
  have HF6 := Lib.hid (HQF.out.next T6)
  have BP6 := HBP.out.next hb6
  clear hOA hPOA hInA cP0 cQ0 cQ1 hkt
  go_upto_region 3 with fail
  rw [← HW6.out]
  by_cases hgo : xo = false ∧ pb = true
  rotate_left
  · have HE : Hid (ldR x s = zLab ∧ ldB x s = false) := ld_none (by
      unfold ldO
      rw [HXO.out]
      rcases xo with _ | _
      · rw [if_neg (by decide)]
        rcases pa_opt s.2.1 with ⟨q1, -⟩ | ⟨a, q1, q2, q3⟩
        · rw [q1]; rfl
        · rw [HPB.out] at q3
          exact absurd ⟨rfl, q3⟩ hgo
      · rfl)
    have cZ0 := BZ6.cell 0
    have cZ1 := BZ6.cell 1
    have cZ2 := BZ6.cell 2
    have cZ3 := BZ6.cell 3
    have cZ4 := BZ6.cell 4
    have fZ0 := BZ6.frozen 0
    have fZ1 := BZ6.frozen 1
    have fZ2 := BZ6.frozen 2
    have fZ3 := BZ6.frozen 3
    have fZ4 := BZ6.frozen 4
    simp at cZ0 cZ1 cZ2 cZ3 cZ4
    have HBZ := Lib.hid (blk_set5 BZ6 (.bool false) (.int .i64 0) (.slice none 0 0) (.slice none 0 0) (.int .i64 0))
    have HTZ := Lib.hid (below_set5 T6 (g := w.heap.size + 1 + 1) (by omega) (.bool false) (.int .i64 0) (.slice none 0 0) (.slice none 0 0) (.int .i64 0))
    rcases xo with _ | _
    · obtain rfl : pb = false := by
        rcases pb with _ | _
        · rfl
        · exact absurd ⟨rfl, rfl⟩ hgo
      clear hgo
      go_wp2_with fail
      (try simp only [Exit.inBlock, Exit.then])
      refine bodyPost_ret (v := .tuple #[.agg #[.bool false, .int .i64 0, .slice none 0 0, .slice none 0 0, .int .i64 0], .bool false]) ?hr rfl ?_
      case hr => exact res_row_tmpF rfl _ _ (w.heap.size + 1 + 1) 27 #[.bool false, .int .i64 0, .slice none 0 0, .slice none 0 0, .int .i64 0] (0, 0) _ _ rfl HBZ.out Tryz.underlying27 rfl (by kernel_rfl) rfl
      exact RdA_zlab HTZ.out HE.out
    · clear hgo
      go_wp2_with fail
      (try simp only [Exit.inBlock, Exit.then])
      refine bodyPost_ret (v := .tuple #[.agg #[.bool false, .int .i64 0, .slice none 0 0, .slice none 0 0, .int .i64 0], .bool false]) ?hr rfl ?_
      case hr => exact res_row_tmpF rfl _ _ (w.heap.size + 1 + 1) 27 #[.bool false, .int .i64 0, .slice none 0 0, .slice none 0 0, .int .i64 0] (0, 0) _ _ rfl HBZ.out Tryz.underlying27 rfl (by kernel_rfl) rfl
      exact RdA_zlab HTZ.out HE.out
  · obtain ⟨rfl, rfl⟩ := hgo
    have HE : Hid (ldR x s = (true, paA s.2.1, x.2.2.1, x.2.2.2) ∧ ldB x s = true) := ld_some (by
      unfold ldO
      rw [HXO.out, if_neg (by decide)]
      rcases pa_opt s.2.1 with ⟨q1, q2, q3⟩ | ⟨a, q1, q2, q3⟩
      · rw [HPB.out] at q3; cases q3
      · rw [q1, q2]; rfl)
    obtain ⟨a, HA⟩ : ∃ a, Hid (paA s.2.1 = a) := ⟨_, Lib.hid rfl⟩
    rw [HA.out] at BXA hPO6 HE HIA
    have cA0 := BXA.cell 0
    have cA1 := BXA.cell 1
    have cG0 := BP6.cell 0
    have cG1 := BP6.cell 1
    have cG2 := BP6.cell 2
    have fG0 := BP6.frozen 0
    have fG1 := BP6.frozen 1
    have fG2 := BP6.frozen 2
    simp at cA0 cA1 cG0 cG1 cG2
    have hne5 : w.heap.size ≠ w5.heap.size := by omega
    obtain ⟨w7, HW7⟩ : ∃ wb, Hid (wb = ((w6.setCell ⟨w.heap.size, 0, none⟩ (.bool true)).setCell ⟨w.heap.size, 1, none⟩ (.int .i64 a.1)).setCell ⟨w.heap.size, 2, none⟩ (.slice Aa a.2.length ca)) := ⟨_, Lib.hid rfl⟩
    have BP7 : Blk w7 w.heap.size 27 #[.bool true, .int .i64 a.1, .slice Aa a.2.length ca, .slice F n c, .int .i64 x.2.2.2] := by rw [HW7.out]; simpa using ((BP6.set_ 0 (.bool true)).set_ 1 (.int .i64 a.1)).set_ 2 (.slice Aa a.2.length ca)
    have hpp : w.heap.size < w0.heap.size := by omega
    have hPO7 : PO w0.heap.size w7 (.slice Aa a.2.length ca) a.2 cssA blsA := by rw [HW7.out]; exact ((hPO6.far (p := ⟨w.heap.size, 0, none⟩) hpp _).far (p := ⟨w.heap.size, 1, none⟩) hpp _).far (p := ⟨w.heap.size, 2, none⟩) hpp _
    have T7 : Below w.heap.size w w7 := by rw [HW7.out]; exact ((T6.setCell (p := ⟨w.heap.size, 0, none⟩) (Nat.le_refl _) _).setCell (p := ⟨w.heap.size, 1, none⟩) (Nat.le_refl _) _).setCell (p := ⟨w.heap.size, 2, none⟩) (Nat.le_refl _) _
    have BZ7 : Blk w7 (w.heap.size + 1 + 1) 27 #[.bool false, .int .i64 0, .slice none 0 0, .slice none 0 0, .int .i64 0] := by rw [HW7.out]; exact ((BZ6.far (p := ⟨w.heap.size, 0, none⟩) (by show _ ≠ w.heap.size; omega) _).far (p := ⟨w.heap.size, 1, none⟩) (by show _ ≠ w.heap.size; omega) _).far (p := ⟨w.heap.size, 2, none⟩) (by show _ ≠ w.heap.size; omega) _
    clear BP6 BZ6
    go_upto_region 7 with fail
    rw [HA.out]
    rw [← HW7.out]
    clear cG0 cG1 cG2 fG0 fG1 fG2
    have cG0 := BP7.cell 0
    have cG1 := BP7.cell 1
    have cG2 := BP7.cell 2
    have cG3 := BP7.cell 3
    have cG4 := BP7.cell 4
    have cZ0 := BZ7.cell 0
    have cZ1 := BZ7.cell 1
    have cZ2 := BZ7.cell 2
    have cZ3 := BZ7.cell 3
    have cZ4 := BZ7.cell 4
    have fZ0 := BZ7.frozen 0
    have fZ1 := BZ7.frozen 1
    have fZ2 := BZ7.frozen 2
    have fZ3 := BZ7.frozen 3
    have fZ4 := BZ7.frozen 4
    simp at cG0 cG1 cG2 cG3 cG4 cZ0 cZ1 cZ2 cZ3 cZ4
    have hneg : w.heap.size ≠ w.heap.size + 1 + 1 := by omega
    have HBZ := Lib.hid (blk_set5 BZ7 (.bool true) (.int .i64 a.1) (.slice Aa a.2.length ca) (.slice F n c) (.int .i64 x.2.2.2))
    have hpz : w.heap.size + 1 + 1 < w0.heap.size := by omega
    have HTZ := Lib.hid (below_set5 T7 (g := w.heap.size + 1 + 1) (by omega) (.bool true) (.int .i64 a.1) (.slice Aa a.2.length ca) (.slice F n c) (.int .i64 x.2.2.2))
    have HPO := Lib.hid (((((hPO7.far (p := ⟨w.heap.size + 1 + 1, 0, none⟩) hpz (.bool true)).far (p := ⟨w.heap.size + 1 + 1, 1, none⟩) hpz (.int .i64 a.1)).far (p := ⟨w.heap.size + 1 + 1, 2, none⟩) hpz (.slice Aa a.2.length ca)).far (p := ⟨w.heap.size + 1 + 1, 3, none⟩) hpz (.slice F n c)).far (p := ⟨w.heap.size + 1 + 1, 4, none⟩) hpz (.int .i64 x.2.2.2))
    clear BP7 BZ7 hPO7
    go_wp2_with fail
    (try simp only [Exit.inBlock, Exit.then])
    refine bodyPost_ret (v := .tuple #[.agg #[.bool true, .int .i64 a.1, .slice Aa a.2.length ca, .slice F n c, .int .i64 x.2.2.2], .bool true]) ?hr rfl ?_
    case hr => exact res_row_tmpF rfl _ _ (w.heap.size + 1 + 1) 27 #[.bool true, .int .i64 a.1, .slice Aa a.2.length ca, .slice F n c, .int .i64 x.2.2.2] (0, 0) _ _ rfl HBZ.out Tryz.underlying27 rfl (by kernel_rfl) rfl
    rw [HE.out.1, HE.out.2]
    refine ⟨_, rfl, fun w3 hP hS => ?_, HTZ.out⟩
    have ho := shAlgebra.osame (HPO.out.algO HIA.out) fun b hb => hS b (by have := (HPO.out.2.2.2 b hb).1; omega) (HPO.out.2.2.2 b hb).2
    obtain ⟨B', m', d', e', -, hro⟩ := rdAlgebra (shAlgebra.ord ho)
    obtain ⟨B2, k2, d2, F2, n2, c2, eL, -, -, qF2, qR2⟩ := rdLab hP
    have e4 := congrArg (fun l : List Value => l[3]?) eL
    simp at e4
    obtain ⟨e5, e6, e7⟩ := e4
    exact mkLab (x := (true, a, x.2.2.1, x.2.2.2)) HIA.out (by
      injection e' with _ e'
      injection e' with e' _
      injection e' with e1 e2 e3
      subst e1
      subst e2
      exact hro) (by rw [e5, e6]; exact qF2) HQR.out
theorem blk_set8 {w : World} {g : Nat} {a0 a1 a2 a3 a4 a5 a6 a7 : Value} (h : Blk w g 31 #[a0, a1, a2, a3, a4, a5, a6, a7]) (a b c d e p q r : Value) : Blk ((((((((w.setCell ⟨g, 0, none⟩ a).setCell ⟨g, 1, none⟩ b).setCell ⟨g, 2, none⟩ c).setCell ⟨g, 3, none⟩ d).setCell ⟨g, 4, none⟩ e).setCell ⟨g, 5, none⟩ p).setCell ⟨g, 6, none⟩ q).setCell ⟨g, 7, none⟩ r) g 31 #[a, b, c, d, e, p, q, r] := by
  simpa using (((((((h.set_ 0 a).set_ 1 b).set_ 2 c).set_ 3 d).set_ 4 e).set_ 5 p).set_ 6 q).set_ 7 r
theorem below_set8 {B g : Nat} {w w' : World} (h : Below B w w') (hg : B ≤ g) (a b c d e p q r : Value) : Below B w ((((((((w'.setCell ⟨g, 0, none⟩ a).setCell ⟨g, 1, none⟩ b).setCell ⟨g, 2, none⟩ c).setCell ⟨g, 3, none⟩ d).setCell ⟨g, 4, none⟩ e).setCell ⟨g, 5, none⟩ p).setCell ⟨g, 6, none⟩ q).setCell ⟨g, 7, none⟩ r) :=
  (((((((h.setCell (p := ⟨g, 0, none⟩) hg a).setCell (p := ⟨g, 1, none⟩) hg b).setCell (p := ⟨g, 2, none⟩) hg c).setCell (p := ⟨g, 3, none⟩) hg d).setCell (p := ⟨g, 4, none⟩) hg e).setCell (p := ⟨g, 5, none⟩) hg p).setCell (p := ⟨g, 6, none⟩) hg q).setCell (p := ⟨g, 7, none⟩) hg r
theorem blocks_set8 (w : World) (g : Nat) (a b c d e p q r : Value) {k : Nat} (hk : k ≠ g) : ((((((((w.setCell ⟨g, 0, none⟩ a).setCell ⟨g, 1, none⟩ b).setCell ⟨g, 2, none⟩ c).setCell ⟨g, 3, none⟩ d).setCell ⟨g, 4, none⟩ e).setCell ⟨g, 5, none⟩ p).setCell ⟨g, 6, none⟩ q).setCell ⟨g, 7, none⟩ r).heap[k]? = w.heap[k]? := by
  rw [Below.heap_setCell _ ⟨g, 7, none⟩ _ _ hk, Below.heap_setCell _ ⟨g, 6, none⟩ _ _ hk, Below.heap_setCell _ ⟨g, 5, none⟩ _ _ hk, Below.heap_setCell _ ⟨g, 4, none⟩ _ _ hk, Below.heap_setCell _ ⟨g, 3, none⟩ _ _ hk, Below.heap_setCell _ ⟨g, 2, none⟩ _ _ hk, Below.heap_setCell _ ⟨g, 1, none⟩ _ _ hk, Below.heap_setCell _ ⟨g, 0, none⟩ _ _ hk]

/-! ## Consoles made anew -/
def zLog : LogM := (⟨#[]⟩, ⟨#[]⟩, 0)
def nsS (t : ByteArray) : LabStepM := (1, t, (0, ([], []), []), [], 0, 0)
noncomputable def ncL (t : ByteArray) : Option LabM := (parA t).map fun a => (true, a, [], 0)
noncomputable def ncR (t : ByteArray) : ConsoleM := ((ncL t).getD zLab, zLog)
noncomputable def ncB (t : ByteArray) : Bool := (ncL t).isSome
theorem nc_ld (t : ByteArray) : ldO zLab (nsS t) = ncL t := by unfold ldO; rw [if_neg (by decide)]; rfl
theorem nc_step (t : ByteArray) : stepO zLab (nsS t) = ncL t := by
  have h1 : labB zLab = true := by unfold labB; rfl
  have h2 : stepB (nsS t) = true := by unfold stepB nsS; rfl
  rw [stepO_load ⟨h1, h2, by unfold nsS zLab; simp⟩ rfl]; rfl
theorem rd_ns (w : World) (t : ByteArray) (ht : t.size ≤ maxLen) : shLabStep.rd w [.int .i64 1, .string t, .int .i64 0, .slice none 0 0, .slice none 0 0, .slice none 0 0, .slice none 0 0, .int .i64 0, .int .i64 0] (nsS t) :=
  mkLabStep (x := nsS t) (show InR (1 : Int) from ⟨by decide, by decide⟩) ht (show InR (0 : Int) from ⟨by decide, by decide⟩) (RdL.nil _ _ _) (RdL.nil _ _ _) (RdL.nil _ _ _) (RdL.nil _ _ _) (show InR (0 : Int) from ⟨by decide, by decide⟩) (show InR (0 : Int) from ⟨by decide, by decide⟩)
theorem log_own0 (w : World) : shLog.own w [.string ⟨#[]⟩, .string ⟨#[]⟩, .int .i64 0] zLog [] :=
  ⟨[.string ⟨#[]⟩], [.string ⟨#[]⟩, .int .i64 0], [], [], rfl, rfl, ⟨_, rfl, ⟨rfl, by decide⟩, rfl⟩, ⟨[.string ⟨#[]⟩], [.int .i64 0], [], [], rfl, rfl, ⟨_, rfl, ⟨rfl, by decide⟩, rfl⟩, ⟨_, rfl, ⟨rfl, by decide, by decide⟩, rfl⟩⟩⟩
theorem con_own {w : World} {b : Bool} {i r : Int} {v u : Value} {y : LabM} {bl : List Nat} (h : shLabW.own w [.bool b, .int .i64 i, v, u, .int .i64 r] y bl) : shConsoleW.own w [.bool b, .int .i64 i, v, u, .int .i64 r, .string ⟨#[]⟩, .string ⟨#[]⟩, .int .i64 0] (y, zLog) (bl ++ []) :=
  ⟨[.bool b, .int .i64 i, v, u, .int .i64 r], [.string ⟨#[]⟩, .string ⟨#[]⟩, .int .i64 0], bl, [], rfl, rfl, h, log_own0 w⟩
theorem con_rd {w : World} {b : Bool} {i r : Int} {v u : Value} {y : LabM} (h : shLab.rd w [.bool b, .int .i64 i, v, u, .int .i64 r] y) : shConsole.rd w [.bool b, .int .i64 i, v, u, .int .i64 r, .string ⟨#[]⟩, .string ⟨#[]⟩, .int .i64 0] (y, zLog) :=
  ⟨[.bool b, .int .i64 i, v, u, .int .i64 r], [.string ⟨#[]⟩, .string ⟨#[]⟩, .int .i64 0], rfl, h, shLog.ord (log_own0 w)⟩
theorem con_own0 (w : World) : shConsoleW.own w [.bool false, .int .i64 0, .slice none 0 0, .slice none 0 0, .int .i64 0, .string ⟨#[]⟩, .string ⟨#[]⟩, .int .i64 0] (zLab, zLog) [] := by
  obtain ⟨bl, ho, hiv⟩ := (labW_zero w.heap.size w).own (x := zLab) ⟨by decide, by decide⟩ ⟨by decide, by decide⟩
  have hb : bl = [] := by
    rcases bl with _ | ⟨b, l⟩
    · rfl
    · have := hiv.2 b (by simp); omega
  subst hb
  exact con_own ho
theorem ncR_ms (t : ByteArray) : msConsole (ncR t) ≤ 4194304 := by
  show msAlgebra ((ncL t).getD zLab).2.1 + cntS mcFact ((ncL t).getD zLab).2.2.1 ≤ 4194304
  unfold ncL
  rcases h : parA t with _ | a
  · exact Nat.le_trans (show _ ≤ 0 from Nat.le_refl _) (by decide)
  · exact mcle_stAlgebra (cnt_alg (parA_good h).1.1)
set_option maxRecDepth 100000 in
set_option maxHeartbeats 16000000 in
theorem implNC_any (t : ByteArray) (w : World) (hn : t.size ≤ 1048576) (ht : TabP w) :
    Calls Tryz.prog 7 #[.string t] w (OwA shConsoleW w (ncR t) (ncB t)) := by
  obtain ⟨w0, hw0, T0, hsz0, BZ⟩ := boxes1 w #[.bool false, .int .i64 0, .slice none 0 0, .slice none 0 0, .int .i64 0, .string ⟨#[]⟩, .string ⟨#[]⟩, .int .i64 0] 31
  have HW0 := Lib.hid hw0
  have hmx : t.size ≤ maxLen := by unfold maxLen; omega
  have HST : Hid (Calls Tryz.prog 16 #[.agg #[.bool false, .int .i64 0, .slice none 0 0, .slice none 0 0, .int .i64 0], .agg #[.int .i64 1, .string t, .int .i64 0, .slice none 0 0, .slice none 0 0, .slice none 0 0, .slice none 0 0, .int .i64 0, .int .i64 0]] w0 (OwA shLabW w0 ((ncL t).getD zLab) (ncL t).isSome)) := by
    have h := implStep_of _ _ zLab (nsS t) w0 (rd_zlab w0) (fun F n c h => by simp at h; omega) (rd_ns w0 t hmx) (by decide) hn (ht.next T0) (fun h => absurd rfl h)
    unfold slR slOk at h
    rw [nc_step] at h
    exact Lib.hid h
  have HT0 := Lib.hid T0
  have hs0 : w0.heap.size = w.heap.size + 1 := hsz0
  clear hw0 hsz0 T0 ht
  go_enter Tryz.func7, Tryz.ntmps7
  go_upto_region 1 with fail
  rw [← HW0.out]
  go_wp2_with fail
  refine HST.out.mono ?_
  rintro e w5 ⟨csA, blA, rfl, hOA, hIA, hb5⟩
  have hrl := shLabW.ord hOA
  obtain ⟨Aa, na, ca, Fa, nf, cf, rfl, qa1, -, -, qa2⟩ := rdLab hrl
  obtain ⟨y, HY⟩ : ∃ y, Hid ((ncL t).getD zLab = y) := ⟨_, Lib.hid rfl⟩
  obtain ⟨ok, HK⟩ : ∃ y, Hid ((ncL t).isSome = y) := ⟨_, Lib.hid rfl⟩
  rw [HY.out] at hOA hrl qa1 qa2 ⊢
  rw [HK.out]
  obtain ⟨w6, HW6⟩ : ∃ wb, Hid (wb = w5.alloc (.cells #[.bool y.1, .int .i64 y.2.1.1, .slice Aa na ca, .slice Fa nf cf, .int .i64 y.2.2.2] 27)) := ⟨_, Lib.hid rfl⟩
  have hbx : Below w5.heap.size w5 w6 := by rw [HW6.out]; exact below_box _ _
  have BXA : Blk w6 w5.heap.size 27 #[.bool y.1, .int .i64 y.2.1.1, .slice Aa na ca, .slice Fa nf cf, .int .i64 y.2.2.2] := by rw [HW6.out]; exact Blk.new _ _ _
  have hb6 := below_next hb5 hbx rfl
  have T6 := below_next HT0.out hb6 rfl
  have BZ6 := BZ.next hb6
  have hz5 := hb5.size
  have hz6 := hbx.size
  have HOA := Lib.hid hOA
  have HHX := Lib.hid hbx
  clear hOA hrl BZ hbx
  go_upto_region 2 with fail
  rw [← HW6.out]
  have cZ0 := BZ6.cell 0
  have cZ1 := BZ6.cell 1
  have cZ2 := BZ6.cell 2
  have cZ3 := BZ6.cell 3
  have cZ4 := BZ6.cell 4
  have cZ5 := BZ6.cell 5
  have cZ6 := BZ6.cell 6
  have cZ7 := BZ6.cell 7
  have fZ0 := BZ6.frozen 0
  have fZ1 := BZ6.frozen 1
  have fZ2 := BZ6.frozen 2
  have fZ3 := BZ6.frozen 3
  have fZ4 := BZ6.frozen 4
  have fZ5 := BZ6.frozen 5
  have fZ6 := BZ6.frozen 6
  have fZ7 := BZ6.frozen 7
  have cA0 := BXA.cell 0
  have cA1 := BXA.cell 1
  have cA2 := BXA.cell 2
  have cA3 := BXA.cell 3
  have cA4 := BXA.cell 4
  simp at cZ0 cZ1 cZ2 cZ3 cZ4 cZ5 cZ6 cZ7 cA0 cA1 cA2 cA3 cA4
  rcases ok with _ | _
  · have hyz : y = zLab := by
      have h1 := HK.out
      have h2 := HY.out
      rcases hq : ncL t with _ | z
      · rw [hq] at h2; exact h2.symm
      · rw [hq] at h1; cases h1
    have HBZ := Lib.hid (blk_set8 BZ6 (.bool false) (.int .i64 0) (.slice none 0 0) (.slice none 0 0) (.int .i64 0) (.string ⟨#[]⟩) (.string ⟨#[]⟩) (.int .i64 0))
    have HTZ := Lib.hid (below_set8 T6 (g := w.heap.size) (Nat.le_refl _) (.bool false) (.int .i64 0) (.slice none 0 0) (.slice none 0 0) (.int .i64 0) (.string ⟨#[]⟩) (.string ⟨#[]⟩) (.int .i64 0))
    clear BZ6 BXA
    go_wp2_with fail
    (try simp only [Exit.inBlock, Exit.then])
    refine bodyPost_ret (v := .tuple #[.agg #[.bool false, .int .i64 0, .slice none 0 0, .slice none 0 0, .int .i64 0, .string ⟨#[]⟩, .string ⟨#[]⟩, .int .i64 0], .bool false]) ?hr rfl ?_
    case hr => exact res_row_tmpF rfl _ _ w.heap.size 31 #[.bool false, .int .i64 0, .slice none 0 0, .slice none 0 0, .int .i64 0, .string ⟨#[]⟩, .string ⟨#[]⟩, .int .i64 0] (0, 0) _ _ rfl HBZ.out Tryz.underlying31 rfl (by kernel_rfl) rfl
    show OwA shConsoleW w ((ncL t).getD zLab, zLog) (ncL t).isSome _ _
    rw [HY.out, HK.out, hyz]
    exact ⟨_, [], rfl, con_own0 _, Iv.nil _ _, HTZ.out⟩
  · have HBZ := Lib.hid (blk_set8 BZ6 (.bool y.1) (.int .i64 y.2.1.1) (.slice Aa na ca) (.slice Fa nf cf) (.int .i64 y.2.2.2) (.string ⟨#[]⟩) (.string ⟨#[]⟩) (.int .i64 0))
    have HTZ := Lib.hid (below_set8 T6 (g := w.heap.size) (Nat.le_refl _) (.bool y.1) (.int .i64 y.2.1.1) (.slice Aa na ca) (.slice Fa nf cf) (.int .i64 y.2.2.2) (.string ⟨#[]⟩) (.string ⟨#[]⟩) (.int .i64 0))
    have HBK : Hid (∀ b, w0.heap.size ≤ b → (((((((((w6.setCell ⟨w.heap.size, 0, none⟩ (.bool y.1)).setCell ⟨w.heap.size, 1, none⟩ (.int .i64 y.2.1.1)).setCell ⟨w.heap.size, 2, none⟩ (.slice Aa na ca)).setCell ⟨w.heap.size, 3, none⟩ (.slice Fa nf cf)).setCell ⟨w.heap.size, 4, none⟩ (.int .i64 y.2.2.2)).setCell ⟨w.heap.size, 5, none⟩ (.string ⟨#[]⟩)).setCell ⟨w.heap.size, 6, none⟩ (.string ⟨#[]⟩)).setCell ⟨w.heap.size, 7, none⟩ (.int .i64 0)).heap[b]? = w6.heap[b]?)) := fun b hb => blocks_set8 _ _ _ _ _ _ _ _ _ _ (by omega)
    have hne5 : w.heap.size ≠ w5.heap.size := by omega
    clear BZ6 BXA
    go_wp2_with fail
    (try simp only [Exit.inBlock, Exit.then])
    refine bodyPost_ret (v := .tuple #[.agg #[.bool y.1, .int .i64 y.2.1.1, .slice Aa na ca, .slice Fa nf cf, .int .i64 y.2.2.2, .string ⟨#[]⟩, .string ⟨#[]⟩, .int .i64 0], .bool true]) ?hr rfl ?_
    case hr => exact res_row_tmpF rfl _ _ w.heap.size 31 #[.bool y.1, .int .i64 y.2.1.1, .slice Aa na ca, .slice Fa nf cf, .int .i64 y.2.2.2, .string ⟨#[]⟩, .string ⟨#[]⟩, .int .i64 0] (0, 0) _ _ rfl HBZ.out Tryz.underlying31 rfl (by kernel_rfl) rfl
    show OwA shConsoleW w ((ncL t).getD zLab, zLog) (ncL t).isSome _ _
    rw [HY.out, HK.out]
    have ho := shLabW.osame (Sh.onext HOA.out HHX.out) fun b hb => HBK.out b (hIA.2 b hb).1
    exact ⟨_, blA ++ [], rfl, con_own ho, by rw [List.append_nil]; exact hIA.mono (by omega) (by simp; omega), HTZ.out⟩
set_option maxRecDepth 100000 in
set_option maxHeartbeats 16000000 in
theorem specNC_any (t : ByteArray) (w : World) (hn : t.size ≤ 1048576) :
    Calls Tryz.prog 6 #[.string t] w (RdA shConsole w (ncR t) (ncB t)) := by
  obtain ⟨w0, hw0, T0, hsz0, BZ⟩ := boxes1 w #[.bool false, .int .i64 0, .slice none 0 0, .slice none 0 0, .int .i64 0, .string ⟨#[]⟩, .string ⟨#[]⟩, .int .i64 0] 31
  have HW0 := Lib.hid hw0
  have hmx : t.size ≤ maxLen := by unfold maxLen; omega
  have HST : Hid (Calls Tryz.prog 28 #[.agg #[.bool false, .int .i64 0, .slice none 0 0, .slice none 0 0, .int .i64 0], .agg #[.int .i64 1, .string t, .int .i64 0, .slice none 0 0, .slice none 0 0, .slice none 0 0, .slice none 0 0, .int .i64 0, .int .i64 0]] w0 (RdK shLab (fun w3 => shLab.rd w3 [.bool false, .int .i64 0, .slice none 0 0, .slice none 0 0, .int .i64 0] zLab) w0 ((ncL t).getD zLab) (ncL t).isSome)) := by
    have h := specLoad_any _ _ zLab (nsS t) w0 (rd_zlab w0) (rd_ns w0 t hmx) rfl hn
    unfold ldR ldB at h
    rw [nc_ld] at h
    exact Lib.hid h
  have HT0 := Lib.hid T0
  have hs0 : w0.heap.size = w.heap.size + 1 := hsz0
  clear hw0 hsz0 T0 
  go_enter Tryz.func6, Tryz.ntmps6
  go_upto_region 1 with fail
  rw [← HW0.out]
  go_wp2_with fail
  refine HST.out.mono ?_
  rintro e w5 ⟨csA, rfl, hOA, hb5⟩
  have hrl := hOA w5 (rd_zlab _) fun b _ _ => rfl
  obtain ⟨Aa, na, ca, Fa, nf, cf, rfl, qa1, -, -, qa2⟩ := rdLab hrl
  obtain ⟨y, HY⟩ : ∃ y, Hid ((ncL t).getD zLab = y) := ⟨_, Lib.hid rfl⟩
  obtain ⟨ok, HK⟩ : ∃ y, Hid ((ncL t).isSome = y) := ⟨_, Lib.hid rfl⟩
  rw [HY.out] at hOA hrl qa1 qa2 ⊢
  rw [HK.out]
  obtain ⟨w6, HW6⟩ : ∃ wb, Hid (wb = w5.alloc (.cells #[.bool y.1, .int .i64 y.2.1.1, .slice Aa na ca, .slice Fa nf cf, .int .i64 y.2.2.2] 27)) := ⟨_, Lib.hid rfl⟩
  have hbx : Below w5.heap.size w5 w6 := by rw [HW6.out]; exact below_box _ _
  have BXA : Blk w6 w5.heap.size 27 #[.bool y.1, .int .i64 y.2.1.1, .slice Aa na ca, .slice Fa nf cf, .int .i64 y.2.2.2] := by rw [HW6.out]; exact Blk.new _ _ _
  have hb6 := below_next hb5 hbx rfl
  have T6 := below_next HT0.out hb6 rfl
  have BZ6 := BZ.next hb6
  have hz5 := hb5.size
  have hz6 := hbx.size
  have HOA := Lib.hid hOA
  have HHX := Lib.hid hbx
  clear hOA hrl BZ hbx
  go_upto_region 2 with fail
  rw [← HW6.out]
  have cZ0 := BZ6.cell 0
  have cZ1 := BZ6.cell 1
  have cZ2 := BZ6.cell 2
  have cZ3 := BZ6.cell 3
  have cZ4 := BZ6.cell 4
  have cZ5 := BZ6.cell 5
  have cZ6 := BZ6.cell 6
  have cZ7 := BZ6.cell 7
  have fZ0 := BZ6.frozen 0
  have fZ1 := BZ6.frozen 1
  have fZ2 := BZ6.frozen 2
  have fZ3 := BZ6.frozen 3
  have fZ4 := BZ6.frozen 4
  have fZ5 := BZ6.frozen 5
  have fZ6 := BZ6.frozen 6
  have fZ7 := BZ6.frozen 7
  have cA0 := BXA.cell 0
  have cA1 := BXA.cell 1
  have cA2 := BXA.cell 2
  have cA3 := BXA.cell 3
  have cA4 := BXA.cell 4
  simp at cZ0 cZ1 cZ2 cZ3 cZ4 cZ5 cZ6 cZ7 cA0 cA1 cA2 cA3 cA4
  rcases ok with _ | _
  · have hyz : y = zLab := by
      have h1 := HK.out
      have h2 := HY.out
      rcases hq : ncL t with _ | z
      · rw [hq] at h2; exact h2.symm
      · rw [hq] at h1; cases h1
    have HBZ := Lib.hid (blk_set8 BZ6 (.bool false) (.int .i64 0) (.slice none 0 0) (.slice none 0 0) (.int .i64 0) (.string ⟨#[]⟩) (.string ⟨#[]⟩) (.int .i64 0))
    have HTZ := Lib.hid (below_set8 T6 (g := w.heap.size) (Nat.le_refl _) (.bool false) (.int .i64 0) (.slice none 0 0) (.slice none 0 0) (.int .i64 0) (.string ⟨#[]⟩) (.string ⟨#[]⟩) (.int .i64 0))
    clear BZ6 BXA
    go_wp2_with fail
    (try simp only [Exit.inBlock, Exit.then])
    refine bodyPost_ret (v := .tuple #[.agg #[.bool false, .int .i64 0, .slice none 0 0, .slice none 0 0, .int .i64 0, .string ⟨#[]⟩, .string ⟨#[]⟩, .int .i64 0], .bool false]) ?hr rfl ?_
    case hr => exact res_row_tmpF rfl _ _ w.heap.size 31 #[.bool false, .int .i64 0, .slice none 0 0, .slice none 0 0, .int .i64 0, .string ⟨#[]⟩, .string ⟨#[]⟩, .int .i64 0] (0, 0) _ _ rfl HBZ.out Tryz.underlying31 rfl (by kernel_rfl) rfl
    show RdA shConsole w ((ncL t).getD zLab, zLog) (ncL t).isSome _ _
    rw [HY.out, HK.out, hyz]
    exact ⟨_, rfl, con_rd (rd_zlab _), HTZ.out⟩
  · have HBZ := Lib.hid (blk_set8 BZ6 (.bool y.1) (.int .i64 y.2.1.1) (.slice Aa na ca) (.slice Fa nf cf) (.int .i64 y.2.2.2) (.string ⟨#[]⟩) (.string ⟨#[]⟩) (.int .i64 0))
    have HTZ := Lib.hid (below_set8 T6 (g := w.heap.size) (Nat.le_refl _) (.bool y.1) (.int .i64 y.2.1.1) (.slice Aa na ca) (.slice Fa nf cf) (.int .i64 y.2.2.2) (.string ⟨#[]⟩) (.string ⟨#[]⟩) (.int .i64 0))
    have HBK : Hid (∀ b, w0.heap.size ≤ b → (((((((((w6.setCell ⟨w.heap.size, 0, none⟩ (.bool y.1)).setCell ⟨w.heap.size, 1, none⟩ (.int .i64 y.2.1.1)).setCell ⟨w.heap.size, 2, none⟩ (.slice Aa na ca)).setCell ⟨w.heap.size, 3, none⟩ (.slice Fa nf cf)).setCell ⟨w.heap.size, 4, none⟩ (.int .i64 y.2.2.2)).setCell ⟨w.heap.size, 5, none⟩ (.string ⟨#[]⟩)).setCell ⟨w.heap.size, 6, none⟩ (.string ⟨#[]⟩)).setCell ⟨w.heap.size, 7, none⟩ (.int .i64 0)).heap[b]? = w6.heap[b]?)) := fun b hb => blocks_set8 _ _ _ _ _ _ _ _ _ _ (by omega)
    have hne5 : w.heap.size ≠ w5.heap.size := by omega
    clear BZ6 BXA
    go_wp2_with fail
    (try simp only [Exit.inBlock, Exit.then])
    refine bodyPost_ret (v := .tuple #[.agg #[.bool y.1, .int .i64 y.2.1.1, .slice Aa na ca, .slice Fa nf cf, .int .i64 y.2.2.2, .string ⟨#[]⟩, .string ⟨#[]⟩, .int .i64 0], .bool true]) ?hr rfl ?_
    case hr => exact res_row_tmpF rfl _ _ w.heap.size 31 #[.bool y.1, .int .i64 y.2.1.1, .slice Aa na ca, .slice Fa nf cf, .int .i64 y.2.2.2, .string ⟨#[]⟩, .string ⟨#[]⟩, .int .i64 0] (0, 0) _ _ rfl HBZ.out Tryz.underlying31 rfl (by kernel_rfl) rfl
    show RdA shConsole w ((ncL t).getD zLab, zLog) (ncL t).isSome _ _
    rw [HY.out, HK.out]
    have ho := HOA.out _ (rd_zlab _) fun b h1 h2 => (HBK.out b h1).trans (HHX.out.block b h2)
    exact ⟨_, rfl, con_rd ho, HTZ.out⟩
end Go.Proofs.YtfnmkbpogbekpaaGreatDoor
