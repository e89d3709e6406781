
/- Walks: SystemPoset, in the program and in the reference. -/
import Derived.Test.YtlncpabnlnipoaaPoset
import Derived.Laws.ResultCell
import Derived.Deep.RegionHeld3
namespace Go.Proofs.Ytlncpabnlnipoaa
open Go.RowKit

theorem results_row_tmp {P : Program} {fn : Func} {p u : Tmp} {ty : TypeId} (h : fn.results = #[.cell p ty, .tmp u]) (tmps : Array Value) (w : World) (g : Nat) (t : TypeId) (cs : Array Value) (fr : Nat × Nat) (d : TypeDesc) (b : Value)
    (hp : tmps.getD p undef = .pointer (some ⟨g, 0, none⟩)) (hg : w.heap[g]? = some (.cells cs t fr))
    (hu : P.underlying ty = some d) (hd : (match d with | .struct _ | .array _ _ => true | _ => false) = true) (hi : (P.info? ty).map (·.size) = some cs.size) (hb : tmps.getD u undef = b) :
    (results fn tmps).run P w = .ok (.tuple #[.agg cs, b]) w := by
  rw [results_cell_tmp h, hp, hb]
  simp [asAddr, Result.andThen, run_loadVar_row w g t ty cs fr d hg hu hd hi]

/-- The part of a relation that is laid so far, row by row. -/
def Fto (F : Nat → Nat → Bool) (i0 k0 : Nat) : Nat → Nat → Bool := fun i k => decide (i < i0 ∨ (i = i0 ∧ k < k0)) && F i k
theorem Fto_zero (F : Nat → Nat → Bool) : Fto F 0 0 = fun _ _ => false := by
  funext i k
  simp [Fto]
theorem Fto_step {n : Nat} (F : Nat → Nat → Bool) (i q : Nat) : tab n (upd (Fto F i q) i q (F i q)) = tab n (Fto F i (q + 1)) := by
  refine tab_ext fun x _ y _ => ?_
  unfold upd Fto
  by_cases h : x = i ∧ y = q
  · obtain ⟨rfl, rfl⟩ := h
    simp
  · rw [if_neg h]
    congr 1
    rw [decide_eq_decide]
    omega
theorem Fto_next {n : Nat} (F : Nat → Nat → Bool) (i : Nat) : tab n (Fto F i n) = tab n (Fto F (i + 1) 0) := by
  refine tab_ext fun x _ y hy => ?_
  unfold Fto
  congr 1
  rw [decide_eq_decide]
  omega
theorem Fto_all {n : Nat} (F : Nat → Nat → Bool) : tab n (Fto F n 0) = tab n F := by
  refine tab_ext fun x hx y _ => ?_
  unfold Fto
  simp [hx]
/-- Which set lies within which. -/
def incl (xss : List (List Int)) : Nat → Nat → Bool := fun i k => partL (xss.getD k []) (xss.getD i [])
def posOk (n : Int) (xss : List (List Int)) : Bool := sysRes n xss && decide (xss.length ≤ 10)
def posRes (n : Int) (xss : List (List Int)) : List (List Int) := if posOk n xss then posTo xss.length (incl xss) xss.length else []
/-- The call hands back a poset of its own, by value, and a bool. -/
def OwnPB (w : World) (xss : List (List Int)) (b : Bool) (e : Ending) (w' : World) : Prop := ∃ A n c, e = .returned (.tuple #[.agg #[.slice A n c], .bool b]) ∧ OwM 27 3 (.int .i64) w.heap.size w' (.slice A n c) n xss ∧ Below w.heap.size w w'
/-- The call hands back a poset that reads so, by value, and a bool. -/
def RdPB (w : World) (xss : List (List Int)) (b : Bool) (e : Ending) (w' : World) : Prop := ∃ A n c, e = .returned (.tuple #[.agg #[.slice A n c], .bool b]) ∧ RdL (RV RI) w' A n xss ∧ Below w.heap.size w w'
theorem mat_nil (lo : Nat) (w : World) : OwM 27 3 (.int .i64) lo w (.slice none 0 0) 0 [] :=
  ⟨[], World.ownsRow_nil _ _ _ _, rfl, fun k u xs hu => by simp at hu, by simp⟩

theorem posTo_RI {n : Nat} {F : Nat → Nat → Bool} {k : Nat} (hn : n ≤ 1048576) {w : World} : ∀ xs ∈ posTo n F k, ∀ x ∈ xs, RI w (.int .i64 x) x := by
  intro xs hxs x hx
  obtain ⟨z, -, rfl⟩ := List.mem_map.1 hxs
  obtain ⟨y, hy, -, rfl⟩ := rowTo_mem.1 hx
  exact ⟨rfl, by omega, by omega⟩
theorem posOk_len {n : Int} {xss : List (List Int)} (h : posOk n xss = true) : xss.length ≤ 10 := by
  unfold posOk at h
  simp at h
  exact h.2
theorem posRes_total (n : Int) (xss : List (List Int)) : total (posRes n xss) ≤ 1099511627776 := by
  unfold posRes
  split
  · rename_i h
    have h1 := posOk_len h
    refine total_le (fun p hp => ?_) (by rw [posTo_len]; omega)
    obtain ⟨z, -, rfl⟩ := List.mem_map.1 hp
    have := rowTo_len (incl xss) z xss.length
    omega
  · simp [total]
theorem posRes_RI (n : Int) (xss : List (List Int)) (w : World) : ∀ xs ∈ posRes n xss, ∀ x ∈ xs, RI w (.int .i64 x) x := by
  unfold posRes
  split
  · rename_i h
    have h1 := posOk_len h
    exact posTo_RI (by omega)
  · intro xs hx
    simp at hx
end Go.Proofs.Ytlncpabnlnipoaa
