
/- Words that several walks share: results of a struct and truth values, three boxes, numbers of a row that was read. Plain theorems. -/
import Derived.Test.YtidjocikbmkjbaaGreatShape
import Derived.Deep.RegionHeld3
import Derived.Deep.DeepCutAuto
namespace Go.Proofs.YtidjocikbmkjbaaGreat
open Go.RowKit

theorem res_row_tmpF {P : Program} {fn : Func} {p u : Tmp} {ty : TypeId} (h : fn.results = #[.cell p ty, .tmp u]) (tmps : Array Value) (w : World) (g : Nat) (t : TypeId) (cs : Array Value) (fr : Nat × Nat) (d : TypeDesc) (b : Value)
    (hp : tmps.getD p undef = .pointer (some ⟨g, 0, none⟩)) (hg : w.heap[g]? = some (.cells cs t fr))
    (hu : P.underlying ty = some d) (hd : (match d with | .struct _ | .array _ _ => true | _ => false) = true) (hi : (P.info? ty).map (·.size) = some cs.size) (hb : tmps.getD u undef = b) :
    (results fn tmps).run P w = .ok (.tuple #[.agg cs, b]) w := by
  rw [results_cell_tmp h, hp, hb]
  simp [asAddr, Result.andThen, run_loadVar_row w g t ty cs fr d hg hu hd hi]
theorem boxes3' (w : World) (cp cz co : Array Value) (tp tq tr : TypeId) : ∃ w3, w3 = ((w.alloc (.cells cp tp)).alloc (.cells cz tq)).alloc (.cells co tr) ∧ Below w.heap.size w w3 ∧ w3.heap.size = w.heap.size + 3 ∧ Blk w3 w.heap.size tp cp ∧ Blk w3 (w.heap.size + 1) tq cz ∧ Blk w3 (w.heap.size + 1 + 1) tr co := by
  refine ⟨_, rfl, below_box3 w _ _ _, by simp, ((Blk.new w tp cp).alloc _).alloc _, ?_, ?_⟩
  · have := ((Blk.new (w.alloc (.cells cp tp)) tq cz).alloc (.cells co tr))
    rwa [show (w.alloc (.cells cp tp)).heap.size = w.heap.size + 1 by simp] at this
  · have := Blk.new ((w.alloc (.cells cp tp)).alloc (.cells cz tq)) tr co
    rwa [show ((w.alloc (.cells cp tp)).alloc (.cells cz tq)).heap.size = w.heap.size + 1 + 1 by simp] at this
theorem rdl_inR {w : World} {A : Option Addr} {n : Nat} {xs : List Int} (h : RdL RI w A n xs) : ∀ x ∈ xs, InR x := fun x hx => by
  obtain ⟨k, hk⟩ := List.getElem?_of_mem hx
  have hkn : k < n := by rw [← h.len]; exact (List.getElem?_eq_some_iff.1 hk).1
  obtain ⟨b, o, u, v, -, -, ⟨-, hv0, hv1⟩, -, hxv⟩ := h.at hkn
  rw [hk] at hxv
  injection hxv with e
  subst e
  exact ⟨hv0, hv1⟩
theorem blk_notin {α : Type} {S : Sh α} {w w0 : World} {cs : List Value} {x : α} {bl : List Nat} (h : S.own w cs x bl) (hs : w.heap.size = w0.heap.size) : w0.heap.size ∉ bl := fun hb => by
  have := S.olt h _ hb
  omega
theorem Blk.chgB {w w' : World} {g : Nat} {t : TypeId} {cs : Array Value} {bl : List Nat} (h : Blk w g t cs) (hc : ChgB bl w w') (hg : g ∉ bl) : Blk w' g t cs := (hc.block g h.lt hg).trans h
end Go.Proofs.YtidjocikbmkjbaaGreat
