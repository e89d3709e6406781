
/- Walk: DrawEncodeRecord: which arguments it may draw. -/
import Derived.Test.YteogfjddkaodkaaDoorCur3
namespace Go.Proofs.YteogfjddkaodkaaDoor
open Go.RowKit

/-- The drawn bytes, as they came. -/
def CodeIn (w : World) (A : Option Addr) (n : Nat) : Prop := n ≤ 65536 ∧ (0 < n → ∃ b o, A = some ⟨b, o, none⟩ ∧ ∀ i, i < n → ∃ x : Nat, x < 256 ∧ w.cell? ⟨b, o + i, none⟩ = some (.int .u8 x))
theorem CodeIn.next {w w' : World} {A : Option Addr} {n : Nat} (h : CodeIn w A n) (hb : Below w.heap.size w w') : CodeIn w' A n := by
  refine ⟨h.1, fun hn => ?_⟩
  obtain ⟨b, o, e, hc⟩ := h.2 hn
  exact ⟨b, o, e, fun i hi => by
    obtain ⟨x, hx, hcx⟩ := hc i hi
    exact ⟨x, hx, keepc hb hcx⟩⟩
theorem CurOk.made {w : World} {A : Option Addr} {n c : Nat} (h : CodeIn w A n) {k : Nat} (hk : k = w.heap.size) : CurOk (w.alloc (.cells #[.slice A n c, .int .i64 0, .int .u64 0] 75)) k 0 := by
  subst hk
  refine ⟨A, n, c, 0, 0, Blk.new w _ _, h.1, Nat.le_refl _, by decide, by decide, fun hn => ?_⟩
  obtain ⟨b, o, e, hc⟩ := h.2 hn
  refine ⟨b, o, e, ?_, fun i hi => ?_⟩
  · obtain ⟨x, hx, hcx⟩ := hc 0 hn
    have := cell_lt hcx
    simp at this
    omega
  · obtain ⟨x, hx, hcx⟩ := hc i hi
    exact ⟨x, hx, keepc (below_box w _) hcx⟩
theorem below_grown {B g : Nat} {a w w' : World} (h : Below B a w) (hg : w.grownBy w' (some g)) (hb : B ≤ g) (hB : B ≤ w.heap.size) : Below B a w' := h.grown hg hB (fun k hk => by injection hk with hk; omega)
theorem nums6 (w : World) (g : Nat) (a b c d e f : Int) (hg : g < w.heap.size) (ha : -1000 ≤ a ∧ a ≤ 1000) (hb : -1000 ≤ b ∧ b ≤ 1000) (hc : -1000 ≤ c ∧ c ≤ 1000) (hd : -1000 ≤ d ∧ d ≤ 1000) (he : -1000 ≤ e ∧ e ≤ 1000) (hf : -1000 ≤ f ∧ f ≤ 1000) {k : Nat} (hk : k = w.heap.size) :
    NumsIn (w.alloc (.cells #[.int .i64 a, .int .i64 b, .int .i64 c, .int .i64 d, .int .i64 e, .int .i64 f] 3)) g k 6 := by
  subst hk
  refine ⟨by omega, by decide, by decide, fun i hi => ?_⟩
  match i, hi with
  | 0, _ => exact ⟨a, ha.1, ha.2, by simp⟩
  | 1, _ => exact ⟨b, hb.1, hb.2, by simp⟩
  | 2, _ => exact ⟨c, hc.1, hc.2, by simp⟩
  | 3, _ => exact ⟨d, hd.1, hd.2, by simp⟩
  | 4, _ => exact ⟨e, he.1, he.2, by simp⟩
  | 5, _ => exact ⟨f, hf.1, hf.2, by simp⟩

def DrawnE (w : World) (e : Ending) (w' : World) : Prop := ∃ (k : Int) (c r : ByteArray), -1000 ≤ k ∧ k ≤ 1000 ∧ c.size ≤ 20 ∧ r.size ≤ 20 ∧ e = .returned (.tuple #[.int .i64 k, .agg #[.string c, .string r]]) ∧ Below w.heap.size w w'
theorem res_tmp_row {P : Program} {fn : Func} {p u : Tmp} {ty : TypeId} (h : fn.results = #[.tmp u, .cell p ty]) (tmps : Array Value) (w : World) (g : Nat) (t : TypeId) (cs : Array Value) (fr : Nat × Nat) (d : TypeDesc) (b : Value)
    (hp : tmps.getD p undef = .pointer (some ⟨g, 0, none⟩)) (hg : w.heap[g]? = some (.cells cs t fr))
    (hu : P.underlying ty = some d) (hd : (match d with | .struct _ | .array _ _ => true | _ => false) = true) (hi : (P.info? ty).map (·.size) = some cs.size) (hb : tmps.getD u undef = b) :
    (results fn tmps).run P w = .ok (.tuple #[b, .agg cs]) w := by
  have : (results fn tmps).run P w = ((asAddr (tmps.getD p undef)).run P w).andThen fun a w₁ => ((loadVar ty a).run P w₁).andThen fun v w₂ => .ok (.tuple #[tmps.getD u undef, v]) w₂ := by
    simp only [results, h]
    simp [Sem.run_bind, Result.andThen]
  rw [this, hp, hb]
  simp [asAddr, Result.andThen, run_loadVar_row w g t ty cs fr d hg hu hd hi]

set_option maxRecDepth 20000 in
set_option maxHeartbeats 4000000 in
theorem drawEncode_any (A : Option Addr) (n c : Nat) (w : World) (h : CodeIn w A n) :
    Calls Tryd.prog 36 #[.slice A n c] w (DrawnE w) := by
  have hb0 := below_box w (.cells #[.string ⟨#[]⟩, .string ⟨#[]⟩] 27)
  have BX := Blk.new w 27 #[.string ⟨#[]⟩, .string ⟨#[]⟩]
  have h1 := h.next hb0
  have H0 : CurOk ((w.alloc (.cells #[.string ⟨#[]⟩, .string ⟨#[]⟩] 27)).alloc (.cells #[.slice A n c, .int .i64 0, .int .u64 0] 75)) (w.heap.size + 1) 0 := CurOk.made h1 (by simp)
  have hT := below_next hb0 (below_box _ (.cells #[.slice A n c, .int .i64 0, .int .u64 0] 75)) rfl
  replace BX := BX.next (below_box _ (.cells #[.slice A n c, .int .i64 0, .int .u64 0] 75))
  go_enter Tryd.func36, Tryd.ntmps36
  go_wp2_with fail
  refine (among_any (w.heap.size + 1) 0 _ 6 6 _ (H0.next_ (below_box _ _)) (by omega) (nums6 _ _ _ _ _ _ _ _ (by simp) (by decide) (by decide) (by decide) (by decide) (by decide) (by decide) (by simp))).mono ?_
  rintro e w1 ⟨k, hk0, hk1, rfl, H1, g1⟩
  have hT1 := below_grown (below_next hT (below_box _ _) rfl) g1 (by omega) (by simp; omega)
  replace BX := (BX.next (below_box _ _)).grown g1 (by simp)
  go_wp2_with fail
  refine (logRecord_any (w.heap.size + 1) 2 _ H1 (by omega)).mono ?_
  rintro e w2 ⟨x, y, hx, hy, rfl, H2, g2⟩
  have hT2 := below_grown hT1 g2 (by omega) hT1.size
  replace BX := BX.grown g2 (by simp)
  have cX0 := BX.cell 0
  have cX1 := BX.cell 1
  have fX0 := BX.frozen 0
  have fX1 := BX.frozen 1
  simp at cX0 cX1
  go_wp2_with fail
  have B2 : Blk ((w2.setCell ⟨w.heap.size, 0, none⟩ (.string x)).setCell ⟨w.heap.size, 1, none⟩ (.string y)) w.heap.size 27 #[.string x, .string y] := by simpa using (BX.set_ 0 (.string x)).set_ 1 (.string y)
  (try simp only [Exit.inBlock, Exit.then])
  refine bodyPost_ret (v := .tuple #[.int .i64 k, .agg #[.string x, .string y]]) (res_tmp_row rfl _ _ w.heap.size 27 #[.string x, .string y] (0, 0) _ _ (by simp) B2 Tryd.underlying27 rfl (by kernel_rfl) (by simp)) rfl ?_
  exact ⟨k, x, y, hk0, hk1, hx, hy, rfl, (hT2.setCell (Nat.le_refl _) _).setCell (Nat.le_refl _) _⟩
end Go.Proofs.YteogfjddkaodkaaDoor
