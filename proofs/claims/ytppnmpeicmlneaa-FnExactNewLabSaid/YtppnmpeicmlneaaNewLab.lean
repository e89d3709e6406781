
/- Walks: NewLab, in the reference and in the program. -/
import Derived.Test.YtppnmpeicmlneaaKFact
import Derived.Test.YtppnmpeicmlneaaList
namespace Go.Proofs.Ytppnmpeicmlneaa
open Go.RowKit

theorem rowsNil {α : Type} (A : Sh α) (E : TypeId) (w : World) : (Sh.rows A E).own w [.slice none 0 0] [] [] :=
  ⟨_, [], [], rfl, ⟨World.ownsRow_nil _ _ _ _, rfl, rfl, fun k c x bk hc => by simp at hc⟩, rfl⟩
theorem res_row_tmp' {P : Program} {fn : Func} {p u : Tmp} {ty : TypeId} (h : fn.results = #[.cell p ty, .tmp u]) (tmps : Array Value) (w : World) (g : Nat) (t : TypeId) (cs : Array Value) (fr : Nat × Nat) (d : TypeDesc) (b : Value)
    (hp : tmps.getD p undef = .pointer (some ⟨g, 0, none⟩)) (hg : w.heap[g]? = some (.cells cs t fr))
    (hu : P.underlying ty = some d) (hd : (match d with | .struct _ | .array _ _ => true | _ => false) = true) (hi : (P.info? ty).map (·.size) = some cs.size) (hb : tmps.getD u undef = b) :
    (results fn tmps).run P w = .ok (.tuple #[.agg cs, b]) w := by
  rw [results_cell_tmp h, hp, hb]
  simp [asAddr, Result.andThen, run_loadVar_row w g t ty cs fr d hg hu hd hi]
def labM (r : Int) : LabM := (false, (0, []), [], if inB r 0 9999 then r else 0)
theorem labOwn (w : World) (r q : Int) (hq : q = (if inB r 0 9999 then r else 0)) : shLab.own w [.bool false, .int .i64 0, .slice none 0 0, .slice none 0 0, .int .i64 q] (labM r) [] := by
  have hr : InR (labM r).2.2.2 := by
    show InR (if inB r 0 9999 then r else 0)
    unfold inB
    split
    · rename_i h; simp at h; exact ⟨by omega, by omega⟩
    · exact ⟨by omega, by omega⟩
  have hz : InR (labM r).2.1.1 := by show InR 0; exact ⟨by decide, by decide⟩
  refine ⟨[.bool false], [.int .i64 0, .slice none 0 0, .slice none 0 0, .int .i64 q], [], [], rfl, rfl, ⟨_, rfl, rfl, rfl⟩, ⟨[.int .i64 0, .slice none 0 0], [.slice none 0 0, .int .i64 q], [], [], rfl, rfl, ⟨[.int .i64 0], [.slice none 0 0], [], [], rfl, rfl, ⟨_, rfl, ⟨rfl, hz.1, hz.2⟩, rfl⟩, rowsNil _ _ _⟩, ⟨[.slice none 0 0], [.int .i64 q], [], [], rfl, rfl, rowsNil _ _ _, ⟨_, rfl, ⟨by rw [hq]; rfl, hr.1, hr.2⟩, rfl⟩⟩⟩⟩
theorem labRet {w : World} {r q : Int} {b : Bool} (hq : q = (if inB r 0 9999 then r else 0)) (hb : b = inB r 0 9999) : OwA shLab w (labM r) (inB r 0 9999) (.returned (.tuple #[.agg #[.bool false, .int .i64 0, .slice none 0 0, .slice none 0 0, .int .i64 q], .bool b])) (w.alloc (.cells #[.bool false, .int .i64 0, .slice none 0 0, .slice none 0 0, .int .i64 q] 44)) :=
  ⟨[.bool false, .int .i64 0, .slice none 0 0, .slice none 0 0, .int .i64 q], [], by rw [hb], labOwn _ r q hq, Iv.nil _ _, below_box _ _⟩
set_option maxHeartbeats 1000000 in
theorem specNewLab_any (r : Int) (w : World) (hr : InR r) : Calls Try.prog 20 #[.int .i64 r] w (OwA shLab w (labM r) (inB r 0 9999)) := by
  obtain ⟨h1, h2⟩ := hr
  rcases h : inB r 0 9999 with _ | _
  · have H := Lib.hid h
    have hL := labRet (w := w) (r := r) (q := 0) (b := false) (by rw [h]; rfl) h.symm
    have HL := Lib.hid hL
    clear hL h
    go_enter Try.func20, Try.ntmps20
    go_wp2_with (go_at_call 66; refine (l1In_any _ _ _ _).mono ?_; rintro e w' ⟨rfl, rfl⟩; rw [H.out])
    (try simp only [Exit.inBlock, Exit.then])
    refine bodyPost_ret (v := .tuple #[.agg #[.bool false, .int .i64 0, .slice none 0 0, .slice none 0 0, .int .i64 0], .bool false]) (res_row_tmp' rfl _ _ w.heap.size 44 #[.bool false, .int .i64 0, .slice none 0 0, .slice none 0 0, .int .i64 0] (0, 0) _ _ (by simp) (Blk.new w _ _) Try.underlying44 rfl (by kernel_rfl) (by simp)) rfl ?_
    rw [← H.out]
    simpa only [H.out] using HL.out
  · have H := Lib.hid h
    have hL := labRet (w := w) (r := r) (q := r) (b := true) (by rw [h]; rfl) h.symm
    have HL := Lib.hid hL
    clear hL h
    go_enter Try.func20, Try.ntmps20
    go_wp2_with (go_at_call 66; refine (l1In_any _ _ _ _).mono ?_; rintro e w' ⟨rfl, rfl⟩; rw [H.out])
    (try simp only [Exit.inBlock, Exit.then])
    refine bodyPost_ret (v := .tuple #[.agg #[.bool false, .int .i64 0, .slice none 0 0, .slice none 0 0, .int .i64 r], .bool true]) (res_row_tmp' rfl _ _ w.heap.size 44 #[.bool false, .int .i64 0, .slice none 0 0, .slice none 0 0, .int .i64 r] (0, 0) _ _ (by simp) (Blk.new w _ _) Try.underlying44 rfl (by kernel_rfl) (by simp)) rfl ?_
    rw [← H.out]
    simpa only [H.out] using HL.out
set_option maxHeartbeats 1000000 in
theorem implNewLab_any (r : Int) (w : World) (hr : InR r) : Calls Try.prog 21 #[.int .i64 r] w (OwA shLab w (labM r) (inB r 0 9999)) := by
  obtain ⟨h1, h2⟩ := hr
  by_cases hlo : r < 0
  · have h : inB r 0 9999 = false := by unfold inB; simp; omega
    have H := Lib.hid h
    have hL := labRet (w := w) (r := r) (q := 0) (b := false) (by rw [h]; rfl) h.symm
    have HL := Lib.hid hL
    clear hL h
    go_enter Try.func21, Try.ntmps21
    go_wp2_with fail
    (try simp only [Exit.inBlock, Exit.then])
    refine bodyPost_ret (v := .tuple #[.agg #[.bool false, .int .i64 0, .slice none 0 0, .slice none 0 0, .int .i64 0], .bool false]) (res_row_tmp' rfl _ _ w.heap.size 44 #[.bool false, .int .i64 0, .slice none 0 0, .slice none 0 0, .int .i64 0] (0, 0) _ _ (by simp) (Blk.new w _ _) Try.underlying44 rfl (by kernel_rfl) (by simp)) rfl ?_
    exact HL.out
  · by_cases hhi : 9999 < r
    · have h : inB r 0 9999 = false := by unfold inB; simp; omega
      have H := Lib.hid h
      have hL := labRet (w := w) (r := r) (q := 0) (b := false) (by rw [h]; rfl) h.symm
      have HL := Lib.hid hL
      clear hL h
      go_enter Try.func21, Try.ntmps21
      go_wp2_with fail
      (try simp only [Exit.inBlock, Exit.then])
      refine bodyPost_ret (v := .tuple #[.agg #[.bool false, .int .i64 0, .slice none 0 0, .slice none 0 0, .int .i64 0], .bool false]) (res_row_tmp' rfl _ _ w.heap.size 44 #[.bool false, .int .i64 0, .slice none 0 0, .slice none 0 0, .int .i64 0] (0, 0) _ _ (by simp) (Blk.new w _ _) Try.underlying44 rfl (by kernel_rfl) (by simp)) rfl ?_
      exact HL.out
    · have h : inB r 0 9999 = true := by unfold inB; simp; omega
      have H := Lib.hid h
      have hL := labRet (w := w) (r := r) (q := r) (b := true) (by rw [h]; rfl) h.symm
      have HL := Lib.hid hL
      clear hL h
      go_enter Try.func21, Try.ntmps21
      go_wp2_with fail
      (try simp only [Exit.inBlock, Exit.then])
      refine bodyPost_ret (v := .tuple #[.agg #[.bool false, .int .i64 0, .slice none 0 0, .slice none 0 0, .int .i64 r], .bool true]) (res_row_tmp' rfl _ _ w.heap.size 44 #[.bool false, .int .i64 0, .slice none 0 0, .slice none 0 0, .int .i64 r] (0, 0) _ _ (by simp) (Blk.new w _ _) Try.underlying44 rfl (by kernel_rfl) (by simp)) rfl ?_
      exact HL.out
theorem msLab_labM (r : Int) : msLab (labM r) ≤ 4194304 := by
  show 0 + 0 ≤ _
  decide
end Go.Proofs.Ytppnmpeicmlneaa
