
/- Walks: the canonical form and names (the program's canonical). -/
import Derived.Test.YtppnmpeicmlneaaCanon2
namespace Go.Proofs.Ytppnmpeicmlneaa
open Go.RowKit

theorem res_row_tmpC {P : Program} {fn : Func} {p u : Tmp} {ty : TypeId} (h : fn.results = #[.cell p ty, .tmp u]) (tmps : Array Value) (w : World) (g : Nat) (t : TypeId) (cs : Array Value) (fr : Nat × Nat) (d : TypeDesc) (b : Value)
    (hp : tmps.getD p undef = .pointer (some ⟨g, 0, none⟩)) (hg : w.heap[g]? = some (.cells cs t fr))
    (hu : P.underlying ty = some d) (hd : (match d with | .struct _ | .array _ _ => true | _ => false) = true) (hi : (P.info? ty).map (·.size) = some cs.size) (hb : tmps.getD u undef = b) :
    (results fn tmps).run P w = .ok (.tuple #[.agg cs, b]) w := by
  rw [results_cell_tmp h, hp, hb]
  simp [asAddr, Result.andThen, run_loadVar_row w g t ty cs fr d hg hu hd hi]
/-- The canonical form and names handed back. -/
def CanE (w : World) (x : AlgebraM) (n : Nat) (e : Ending) (w' : World) : Prop := ∃ vb css bls Af cf, e = .returned (.tuple #[.agg #[.int .i64 (n : Int), vb], .slice Af n cf]) ∧ PO w.heap.size w' vb (canA x).2 css bls ∧ w'.ownsRow w.heap.size 3 1 (.slice Af n cf) n (ints (canN x)) ∧ Below w.heap.size w w'

theorem PO.notin {lo : Nat} {w : World} {v : Value} {xs : List OpM} {css : List (List Value)} {bls : List (List Nat)} (h : PO lo w v xs css bls) {g : Nat} {t : TypeId} {cs : Array Value} (hB : Blk w g t cs) (h1 : 102 ≠ t) (h2 : 3 ≠ t) : g ∉ obl v ++ bls.flatten := by
  intro hg
  rcases List.mem_append.1 hg with hg | hg
  · obtain ⟨cur, fr, hc⟩ := row_blk h.2.1 hg
    rw [hB] at hc
    injection hc with hc
    injection hc with _ h5
    exact h1 h5.symm
  · obtain ⟨bk, hbk, hb⟩ := List.mem_flatten.1 hg
    obtain ⟨k, hk⟩ := List.getElem?_of_mem hbk
    have hkl := (List.getElem?_eq_some_iff.1 hk).1
    have e1 := h.1.l1
    have e2 := h.1.l2
    obtain ⟨cur, fr, hc⟩ := shOp_blk (h.1.el k _ _ bk (List.getElem?_eq_getElem (by omega)) (List.getElem?_eq_getElem (by omega)) hk) hb
    rw [hB] at hc
    injection hc with hc
    injection hc with _ h5
    exact h2 h5.symm
theorem PO.farB {lo : Nat} {w : World} {v : Value} {xs : List OpM} {css : List (List Value)} {bls : List (List Nat)} (h : PO lo w v xs css bls) {g : Nat} {k : Nat} {u : Value} (hg : g ∉ obl v ++ bls.flatten) : PO lo (w.setCell ⟨g, k, none⟩ u) v xs css bls :=
  h.same (by simp) fun b hb => Below.heap_setCell w ⟨g, k, none⟩ u b fun e => hg (by rw [← show b = g from e]; exact hb)
set_option maxRecDepth 100000 in
theorem canEnter (args : Array Value) (w : World) : (callFunc 123 args).run Try.prog w = .ok (.enter 123 args) w := rfl

set_option maxRecDepth 20000 in
set_option maxHeartbeats 8000000 in
theorem canonical_any (cs : List Value) (x : AlgebraM) (n : Nat) (w : World) (h : shAlgebra.rd w cs x) (hx : SmallP x) (hn : x.1 = (n : Int)) :
    Calls Try.prog 93 #[.agg cs.toArray] w (CanE w x n) := by
  have hrd := h
  obtain ⟨B, m, d, rfl, qs, qo⟩ := rdAlgebra h
  rw [hn] at hrd qs ⊢
  have hn5 : n ≤ 5 := by have h1 := hx.2.1; omega
  obtain ⟨w5, hw5⟩ : ∃ w5, w5 = ((((w.alloc (.cells #[.int .i64 (n : Int), .slice B m d] 41)).alloc (.cells #[.int .i64 0, .slice none 0 0] 41)).alloc (.cells #[.int .i64 0, .slice none 0 0] 41)).alloc (.cells #[.slice none 0 0] 22)).alloc (.cells #[.slice none 0 0] 22) := ⟨_, rfl⟩
  have T5 : Below w.heap.size w w5 := by
    rw [hw5]
    exact (below_box4 w _ _ _ _).alloc (by simp; omega) _
  have hz5 : w5.heap.size = w.heap.size + 5 := by rw [hw5]; simp
  have BA : Blk w5 w.heap.size 41 #[.int .i64 (n : Int), .slice B m d] := by
    rw [hw5]
    exact ((((Blk.new w 41 #[.int .i64 (n : Int), .slice B m d]).alloc _).alloc _).alloc _).alloc _
  have BR : Blk w5 (w.heap.size + 1) 41 #[.int .i64 0, .slice none 0 0] := by
    rw [hw5]
    have := (((Blk.new (w.alloc (.cells #[.int .i64 (n : Int), .slice B m d] 41)) 41 #[.int .i64 0, .slice none 0 0]).alloc (.cells #[.int .i64 0, .slice none 0 0] 41)).alloc (.cells #[.slice none 0 0] 22)).alloc (.cells #[.slice none 0 0] 22)
    simpa using this
  have BB : Blk w5 (w.heap.size + 1 + 1) 41 #[.int .i64 0, .slice none 0 0] := by
    rw [hw5]
    have := ((Blk.new ((w.alloc (.cells #[.int .i64 (n : Int), .slice B m d] 41)).alloc (.cells #[.int .i64 0, .slice none 0 0] 41)) 41 #[.int .i64 0, .slice none 0 0]).alloc (.cells #[.slice none 0 0] 22)).alloc (.cells #[.slice none 0 0] 22)
    simpa using this
  have BC : Blk w5 (w.heap.size + 1 + 1 + 1) 22 #[.slice none 0 0] := by
    rw [hw5]
    have := (Blk.new (((w.alloc (.cells #[.int .i64 (n : Int), .slice B m d] 41)).alloc (.cells #[.int .i64 0, .slice none 0 0] 41)).alloc (.cells #[.int .i64 0, .slice none 0 0] 41)) 22 #[.slice none 0 0]).alloc (.cells #[.slice none 0 0] 22)
    simpa using this
  have BU : Blk w5 (w.heap.size + 1 + 1 + 1 + 1) 22 #[.slice none 0 0] := by
    rw [hw5]
    have := Blk.new ((((w.alloc (.cells #[.int .i64 (n : Int), .slice B m d] 41)).alloc (.cells #[.int .i64 0, .slice none 0 0] 41)).alloc (.cells #[.int .i64 0, .slice none 0 0] 41)).alloc (.cells #[.slice none 0 0] 22)) 22 #[.slice none 0 0]
    simpa using this
  obtain ⟨C, hCd⟩ : ∃ C : CanC, C = { x := x, n := n, CL := (codeL x.2).length, B := B, m := m, d := d, wL := w, ga := w.heap.size, gf := w.heap.size + 1 + 1 + 1 + 1, gc := w.heap.size + 1 + 1 + 1, gb := w.heap.size + 1 + 1 } := ⟨_, rfl⟩
  have hC : C.Ok := by
    subst hCd
    exact ⟨hrd, hx, hn, rfl, ⟨by show w.heap.size + 1 + 1 + 1 + 1 ≠ w.heap.size + 1 + 1 + 1; omega, by show w.heap.size + 1 + 1 + 1 + 1 ≠ w.heap.size + 1 + 1; omega, by show w.heap.size + 1 + 1 + 1 ≠ w.heap.size + 1 + 1; omega, by show w.heap.size ≠ w.heap.size + 1 + 1; omega, by show w.heap.size ≠ w.heap.size + 1 + 1 + 1 + 1; omega, by show w.heap.size ≠ w.heap.size + 1 + 1 + 1; omega⟩, ⟨by show w.heap.size ≤ w.heap.size; omega, by show w.heap.size ≤ w.heap.size + 1 + 1 + 1 + 1; omega, by show w.heap.size ≤ w.heap.size + 1 + 1 + 1; omega, by show w.heap.size ≤ w.heap.size + 1 + 1; omega⟩⟩
  have hQ5 : C.Q w5 [] (List.range w.heap.size ++ [w.heap.size, w.heap.size + 1 + 1 + 1 + 1, w.heap.size + 1 + 1 + 1, w.heap.size + 1 + 1]) := by
    subst hCd
    exact ⟨_, rfl, fun b hb => T5.block b hb, T5.size, BA, (fun p hp => by simp at hp), BU, BC, BB, rfl⟩
  have hF : FoundOk (ords C.n C.n []).length C.n 123 #[.pointer (some ⟨C.ga, 0, none⟩), .pointer (some ⟨C.gf, 0, none⟩), .pointer (some ⟨C.gc, 0, none⟩), .pointer (some ⟨C.gb, 0, none⟩)] C.Q := by
    refine ⟨canEnter, fun h1 h2 h3 => CanC.Q_stab h1 h2 h3, fun h1 => CanC.Q_lt h1, fun w1 d1 bl N c p _ h1 h2 h3 => ?_⟩
    refine (canClo_any C hC w1 d1 bl N c p h1 h2 h3).mono fun e w' ⟨e1, bl', e2, e3, e4⟩ => ⟨e1, bl', e2, e3.mono fun g hg => CanC.Q_sub h1 g (List.mem_cons_of_mem _ hg), e4⟩
  have HC : Hid (Calls Try.prog 118 #[.int .i64 (n : Int), .func (.func 123) #[] #[.pointer (some ⟨w.heap.size, 0, none⟩), .pointer (some ⟨w.heap.size + 1 + 1 + 1 + 1, 0, none⟩), .pointer (some ⟨w.heap.size + 1 + 1 + 1, 0, none⟩), .pointer (some ⟨w.heap.size + 1 + 1, 0, none⟩)]] w5
      (fun e w' => e = .returned (.tuple #[]) ∧ ∃ bl', C.Q w' (ords n n []) bl' ∧ ChgB (List.range w.heap.size ++ [w.heap.size, w.heap.size + 1 + 1 + 1 + 1, w.heap.size + 1 + 1 + 1, w.heap.size + 1 + 1]) w5 w')) := by
    have := eachOrder_any hF (by rw [hCd]; exact hn5) (Nat.le_refl _) w5 _ hQ5
    subst hCd
    exact this.mono fun e w' ⟨h1, bl', h2, h3, _⟩ => ⟨h1, bl', h2, h3⟩
  have cA0 := BA.cell 0
  simp at cA0
  rw [hw5] at cA0
  have HW5 := Lib.hid hw5
  have HT := Lib.hid (And.intro T5 (And.intro hz5 BR))
  have HCD := Lib.hid hCd
  have HNN : Hid (x.1.toNat = n) := by show _ = _; omega
  clear hw5 T5 hz5 BA BR BB BC BU hC hQ5 hF hCd h
  go_enter Try.func93, Try.ntmps93
  go_wp2_with fail
  rw [← HW5.out]
  refine HC.out.mono ?_
  rintro e w6 ⟨rfl, bl', hQ6, hc6⟩
  obtain ⟨T5, hz5, BR⟩ := HT.out
  have hcd := HCD.out
  subst hcd
  obtain ⟨rl, -, hsame, hsz, -, -, hrest⟩ := hQ6
  have hbest : bestOf x (ords n n []) = some (canN x) := by have := (canN_ok (x := x)).1; rw [HNN.out] at this; exact this
  have hrest' : CanC.rest { x := x, n := n, CL := (codeL x.2).length, B := B, m := m, d := d, wL := w, ga := w.heap.size, gf := w.heap.size + 1 + 1 + 1 + 1, gc := w.heap.size + 1 + 1 + 1, gb := w.heap.size + 1 + 1 } w6 (some (canN x)) rl := by rw [← hbest]; exact hrest
  obtain ⟨Af, cf, Ac, cc, vb, css, bls, h1, -, h3, h4, -, h6, -⟩ := hrest'
  replace h1 : Blk w6 (w.heap.size + 1 + 1 + 1 + 1) 22 #[.slice Af n cf] := h1
  replace h3 : Blk w6 (w.heap.size + 1 + 1) 41 #[.int .i64 (n : Int), vb] := h3
  replace h4 : w6.ownsRow w.heap.size 3 1 (.slice Af n cf) n (ints (canN x)) := h4
  replace h6 : PO w.heap.size w6 vb (ren x (canN x)).2 css bls := h6
  obtain ⟨VA, vc, rfl⟩ := own_slice h6.2.1
  have BR6 : Blk w6 (w.heap.size + 1) 41 #[.int .i64 0, .slice none 0 0] := (hc6.block _ BR.lt (by simp <;> omega)).trans BR
  have T6 : Below w.heap.size w w6 := ⟨hc6.os.trans T5.os, hc6.tape.trans T5.tape, hc6.output.trans T5.output, hsz, fun b hb => hsame b hb⟩
  obtain ⟨LA, HLA⟩ : ∃ LA, Hid ((ren x (canN x)).2.length = LA) := ⟨_, rfl⟩
  rw [HLA.out] at h6 h3
  have hni := h6.notin BR6 (by decide) (by decide)
  have hof := own_off h4 BR6 (by decide)
  have hPF := (h6.farB (k := 0) (u := .int .i64 (n : Int)) hni).farB (k := 1) (u := .slice VA LA vc) hni
  have hOF := own_set (own_set h4 (p := ⟨w.heap.size + 1, 0, none⟩) hof (.int .i64 (n : Int))) (p := ⟨w.heap.size + 1, 1, none⟩) hof (.slice VA LA vc)
  have hTF := (T6.setCell (p := ⟨w.heap.size + 1, 0, none⟩) (by show w.heap.size ≤ w.heap.size + 1; omega) (.int .i64 (n : Int))).setCell (p := ⟨w.heap.size + 1, 1, none⟩) (by show w.heap.size ≤ w.heap.size + 1; omega) (.slice VA LA vc)
  have BRR : Blk ((w6.setCell ⟨w.heap.size + 1, 0, none⟩ (.int .i64 (n : Int))).setCell ⟨w.heap.size + 1, 1, none⟩ (.slice VA LA vc)) (w.heap.size + 1) 41 #[.int .i64 (n : Int), .slice VA LA vc] := by simpa using ((BR6.set_ 0 (.int .i64 (n : Int))).set_ 1 (.slice VA LA vc))
  have HF1 := Lib.hid hPF
  have HF2 := Lib.hid hOF
  have HF3 := Lib.hid hTF
  have HF4 := Lib.hid BRR
  have cB0 := h3.cell 0
  have cB1 := h3.cell 1
  have cF0 := h1.c0
  have cR0 := BR6.cell 0
  have cR1 := BR6.cell 1
  have fR0 := BR6.frozen 0
  have fR1 := BR6.frozen 1
  simp at cB0 cB1 cR0 cR1
  clear h1 h3 h4 h6 BR6 T6 hni hof hPF hOF hTF BRR hrest hbest hsame T5 BR HC
  go_upto_region 4 with fail
  go_region
  all_goals
    go_wp2_with fail
    (try simp only [Exit.inBlock, Exit.then])
    refine bodyPost_ret (v := .tuple #[.agg #[.int .i64 (n : Int), .slice VA LA vc], .slice Af n cf]) (res_row_tmpC rfl _ _ (w.heap.size + 1) 41 #[.int .i64 (n : Int), .slice VA LA vc] (0, 0) _ _ (by simp) HF4.out.drew Try.underlying41 rfl (by kernel_rfl) rfl) rfl ?_
    exact ⟨_, css, bls, Af, cf, rfl, HF1.out.next (Below.drew (Below.refl _ _)), own_same HF2.out (fun _ _ => rfl), Below.drew HF3.out⟩
end Go.Proofs.Ytppnmpeicmlneaa
