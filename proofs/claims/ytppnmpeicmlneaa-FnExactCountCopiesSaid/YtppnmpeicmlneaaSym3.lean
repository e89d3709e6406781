
/- Walks: symmetries and SymmetriesOf (the program's). -/
import Derived.Test.YtppnmpeicmlneaaSym2
namespace Go.Proofs.Ytppnmpeicmlneaa
open Go.RowKit

theorem OwMv.empty {w : World} (lo b : Nat) (hown : w.ownsRow lo 22 1 (.slice (some ⟨b, 0, none⟩) 0 0) 0 []) : OwMv 22 3 (.int .i64) lo w (.slice (some ⟨b, 0, none⟩) 0 0) 0 [] ([] : List (List Int)) :=
  ⟨hown, rfl, fun k u xs h => by simp at h, List.nodup_nil⟩
/-- A slice of slices of the call's own is handed back. -/
def OwSS (w : World) (xss : List (List Int)) (e : Ending) (w' : World) : Prop :=
  ∃ A c vs, e = .returned (.slice A xss.length c) ∧ OwMv 22 3 (.int .i64) w.heap.size w' (.slice A xss.length c) xss.length vs xss ∧ Below w.heap.size w w'
def OwSB (w : World) (xss : List (List Int)) (r : Bool) (e : Ending) (w' : World) : Prop :=
  ∃ A c vs, e = .returned (.tuple #[.slice A xss.length c, .bool r]) ∧ OwMv 22 3 (.int .i64) w.heap.size w' (.slice A xss.length c) xss.length vs xss ∧ InHi w'.heap.size vs ∧ Below w.heap.size w w'
def RdSB (w : World) (xss : List (List Int)) (r : Bool) (e : Ending) (w' : World) : Prop :=
  ∃ A c, e = .returned (.tuple #[.slice A xss.length c, .bool r]) ∧ RdL (RV RI) w' A xss.length xss ∧ Below w.heap.size w w'
theorem OwMv.inHi {lo n : Nat} {w : World} {v : Value} {vs : List Value} {xss : List (List Int)} (h : OwMv 22 3 (.int .i64) lo w v n vs xss) : InHi w.heap.size vs := fun u hu b hb =>
  (h.lt b (List.mem_append_right _ (List.mem_filterMap.2 ⟨u, hu, hb⟩))).2
noncomputable def soM (x : AlgebraM) : List (List Int) := if smallB x then symL x (ords x.1.toNat x.1.toNat []) else []
set_option maxRecDepth 100000 in
theorem symEnter (args : Array Value) (w : World) : (callFunc 119 args).run Try.prog w = .ok (.enter 119 args) w := rfl

set_option maxRecDepth 20000 in
set_option maxHeartbeats 8000000 in
theorem symmetries_any (cs : List Value) (x : AlgebraM) (w : World) (h : shAlgebra.rd w cs x) (hx : SmallP x) :
    Calls Try.prog 91 #[.agg cs.toArray] w (OwSS w (symL x (ords x.1.toNat x.1.toNat []))) := by
  obtain ⟨n, hn⟩ : ∃ n : Nat, x.1 = (n : Int) := ⟨x.1.toNat, by have h1 := hx.1; omega⟩
  have hrd := h
  obtain ⟨B, m, d, rfl, qs, qo⟩ := rdAlgebra h
  have hnn : x.1.toNat = n := by omega
  rw [hn] at hrd qs ⊢
  have e0 : (n : Int).toNat = n := by omega
  rw [e0]
  have hn5 : n ≤ 5 := by have h1 := hx.2.1; omega
  have hNb : (ords n n []).length ≤ 4096 := Nat.le_trans (Nat.le_trans (ords_len n []) (pow5 hn5 hn5)) (by decide)
  obtain ⟨w5, hw5⟩ : ∃ w5, w5 = ((w.alloc (.cells #[.int .i64 (n : Int), .slice B m d] 41)).alloc (.cells #[] 22)).alloc (.cells #[.slice (some ⟨w.heap.size + 1, 0, none⟩) 0 0] 70) := ⟨_, rfl⟩
  have T5 : Below w.heap.size w w5 := by
    rw [hw5]
    exact ((below_box w _).alloc (by simp) _).alloc (by simp; omega) _
  have hz5 : w5.heap.size = w.heap.size + 3 := by rw [hw5]; simp
  have BA : Blk w5 w.heap.size 41 #[.int .i64 (n : Int), .slice B m d] := by
    rw [hw5]
    exact ((Blk.new w 41 #[.int .i64 (n : Int), .slice B m d]).alloc _).alloc _
  have BL : Blk w5 (w.heap.size + 1 + 1) 70 #[.slice (some ⟨w.heap.size + 1, 0, none⟩) 0 0] := by
    rw [hw5]
    have := Blk.new ((w.alloc (.cells #[.int .i64 (n : Int), .slice B m d] 41)).alloc (.cells #[] 22)) 70 #[.slice (some ⟨w.heap.size + 1, 0, none⟩) 0 0]
    simpa using this
  have own : w5.ownsRow w.heap.size 22 1 (.slice (some ⟨w.heap.size + 1, 0, none⟩) 0 0) 0 [] := by
    rw [hw5]
    have := ((World.ownsRow_lit (e := 22) (size := 1) (w.alloc (.cells #[.int .i64 (n : Int), .slice B m d] 41)) #[] 0 (show w.heap.size ≤ _ by simp) (Nat.zero_le _) rfl).alloc (.cells #[.slice (some ⟨w.heap.size + 1, 0, none⟩) 0 0] 70))
    rw [World.size_alloc] at this
    exact this
  obtain ⟨C, hCd⟩ : ∃ C : SymC, C = { x := x, n := n, B := B, m := m, d := d, wL := w, ga := w.heap.size, gl := w.heap.size + 1 + 1 } := ⟨_, rfl⟩
  have hC : C.Ok := by
    subst hCd
    exact ⟨hrd, hx, hn, by show w.heap.size ≠ w.heap.size + 1 + 1; omega, ⟨by show w.heap.size ≤ w.heap.size; omega, by show w.heap.size ≤ w.heap.size + 1 + 1; omega⟩⟩
  have hQ5 : C.Q w5 [] (List.range w.heap.size ++ ([w.heap.size, w.heap.size + 1 + 1] ++ (obl (.slice (some ⟨w.heap.size + 1, 0, none⟩) 0 0) ++ ([] : List Value).filterMap Value.ownBlock))) := by
    subst hCd
    exact ⟨_, rfl, fun b hb => T5.block b hb, T5.size, BA, some ⟨w.heap.size + 1, 0, none⟩, 0, [], BL, OwMv.empty w.heap.size _ own, rfl⟩
  have hF : FoundOk (ords n n []).length C.n 119 #[.pointer (some ⟨C.ga, 0, none⟩), .pointer (some ⟨C.gl, 0, none⟩)] C.Q := by
    refine ⟨symEnter, fun h1 h2 h3 => SymC.Q_stab h1 h2 h3, fun h1 => SymC.Q_lt h1, fun w1 d1 bl N c p hd h1 h2 h3 => ?_⟩
    exact symClo_any C hC w1 d1 bl N c p (by omega) h1 h2 h3
  have HC : Hid (Calls Try.prog 118 #[.int .i64 (n : Int), .func (.func 119) #[] #[.pointer (some ⟨w.heap.size, 0, none⟩), .pointer (some ⟨w.heap.size + 1 + 1, 0, none⟩)]] w5
      (fun e w' => e = .returned (.tuple #[]) ∧ ∃ bl', C.Q w' (ords n n []) bl' ∧ ChgB (List.range w.heap.size ++ ([w.heap.size, w.heap.size + 1 + 1] ++ (obl (.slice (some ⟨w.heap.size + 1, 0, none⟩) 0 0) ++ ([] : List Value).filterMap Value.ownBlock))) w5 w')) := by
    have := eachOrder_any hF (by rw [hCd]; exact hn5) (by rw [hCd]; exact Nat.le_refl _) w5 _ hQ5
    subst hCd
    exact this.mono fun e w' ⟨h1, bl', h2, h3, _⟩ => ⟨h1, bl', h2, h3⟩
  have cA0 := BA.cell 0
  simp at cA0
  rw [hw5] at cA0
  have HW5 := Lib.hid hw5
  have HT := Lib.hid (And.intro T5 hz5)
  have HCD := Lib.hid hCd
  have HNN := Lib.hid hnn
  clear hw5 T5 hz5 BA BL own hC hQ5 hF hCd h
  go_enter Try.func91, Try.ntmps91
  go_wp2_with fail
  rw [← HW5.out]
  refine HC.out.mono ?_
  rintro e w6 ⟨rfl, bl', hQ6, hc6⟩
  obtain ⟨T5, hz5⟩ := HT.out
  have hcd := HCD.out
  subst hcd
  obtain ⟨rl, -, hsame, hsz, -, hrest⟩ := hQ6
  obtain ⟨A, c, vs, h1, h2, -⟩ := hrest
  replace h1 : Blk w6 (w.heap.size + 1 + 1) 70 #[.slice A (symL x (ords n n [])).length c] := h1
  replace h2 : OwMv 22 3 (.int .i64) w.heap.size w6 (.slice A (symL x (ords n n [])).length c) (symL x (ords n n [])).length vs (symL x (ords n n [])) := h2
  have T6 : Below w.heap.size w w6 := ⟨hc6.os.trans T5.os, hc6.tape.trans T5.tape, hc6.output.trans T5.output, hsz, fun b hb => hsame b hb⟩
  have cL := h1.c0
  have HO := Lib.hid h2
  clear h1 h2 hsame T5 HC hc6
  go_wp2_with fail
  go_ret
  exact ⟨A, c, vs, rfl, HO.out, T6⟩

set_option maxRecDepth 20000 in
set_option maxHeartbeats 8000000 in
theorem implSO_any (cs : List Value) (x : AlgebraM) (w : World) (h : shAlgebra.rd w cs x) :
    Calls Try.prog 48 #[.agg cs.toArray] w (OwSB w (soM x) (smallB x)) := by
  have hrd := h
  obtain ⟨B, m, d, rfl, qs, qo⟩ := rdAlgebra h
  obtain ⟨w0, hw0, T0, hsz0, BP⟩ := boxes1 w #[.int .i64 x.1, .slice B m d] 41
  have HW0 := Lib.hid hw0
  clear hw0
  obtain ⟨r, hr⟩ : ∃ r, smallB x = r := ⟨_, rfl⟩
  have HM : Hid (soM x = if r then symL x (ords x.1.toNat x.1.toNat []) else []) := by show _ = _; unfold soM; rw [hr]
  have HS := Lib.hid hr
  rw [hr]
  clear hr
  go_enter Try.func48, Try.ntmps48
  go_wp2_with fail
  rw [← HW0.out]
  refine (isNamed_any _ x _ (shAlgebra.stab hrd T0.block)).mono ?_
  rintro e w1 ⟨rfl, hb1⟩
  rw [HS.out]
  have T1 := below_next T0 hb1 rfl
  have cP0 := (BP.next hb1).cell 0
  have cP1 := (BP.next hb1).cell 1
  simp at cP0 cP1
  rcases r with _ | _
  · have hl : (w1.alloc (.cells #[] 22)).ownsRow w.heap.size 22 1 (.slice (some ⟨w1.heap.size, 0, none⟩) 0 0) 0 [] := World.ownsRow_lit _ _ _ T1.size (Nat.zero_le _) rfl
    have HO := Lib.hid (OwMv.empty _ _ hl)
    clear hl
    have HM0 : Hid (soM x = []) := by show _ = _; rw [HM.out]; rfl
    go_wp2_with fail
    go_ret2
    rw [HM0.out]
    exact ⟨_, _, _, rfl, HO.out, HO.out.inHi, below_next T1 (below_box _ _) rfl⟩
  · have HM0 : Hid (soM x = symL x (ords x.1.toNat x.1.toNat [])) := by show _ = _; rw [HM.out]; rfl
    go_wp2_with fail
    refine (symmetries_any _ x _ (shAlgebra.stab hrd T1.block) (small_iff.1 HS.out)).mono ?_
    rintro e w2 ⟨A, c, vs, rfl, ho, hb2⟩
    have T2 := below_next T1 hb2 rfl
    have HO := Lib.hid ho
    have HZ := Lib.hid T1.size
    clear ho
    go_wp2_with fail
    go_ret2
    rw [HM0.out]
    exact ⟨_, _, _, rfl, HO.out.mono HZ.out, HO.out.inHi, T2⟩
end Go.Proofs.Ytppnmpeicmlneaa
