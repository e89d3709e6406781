
/- Walks: the code of an algebra; CodeOf. -/
import Derived.Test.YtbpdbimdefdefaaAlg
namespace Go.Proofs.Ytbpdbimdefdefaa
open Go.RowKit

def codeL : List OpM → List Int
  | [] => []
  | x :: l => x.2 ++ codeL l
theorem codeL_len : ∀ xs : List OpM, (codeL xs).length = cntS shOp.cnt xs
  | [] => rfl
  | x :: l => by
    rw [codeL, List.length_append, codeL_len l, cntS_cons]
    show x.2.length + _ = (0 + x.2.length) + _
    omega
theorem codeL_R {w : World} {A : Option Addr} {n : Nat} : ∀ {xs : List OpM}, RdN shOp.m shOp.rd w A n xs → ∀ y ∈ codeL xs, InR y := by
  intro xs h
  have key : ∀ x ∈ xs, ∀ y ∈ x.2, InR y := fun x hx y hy => by
    obtain ⟨k, hk⟩ := List.getElem?_of_mem hx
    obtain ⟨b, o, vs, -, -, -, hr⟩ := h.2.2 k x hk
    obtain ⟨B, m, d, -, -, qt⟩ := rdOp hr
    exact qt.bounds y hy
  clear h
  induction xs with
  | nil => intro y hy; simp [codeL] at hy
  | cons x l ih =>
    intro y hy
    rw [codeL, List.mem_append] at hy
    rcases hy with hy | hy
    · exact key x (List.mem_cons_self ..) y hy
    · exact ih (fun x' hx' => key x' (List.mem_cons_of_mem _ hx')) y hy
/-- What has been gathered, and what the rest gives. -/
def CdAt (xs : List OpM) (k : Nat) (acc : List Int) : Prop := acc ++ codeL (xs.drop k) = codeL xs
theorem CdAt.step {xs : List OpM} {k : Nat} {acc : List Int} {x : OpM} (h : CdAt xs k acc) (hd : xs.drop k = x :: xs.drop (k + 1)) : CdAt xs (k + 1) (acc ++ x.2) := by
  unfold CdAt at *
  rw [← h, hd, codeL, List.append_assoc]
theorem CdAt.done {xs : List OpM} {k : Nat} {acc : List Int} (h : CdAt xs k acc) (hd : xs.drop k = []) : acc = codeL xs := by
  unfold CdAt at h
  rwa [hd, codeL, List.append_nil] at h
theorem CdAt.len {xs : List OpM} {k : Nat} {acc : List Int} {x : OpM} (h : CdAt xs k acc) (hd : xs.drop k = x :: xs.drop (k + 1)) : acc.length + x.2.length ≤ cntS shOp.cnt xs := by
  unfold CdAt at h
  have := congrArg List.length h
  rw [hd, codeL, List.length_append, List.length_append, codeL_len] at this
  have h2 := codeL_len xs
  omega
/-- A code handed back. -/
def CodeE (w : World) (xs : List OpM) (e : Ending) (w' : World) : Prop := ∃ A c, e = .returned (.slice A (codeL xs).length c) ∧ w'.ownsRow w.heap.size 3 1 (.slice A (codeL xs).length c) (codeL xs).length (ints (codeL xs)) ∧ Below w.heap.size w w'

theorem lit_below {w w0 : World} (hT : Below w.heap.size w w0) : (w0.alloc (.cells #[] 3)).ownsRow w.heap.size 3 1 (.slice (some ⟨w0.heap.size, 0, none⟩) 0 0) 0 [] := World.ownsRow_lit _ _ _ hT.size (Nat.zero_le _) rfl
set_option maxRecDepth 20000 in
set_option maxHeartbeats 4000000 in
theorem codeOf_any (cs : List Value) (x : AlgebraM) (w : World) (h : shAlgebra.rd w cs x) (hn : shAlgebra.cnt x ≤ 1048576) :
    Calls Try.prog 108 #[.agg cs.toArray] w (CodeE w x.2) := by
  obtain ⟨B, m, d, rfl, qs, qo⟩ := rdAlgebra h
  have hle := qo.le
  have hcn : 0 + (x.2.length + cntS shOp.cnt x.2) ≤ 1048576 := hn
  obtain ⟨w0, hw0, T0, hsz0, BP⟩ := boxes1 w #[.int .i64 x.1, .slice B m d] 38
  have hown0 := lit_below T0
  have T1 := below_next T0 (below_box w0 (.cells #[] 3)) rfl
  obtain ⟨w1, hw1⟩ : ∃ wb, wb = w0.alloc (.cells #[] 3) := ⟨_, rfl⟩
  rw [← hw1] at hown0 T1
  have hz1 : w1.heap.size = w.heap.size + 2 := by rw [hw1]; simp; omega
  rw [hsz0] at hown0
  have HW : Hid (w1 = (w.alloc (.cells #[.int .i64 x.1, .slice B m d] 38)).alloc (.cells #[] 3)) := by show _ = _; rw [hw1, hw0]
  clear hw0 hw1 T0 BP
  have HL := Lib.hid (codeL_len x.2)
  go_enter Try.func108, Try.ntmps108
  go_wp2_with fail
  rw [← HW.out]
  go_loopw [3, 5, 10] (fun v _ i wr => ∃ (k : Nat) (acc : List Int) (A : Option Addr) (c : Nat), k ≤ m ∧ i = .int .i64 k ∧ v = .slice A acc.length c ∧ CdAt x.2 k acc ∧ wr.ownsRow w.heap.size 3 1 (.slice A acc.length c) acc.length (ints acc) ∧ Below w.heap.size w wr) (fun _ _ i _ => m - (intOf i).toNat)
  case atStart => exact ⟨0, [], _, _, Nat.zero_le _, rfl, rfl, rfl, hown0, T1⟩
  case round =>
    clear hown0 T1
    obtain ⟨k, acc, A, c, hk, rfl, rfl, HA, hown, hTw⟩ := hrel
    have q' := qo.next hTw
    by_cases hlt : k < m
    · obtain ⟨b, o, vs, y, rfl, -, hc, hr, hd, -⟩ := q'.at hlt
      obtain ⟨B', m', d', rfl, qa, qt⟩ := rdOp hr
      obtain rfl : y.2.length = m' := qt.len
      have cc0 : wr.cell? ⟨b, o + k * 2, none⟩ = some (.int .i64 y.1) := hc 0 _ rfl
      have cc1 : wr.cell? ⟨b, o + k * 2 + 1, none⟩ = some (.slice B' y.2.length d') := hc 1 _ rfl
      have hb1 := below_box wr (.cells #[.int .i64 y.1, .slice B' y.2.length d'] 103)
      have hown1 := own_next hown hb1
      have qt1 := qt.next stab_RI hb1
      have hTw1 := below_next hTw hb1 rfl
      have hbase := hTw1.size
      have hal := HA.len hd
      have HS := Lib.hid (HA.step hd)
      clear hd hc hb1
      have hk0 : (0 : Int) ≤ (k : Int) := by omega
      have hk1 : (k : Int) < (m : Int) := by omega
      go_wp2_with (at_builtin; refine appAny _ rfl _ _ 75 3 rfl (.int .i64 0) 8 Try.underlying75 info_int rfl (by decide) w.heap.size acc.length c A (ints acc) rfl hown1 B' y.2.length d' y.2 (.int .i64) (fun _ => rfl) rfl qt1 (fun _ _ _ hr => hr.1) (by omega) hbase ?_; intro A2 c2 w2 hown2 hg2 hb2)
      go_roundw
      case rel => exact ⟨k + 1, acc ++ y.2, A2, c2, by omega, by go_num, by rw [List.length_append], HS.out, by rw [List.length_append]; simpa [ints] using hown2, hTw1.trans hb2⟩
      case measure => simp [intOf]; omega
    · obtain rfl := HA.done (qo.drop_end hlt)
      have hlt' : ¬ (k : Int) < (m : Int) := by omega
      go_wp2_with fail
      go_ret
      exact ⟨A, c, rfl, hown, hTw⟩

theorem own_off {w : World} {base : Nat} {e : TypeId} {size : Nat} {v : Value} {n : Nat} {xs : List Value} (h : w.ownsRow base e size v n xs) {g : Nat} {t : TypeId} {cs : Array Value} (hB : Blk w g t cs) (hne : e ≠ t) : v.ownBlock ≠ some g := by
  rcases h.2 with ⟨rfl, _⟩ | ⟨g1, cap, cur, rfl, _, hh, _⟩
  · simp [Value.ownBlock]
  · intro hc
    simp only [Value.ownBlock, Option.some.injEq] at hc
    subst hc
    rw [hB] at hh
    injection hh with hh
    injection hh with _ ht
    exact hne ht.symm
set_option maxRecDepth 20000 in
set_option maxHeartbeats 4000000 in
theorem l31Code_any (cs : List Value) (x : AlgebraM) (w : World) (h : shAlgebra.rd w cs x) (hn : shAlgebra.cnt x ≤ 1048576) :
    Calls Try.prog 114 #[.agg cs.toArray] w (CodeE w x.2) := by
  obtain ⟨B, m, d, rfl, qs, qo⟩ := rdAlgebra h
  have hle := qo.le
  have hcn : 0 + (x.2.length + cntS shOp.cnt x.2) ≤ 1048576 := hn
  obtain ⟨w0, hw0, T0, hsz0, BP⟩ := boxes1 w #[.int .i64 x.1, .slice B m d] 38
  have hown0 := lit_below T0
  have T1 := below_next T0 (below_box w0 (.cells #[] 3)) rfl
  obtain ⟨w1, hw1⟩ : ∃ wb, wb = w0.alloc (.cells #[] 3) := ⟨_, rfl⟩
  replace BP : Blk w1 w.heap.size 38 #[.int .i64 x.1, .slice B m d] := by rw [hw1]; exact BP.alloc _
  rw [← hw1] at hown0 T1
  have hz1 : w1.heap.size = w.heap.size + 2 := by rw [hw1]; simp; omega
  rw [hsz0] at hown0
  have HW : Hid (w1 = (w.alloc (.cells #[.int .i64 x.1, .slice B m d] 38)).alloc (.cells #[] 3)) := by show _ = _; rw [hw1, hw0]
  clear hw0 hw1 T0
  have HL := Lib.hid (codeL_len x.2)
  go_enter Try.func114, Try.ntmps114
  go_wp2_with fail
  rw [← HW.out]
  go_loopw [3, 4] (fun v i wr => ∃ (k : Nat) (acc : List Int) (A : Option Addr) (c : Nat), k ≤ m ∧ i = .int .i64 k ∧ v = .slice A acc.length c ∧ CdAt x.2 k acc ∧ wr.ownsRow w.heap.size 3 1 (.slice A acc.length c) acc.length (ints acc) ∧ Blk wr w.heap.size 38 #[.int .i64 x.1, .slice B m d] ∧ Below w.heap.size w wr) (fun _ i _ => m - (intOf i).toNat)
  case atStart => exact ⟨0, [], _, _, Nat.zero_le _, rfl, rfl, rfl, hown0, BP, T1⟩
  case round =>
    clear hown0 T1 BP
    obtain ⟨k, acc, A, c, hk, rfl, rfl, HA, hown, BP, hTw⟩ := hrel
    have q' := qo.next hTw
    have cP := BP.cell 1
    simp at cP
    by_cases hlt : k < m
    · obtain ⟨b, o, vs, y, rfl, -, hc, hr, hd, -⟩ := q'.at hlt
      obtain ⟨B', m', d', rfl, qa, qt⟩ := rdOp hr
      obtain rfl : y.2.length = m' := qt.len
      have cc1 : wr.cell? ⟨b, o + k * 2 + 1, none⟩ = some (.slice B' y.2.length d') := hc 1 _ rfl
      have hbase := hTw.size
      have hal := HA.len hd
      have HS := Lib.hid (HA.step hd)
      clear hd hc
      have hk0 : (0 : Int) ≤ (k : Int) := by omega
      have hk1 : (k : Int) < (m : Int) := by omega
      go_wp2_with (at_builtin; refine appAny _ rfl _ _ 75 3 rfl (.int .i64 0) 8 Try.underlying75 info_int rfl (by decide) w.heap.size acc.length c A (ints acc) rfl hown B' y.2.length d' y.2 (.int .i64) (fun _ => rfl) rfl qt (fun _ _ _ hr => hr.1) (by omega) hbase ?_; intro A2 c2 w2 hown2 hg2 hb2)
      go_roundw
      case rel => exact ⟨k + 1, acc ++ y.2, A2, c2, by omega, by go_num, by rw [List.length_append], HS.out, by rw [List.length_append]; simpa [ints] using hown2, BP.grown hg2 (fun e => own_off hown BP (by decide) e.symm), hTw.trans hb2⟩
      case measure => simp [intOf]; omega
    · obtain rfl := HA.done (qo.drop_end hlt)
      have hlt' : ¬ (k : Int) < (m : Int) := by omega
      go_wp2_with fail
      go_ret
      exact ⟨A, c, rfl, hown, hTw⟩

/-! ## CodeOf -/
def codeM (x : AlgebraM) : List Int := if smallB x then codeL x.2 else []
theorem own_shape {w : World} {base : Nat} {v : Value} {xs : List Int} (h : w.ownsRow base 3 1 v xs.length (ints xs)) (hx : ∀ y ∈ xs, InR y) : (Sh.il 3).own w [v] xs (obl v) := ⟨v, rfl, own_mono h (Nat.zero_le _), hx, rfl⟩
theorem obl_iv {w : World} {base size : Nat} {e : TypeId} {v : Value} {n : Nat} {xs : List Value} (h : w.ownsRow base e size v n xs) : Iv base w.heap.size (obl v) := by
  refine ⟨?_, fun b hb => h.lt b (mem_obl.1 hb)⟩
  unfold obl
  cases v.ownBlock <;> simp
theorem codeM_len {x : AlgebraM} (h : shAlgebra.cnt x ≤ 1048576) : (codeM x).length ≤ 4194304 := by
  have hcn : 0 + (x.2.length + cntS shOp.cnt x.2) ≤ 1048576 := h
  unfold codeM
  split
  · rw [codeL_len]; omega
  · exact Nat.zero_le _
theorem mcle_stAlgebra {x : AlgebraM} (h : shAlgebra.cnt x ≤ 1048576) : msAlgebra x ≤ 4194304 := by
  have hcn : 0 + (x.2.length + cntS shOp.cnt x.2) ≤ 1048576 := h
  have : ∀ l : List OpM, cntS mcOp l = l.length + cntS shOp.cnt l := fun l => by
    induction l with
    | nil => rfl
    | cons y l ih =>
      rw [cntS_cons, cntS_cons, ih, List.length_cons]
      show 1 + y.2.length + _ = _ + ((0 + y.2.length) + _)
      omega
  unfold msAlgebra
  rw [this]
  omega
end Go.Proofs.Ytbpdbimdefdefaa
