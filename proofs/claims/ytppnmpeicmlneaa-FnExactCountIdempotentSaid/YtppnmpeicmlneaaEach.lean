
/- Walks: all orders of names, each handed to a function value (the program's eachOrder). -/
import Derived.Test.YtppnmpeicmlneaaFirst
import Derived.Deep.DeepAppendRoom
import Derived.ArgAppend
namespace Go.Proofs.Ytppnmpeicmlneaa
open Go.RowKit

theorem ownBlock_slice (p : Addr) (n c : Nat) : (Value.slice (some p) n c).ownBlock = some p.block := rfl
/-- append of one int to a row of the call's own: the same block, or a new one. -/
theorem app1x (w0 : World) {ops : Array Oper} {rest : List Oper} {o : Oper} {a : Act} {Q : Exit → Act → World → Prop} (hgd : o.guard = none) (s x : Operand)
    (ho : o.op = .call { callee := .builtin .append, args := #[s, x], argTypes := #[22, 22] })
    (n c : Nat) (A : Option Addr) (xs : List Value) (hs : a.eval s = .slice A n c) (hown : w0.ownsRow 0 3 1 (.slice A n c) n xs) (u : Int) (hx : a.eval x = .slice (some ⟨w0.heap.size, 0, none⟩) 1 1)
    (hn : n ≤ 1048576)
    (hK : ∀ A' c' w', w'.ownsRow 0 3 1 (.slice A' (n + 1) c') (n + 1) (xs ++ [.int .i64 u]) → w0.grownBy w' (Value.slice A n c).ownBlock → (∀ b ∈ obl (.slice A' (n + 1) c'), b ∈ obl (.slice A n c) ∨ w0.heap.size ≤ b) → wpList Try.prog ops Q rest (a.put o.dst (.slice A' (n + 1) c')) w') :
    wpList Try.prog ops Q (o :: rest) a (w0.alloc (.cells #[.int .i64 u] 3)) := by
  obtain ⟨i, hi, hz, hsize, hby⟩ := info_parts info_int
  have hcells : ∀ j y, [Value.int .i64 u][j]? = some y → (w0.alloc (.cells #[.int .i64 u] 3)).cell? ((⟨w0.heap.size, 0, none⟩ : Addr).add j) = some y := by
    intro j y hj
    match j, hj with
    | 0, hj => simp at hj; subst hj; simp [Addr.add]
  have hone : ∀ y ∈ [Value.int .i64 u], y.oneCell' = true := by
    intro y hy
    simp at hy
    subst hy
    rfl
  have lift : ∀ {w' : World} {row : Option Nat}, (w0.alloc (.cells #[.int .i64 u] 3)).grownBy w' row → (∀ k, row = some k → (Value.slice A n c).ownBlock = some k) → w0.grownBy w' (Value.slice A n c).ownBlock := by
    intro w' row hg hr
    exact ⟨hg.os, hg.tape, hg.output, Nat.le_trans (by simp) hg.size, fun k hk hne => (hg.block k (by simp; omega) (fun e => hne (hr k e.symm).symm)).trans (Below.heap_alloc w0 _ k hk)⟩
  by_cases hr : n + 1 ≤ c
  · obtain ⟨g, rfl⟩ : ∃ g, A = some ⟨g, 0, none⟩ := by
      rcases hown.2 with ⟨h0, -⟩ | ⟨g, cap, cur, hv, -⟩
      · injection h0 with _ _ h3
        omega
      · injection hv with hv
        exact ⟨g, hv⟩
    refine wpList_append_own_spare (w0.alloc (.cells #[.int .i64 u] 3)) hgd s x 22 ho 0 3 i 1 Try.underlying22 hi hsize g n c xs hs (hown.alloc _) ⟨w0.heap.size, 0, none⟩ 1 1 [.int .i64 u] hx rfl hcells hone hr ?_
    intro w' h2 h3
    exact hK _ _ _ h2 (lift h3 fun k e => e) (fun b hb => .inl hb)
  · refine wpList_append_grows (w0.alloc (.cells #[.int .i64 u] 3)) hgd s x 22 ho 3 i (.int .i64 0) 1 8 Try.underlying22 hi hz hsize hby rfl (by omega) A n c xs hs ?_ hown.1 ?_ ⟨w0.heap.size, 0, none⟩ 1 1 [.int .i64 u] hx rfl hcells hone (by omega) (by unfold maxLen; omega) (by omega) ?_
    · intro e
      subst e
      rcases hown.2 with ⟨h0, h1⟩ | ⟨g, cap, cur, hv, -⟩
      · injection h0 with _ _ h3
        exact ⟨h1, h3⟩
      · injection hv with hv
        cases hv
    · intro b e j y hy
      subst e
      obtain ⟨g, rfl⟩ : ∃ g, b = ⟨g, 0, none⟩ := by
        rcases hown.2 with ⟨h0, -⟩ | ⟨g, cap, cur, hv, -⟩
        · injection h0 with h0
          cases h0
        · injection hv with hv
          injection hv with hv
          exact ⟨g, hv⟩
      have hjl := (List.getElem?_eq_some_iff.1 hy).1
      have h1 := hown.1
      have := ((hown.alloc (.cells #[.int .i64 u] 3)).cellAt j (by omega)).trans hy
      have ea : (⟨g, 0, none⟩ : Addr).add j = ⟨g, j, none⟩ := by
        unfold Addr.add
        split
        · rename_i h0; subst h0; rfl
        · simp
      rw [ea]
      exact this
    · intro v' w' h2 h3
      obtain ⟨A', c', rfl⟩ := own_slice h2
      refine hK A' c' w' (own_mono h2 (Nat.zero_le _)) (lift h3 fun k e => by cases e) (fun b hb => .inr ?_)
      have := (h2.lt b (mem_obl.1 hb)).1
      simp at this
      omega
theorem own_prefix {w : World} {base n c : Nat} {A : Option Addr} {xs : List Int} {y : Int} {e : TypeId} (h : w.ownsRow base e 1 (.slice A (n + 1) c) (n + 1) (ints (xs ++ [y]))) (hn : xs.length = n) : w.ownsRow base e 1 (.slice A n c) n (ints xs) ∧ n + 1 ≤ c := by
  rcases h.2 with ⟨h0, -⟩ | ⟨g, cap, cur, hv, h1, h2, h3, h4, h5, h6⟩
  · injection h0 with _ h2 _
    omega
  · injection hv with hv1 hv2 hv3
    subst hv1
    subst hv3
    refine ⟨⟨by rw [ints_len]; omega, .inr ⟨g, c, cur, rfl, h1, h2, by omega, h4, h5, ?_⟩⟩, h3⟩
    have : cur.toList.take (n * 1) = (cur.toList.take ((n + 1) * 1)).take (n * 1) := by rw [List.take_take]; congr 1; omega
    rw [this, h6]
    simp [ints, hn]

/-- What eachOrder asks of the function that it calls: Q says what holds once d orders have been handed over; only the blocks of bl may change. -/
structure FoundOk (N : Nat) (n : Nat) (fid : Nat) (caps : Array Value) (Q : World → List (List Int) → List Nat → Prop) : Prop where
  enter : ∀ (args : Array Value) (w : World), (callFunc fid args).run Try.prog w = .ok (.enter fid args) w
  stab : ∀ {w w' : World} {d : List (List Int)} {bl : List Nat}, Q w d bl → w.heap.size ≤ w'.heap.size → (∀ b ∈ bl, w'.heap[b]? = w.heap[b]?) → Q w' d bl
  lt : ∀ {w : World} {d : List (List Int)} {bl : List Nat}, Q w d bl → ∀ b ∈ bl, b < w.heap.size
  call : ∀ (w : World) (d : List (List Int)) (bl : List Nat) (A : Option Addr) (c : Nat) (p : List Int), d.length < N → Q w d bl → RdL RI w A n p → PermL n p →
    Calls Try.prog fid (#[.slice A n c] ++ caps) w fun e w' => e = .returned (.tuple #[]) ∧ ∃ bl', Q w' (d ++ [p]) bl' ∧ ChgB bl w w' ∧ ∀ b ∈ bl', b ∈ bl ∨ w.heap.size ≤ b

structure NxS (n : Nat) (fid : Nat) (caps : Array Value) (g0 g1 g2 g3 : Nat) (w : World) (A : Option Addr) (c : Nat) (s : List Int) (bl : List Nat) : Prop where
  B0 : Blk w g0 22 #[.slice A s.length c]
  B1 : Blk w g1 3 #[.int .i64 (n : Int)]
  B2 : Blk w g2 134 #[.func (.func fid) #[] caps]
  B3 : Blk w g3 1 #[.func (.func 134) #[] #[.pointer (some ⟨g0, 0, none⟩), .pointer (some ⟨g1, 0, none⟩), .pointer (some ⟨g2, 0, none⟩), .pointer (some ⟨g3, 0, none⟩)]]
  own : w.ownsRow 0 3 1 (.slice A s.length c) s.length (ints s)
  dis : ∀ b ∈ obl (.slice A s.length c), b ∉ bl
  gs : g0 ∉ bl ∧ g1 ∉ bl ∧ g2 ∉ bl ∧ g3 ∉ bl
  g1v : g1 ∉ obl (.slice A s.length c)
theorem NxS.chg {n fid : Nat} {caps : Array Value} {g0 g1 g2 g3 c : Nat} {w w' : World} {A : Option Addr} {s : List Int} {bl bl' : List Nat} (h : NxS n fid caps g0 g1 g2 g3 w A c s bl) (hc : ChgB bl w w') (hb : ∀ b ∈ bl', b ∈ bl ∨ w.heap.size ≤ b) : NxS n fid caps g0 g1 g2 g3 w' A c s bl' := by
  have far : ∀ {g : Nat} {t : TypeId} {cs : Array Value}, Blk w g t cs → g ∉ bl → Blk w' g t cs := fun hB hg => (hc.block _ hB.lt hg).trans hB
  have fr : ∀ {g : Nat} {t : TypeId} {cs : Array Value}, Blk w g t cs → g ∉ bl → g ∉ bl' := fun hB hg hh => by
    rcases hb _ hh with h1 | h1
    · exact hg h1
    · have := hB.lt
      omega
  refine ⟨far h.B0 h.gs.1, far h.B1 h.gs.2.1, far h.B2 h.gs.2.2.1, far h.B3 h.gs.2.2.2, ?_, fun b hbm hh => ?_, ⟨fr h.B0 h.gs.1, fr h.B1 h.gs.2.1, fr h.B2 h.gs.2.2.1, fr h.B3 h.gs.2.2.2⟩, h.g1v⟩
  · exact row_chg h.own hc fun b hb' hh => h.dis b (mem_obl.2 hb') hh
  · rcases hb b hh with h1 | h1
    · exact h.dis b hbm h1
    · have := (h.own.lt b (mem_obl.1 hbm)).2
      omega
/-- What a call of the inner function leaves. -/
def NxE (n fid : Nat) (caps : Array Value) (Q : World → List (List Int) → List Nat → Prop) (g0 g1 g2 g3 : Nat) (w : World) (A : Option Addr) (c : Nat) (s : List Int) (bl : List Nat) (d : List (List Int)) (e : Ending) (w' : World) : Prop :=
  e = .returned (.tuple #[]) ∧ ∃ A' c' bl', NxS n fid caps g0 g1 g2 g3 w' A' c' s bl' ∧ Q w' d bl' ∧ ChgB (bl ++ g0 :: obl (.slice A s.length c)) w w' ∧ (∀ b ∈ bl', b ∈ bl ∨ w.heap.size ≤ b) ∧ (∀ b ∈ obl (.slice A' s.length c'), b ∈ obl (.slice A s.length c) ∨ w.heap.size ≤ b)
theorem ChgB.trans2 {bl bl1 : List Nat} {g0 : Nat} {l l1 : List Nat} {w w1 w2 : World} (h : ChgB (bl ++ g0 :: l) w w1) (k : ChgB (bl1 ++ g0 :: l1) w1 w2) (hb1 : ∀ b ∈ bl1, b ∈ bl ∨ w.heap.size ≤ b) (hl : ∀ b ∈ l1, b ∈ l ∨ w.heap.size ≤ b) : ChgB (bl ++ g0 :: l) w w2 :=
  ⟨k.os.trans h.os, k.tape.trans h.tape, k.output.trans h.output, Nat.le_trans h.size k.size, fun b hb hn => (k.block b (Nat.lt_of_lt_of_le hb h.size) fun hh => hn (by
    rw [List.mem_append, List.mem_cons] at hh ⊢
    rcases hh with h1 | h1 | h1
    · rcases hb1 b h1 with h2 | h2
      · exact .inl h2
      · omega
    · exact .inr (.inl h1)
    · rcases hl b h1 with h2 | h2
      · exact .inr (.inr h2)
      · omega)).trans (h.block b hb hn)⟩
end Go.Proofs.Ytppnmpeicmlneaa
