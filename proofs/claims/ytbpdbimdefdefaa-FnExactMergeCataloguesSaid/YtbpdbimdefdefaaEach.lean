
/- Walks: all orders of names, each handed to a function value (the program's eachOrder). -/
import Derived.Test.YtbpdbimdefdefaaFirst
import Derived.Deep.DeepAppendRoom
import Derived.ArgAppend
namespace Go.Proofs.Ytbpdbimdefdefaa
open Go.RowKit

theorem ownBlock_slice (p : Addr) (n c : Nat) : (Value.slice (some p) n c).ownBlock = some p.block := rfl
/-- append of one int to a row of the call's own: the same block, or a new one. -/
theorem app1x (w0 : World) {ops : Array Oper} {rest : List Oper} {o : Oper} {a : Act} {Q : Exit → Act → World → Prop} (hgd : o.guard = none) (s x : Operand)
    (ho : o.op = .call { callee := .builtin .append, args := #[s, x], argTypes := #[75, 75] })
    (n c : Nat) (A : Option Addr) (xs : List Value) (hs : a.eval s = .slice A n c) (hown : w0.ownsRow 0 3 1 (.slice A n c) n xs) (u : Int) (hx : a.eval x = .slice (some ⟨w0.heap.size, 0, none⟩) 1 1)
    (hn : n ≤ 1048576)
    (hK : ∀ A' c' w', w'.ownsRow 0 3 1 (.slice A' (n + 1) c') (n + 1) (xs ++ [.int .i64 u]) → w0.grownBy w' (Value.slice A n c).ownBlock → (∀ b ∈ obl (.slice A' (n + 1) c'), b ∈ obl (.slice A n c) ∨ w0.heap.size ≤ b) → wpList Try.prog ops Q rest (a.put o.dst (.slice A' (n + 1) c')) w') :
    wpList Try.prog ops Q (o :: rest) a (w0.alloc (.cells #[.int .i64 u] 3)) := by
  obtain ⟨i, hi, hz, hsize, hby⟩ := info_parts info_int
  have hcells : ∀ j y, [Value.int .i64 u][j]? = some y → (w0.alloc (.cells #[.int .i64 u] 3)).cell? ((⟨w0.heap.size, 0, none⟩ : Addr).add j) = some y := by
    intro j y hj
    match j, hj with
    | 0, hj => simp at hj; subst hj; simp [Addr.add]
  have hone : ∀ y ∈ [Value.int .i64 u], y.oneCell' = true := by
    intro y hy
    simp at hy
    subst hy
    rfl
  have lift : ∀ {w' : World} {row : Option Nat}, (w0.alloc (.cells #[.int .i64 u] 3)).grownBy w' row → (∀ k, row = some k → (Value.slice A n c).ownBlock = some k) → w0.grownBy w' (Value.slice A n c).ownBlock := by
    intro w' row hg hr
    exact ⟨hg.os, hg.tape, hg.output, Nat.le_trans (by simp) hg.size, fun k hk hne => (hg.block k (by simp; omega) (fun e => hne (hr k e.symm).symm)).trans (Below.heap_alloc w0 _ k hk)⟩
  by_cases hr : n + 1 ≤ c
  · obtain ⟨g, rfl⟩ : ∃ g, A = some ⟨g, 0, none⟩ := by
      rcases hown.2 with ⟨h0, -⟩ | ⟨g, cap, cur, hv, -⟩
      · injection h0 with _ _ h3
        omega
      · injection hv with hv
        exact ⟨g, hv⟩
    refine wpList_append_own_spare (w0.alloc (.cells #[.int .i64 u] 3)) hgd s x 75 ho 0 3 i 1 Try.underlying75 hi hsize g n c xs hs (hown.alloc _) ⟨w0.heap.size, 0, none⟩ 1 1 [.int .i64 u] hx rfl hcells hone hr ?_
    intro w' h2 h3
    exact hK _ _ _ h2 (lift h3 fun k e => e) (fun b hb => .inl hb)
  · refine wpList_append_grows (w0.alloc (.cells #[.int .i64 u] 3)) hgd s x 75 ho 3 i (.int .i64 0) 1 8 Try.underlying75 hi hz hsize hby rfl (by omega) A n c xs hs ?_ hown.1 ?_ ⟨w0.heap.size, 0, none⟩ 1 1 [.int .i64 u] hx rfl hcells hone (by omega) (by unfold maxLen; omega) (by omega) ?_
    · intro e
      subst e
      rcases hown.2 with ⟨h0, h1⟩ | ⟨g, cap, cur, hv, -⟩
      · injection h0 with _ _ h3
        exact ⟨h1, h3⟩
      · injection hv with hv
        cases hv
    · intro b e j y hy
      subst e
      obtain ⟨g, rfl⟩ : ∃ g, b = ⟨g, 0, none⟩ := by
        rcases hown.2 with ⟨h0, -⟩ | ⟨g, cap, cur, hv, -⟩
        · injection h0 with h0
          cases h0
        · injection hv with hv
          injection hv with hv
          exact ⟨g, hv⟩
      have hjl := (List.getElem?_eq_some_iff.1 hy).1
      have h1 := hown.1
      have := ((hown.alloc (.cells #[.int .i64 u] 3)).cellAt j (by omega)).trans hy
      have ea : (⟨g, 0, none⟩ : Addr).add j = ⟨g, j, none⟩ := by
        unfold Addr.add
        split
        · rename_i h0; subst h0; rfl
        · simp
      rw [ea]
      exact this
    · intro v' w' h2 h3
      obtain ⟨A', c', rfl⟩ := own_slice h2
      refine hK A' c' w' (own_mono h2 (Nat.zero_le _)) (lift h3 fun k e => by cases e) (fun b hb => .inr ?_)
      have := (h2.lt b (mem_obl.1 hb)).1
      simp at this
      omega
theorem own_prefix {w : World} {base n c : Nat} {A : Option Addr} {xs : List Int} {y : Int} {e : TypeId} (h : w.ownsRow base e 1 (.slice A (n + 1) c) (n + 1) (ints (xs ++ [y]))) (hn : xs.length = n) : w.ownsRow base e 1 (.slice A n c) n (ints xs) ∧ n + 1 ≤ c := by
  rcases h.2 with ⟨h0, -⟩ | ⟨g, cap, cur, hv, h1, h2, h3, h4, h5, h6⟩
  · injection h0 with _ h2 _
    omega
  · injection hv with hv1 hv2 hv3
    subst hv1
    subst hv3
    refine ⟨⟨by rw [ints_len]; omega, .inr ⟨g, c, cur, rfl, h1, h2, by omega, h4, h5, ?_⟩⟩, h3⟩
    have : cur.toList.take (n * 1) = (cur.toList.take ((n + 1) * 1)).take (n * 1) := by rw [List.take_take]; congr 1; omega
    rw [this, h6]
    simp [ints, hn]

/-- What eachOrder asks of the function that it calls: Q says what holds once d orders have been handed over; only the blocks of bl may change. -/
structure FoundOk (N : Nat) (n : Nat) (fid : Nat) (caps : Array Value) (Q : World → List (List Int) → List Nat → Prop) : Prop where
  enter : ∀ (args : Array Value) (w : World), (callFunc fid args).run Try.prog w = .ok (.enter fid args) w
  stab : ∀ {w w' : World} {d : List (List Int)} {bl : List Nat}, Q w d bl → w.heap.size ≤ w'.heap.size → (∀ b ∈ bl, w'.heap[b]? = w.heap[b]?) → Q w' d bl
  lt : ∀ {w : World} {d : List (List Int)} {bl : List Nat}, Q w d bl → ∀ b ∈ bl, b < w.heap.size
  call : ∀ (w : World) (d : List (List Int)) (bl : List Nat) (A : Option Addr) (c : Nat) (p : List Int), d.length < N → Q w d bl → RdL RI w A n p → PermL n p →
    Calls Try.prog fid (#[.slice A n c] ++ caps) w fun e w' => e = .returned (.tuple #[]) ∧ ∃ bl', Q w' (d ++ [p]) bl' ∧ ChgB bl w w' ∧ ∀ b ∈ bl', b ∈ bl ∨ w.heap.size ≤ b

structure NxS (n : Nat) (fid : Nat) (caps : Array Value) (g0 g1 g2 g3 : Nat) (w : World) (A : Option Addr) (c : Nat) (s : List Int) (bl : List Nat) : Prop where
  B0 : Blk w g0 75 #[.slice A s.length c]
  B1 : Blk w g1 3 #[.int .i64 (n : Int)]
  B2 : Blk w g2 110 #[.func (.func fid) #[] caps]
  B3 : Blk w g3 1 #[.func (.func 144) #[] #[.pointer (some ⟨g0, 0, none⟩), .pointer (some ⟨g1, 0, none⟩), .pointer (some ⟨g2, 0, none⟩), .pointer (some ⟨g3, 0, none⟩)]]
  own : w.ownsRow 0 3 1 (.slice A s.length c) s.length (ints s)
  dis : ∀ b ∈ obl (.slice A s.length c), b ∉ bl
  gs : g0 ∉ bl ∧ g1 ∉ bl ∧ g2 ∉ bl ∧ g3 ∉ bl
  g1v : g1 ∉ obl (.slice A s.length c)
theorem NxS.chg {n fid : Nat} {caps : Array Value} {g0 g1 g2 g3 c : Nat} {w w' : World} {A : Option Addr} {s : List Int} {bl bl' : List Nat} (h : NxS n fid caps g0 g1 g2 g3 w A c s bl) (hc : ChgB bl w w') (hb : ∀ b ∈ bl', b ∈ bl ∨ w.heap.size ≤ b) : NxS n fid caps g0 g1 g2 g3 w' A c s bl' := by
  have far : ∀ {g : Nat} {t : TypeId} {cs : Array Value}, Blk w g t cs → g ∉ bl → Blk w' g t cs := fun hB hg => (hc.block _ hB.lt hg).trans hB
  have fr : ∀ {g : Nat} {t : TypeId} {cs : Array Value}, Blk w g t cs → g ∉ bl → g ∉ bl' := fun hB hg hh => by
    rcases hb _ hh with h1 | h1
    · exact hg h1
    · have := hB.lt
      omega
  refine ⟨far h.B0 h.gs.1, far h.B1 h.gs.2.1, far h.B2 h.gs.2.2.1, far h.B3 h.gs.2.2.2, ?_, fun b hbm hh => ?_, ⟨fr h.B0 h.gs.1, fr h.B1 h.gs.2.1, fr h.B2 h.gs.2.2.1, fr h.B3 h.gs.2.2.2⟩, h.g1v⟩
  · exact row_chg h.own hc fun b hb' hh => h.dis b (mem_obl.2 hb') hh
  · rcases hb b hh with h1 | h1
    · exact h.dis b hbm h1
    · have := (h.own.lt b (mem_obl.1 hbm)).2
      omega
/-- What a call of the inner function leaves. -/
def NxE (n fid : Nat) (caps : Array Value) (Q : World → List (List Int) → List Nat → Prop) (g0 g1 g2 g3 : Nat) (w : World) (A : Option Addr) (c : Nat) (s : List Int) (bl : List Nat) (d : List (List Int)) (e : Ending) (w' : World) : Prop :=
  e = .returned (.tuple #[]) ∧ ∃ A' c' bl', NxS n fid caps g0 g1 g2 g3 w' A' c' s bl' ∧ Q w' d bl' ∧ ChgB (bl ++ g0 :: obl (.slice A s.length c)) w w' ∧ (∀ b ∈ bl', b ∈ bl ∨ w.heap.size ≤ b) ∧ (∀ b ∈ obl (.slice A' s.length c'), b ∈ obl (.slice A s.length c) ∨ w.heap.size ≤ b)
theorem ChgB.trans2 {bl bl1 : List Nat} {g0 : Nat} {l l1 : List Nat} {w w1 w2 : World} (h : ChgB (bl ++ g0 :: l) w w1) (k : ChgB (bl1 ++ g0 :: l1) w1 w2) (hb1 : ∀ b ∈ bl1, b ∈ bl ∨ w.heap.size ≤ b) (hl : ∀ b ∈ l1, b ∈ l ∨ w.heap.size ≤ b) : ChgB (bl ++ g0 :: l) w w2 :=
  ⟨k.os.trans h.os, k.tape.trans h.tape, k.output.trans h.output, Nat.le_trans h.size k.size, fun b hb hn => (k.block b (Nat.lt_of_lt_of_le hb h.size) fun hh => hn (by
    rw [List.mem_append, List.mem_cons] at hh ⊢
    rcases hh with h1 | h1 | h1
    · rcases hb1 b h1 with h2 | h2
      · exact .inl h2
      · omega
    · exact .inr (.inl h1)
    · rcases hl b h1 with h2 | h2
      · exact .inr (.inr h2)
      · omega)).trans (h.block b hb hn)⟩
end Go.Proofs.Ytbpdbimdefdefaa
namespace Go.Proofs.Ytbpdbimdefdefaa
open Go.RowKit

theorem Blk.c0 {w : World} {g : Nat} {t : TypeId} {v : Value} (h : Blk w g t #[v]) : w.cell? ⟨g, 0, none⟩ = some v := by have := h.cell 0; simpa using this

theorem obl_len {A : Option Addr} {n m c d : Nat} : obl (.slice A n c) = obl (.slice A m d) := by rcases A with _ | p <;> rfl
theorem obl_some {p : Addr} {n c : Nat} : obl (.slice (some p) n c) = [p.block] := rfl
theorem NxS.push {n fid : Nat} {caps : Array Value} {g0 g1 g2 g3 c : Nat} {w w2 : World} {A : Option Addr} {s : List Int} {bl : List Nat} (h : NxS n fid caps g0 g1 g2 g3 w A c s bl) (hbl : ∀ b ∈ bl, b < w.heap.size) {A2 : Option Addr} {c2 : Nat} {u : Int} (ho : w2.ownsRow 0 3 1 (.slice A2 (s.length + 1) c2) (s.length + 1) (ints s ++ [.int .i64 u]))
    (hg : w.grownBy w2 (Value.slice A s.length c).ownBlock) (hf : ∀ b ∈ obl (.slice A2 (s.length + 1) c2), b ∈ obl (.slice A s.length c) ∨ w.heap.size ≤ b) :
    NxS n fid caps g0 g1 g2 g3 (w2.setCell ⟨g0, 0, none⟩ (.slice A2 (s ++ [u]).length c2)) A2 c2 (s ++ [u]) bl ∧ (∀ b ∈ bl, (w2.setCell ⟨g0, 0, none⟩ (.slice A2 (s ++ [u]).length c2)).heap[b]? = w.heap[b]?) ∧ ChgB (g0 :: obl (.slice A s.length c)) w (w2.setCell ⟨g0, 0, none⟩ (.slice A2 (s ++ [u]).length c2)) := by
  have hl : (s ++ [u]).length = s.length + 1 := by simp
  have far : ∀ {g : Nat} {t : TypeId} {cs : Array Value}, Blk w g t cs → g ∉ obl (.slice A s.length c) → Blk w2 g t cs := fun hB hn => hB.grown hg fun e => hn (mem_obl.2 e.symm)
  have n0 : g0 ∉ obl (.slice A s.length c) := fun hh => own_off h.own h.B0 (by decide) (mem_obl.1 hh)
  have n2 : g2 ∉ obl (.slice A s.length c) := fun hh => own_off h.own h.B2 (by decide) (mem_obl.1 hh)
  have n3 : g3 ∉ obl (.slice A s.length c) := fun hh => own_off h.own h.B3 (by decide) (mem_obl.1 hh)
  have e1 : g1 ≠ g0 := h.B1.ne_ h.B0 (by decide)
  have e2 : g2 ≠ g0 := h.B2.ne_ h.B0 (by decide)
  have e3 : g3 ≠ g0 := h.B3.ne_ h.B0 (by decide)
  have B0' := (far h.B0 n0).set_ 0 (.slice A2 (s ++ [u]).length c2)
  have hno : g0 ∉ obl (.slice A2 (s.length + 1) c2) := fun hh => own_off ho (far h.B0 n0) (by decide) (mem_obl.1 hh)
  refine ⟨⟨by simpa using B0', (far h.B1 h.g1v).far (p := ⟨g0, 0, none⟩) e1 _, (far h.B2 n2).far (p := ⟨g0, 0, none⟩) e2 _, (far h.B3 n3).far (p := ⟨g0, 0, none⟩) e3 _, ?_, ?_, h.gs, ?_⟩, ?_, ?_⟩
  · rw [hl, ints_snoc]
    exact own_set ho (p := ⟨g0, 0, none⟩) (fun hh => hno (mem_obl.2 hh)) _
  · intro b hb hh
    rw [hl] at hb
    rcases hf b hb with h1 | h1
    · exact h.dis b h1 hh
    · have := hbl b hh
      omega
  · intro hh
    rw [hl] at hh
    rcases hf g1 hh with h1 | h1
    · exact h.g1v h1
    · have := h.B1.lt
      omega
  · intro b hb
    rw [Below.heap_setCell w2 ⟨g0, 0, none⟩ _ b (fun e => h.gs.1 (by rw [← show b = g0 from e]; exact hb))]
    exact hg.block b (hbl b hb) fun e => h.dis b (mem_obl.2 e.symm) hb
  · exact ⟨hg.os, hg.tape, hg.output, by simpa using hg.size, fun b hb hn => by
      rw [List.mem_cons, not_or] at hn
      rw [Below.heap_setCell w2 ⟨g0, 0, none⟩ _ b hn.1]
      exact hg.block b hb fun e => hn.2 (mem_obl.2 e.symm)⟩
theorem NxS.pop {n fid : Nat} {caps : Array Value} {g0 g1 g2 g3 c : Nat} {w : World} {A : Option Addr} {s : List Int} {u : Int} {bl : List Nat} (h : NxS n fid caps g0 g1 g2 g3 w A c (s ++ [u]) bl) :
    NxS n fid caps g0 g1 g2 g3 (w.setCell ⟨g0, 0, none⟩ (.slice A s.length c)) A c s bl ∧ (∀ b ∈ bl, (w.setCell ⟨g0, 0, none⟩ (.slice A s.length c)).heap[b]? = w.heap[b]?) ∧ s.length + 1 ≤ c := by
  have hl : (s ++ [u]).length = s.length + 1 := by simp
  have ho := h.own
  rw [hl] at ho
  obtain ⟨ho2, hc⟩ := own_prefix ho rfl
  have e1 : g1 ≠ g0 := h.B1.ne_ h.B0 (by decide)
  have e2 : g2 ≠ g0 := h.B2.ne_ h.B0 (by decide)
  have e3 : g3 ≠ g0 := h.B3.ne_ h.B0 (by decide)
  have hob : obl (.slice A s.length c) = obl (.slice A (s ++ [u]).length c) := by rcases A with _ | p <;> rfl
  have hno : g0 ∉ obl (.slice A s.length c) := fun hh => own_off ho2 h.B0 (by decide) (mem_obl.1 hh)
  refine ⟨⟨by simpa using h.B0.set_ 0 (.slice A s.length c), h.B1.far (p := ⟨g0, 0, none⟩) e1 _, h.B2.far (p := ⟨g0, 0, none⟩) e2 _, h.B3.far (p := ⟨g0, 0, none⟩) e3 _, own_set ho2 (p := ⟨g0, 0, none⟩) (fun hh => hno (mem_obl.2 hh)) _, ?_, h.gs, ?_⟩, ?_, hc⟩
  · rw [hob]
    exact h.dis
  · rw [hob]
    exact h.g1v
  · intro b hb
    exact Below.heap_setCell w ⟨g0, 0, none⟩ _ b (fun e => h.gs.1 (by rw [← show b = g0 from e]; exact hb))

theorem ordsTo_mono {n r : Nat} {s : List Int} {k : Nat} : ∀ {m : Nat}, k ≤ m → (ordsTo n r s k).length ≤ (ordsTo n r s m).length
  | 0, h => by
    obtain rfl : k = 0 := by omega
    exact Nat.le_refl _
  | m + 1, h => by
    rcases Nat.lt_or_ge k (m + 1) with h1 | h1
    · rw [ordsTo_succ n r s m, List.length_append]
      have := ordsTo_mono (n := n) (r := r) (s := s) (k := k) (m := m) (by omega)
      omega
    · obtain rfl : k = m + 1 := by omega
      exact Nat.le_refl _
set_option maxRecDepth 20000 in
set_option maxHeartbeats 4000000 in
theorem next_any {N n fid : Nat} {caps : Array Value} {Q : World → List (List Int) → List Nat → Prop} (hF : FoundOk N n fid caps Q) (hn5 : n ≤ 5) (g0 g1 g2 g3 : Nat) :
    ∀ (r : Nat) (A : Option Addr) (c : Nat) (s : List Int) (bl : List Nat) (d : List (List Int)) (w : World), NxS n fid caps g0 g1 g2 g3 w A c s bl → Q w d bl → s.length + r = n → (∀ v ∈ s, 0 ≤ v ∧ v ≤ (n : Int) - 1) → s.Nodup → d.length + (ords n r s).length ≤ N →
      Calls Try.prog 144 #[.pointer (some ⟨g0, 0, none⟩), .pointer (some ⟨g1, 0, none⟩), .pointer (some ⟨g2, 0, none⟩), .pointer (some ⟨g3, 0, none⟩)] w (NxE n fid caps Q g0 g1 g2 g3 w A c s bl (d ++ ords n r s))
  | 0, A, c, s, bl, d, w, hS, hQ, hl, hb, hnd, hN => by
    have hls : s.length = n := by omega
    have HS := Lib.hid hS
    have c0 := hS.B0.c0
    have c1 := hS.B1.c0
    have c2 := hS.B2.c0
    have HO : Hid (ords n 0 s = [s]) := rfl
    have hR : RdL RI w A n s := by
      have := rd_of_own (R := RI) hS.own (RI_ints fun v hv => by have := hb v hv; omega)
      rw [hls] at this
      exact this
    have HC := Lib.hid (hF.call w d bl A c s (by simp [ords] at hN; omega) hQ hR ⟨hls, hb, hnd⟩)
    rw [hls] at c0
    have hen := hF.enter
    clear hS hQ hb hnd hl
    go_enter Try.func144, Try.ntmps144
    go_wp2_with fail
    refine HC.out.mono ?_
    rintro e w' ⟨rfl, bl', hQ', hcg, hfr⟩
    have HS' := Lib.hid (HS.out.chg hcg hfr)
    have HQ' := Lib.hid hQ'
    clear hQ'
    go_wp2_with fail
    (try simp only [Exit.inBlock, Exit.then])
    refine bodyPost_ret (results_none rfl _ _ _) rfl ?_
    exact ⟨rfl, A, c, bl', HS'.out, by rw [HO.out]; exact HQ'.out, hcg.mono fun b hb => List.mem_append_left _ hb, hfr, fun b hb => .inl hb⟩
  | r + 1, A, c, s, bl, d, w, hS, hQ, hl, hb, hnd, hN => by
    have HNN := Lib.hid hN
    clear hN
    have ih := next_any hF hn5 g0 g1 g2 g3 r
    have HB := Lib.hid hb
    have HND := Lib.hid hnd
    have hsl : s.length ≤ 5 := by omega
    have hbe : ((s.length : Int) == (n : Int)) = false := by rw [beq_eq_false_iff_ne]; omega
    have c0 := hS.B0.c0
    have c1 := hS.B1.c0
    have HO : Hid (ordsTo n r s n = ords n (r + 1) s) := rfl
    have HL := Lib.hid hl
    clear hb hnd
    go_enter Try.func144, Try.ntmps144
    go_wp2_with fail
    clear c0 c1
    go_loopw [4] (fun i wr => ∃ (k : Nat) (A' : Option Addr) (c' : Nat) (bl' : List Nat), k ≤ n ∧ i = .int .i64 k ∧ NxS n fid caps g0 g1 g2 g3 wr A' c' s bl' ∧ Q wr (d ++ ordsTo n r s k) bl' ∧ ChgB (bl ++ g0 :: obl (.slice A s.length c)) w wr ∧ (∀ b ∈ bl', b ∈ bl ∨ w.heap.size ≤ b) ∧ (∀ b ∈ obl (.slice A' s.length c'), b ∈ obl (.slice A s.length c) ∨ w.heap.size ≤ b)) (fun i _ => n - (intOf i).toNat)
    case atStart => exact ⟨0, A, c, bl, Nat.zero_le _, rfl, hS, by rw [show ordsTo n r s 0 = [] from rfl, List.append_nil]; exact hQ, ChgB.refl _ _, fun b hb => .inl hb, fun b hb => .inl hb⟩
    case round =>
      clear hS hQ
      obtain ⟨k, A', c', bl', hk, rfl, hS, hQ, hC, hfb, hfv⟩ := hrel
      have c0 := hS.B0.c0
      have c1 := hS.B1.c0
      by_cases hlt : k < n
      · have hk0 : (0 : Int) ≤ (k : Int) := by omega
        have hk1 : (k : Int) < (n : Int) := by omega
        have hR : RdL RI wr A' s.length s := rd_of_own (R := RI) hS.own (RI_ints fun v hv => by have := HB.out v hv; omega)
        have HS := Lib.hid hS
        have HQ := Lib.hid hQ
        have HREL := Lib.hid (And.intro hC (And.intro hfb hfv))
        rcases hh : hasI (k : Int) s with _ | _
        · have HH : Hid ((!hasI (k : Int) s) = true) := by show _ = _; rw [hh]; rfl
          have HSU : Hid (ordsTo n r s (k + 1) = ordsTo n r s k ++ ords n r (s ++ [(k : Int)])) := by show _ = _; rw [ordsTo_succ, hh]; simp
          have HNM : Hid (¬ (k : Int) ∈ s) := fun hm => by rw [hasI_m.2 hm] at hh; cases hh
          have hown := hS.own
          have HBL : Hid (∀ b ∈ bl', b < wr.heap.size) := hF.lt hQ
          have e30 : g3 ≠ g0 := hS.B3.ne_ hS.B0 (by decide)
          have c3 := hS.B3.c0
          clear hh hS hQ hC hfb hfv
          go_wp2_with (first
            | (go_at_call 130; refine (hasNot_any _ _ _ _ _ _ hR).mono ?_; rintro e w' ⟨rfl, rfl⟩; rw [HH.out])
            | (at_builtin; refine app1x wr rfl _ _ rfl s.length c' A' (ints s) rfl hown (k : Int) rfl (by omega) ?_; intro A2 c2 w2 hown2 hg2 hf2; have HP := Lib.hid (HS.out.push HBL.out hown2 hg2 hf2); have cB0 := (HS.out.B0.grown hg2 (fun e => own_off hown HS.out.B0 (by decide) e.symm)).c0; have fB0 := (HS.out.B0.grown hg2 (fun e => own_off hown HS.out.B0 (by decide) e.symm)).frozen 0; have cB3 := (HS.out.B3.grown hg2 (fun e => own_off hown HS.out.B3 (by decide) e.symm)).c0))
          have hlen1 : (s ++ [(k : Int)]).length = s.length + 1 := by simp
          obtain ⟨hN3, hsame3, hC3⟩ := HP.out
          rw [hlen1] at hN3 hsame3 hC3
          obtain ⟨w3, hw3⟩ : ∃ w3, w3 = w2.setCell ⟨g0, 0, none⟩ (.slice A2 (s.length + 1) c2) := ⟨_, rfl⟩
          rw [← hw3] at hN3 hsame3 hC3 ⊢
          clear hw3 HP cB0 fB0 cB3
          have hQ3 := hF.stab HQ.out hC3.size hsame3
          refine (ih A2 c2 (s ++ [(k : Int)]) bl' _ w3 hN3 hQ3 (by rw [hlen1]; have := HL.out; omega) (fun v hv => by
            rw [List.mem_append] at hv
            rcases hv with hv | hv
            · exact HB.out v hv
            · rw [List.mem_singleton] at hv
              omega) (by
            rw [List.nodup_append]
            refine ⟨HND.out, by simp, fun a ha b hb e => ?_⟩
            rw [List.mem_singleton] at hb
            subst hb
            subst e
            exact HNM.out ha) (by
            have h1 := HNN.out
            have h2 : (ordsTo n r s (k + 1)).length ≤ (ordsTo n r s n).length := ordsTo_mono (by omega)
            rw [HO.out] at h2
            rw [HSU.out, List.length_append] at h2
            rw [List.length_append]
            omega)).mono ?_
          rintro e w5 ⟨rfl, A5, c5, bl5, hN5, hQ5, hC5, hfb5, hfv5⟩
          rw [List.append_assoc, ← HSU.out] at hQ5
          obtain ⟨hN6, hsame6, hc56⟩ := hN5.pop
          have cB0 := hN5.B0.c0
          have fB0 := hN5.B0.frozen 0
          rw [hlen1] at cB0
          have hQ6 := hF.stab hQ5 (by simp) hsame6
          have hfvv : ∀ b ∈ obl (.slice A2 (s ++ [(k : Int)]).length c2), b ∈ obl (.slice A' s.length c') ∨ wr.heap.size ≤ b := fun b hb => hf2 b (by rw [obl_len (m := (s ++ [(k : Int)]).length) (d := c2)]; exact hb)
          have hCr : ChgB (bl' ++ g0 :: obl (.slice A' s.length c')) wr (w5.setCell ⟨g0, 0, none⟩ (.slice A5 s.length c5)) :=
            ((hC3.mono fun b hb => List.mem_append_right _ hb).trans2 hC5 (fun b hb => .inl hb) hfvv).trans (ChgB.set (p := ⟨g0, 0, none⟩) (List.mem_append_right _ (List.mem_cons_self ..)) _)
          have hs1 := HREL.out.1.size
          have hs3 := hC3.size
          have HFIN := Lib.hid (And.intro hN6 (And.intro hQ6 (And.intro (HREL.out.1.trans2 hCr HREL.out.2.1 HREL.out.2.2) (And.intro (show ∀ b ∈ bl5, b ∈ bl ∨ w.heap.size ≤ b from fun b hb => by
            rcases hfb5 b hb with h1 | h1
            · exact HREL.out.2.1 b h1
            · exact .inr (by omega)) (show ∀ b ∈ obl (.slice A5 s.length c5), b ∈ obl (.slice A s.length c) ∨ w.heap.size ≤ b from fun b hb => by
            rw [obl_len (m := (s ++ [(k : Int)]).length) (d := c5)] at hb
            rcases hfv5 b hb with h1 | h1
            · rcases hfvv b h1 with h2 | h2
              · exact HREL.out.2.2 b h2
              · exact .inr (by omega)
            · exact .inr (by omega))))))
          clear hN3 hsame3 hC3 hN5 hQ5 hC5 hfb5 hfv5 hN6 hsame6 hQ6 hQ3 hCr hfvv hown2 hg2 hf2 hown hR HREL c0 c1 c3
          go_wp2_with fail
          go_roundw
          case rel => exact ⟨k + 1, A5, c5, bl5, by omega, by go_num, HFIN.out⟩
          case measure => simp [intOf]; omega
        · have HH : Hid ((!hasI (k : Int) s) = false) := by show _ = _; rw [hh]; rfl
          have HSU : Hid (ordsTo n r s (k + 1) = ordsTo n r s k) := by show _ = _; rw [ordsTo_succ, hh]; simp
          clear hh hS hQ hC hfb hfv
          go_wp2_with (go_at_call 130; refine (hasNot_any _ _ _ _ _ _ hR).mono ?_; rintro e w' ⟨rfl, rfl⟩; rw [HH.out])
          go_roundw
          case rel => exact ⟨k + 1, A', c', bl', by omega, by go_num, HS.out, by rw [HSU.out]; exact HQ.out, HREL.out⟩
          case measure => simp [intOf]; omega
      · obtain rfl : k = n := by omega
        have hlt' : ¬ (k : Int) < (k : Int) := by omega
        have HFIN : Hid (NxE k fid caps Q g0 g1 g2 g3 w A c s bl (d ++ ords k (r + 1) s) (.returned (.tuple #[])) wr) := ⟨rfl, A', c', bl', hS, by rw [← HO.out]; exact hQ, hC, hfb, hfv⟩
        clear hS hQ hC hfb hfv
        go_wp2_with fail
        go_end0
        exact HFIN.out
end Go.Proofs.Ytbpdbimdefdefaa
namespace Go.Proofs.Ytbpdbimdefdefaa
open Go.RowKit

set_option maxRecDepth 20000 in
set_option maxHeartbeats 4000000 in
theorem eachOrder_any {N n fid : Nat} {caps : Array Value} {Q : World → List (List Int) → List Nat → Prop} (hF : FoundOk N n fid caps Q) (hn5 : n ≤ 5) (hN : (ords n n []).length ≤ N) (w : World) (bl : List Nat) (hQ : Q w [] bl) :
    Calls Try.prog 105 #[.int .i64 (n : Int), .func (.func fid) #[] caps] w (fun e w' => e = .returned (.tuple #[]) ∧ ∃ bl', Q w' (ords n n []) bl' ∧ ChgB bl w w' ∧ ∀ b ∈ bl', b ∈ bl ∨ w.heap.size ≤ b) := by
  have hlt := hF.lt hQ
  obtain ⟨w5, hw5⟩ : ∃ w5, w5 = ((((w.alloc (.cells #[.int .i64 (n : Int)] 3)).alloc (.cells #[.func (.func fid) #[] caps] 110)).alloc (.cells #[] 3)).alloc (.cells #[.slice (some ⟨w.heap.size + 1 + 1, 0, none⟩) 0 0] 75)).alloc (.cells #[.func (.func 144) #[] #[.pointer (some ⟨w.heap.size + 1 + 1 + 1, 0, none⟩), .pointer (some ⟨w.heap.size, 0, none⟩), .pointer (some ⟨w.heap.size + 1, 0, none⟩), .pointer (some ⟨w.heap.size + 1 + 1 + 1 + 1, 0, none⟩)]] 1) := ⟨_, rfl⟩
  have T5 : Below w.heap.size w w5 := by
    rw [hw5]
    exact (below_box4 w _ _ _ _).alloc (by simp; omega) _
  have hz5 : w5.heap.size = w.heap.size + 5 := by rw [hw5]; simp
  have B1 : Blk w5 w.heap.size 3 #[.int .i64 (n : Int)] := by
    rw [hw5]
    exact ((((Blk.new w 3 #[.int .i64 (n : Int)]).alloc _).alloc _).alloc _).alloc _
  have B2 : Blk w5 (w.heap.size + 1) 110 #[.func (.func fid) #[] caps] := by
    rw [hw5]
    have := (((Blk.new (w.alloc (.cells #[.int .i64 (n : Int)] 3)) 110 #[.func (.func fid) #[] caps]).alloc (.cells #[] 3)).alloc (.cells #[.slice (some ⟨w.heap.size + 1 + 1, 0, none⟩) 0 0] 75)).alloc (.cells #[.func (.func 144) #[] #[.pointer (some ⟨w.heap.size + 1 + 1 + 1, 0, none⟩), .pointer (some ⟨w.heap.size, 0, none⟩), .pointer (some ⟨w.heap.size + 1, 0, none⟩), .pointer (some ⟨w.heap.size + 1 + 1 + 1 + 1, 0, none⟩)]] 1)
    simpa using this
  have B0 : Blk w5 (w.heap.size + 1 + 1 + 1) 75 #[.slice (some ⟨w.heap.size + 1 + 1, 0, none⟩) 0 0] := by
    rw [hw5]
    have := (Blk.new (((w.alloc (.cells #[.int .i64 (n : Int)] 3)).alloc (.cells #[.func (.func fid) #[] caps] 110)).alloc (.cells #[] 3)) 75 #[.slice (some ⟨w.heap.size + 1 + 1, 0, none⟩) 0 0]).alloc (.cells #[.func (.func 144) #[] #[.pointer (some ⟨w.heap.size + 1 + 1 + 1, 0, none⟩), .pointer (some ⟨w.heap.size, 0, none⟩), .pointer (some ⟨w.heap.size + 1, 0, none⟩), .pointer (some ⟨w.heap.size + 1 + 1 + 1 + 1, 0, none⟩)]] 1)
    simpa using this
  have B3 : Blk w5 (w.heap.size + 1 + 1 + 1 + 1) 1 #[.func (.func 144) #[] #[.pointer (some ⟨w.heap.size + 1 + 1 + 1, 0, none⟩), .pointer (some ⟨w.heap.size, 0, none⟩), .pointer (some ⟨w.heap.size + 1, 0, none⟩), .pointer (some ⟨w.heap.size + 1 + 1 + 1 + 1, 0, none⟩)]] := by
    rw [hw5]
    have := Blk.new ((((w.alloc (.cells #[.int .i64 (n : Int)] 3)).alloc (.cells #[.func (.func fid) #[] caps] 110)).alloc (.cells #[] 3)).alloc (.cells #[.slice (some ⟨w.heap.size + 1 + 1, 0, none⟩) 0 0] 75)) 1 #[.func (.func 144) #[] #[.pointer (some ⟨w.heap.size + 1 + 1 + 1, 0, none⟩), .pointer (some ⟨w.heap.size, 0, none⟩), .pointer (some ⟨w.heap.size + 1, 0, none⟩), .pointer (some ⟨w.heap.size + 1 + 1 + 1 + 1, 0, none⟩)]]
    simpa using this
  have own : w5.ownsRow 0 3 1 (.slice (some ⟨w.heap.size + 1 + 1, 0, none⟩) 0 0) 0 (ints []) := by
    rw [hw5]
    have := ((World.ownsRow_lit (e := 3) (size := 1) ((w.alloc (.cells #[.int .i64 (n : Int)] 3)).alloc (.cells #[.func (.func fid) #[] caps] 110)) #[] 0 (Nat.zero_le _) (Nat.zero_le _) rfl).alloc (.cells #[.slice (some ⟨w.heap.size + 1 + 1, 0, none⟩) 0 0] 75)).alloc (.cells #[.func (.func 144) #[] #[.pointer (some ⟨w.heap.size + 1 + 1 + 1, 0, none⟩), .pointer (some ⟨w.heap.size, 0, none⟩), .pointer (some ⟨w.heap.size + 1, 0, none⟩), .pointer (some ⟨w.heap.size + 1 + 1 + 1 + 1, 0, none⟩)]] 1)
    rw [World.size_alloc, World.size_alloc] at this
    exact this
  have hX : NxS n fid caps (w.heap.size + 1 + 1 + 1) w.heap.size (w.heap.size + 1) (w.heap.size + 1 + 1 + 1 + 1) w5 (some ⟨w.heap.size + 1 + 1, 0, none⟩) 0 [] bl :=
    ⟨B0, B1, B2, B3, own, fun b hb hh => by
      have h1 := hlt b hh
      have h2 : b ∈ [w.heap.size + 1 + 1] := hb
      simp at h2
      omega, ⟨fun hh => by have := hlt _ hh; omega, fun hh => by have := hlt _ hh; omega, fun hh => by have := hlt _ hh; omega, fun hh => by have := hlt _ hh; omega⟩, fun hh => by
      have h2 : w.heap.size ∈ [w.heap.size + 1 + 1] := hh
      simp at h2
      omega⟩
  have hQ5 : Q w5 [] bl := hF.stab hQ T5.size fun b hb => T5.block b (hlt b hb)
  have HC := Lib.hid (next_any hF hn5 _ _ _ _ n _ 0 [] bl [] w5 hX hQ5 (by simp) (fun v hv => by cases hv) List.nodup_nil (by simpa using hN))
  have HT := Lib.hid (And.intro T5 (And.intro hz5 hlt))
  have c3 := B3.c0
  have HW5 := Lib.hid hw5
  rw [hw5] at c3
  have BZ := Blk.new ((((w.alloc (.cells #[.int .i64 (n : Int)] 3)).alloc (.cells #[.func (.func fid) #[] caps] 110)).alloc (.cells #[] 3)).alloc (.cells #[.slice (some ⟨w.heap.size + 1 + 1, 0, none⟩) 0 0] 75)) 1 #[.nilFunc]
  have cZ := BZ.c0
  have fZ := BZ.frozen 0
  simp at cZ fZ
  have hst : ∀ (a : Addr) (fn : Fn) (fs cs : Array Value) (w : World) (m : Mode), Sem.run Try.prog (store a (.func fn fs cs) m) w = stored Try.prog w a (.func fn fs cs) m := fun a fn fs cs w m => run_store Try.prog w a _ m rfl
  clear hw5 T5 hz5 B0 B1 B2 B3 own hX hQ5 hQ hlt
  go_enter Try.func105, Try.ntmps105
  go_wp2_with fail
  rw [← HW5.out]
  refine HC.out.mono ?_
  rintro e w' ⟨rfl, A', c', bl', -, hQ', hC', hfb, -⟩
  obtain ⟨T5, hz5, hlt⟩ := HT.out
  have HQ' := Lib.hid hQ'
  have hfin : ChgB bl w w' := by
    refine ⟨hC'.os.trans T5.os, hC'.tape.trans T5.tape, hC'.output.trans T5.output, by have := hC'.size; omega, fun b hb hn => (hC'.block b (by omega) fun hh => ?_).trans (T5.block b hb)⟩
    rw [List.mem_append, List.mem_cons] at hh
    rcases hh with h1 | h1 | h1
    · exact hn h1
    · omega
    · have h2 : b ∈ [w.heap.size + 1 + 1] := h1
      simp at h2
      omega
  have HFIN := Lib.hid hfin
  have HFB : Hid (∀ b ∈ bl', b ∈ bl ∨ w.heap.size ≤ b) := fun b hb => by
    rcases hfb b hb with h1 | h1
    · exact .inl h1
    · exact .inr (by omega)
  clear hQ' hC' hfb hfin T5 hz5 hlt
  go_wp2_with fail
  go_end0
  exact ⟨rfl, bl', by have := HQ'.out; simpa using this, HFIN.out, HFB.out⟩
end Go.Proofs.Ytbpdbimdefdefaa
