
/- Walks: eachOrder. -/
import Derived.Test.YtppnmpeicmlneaaEach2
namespace Go.Proofs.Ytppnmpeicmlneaa
open Go.RowKit

set_option maxRecDepth 20000 in
set_option maxHeartbeats 4000000 in
theorem eachOrder_any {N n fid : Nat} {caps : Array Value} {Q : World → List (List Int) → List Nat → Prop} (hF : FoundOk N n fid caps Q) (hn5 : n ≤ 5) (hN : (ords n n []).length ≤ N) (w : World) (bl : List Nat) (hQ : Q w [] bl) :
    Calls Try.prog 118 #[.int .i64 (n : Int), .func (.func fid) #[] caps] w (fun e w' => e = .returned (.tuple #[]) ∧ ∃ bl', Q w' (ords n n []) bl' ∧ ChgB bl w w' ∧ ∀ b ∈ bl', b ∈ bl ∨ w.heap.size ≤ b) := by
  have hlt := hF.lt hQ
  obtain ⟨w5, hw5⟩ : ∃ w5, w5 = ((((w.alloc (.cells #[.int .i64 (n : Int)] 3)).alloc (.cells #[.func (.func fid) #[] caps] 134)).alloc (.cells #[] 3)).alloc (.cells #[.slice (some ⟨w.heap.size + 1 + 1, 0, none⟩) 0 0] 22)).alloc (.cells #[.func (.func 134) #[] #[.pointer (some ⟨w.heap.size + 1 + 1 + 1, 0, none⟩), .pointer (some ⟨w.heap.size, 0, none⟩), .pointer (some ⟨w.heap.size + 1, 0, none⟩), .pointer (some ⟨w.heap.size + 1 + 1 + 1 + 1, 0, none⟩)]] 1) := ⟨_, rfl⟩
  have T5 : Below w.heap.size w w5 := by
    rw [hw5]
    exact (below_box4 w _ _ _ _).alloc (by simp; omega) _
  have hz5 : w5.heap.size = w.heap.size + 5 := by rw [hw5]; simp
  have B1 : Blk w5 w.heap.size 3 #[.int .i64 (n : Int)] := by
    rw [hw5]
    exact ((((Blk.new w 3 #[.int .i64 (n : Int)]).alloc _).alloc _).alloc _).alloc _
  have B2 : Blk w5 (w.heap.size + 1) 134 #[.func (.func fid) #[] caps] := by
    rw [hw5]
    have := (((Blk.new (w.alloc (.cells #[.int .i64 (n : Int)] 3)) 134 #[.func (.func fid) #[] caps]).alloc (.cells #[] 3)).alloc (.cells #[.slice (some ⟨w.heap.size + 1 + 1, 0, none⟩) 0 0] 22)).alloc (.cells #[.func (.func 134) #[] #[.pointer (some ⟨w.heap.size + 1 + 1 + 1, 0, none⟩), .pointer (some ⟨w.heap.size, 0, none⟩), .pointer (some ⟨w.heap.size + 1, 0, none⟩), .pointer (some ⟨w.heap.size + 1 + 1 + 1 + 1, 0, none⟩)]] 1)
    simpa using this
  have B0 : Blk w5 (w.heap.size + 1 + 1 + 1) 22 #[.slice (some ⟨w.heap.size + 1 + 1, 0, none⟩) 0 0] := by
    rw [hw5]
    have := (Blk.new (((w.alloc (.cells #[.int .i64 (n : Int)] 3)).alloc (.cells #[.func (.func fid) #[] caps] 134)).alloc (.cells #[] 3)) 22 #[.slice (some ⟨w.heap.size + 1 + 1, 0, none⟩) 0 0]).alloc (.cells #[.func (.func 134) #[] #[.pointer (some ⟨w.heap.size + 1 + 1 + 1, 0, none⟩), .pointer (some ⟨w.heap.size, 0, none⟩), .pointer (some ⟨w.heap.size + 1, 0, none⟩), .pointer (some ⟨w.heap.size + 1 + 1 + 1 + 1, 0, none⟩)]] 1)
    simpa using this
  have B3 : Blk w5 (w.heap.size + 1 + 1 + 1 + 1) 1 #[.func (.func 134) #[] #[.pointer (some ⟨w.heap.size + 1 + 1 + 1, 0, none⟩), .pointer (some ⟨w.heap.size, 0, none⟩), .pointer (some ⟨w.heap.size + 1, 0, none⟩), .pointer (some ⟨w.heap.size + 1 + 1 + 1 + 1, 0, none⟩)]] := by
    rw [hw5]
    have := Blk.new ((((w.alloc (.cells #[.int .i64 (n : Int)] 3)).alloc (.cells #[.func (.func fid) #[] caps] 134)).alloc (.cells #[] 3)).alloc (.cells #[.slice (some ⟨w.heap.size + 1 + 1, 0, none⟩) 0 0] 22)) 1 #[.func (.func 134) #[] #[.pointer (some ⟨w.heap.size + 1 + 1 + 1, 0, none⟩), .pointer (some ⟨w.heap.size, 0, none⟩), .pointer (some ⟨w.heap.size + 1, 0, none⟩), .pointer (some ⟨w.heap.size + 1 + 1 + 1 + 1, 0, none⟩)]]
    simpa using this
  have own : w5.ownsRow 0 3 1 (.slice (some ⟨w.heap.size + 1 + 1, 0, none⟩) 0 0) 0 (ints []) := by
    rw [hw5]
    have := ((World.ownsRow_lit (e := 3) (size := 1) ((w.alloc (.cells #[.int .i64 (n : Int)] 3)).alloc (.cells #[.func (.func fid) #[] caps] 134)) #[] 0 (Nat.zero_le _) (Nat.zero_le _) rfl).alloc (.cells #[.slice (some ⟨w.heap.size + 1 + 1, 0, none⟩) 0 0] 22)).alloc (.cells #[.func (.func 134) #[] #[.pointer (some ⟨w.heap.size + 1 + 1 + 1, 0, none⟩), .pointer (some ⟨w.heap.size, 0, none⟩), .pointer (some ⟨w.heap.size + 1, 0, none⟩), .pointer (some ⟨w.heap.size + 1 + 1 + 1 + 1, 0, none⟩)]] 1)
    rw [World.size_alloc, World.size_alloc] at this
    exact this
  have hX : NxS n fid caps (w.heap.size + 1 + 1 + 1) w.heap.size (w.heap.size + 1) (w.heap.size + 1 + 1 + 1 + 1) w5 (some ⟨w.heap.size + 1 + 1, 0, none⟩) 0 [] bl :=
    ⟨B0, B1, B2, B3, own, fun b hb hh => by
      have h1 := hlt b hh
      have h2 : b ∈ [w.heap.size + 1 + 1] := hb
      simp at h2
      omega, ⟨fun hh => by have := hlt _ hh; omega, fun hh => by have := hlt _ hh; omega, fun hh => by have := hlt _ hh; omega, fun hh => by have := hlt _ hh; omega⟩, fun hh => by
      have h2 : w.heap.size ∈ [w.heap.size + 1 + 1] := hh
      simp at h2
      omega⟩
  have hQ5 : Q w5 [] bl := hF.stab hQ T5.size fun b hb => T5.block b (hlt b hb)
  have HC := Lib.hid (next_any hF hn5 _ _ _ _ n _ 0 [] bl [] w5 hX hQ5 (by simp) (fun v hv => by cases hv) List.nodup_nil (by simpa using hN))
  have HT := Lib.hid (And.intro T5 (And.intro hz5 hlt))
  have c3 := B3.c0
  have HW5 := Lib.hid hw5
  rw [hw5] at c3
  have BZ := Blk.new ((((w.alloc (.cells #[.int .i64 (n : Int)] 3)).alloc (.cells #[.func (.func fid) #[] caps] 134)).alloc (.cells #[] 3)).alloc (.cells #[.slice (some ⟨w.heap.size + 1 + 1, 0, none⟩) 0 0] 22)) 1 #[.nilFunc]
  have cZ := BZ.c0
  have fZ := BZ.frozen 0
  simp at cZ fZ
  have hst : ∀ (a : Addr) (fn : Fn) (fs cs : Array Value) (w : World) (m : Mode), Sem.run Try.prog (store a (.func fn fs cs) m) w = stored Try.prog w a (.func fn fs cs) m := fun a fn fs cs w m => run_store Try.prog w a _ m rfl
  clear hw5 T5 hz5 B0 B1 B2 B3 own hX hQ5 hQ hlt
  go_enter Try.func118, Try.ntmps118
  go_wp2_with fail
  rw [← HW5.out]
  refine HC.out.mono ?_
  rintro e w' ⟨rfl, A', c', bl', -, hQ', hC', hfb, -⟩
  obtain ⟨T5, hz5, hlt⟩ := HT.out
  have HQ' := Lib.hid hQ'
  have hfin : ChgB bl w w' := by
    refine ⟨hC'.os.trans T5.os, hC'.tape.trans T5.tape, hC'.output.trans T5.output, by have := hC'.size; omega, fun b hb hn => (hC'.block b (by omega) fun hh => ?_).trans (T5.block b hb)⟩
    rw [List.mem_append, List.mem_cons] at hh
    rcases hh with h1 | h1 | h1
    · exact hn h1
    · omega
    · have h2 : b ∈ [w.heap.size + 1 + 1] := h1
      simp at h2
      omega
  have HFIN := Lib.hid hfin
  have HFB : Hid (∀ b ∈ bl', b ∈ bl ∨ w.heap.size ≤ b) := fun b hb => by
    rcases hfb b hb with h1 | h1
    · exact .inl h1
    · exact .inr (by omega)
  clear hQ' hC' hfb hfin T5 hz5 hlt
  go_wp2_with fail
  go_end0
  exact ⟨rfl, bl', by have := HQ'.out; simpa using this, HFIN.out, HFB.out⟩
end Go.Proofs.Ytppnmpeicmlneaa
