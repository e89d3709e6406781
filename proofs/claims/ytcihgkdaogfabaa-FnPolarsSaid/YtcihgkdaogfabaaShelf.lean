/-
  DERIVED: THE SHELF's CONTRACTS AT THIS DUMP, IN PLAIN WORDS (tools/lay-plain.mjs out of 'TryShelf.lean', which tools/lay-shelf.mjs wrote): THE SAME DECLARATIONS UNDER THE SAME NAMES: 'import', 'namespace', 'open', 'def', 'theorem' AND NOTHING ELSE: no command of the shelf's: FOR A HAND-IN. Each laying: the table of numbers ('.._ren') and one theorem, a field a fact of the dump's own or the kernel's comparison; each contract: ONE APPLICATION.
-/
import Derived.Ground.GgsProg
import Derived.Shelf.GgSortFunc.Insertion
import Derived.Shelf.GgSortFunc.Tiny
import Derived.Shelf.GgSortFunc.Compose
import Derived.Ground.GgtProg
import Derived.Shelf.GgSortMore.Stable
import Derived.Test.YtcihgkdaogfabaaProg
namespace Go.Proofs
open Go.Shelf
def Try.laysGg26_ren : Go.Shelf.Ren := ⟨fun | 26 => 134 | n => n, fun | 44 => 128 | 3 => 3 | 0 => 0 | 4 => 4 | 26 => 65 | 37 => 124 | n => n, fun | n => n⟩
theorem Try.laysGg26 : Go.Proofs.LaysGg.n26 Try.prog Try.laysGg26_ren := {
  mixed := by kernel_rfl
  f26 := Try.func134.trans (congrArg some (by kernel_rfl))
  t0 := Try.underlying0
  a0 := Try.isAgg0
  z0 := Try.sizeOf0
  v0 := Try.zeroValue0
  i0 := by kernel_rfl
  t3 := Try.underlying3
  a3 := Try.isAgg3
  z3 := Try.sizeOf3
  v3 := Try.zeroValue3
  i3 := by kernel_rfl
  t4 := Try.underlying4
  a4 := Try.isAgg4
  z4 := Try.sizeOf4
  v4 := Try.zeroValue4
  i4 := by kernel_rfl
  t26 := Try.underlying65
  a26 := Try.isAgg65
  z26 := Try.sizeOf65
  v26 := Try.zeroValue65
  i26 := by kernel_rfl
  t37 := Try.underlying124
  a37 := Try.isAgg124
  z37 := Try.sizeOf124
  v37 := Try.zeroValue124
  i37 := by kernel_rfl
  t44 := Try.underlying128
  a44 := Try.isAgg128
  z44 := Try.sizeOf128
  v44 := Try.zeroValue128
  i44 := by kernel_rfl }
open Go.RowKit Go.Lib Go.Sort in
theorem Try.insertionSort_func_one {α : Type} [Inhabited α] (enc : α → Value) (lt : α → α → Bool) (g : Nat) (lb : Array Value) (sf : Nat) (sb : Array Value) (blk off a b : Nat) (d : Array α) (w : World) (eg : ∀ args w, (callFunc g args).run Try.prog w = .ok (.enter g args) w) (hless : LessReads Try.prog g lb enc lt blk off d.size w) (hswap : SwapSwaps Try.prog sf sb enc blk off d.size) (hH : Holds enc w blk off d) (hblk : blk < w.heap.size) (hab : a ≤ b) (hb : b ≤ d.size) (hsz : d.size < 4611686018427387904) :
    Calls Try.prog 134 #[.agg #[.func (.func g) #[] lb, .func (.func sf) #[] sb], .int .i64 a, .int .i64 b] w fun e w' =>
      e = .returned (.tuple #[]) ∧ ∃ n, w' = putRow enc (Sort.ahead (w.alloc (.cells #[.func (.func g) #[] lb, .func (.func sf) #[] sb] 128)) n) blk off (Sort.insertionSort lt d a b) := Any.insertionSort_func_one Try.laysGg26 enc lt g lb sf sb blk off a b d w eg hless hswap hH hblk hab hb hsz
open Go.RowKit Go.Lib Go.Sort in
theorem Try.insertionSort_func_none (lf : Fn) (la lb : Array Value) (f : Nat) (sb : Array Value) (a b : Nat) (h : b ≤ a + 1) (ha : a < 4611686018427387904) (w : World) :
    Calls Try.prog 134 #[.agg #[.func lf la lb, .func (.func f) #[] sb], .int .i64 a, .int .i64 b] w fun e w' => e = .returned (.tuple #[]) ∧ w' = w.alloc (.cells #[.func lf la lb, .func (.func f) #[] sb] 128) := Any.insertionSort_func_none Try.laysGg26 lf la lb f sb a b h ha w
open Go.RowKit Go.Lib Go.Sort in
/-- sort.insertionSort_func, from a world to a 'sortWorld' of it. (LAID: no walk: one application.) -/
theorem Try.insertionSort_func_w {α : Type} [Inhabited α] (enc : α → Value) (lt : α → α → Bool) (g : Nat) (lb : Array Value) (sf : Nat) (sb : Array Value) (blk off a b : Nat) (d : Array α) (w : World) (eg : ∀ args w, (callFunc g args).run Try.prog w = .ok (.enter g args) w) (hless : LessReads Try.prog g lb enc lt blk off d.size w) (hswap : SwapSwaps Try.prog sf sb enc blk off d.size) (hH : Holds enc w blk off d) (hblk : blk < w.heap.size) (hab : a ≤ b) (hb : b ≤ d.size) (hsz : d.size < 4611686018427387904) :
    Calls Try.prog 134 #[.agg #[.func (.func g) #[] lb, .func (.func sf) #[] sb], .int .i64 a, .int .i64 b] w fun e w' => e = .returned (.tuple #[]) ∧ ∃ n os, w' = sortWorld enc w blk off n (Sort.insertionSort lt d a b) os := Any.insertionSort_func_w Try.laysGg26 enc lt g lb sf sb blk off a b d w eg hless hswap hH hblk hab hb hsz
def Try.laysGt15_ren : Go.Shelf.Ren := ⟨fun | 15 => 123 | 29 => 134 | 30 => 135 | 42 => 136 | 49 => 137 | n => n, fun | 42 => 128 | 3 => 3 | 0 => 0 | 4 => 4 | 26 => 65 | 38 => 124 | 47 => 118 | n => n, fun | n => n⟩
theorem Try.laysGt15 : Go.Proofs.LaysGt.n15 Try.prog Try.laysGt15_ren := {
  mixed := by kernel_rfl
  f15 := Try.func123.trans (congrArg some (by kernel_rfl))
  f29 := Try.func134.trans (congrArg some (by kernel_rfl))
  f30 := Try.func135.trans (congrArg some (by kernel_rfl))
  f42 := Try.func136.trans (congrArg some (by kernel_rfl))
  f49 := Try.func137.trans (congrArg some (by kernel_rfl))
  t0 := Try.underlying0
  a0 := Try.isAgg0
  z0 := Try.sizeOf0
  v0 := Try.zeroValue0
  i0 := by kernel_rfl
  t3 := Try.underlying3
  a3 := Try.isAgg3
  z3 := Try.sizeOf3
  v3 := Try.zeroValue3
  i3 := by kernel_rfl
  t4 := Try.underlying4
  a4 := Try.isAgg4
  z4 := Try.sizeOf4
  v4 := Try.zeroValue4
  i4 := by kernel_rfl
  t26 := Try.underlying65
  a26 := Try.isAgg65
  z26 := Try.sizeOf65
  v26 := Try.zeroValue65
  i26 := by kernel_rfl
  t38 := Try.underlying124
  a38 := Try.isAgg124
  z38 := Try.sizeOf124
  v38 := Try.zeroValue124
  i38 := by kernel_rfl
  t42 := Try.underlying128
  a42 := Try.isAgg128
  z42 := Try.sizeOf128
  v42 := Try.zeroValue128
  i42 := by kernel_rfl
  t47 := Try.underlying118
  a47 := Try.isAgg118
  z47 := Try.sizeOf118
  v47 := Try.zeroValue118
  i47 := by kernel_rfl }
open Go.RowKit Go.Lib Go.Sort in
theorem Try.stable_func_under20 {α : Type} [Inhabited α] (enc : α → Value) (lt : α → α → Bool) (g : Nat) (lb : Array Value) (sf : Nat) (sb : Array Value) (blk off : Nat) (d : Array α) (W : World) (eg : ∀ args w, (callFunc g args).run Try.prog w = .ok (.enter g args) w) (hless : LessReads Try.prog g lb enc lt blk off d.size W) (hswap : SwapSwaps Try.prog sf sb enc blk off d.size) (hH : Holds enc W blk off d) (hblk : blk < W.heap.size) (h20 : d.size < 20) :
    Calls Try.prog 123 #[.agg #[.func (.func g) #[] lb, .func (.func sf) #[] sb], .int .i64 d.size] W fun e w' => e = .returned (.tuple #[]) ∧ ∃ n os, w' = sortWorld enc W blk off n (Sort.insertionSort lt d 0 d.size) os := Any.stable_func_under20 Try.laysGt15 enc lt g lb sf sb blk off d W eg hless hswap hH hblk h20
open Go.RowKit Go.Lib Go.Sort in
theorem Try.stable_func_at20 {α : Type} [Inhabited α] (enc : α → Value) (lt : α → α → Bool) (g : Nat) (lb : Array Value) (sf : Nat) (sb : Array Value) (blk off : Nat) (d : Array α) (W : World) (eg : ∀ args w, (callFunc g args).run Try.prog w = .ok (.enter g args) w) (hless : LessReads Try.prog g lb enc lt blk off d.size W) (hswap : SwapSwaps Try.prog sf sb enc blk off d.size) (hH : Holds enc W blk off d) (hblk : blk < W.heap.size) (h20 : d.size = 20) :
    Calls Try.prog 123 #[.agg #[.func (.func g) #[] lb, .func (.func sf) #[] sb], .int .i64 d.size] W fun e w' => e = .returned (.tuple #[]) ∧ ∃ n os, w' = sortWorld enc W blk off n (Sort.insertionSort lt d 0 d.size) os := Any.stable_func_at20 Try.laysGt15 enc lt g lb sf sb blk off d W eg hless hswap hH hblk h20
open Go.RowKit Go.Lib Go.Sort in
/-- **sort.stable_func AT ONE BLOCK (20 elements or fewer): IT IS THE INSERTION SORT: THE STABLE ORDER.** (LAID: no walk: one application.) -/
theorem Try.stable_func_small {α : Type} [Inhabited α] (enc : α → Value) (lt : α → α → Bool) (g : Nat) (lb : Array Value) (sf : Nat) (sb : Array Value) (blk off : Nat) (d : Array α) (W : World) (eg : ∀ args w, (callFunc g args).run Try.prog w = .ok (.enter g args) w) (hless : LessReads Try.prog g lb enc lt blk off d.size W) (hswap : SwapSwaps Try.prog sf sb enc blk off d.size) (hH : Holds enc W blk off d) (hblk : blk < W.heap.size) (h20 : d.size ≤ 20) :
    Calls Try.prog 123 #[.agg #[.func (.func g) #[] lb, .func (.func sf) #[] sb], .int .i64 d.size] W fun e w' => e = .returned (.tuple #[]) ∧ ∃ n os, w' = sortWorld enc W blk off n (Sort.insertionSort lt d 0 d.size) os := Any.stable_func_small Try.laysGt15 enc lt g lb sf sb blk off d W eg hless hswap hH hblk h20
open Go.RowKit Go.Lib Go.Sort in
/-- sort.stable_func at no element or one: nothing is asked of 'less' or of 'swap'. (LAID: no walk: one application.) -/
theorem Try.stable_func_tiny {α : Type} [Inhabited α] (lf : Fn) (la lb : Array Value) (f : Nat) (sb : Array Value) (n : Nat) (hn : n ≤ 1) (W : World) :
    Calls Try.prog 123 #[.agg #[.func lf la lb, .func (.func f) #[] sb], .int .i64 n] W fun e w' => e = .returned (.tuple #[]) ∧ ∃ os, w' = grow W os := Any.stable_func_tiny Try.laysGt15 lf la lb f sb n hn W
def Try.laysGt8_ren : Go.Shelf.Ren := ⟨fun | 8 => 112 | 13 => 121 | 14 => 122 | 16 => 124 | 15 => 123 | 29 => 134 | 30 => 135 | 42 => 136 | 49 => 137 | n => n, fun | 20 => 20 | 26 => 65 | 36 => 122 | 0 => 0 | 38 => 124 | 42 => 128 | 3 => 3 | 4 => 4 | 47 => 118 | 17 => 17 | 33 => 119 | 34 => 120 | 89 => 148 | 12 => 12 | 56 => 140 | 82 => 141 | 5 => 5 | 83 => 142 | 84 => 143 | 85 => 144 | 86 => 145 | 87 => 146 | n => n, fun | n => n⟩
theorem Try.laysGt8 : Go.Proofs.LaysGt.n8 Try.prog Try.laysGt8_ren := {
  mixed := by kernel_rfl
  f8 := Try.func112.trans (congrArg some (by kernel_rfl))
  f13 := Try.func121.trans (congrArg some (by kernel_rfl))
  f14 := Try.func122.trans (congrArg some (by kernel_rfl))
  f15 := Try.func123.trans (congrArg some (by kernel_rfl))
  f16 := Try.func124.trans (congrArg some (by kernel_rfl))
  f29 := Try.func134.trans (congrArg some (by kernel_rfl))
  f30 := Try.func135.trans (congrArg some (by kernel_rfl))
  f42 := Try.func136.trans (congrArg some (by kernel_rfl))
  f49 := Try.func137.trans (congrArg some (by kernel_rfl))
  t0 := Try.underlying0
  a0 := Try.isAgg0
  z0 := Try.sizeOf0
  v0 := Try.zeroValue0
  i0 := by kernel_rfl
  t3 := Try.underlying3
  a3 := Try.isAgg3
  z3 := Try.sizeOf3
  v3 := Try.zeroValue3
  i3 := by kernel_rfl
  t4 := Try.underlying4
  a4 := Try.isAgg4
  z4 := Try.sizeOf4
  v4 := Try.zeroValue4
  i4 := by kernel_rfl
  t5 := Try.underlying5
  a5 := Try.isAgg5
  z5 := Try.sizeOf5
  v5 := Try.zeroValue5
  i5 := by kernel_rfl
  t12 := Try.underlying12
  a12 := Try.isAgg12
  z12 := Try.sizeOf12
  v12 := Try.zeroValue12
  i12 := by kernel_rfl
  t17 := Try.underlying17
  a17 := Try.isAgg17
  z17 := Try.sizeOf17
  v17 := Try.zeroValue17
  i17 := by kernel_rfl
  t20 := Try.underlying20
  a20 := Try.isAgg20
  z20 := Try.sizeOf20
  v20 := Try.zeroValue20
  i20 := by kernel_rfl
  t26 := Try.underlying65
  a26 := Try.isAgg65
  z26 := Try.sizeOf65
  v26 := Try.zeroValue65
  i26 := by kernel_rfl
  t33 := Try.underlying119
  a33 := Try.isAgg119
  z33 := Try.sizeOf119
  v33 := Try.zeroValue119
  i33 := by kernel_rfl
  t34 := Try.underlying120
  a34 := Try.isAgg120
  z34 := Try.sizeOf120
  v34 := Try.zeroValue120
  i34 := by kernel_rfl
  t36 := Try.underlying122
  a36 := Try.isAgg122
  z36 := Try.sizeOf122
  v36 := Try.zeroValue122
  i36 := by kernel_rfl
  t38 := Try.underlying124
  a38 := Try.isAgg124
  z38 := Try.sizeOf124
  v38 := Try.zeroValue124
  i38 := by kernel_rfl
  t42 := Try.underlying128
  a42 := Try.isAgg128
  z42 := Try.sizeOf128
  v42 := Try.zeroValue128
  i42 := by kernel_rfl
  t47 := Try.underlying118
  a47 := Try.isAgg118
  z47 := Try.sizeOf118
  v47 := Try.zeroValue118
  i47 := by kernel_rfl
  t56 := Try.underlying140
  a56 := Try.isAgg140
  z56 := Try.sizeOf140
  v56 := Try.zeroValue140
  i56 := by kernel_rfl
  t82 := Try.underlying141
  a82 := Try.isAgg141
  z82 := Try.sizeOf141
  v82 := Try.zeroValue141
  i82 := by kernel_rfl
  t83 := Try.underlying142
  a83 := Try.isAgg142
  z83 := Try.sizeOf142
  v83 := Try.zeroValue142
  i83 := by kernel_rfl
  t84 := Try.underlying143
  a84 := Try.isAgg143
  z84 := Try.sizeOf143
  v84 := Try.zeroValue143
  i84 := by kernel_rfl
  t85 := Try.underlying144
  a85 := Try.isAgg144
  z85 := Try.sizeOf144
  v85 := Try.zeroValue144
  i85 := by kernel_rfl
  t86 := Try.underlying145
  a86 := Try.isAgg145
  z86 := Try.sizeOf145
  v86 := Try.zeroValue145
  i86 := by kernel_rfl
  t87 := Try.underlying146
  a87 := Try.isAgg146
  z87 := Try.sizeOf146
  v87 := Try.zeroValue146
  i87 := by kernel_rfl
  t89 := Try.underlying148
  a89 := Try.isAgg148
  z89 := Try.sizeOf148
  v89 := Try.zeroValue148
  i89 := by kernel_rfl }
end Go.Proofs
