
/- Walks: sortRows of the program, with the order compareTerms: the rows in order, at any number of them. -/
import Derived.Test.YtlncpabnlnipoaaGreatStab3
import Derived.Test.YtlncpabnlnipoaaGreatShelf
import Derived.Test.YtlncpabnlnipoaaGreatSys2

import Derived.Sort.OwnSorted
import Derived.BigQuiet
import Derived.Deep.RegionHeld3
namespace Go.Proofs.YtlncpabnlnipoaaGreat
open Go.Shelf Go.RowKit Go.Lib Go.Sort

section
variable {α : Type} [Inhabited α] {enc : α → Value}
theorem heap_sortedG {w : World} {g n : Nat} {os : Array Obj} {cur : Array Value} {e : TypeId} {fr : Nat × Nat} (d : Array α) (hb : w.heap[g]? = some (.cells cur e fr)) :
    (grow (putRow enc (Sort.ahead w n) g 0 d) os).heap[g]? = some (.cells (putCells enc 0 d cur) e fr) := by
  have hg : g < w.heap.size := (Array.getElem?_eq_some_iff.1 hb).1
  rw [heap_grow_old _ _ (by simpa using hg)]
  simp [putRow, mapBlock, Sort.ahead, Array.getElem?_modify, hb, onCells]
theorem grownBy_sortedG {w : World} {g n : Nat} {os : Array Obj} (d : Array α) : w.grownBy (grow (putRow enc (Sort.ahead w n) g 0 d) os) (some g) := by
  refine ⟨rfl, rfl, rfl, by simp, fun k hk hne => ?_⟩
  rw [heap_grow_old _ _ (by simpa using hk)]
  have : g ≠ k := fun e => hne (by rw [e])
  simp [putRow, mapBlock, Sort.ahead, Array.getElem?_modify, this]
theorem take_putCellsG (cur : Array Value) (d : Array α) (h : d.size ≤ cur.size) : (putCells enc 0 d cur).toList.take d.size = d.toList.map enc := by
  apply List.ext_getElem?
  intro j
  by_cases hj : j < d.size
  · rw [List.getElem?_take_of_lt hj, Array.getElem?_toList]
    simp [putCells, hj, show j < cur.size by omega]
  · rw [List.getElem?_take_eq_none (by omega), List.getElem?_eq_none (by simp; omega)]
theorem ownsRow_sortedG {w : World} {base g cap n : Nat} {e : TypeId} {os : Array Obj} {vs : List Value} {d : Array α} (h : w.ownsRow base e 1 (.slice (some ⟨g, 0, none⟩) vs.length cap) vs.length vs) (hl : d.size = vs.length) :
    (grow (putRow enc (Sort.ahead w n) g 0 d) os).ownsRow base e 1 (.slice (some ⟨g, 0, none⟩) vs.length cap) vs.length (d.toList.map enc) := by
  rcases h.2 with ⟨h0, h1⟩ | ⟨g', cap', cur, hv, hbase, hb, h1, h2, h3, h4⟩
  · cases h0
  · injection hv with hA _ hc
    injection hA with hA
    injection hA with hA
    subst hA
    subst hc
    exact ⟨by simp [hl], .inr ⟨g, cap, _, rfl, hbase, heap_sortedG d hb, h1, h2, by simp [putCells, h3], by rw [Nat.mul_one, ← hl]; exact take_putCellsG cur d (by omega)⟩⟩
end

/-! ## The order -/
theorem lessT_swo {α : Type} (f : α → List Int) : SWO (fun x y : α => lessT (f x) (f y)) where
  irrefl x := by
    cases h : lessT (f x) (f x) with
    | false => rfl
    | true => exact absurd h (lessT_irr _)
  trans x y z h1 h2 := lessT_trans _ _ _ h1 h2
  ntrans x y z h1 h2 := by
    cases h : lessT (f x) (f z) with
    | false => rfl
    | true =>
      rcases lessT_total (f x) (f y) with e | e | e
      · rw [← e, h] at h2; cases h2
      · rw [e] at h1; cases h1
      · rw [lessT_trans _ _ _ e h] at h2; cases h2
theorem less_cmp (p q : List Int) : decide (cmpT p q < 0) = lessT p q := by
  rw [Bool.eq_iff_iff, decide_eq_true_iff]
  exact cmpT_lt

/-! ## The closure -/
theorem rd_frame {w W : World} {B : Option Addr} {n blk : Nat} {xs : List Int} (h : RdL RI w B n xs) (hne : ∀ b o, B = some ⟨b, o, none⟩ → b ≠ blk) (hf : ∀ b k u, b ≠ blk → w.cell? ⟨b, k, none⟩ = some u → W.cell? ⟨b, k, none⟩ = some u) : RdL RI W B n xs := by
  refine ⟨h.1, h.2.1, fun k x hx => ?_⟩
  obtain ⟨b, o, v, hA, hc, hr⟩ := h.2.2 k x hx
  exact ⟨b, o, v, hA, hf b _ v (hne b o hA) hc, hr⟩
set_option maxRecDepth 100000 in
theorem cmpEnter (args : Array Value) (w : World) : (callFunc 53 args).run Tryz.prog w = .ok (.enter 53 args) w := rfl
set_option maxRecDepth 100000 in
theorem lessEnter (args : Array Value) (w : World) : (callFunc 72 args).run Tryz.prog w = .ok (.enter 72 args) w := rfl
set_option maxRecDepth 100000 in
set_option maxHeartbeats 4000000 in
theorem less_rows (g c q Bo Br : Nat) (W : World) (i j : Nat) (hi : i < q) (hj : j < q) (_hq : q ≤ 1099511627776) (B1 B2 : Option Addr) (n1 c1 n2 c2 : Nat) (xs ys : List Int)
    (ho : W.cell? ⟨Bo, 0, none⟩ = some (.func (.func 53) #[] #[])) (hr : W.cell? ⟨Br, 0, none⟩ = some (.slice (some ⟨g, 0, none⟩) q c))
    (ci : W.cell? ⟨g, i, none⟩ = some (.slice B1 n1 c1)) (cj : W.cell? ⟨g, j, none⟩ = some (.slice B2 n2 c2)) (r1 : RdL RI W B1 n1 xs) (r2 : RdL RI W B2 n2 ys) :
    Calls Tryz.prog 72 #[.int .i64 i, .int .i64 j, .pointer (some ⟨Bo, 0, none⟩), .pointer (some ⟨Br, 0, none⟩)] W fun e w' => e = .returned (.bool (lessT xs ys)) ∧ ∃ m, w' = W.drewN m := by
  have hi0 : (0 : Int) ≤ (i : Int) := by omega
  have hj0 : (0 : Int) ≤ (j : Int) := by omega
  have hi1 : (i : Int) < (q : Int) := by omega
  have hj1 : (j : Int) < (q : Int) := by omega
  have HL := less_cmp xs ys
  obtain ⟨cv, HCV⟩ : ∃ cv, Hid (cmpT xs ys = cv) := ⟨_, rfl⟩
  rw [HCV.out] at HL
  have HLL := Lib.hid HL
  clear HL
  have hC : Calls Tryz.prog 53 #[.slice B1 n1 c1, .slice B2 n2 c2] W.drew (Qt W.drew (.int .i64 cv)) := by
    have := compareTerms_any B1 B2 n1 n2 c1 c2 xs ys W.drew (r1.same stab_RI fun _ _ => rfl) (r2.same stab_RI fun _ _ => rfl)
    rw [HCV.out] at this
    exact this
  clear r1 r2
  have e1 := cmpEnter
  go_enter Tryz.func72, Tryz.ntmps72
  go_wp2
  go_region_held3 (fun w' => w'.cell? ⟨Bo, 0, none⟩ = some (.func (.func 53) #[] #[]) ∧ w'.cell? ⟨Br, 0, none⟩ = some (.slice (some ⟨g, 0, none⟩) q c) ∧ w'.cell? ⟨g, i, none⟩ = some (.slice B1 n1 c1) ∧ w'.cell? ⟨g, j, none⟩ = some (.slice B2 n2 c2)) (first | go_keep | exact ⟨ho, hr, ci, cj⟩) (first | (go_at_fn 53; refine hC.mono ?_; rintro e w' ⟨rfl, m, rfl⟩))
  all_goals
    go_wp2
    go_ret
    exact ⟨ret_bool HLL.out, m + 1, by simp [World.drewN, Nat.add_comm, Nat.add_left_comm]⟩

/-! ## The sort of a matrix of the call's own -/
noncomputable def eT : TypeInfo := (Tryz.prog.info? 25).get (by kernel_rfl)
theorem eT_K (n : Nat) (h2 : 2 ≤ n) : Lib.swapperK n eT 23 = 9 := by
  have a : eT.hasPointers = true := by kernel_rfl
  have b : eT.bytes = 24 := by kernel_rfl
  have c : (n == 0) = false := by simp; omega
  have d : (n == 1) = false := by simp; omega
  simp [Lib.swapperK, a, b, c, d]
noncomputable def sT : TypeInfo := (Tryz.prog.info? 24).get (by kernel_rfl)
/-- sort.SliceStable at two elements or more. -/
theorem sliceStable_s {α : Type} [Inhabited α] {enc : α → Value} {lt : α → α → Bool} (hO : SWO lt) (h1 : ∀ x, (enc x).oneCell' = true) (lb : Array Value) (blk off c : Nat) (d : Array α) (h2 : 2 ≤ d.size) (hsm : d.size ≤ 1099511627776) (w : World)
    (hless : LessReads Tryz.prog 72 lb enc lt blk off d.size w) (hH : Holds enc w blk off d) (hblk : blk < w.heap.size) :
    Calls Tryz.prog 71 #[.iface 24 (.slice (some ⟨blk, off, none⟩) d.size c), .func (.func 72) #[] lb] w fun e w' =>
      e = .returned (.tuple #[]) ∧ ∃ d', SW enc w blk off d' w' ∧ PermIn 0 d.size d d' ∧ SortedIn lt 0 d.size d' := by
  have key := Any.sort_SliceStable_of_stable Tryz.laysGt8 24 25 sT eT (by kernel_rfl) (by kernel_rfl) (by kernel_rfl) (by kernel_rfl) 23 (fun _ => by kernel_rfl) (some ⟨blk, off, none⟩) d.size c (by omega) 95 (by rw [eT_K _ h2]; kernel_rfl) (.func 72) #[] lb w
    (fun w' => ∃ d', SW enc w blk off d' w' ∧ PermIn 0 d.size d d' ∧ SortedIn lt 0 d.size d') ?_
  · exact key
  have hB : sliceBound Tryz.prog 25 eT 23 (some ⟨blk, off, none⟩) d.size c = #[.slice (some ⟨blk, off, none⟩) d.size c, typeHandle Tryz.prog 25] := by
    unfold sliceBound; rw [if_neg (swapperK_gt _ _ _ h2)]
  obtain ⟨os0, hW⟩ : ∃ os0, stableWorld Tryz.prog Tryz.laysGt8_ren 24 (some ⟨blk, off, none⟩) d.size c w = grow w os0 := ⟨_, by unfold stableWorld; rw [alloc_eq_grow, alloc_eq_grow, grow_grow]⟩
  rw [hB, hW]
  have S0 : SW enc w blk off d (grow w os0) := ⟨0, os0, by unfold sortWorld; rw [show putRow enc (Sort.ahead w 0) blk off d = w from putRow_self _ _ _ _ _ hH]⟩
  have C : SCtx Tryz.prog enc lt 72 lb 95 #[.slice (some ⟨blk, off, none⟩) d.size c, typeHandle Tryz.prog 25] blk off d (grow w os0) :=
    ⟨lessEnter, hless.grow hblk os0, swapSwaps_of_literal (P := Tryz.prog) _ 95 (fun args W => run_callFunc_extern (by first | exact Tryz.func95) (by kernel_rfl) (by kernel_rfl) (by kernel_rfl) (e := Extern.ReflectliteSwapper.swap false) (by kernel_rfl) args W) 25 eT (by kernel_rfl) (by kernel_rfl) (fun _ => by kernel_rfl) enc h1 blk off d.size c,
      holds_grow enc w _ blk off d hblk hH, by rw [size_grow]; omega, by omega⟩
  exact (stable_s (P := Tryz.prog) (ρ := Tryz.laysGt8_ren) hO { Tryz.laysGt8 with } C hsm).mono fun _ _ ⟨e1, d', S', P', Q'⟩ => ⟨e1, d', swTr S0 S' hblk P'.1, P', Q'⟩

theorem own_neR {w : World} {lo g : Nat} {v : Value} {n cap m : Nat} {xs ys : List Value} (h : w.ownsRow lo 3 1 v n xs) (h' : w.ownsRow lo 25 1 (.slice (some ⟨g, 0, none⟩) m cap) m ys) : ∀ b, v.ownBlock = some b → b ≠ g := by
  intro b hb e
  subst e
  rcases h.2 with ⟨rfl, -⟩ | ⟨g1, cap1, cur1, rfl, -, hh, -⟩
  · simp [Value.ownBlock] at hb
  · have : g1 = b := by simpa [Value.ownBlock] using hb
    subst this
    rcases h'.2 with ⟨h0, -⟩ | ⟨g2, cap2, cur2, hv, -, hh2, -⟩
    · cases h0
    · injection hv with hA _ _
      injection hA with hA
      injection hA with hA
      subst hA
      rw [hh] at hh2
      injection hh2 with hh2
      injection hh2 with _ h5
      exact absurd h5 (by decide)
/-- What the sort hands back. -/
def SrtE (lo : Nat) (w : World) (A : Option Addr) (q c : Nat) (xss : List (List Int)) (e : Ending) (w' : World) : Prop :=
  e = .returned (.tuple #[]) ∧ ∃ yss, OwM 25 3 (.int .i64) lo w' (.slice A q c) q yss ∧ yss.Perm xss ∧ yss.Pairwise (fun p r => lessT r p = false) ∧ Below lo w w'
set_option maxRecDepth 100000 in
set_option maxHeartbeats 4000000 in
theorem sortBig (lo g c q : Nat) (xss : List (List Int)) (w W2 : World) (Bo Br : Nat) (hM : OwM 25 3 (.int .i64) lo w (.slice (some ⟨g, 0, none⟩) q c) q xss) (hlo : lo ≤ w.heap.size) (hbd : ∀ xs ∈ xss, ∀ x ∈ xs, ∀ wz : World, RI wz (.int .i64 x) x) (h2 : 2 ≤ q) (hq : q ≤ 1000)
    (T2 : Below w.heap.size w W2) (ho : W2.cell? ⟨Bo, 0, none⟩ = some (.func (.func 53) #[] #[])) (hr : W2.cell? ⟨Br, 0, none⟩ = some (.slice (some ⟨g, 0, none⟩) q c)) (hBo : Bo ≠ g) (hBr : Br ≠ g) :
    Calls Tryz.prog 71 #[.iface 24 (.slice (some ⟨g, 0, none⟩) q c), .func (.func 72) #[] #[.pointer (some ⟨Bo, 0, none⟩), .pointer (some ⟨Br, 0, none⟩)]] W2 (SrtE lo w (some ⟨g, 0, none⟩) q c xss) := by
  obtain ⟨vs, m1, m2, m3, m4⟩ := hM
  have hl : vs.length = q := by have := m1.1; simpa using this
  have hzl : (vs.zip xss).length = q := by rw [List.length_zip, m2, Nat.min_self, ← m2, hl]
  have hx : ∀ t ∈ vs.zip xss, ∃ k, vs[k]? = some t.1 ∧ xss[k]? = some t.2 := fun t ht => by
    obtain ⟨k, hk, e⟩ := List.getElem_of_mem ht
    rw [List.getElem_zip] at e
    have k1 : k < vs.length := by rw [List.length_zip] at hk; omega
    have k2 : k < xss.length := by rw [List.length_zip] at hk; omega
    exact ⟨k, by rw [← e]; exact List.getElem?_eq_getElem k1, by rw [← e]; exact List.getElem?_eq_getElem k2⟩
  have good : ∀ t ∈ vs.zip xss, ∃ B n c', t.1 = .slice B n c' ∧ RdL RI w B n t.2 ∧ (∀ b o, B = some ⟨b, o, none⟩ → b ≠ g) ∧ w.ownsRow lo 3 1 t.1 t.2.length (t.2.map (.int .i64)) := fun t ht => by
    obtain ⟨k, k1, k2⟩ := hx t ht
    have ho := m3 k _ _ k1 k2
    obtain ⟨B, c', e⟩ := own_slice ho
    have hne := own_neR ho m1
    rw [e] at ho
    refine ⟨B, t.2.length, c', e, rd_of_own (R := RI) ho fun x hx' => hbd _ (List.mem_of_getElem? k2) x hx' w, fun b o hB => ?_, by rw [e]; exact ho⟩
    rcases ho.2 with ⟨h0, -⟩ | ⟨g1, cap1, cur1, hv, -⟩
    · injection h0 with h0 _ _
      rw [h0] at hB
      cases hB
    · injection hv with hA _ _
      rw [hA] at hB
      injection hB with hB
      injection hB with hB _
      subst hB
      exact hne g1 (by rw [e, hA]; rfl)
  let α := {t : Value × List Int // t ∈ vs.zip xss}
  have h0 : 0 < (vs.zip xss).length := by omega
  letI : Inhabited α := ⟨⟨(vs.zip xss)[0], List.getElem_mem h0⟩⟩
  let enc : α → Value := fun t => t.1.1
  let lt : α → α → Bool := fun x y => lessT x.1.2 y.1.2
  let d : Array α := (vs.zip xss).attach.toArray
  have hds : d.size = q := by show ((vs.zip xss).attach.toArray).size = q; simp [hl, ← m2]
  have hd : ∀ j, j < q → ∃ (hj : j < (vs.zip xss).length), (d[j]!).1 = (vs.zip xss)[j] := fun j hj => by
    refine ⟨by omega, ?_⟩
    rw [getElem!_pos d j (by rw [hds]; exact hj)]
    show ((vs.zip xss).attach.toArray[j]'_).1 = _
    simp
  have ROW2 := own_next m1 T2
  rw [← hl] at ROW2
  have hblk : g < W2.heap.size := by
    have := (m1.lt g rfl).2
    have := T2.size
    omega
  have hH : Holds enc W2 g 0 d := fun j hj => by
    rw [hds] at hj
    obtain ⟨hj', e⟩ := hd j hj
    refine ⟨?_, ROW2.frozenAt _⟩
    rw [ROW2.cellAt _ (by omega), Nat.zero_add]
    show vs[j]? = some (d[j]!).1.1
    rw [e, List.getElem_zip]
    exact List.getElem?_eq_getElem (by omega)
  have hless : LessReads Tryz.prog 72 #[.pointer (some ⟨Bo, 0, none⟩), .pointer (some ⟨Br, 0, none⟩)] enc lt g 0 d.size W2 := by
    intro m os dk hs i j hi hj
    have hf : ∀ b k u, b ≠ g → W2.cell? ⟨b, k, none⟩ = some u → (sortWorld enc W2 g 0 m dk os).cell? ⟨b, k, none⟩ = some u := fun b k u hb hc => swCell ⟨m, os, rfl⟩ hb hc
    have hHd := holds_sortWorld enc W2 g 0 m d dk os hblk hH hs
    obtain ⟨B1, n1, c1, e1, r1, q1, -⟩ := good _ (dk[i]!).2
    obtain ⟨B2, n2, c2, e2, r2, q2, -⟩ := good _ (dk[j]!).2
    have ci := (hHd i (by omega)).1
    have cj := (hHd j (by omega)).1
    rw [Nat.zero_add] at ci cj
    have R1 := rd_frame (r1.next stab_RI T2) q1 hf
    have R2 := rd_frame (r2.next stab_RI T2) q2 hf
    exact less_rows g c q Bo Br _ i j (by omega) (by omega) (by omega) B1 B2 n1 c1 n2 c2 _ _ (hf _ _ _ hBo ho) (hf _ _ _ hBr hr) (by rw [ci]; show some (dk[i]!).1.1 = _; rw [e1]) (by rw [cj]; show some (dk[j]!).1.1 = _; rw [e2]) R1 R2
  have hO : SWO lt := lessT_swo fun t : α => t.1.2
  have key := sliceStable_s (enc := enc) (lt := lt) hO (fun t => by obtain ⟨B, n, c', e, -⟩ := good _ t.2; show t.1.1.oneCell' = true; rw [e]; rfl) #[.pointer (some ⟨Bo, 0, none⟩), .pointer (some ⟨Br, 0, none⟩)] g 0 c d (by omega) (by omega) W2 hless hH hblk
  rw [hds] at key
  refine key.mono ?_
  rintro e w' ⟨rfl, d', ⟨n, os, rfl⟩, P, Q⟩
  have hs' : d'.size = q := by rw [P.1, hds]
  have hperm : d'.toList.Perm d.toList := by
    have := P.2.2
    rwa [← hds, show d'.extract 0 d.size = d' by rw [← P.1]; simp, show d.extract 0 d.size = d by simp] at this
  have hdm1 : d.toList.map enc = vs := by
    apply List.ext_getElem
    · rw [List.length_map, Array.length_toList, hds, hl]
    · intro j h1' h2'
      have hj : j < q := by omega
      obtain ⟨hj', e⟩ := hd j hj
      rw [List.getElem_map]
      have : (d.toList[j]'(by simpa using h1')) = d[j]! := by rw [getElem!_pos d j (by omega)]; simp
      rw [this]
      show (d[j]!).1.1 = _
      rw [e, List.getElem_zip]
  have hdm2 : d.toList.map (fun t : α => t.1.2) = xss := by
    apply List.ext_getElem
    · rw [List.length_map, Array.length_toList, hds, ← m2, hl]
    · intro j h1' h2'
      have hj : j < q := by omega
      obtain ⟨hj', e⟩ := hd j hj
      rw [List.getElem_map]
      have : (d.toList[j]'(by simpa using h1')) = d[j]! := by rw [getElem!_pos d j (by omega)]; simp
      rw [this, e, List.getElem_zip]
  have hg2 := grownBy_sortedG (enc := enc) (w := W2) (g := g) (n := n) (os := os) d'
  have ROW3 := ownsRow_sortedG (enc := enc) (n := n) (os := os) (d := d') ROW2 (by rw [hs', hl])
  rw [hl] at ROW3
  refine ⟨rfl, d'.toList.map (fun t : α => t.1.2), ⟨d'.toList.map enc, ROW3, by simp, ?_, ?_⟩, ?_, ?_, ?_⟩
  · intro k u xs hu hxs
    rw [List.getElem?_map] at hu hxs
    cases hk : d'.toList[k]? with
    | none => rw [hk] at hu; cases hu
    | some t =>
      rw [hk] at hu hxs
      injection hu with hu
      injection hxs with hxs
      subst hu
      subst hxs
      obtain ⟨B, n1, c1, e1, -, -, ow⟩ := good _ t.2
      have hne := own_neR ow m1
      refine own_same (own_next ow T2) fun b hb => hg2.block b ?_ fun e => ?_
      · have := (ow.lt b hb).2
        have := T2.size
        omega
      · injection e with e
        exact hne b hb e
  · have := (hperm.map enc).filterMap Value.ownBlock
    rw [hdm1] at this
    exact this.nodup_iff.2 m4
  · have := hperm.map (fun t : α => t.1.2)
    rwa [hdm2] at this
  · rw [List.pairwise_iff_getElem]
    intro i j hi hj hij
    rw [List.length_map, Array.length_toList] at hi hj
    have := Q i j (Nat.zero_le _) hij (by omega)
    rw [getElem!_pos d' i hi, getElem!_pos d' j hj] at this
    simpa using this
  · have hT : Below lo w W2 := ⟨T2.os, T2.tape, T2.output, T2.size, fun b hb => T2.block b (by omega)⟩
    exact hT.grown hg2 (by have := T2.size; omega) fun k hk => by injection hk with hk; subst hk; exact (m1.lt g rfl).1

theorem sortTiny (lo q c : Nat) (A : Option Addr) (xss : List (List Int)) (w W2 : World) (lb : Array Value) (hM : OwM 25 3 (.int .i64) lo w (.slice A q c) q xss) (hlo : lo ≤ w.heap.size) (hq : q ≤ 1) (T2 : Below w.heap.size w W2) :
    Calls Tryz.prog 71 #[.iface 24 (.slice A q c), .func (.func 72) #[] lb] W2 (SrtE lo w A q c xss) := by
  have hxl : xss.length = q := by obtain ⟨vs, m1, m2, -⟩ := hM; rw [← m2]; have := m1.1; simpa using this
  have hlo2 : Below lo w W2 := ⟨T2.os, T2.tape, T2.output, T2.size, fun b hb => T2.block b (by omega)⟩
  have fin : ∀ os, SrtE lo w A q c xss (.returned (.tuple #[])) (grow W2 os) := fun os => by
    have hb : Below W2.heap.size W2 (grow W2 os) := ⟨rfl, rfl, rfl, by rw [size_grow]; omega, fun b hb => heap_grow_old _ _ hb⟩
    refine ⟨rfl, xss, (hM.next T2).next hb, List.Perm.refl _, ?_, hlo2.trans ⟨hb.os, hb.tape, hb.output, hb.size, fun b h => hb.block b (by have := T2.size; omega)⟩⟩
    match xss, hxl with
    | [], _ => exact List.Pairwise.nil
    | [p], _ => exact List.pairwise_singleton _ _
    | p :: r :: l, h => simp at h; omega
  rcases Nat.lt_or_ge q 1 with h | h
  · obtain rfl : q = 0 := by omega
    exact (Any.sort_SliceStable_tiny (P := Tryz.prog) Tryz.laysGt8 24 25 sT eT (by kernel_rfl) (by kernel_rfl) (by kernel_rfl) (by kernel_rfl) 23 (fun _ => by kernel_rfl) A 0 c (by omega) 87 (by kernel_rfl) (.func 72) #[] lb W2).mono fun _ _ ⟨e1, os, e2⟩ => by rw [e1, e2]; exact fin os
  · obtain rfl : q = 1 := by omega
    exact (Any.sort_SliceStable_tiny (P := Tryz.prog) Tryz.laysGt8 24 25 sT eT (by kernel_rfl) (by kernel_rfl) (by kernel_rfl) (by kernel_rfl) 23 (fun _ => by kernel_rfl) A 1 c (by omega) 88 (by kernel_rfl) (.func 72) #[] lb W2).mono fun _ _ ⟨e1, os, e2⟩ => by rw [e1, e2]; exact fin os
set_option maxRecDepth 100000 in
set_option maxHeartbeats 4000000 in
theorem sortRows_any (lo : Nat) (A : Option Addr) (c q : Nat) (xss : List (List Int)) (w : World) (hM : OwM 25 3 (.int .i64) lo w (.slice A q c) q xss) (hlo : lo ≤ w.heap.size) (hbd : ∀ xs ∈ xss, ∀ x ∈ xs, ∀ wz : World, RI wz (.int .i64 x) x) (hq : q ≤ 1000) :
    Calls Tryz.prog 52 #[.slice A q c, .func (.func 53) #[] #[]] w (SrtE lo w A q c xss) := by
  obtain ⟨w2, hw2⟩ : ∃ w2, w2 = (w.alloc (.cells #[.slice A q c] 24)).alloc (.cells #[.func (.func 53) #[] #[]] 69) := ⟨_, rfl⟩
  have T2 : Below w.heap.size w w2 := by rw [hw2]; exact (below_box w _).trans ⟨rfl, rfl, rfl, by simp, fun b hb => by rw [Below.heap_alloc _ _ b (by simp; omega)]⟩
  have hr : w2.cell? ⟨w.heap.size, 0, none⟩ = some (.slice A q c) := by rw [hw2]; exact cell_new2 _ _ rfl
  have ho : w2.cell? ⟨w.heap.size + 1, 0, none⟩ = some (.func (.func 53) #[] #[]) := by rw [hw2]; exact cell_new _ (by simp)
  have key : Calls Tryz.prog 71 #[.iface 24 (.slice A q c), .func (.func 72) #[] #[.pointer (some ⟨w.heap.size + 1, 0, none⟩), .pointer (some ⟨w.heap.size, 0, none⟩)]] w2 (SrtE lo w A q c xss) := by
    rcases Nat.lt_or_ge 1 q with h | h
    · obtain ⟨g, hA, hg⟩ : ∃ g, A = some ⟨g, 0, none⟩ ∧ g < w.heap.size := by
        obtain ⟨vs, m1, -⟩ := hM
        rcases m1.2 with ⟨h0, h1⟩ | ⟨g, cap, cur, hv, hbs, hb, -⟩
        · omega
        · injection hv with hA _ _
          exact ⟨g, hA, (Array.getElem?_eq_some_iff.1 hb).1⟩
      subst hA
      exact sortBig lo g c q xss w w2 _ _ hM hlo hbd h hq T2 ho hr (by omega) (by omega)
    · exact sortTiny lo q c A xss w w2 _ hM hlo h T2
  have HW := Lib.hid hw2
  clear hw2 hr ho T2
  go_enter Tryz.func52, Tryz.ntmps52
  go_wp2_with fail
  rw [← HW.out]
  go_wp2_with (go_at_call 71; refine key.mono ?_; rintro e w' ⟨rfl, H⟩)
  go_end0
  exact ⟨rfl, H⟩
end Go.Proofs.YtlncpabnlnipoaaGreat
