
/- The harness's marks: each place of a result gets a number of its own, and is asked whether it still holds it. []int and [][]int. -/
import Derived.Test.YtidjocikbmkjbaaGreatInts
import Derived.Test.YtidjocikbmkjbaaGreatMem
import Derived.ProofKit
import Derived.OpenShut
import Derived.Lib.SmallJoins
import Derived.Deep.Slices
namespace Go.Proofs.YtidjocikbmkjbaaGreat
open Go.RowKit

/-- Of the blocks that there were, only some from lo on and below hi have turned. -/
structure Chg (lo hi : Nat) (w w' : World) : Prop where
  os : w'.os = w.os
  tape : w'.tape = w.tape
  output : w'.output = w.output
  size : w.heap.size ≤ w'.heap.size
  block : ∀ b, b < w.heap.size → (b < lo ∨ hi ≤ b) → w'.heap[b]? = w.heap[b]?
theorem Chg.below {lo hi B : Nat} {w w' : World} (h : Chg lo hi w w') (hB : B ≤ lo) (hBw : B ≤ w.heap.size) : Below B w w' :=
  ⟨h.os, h.tape, h.output, h.size, fun k hk => h.block k (by omega) (.inl (by omega))⟩
theorem Chg.refl (lo hi : Nat) (w : World) : Chg lo hi w w := ⟨rfl, rfl, rfl, Nat.le_refl _, fun _ _ _ => rfl⟩
theorem Chg.trans {lo hi : Nat} {a b c : World} (h : Chg lo hi a b) (k : Chg lo hi b c) : Chg lo hi a c :=
  ⟨k.os.trans h.os, k.tape.trans h.tape, k.output.trans h.output, Nat.le_trans h.size k.size, fun i hi hh => (k.block i (Nat.lt_of_lt_of_le hi h.size) hh).trans (h.block i hi hh)⟩
theorem Chg.ofBelow {lo hi B : Nat} {w w' : World} (h : Below B w w') (hB : w.heap.size ≤ B) : Chg lo hi w w' :=
  ⟨h.os, h.tape, h.output, h.size, fun k hk _ => h.block k (by omega)⟩
theorem Chg.mono {lo hi lo' hi' : Nat} {w w' : World} (h : Chg lo hi w w') (h1 : lo' ≤ lo) (h2 : hi ≤ hi') : Chg lo' hi' w w' :=
  ⟨h.os, h.tape, h.output, h.size, fun k hk hh => h.block k hk (by omega)⟩
theorem Chg.grown {lo hi g : Nat} {w w' : World} (h : w.grownBy w' (some g)) (h1 : lo ≤ g) (h2 : g < hi) : Chg lo hi w w' :=
  ⟨h.os, h.tape, h.output, h.size, fun k hk hh => h.block k hk (by simp; omega)⟩

/-- k, k + 1, .. : n numbers. -/
def nums (k : Int) : Nat → List Int
  | 0 => []
  | n + 1 => k :: nums (k + 1) n
theorem nums_len : ∀ (n : Nat) (k : Int), (nums k n).length = n
  | 0, _ => rfl
  | n + 1, k => by simp [nums, nums_len n]
theorem nums_get : ∀ (n : Nat) (k : Int) (j : Nat), j < n → (nums k n)[j]? = some (k + j)
  | 0, _, j, h => absurd h (by omega)
  | n + 1, k, 0, _ => by simp [nums]
  | n + 1, k, j + 1, h => by
    rw [nums, List.getElem?_cons_succ, nums_get n (k + 1) j (by omega)]
    congr 1
    omega
theorem nums_bounds {n : Nat} {k : Int} (h0 : 0 ≤ k) (h1 : k + n ≤ 4611686018427387904) : ∀ x ∈ nums k n, -9223372036854775808 ≤ x ∧ x ≤ 9223372036854775807 := by
  intro x hx
  obtain ⟨j, hj⟩ := List.getElem?_of_mem hx
  have hl := (List.getElem?_eq_some_iff.1 hj).1
  rw [nums_len] at hl
  rw [nums_get n k j hl] at hj
  injection hj with hj
  omega
/-- The first j places marked, the others as they were. -/
def markTo (k : Int) (xs : List Int) (j : Nat) : List Int := (nums k xs.length).take j ++ xs.drop j
theorem markTo_set {k : Int} {xs : List Int} {j : Nat} (h : j < xs.length) : (ints (markTo k xs j)).set j (.int .i64 (k + j)) = ints (markTo k xs (j + 1)) := by
  have l1 : ((nums k xs.length).take j).length = j := by rw [List.length_take, nums_len]; omega
  unfold ints
  rw [← List.map_set]
  unfold markTo
  rw [List.set_append_right _ _ (by omega), l1, Nat.sub_self, List.drop_eq_getElem_cons h, List.set_cons_zero, List.take_add_one, nums_get _ _ _ h]
  simp

set_option maxHeartbeats 400000 in
theorem markIntS_any (A : Option Addr) (n c : Nat) (xs : List Int) (k : Int) (lo : Nat) (w : World) (h : w.ownsRow lo 3 1 (.slice A n c) n (ints xs)) (h0 : 0 ≤ k) (h1 : k + n ≤ 4611686018427387904) :
    Calls Tryz.prog 16 #[.slice A n c, .int .i64 k] w fun e w' => e = .returned (.int .i64 (k + n)) ∧ w'.ownsRow lo 3 1 (.slice A n c) n (ints (nums k n)) ∧ w.grownBy w' (Value.slice A n c).ownBlock := by
  have hlen := Lib.hid (show xs.length = n by have := h.1; simpa [ints] using this)
  go_enter Tryz.func16, Tryz.ntmps16
  go_wp2
  go_loopw [1, 5] (fun q i wr => ∃ j : Nat, j ≤ n ∧ i = .int .i64 j ∧ q = .int .i64 (k + j) ∧ wr.ownsRow lo 3 1 (.slice A n c) n (ints (markTo k xs j)) ∧ w.grownBy wr (Value.slice A n c).ownBlock) (fun _ i _ => n - (intOf i).toNat)
  case atStart => exact ⟨0, Nat.zero_le _, rfl, by simp, by simpa [markTo] using h, World.grownBy.refl _ _⟩
  case round =>
    obtain ⟨j, hj, rfl, rfl, hown, hg⟩ := hrel
    by_cases hlt : j < n
    · obtain ⟨g, hA, -, -⟩ : ∃ g, A = some ⟨g, 0, none⟩ ∧ lo ≤ g ∧ n ≤ c := by
        rcases hown.2 with ⟨_, h0⟩ | ⟨g, cap, cur, hv, hb, _, hnc, _⟩
        · omega
        · injection hv with hA _ hc
          exact ⟨g, hA, hb, by omega⟩
      subst hA
      obtain ⟨u, hu⟩ : ∃ u, (ints (markTo k xs j))[j]? = some u := by
        have hl := hown.1
        exact ⟨_, List.getElem?_eq_getElem (by omega)⟩
      have hcell := (hown.cellAt j (by omega)).trans hu
      have hfz : wr.frozen? ⟨g, j, none⟩ = false := hown.frozenAt j
      obtain ⟨hst, hgr⟩ := hown.stored j (.int .i64 (k + j))
      rw [markTo_set (by rw [hlen.out]; exact hlt)] at hst
      have hg2 : w.grownBy (wr.setCell ⟨g, j, none⟩ (.int .i64 (k + j))) (some g) :=
        ⟨hgr.os.trans hg.os, hgr.tape.trans hg.tape, hgr.output.trans hg.output, Nat.le_trans hg.size hgr.size, fun b hb hne => (hgr.block b (Nat.lt_of_lt_of_le hb hg.size) hne).trans (hg.block b hb hne)⟩
      clear hu hgr hg hown
      go_wp2
      go_roundw
      case rel => exact ⟨j + 1, by omega, by go_num, by rw [show k + (j : Int) + 1 = k + ((j + 1 : Nat) : Int) from by omega], hst, hg2⟩
      case measure => simp [intOf]; omega
    · have hjn : j = n := by omega
      have HJ : Hid (markTo k xs j = nums k n) := by
        show _ = _
        unfold markTo
        rw [hlen.out, List.drop_eq_nil_of_le (by rw [hlen.out]; omega), List.append_nil, List.take_of_length_le (by rw [nums_len]; omega)]
      rw [HJ.out] at hown
      have HN := Lib.hid hjn
      clear hjn
      go_wp2
      go_ret
      exact ⟨ret_int (by rw [HN.out]), hown, hg⟩

set_option maxHeartbeats 400000 in
theorem heldIntS_any (A : Option Addr) (n c : Nat) (k : Int) (w : World) (h : RdL RI w A n (nums k n)) (h0 : 0 ≤ k) (h1 : k + n ≤ 4611686018427387904) :
    Calls Tryz.prog 36 #[.slice A n c, .int .i64 k] w fun e w' => e = .returned (.int .i64 (k + n)) ∧ w = w' := by
  have hle := h.le
  go_enter Tryz.func36, Tryz.ntmps36
  go_wp2
  go_loop [1, 5] (fun q i => ∃ j : Nat, j ≤ n ∧ i = .int .i64 j ∧ q = .int .i64 (k + j)) (fun _ i => n - (intOf i).toNat)
  case atStart => exact ⟨0, Nat.zero_le _, rfl, by simp⟩
  case round =>
    obtain ⟨j, hj, rfl, rfl⟩ := hrel
    by_cases hlt : j < n
    · obtain ⟨b, o, v, x, rfl, hc, ⟨rfl, -⟩, -, hx⟩ := h.at hlt
      have hxj : x = k + j := by rw [nums_get n k j hlt] at hx; injection hx with hx; exact hx.symm
      subst hxj
      clear hx
      have hne : (k + (j : Int) != k + (j : Int)) = false := by simp
      go_wp2
      go_round
      case rel => exact ⟨j + 1, by omega, by go_num, by rw [show k + (j : Int) + 1 = k + ((j + 1 : Nat) : Int) from by omega]⟩
      case measure => simp [intOf]; omega
    · have hjn : j = n := by omega
      have HN := Lib.hid hjn
      clear hjn
      go_wp2
      go_ret
      exact ⟨ret_int (by rw [HN.out]), rfl⟩

/-! ## [][]int -/
/-- A slice of slices of the call's own, its inner slices by name. -/
def OwMv {α : Type} (eo ei : TypeId) (f : α → Value) (lo : Nat) (w : World) (v : Value) (n : Nat) (vs : List Value) (xss : List (List α)) : Prop :=
  w.ownsRow lo eo 1 v n vs ∧ vs.length = xss.length ∧ (∀ (k : Nat) u xs, vs[k]? = some u → xss[k]? = some xs → w.ownsRow lo ei 1 u xs.length (xs.map f)) ∧ (vs.filterMap Value.ownBlock).Nodup
/-- The inner slices' blocks lie below hi. -/
def InHi (hi : Nat) (vs : List Value) : Prop := ∀ u ∈ vs, ∀ b, u.ownBlock = some b → b < hi
theorem nodup_blocks : ∀ {vs : List Value}, (vs.filterMap Value.ownBlock).Nodup → ∀ {i j : Nat} {u v : Value} {b : Nat}, vs[i]? = some u → vs[j]? = some v → u.ownBlock = some b → v.ownBlock = some b → i = j
  | [], _, i, j, u, v, b, hi, _, _, _ => by simp at hi
  | x :: l, h, i, j, u, v, b, hi, hj, hu, hv => by
    have mem : ∀ {k : Nat} {y : Value}, l[k]? = some y → y.ownBlock = some b → b ∈ l.filterMap Value.ownBlock := fun hk hy => List.mem_filterMap.2 ⟨_, List.mem_of_getElem? hk, hy⟩
    rw [List.filterMap_cons] at h
    match i, j with
    | 0, 0 => rfl
    | 0, j + 1 =>
      simp at hi hj
      subst hi
      rw [hu] at h
      exact absurd (mem hj hv) (List.nodup_cons.1 h).1
    | i + 1, 0 =>
      simp at hi hj
      subst hj
      rw [hv] at h
      exact absurd (mem hi hu) (List.nodup_cons.1 h).1
    | i + 1, j + 1 =>
      simp at hi hj
      have h' : (l.filterMap Value.ownBlock).Nodup := by
        cases hx : x.ownBlock with
        | none => rw [hx] at h; exact h
        | some c => rw [hx] at h; exact (List.nodup_cons.1 h).2
      rw [nodup_blocks h' hi hj hu hv]
section
variable {α : Type} {eo ei : TypeId} {f : α → Value} {lo hi : Nat} {w w' : World} {v : Value} {n : Nat} {vs : List Value} {xss : List (List α)}
theorem OwM.names (h : OwM eo ei f lo w v n xss) : ∃ vs, OwMv eo ei f lo w v n vs xss ∧ InHi w.heap.size vs := by
  obtain ⟨vs, h1, h2, h3, h4⟩ := h
  refine ⟨vs, ⟨h1, h2, h3, h4⟩, fun u hu b hb => ?_⟩
  obtain ⟨k, hk⟩ := List.getElem?_of_mem hu
  have hkl : k < xss.length := by rw [← h2]; exact (List.getElem?_eq_some_iff.1 hk).1
  exact ((h3 k u _ hk (List.getElem?_eq_getElem hkl)).lt b hb).2
theorem OwMv.own (h : OwMv eo ei f lo w v n vs xss) : OwM eo ei f lo w v n xss := ⟨vs, h⟩
theorem OwMv.next (h : OwMv eo ei f lo w v n vs xss) (hb : Below w.heap.size w w') : OwMv eo ei f lo w' v n vs xss :=
  ⟨own_next h.1 hb, h.2.1, fun k u xs hu hx => own_next (h.2.2.1 k u xs hu hx) hb, h.2.2.2⟩
theorem OwMv.mono {lo' : Nat} (h : OwMv eo ei f lo w v n vs xss) (hb : lo' ≤ lo) : OwMv eo ei f lo' w v n vs xss :=
  ⟨own_mono h.1 hb, h.2.1, fun k u xs hu hx => own_mono (h.2.2.1 k u xs hu hx) hb, h.2.2.2⟩
/-- What changes below lo and from hi on leaves it. -/
theorem OwMv.kept (h : OwMv eo ei f lo w v n vs xss) {lo' hi' : Nat} (hc : Chg lo' hi' w w') (h1 : hi' ≤ lo) : OwMv eo ei f lo w' v n vs xss :=
  ⟨own_same h.1 fun b hb => hc.block b (h.1.lt b hb).2 (.inr (by have := (h.1.lt b hb).1; omega)), h.2.1,
    fun k u xs hu hx => own_same (h.2.2.1 k u xs hu hx) fun b hb => hc.block b ((h.2.2.1 k u xs hu hx).lt b hb).2 (.inr (by have := ((h.2.2.1 k u xs hu hx).lt b hb).1; omega)), h.2.2.2⟩
theorem OwMv.setRow (hne : eo ≠ ei) (h : OwMv eo ei f lo w v n vs xss) {j : Nat} {u : Value} {ys : List α} (hj : vs[j]? = some u) (hg : w.grownBy w' u.ownBlock) (hu : w'.ownsRow lo ei 1 u ys.length (ys.map f)) : OwMv eo ei f lo w' v n vs (xss.set j ys) := by
  have hjl : j < xss.length := by rw [← h.2.1]; exact (List.getElem?_eq_some_iff.1 hj).1
  have hold := h.2.2.1 j u _ hj (List.getElem?_eq_getElem hjl)
  refine ⟨own_same h.1 fun b hb => hg.block b (h.1.lt b hb).2 (fun e => own_ne hold h.1 hne.symm e.symm hb), by rw [List.length_set]; exact h.2.1, fun k u' xs hk hx => ?_, h.2.2.2⟩
  by_cases e : k = j
  · subst e
    rw [hj] at hk
    injection hk with hk
    subst hk
    rw [List.getElem?_set_self hjl] at hx
    injection hx with hx
    subst hx
    exact hu
  · rw [List.getElem?_set_ne (fun e' => e e'.symm)] at hx
    have ho := h.2.2.1 k u' xs hk hx
    exact own_same ho fun b hb => hg.block b (ho.lt b hb).2 (fun e' => e (nodup_blocks h.2.2.2 hk hj hb e'.symm))
end
def numss (k : Int) : List (List Int) → List (List Int)
  | [] => []
  | xs :: l => nums k xs.length :: numss (k + xs.length) l
def total : List (List Int) → Nat
  | [] => 0
  | xs :: l => xs.length + total l
/-- Marked as far as the j-th row, the next number being k. -/
def MarkAt (k0 : Int) (xss yss : List (List Int)) (j : Nat) (k : Int) : Prop := yss.take j ++ numss k (xss.drop j) = numss k0 xss ∧ yss.drop j = xss.drop j ∧ yss.length = xss.length ∧ k + total (xss.drop j) = k0 + total xss ∧ k0 ≤ k
theorem MarkAt.start (k0 : Int) (xss : List (List Int)) : MarkAt k0 xss xss 0 k0 := ⟨by simp, rfl, rfl, by simp, Int.le_refl _⟩
theorem MarkAt.step {k0 k : Int} {xss yss : List (List Int)} {j : Nat} (h : MarkAt k0 xss yss j k) (hj : j < xss.length) : MarkAt k0 xss (yss.set j (nums k (xss[j]).length)) (j + 1) (k + (xss[j]).length) := by
  obtain ⟨h1, h2, h3, h4, h5⟩ := h
  have hjy : j < yss.length := by omega
  have hd := List.drop_eq_getElem_cons hj
  refine ⟨?_, ?_, by simp [h3], ?_, by omega⟩
  · rw [← h1, hd, numss, List.take_add_one, List.getElem?_set_self hjy, List.take_set_of_le (Nat.le_refl j)]
    simp
  · rw [List.drop_set_of_lt (by omega)]
    have e1 : (yss.drop j).drop 1 = (xss.drop j).drop 1 := by rw [h2]
    simpa [List.drop_drop] using e1
  · rw [hd, total] at h4
    omega
theorem MarkAt.done {k0 k : Int} {xss yss : List (List Int)} {j : Nat} (h : MarkAt k0 xss yss j k) (hj : xss.length ≤ j) : yss = numss k0 xss ∧ k = k0 + total xss := by
  obtain ⟨h1, h2, h3, h4, h5⟩ := h
  rw [List.drop_eq_nil_of_le hj, numss, List.append_nil, List.take_of_length_le (by omega)] at h1
  rw [List.drop_eq_nil_of_le hj, total] at h4
  exact ⟨h1, by omega⟩
theorem total_drop (xss : List (List Int)) {j : Nat} (hj : j < xss.length) : (xss[j]).length + total (xss.drop (j + 1)) = total (xss.drop j) := by
  rw [List.drop_eq_getElem_cons hj, total]


def HeldAt (k0 : Int) (xss : List (List Int)) (j : Nat) (k : Int) : Prop := numss k (xss.drop j) = (numss k0 xss).drop j ∧ k + total (xss.drop j) = k0 + total xss ∧ k0 ≤ k
theorem HeldAt.start (k0 : Int) (xss : List (List Int)) : HeldAt k0 xss 0 k0 := ⟨rfl, rfl, Int.le_refl _⟩
theorem HeldAt.step {k0 k : Int} {xss : List (List Int)} {j : Nat} (h : HeldAt k0 xss j k) (hj : j < xss.length) : (numss k0 xss)[j]? = some (nums k (xss[j]).length) ∧ HeldAt k0 xss (j + 1) (k + (xss[j]).length) := by
  obtain ⟨h1, h2, h3⟩ := h
  have hd := List.drop_eq_getElem_cons hj
  rw [hd, numss] at h1
  rw [hd, total] at h2
  refine ⟨?_, ?_, by omega, by omega⟩
  · have := congrArg (fun l => l[0]?) h1
    simpa [List.getElem?_drop] using this.symm
  · have := congrArg (fun l => l.drop 1) h1
    simpa [List.drop_drop] using this
theorem numss_len : ∀ (k : Int) (xss : List (List Int)), (numss k xss).length = xss.length
  | _, [] => rfl
  | k, xs :: l => by simp [numss, numss_len]

end Go.Proofs.YtidjocikbmkjbaaGreat
namespace Go.Proofs.YtidjocikbmkjbaaGreat
open Go.ChangeShapes Go.WideShapes Go.ChangeAt Go.RowKit Go.Joins Go.Deep
section
variable {H : Type} {enc : TypeId × Value → H} {P : Program} {w : World}
/-- Whatever reads as data of type t is something that R speaks of. -/
def Opens {α : Type} (enc : TypeId × Value → H) (P : Program) (w : World) (t : TypeId) (R : World → Value → α → Prop) : Prop :=
  ∀ (fuel : Nat) (v : Value) (y : DataW H × List MemPlace), DataW.trod enc P w 0 (fun _ => true) true fuel t [v] = some y → ∃ x, R w v x
theorem opens_int {t : TypeId} (ht : P.underlying t = some (.int .i64)) : Opens enc P w t RI := fun fuel v y h => by
  obtain ⟨n, e, -, hw⟩ := DataW.trod_int ht h
  simp at e
  subst e
  have := bounds_i64 hw
  exact ⟨n, rfl, by omega, by omega⟩
theorem opens_bool {t : TypeId} (ht : P.underlying t = some .bool) : Opens enc P w t RB := fun fuel v y h => by
  obtain ⟨n, e, -⟩ := DataW.trod_bool ht h
  simp at e
  exact ⟨n, e⟩
theorem opens_string {t : TypeId} (ht : P.underlying t = some .string) : Opens enc P w t RS := fun fuel v y h => by
  obtain ⟨s, e, -, hs⟩ := DataW.trod_string ht h
  simp at e
  exact ⟨s, e, hs⟩
/-- A slice that comes in, with its capacity. -/
def RVc {α : Type} (R : World → Value → α → Prop) (w : World) (v : Value) (xs : List α) : Prop := ∃ A n c, v = .slice A n c ∧ n ≤ c ∧ RdL R w A n xs
theorem opens_slice {α : Type} {R : World → Value → α → Prop} {t e : TypeId} (ht : P.underlying t = some (.slice e)) (hc : P.cellsOf e = 1) (he : Opens enc P w e R) : Opens enc P w t (RVc R) := fun fuel v y h => by
  rcases open_slice1 ht hc h with ⟨e, -⟩ | ⟨a, len, cap, m, n, V, D, Pl, e, -, hl, hm, hmm, -, hx⟩
  · simp at e
    exact ⟨[], none, 0, 0, e, Nat.le_refl _, RdL.nil _ _ _⟩
  · simp at e
    simp only [if_true] at hmm
    subst hmm
    have hch : ∀ k, k < len → ∃ x, R w (V k) x := fun k hk => he n (V k) _ (hx k (by omega)).2
    obtain ⟨xs, hxl, hxp⟩ : ∃ l : List α, l.length = len ∧ ∀ (k : Nat) x, l[k]? = some x → R w (V k) x := by
      clear hx hl hm e
      induction len with
      | zero => exact ⟨[], rfl, fun k x hx => by simp at hx⟩
      | succ len ih =>
        obtain ⟨l, hl, hp⟩ := ih fun k hk => hch k (by omega)
        obtain ⟨x, hx⟩ := hch len (by omega)
        refine ⟨l ++ [x], by simp [hl], fun k y hy => ?_⟩
        by_cases hk : k < len
        · rw [List.getElem?_append_left (by omega)] at hy
          exact hp k y hy
        · have hk2 := (List.getElem?_eq_some_iff.1 hy).1
          simp at hk2
          have hkn : k = len := by omega
          subst hkn
          rw [List.getElem?_append_right (by omega), hl, Nat.sub_self] at hy
          simp at hy
          subst hy
          exact hx
    refine ⟨xs, some a, len, m, e, hl, hxl, by omega, fun k x hk => ?_⟩
    have hkl : k < len := by rw [← hxl]; exact (List.getElem?_eq_some_iff.1 hk).1
    have hc0 := (hx k (by omega)).1
    have hspot : a.spot = none := by
      have h0 := (hx 0 (by omega)).1
      have := World.cell?_spot h0
      simpa [Addr.add] using this
    obtain ⟨b, o, spot⟩ := a
    simp only at hspot
    subst hspot
    refine ⟨b, o, V k, rfl, ?_, hxp k x hk⟩
    have ea : (⟨b, o, none⟩ : Addr).add k = ⟨b, o + k, none⟩ := by
      unfold Addr.add
      split
      · rename_i h0; subst h0; rfl
      · rfl
    rw [← ea]
    exact hc0
/-- A slice without its capacity. -/
theorem Opens.bare {α : Type} {R : World → Value → α → Prop} {t : TypeId} (h : Opens enc P w t (RVc R)) : Opens enc P w t (RV R) := fun fuel v y hh => by
  obtain ⟨xs, A, n, c, e, -, hr⟩ := h fuel v y hh
  exact ⟨xs, A, n, c, e, hr⟩
end
theorem array1 {α : Type} {cs : Array α} (h : cs.size = 1) : ∃ c0, cs = #[c0] := by
  obtain ⟨l⟩ := cs
  match l, h with
  | [c0], _ => exact ⟨c0, rfl⟩
/-- A struct of one field of one cell, by value, opened. -/
theorem open_agg1 {H : Type} {enc : TypeId × Value → H} {P : Program} {w : World} {base : Nat} {spare : Nat → Bool} {held : Bool} {r : Reach} {b0 : Nat} {t : TypeId} {f0 : Field} {v : Value} {d : DataW H} {p : List MemPlace} (hs : P.underlying t = some (.struct #[f0])) (hone : oneCellFields P #[f0] = true) (hC : P.cellsOf t = 1)
    (hv : Value.okWide P w r b0 t v) (h : DataW.Trod enc P w base spare held t v d p) :
    ∃ (v0 : Value) (y0 : DataW H × List MemPlace) (n : Nat), v = .agg #[v0] ∧ d = .agg [y0.1] ∧ p = y0.2 ∧ DataW.trod enc P w base spare held n f0.type [v0] = some y0 := by
  obtain ⟨cs, rfl, hsz⟩ := okWide_struct hs hv
  obtain ⟨c0, rfl⟩ := array1 (hsz.trans hC)
  obtain ⟨fuel, hf⟩ := h
  obtain ⟨y0, n, hx, _, h0⟩ := trod_struct1 hs hf
  obtain ⟨o0, k0⟩ := hone_of hone 0 f0 rfl
  simp only [Prod.mk.injEq] at hx
  exact ⟨c0, y0, n, rfl, hx.1, hx.2, by simpa [Value.cells, o0, k0] using h0⟩
end Go.Proofs.YtidjocikbmkjbaaGreat
